import Derived.Test.YtbjanihblffmoaaDoorBytes
import Derived.Test.YtbjanihblffmoaaDoorPk
import Derived.RegionTactic
import Derived.ChangeAlike
import Derived.Deep.QuietTactic
import Derived.BigQuiet
import Derived.Deep.RegionHeld3
import Derived.Deep.DeepCutAuto
import Derived.StillTailTactics
/-! pack.Read. -/
namespace Go.Proofs.YtbjanihblffmoaaDoor
open Go.RowKit
set_option linter.unusedVariables false
set_option linter.unusedSimpArgs false
theorem abs_b {P : Program} {c : Code} {Q : Exit → Act → World → Prop} {a : Act} {W : World} (S : World → Prop) (h : S W) (k : ∀ wq, S wq → c.wp P Q a wq) : c.wp P Q a W := k W h
/-- a packet in memory -/
def PkMem (w : World) (g : Nat) (s t l lv : Int) (st : Bool) (bv : Value) : Prop := w.heap[g]? = some (.cells #[.int .i64 s, .int .i64 t, .int .i64 l, .int .i64 lv, .bool st, bv] 24 (0, 0))
namespace Pl
/-- what is wrong with bytes that are to be read as a packet -/
def headBad (a b : UInt8) : Bool := decide (131 < bits .andNot .u8 (a.toNat : Int) 32) || decide ((a.toNat : Int) < 128) || decide (127 < (b.toNat : Int))
theorem headBad_cases {a b : UInt8} (h : headBad a b = true) : 131 < bits .andNot .u8 (a.toNat : Int) 32 ∨ (bits .andNot .u8 (a.toNat : Int) 32 ≤ 131 ∧ (a.toNat : Int) < 128) ∨ (bits .andNot .u8 (a.toNat : Int) 32 ≤ 131 ∧ 128 ≤ (a.toNat : Int) ∧ 127 < (b.toNat : Int)) := by
  unfold headBad at h
  simp only [Bool.or_eq_true, decide_eq_true_eq] at h
  omega
theorem headBad_no {a b : UInt8} (h : headBad a b = false) : bits .andNot .u8 (a.toNat : Int) 32 ≤ 131 ∧ 128 ≤ (a.toNat : Int) ∧ (b.toNat : Int) ≤ 127 := by
  unfold headBad at h
  simp only [Bool.or_eq_false_iff, decide_eq_false_iff_not] at h
  omega
def readFault (l : List UInt8) : Int := if l.length < 8 then 8 else if headBad (l.getD 0 0) (l.getD 1 0) then 2 else if 1008 < l.length then 4 else 0
def rdLayer (a : UInt8) : Int := ((a &&& 3).toNat : Int)
def rdStart (a : UInt8) : Bool := (a &&& 32) != 0
end Pl
abbrev zeroPk : Value := pkV 0 0 0 0 false (.slice none 0 0)
set_option maxRecDepth 100000 in
set_option maxHeartbeats 2000000 in
theorem read_short (v : Value) (l : List UInt8) (w : World) (hv : IsBytes w v l) (h : l.length < 8) :
    Calls Tryd.prog 12 #[v] w fun e w' => e = .returned (.tuple #[zeroPk, .iface 48 (.int .i64 8)]) ∧ Below w.heap.size w w' := by
  obtain ⟨oa, c, rfl, hm⟩ := bytes_slice hv
  go_enter Tryd.func12, Tryd.ntmps12
  go_upto_region 1 with fail
  refine abs_b (fun y => PkMem y w.heap.size 0 0 0 0 false (.slice none 0 0) ∧ IsBytes y (.slice oa l.length c) l ∧ Hid (Below w.heap.size w y)) ⟨obj_new _ _, hv.below ((Below.refl _ _).alloc (Nat.le_refl _) _), Lib.hid ((Below.refl _ _).alloc (Nat.le_refl _) _)⟩ ?_
  clear hv
  have hN : ∃ N, N = w.heap.size := ⟨_, rfl⟩
  obtain ⟨N, hN⟩ := hN
  rw [← hN]
  have HN := Lib.hid hN
  clear hN
  rintro y ⟨hp, hv, kb⟩
  go_upto_region 2 with fail
  have p0 := obj_cell hp (k := 0) rfl
  have p1 := obj_cell hp (k := 1) rfl
  have p2 := obj_cell hp (k := 2) rfl
  have p3 := obj_cell hp (k := 3) rfl
  have p4 := obj_cell hp (k := 4) rfl
  have p5 := obj_cell hp (k := 5) rfl
  have f0 := obj_free hp 0
  have f1 := obj_free hp 1
  have f2 := obj_free hp 2
  have f3 := obj_free hp 3
  have f4 := obj_free hp 4
  have f5 := obj_free hp 5
  go_cut [3] (fun s3 x => s3 = .iface 48 (.int .i64 8) ∧ PkMem x N 0 0 0 0 false (.slice none 0 0) ∧ Hid (Below N w x))
  case first =>
    go_wp2_with fail
    go_meet
    refine ⟨rfl, obj_set (obj_set (obj_set (obj_set (obj_set (obj_set hp 0 _) 1 _) 2 _) 3 _) 4 _) 5 _, ?_⟩
    have hl : N ≤ N := Nat.le_refl _
    exact Lib.hid (Below.setCell (Below.setCell (Below.setCell (Below.setCell (Below.setCell (Below.setCell kb.out hl _) hl _) hl _) hl _) hl _) hl _)
  case rest =>
  clear hp hv kb p0 p1 p2 p3 p4 p5 f0 f1 f2 f3 f4 f5
  obtain ⟨rfl, hp, kb⟩ := hcut
  have p0 := obj_cell hp (k := 0) rfl
  have p1 := obj_cell hp (k := 1) rfl
  have p2 := obj_cell hp (k := 2) rfl
  have p3 := obj_cell hp (k := 3) rfl
  have p4 := obj_cell hp (k := 4) rfl
  have p5 := obj_cell hp (k := 5) rfl
  go_wp2
  refine bodyPost_ret (v := .tuple #[zeroPk, .iface 48 (.int .i64 8)]) (by simp [results, Tryd.results12, go_sem, p0, p1, p2, p3, p4, p5]) rfl ?_
  exact ⟨rfl, by have h := kb.out; rw [HN.out] at h; exact h⟩

theorem bytes_long {w : World} {v : Value} {l : List UInt8} (h : IsBytes w v l) (hl : 0 < l.length) : ∃ b off cap, v = .slice (some ⟨b, off, none⟩) l.length cap ∧ l.length ≤ cap ∧ cap ≤ maxLen ∧ ∀ i (h : i < l.length), w.cell? ⟨b, off + i, none⟩ = some (encB l[i]) := by
  rcases h with ⟨rfl, _⟩ | ⟨b, off, cap, h⟩
  · simp at hl
  · exact ⟨b, off, cap, h⟩
theorem bytes_at {w : World} {b off cap n : Nat} {l : List UInt8} (h : IsBytes w (.slice (some ⟨b, off, none⟩) n cap) l) (i : Nat) (hi : i < l.length) : w.cell? ⟨b, off + i, none⟩ = some (encB (l.getD i 0)) := by
  rcases h with ⟨rfl, _⟩ | ⟨b', off', cap', h0, _, _, h3⟩
  · simp at hi
  · cases h0
    rw [h3 i hi]
    simp [List.getD, hi]
set_option maxRecDepth 100000 in
set_option maxHeartbeats 2000000 in
theorem read_syntax (v : Value) (l : List UInt8) (w : World) (hv : IsBytes w v l) (h : 8 ≤ l.length) (hb : Pl.headBad (l.getD 0 0) (l.getD 1 0) = true) :
    Calls Tryd.prog 12 #[v] w fun e w' => e = .returned (.tuple #[zeroPk, .iface 48 (.int .i64 2)]) ∧ Below w.heap.size w w' := by
  obtain ⟨b, off, cap, rfl, hlc, hcm, _⟩ := bytes_long hv (by omega)
  unfold maxLen at hcm
  go_enter Tryd.func12, Tryd.ntmps12
  go_upto_region 1 with fail
  refine abs_b (fun y => PkMem y w.heap.size 0 0 0 0 false (.slice none 0 0) ∧ IsBytes y (.slice (some ⟨b, off, none⟩) l.length cap) l ∧ Hid (Below w.heap.size w y)) ⟨obj_new _ _, hv.below ((Below.refl _ _).alloc (Nat.le_refl _) _), Lib.hid ((Below.refl _ _).alloc (Nat.le_refl _) _)⟩ ?_
  clear hv
  have hN : ∃ N, N = w.heap.size := ⟨_, rfl⟩
  obtain ⟨N, hN⟩ := hN
  rw [← hN]
  have HN := Lib.hid hN
  clear hN
  rintro y ⟨hp, hv, kb⟩
  have c0 := bytes_at hv 0 (by omega)
  have c1 := bytes_at hv 1 (by omega)
  rw [Nat.add_zero] at c0
  generalize l.getD 0 0 = x0 at *
  generalize l.getD 1 0 = x1 at *
  have hcs := Pl.headBad_cases hb
  clear hb
  rcases hcs with h1 | ⟨h1, h2⟩ | ⟨h1, h2, h3⟩
  · have hgo : True := trivial
    go_upto_region 4 with fail
    have p0 := obj_cell hp (k := 0) rfl
    have p1 := obj_cell hp (k := 1) rfl
    have p2 := obj_cell hp (k := 2) rfl
    have p3 := obj_cell hp (k := 3) rfl
    have p4 := obj_cell hp (k := 4) rfl
    have p5 := obj_cell hp (k := 5) rfl
    have f0 := obj_free hp 0
    have f1 := obj_free hp 1
    have f2 := obj_free hp 2
    have f3 := obj_free hp 3
    have f4 := obj_free hp 4
    have f5 := obj_free hp 5
    go_cut [3] (fun s3 x => s3 = .iface 48 (.int .i64 2) ∧ PkMem x N 0 0 0 0 false (.slice none 0 0) ∧ Hid (Below N w x))
    case first =>
      go_wp2_with fail
      go_meet
      refine ⟨rfl, obj_set (obj_set (obj_set (obj_set (obj_set (obj_set hp 0 _) 1 _) 2 _) 3 _) 4 _) 5 _, ?_⟩
      have hl : N ≤ N := Nat.le_refl _
      exact Lib.hid (Below.setCell (Below.setCell (Below.setCell (Below.setCell (Below.setCell (Below.setCell kb.out hl _) hl _) hl _) hl _) hl _) hl _)
    case rest =>
    clear hp hv kb p0 p1 p2 p3 p4 p5 f0 f1 f2 f3 f4 f5
    obtain ⟨rfl, hp, kb⟩ := hcut
    have p0 := obj_cell hp (k := 0) rfl
    have p1 := obj_cell hp (k := 1) rfl
    have p2 := obj_cell hp (k := 2) rfl
    have p3 := obj_cell hp (k := 3) rfl
    have p4 := obj_cell hp (k := 4) rfl
    have p5 := obj_cell hp (k := 5) rfl
    go_wp2
    refine bodyPost_ret (v := .tuple #[zeroPk, .iface 48 (.int .i64 2)]) (by simp [results, Tryd.results12, go_sem, p0, p1, p2, p3, p4, p5]) rfl ?_
    exact ⟨rfl, by have h := kb.out; rw [HN.out] at h; exact h⟩
  · have hgo : True := trivial
    go_upto_region 4 with fail
    have p0 := obj_cell hp (k := 0) rfl
    have p1 := obj_cell hp (k := 1) rfl
    have p2 := obj_cell hp (k := 2) rfl
    have p3 := obj_cell hp (k := 3) rfl
    have p4 := obj_cell hp (k := 4) rfl
    have p5 := obj_cell hp (k := 5) rfl
    have f0 := obj_free hp 0
    have f1 := obj_free hp 1
    have f2 := obj_free hp 2
    have f3 := obj_free hp 3
    have f4 := obj_free hp 4
    have f5 := obj_free hp 5
    go_cut [3] (fun s3 x => s3 = .iface 48 (.int .i64 2) ∧ PkMem x N 0 0 0 0 false (.slice none 0 0) ∧ Hid (Below N w x))
    case first =>
      go_wp2_with fail
      go_meet
      refine ⟨rfl, obj_set (obj_set (obj_set (obj_set (obj_set (obj_set hp 0 _) 1 _) 2 _) 3 _) 4 _) 5 _, ?_⟩
      have hl : N ≤ N := Nat.le_refl _
      exact Lib.hid (Below.setCell (Below.setCell (Below.setCell (Below.setCell (Below.setCell (Below.setCell kb.out hl _) hl _) hl _) hl _) hl _) hl _)
    case rest =>
    clear hp hv kb p0 p1 p2 p3 p4 p5 f0 f1 f2 f3 f4 f5
    obtain ⟨rfl, hp, kb⟩ := hcut
    have p0 := obj_cell hp (k := 0) rfl
    have p1 := obj_cell hp (k := 1) rfl
    have p2 := obj_cell hp (k := 2) rfl
    have p3 := obj_cell hp (k := 3) rfl
    have p4 := obj_cell hp (k := 4) rfl
    have p5 := obj_cell hp (k := 5) rfl
    go_wp2
    refine bodyPost_ret (v := .tuple #[zeroPk, .iface 48 (.int .i64 2)]) (by simp [results, Tryd.results12, go_sem, p0, p1, p2, p3, p4, p5]) rfl ?_
    exact ⟨rfl, by have h := kb.out; rw [HN.out] at h; exact h⟩
  · have hgo : True := trivial
    go_upto_region 4 with fail
    have p0 := obj_cell hp (k := 0) rfl
    have p1 := obj_cell hp (k := 1) rfl
    have p2 := obj_cell hp (k := 2) rfl
    have p3 := obj_cell hp (k := 3) rfl
    have p4 := obj_cell hp (k := 4) rfl
    have p5 := obj_cell hp (k := 5) rfl
    have f0 := obj_free hp 0
    have f1 := obj_free hp 1
    have f2 := obj_free hp 2
    have f3 := obj_free hp 3
    have f4 := obj_free hp 4
    have f5 := obj_free hp 5
    go_cut [3] (fun s3 x => s3 = .iface 48 (.int .i64 2) ∧ PkMem x N 0 0 0 0 false (.slice none 0 0) ∧ Hid (Below N w x))
    case first =>
      go_wp2_with fail
      go_meet
      refine ⟨rfl, obj_set (obj_set (obj_set (obj_set (obj_set (obj_set hp 0 _) 1 _) 2 _) 3 _) 4 _) 5 _, ?_⟩
      have hl : N ≤ N := Nat.le_refl _
      exact Lib.hid (Below.setCell (Below.setCell (Below.setCell (Below.setCell (Below.setCell (Below.setCell kb.out hl _) hl _) hl _) hl _) hl _) hl _)
    case rest =>
    clear hp hv kb p0 p1 p2 p3 p4 p5 f0 f1 f2 f3 f4 f5
    obtain ⟨rfl, hp, kb⟩ := hcut
    have p0 := obj_cell hp (k := 0) rfl
    have p1 := obj_cell hp (k := 1) rfl
    have p2 := obj_cell hp (k := 2) rfl
    have p3 := obj_cell hp (k := 3) rfl
    have p4 := obj_cell hp (k := 4) rfl
    have p5 := obj_cell hp (k := 5) rfl
    go_wp2
    refine bodyPost_ret (v := .tuple #[zeroPk, .iface 48 (.int .i64 2)]) (by simp [results, Tryd.results12, go_sem, p0, p1, p2, p3, p4, p5]) rfl ?_
    exact ⟨rfl, by have h := kb.out; rw [HN.out] at h; exact h⟩
set_option maxRecDepth 100000 in
set_option maxHeartbeats 2000000 in
theorem read_full (v : Value) (l : List UInt8) (w : World) (hv : IsBytes w v l) (h : 1008 < l.length) (hb : Pl.headBad (l.getD 0 0) (l.getD 1 0) = false) :
    Calls Tryd.prog 12 #[v] w fun e w' => e = .returned (.tuple #[zeroPk, .iface 48 (.int .i64 4)]) ∧ Below w.heap.size w w' := by
  obtain ⟨b, off, cap, rfl, hlc, hcm, _⟩ := bytes_long hv (by omega)
  unfold maxLen at hcm
  go_enter Tryd.func12, Tryd.ntmps12
  go_upto_region 1 with fail
  refine abs_b (fun y => PkMem y w.heap.size 0 0 0 0 false (.slice none 0 0) ∧ IsBytes y (.slice (some ⟨b, off, none⟩) l.length cap) l ∧ Hid (Below w.heap.size w y)) ⟨obj_new _ _, hv.below ((Below.refl _ _).alloc (Nat.le_refl _) _), Lib.hid ((Below.refl _ _).alloc (Nat.le_refl _) _)⟩ ?_
  clear hv
  have hN : ∃ N, N = w.heap.size := ⟨_, rfl⟩
  obtain ⟨N, hN⟩ := hN
  rw [← hN]
  have HN := Lib.hid hN
  clear hN
  rintro y ⟨hp, hv, kb⟩
  have c0 := bytes_at hv 0 (by omega)
  have c1 := bytes_at hv 1 (by omega)
  rw [Nat.add_zero] at c0
  generalize l.getD 0 0 = x0 at *
  generalize l.getD 1 0 = x1 at *
  obtain ⟨h1, h2, h3⟩ := Pl.headBad_no hb
  clear hb
  go_upto_region 6 with fail
  have p0 := obj_cell hp (k := 0) rfl
  have p1 := obj_cell hp (k := 1) rfl
  have p2 := obj_cell hp (k := 2) rfl
  have p3 := obj_cell hp (k := 3) rfl
  have p4 := obj_cell hp (k := 4) rfl
  have p5 := obj_cell hp (k := 5) rfl
  have f0 := obj_free hp 0
  have f1 := obj_free hp 1
  have f2 := obj_free hp 2
  have f3 := obj_free hp 3
  have f4 := obj_free hp 4
  have f5 := obj_free hp 5
  go_cut [3] (fun s3 x => s3 = .iface 48 (.int .i64 4) ∧ PkMem x N 0 0 0 0 false (.slice none 0 0) ∧ Hid (Below N w x))
  case first =>
    go_wp2_with fail
    go_meet
    refine ⟨rfl, obj_set (obj_set (obj_set (obj_set (obj_set (obj_set hp 0 _) 1 _) 2 _) 3 _) 4 _) 5 _, ?_⟩
    have hl : N ≤ N := Nat.le_refl _
    exact Lib.hid (Below.setCell (Below.setCell (Below.setCell (Below.setCell (Below.setCell (Below.setCell kb.out hl _) hl _) hl _) hl _) hl _) hl _)
  case rest =>
  clear hp hv kb p0 p1 p2 p3 p4 p5 f0 f1 f2 f3 f4 f5
  obtain ⟨rfl, hp, kb⟩ := hcut
  have p0 := obj_cell hp (k := 0) rfl
  have p1 := obj_cell hp (k := 1) rfl
  have p2 := obj_cell hp (k := 2) rfl
  have p3 := obj_cell hp (k := 3) rfl
  have p4 := obj_cell hp (k := 4) rfl
  have p5 := obj_cell hp (k := 5) rfl
  go_wp2
  refine bodyPost_ret (v := .tuple #[zeroPk, .iface 48 (.int .i64 4)]) (by simp [results, Tryd.results12, go_sem, p0, p1, p2, p3, p4, p5]) rfl ?_
  exact ⟨rfl, by have h := kb.out; rw [HN.out] at h; exact h⟩

theorem sub_bytes {w : World} {b off n cap : Nat} {l : List UInt8} (h : IsBytes w (.slice (some ⟨b, off, none⟩) n cap) l) (lo hi : Nat) (h1 : lo ≤ hi) (h2 : hi ≤ l.length) (hcap : cap ≤ maxLen) (hl : l.length ≤ cap) (m c : Nat) (hm : m = hi - lo) (hc : c = cap - lo) :
    IsBytes w (.slice (if cap = lo then some ⟨b, off, none⟩ else some ⟨b, off + lo, none⟩) m c) ((l.drop lo).take (hi - lo)) := by
  subst hm hc
  by_cases e : cap = lo
  · rw [if_pos e]
    have e2 : hi - lo = 0 := by omega
    rw [e2]
    exact Sl.empty (by omega) (fun h => by cases h)
  rw [if_neg e]
  have hlen : ((l.drop lo).take (hi - lo)).length = hi - lo := by simp; omega
  refine .inr ⟨b, off + lo, cap - lo, by rw [hlen], by omega, by omega, fun i hi' => ?_⟩
  rw [hlen] at hi'
  rw [Nat.add_assoc, bytes_at h (lo + i) (by omega)]
  congr 2
  simp [List.getD]
  rw [List.getElem?_eq_getElem (by omega)]
  rfl
end Go.Proofs.YtbjanihblffmoaaDoor
