import Derived.Test.YtbjanihblffmoaaDoorRefOpen
import Derived.Test.YtbjanihblffmoaaDoorFrameE
import Derived.Deep.DeepCutAuto
/-! The reference's Seq, ReadPack (its fault), Frame, FrameBytes. -/
namespace Go.Proofs.YtbjanihblffmoaaDoor
open Go.RowKit
set_option linter.unusedVariables false
set_option linter.unusedSimpArgs false
theorem refSeq_any (z : Int) (w : World) : Calls Tryd.prog 21 #[.int .i64 z] w fun e w' => e = .returned (.bool (decide (0 ≤ z ∧ z ≤ 65535))) ∧ w = w' := by
  by_cases h1 : 0 ≤ z
  · by_cases h2 : z ≤ 65535
    · go_enter Tryd.func21, Tryd.ntmps21
      go_wp2
      go_ret
      exact ⟨by simp [h1, h2], rfl⟩
    · go_enter Tryd.func21, Tryd.ntmps21
      go_wp2
      go_ret
      exact ⟨by simp [h1, h2]; try omega, rfl⟩
  · go_enter Tryd.func21, Tryd.ntmps21
    go_wp2
    go_ret
    exact ⟨by simp [h1]; try omega, rfl⟩
theorem Pl.andNot_tab : (List.range 256).all (fun n => decide ((131 < bits .andNot .u8 (n : Int) 32 ∨ n < 128) ↔ ((n < 128 ∨ 131 < n) ∧ (n < 160 ∨ 163 < n)))) = true := by decide +kernel
theorem Pl.headBad_ref (a b : UInt8) : (Pl.headBad a b = true) ↔ ((((a.toNat : Int) < 128 ∨ 131 < (a.toNat : Int)) ∧ ((a.toNat : Int) < 160 ∨ 163 < (a.toNat : Int))) ∨ 127 < (b.toNat : Int)) := by
  have h := of_decide_eq_true (List.all_eq_true.1 Pl.andNot_tab a.toNat (List.mem_range.2 a.toNat_lt))
  unfold Pl.headBad
  simp only [Bool.or_eq_true, decide_eq_true_eq]
  constructor
  · rintro ((h1 | h1) | h1)
    · have := h.1 (.inl h1); omega
    · have := h.1 (.inr (by omega)); omega
    · omega
  · rintro (h1 | h1)
    · rcases h.2 (by omega) with h2 | h2
      · exact .inl (.inl h2)
      · exact .inl (.inr (by omega))
    · exact .inr h1
theorem abs_k {P : Program} {c : Code} {Q : Exit → Act → World → Prop} {a : Act} {W : World} (S : World → Prop) (h : S W) (k : ∀ wq, S wq → c.wp P Q a wq) : c.wp P Q a W := k W h
set_option maxRecDepth 100000 in
set_option maxHeartbeats 2000000 in
theorem rread_short (v : Value) (l : List UInt8) (w : World) (hv : IsBytes w v l) (h : l.length < 8) :
    Calls Tryd.prog 11 #[v] w fun e w' => e = .returned (.tuple #[zeroPk, .int .i64 8]) ∧ Below w.heap.size w w' := by
  obtain ⟨oa, c, rfl, hm⟩ := bytes_slice hv
  clear hv
  go_enter Tryd.func11, Tryd.ntmps11
  go_upto_region 1 with fail
  refine abs_k (fun y => PkMem y w.heap.size 0 0 0 0 false (.slice none 0 0) ∧ Hid (Below w.heap.size w y)) ⟨obj_new _ _, Lib.hid ((Below.refl _ _).alloc (Nat.le_refl _) _)⟩ ?_
  have hN : ∃ N, N = w.heap.size := ⟨_, rfl⟩
  obtain ⟨N, hN⟩ := hN
  have HN := Lib.hid hN
  rw [← hN]
  clear hN
  rintro y ⟨hp, kb⟩
  go_upto_region 2 with fail
  have p0 := obj_cell hp (k := 0) rfl
  have p1 := obj_cell hp (k := 1) rfl
  have p2 := obj_cell hp (k := 2) rfl
  have p3 := obj_cell hp (k := 3) rfl
  have p4 := obj_cell hp (k := 4) rfl
  have p5 := obj_cell hp (k := 5) rfl
  have f0 := obj_free hp 0
  have f1 := obj_free hp 1
  have f2 := obj_free hp 2
  have f3 := obj_free hp 3
  have f4 := obj_free hp 4
  have f5 := obj_free hp 5
  go_cut [3] (fun s3 x => s3 = .int .i64 8 ∧ PkMem x N 0 0 0 0 false (.slice none 0 0) ∧ Hid (Below N w x))
  case first =>
    go_wp2_with fail
    go_meet
    refine ⟨rfl, obj_set (obj_set (obj_set (obj_set (obj_set (obj_set hp 0 _) 1 _) 2 _) 3 _) 4 _) 5 _, ?_⟩
    have hl : N ≤ N := Nat.le_refl _
    have kb2 := kb.out
    exact Lib.hid (Below.setCell (Below.setCell (Below.setCell (Below.setCell (Below.setCell (Below.setCell kb2 hl _) hl _) hl _) hl _) hl _) hl _)
  case rest =>
  clear hp kb p0 p1 p2 p3 p4 p5 f0 f1 f2 f3 f4 f5
  obtain ⟨rfl, hp, kb⟩ := hcut
  have p0 := obj_cell hp (k := 0) rfl
  have p1 := obj_cell hp (k := 1) rfl
  have p2 := obj_cell hp (k := 2) rfl
  have p3 := obj_cell hp (k := 3) rfl
  have p4 := obj_cell hp (k := 4) rfl
  have p5 := obj_cell hp (k := 5) rfl
  go_wp2
  refine bodyPost_ret (v := .tuple #[zeroPk, .int .i64 8]) (by simp [results, Tryd.results11, go_sem, p0, p1, p2, p3, p4, p5]) rfl ?_
  exact ⟨rfl, by have h := kb.out; rw [HN.out] at h; exact h⟩
set_option maxRecDepth 100000 in
set_option maxHeartbeats 2000000 in
theorem rread_syn_a (b off cap : Nat) (l : List UInt8) (hlc : l.length ≤ cap) (hcm : cap ≤ 9223372036854775807) (w : World) (hv0 : IsBytes w (.slice (some ⟨b, off, none⟩) l.length cap) l) (h : 8 ≤ l.length) (h1 : (l.getD 0 0).toNat < 128) :
    Calls Tryd.prog 11 #[.slice (some ⟨b, off, none⟩) l.length cap] w fun e w' => e = .returned (.tuple #[zeroPk, .int .i64 2]) ∧ Below w.heap.size w w' := by
  have hv := Lib.hid hv0
  clear hv0
  go_enter Tryd.func11, Tryd.ntmps11
  go_upto_region 1 with fail
  refine abs_k (fun y => PkMem y w.heap.size 0 0 0 0 false (.slice none 0 0) ∧ Hid (Below w.heap.size w y)) ⟨obj_new _ _, Lib.hid ((Below.refl _ _).alloc (Nat.le_refl _) _)⟩ ?_
  have hN : ∃ N, N = w.heap.size := ⟨_, rfl⟩
  obtain ⟨N, hN⟩ := hN
  have HN := Lib.hid hN
  rw [← hN]
  clear hN
  rintro y ⟨hp, kb⟩
  have kbw := kb.out
  rw [HN.out] at kbw
  have c0 : y.cell? ⟨b, off + 0, none⟩ = some (encB (l.getD 0 0)) := bytes_at (hv.out.below kbw) 0 (by omega)
  have c1 : y.cell? ⟨b, off + 1, none⟩ = some (encB (l.getD 1 0)) := bytes_at (hv.out.below kbw) 1 (by omega)
  rw [Nat.add_zero] at c0
  clear kbw
  generalize l.getD 0 0 = x0 at *
  generalize l.getD 1 0 = x1 at *
  obtain ⟨z1, z2⟩ := byte_bound x0
  have hA : (x0.toNat : Int) < 128 := by omega
  go_upto_region 5 with fail
  have p0 := obj_cell hp (k := 0) rfl
  have p1 := obj_cell hp (k := 1) rfl
  have p2 := obj_cell hp (k := 2) rfl
  have p3 := obj_cell hp (k := 3) rfl
  have p4 := obj_cell hp (k := 4) rfl
  have p5 := obj_cell hp (k := 5) rfl
  have f0 := obj_free hp 0
  have f1 := obj_free hp 1
  have f2 := obj_free hp 2
  have f3 := obj_free hp 3
  have f4 := obj_free hp 4
  have f5 := obj_free hp 5
  go_cut [3] (fun s3 x => s3 = .int .i64 2 ∧ PkMem x N 0 0 0 0 false (.slice none 0 0) ∧ Hid (Below N w x))
  case first =>
    go_wp2_with fail
    go_meet
    refine ⟨rfl, obj_set (obj_set (obj_set (obj_set (obj_set (obj_set hp 0 _) 1 _) 2 _) 3 _) 4 _) 5 _, ?_⟩
    have hl : N ≤ N := Nat.le_refl _
    have kb2 := kb.out
    exact Lib.hid (Below.setCell (Below.setCell (Below.setCell (Below.setCell (Below.setCell (Below.setCell kb2 hl _) hl _) hl _) hl _) hl _) hl _)
  case rest =>
  clear hp kb p0 p1 p2 p3 p4 p5 f0 f1 f2 f3 f4 f5
  obtain ⟨rfl, hp, kb⟩ := hcut
  have p0 := obj_cell hp (k := 0) rfl
  have p1 := obj_cell hp (k := 1) rfl
  have p2 := obj_cell hp (k := 2) rfl
  have p3 := obj_cell hp (k := 3) rfl
  have p4 := obj_cell hp (k := 4) rfl
  have p5 := obj_cell hp (k := 5) rfl
  go_wp2
  refine bodyPost_ret (v := .tuple #[zeroPk, .int .i64 2]) (by simp [results, Tryd.results11, go_sem, p0, p1, p2, p3, p4, p5]) rfl ?_
  exact ⟨rfl, by have h := kb.out; rw [HN.out] at h; exact h⟩
set_option maxRecDepth 100000 in
set_option maxHeartbeats 2000000 in
theorem rread_syn_b (b off cap : Nat) (l : List UInt8) (hlc : l.length ≤ cap) (hcm : cap ≤ 9223372036854775807) (w : World) (hv0 : IsBytes w (.slice (some ⟨b, off, none⟩) l.length cap) l) (h : 8 ≤ l.length) (h1 : 131 < (l.getD 0 0).toNat ∧ (l.getD 0 0).toNat < 160) :
    Calls Tryd.prog 11 #[.slice (some ⟨b, off, none⟩) l.length cap] w fun e w' => e = .returned (.tuple #[zeroPk, .int .i64 2]) ∧ Below w.heap.size w w' := by
  have hv := Lib.hid hv0
  clear hv0
  go_enter Tryd.func11, Tryd.ntmps11
  go_upto_region 1 with fail
  refine abs_k (fun y => PkMem y w.heap.size 0 0 0 0 false (.slice none 0 0) ∧ Hid (Below w.heap.size w y)) ⟨obj_new _ _, Lib.hid ((Below.refl _ _).alloc (Nat.le_refl _) _)⟩ ?_
  have hN : ∃ N, N = w.heap.size := ⟨_, rfl⟩
  obtain ⟨N, hN⟩ := hN
  have HN := Lib.hid hN
  rw [← hN]
  clear hN
  rintro y ⟨hp, kb⟩
  have kbw := kb.out
  rw [HN.out] at kbw
  have c0 : y.cell? ⟨b, off + 0, none⟩ = some (encB (l.getD 0 0)) := bytes_at (hv.out.below kbw) 0 (by omega)
  have c1 : y.cell? ⟨b, off + 1, none⟩ = some (encB (l.getD 1 0)) := bytes_at (hv.out.below kbw) 1 (by omega)
  rw [Nat.add_zero] at c0
  clear kbw
  generalize l.getD 0 0 = x0 at *
  generalize l.getD 1 0 = x1 at *
  obtain ⟨z1, z2⟩ := byte_bound x0
  have hA : 131 < (x0.toNat : Int) ∧ (x0.toNat : Int) < 160 := by omega
  obtain ⟨hA1, hA2⟩ := hA
  go_upto_region 5 with fail
  have p0 := obj_cell hp (k := 0) rfl
  have p1 := obj_cell hp (k := 1) rfl
  have p2 := obj_cell hp (k := 2) rfl
  have p3 := obj_cell hp (k := 3) rfl
  have p4 := obj_cell hp (k := 4) rfl
  have p5 := obj_cell hp (k := 5) rfl
  have f0 := obj_free hp 0
  have f1 := obj_free hp 1
  have f2 := obj_free hp 2
  have f3 := obj_free hp 3
  have f4 := obj_free hp 4
  have f5 := obj_free hp 5
  go_cut [3] (fun s3 x => s3 = .int .i64 2 ∧ PkMem x N 0 0 0 0 false (.slice none 0 0) ∧ Hid (Below N w x))
  case first =>
    go_wp2_with fail
    go_meet
    refine ⟨rfl, obj_set (obj_set (obj_set (obj_set (obj_set (obj_set hp 0 _) 1 _) 2 _) 3 _) 4 _) 5 _, ?_⟩
    have hl : N ≤ N := Nat.le_refl _
    have kb2 := kb.out
    exact Lib.hid (Below.setCell (Below.setCell (Below.setCell (Below.setCell (Below.setCell (Below.setCell kb2 hl _) hl _) hl _) hl _) hl _) hl _)
  case rest =>
  clear hp kb p0 p1 p2 p3 p4 p5 f0 f1 f2 f3 f4 f5
  obtain ⟨rfl, hp, kb⟩ := hcut
  have p0 := obj_cell hp (k := 0) rfl
  have p1 := obj_cell hp (k := 1) rfl
  have p2 := obj_cell hp (k := 2) rfl
  have p3 := obj_cell hp (k := 3) rfl
  have p4 := obj_cell hp (k := 4) rfl
  have p5 := obj_cell hp (k := 5) rfl
  go_wp2
  refine bodyPost_ret (v := .tuple #[zeroPk, .int .i64 2]) (by simp [results, Tryd.results11, go_sem, p0, p1, p2, p3, p4, p5]) rfl ?_
  exact ⟨rfl, by have h := kb.out; rw [HN.out] at h; exact h⟩
set_option maxRecDepth 100000 in
set_option maxHeartbeats 2000000 in
theorem rread_syn_c (b off cap : Nat) (l : List UInt8) (hlc : l.length ≤ cap) (hcm : cap ≤ 9223372036854775807) (w : World) (hv0 : IsBytes w (.slice (some ⟨b, off, none⟩) l.length cap) l) (h : 8 ≤ l.length) (h1 : 163 < (l.getD 0 0).toNat) :
    Calls Tryd.prog 11 #[.slice (some ⟨b, off, none⟩) l.length cap] w fun e w' => e = .returned (.tuple #[zeroPk, .int .i64 2]) ∧ Below w.heap.size w w' := by
  have hv := Lib.hid hv0
  clear hv0
  go_enter Tryd.func11, Tryd.ntmps11
  go_upto_region 1 with fail
  refine abs_k (fun y => PkMem y w.heap.size 0 0 0 0 false (.slice none 0 0) ∧ Hid (Below w.heap.size w y)) ⟨obj_new _ _, Lib.hid ((Below.refl _ _).alloc (Nat.le_refl _) _)⟩ ?_
  have hN : ∃ N, N = w.heap.size := ⟨_, rfl⟩
  obtain ⟨N, hN⟩ := hN
  have HN := Lib.hid hN
  rw [← hN]
  clear hN
  rintro y ⟨hp, kb⟩
  have kbw := kb.out
  rw [HN.out] at kbw
  have c0 : y.cell? ⟨b, off + 0, none⟩ = some (encB (l.getD 0 0)) := bytes_at (hv.out.below kbw) 0 (by omega)
  have c1 : y.cell? ⟨b, off + 1, none⟩ = some (encB (l.getD 1 0)) := bytes_at (hv.out.below kbw) 1 (by omega)
  rw [Nat.add_zero] at c0
  clear kbw
  generalize l.getD 0 0 = x0 at *
  generalize l.getD 1 0 = x1 at *
  obtain ⟨z1, z2⟩ := byte_bound x0
  have hA : 163 < (x0.toNat : Int) := by omega
  go_upto_region 5 with fail
  have p0 := obj_cell hp (k := 0) rfl
  have p1 := obj_cell hp (k := 1) rfl
  have p2 := obj_cell hp (k := 2) rfl
  have p3 := obj_cell hp (k := 3) rfl
  have p4 := obj_cell hp (k := 4) rfl
  have p5 := obj_cell hp (k := 5) rfl
  have f0 := obj_free hp 0
  have f1 := obj_free hp 1
  have f2 := obj_free hp 2
  have f3 := obj_free hp 3
  have f4 := obj_free hp 4
  have f5 := obj_free hp 5
  go_cut [3] (fun s3 x => s3 = .int .i64 2 ∧ PkMem x N 0 0 0 0 false (.slice none 0 0) ∧ Hid (Below N w x))
  case first =>
    go_wp2_with fail
    go_meet
    refine ⟨rfl, obj_set (obj_set (obj_set (obj_set (obj_set (obj_set hp 0 _) 1 _) 2 _) 3 _) 4 _) 5 _, ?_⟩
    have hl : N ≤ N := Nat.le_refl _
    have kb2 := kb.out
    exact Lib.hid (Below.setCell (Below.setCell (Below.setCell (Below.setCell (Below.setCell (Below.setCell kb2 hl _) hl _) hl _) hl _) hl _) hl _)
  case rest =>
  clear hp kb p0 p1 p2 p3 p4 p5 f0 f1 f2 f3 f4 f5
  obtain ⟨rfl, hp, kb⟩ := hcut
  have p0 := obj_cell hp (k := 0) rfl
  have p1 := obj_cell hp (k := 1) rfl
  have p2 := obj_cell hp (k := 2) rfl
  have p3 := obj_cell hp (k := 3) rfl
  have p4 := obj_cell hp (k := 4) rfl
  have p5 := obj_cell hp (k := 5) rfl
  go_wp2
  refine bodyPost_ret (v := .tuple #[zeroPk, .int .i64 2]) (by simp [results, Tryd.results11, go_sem, p0, p1, p2, p3, p4, p5]) rfl ?_
  exact ⟨rfl, by have h := kb.out; rw [HN.out] at h; exact h⟩
set_option maxRecDepth 100000 in
set_option maxHeartbeats 2000000 in
theorem rread_syn_d (b off cap : Nat) (l : List UInt8) (hlc : l.length ≤ cap) (hcm : cap ≤ 9223372036854775807) (w : World) (hv0 : IsBytes w (.slice (some ⟨b, off, none⟩) l.length cap) l) (h : 8 ≤ l.length) (h1 : 128 ≤ (l.getD 0 0).toNat ∧ (l.getD 0 0).toNat ≤ 131) (h2 : 127 < (l.getD 1 0).toNat) :
    Calls Tryd.prog 11 #[.slice (some ⟨b, off, none⟩) l.length cap] w fun e w' => e = .returned (.tuple #[zeroPk, .int .i64 2]) ∧ Below w.heap.size w w' := by
  have hv := Lib.hid hv0
  clear hv0
  go_enter Tryd.func11, Tryd.ntmps11
  go_upto_region 1 with fail
  refine abs_k (fun y => PkMem y w.heap.size 0 0 0 0 false (.slice none 0 0) ∧ Hid (Below w.heap.size w y)) ⟨obj_new _ _, Lib.hid ((Below.refl _ _).alloc (Nat.le_refl _) _)⟩ ?_
  have hN : ∃ N, N = w.heap.size := ⟨_, rfl⟩
  obtain ⟨N, hN⟩ := hN
  have HN := Lib.hid hN
  rw [← hN]
  clear hN
  rintro y ⟨hp, kb⟩
  have kbw := kb.out
  rw [HN.out] at kbw
  have c0 : y.cell? ⟨b, off + 0, none⟩ = some (encB (l.getD 0 0)) := bytes_at (hv.out.below kbw) 0 (by omega)
  have c1 : y.cell? ⟨b, off + 1, none⟩ = some (encB (l.getD 1 0)) := bytes_at (hv.out.below kbw) 1 (by omega)
  rw [Nat.add_zero] at c0
  clear kbw
  generalize l.getD 0 0 = x0 at *
  generalize l.getD 1 0 = x1 at *
  obtain ⟨z1, z2⟩ := byte_bound x0
  have hA : (128 ≤ (x0.toNat : Int) ∧ (x0.toNat : Int) ≤ 131) ∧ 127 < (x1.toNat : Int) := by omega
  obtain ⟨⟨hA1, hA2⟩, hA3⟩ := hA
  go_upto_region 5 with fail
  have p0 := obj_cell hp (k := 0) rfl
  have p1 := obj_cell hp (k := 1) rfl
  have p2 := obj_cell hp (k := 2) rfl
  have p3 := obj_cell hp (k := 3) rfl
  have p4 := obj_cell hp (k := 4) rfl
  have p5 := obj_cell hp (k := 5) rfl
  have f0 := obj_free hp 0
  have f1 := obj_free hp 1
  have f2 := obj_free hp 2
  have f3 := obj_free hp 3
  have f4 := obj_free hp 4
  have f5 := obj_free hp 5
  go_cut [3] (fun s3 x => s3 = .int .i64 2 ∧ PkMem x N 0 0 0 0 false (.slice none 0 0) ∧ Hid (Below N w x))
  case first =>
    go_wp2_with fail
    go_meet
    refine ⟨rfl, obj_set (obj_set (obj_set (obj_set (obj_set (obj_set hp 0 _) 1 _) 2 _) 3 _) 4 _) 5 _, ?_⟩
    have hl : N ≤ N := Nat.le_refl _
    have kb2 := kb.out
    exact Lib.hid (Below.setCell (Below.setCell (Below.setCell (Below.setCell (Below.setCell (Below.setCell kb2 hl _) hl _) hl _) hl _) hl _) hl _)
  case rest =>
  clear hp kb p0 p1 p2 p3 p4 p5 f0 f1 f2 f3 f4 f5
  obtain ⟨rfl, hp, kb⟩ := hcut
  have p0 := obj_cell hp (k := 0) rfl
  have p1 := obj_cell hp (k := 1) rfl
  have p2 := obj_cell hp (k := 2) rfl
  have p3 := obj_cell hp (k := 3) rfl
  have p4 := obj_cell hp (k := 4) rfl
  have p5 := obj_cell hp (k := 5) rfl
  go_wp2
  refine bodyPost_ret (v := .tuple #[zeroPk, .int .i64 2]) (by simp [results, Tryd.results11, go_sem, p0, p1, p2, p3, p4, p5]) rfl ?_
  exact ⟨rfl, by have h := kb.out; rw [HN.out] at h; exact h⟩
set_option maxRecDepth 100000 in
set_option maxHeartbeats 2000000 in
theorem rread_syn_e (b off cap : Nat) (l : List UInt8) (hlc : l.length ≤ cap) (hcm : cap ≤ 9223372036854775807) (w : World) (hv0 : IsBytes w (.slice (some ⟨b, off, none⟩) l.length cap) l) (h : 8 ≤ l.length) (h1 : 160 ≤ (l.getD 0 0).toNat ∧ (l.getD 0 0).toNat ≤ 163) (h2 : 127 < (l.getD 1 0).toNat) :
    Calls Tryd.prog 11 #[.slice (some ⟨b, off, none⟩) l.length cap] w fun e w' => e = .returned (.tuple #[zeroPk, .int .i64 2]) ∧ Below w.heap.size w w' := by
  have hv := Lib.hid hv0
  clear hv0
  go_enter Tryd.func11, Tryd.ntmps11
  go_upto_region 1 with fail
  refine abs_k (fun y => PkMem y w.heap.size 0 0 0 0 false (.slice none 0 0) ∧ Hid (Below w.heap.size w y)) ⟨obj_new _ _, Lib.hid ((Below.refl _ _).alloc (Nat.le_refl _) _)⟩ ?_
  have hN : ∃ N, N = w.heap.size := ⟨_, rfl⟩
  obtain ⟨N, hN⟩ := hN
  have HN := Lib.hid hN
  rw [← hN]
  clear hN
  rintro y ⟨hp, kb⟩
  have kbw := kb.out
  rw [HN.out] at kbw
  have c0 : y.cell? ⟨b, off + 0, none⟩ = some (encB (l.getD 0 0)) := bytes_at (hv.out.below kbw) 0 (by omega)
  have c1 : y.cell? ⟨b, off + 1, none⟩ = some (encB (l.getD 1 0)) := bytes_at (hv.out.below kbw) 1 (by omega)
  rw [Nat.add_zero] at c0
  clear kbw
  generalize l.getD 0 0 = x0 at *
  generalize l.getD 1 0 = x1 at *
  obtain ⟨z1, z2⟩ := byte_bound x0
  have hA : (160 ≤ (x0.toNat : Int) ∧ (x0.toNat : Int) ≤ 163) ∧ 127 < (x1.toNat : Int) := by omega
  obtain ⟨⟨hA1, hA2⟩, hA3⟩ := hA
  go_upto_region 5 with fail
  have p0 := obj_cell hp (k := 0) rfl
  have p1 := obj_cell hp (k := 1) rfl
  have p2 := obj_cell hp (k := 2) rfl
  have p3 := obj_cell hp (k := 3) rfl
  have p4 := obj_cell hp (k := 4) rfl
  have p5 := obj_cell hp (k := 5) rfl
  have f0 := obj_free hp 0
  have f1 := obj_free hp 1
  have f2 := obj_free hp 2
  have f3 := obj_free hp 3
  have f4 := obj_free hp 4
  have f5 := obj_free hp 5
  go_cut [3] (fun s3 x => s3 = .int .i64 2 ∧ PkMem x N 0 0 0 0 false (.slice none 0 0) ∧ Hid (Below N w x))
  case first =>
    go_wp2_with fail
    go_meet
    refine ⟨rfl, obj_set (obj_set (obj_set (obj_set (obj_set (obj_set hp 0 _) 1 _) 2 _) 3 _) 4 _) 5 _, ?_⟩
    have hl : N ≤ N := Nat.le_refl _
    have kb2 := kb.out
    exact Lib.hid (Below.setCell (Below.setCell (Below.setCell (Below.setCell (Below.setCell (Below.setCell kb2 hl _) hl _) hl _) hl _) hl _) hl _)
  case rest =>
  clear hp kb p0 p1 p2 p3 p4 p5 f0 f1 f2 f3 f4 f5
  obtain ⟨rfl, hp, kb⟩ := hcut
  have p0 := obj_cell hp (k := 0) rfl
  have p1 := obj_cell hp (k := 1) rfl
  have p2 := obj_cell hp (k := 2) rfl
  have p3 := obj_cell hp (k := 3) rfl
  have p4 := obj_cell hp (k := 4) rfl
  have p5 := obj_cell hp (k := 5) rfl
  go_wp2
  refine bodyPost_ret (v := .tuple #[zeroPk, .int .i64 2]) (by simp [results, Tryd.results11, go_sem, p0, p1, p2, p3, p4, p5]) rfl ?_
  exact ⟨rfl, by have h := kb.out; rw [HN.out] at h; exact h⟩
end Go.Proofs.YtbjanihblffmoaaDoor
