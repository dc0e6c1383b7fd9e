import Derived.Test.YtbjanihblffmoaaDoorRefFr
import Derived.Deep.DeepCutAuto
/-! The reference's ReadPack: too long, what is read. -/
namespace Go.Proofs.YtbjanihblffmoaaDoor
open Go.RowKit
set_option linter.unusedVariables false
set_option linter.unusedSimpArgs false
theorem Pl.rd_tab : (List.range 256).all (fun n => decide (IntKind.i64.wrap (bits .and .u8 (n : Int) 3) = ((n % 4 : Nat) : Int))) = true := by decide +kernel
theorem Pl.rd_lay (a : UInt8) : ((a.toNat % 4 : Nat) : Int) = Pl.rdLayer a := by
  have h := of_decide_eq_true (List.all_eq_true.1 Pl.rd_tab a.toNat (List.mem_range.2 a.toNat_lt))
  rw [← h, Pl.rd_layer]
theorem Pl.rs_tab : (List.range 256).all (fun n => decide ((128 ≤ n ∧ n ≤ 131 → (bits .and .u8 (n : Int) 32 != 0) = false) ∧ (160 ≤ n ∧ n ≤ 163 → (bits .and .u8 (n : Int) 32 != 0) = true))) = true := by decide +kernel
theorem Pl.rs_low (a : UInt8) (h1 : 128 ≤ a.toNat) (h2 : a.toNat ≤ 131) : Pl.rdStart a = false := by
  have h := of_decide_eq_true (List.all_eq_true.1 Pl.rs_tab a.toNat (List.mem_range.2 a.toNat_lt))
  rw [← Pl.rd_start]; exact h.1 ⟨h1, h2⟩
theorem Pl.rs_high (a : UInt8) (h1 : 160 ≤ a.toNat) (h2 : a.toNat ≤ 163) : Pl.rdStart a = true := by
  have h := of_decide_eq_true (List.all_eq_true.1 Pl.rs_tab a.toNat (List.mem_range.2 a.toNat_lt))
  rw [← Pl.rd_start]; exact h.2 ⟨h1, h2⟩
set_option maxRecDepth 100000 in
set_option maxHeartbeats 2000000 in
theorem rread_full_d (b off cap : Nat) (l : List UInt8) (hlc : l.length ≤ cap) (hcm : cap ≤ 9223372036854775807) (w : World) (hv0 : IsBytes w (.slice (some ⟨b, off, none⟩) l.length cap) l) (h : 1008 < l.length) (h1 : 128 ≤ (l.getD 0 0).toNat ∧ (l.getD 0 0).toNat ≤ 131) (h2 : (l.getD 1 0).toNat ≤ 127) :
    Calls Tryd.prog 11 #[.slice (some ⟨b, off, none⟩) l.length cap] w fun e w' => e = .returned (.tuple #[zeroPk, .int .i64 4]) ∧ Below w.heap.size w w' := by
  have hv := Lib.hid hv0
  clear hv0
  go_enter Tryd.func11, Tryd.ntmps11
  go_upto_region 1 with fail
  refine abs_k (fun y => PkMem y w.heap.size 0 0 0 0 false (.slice none 0 0) ∧ Hid (Below w.heap.size w y)) ⟨obj_new _ _, Lib.hid ((Below.refl _ _).alloc (Nat.le_refl _) _)⟩ ?_
  have hN : ∃ N, N = w.heap.size := ⟨_, rfl⟩
  obtain ⟨N, hN⟩ := hN
  have HN := Lib.hid hN
  rw [← hN]
  clear hN
  rintro y ⟨hp, kb⟩
  have kbw := kb.out
  rw [HN.out] at kbw
  have c0 : y.cell? ⟨b, off + 0, none⟩ = some (encB (l.getD 0 0)) := bytes_at (hv.out.below kbw) 0 (by omega)
  have c1 : y.cell? ⟨b, off + 1, none⟩ = some (encB (l.getD 1 0)) := bytes_at (hv.out.below kbw) 1 (by omega)
  rw [Nat.add_zero] at c0
  clear kbw
  generalize l.getD 0 0 = x0 at *
  generalize l.getD 1 0 = x1 at *
  obtain ⟨z1, z2⟩ := byte_bound x0
  have hA : (128 ≤ (x0.toNat : Int) ∧ (x0.toNat : Int) ≤ 131) ∧ (x1.toNat : Int) ≤ 127 := by omega
  obtain ⟨⟨hA1, hA2⟩, hA3⟩ := hA
  go_upto_region 7 with fail
  have p0 := obj_cell hp (k := 0) rfl
  have p1 := obj_cell hp (k := 1) rfl
  have p2 := obj_cell hp (k := 2) rfl
  have p3 := obj_cell hp (k := 3) rfl
  have p4 := obj_cell hp (k := 4) rfl
  have p5 := obj_cell hp (k := 5) rfl
  have f0 := obj_free hp 0
  have f1 := obj_free hp 1
  have f2 := obj_free hp 2
  have f3 := obj_free hp 3
  have f4 := obj_free hp 4
  have f5 := obj_free hp 5
  go_cut [3] (fun s3 x => s3 = .int .i64 4 ∧ PkMem x N 0 0 0 0 false (.slice none 0 0) ∧ Hid (Below N w x))
  case first =>
    go_wp2_with fail
    go_meet
    refine ⟨rfl, obj_set (obj_set (obj_set (obj_set (obj_set (obj_set hp 0 _) 1 _) 2 _) 3 _) 4 _) 5 _, ?_⟩
    have hl : N ≤ N := Nat.le_refl _
    have kb2 := kb.out
    exact Lib.hid (Below.setCell (Below.setCell (Below.setCell (Below.setCell (Below.setCell (Below.setCell kb2 hl _) hl _) hl _) hl _) hl _) hl _)
  case rest =>
  clear hp kb p0 p1 p2 p3 p4 p5 f0 f1 f2 f3 f4 f5
  obtain ⟨rfl, hp, kb⟩ := hcut
  have p0 := obj_cell hp (k := 0) rfl
  have p1 := obj_cell hp (k := 1) rfl
  have p2 := obj_cell hp (k := 2) rfl
  have p3 := obj_cell hp (k := 3) rfl
  have p4 := obj_cell hp (k := 4) rfl
  have p5 := obj_cell hp (k := 5) rfl
  go_wp2
  refine bodyPost_ret (v := .tuple #[zeroPk, .int .i64 4]) (by simp [results, Tryd.results11, go_sem, p0, p1, p2, p3, p4, p5]) rfl ?_
  exact ⟨rfl, by have h := kb.out; rw [HN.out] at h; exact h⟩
set_option maxRecDepth 100000 in
set_option maxHeartbeats 2000000 in
theorem rread_full_e (b off cap : Nat) (l : List UInt8) (hlc : l.length ≤ cap) (hcm : cap ≤ 9223372036854775807) (w : World) (hv0 : IsBytes w (.slice (some ⟨b, off, none⟩) l.length cap) l) (h : 1008 < l.length) (h1 : 160 ≤ (l.getD 0 0).toNat ∧ (l.getD 0 0).toNat ≤ 163) (h2 : (l.getD 1 0).toNat ≤ 127) :
    Calls Tryd.prog 11 #[.slice (some ⟨b, off, none⟩) l.length cap] w fun e w' => e = .returned (.tuple #[zeroPk, .int .i64 4]) ∧ Below w.heap.size w w' := by
  have hv := Lib.hid hv0
  clear hv0
  go_enter Tryd.func11, Tryd.ntmps11
  go_upto_region 1 with fail
  refine abs_k (fun y => PkMem y w.heap.size 0 0 0 0 false (.slice none 0 0) ∧ Hid (Below w.heap.size w y)) ⟨obj_new _ _, Lib.hid ((Below.refl _ _).alloc (Nat.le_refl _) _)⟩ ?_
  have hN : ∃ N, N = w.heap.size := ⟨_, rfl⟩
  obtain ⟨N, hN⟩ := hN
  have HN := Lib.hid hN
  rw [← hN]
  clear hN
  rintro y ⟨hp, kb⟩
  have kbw := kb.out
  rw [HN.out] at kbw
  have c0 : y.cell? ⟨b, off + 0, none⟩ = some (encB (l.getD 0 0)) := bytes_at (hv.out.below kbw) 0 (by omega)
  have c1 : y.cell? ⟨b, off + 1, none⟩ = some (encB (l.getD 1 0)) := bytes_at (hv.out.below kbw) 1 (by omega)
  rw [Nat.add_zero] at c0
  clear kbw
  generalize l.getD 0 0 = x0 at *
  generalize l.getD 1 0 = x1 at *
  obtain ⟨z1, z2⟩ := byte_bound x0
  have hA : (160 ≤ (x0.toNat : Int) ∧ (x0.toNat : Int) ≤ 163) ∧ (x1.toNat : Int) ≤ 127 := by omega
  obtain ⟨⟨hA1, hA2⟩, hA3⟩ := hA
  go_upto_region 7 with fail
  have p0 := obj_cell hp (k := 0) rfl
  have p1 := obj_cell hp (k := 1) rfl
  have p2 := obj_cell hp (k := 2) rfl
  have p3 := obj_cell hp (k := 3) rfl
  have p4 := obj_cell hp (k := 4) rfl
  have p5 := obj_cell hp (k := 5) rfl
  have f0 := obj_free hp 0
  have f1 := obj_free hp 1
  have f2 := obj_free hp 2
  have f3 := obj_free hp 3
  have f4 := obj_free hp 4
  have f5 := obj_free hp 5
  go_cut [3] (fun s3 x => s3 = .int .i64 4 ∧ PkMem x N 0 0 0 0 false (.slice none 0 0) ∧ Hid (Below N w x))
  case first =>
    go_wp2_with fail
    go_meet
    refine ⟨rfl, obj_set (obj_set (obj_set (obj_set (obj_set (obj_set hp 0 _) 1 _) 2 _) 3 _) 4 _) 5 _, ?_⟩
    have hl : N ≤ N := Nat.le_refl _
    have kb2 := kb.out
    exact Lib.hid (Below.setCell (Below.setCell (Below.setCell (Below.setCell (Below.setCell (Below.setCell kb2 hl _) hl _) hl _) hl _) hl _) hl _)
  case rest =>
  clear hp kb p0 p1 p2 p3 p4 p5 f0 f1 f2 f3 f4 f5
  obtain ⟨rfl, hp, kb⟩ := hcut
  have p0 := obj_cell hp (k := 0) rfl
  have p1 := obj_cell hp (k := 1) rfl
  have p2 := obj_cell hp (k := 2) rfl
  have p3 := obj_cell hp (k := 3) rfl
  have p4 := obj_cell hp (k := 4) rfl
  have p5 := obj_cell hp (k := 5) rfl
  go_wp2
  refine bodyPost_ret (v := .tuple #[zeroPk, .int .i64 4]) (by simp [results, Tryd.results11, go_sem, p0, p1, p2, p3, p4, p5]) rfl ?_
  exact ⟨rfl, by have h := kb.out; rw [HN.out] at h; exact h⟩
set_option maxRecDepth 100000 in
set_option maxHeartbeats 2000000 in
theorem rread_good_dA (b off cap : Nat) (l : List UInt8) (hlc : l.length ≤ cap) (hcm : cap ≤ 9223372036854775807) (n8 : ¬ cap = 8) (w : World) (hv0 : IsBytes w (.slice (some ⟨b, off, none⟩) l.length cap) l) (h : 8 ≤ l.length) (h' : l.length ≤ 1008) (h1 : 128 ≤ (l.getD 0 0).toNat ∧ (l.getD 0 0).toNat ≤ 131) (h2 : (l.getD 1 0).toNat ≤ 127) :
    Calls Tryd.prog 11 #[.slice (some ⟨b, off, none⟩) l.length cap] w fun e w' => e = .returned (.tuple #[pkV (Pl.getB ((l.drop 2).take 2)) (Pl.getB ((l.drop 4).take 4)) (((l.getD 0 0).toNat % 4 : Nat) : Int) ((l.getD 1 0).toNat : Int) false (.slice (some ⟨b, off + 8, none⟩) (l.length - 8) (cap - 8)), .int .i64 0]) ∧ Below w.heap.size w w' := by
  have hv := Lib.hid hv0
  clear hv0
  go_enter Tryd.func11, Tryd.ntmps11
  go_upto_region 1 with fail
  refine abs_k (fun y => PkMem y w.heap.size 0 0 0 0 false (.slice none 0 0) ∧ Hid (Below w.heap.size w y)) ⟨obj_new _ _, Lib.hid ((Below.refl _ _).alloc (Nat.le_refl _) _)⟩ ?_
  have hN : ∃ N, N = w.heap.size := ⟨_, rfl⟩
  obtain ⟨N, hN⟩ := hN
  have HN := Lib.hid hN
  rw [← hN]
  clear hN
  rintro y ⟨hp, kb⟩
  have kbw := kb.out
  rw [HN.out] at kbw
  have SUB := Lib.hid (fun y' (k : Below N y y') (lo hi m c : Nat) (h1 : lo ≤ hi) (h2 : hi ≤ l.length) (hm : m = hi - lo) (hc : c = cap - lo) => sub_bytes (w := y') (hv.out.below (kbw.trans (k.mono (Nat.le_of_eq HN.out.symm)))) lo hi h1 h2 (by unfold maxLen; omega) (by omega) m c hm hc)
  have kbw := kb.out
  rw [HN.out] at kbw
  have c0 : y.cell? ⟨b, off + 0, none⟩ = some (encB (l.getD 0 0)) := bytes_at (hv.out.below kbw) 0 (by omega)
  have c1 : y.cell? ⟨b, off + 1, none⟩ = some (encB (l.getD 1 0)) := bytes_at (hv.out.below kbw) 1 (by omega)
  rw [Nat.add_zero] at c0
  clear kbw
  generalize hx0 : l.getD 0 0 = x0 at *
  have HX0 := Lib.hid hx0
  clear hx0
  generalize hx1 : l.getD 1 0 = x1 at *
  have HX1 := Lib.hid hx1
  clear hx1
  obtain ⟨z1, z2⟩ := byte_bound x0
  have hA : (128 ≤ (x0.toNat : Int) ∧ (x0.toNat : Int) ≤ 131) ∧ (x1.toNat : Int) ≤ 127 := by omega
  obtain ⟨⟨hA1, hA2⟩, hA3⟩ := hA
  have HNM := Lib.hid (lt_of_block hp)
  have hbN := Lib.hid (show b < N from by have h1 : b < w.heap.size := Sl.lt (a := ⟨b, off + 1, none⟩) (bytes_at hv.out 1 (by omega)); have h2 := HN.out; omega)
  have C0 := Lib.hid (fun y' (k : Below N y y') => (k.cell (p := ⟨b, off, none⟩) hbN.out).trans c0)
  have C1 := Lib.hid (fun y' (k : Below N y y') => (k.cell (p := ⟨b, off + 1, none⟩) hbN.out).trans c1)
  have hM : ∃ M, M = y.heap.size := ⟨_, rfl⟩
  obtain ⟨M, hM⟩ := hM
  have HM := Lib.hid (show N < M from by have := HNM.out; omega)
  have HMQ := Lib.hid hM
  go_upto_region 9 with fail
  refine abs_k (fun y2 => PkMem y2 N 0 0 0 0 false (.slice none 0 0) ∧ PkMem y2 y.heap.size 0 0 0 0 false (.slice none 0 0) ∧ Hid (Below N y y2)) ⟨obj_old hp _, obj_new _ _, Lib.hid ((Below.refl _ _).alloc (Nat.le_of_lt HNM.out) _)⟩ ?_
  rw [← hM]
  clear hM hp c0 c1 kbw
  rintro y2 ⟨hp, hq, k2⟩
  have q2 := obj_cell hq (k := 2) rfl
  have g2 := obj_free hq 2
  go_upto_region 10 with fail
  refine abs_k (fun z => PkMem z N 0 0 0 0 false (.slice none 0 0) ∧ PkMem z M 0 0 (((x0.toNat % 4 : Nat) : Int)) 0 false (.slice none 0 0) ∧ Hid (Below N y z)) ⟨obj_other hp (by show M ≠ N; have := HM.out; omega) _, by refine (pkMem_eq (obj_set hq 2 _) ?_ rfl rfl); first | rfl | simp [Int.tmod_eq_emod], Lib.hid (Below.setCell k2.out (Nat.le_of_lt HM.out) _)⟩ ?_
  clear hp hq k2 q2 g2
  rintro y3 ⟨hp, hq, k3⟩
  have q4 := obj_cell hq (k := 4) rfl
  have g4 := obj_free hq 4
  go_upto_region 11 with fail
  refine abs_k (fun z => PkMem z N 0 0 0 0 false (.slice none 0 0) ∧ PkMem z M 0 0 (((x0.toNat % 4 : Nat) : Int)) 0 false (.slice none 0 0) ∧ Hid (Below N y z)) ⟨obj_other hp (by show M ≠ N; have := HM.out; omega) _, by refine (pkMem_eq (obj_set hq 4 _) rfl rfl ?_); first | (simp; done) | (simp; omega), Lib.hid (Below.setCell k3.out (Nat.le_of_lt HM.out) _)⟩ ?_
  clear hp hq k3 q4 g4
  rintro y4 ⟨hp, hq, k4⟩
  have q3 := obj_cell hq (k := 3) rfl
  have g3 := obj_free hq 3
  have e1 := C1.out _ k4.out
  go_upto_region 12 with fail
  refine abs_k (fun z => PkMem z N 0 0 0 0 false (.slice none 0 0) ∧ PkMem z M 0 0 (((x0.toNat % 4 : Nat) : Int)) (x1.toNat : Int) false (.slice none 0 0) ∧ Hid (Below N y z)) ⟨obj_other hp (by show M ≠ N; have := HM.out; omega) _, by refine (pkMem_eq (obj_set hq 3 _) rfl ?_ rfl); first | rfl | exact Pl.wrap_byte x1, Lib.hid (Below.setCell k4.out (Nat.le_of_lt HM.out) _)⟩ ?_
  clear hp hq k4 q3 g3 e1
  rintro y5 ⟨hp, hq, k5⟩
  have q0 := obj_cell hq (k := 0) rfl
  have g0 := obj_free hq 0
  have G := Lib.hid (refNumber_any (.slice (some ⟨b, off + 2, none⟩) 2 (cap - 2)) ((l.drop 2).take 2) y5 (by have q := SUB.out _ k5.out 2 4 2 (cap - 2) (by omega) (by omega) rfl rfl; rw [if_neg (by omega)] at q; exact q) (by simp; omega))
  have b4 : (4 : Int) ≤ (cap : Int) := by omega
  go_upto_region 13 with (first | (go_at_call 24; refine (G.out).mono ?_; rintro e w' ⟨rfl, rfl⟩) | fail)
  refine abs_k (fun z => PkMem z N 0 0 0 0 false (.slice none 0 0) ∧ PkMem z M (Pl.getB ((l.drop 2).take 2)) 0 (((x0.toNat % 4 : Nat) : Int)) (x1.toNat : Int) false (.slice none 0 0) ∧ Hid (Below N y z)) ⟨obj_other hp (by show M ≠ N; have := HM.out; omega) _, obj_set hq 0 _, Lib.hid (Below.setCell k5.out (Nat.le_of_lt HM.out) _)⟩ ?_
  clear hp hq k5 q0 g0 G
  rintro y6 ⟨hp, hq, k6⟩
  have q1 := obj_cell hq (k := 1) rfl
  have g1 := obj_free hq 1
  have G := Lib.hid (refNumber_any (.slice (some ⟨b, off + 4, none⟩) 4 (cap - 4)) ((l.drop 4).take 4) y6 (by have q := SUB.out _ k6.out 4 8 4 (cap - 4) (by omega) (by omega) rfl rfl; rw [if_neg (by omega)] at q; exact q) (by simp; omega))
  have b4 : (8 : Int) ≤ (cap : Int) := by omega
  go_upto_region 14 with (first | (go_at_call 24; refine (G.out).mono ?_; rintro e w' ⟨rfl, rfl⟩) | fail)
  refine abs_k (fun z => PkMem z N 0 0 0 0 false (.slice none 0 0) ∧ PkMem z M (Pl.getB ((l.drop 2).take 2)) (Pl.getB ((l.drop 4).take 4)) (((x0.toNat % 4 : Nat) : Int)) (x1.toNat : Int) false (.slice none 0 0) ∧ Hid (Below N y z)) ⟨obj_other hp (by show M ≠ N; have := HM.out; omega) _, obj_set hq 1 _, Lib.hid (Below.setCell k6.out (Nat.le_of_lt HM.out) _)⟩ ?_
  clear hp hq k6 q1 g1 G
  rintro y7 ⟨hp, hq, k7⟩
  have q5 := obj_cell hq (k := 5) rfl
  have g5 := obj_free hq 5
  have b8l : (8 : Int) ≤ (l.length : Int) := by omega
  have blc : (l.length : Int) ≤ (cap : Int) := by omega
  go_upto_region 15 with fail
  refine abs_k (fun z => PkMem z N 0 0 0 0 false (.slice none 0 0) ∧ PkMem z M (Pl.getB ((l.drop 2).take 2)) (Pl.getB ((l.drop 4).take 4)) (((x0.toNat % 4 : Nat) : Int)) (x1.toNat : Int) false (.slice (some ⟨b, off + 8, none⟩) (l.length - 8) (cap - 8)) ∧ Hid (Below N y z)) ⟨obj_other hp (by show M ≠ N; have := HM.out; omega) _, obj_set hq 5 _, Lib.hid (Below.setCell k7.out (Nat.le_of_lt HM.out) _)⟩ ?_
  clear hp hq k7 q5 g5
  rintro y8 ⟨hp, hq, k8⟩
  have p0 := obj_cell hp (k := 0) rfl
  have f0 := obj_free hp 0
  have q0 := obj_cell hq (k := 0) rfl
  have g0 := obj_free hq 0
  have p1 := obj_cell hp (k := 1) rfl
  have f1 := obj_free hp 1
  have q1 := obj_cell hq (k := 1) rfl
  have g1 := obj_free hq 1
  have p2 := obj_cell hp (k := 2) rfl
  have f2 := obj_free hp 2
  have q2 := obj_cell hq (k := 2) rfl
  have g2 := obj_free hq 2
  have p3 := obj_cell hp (k := 3) rfl
  have f3 := obj_free hp 3
  have q3 := obj_cell hq (k := 3) rfl
  have g3 := obj_free hq 3
  have p4 := obj_cell hp (k := 4) rfl
  have f4 := obj_free hp 4
  have q4 := obj_cell hq (k := 4) rfl
  have g4 := obj_free hq 4
  have p5 := obj_cell hp (k := 5) rfl
  have f5 := obj_free hp 5
  have q5 := obj_cell hq (k := 5) rfl
  have g5 := obj_free hq 5
  go_cut [3] (fun s3 x => s3 = .int .i64 0 ∧ PkMem x N (Pl.getB ((l.drop 2).take 2)) (Pl.getB ((l.drop 4).take 4)) (((x0.toNat % 4 : Nat) : Int)) (x1.toNat : Int) false (.slice (some ⟨b, off + 8, none⟩) (l.length - 8) (cap - 8)) ∧ Hid (Below N y x))
  case first =>
    go_wp2_with fail
    go_meet
    refine ⟨rfl, obj_set (obj_set (obj_set (obj_set (obj_set (obj_set hp 0 _) 1 _) 2 _) 3 _) 4 _) 5 _, ?_⟩
    have hl : N ≤ N := Nat.le_refl _
    have kb2 := k8.out
    exact Lib.hid (Below.setCell (Below.setCell (Below.setCell (Below.setCell (Below.setCell (Below.setCell kb2 hl _) hl _) hl _) hl _) hl _) hl _)
  case rest =>
  clear hp hq p0 p1 p2 p3 p4 p5 f0 f1 f2 f3 f4 f5 q0 q1 q2 q3 q4 q5 g0 g1 g2 g3 g4 g5
  obtain ⟨rfl, hp, k9⟩ := hcut
  have p0 := obj_cell hp (k := 0) rfl
  have p1 := obj_cell hp (k := 1) rfl
  have p2 := obj_cell hp (k := 2) rfl
  have p3 := obj_cell hp (k := 3) rfl
  have p4 := obj_cell hp (k := 4) rfl
  have p5 := obj_cell hp (k := 5) rfl
  go_wp2
  refine bodyPost_ret (v := .tuple #[pkV (Pl.getB ((l.drop 2).take 2)) (Pl.getB ((l.drop 4).take 4)) (((x0.toNat % 4 : Nat) : Int)) (x1.toNat : Int) false (.slice (some ⟨b, off + 8, none⟩) (l.length - 8) (cap - 8)), .int .i64 0]) (by simp [results, Tryd.results11, go_sem, p0, p1, p2, p3, p4, p5]) rfl ?_
  exact ⟨by rw [← HX0.out, ← HX1.out], by have h := kb.out.trans k9.out; rw [HN.out] at h; exact h⟩
set_option maxRecDepth 100000 in
set_option maxHeartbeats 2000000 in
theorem rread_good_dB (b off : Nat) (l : List UInt8) (hl8 : l.length = 8) (w : World) (hv0 : IsBytes w (.slice (some ⟨b, off, none⟩) 8 8) l) (h : 8 ≤ l.length) (h' : l.length ≤ 1008) (h1 : 128 ≤ (l.getD 0 0).toNat ∧ (l.getD 0 0).toNat ≤ 131) (h2 : (l.getD 1 0).toNat ≤ 127) :
    Calls Tryd.prog 11 #[.slice (some ⟨b, off, none⟩) 8 8] w fun e w' => e = .returned (.tuple #[pkV (Pl.getB ((l.drop 2).take 2)) (Pl.getB ((l.drop 4).take 4)) (((l.getD 0 0).toNat % 4 : Nat) : Int) ((l.getD 1 0).toNat : Int) false (.slice (some ⟨b, off, none⟩) 0 0), .int .i64 0]) ∧ Below w.heap.size w w' := by
  have hv := Lib.hid hv0
  clear hv0
  go_enter Tryd.func11, Tryd.ntmps11
  go_upto_region 1 with fail
  refine abs_k (fun y => PkMem y w.heap.size 0 0 0 0 false (.slice none 0 0) ∧ Hid (Below w.heap.size w y)) ⟨obj_new _ _, Lib.hid ((Below.refl _ _).alloc (Nat.le_refl _) _)⟩ ?_
  have hN : ∃ N, N = w.heap.size := ⟨_, rfl⟩
  obtain ⟨N, hN⟩ := hN
  have HN := Lib.hid hN
  rw [← hN]
  clear hN
  rintro y ⟨hp, kb⟩
  have kbw := kb.out
  rw [HN.out] at kbw
  have SUB := Lib.hid (fun y' (k : Below N y y') (lo hi m c : Nat) (h1 : lo ≤ hi) (h2 : hi ≤ l.length) (hm : m = hi - lo) (hc : c = 8 - lo) => sub_bytes (w := y') (hv.out.below (kbw.trans (k.mono (Nat.le_of_eq HN.out.symm)))) lo hi h1 h2 (by unfold maxLen; omega) (by omega) m c hm hc)
  have kbw := kb.out
  rw [HN.out] at kbw
  have c0 : y.cell? ⟨b, off + 0, none⟩ = some (encB (l.getD 0 0)) := bytes_at (hv.out.below kbw) 0 (by omega)
  have c1 : y.cell? ⟨b, off + 1, none⟩ = some (encB (l.getD 1 0)) := bytes_at (hv.out.below kbw) 1 (by omega)
  rw [Nat.add_zero] at c0
  clear kbw
  generalize hx0 : l.getD 0 0 = x0 at *
  have HX0 := Lib.hid hx0
  clear hx0
  generalize hx1 : l.getD 1 0 = x1 at *
  have HX1 := Lib.hid hx1
  clear hx1
  obtain ⟨z1, z2⟩ := byte_bound x0
  have hA : (128 ≤ (x0.toNat : Int) ∧ (x0.toNat : Int) ≤ 131) ∧ (x1.toNat : Int) ≤ 127 := by omega
  obtain ⟨⟨hA1, hA2⟩, hA3⟩ := hA
  have HNM := Lib.hid (lt_of_block hp)
  have hbN := Lib.hid (show b < N from by have h1 : b < w.heap.size := Sl.lt (a := ⟨b, off + 1, none⟩) (bytes_at hv.out 1 (by omega)); have h2 := HN.out; omega)
  have C0 := Lib.hid (fun y' (k : Below N y y') => (k.cell (p := ⟨b, off, none⟩) hbN.out).trans c0)
  have C1 := Lib.hid (fun y' (k : Below N y y') => (k.cell (p := ⟨b, off + 1, none⟩) hbN.out).trans c1)
  have hM : ∃ M, M = y.heap.size := ⟨_, rfl⟩
  obtain ⟨M, hM⟩ := hM
  have HM := Lib.hid (show N < M from by have := HNM.out; omega)
  have HMQ := Lib.hid hM
  go_upto_region 9 with fail
  refine abs_k (fun y2 => PkMem y2 N 0 0 0 0 false (.slice none 0 0) ∧ PkMem y2 y.heap.size 0 0 0 0 false (.slice none 0 0) ∧ Hid (Below N y y2)) ⟨obj_old hp _, obj_new _ _, Lib.hid ((Below.refl _ _).alloc (Nat.le_of_lt HNM.out) _)⟩ ?_
  rw [← hM]
  clear hM hp c0 c1 kbw
  rintro y2 ⟨hp, hq, k2⟩
  have q2 := obj_cell hq (k := 2) rfl
  have g2 := obj_free hq 2
  go_upto_region 10 with fail
  refine abs_k (fun z => PkMem z N 0 0 0 0 false (.slice none 0 0) ∧ PkMem z M 0 0 (((x0.toNat % 4 : Nat) : Int)) 0 false (.slice none 0 0) ∧ Hid (Below N y z)) ⟨obj_other hp (by show M ≠ N; have := HM.out; omega) _, by refine (pkMem_eq (obj_set hq 2 _) ?_ rfl rfl); first | rfl | simp [Int.tmod_eq_emod], Lib.hid (Below.setCell k2.out (Nat.le_of_lt HM.out) _)⟩ ?_
  clear hp hq k2 q2 g2
  rintro y3 ⟨hp, hq, k3⟩
  have q4 := obj_cell hq (k := 4) rfl
  have g4 := obj_free hq 4
  go_upto_region 11 with fail
  refine abs_k (fun z => PkMem z N 0 0 0 0 false (.slice none 0 0) ∧ PkMem z M 0 0 (((x0.toNat % 4 : Nat) : Int)) 0 false (.slice none 0 0) ∧ Hid (Below N y z)) ⟨obj_other hp (by show M ≠ N; have := HM.out; omega) _, by refine (pkMem_eq (obj_set hq 4 _) rfl rfl ?_); first | (simp; done) | (simp; omega), Lib.hid (Below.setCell k3.out (Nat.le_of_lt HM.out) _)⟩ ?_
  clear hp hq k3 q4 g4
  rintro y4 ⟨hp, hq, k4⟩
  have q3 := obj_cell hq (k := 3) rfl
  have g3 := obj_free hq 3
  have e1 := C1.out _ k4.out
  go_upto_region 12 with fail
  refine abs_k (fun z => PkMem z N 0 0 0 0 false (.slice none 0 0) ∧ PkMem z M 0 0 (((x0.toNat % 4 : Nat) : Int)) (x1.toNat : Int) false (.slice none 0 0) ∧ Hid (Below N y z)) ⟨obj_other hp (by show M ≠ N; have := HM.out; omega) _, by refine (pkMem_eq (obj_set hq 3 _) rfl ?_ rfl); first | rfl | exact Pl.wrap_byte x1, Lib.hid (Below.setCell k4.out (Nat.le_of_lt HM.out) _)⟩ ?_
  clear hp hq k4 q3 g3 e1
  rintro y5 ⟨hp, hq, k5⟩
  have q0 := obj_cell hq (k := 0) rfl
  have g0 := obj_free hq 0
  have G := Lib.hid (refNumber_any (.slice (some ⟨b, off + 2, none⟩) 2 (8 - 2)) ((l.drop 2).take 2) y5 (by have q := SUB.out _ k5.out 2 4 2 (8 - 2) (by omega) (by omega) rfl rfl; rw [if_neg (by omega)] at q; exact q) (by simp; omega))
  have b4 : (4 : Int) ≤ (8 : Int) := by omega
  go_upto_region 13 with (first | (go_at_call 24; refine (G.out).mono ?_; rintro e w' ⟨rfl, rfl⟩) | fail)
  refine abs_k (fun z => PkMem z N 0 0 0 0 false (.slice none 0 0) ∧ PkMem z M (Pl.getB ((l.drop 2).take 2)) 0 (((x0.toNat % 4 : Nat) : Int)) (x1.toNat : Int) false (.slice none 0 0) ∧ Hid (Below N y z)) ⟨obj_other hp (by show M ≠ N; have := HM.out; omega) _, obj_set hq 0 _, Lib.hid (Below.setCell k5.out (Nat.le_of_lt HM.out) _)⟩ ?_
  clear hp hq k5 q0 g0 G
  rintro y6 ⟨hp, hq, k6⟩
  have q1 := obj_cell hq (k := 1) rfl
  have g1 := obj_free hq 1
  have G := Lib.hid (refNumber_any (.slice (some ⟨b, off + 4, none⟩) 4 (8 - 4)) ((l.drop 4).take 4) y6 (by have q := SUB.out _ k6.out 4 8 4 (8 - 4) (by omega) (by omega) rfl rfl; rw [if_neg (by omega)] at q; exact q) (by simp; omega))
  have b4 : (8 : Int) ≤ (8 : Int) := by omega
  go_upto_region 14 with (first | (go_at_call 24; refine (G.out).mono ?_; rintro e w' ⟨rfl, rfl⟩) | fail)
  refine abs_k (fun z => PkMem z N 0 0 0 0 false (.slice none 0 0) ∧ PkMem z M (Pl.getB ((l.drop 2).take 2)) (Pl.getB ((l.drop 4).take 4)) (((x0.toNat % 4 : Nat) : Int)) (x1.toNat : Int) false (.slice none 0 0) ∧ Hid (Below N y z)) ⟨obj_other hp (by show M ≠ N; have := HM.out; omega) _, obj_set hq 1 _, Lib.hid (Below.setCell k6.out (Nat.le_of_lt HM.out) _)⟩ ?_
  clear hp hq k6 q1 g1 G
  rintro y7 ⟨hp, hq, k7⟩
  have q5 := obj_cell hq (k := 5) rfl
  have g5 := obj_free hq 5
  have b8l : (8 : Int) ≤ (8 : Int) := by omega
  have blc : (8 : Int) ≤ (8 : Int) := by omega
  go_upto_region 15 with fail
  refine abs_k (fun z => PkMem z N 0 0 0 0 false (.slice none 0 0) ∧ PkMem z M (Pl.getB ((l.drop 2).take 2)) (Pl.getB ((l.drop 4).take 4)) (((x0.toNat % 4 : Nat) : Int)) (x1.toNat : Int) false (.slice (some ⟨b, off, none⟩) 0 0) ∧ Hid (Below N y z)) ⟨obj_other hp (by show M ≠ N; have := HM.out; omega) _, obj_set hq 5 _, Lib.hid (Below.setCell k7.out (Nat.le_of_lt HM.out) _)⟩ ?_
  clear hp hq k7 q5 g5
  rintro y8 ⟨hp, hq, k8⟩
  have p0 := obj_cell hp (k := 0) rfl
  have f0 := obj_free hp 0
  have q0 := obj_cell hq (k := 0) rfl
  have g0 := obj_free hq 0
  have p1 := obj_cell hp (k := 1) rfl
  have f1 := obj_free hp 1
  have q1 := obj_cell hq (k := 1) rfl
  have g1 := obj_free hq 1
  have p2 := obj_cell hp (k := 2) rfl
  have f2 := obj_free hp 2
  have q2 := obj_cell hq (k := 2) rfl
  have g2 := obj_free hq 2
  have p3 := obj_cell hp (k := 3) rfl
  have f3 := obj_free hp 3
  have q3 := obj_cell hq (k := 3) rfl
  have g3 := obj_free hq 3
  have p4 := obj_cell hp (k := 4) rfl
  have f4 := obj_free hp 4
  have q4 := obj_cell hq (k := 4) rfl
  have g4 := obj_free hq 4
  have p5 := obj_cell hp (k := 5) rfl
  have f5 := obj_free hp 5
  have q5 := obj_cell hq (k := 5) rfl
  have g5 := obj_free hq 5
  go_cut [3] (fun s3 x => s3 = .int .i64 0 ∧ PkMem x N (Pl.getB ((l.drop 2).take 2)) (Pl.getB ((l.drop 4).take 4)) (((x0.toNat % 4 : Nat) : Int)) (x1.toNat : Int) false (.slice (some ⟨b, off, none⟩) 0 0) ∧ Hid (Below N y x))
  case first =>
    go_wp2_with fail
    go_meet
    refine ⟨rfl, obj_set (obj_set (obj_set (obj_set (obj_set (obj_set hp 0 _) 1 _) 2 _) 3 _) 4 _) 5 _, ?_⟩
    have hl : N ≤ N := Nat.le_refl _
    have kb2 := k8.out
    exact Lib.hid (Below.setCell (Below.setCell (Below.setCell (Below.setCell (Below.setCell (Below.setCell kb2 hl _) hl _) hl _) hl _) hl _) hl _)
  case rest =>
  clear hp hq p0 p1 p2 p3 p4 p5 f0 f1 f2 f3 f4 f5 q0 q1 q2 q3 q4 q5 g0 g1 g2 g3 g4 g5
  obtain ⟨rfl, hp, k9⟩ := hcut
  have p0 := obj_cell hp (k := 0) rfl
  have p1 := obj_cell hp (k := 1) rfl
  have p2 := obj_cell hp (k := 2) rfl
  have p3 := obj_cell hp (k := 3) rfl
  have p4 := obj_cell hp (k := 4) rfl
  have p5 := obj_cell hp (k := 5) rfl
  go_wp2
  refine bodyPost_ret (v := .tuple #[pkV (Pl.getB ((l.drop 2).take 2)) (Pl.getB ((l.drop 4).take 4)) (((x0.toNat % 4 : Nat) : Int)) (x1.toNat : Int) false (.slice (some ⟨b, off, none⟩) 0 0), .int .i64 0]) (by simp [results, Tryd.results11, go_sem, p0, p1, p2, p3, p4, p5]) rfl ?_
  exact ⟨by rw [← HX0.out, ← HX1.out], by have h := kb.out.trans k9.out; rw [HN.out] at h; exact h⟩
set_option maxRecDepth 100000 in
set_option maxHeartbeats 2000000 in
theorem rread_good_eA (b off cap : Nat) (l : List UInt8) (hlc : l.length ≤ cap) (hcm : cap ≤ 9223372036854775807) (n8 : ¬ cap = 8) (w : World) (hv0 : IsBytes w (.slice (some ⟨b, off, none⟩) l.length cap) l) (h : 8 ≤ l.length) (h' : l.length ≤ 1008) (h1 : 160 ≤ (l.getD 0 0).toNat ∧ (l.getD 0 0).toNat ≤ 163) (h2 : (l.getD 1 0).toNat ≤ 127) :
    Calls Tryd.prog 11 #[.slice (some ⟨b, off, none⟩) l.length cap] w fun e w' => e = .returned (.tuple #[pkV (Pl.getB ((l.drop 2).take 2)) (Pl.getB ((l.drop 4).take 4)) (((l.getD 0 0).toNat % 4 : Nat) : Int) ((l.getD 1 0).toNat : Int) true (.slice (some ⟨b, off + 8, none⟩) (l.length - 8) (cap - 8)), .int .i64 0]) ∧ Below w.heap.size w w' := by
  have hv := Lib.hid hv0
  clear hv0
  go_enter Tryd.func11, Tryd.ntmps11
  go_upto_region 1 with fail
  refine abs_k (fun y => PkMem y w.heap.size 0 0 0 0 false (.slice none 0 0) ∧ Hid (Below w.heap.size w y)) ⟨obj_new _ _, Lib.hid ((Below.refl _ _).alloc (Nat.le_refl _) _)⟩ ?_
  have hN : ∃ N, N = w.heap.size := ⟨_, rfl⟩
  obtain ⟨N, hN⟩ := hN
  have HN := Lib.hid hN
  rw [← hN]
  clear hN
  rintro y ⟨hp, kb⟩
  have kbw := kb.out
  rw [HN.out] at kbw
  have SUB := Lib.hid (fun y' (k : Below N y y') (lo hi m c : Nat) (h1 : lo ≤ hi) (h2 : hi ≤ l.length) (hm : m = hi - lo) (hc : c = cap - lo) => sub_bytes (w := y') (hv.out.below (kbw.trans (k.mono (Nat.le_of_eq HN.out.symm)))) lo hi h1 h2 (by unfold maxLen; omega) (by omega) m c hm hc)
  have kbw := kb.out
  rw [HN.out] at kbw
  have c0 : y.cell? ⟨b, off + 0, none⟩ = some (encB (l.getD 0 0)) := bytes_at (hv.out.below kbw) 0 (by omega)
  have c1 : y.cell? ⟨b, off + 1, none⟩ = some (encB (l.getD 1 0)) := bytes_at (hv.out.below kbw) 1 (by omega)
  rw [Nat.add_zero] at c0
  clear kbw
  generalize hx0 : l.getD 0 0 = x0 at *
  have HX0 := Lib.hid hx0
  clear hx0
  generalize hx1 : l.getD 1 0 = x1 at *
  have HX1 := Lib.hid hx1
  clear hx1
  obtain ⟨z1, z2⟩ := byte_bound x0
  have hA : (160 ≤ (x0.toNat : Int) ∧ (x0.toNat : Int) ≤ 163) ∧ (x1.toNat : Int) ≤ 127 := by omega
  obtain ⟨⟨hA1, hA2⟩, hA3⟩ := hA
  have HNM := Lib.hid (lt_of_block hp)
  have hbN := Lib.hid (show b < N from by have h1 : b < w.heap.size := Sl.lt (a := ⟨b, off + 1, none⟩) (bytes_at hv.out 1 (by omega)); have h2 := HN.out; omega)
  have C0 := Lib.hid (fun y' (k : Below N y y') => (k.cell (p := ⟨b, off, none⟩) hbN.out).trans c0)
  have C1 := Lib.hid (fun y' (k : Below N y y') => (k.cell (p := ⟨b, off + 1, none⟩) hbN.out).trans c1)
  have hM : ∃ M, M = y.heap.size := ⟨_, rfl⟩
  obtain ⟨M, hM⟩ := hM
  have HM := Lib.hid (show N < M from by have := HNM.out; omega)
  have HMQ := Lib.hid hM
  go_upto_region 9 with fail
  refine abs_k (fun y2 => PkMem y2 N 0 0 0 0 false (.slice none 0 0) ∧ PkMem y2 y.heap.size 0 0 0 0 false (.slice none 0 0) ∧ Hid (Below N y y2)) ⟨obj_old hp _, obj_new _ _, Lib.hid ((Below.refl _ _).alloc (Nat.le_of_lt HNM.out) _)⟩ ?_
  rw [← hM]
  clear hM hp c0 c1 kbw
  rintro y2 ⟨hp, hq, k2⟩
  have q2 := obj_cell hq (k := 2) rfl
  have g2 := obj_free hq 2
  go_upto_region 10 with fail
  refine abs_k (fun z => PkMem z N 0 0 0 0 false (.slice none 0 0) ∧ PkMem z M 0 0 (((x0.toNat % 4 : Nat) : Int)) 0 false (.slice none 0 0) ∧ Hid (Below N y z)) ⟨obj_other hp (by show M ≠ N; have := HM.out; omega) _, by refine (pkMem_eq (obj_set hq 2 _) ?_ rfl rfl); first | rfl | simp [Int.tmod_eq_emod], Lib.hid (Below.setCell k2.out (Nat.le_of_lt HM.out) _)⟩ ?_
  clear hp hq k2 q2 g2
  rintro y3 ⟨hp, hq, k3⟩
  have q4 := obj_cell hq (k := 4) rfl
  have g4 := obj_free hq 4
  go_upto_region 11 with fail
  refine abs_k (fun z => PkMem z N 0 0 0 0 false (.slice none 0 0) ∧ PkMem z M 0 0 (((x0.toNat % 4 : Nat) : Int)) 0 true (.slice none 0 0) ∧ Hid (Below N y z)) ⟨obj_other hp (by show M ≠ N; have := HM.out; omega) _, by refine (pkMem_eq (obj_set hq 4 _) rfl rfl ?_); first | (simp; done) | (simp; omega), Lib.hid (Below.setCell k3.out (Nat.le_of_lt HM.out) _)⟩ ?_
  clear hp hq k3 q4 g4
  rintro y4 ⟨hp, hq, k4⟩
  have q3 := obj_cell hq (k := 3) rfl
  have g3 := obj_free hq 3
  have e1 := C1.out _ k4.out
  go_upto_region 12 with fail
  refine abs_k (fun z => PkMem z N 0 0 0 0 false (.slice none 0 0) ∧ PkMem z M 0 0 (((x0.toNat % 4 : Nat) : Int)) (x1.toNat : Int) true (.slice none 0 0) ∧ Hid (Below N y z)) ⟨obj_other hp (by show M ≠ N; have := HM.out; omega) _, by refine (pkMem_eq (obj_set hq 3 _) rfl ?_ rfl); first | rfl | exact Pl.wrap_byte x1, Lib.hid (Below.setCell k4.out (Nat.le_of_lt HM.out) _)⟩ ?_
  clear hp hq k4 q3 g3 e1
  rintro y5 ⟨hp, hq, k5⟩
  have q0 := obj_cell hq (k := 0) rfl
  have g0 := obj_free hq 0
  have G := Lib.hid (refNumber_any (.slice (some ⟨b, off + 2, none⟩) 2 (cap - 2)) ((l.drop 2).take 2) y5 (by have q := SUB.out _ k5.out 2 4 2 (cap - 2) (by omega) (by omega) rfl rfl; rw [if_neg (by omega)] at q; exact q) (by simp; omega))
  have b4 : (4 : Int) ≤ (cap : Int) := by omega
  go_upto_region 13 with (first | (go_at_call 24; refine (G.out).mono ?_; rintro e w' ⟨rfl, rfl⟩) | fail)
  refine abs_k (fun z => PkMem z N 0 0 0 0 false (.slice none 0 0) ∧ PkMem z M (Pl.getB ((l.drop 2).take 2)) 0 (((x0.toNat % 4 : Nat) : Int)) (x1.toNat : Int) true (.slice none 0 0) ∧ Hid (Below N y z)) ⟨obj_other hp (by show M ≠ N; have := HM.out; omega) _, obj_set hq 0 _, Lib.hid (Below.setCell k5.out (Nat.le_of_lt HM.out) _)⟩ ?_
  clear hp hq k5 q0 g0 G
  rintro y6 ⟨hp, hq, k6⟩
  have q1 := obj_cell hq (k := 1) rfl
  have g1 := obj_free hq 1
  have G := Lib.hid (refNumber_any (.slice (some ⟨b, off + 4, none⟩) 4 (cap - 4)) ((l.drop 4).take 4) y6 (by have q := SUB.out _ k6.out 4 8 4 (cap - 4) (by omega) (by omega) rfl rfl; rw [if_neg (by omega)] at q; exact q) (by simp; omega))
  have b4 : (8 : Int) ≤ (cap : Int) := by omega
  go_upto_region 14 with (first | (go_at_call 24; refine (G.out).mono ?_; rintro e w' ⟨rfl, rfl⟩) | fail)
  refine abs_k (fun z => PkMem z N 0 0 0 0 false (.slice none 0 0) ∧ PkMem z M (Pl.getB ((l.drop 2).take 2)) (Pl.getB ((l.drop 4).take 4)) (((x0.toNat % 4 : Nat) : Int)) (x1.toNat : Int) true (.slice none 0 0) ∧ Hid (Below N y z)) ⟨obj_other hp (by show M ≠ N; have := HM.out; omega) _, obj_set hq 1 _, Lib.hid (Below.setCell k6.out (Nat.le_of_lt HM.out) _)⟩ ?_
  clear hp hq k6 q1 g1 G
  rintro y7 ⟨hp, hq, k7⟩
  have q5 := obj_cell hq (k := 5) rfl
  have g5 := obj_free hq 5
  have b8l : (8 : Int) ≤ (l.length : Int) := by omega
  have blc : (l.length : Int) ≤ (cap : Int) := by omega
  go_upto_region 15 with fail
  refine abs_k (fun z => PkMem z N 0 0 0 0 false (.slice none 0 0) ∧ PkMem z M (Pl.getB ((l.drop 2).take 2)) (Pl.getB ((l.drop 4).take 4)) (((x0.toNat % 4 : Nat) : Int)) (x1.toNat : Int) true (.slice (some ⟨b, off + 8, none⟩) (l.length - 8) (cap - 8)) ∧ Hid (Below N y z)) ⟨obj_other hp (by show M ≠ N; have := HM.out; omega) _, obj_set hq 5 _, Lib.hid (Below.setCell k7.out (Nat.le_of_lt HM.out) _)⟩ ?_
  clear hp hq k7 q5 g5
  rintro y8 ⟨hp, hq, k8⟩
  have p0 := obj_cell hp (k := 0) rfl
  have f0 := obj_free hp 0
  have q0 := obj_cell hq (k := 0) rfl
  have g0 := obj_free hq 0
  have p1 := obj_cell hp (k := 1) rfl
  have f1 := obj_free hp 1
  have q1 := obj_cell hq (k := 1) rfl
  have g1 := obj_free hq 1
  have p2 := obj_cell hp (k := 2) rfl
  have f2 := obj_free hp 2
  have q2 := obj_cell hq (k := 2) rfl
  have g2 := obj_free hq 2
  have p3 := obj_cell hp (k := 3) rfl
  have f3 := obj_free hp 3
  have q3 := obj_cell hq (k := 3) rfl
  have g3 := obj_free hq 3
  have p4 := obj_cell hp (k := 4) rfl
  have f4 := obj_free hp 4
  have q4 := obj_cell hq (k := 4) rfl
  have g4 := obj_free hq 4
  have p5 := obj_cell hp (k := 5) rfl
  have f5 := obj_free hp 5
  have q5 := obj_cell hq (k := 5) rfl
  have g5 := obj_free hq 5
  go_cut [3] (fun s3 x => s3 = .int .i64 0 ∧ PkMem x N (Pl.getB ((l.drop 2).take 2)) (Pl.getB ((l.drop 4).take 4)) (((x0.toNat % 4 : Nat) : Int)) (x1.toNat : Int) true (.slice (some ⟨b, off + 8, none⟩) (l.length - 8) (cap - 8)) ∧ Hid (Below N y x))
  case first =>
    go_wp2_with fail
    go_meet
    refine ⟨rfl, obj_set (obj_set (obj_set (obj_set (obj_set (obj_set hp 0 _) 1 _) 2 _) 3 _) 4 _) 5 _, ?_⟩
    have hl : N ≤ N := Nat.le_refl _
    have kb2 := k8.out
    exact Lib.hid (Below.setCell (Below.setCell (Below.setCell (Below.setCell (Below.setCell (Below.setCell kb2 hl _) hl _) hl _) hl _) hl _) hl _)
  case rest =>
  clear hp hq p0 p1 p2 p3 p4 p5 f0 f1 f2 f3 f4 f5 q0 q1 q2 q3 q4 q5 g0 g1 g2 g3 g4 g5
  obtain ⟨rfl, hp, k9⟩ := hcut
  have p0 := obj_cell hp (k := 0) rfl
  have p1 := obj_cell hp (k := 1) rfl
  have p2 := obj_cell hp (k := 2) rfl
  have p3 := obj_cell hp (k := 3) rfl
  have p4 := obj_cell hp (k := 4) rfl
  have p5 := obj_cell hp (k := 5) rfl
  go_wp2
  refine bodyPost_ret (v := .tuple #[pkV (Pl.getB ((l.drop 2).take 2)) (Pl.getB ((l.drop 4).take 4)) (((x0.toNat % 4 : Nat) : Int)) (x1.toNat : Int) true (.slice (some ⟨b, off + 8, none⟩) (l.length - 8) (cap - 8)), .int .i64 0]) (by simp [results, Tryd.results11, go_sem, p0, p1, p2, p3, p4, p5]) rfl ?_
  exact ⟨by rw [← HX0.out, ← HX1.out], by have h := kb.out.trans k9.out; rw [HN.out] at h; exact h⟩
set_option maxRecDepth 100000 in
set_option maxHeartbeats 2000000 in
theorem rread_good_eB (b off : Nat) (l : List UInt8) (hl8 : l.length = 8) (w : World) (hv0 : IsBytes w (.slice (some ⟨b, off, none⟩) 8 8) l) (h : 8 ≤ l.length) (h' : l.length ≤ 1008) (h1 : 160 ≤ (l.getD 0 0).toNat ∧ (l.getD 0 0).toNat ≤ 163) (h2 : (l.getD 1 0).toNat ≤ 127) :
    Calls Tryd.prog 11 #[.slice (some ⟨b, off, none⟩) 8 8] w fun e w' => e = .returned (.tuple #[pkV (Pl.getB ((l.drop 2).take 2)) (Pl.getB ((l.drop 4).take 4)) (((l.getD 0 0).toNat % 4 : Nat) : Int) ((l.getD 1 0).toNat : Int) true (.slice (some ⟨b, off, none⟩) 0 0), .int .i64 0]) ∧ Below w.heap.size w w' := by
  have hv := Lib.hid hv0
  clear hv0
  go_enter Tryd.func11, Tryd.ntmps11
  go_upto_region 1 with fail
  refine abs_k (fun y => PkMem y w.heap.size 0 0 0 0 false (.slice none 0 0) ∧ Hid (Below w.heap.size w y)) ⟨obj_new _ _, Lib.hid ((Below.refl _ _).alloc (Nat.le_refl _) _)⟩ ?_
  have hN : ∃ N, N = w.heap.size := ⟨_, rfl⟩
  obtain ⟨N, hN⟩ := hN
  have HN := Lib.hid hN
  rw [← hN]
  clear hN
  rintro y ⟨hp, kb⟩
  have kbw := kb.out
  rw [HN.out] at kbw
  have SUB := Lib.hid (fun y' (k : Below N y y') (lo hi m c : Nat) (h1 : lo ≤ hi) (h2 : hi ≤ l.length) (hm : m = hi - lo) (hc : c = 8 - lo) => sub_bytes (w := y') (hv.out.below (kbw.trans (k.mono (Nat.le_of_eq HN.out.symm)))) lo hi h1 h2 (by unfold maxLen; omega) (by omega) m c hm hc)
  have kbw := kb.out
  rw [HN.out] at kbw
  have c0 : y.cell? ⟨b, off + 0, none⟩ = some (encB (l.getD 0 0)) := bytes_at (hv.out.below kbw) 0 (by omega)
  have c1 : y.cell? ⟨b, off + 1, none⟩ = some (encB (l.getD 1 0)) := bytes_at (hv.out.below kbw) 1 (by omega)
  rw [Nat.add_zero] at c0
  clear kbw
  generalize hx0 : l.getD 0 0 = x0 at *
  have HX0 := Lib.hid hx0
  clear hx0
  generalize hx1 : l.getD 1 0 = x1 at *
  have HX1 := Lib.hid hx1
  clear hx1
  obtain ⟨z1, z2⟩ := byte_bound x0
  have hA : (160 ≤ (x0.toNat : Int) ∧ (x0.toNat : Int) ≤ 163) ∧ (x1.toNat : Int) ≤ 127 := by omega
  obtain ⟨⟨hA1, hA2⟩, hA3⟩ := hA
  have HNM := Lib.hid (lt_of_block hp)
  have hbN := Lib.hid (show b < N from by have h1 : b < w.heap.size := Sl.lt (a := ⟨b, off + 1, none⟩) (bytes_at hv.out 1 (by omega)); have h2 := HN.out; omega)
  have C0 := Lib.hid (fun y' (k : Below N y y') => (k.cell (p := ⟨b, off, none⟩) hbN.out).trans c0)
  have C1 := Lib.hid (fun y' (k : Below N y y') => (k.cell (p := ⟨b, off + 1, none⟩) hbN.out).trans c1)
  have hM : ∃ M, M = y.heap.size := ⟨_, rfl⟩
  obtain ⟨M, hM⟩ := hM
  have HM := Lib.hid (show N < M from by have := HNM.out; omega)
  have HMQ := Lib.hid hM
  go_upto_region 9 with fail
  refine abs_k (fun y2 => PkMem y2 N 0 0 0 0 false (.slice none 0 0) ∧ PkMem y2 y.heap.size 0 0 0 0 false (.slice none 0 0) ∧ Hid (Below N y y2)) ⟨obj_old hp _, obj_new _ _, Lib.hid ((Below.refl _ _).alloc (Nat.le_of_lt HNM.out) _)⟩ ?_
  rw [← hM]
  clear hM hp c0 c1 kbw
  rintro y2 ⟨hp, hq, k2⟩
  have q2 := obj_cell hq (k := 2) rfl
  have g2 := obj_free hq 2
  go_upto_region 10 with fail
  refine abs_k (fun z => PkMem z N 0 0 0 0 false (.slice none 0 0) ∧ PkMem z M 0 0 (((x0.toNat % 4 : Nat) : Int)) 0 false (.slice none 0 0) ∧ Hid (Below N y z)) ⟨obj_other hp (by show M ≠ N; have := HM.out; omega) _, by refine (pkMem_eq (obj_set hq 2 _) ?_ rfl rfl); first | rfl | simp [Int.tmod_eq_emod], Lib.hid (Below.setCell k2.out (Nat.le_of_lt HM.out) _)⟩ ?_
  clear hp hq k2 q2 g2
  rintro y3 ⟨hp, hq, k3⟩
  have q4 := obj_cell hq (k := 4) rfl
  have g4 := obj_free hq 4
  go_upto_region 11 with fail
  refine abs_k (fun z => PkMem z N 0 0 0 0 false (.slice none 0 0) ∧ PkMem z M 0 0 (((x0.toNat % 4 : Nat) : Int)) 0 true (.slice none 0 0) ∧ Hid (Below N y z)) ⟨obj_other hp (by show M ≠ N; have := HM.out; omega) _, by refine (pkMem_eq (obj_set hq 4 _) rfl rfl ?_); first | (simp; done) | (simp; omega), Lib.hid (Below.setCell k3.out (Nat.le_of_lt HM.out) _)⟩ ?_
  clear hp hq k3 q4 g4
  rintro y4 ⟨hp, hq, k4⟩
  have q3 := obj_cell hq (k := 3) rfl
  have g3 := obj_free hq 3
  have e1 := C1.out _ k4.out
  go_upto_region 12 with fail
  refine abs_k (fun z => PkMem z N 0 0 0 0 false (.slice none 0 0) ∧ PkMem z M 0 0 (((x0.toNat % 4 : Nat) : Int)) (x1.toNat : Int) true (.slice none 0 0) ∧ Hid (Below N y z)) ⟨obj_other hp (by show M ≠ N; have := HM.out; omega) _, by refine (pkMem_eq (obj_set hq 3 _) rfl ?_ rfl); first | rfl | exact Pl.wrap_byte x1, Lib.hid (Below.setCell k4.out (Nat.le_of_lt HM.out) _)⟩ ?_
  clear hp hq k4 q3 g3 e1
  rintro y5 ⟨hp, hq, k5⟩
  have q0 := obj_cell hq (k := 0) rfl
  have g0 := obj_free hq 0
  have G := Lib.hid (refNumber_any (.slice (some ⟨b, off + 2, none⟩) 2 (8 - 2)) ((l.drop 2).take 2) y5 (by have q := SUB.out _ k5.out 2 4 2 (8 - 2) (by omega) (by omega) rfl rfl; rw [if_neg (by omega)] at q; exact q) (by simp; omega))
  have b4 : (4 : Int) ≤ (8 : Int) := by omega
  go_upto_region 13 with (first | (go_at_call 24; refine (G.out).mono ?_; rintro e w' ⟨rfl, rfl⟩) | fail)
  refine abs_k (fun z => PkMem z N 0 0 0 0 false (.slice none 0 0) ∧ PkMem z M (Pl.getB ((l.drop 2).take 2)) 0 (((x0.toNat % 4 : Nat) : Int)) (x1.toNat : Int) true (.slice none 0 0) ∧ Hid (Below N y z)) ⟨obj_other hp (by show M ≠ N; have := HM.out; omega) _, obj_set hq 0 _, Lib.hid (Below.setCell k5.out (Nat.le_of_lt HM.out) _)⟩ ?_
  clear hp hq k5 q0 g0 G
  rintro y6 ⟨hp, hq, k6⟩
  have q1 := obj_cell hq (k := 1) rfl
  have g1 := obj_free hq 1
  have G := Lib.hid (refNumber_any (.slice (some ⟨b, off + 4, none⟩) 4 (8 - 4)) ((l.drop 4).take 4) y6 (by have q := SUB.out _ k6.out 4 8 4 (8 - 4) (by omega) (by omega) rfl rfl; rw [if_neg (by omega)] at q; exact q) (by simp; omega))
  have b4 : (8 : Int) ≤ (8 : Int) := by omega
  go_upto_region 14 with (first | (go_at_call 24; refine (G.out).mono ?_; rintro e w' ⟨rfl, rfl⟩) | fail)
  refine abs_k (fun z => PkMem z N 0 0 0 0 false (.slice none 0 0) ∧ PkMem z M (Pl.getB ((l.drop 2).take 2)) (Pl.getB ((l.drop 4).take 4)) (((x0.toNat % 4 : Nat) : Int)) (x1.toNat : Int) true (.slice none 0 0) ∧ Hid (Below N y z)) ⟨obj_other hp (by show M ≠ N; have := HM.out; omega) _, obj_set hq 1 _, Lib.hid (Below.setCell k6.out (Nat.le_of_lt HM.out) _)⟩ ?_
  clear hp hq k6 q1 g1 G
  rintro y7 ⟨hp, hq, k7⟩
  have q5 := obj_cell hq (k := 5) rfl
  have g5 := obj_free hq 5
  have b8l : (8 : Int) ≤ (8 : Int) := by omega
  have blc : (8 : Int) ≤ (8 : Int) := by omega
  go_upto_region 15 with fail
  refine abs_k (fun z => PkMem z N 0 0 0 0 false (.slice none 0 0) ∧ PkMem z M (Pl.getB ((l.drop 2).take 2)) (Pl.getB ((l.drop 4).take 4)) (((x0.toNat % 4 : Nat) : Int)) (x1.toNat : Int) true (.slice (some ⟨b, off, none⟩) 0 0) ∧ Hid (Below N y z)) ⟨obj_other hp (by show M ≠ N; have := HM.out; omega) _, obj_set hq 5 _, Lib.hid (Below.setCell k7.out (Nat.le_of_lt HM.out) _)⟩ ?_
  clear hp hq k7 q5 g5
  rintro y8 ⟨hp, hq, k8⟩
  have p0 := obj_cell hp (k := 0) rfl
  have f0 := obj_free hp 0
  have q0 := obj_cell hq (k := 0) rfl
  have g0 := obj_free hq 0
  have p1 := obj_cell hp (k := 1) rfl
  have f1 := obj_free hp 1
  have q1 := obj_cell hq (k := 1) rfl
  have g1 := obj_free hq 1
  have p2 := obj_cell hp (k := 2) rfl
  have f2 := obj_free hp 2
  have q2 := obj_cell hq (k := 2) rfl
  have g2 := obj_free hq 2
  have p3 := obj_cell hp (k := 3) rfl
  have f3 := obj_free hp 3
  have q3 := obj_cell hq (k := 3) rfl
  have g3 := obj_free hq 3
  have p4 := obj_cell hp (k := 4) rfl
  have f4 := obj_free hp 4
  have q4 := obj_cell hq (k := 4) rfl
  have g4 := obj_free hq 4
  have p5 := obj_cell hp (k := 5) rfl
  have f5 := obj_free hp 5
  have q5 := obj_cell hq (k := 5) rfl
  have g5 := obj_free hq 5
  go_cut [3] (fun s3 x => s3 = .int .i64 0 ∧ PkMem x N (Pl.getB ((l.drop 2).take 2)) (Pl.getB ((l.drop 4).take 4)) (((x0.toNat % 4 : Nat) : Int)) (x1.toNat : Int) true (.slice (some ⟨b, off, none⟩) 0 0) ∧ Hid (Below N y x))
  case first =>
    go_wp2_with fail
    go_meet
    refine ⟨rfl, obj_set (obj_set (obj_set (obj_set (obj_set (obj_set hp 0 _) 1 _) 2 _) 3 _) 4 _) 5 _, ?_⟩
    have hl : N ≤ N := Nat.le_refl _
    have kb2 := k8.out
    exact Lib.hid (Below.setCell (Below.setCell (Below.setCell (Below.setCell (Below.setCell (Below.setCell kb2 hl _) hl _) hl _) hl _) hl _) hl _)
  case rest =>
  clear hp hq p0 p1 p2 p3 p4 p5 f0 f1 f2 f3 f4 f5 q0 q1 q2 q3 q4 q5 g0 g1 g2 g3 g4 g5
  obtain ⟨rfl, hp, k9⟩ := hcut
  have p0 := obj_cell hp (k := 0) rfl
  have p1 := obj_cell hp (k := 1) rfl
  have p2 := obj_cell hp (k := 2) rfl
  have p3 := obj_cell hp (k := 3) rfl
  have p4 := obj_cell hp (k := 4) rfl
  have p5 := obj_cell hp (k := 5) rfl
  go_wp2
  refine bodyPost_ret (v := .tuple #[pkV (Pl.getB ((l.drop 2).take 2)) (Pl.getB ((l.drop 4).take 4)) (((x0.toNat % 4 : Nat) : Int)) (x1.toNat : Int) true (.slice (some ⟨b, off, none⟩) 0 0), .int .i64 0]) (by simp [results, Tryd.results11, go_sem, p0, p1, p2, p3, p4, p5]) rfl ?_
  exact ⟨by rw [← HX0.out, ← HX1.out], by have h := kb.out.trans k9.out; rw [HN.out] at h; exact h⟩
theorem rread_any (v : Value) (l : List UInt8) (w : World) (hv : IsBytes w v l) :
    Calls Tryd.prog 11 #[v] w fun e w' => ∃ s t ly lv st oa n c, e = .returned (.tuple #[pkV s t ly lv st (.slice oa n c), .int .i64 (Pl.readFault l)]) ∧ Hid ((Pl.readFault l ≠ 0 → (s = 0 ∧ t = 0 ∧ ly = 0 ∧ lv = 0 ∧ st = false ∧ oa = none ∧ n = 0 ∧ c = 0)) ∧ (Pl.readFault l = 0 → s = Pl.getB ((l.drop 2).take 2) ∧ t = Pl.getB ((l.drop 4).take 4) ∧ ly = Pl.rdLayer (Pl.bAt l 0) ∧ lv = ((Pl.bAt l 1).toNat : Int) ∧ st = Pl.rdStart (Pl.bAt l 0) ∧ IsBytes w (.slice oa n c) (l.drop 8))) ∧ Below w.heap.size w w' := by
  unfold Pl.readFault
  by_cases h8 : l.length < 8
  · rw [if_pos h8]
    exact (rread_short v l w hv h8).mono (fun e w' ⟨he, hk⟩ => ⟨0, 0, 0, 0, false, none, 0, 0, he, Lib.hid ⟨fun _ => ⟨rfl, rfl, rfl, rfl, rfl, rfl, rfl, rfl⟩, fun h => by cases h⟩, hk⟩)
  rw [if_neg h8]
  obtain ⟨b, off, cap, rfl, hlc, hcm, hcel⟩ := bytes_long hv (by omega)
  have hcm2 : cap ≤ 9223372036854775807 := by unfold maxLen at hcm; exact hcm
  by_cases hb : Pl.headBad (l.getD 0 0) (l.getD 1 0) = true
  · rw [if_pos hb]
    have R : Calls Tryd.prog 11 #[.slice (some ⟨b, off, none⟩) l.length cap] w fun e w' => e = .returned (.tuple #[zeroPk, .int .i64 2]) ∧ Below w.heap.size w w' := by
      have h3 := (Pl.headBad_ref _ _).1 hb
      by_cases a1 : (l.getD 0 0).toNat < 128
      · exact rread_syn_a b off cap l hlc hcm2 w hv (by omega) a1
      by_cases a2 : 163 < (l.getD 0 0).toNat
      · exact rread_syn_c b off cap l hlc hcm2 w hv (by omega) a2
      by_cases a3 : 131 < (l.getD 0 0).toNat ∧ (l.getD 0 0).toNat < 160
      · exact rread_syn_b b off cap l hlc hcm2 w hv (by omega) a3
      by_cases a4 : (l.getD 0 0).toNat ≤ 131
      · exact rread_syn_d b off cap l hlc hcm2 w hv (by omega) ⟨by omega, a4⟩ (by omega)
      · exact rread_syn_e b off cap l hlc hcm2 w hv (by omega) ⟨by omega, by omega⟩ (by omega)
    exact R.mono (fun e w' ⟨he, hk⟩ => ⟨0, 0, 0, 0, false, none, 0, 0, he, Lib.hid ⟨fun _ => ⟨rfl, rfl, rfl, rfl, rfl, rfl, rfl, rfl⟩, fun h => by cases h⟩, hk⟩)
  rw [if_neg hb]
  have h3 := fun h => hb ((Pl.headBad_ref _ _).2 h)
  have hx1 : (l.getD 1 0).toNat ≤ 127 := by
    by_cases q : (l.getD 1 0).toNat ≤ 127
    · exact q
    · exact absurd (.inr (by omega)) h3
  have hx0 : (128 ≤ (l.getD 0 0).toNat ∧ (l.getD 0 0).toNat ≤ 131) ∨ (160 ≤ (l.getD 0 0).toNat ∧ (l.getD 0 0).toNat ≤ 163) := by
    by_cases q : (128 ≤ (l.getD 0 0).toNat ∧ (l.getD 0 0).toNat ≤ 131) ∨ (160 ≤ (l.getD 0 0).toNat ∧ (l.getD 0 0).toNat ≤ 163)
    · exact q
    · exact absurd (.inl (by omega)) h3
  by_cases hf : 1008 < l.length
  · rw [if_pos hf]
    have R : Calls Tryd.prog 11 #[.slice (some ⟨b, off, none⟩) l.length cap] w fun e w' => e = .returned (.tuple #[zeroPk, .int .i64 4]) ∧ Below w.heap.size w w' := by
      rcases hx0 with a1 | a1
      · exact rread_full_d b off cap l hlc hcm2 w hv hf a1 hx1
      · exact rread_full_e b off cap l hlc hcm2 w hv hf a1 hx1
    exact R.mono (fun e w' ⟨he, hk⟩ => ⟨0, 0, 0, 0, false, none, 0, 0, he, Lib.hid ⟨fun _ => ⟨rfl, rfl, rfl, rfl, rfl, rfl, rfl, rfl⟩, fun h => by cases h⟩, hk⟩)
  rw [if_neg hf]
  have R : ∃ oa n c, IsBytes w (.slice oa n c) (l.drop 8) ∧ Calls Tryd.prog 11 #[.slice (some ⟨b, off, none⟩) l.length cap] w fun e w' => e = .returned (.tuple #[pkV (Pl.getB ((l.drop 2).take 2)) (Pl.getB ((l.drop 4).take 4)) (((l.getD 0 0).toNat % 4 : Nat) : Int) ((l.getD 1 0).toNat : Int) (Pl.rdStart (Pl.bAt l 0)) (.slice oa n c), .int .i64 0]) ∧ Below w.heap.size w w' := by
    by_cases n8 : cap = 8
    · subst n8
      have hl8 : l.length = 8 := by omega
      refine ⟨some ⟨b, off, none⟩, 0, 0, ?_, ?_⟩
      · have q := sub_bytes hv 8 8 (by omega) (by omega) hcm hlc 0 0 rfl rfl
        rw [if_pos rfl, List.take_of_length_le (by simp; omega)] at q
        exact q
      · rw [hl8] at hv ⊢
        rcases hx0 with a1 | a1
        · rw [Pl.rs_low (Pl.bAt l 0) a1.1 a1.2]
          exact rread_good_dB b off l hl8 w hv (by omega) (by omega) a1 hx1
        · rw [Pl.rs_high (Pl.bAt l 0) a1.1 a1.2]
          exact rread_good_eB b off l hl8 w hv (by omega) (by omega) a1 hx1
    · refine ⟨some ⟨b, off + 8, none⟩, l.length - 8, cap - 8, ?_, ?_⟩
      · have q := sub_bytes hv 8 l.length (by omega) (by omega) hcm hlc (l.length - 8) (cap - 8) rfl rfl
        rw [if_neg n8, List.take_of_length_le (by simp)] at q
        exact q
      · rcases hx0 with a1 | a1
        · rw [Pl.rs_low (Pl.bAt l 0) a1.1 a1.2]
          exact rread_good_dA b off cap l hlc hcm2 n8 w hv (by omega) (by omega) a1 hx1
        · rw [Pl.rs_high (Pl.bAt l 0) a1.1 a1.2]
          exact rread_good_eA b off cap l hlc hcm2 n8 w hv (by omega) (by omega) a1 hx1
  obtain ⟨oa, n, c, q, R⟩ := R
  exact R.mono (fun e w' ⟨he, hk⟩ => ⟨_, _, _, _, _, oa, n, c, he, Lib.hid ⟨fun h => absurd rfl h, fun _ => ⟨rfl, rfl, Pl.rd_lay _, rfl, rfl, q⟩⟩, hk⟩)
end Go.Proofs.YtbjanihblffmoaaDoor
