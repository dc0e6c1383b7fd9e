import Derived.Test.YticihmkgdabgiaaDoorFrameRB
import Derived.Deep.DeepCutAuto
/-! The reference's ReadFrame; frame.Read all together. -/
namespace Go.Proofs.YticihmkgdabgiaaDoor
open Go.RowKit
set_option linter.unusedVariables false
set_option linter.unusedSimpArgs false
namespace Pl
def rdT (l : List UInt8) : Int := if frReadFault l = 0 then ((bAt (opened l) 1).toNat : Int) else 0
def rdO (l : List UInt8) : Int := if frReadFault l = 0 then ((bAt (opened l) 2).toNat : Int) else 0
def rdE (l : List UInt8) : Int := if frReadFault l = 0 then getB (((opened l).drop 4).take 2) else 0
def rdH (l : List UInt8) : Int := if frReadFault l = 0 then ((bAt (opened l) 3).toNat : Int) else 0
def rdX (l : List UInt8) : List UInt8 := if frReadFault l = 0 then (opened l).drop 6 else []
structure FrGood (l : List UInt8) : Prop where
  op : openFault l = 0
  len : 6 < (opened l).length
  b70 : bAt (opened l) 0 = 70
  ok : frFault ((bAt (opened l) 1).toNat : Int) ((bAt (opened l) 2).toNat : Int) (getB (((opened l).drop 4).take 2)) ((bAt (opened l) 3).toNat : Int) ((opened l).drop 6) = 0
theorem frGood {l : List UInt8} (h : frReadFault l = 0) : FrGood l := by
  unfold frReadFault at h
  split at h
  · rename_i h1; exact absurd h h1
  · split at h
    · cases h
    · split at h
      · cases h
      · rename_i h1 h2 h3
        have q := read_ok (frFault_ok h).2
        rw [List.length_drop] at q
        exact ⟨by omega, by omega, by
          by_cases q2 : bAt (opened l) 0 = 70
          · exact q2
          · exact absurd q2 h3, h⟩
theorem rd_ok {l : List UInt8} (h : frReadFault l = 0) : frFault (rdT l) (rdO l) (rdE l) (rdH l) (rdX l) = 0 := by
  unfold rdT rdO rdE rdH rdX
  rw [if_pos h, if_pos h, if_pos h, if_pos h, if_pos h]
  exact (frGood h).ok
theorem rd_bad {l : List UInt8} (h : frReadFault l ≠ 0) : rdT l = 0 ∧ rdO l = 0 ∧ rdE l = 0 ∧ rdH l = 0 ∧ rdX l = [] := by
  unfold rdT rdO rdE rdH rdX
  rw [if_neg h, if_neg h, if_neg h, if_neg h, if_neg h]
  exact ⟨rfl, rfl, rfl, rfl, rfl⟩
end Pl
/-- the error of a fault's number -/
def errK (k : Int) : Value := if k = 0 then .nilIface else .iface 73 (.int .i64 k)
theorem errK_hit {k : Int} (h : k ≠ 0) : errK k = .iface 73 (.int .i64 k) := by unfold errK; rw [if_neg h]
theorem fread_any (v : Value) (l : List UInt8) (w : World) (hv : IsBytes w v l) (hb : l.length ≤ 100000000) :
    Calls Tryd.prog 11 #[v] w fun e w' => ∃ oa n c, e = .returned (.tuple #[frV (Pl.rdT l) (Pl.rdO l) (Pl.rdE l) (Pl.rdH l) (.slice oa n c), errK (Pl.frReadFault l)]) ∧ IsBytes w' (.slice oa n c) (Pl.rdX l) ∧ Below w.heap.size w w' := by
  by_cases h : Pl.frReadFault l = 0
  · have G := Pl.frGood h
    have R := fread_ok v l _ w hv hb G.op rfl G.len G.b70 G.ok
    refine R.mono fun e w' ⟨oa, n, c, h1, h2, h3, _⟩ => ⟨oa, n, c, ?_, ?_, h3⟩
    · unfold Pl.rdT Pl.rdO Pl.rdE Pl.rdH
      rw [if_pos h, if_pos h, if_pos h, if_pos h, h]
      exact h1
    · unfold Pl.rdX
      rw [if_pos h]
      exact h2
  · obtain ⟨e1, e2, e3, e4, e5⟩ := Pl.rd_bad h
    rw [e1, e2, e3, e4, e5, errK_hit h]
    exact (fread_fault v l w hv hb h).mono fun e w' ⟨h1, h2⟩ => ⟨none, 0, 0, h1, Sl.nil _, h2⟩
theorem ropen_good (v : Value) (l : List UInt8) (w : World) (hv : IsBytes w v l) (h : Pl.openFault l = 0) : ∃ b off m cap, (Pl.opened l).length = m ∧ m + 4 ≤ cap ∧ cap ≤ maxLen ∧ IsBytes w (.slice (some ⟨b, off, none⟩) m cap) (Pl.opened l) ∧ (m = 0 ∨ b < w.heap.size) ∧
    ∀ y, Below w.heap.size w y → Calls Tryd.prog 35 #[v] y fun e w' => e = .returned (.tuple #[.slice (some ⟨b, off, none⟩) m cap, .int .i64 0]) ∧ Below y.heap.size y w' := by
  unfold Pl.openFault at h
  by_cases h4 : l.length < 4
  · rw [if_pos h4] at h; cases h
  rw [if_neg h4] at h
  obtain ⟨b, off, cap, rfl, hlc, hcm, _⟩ := bytes_long hv (by omega)
  obtain ⟨n, hn⟩ : ∃ n, l.length = n + 4 := ⟨l.length - 4, by omega⟩
  have e : Pl.opened l = l.take n := by unfold Pl.opened; congr 1; omega
  rw [e] at h ⊢
  have hlt : (l.take n).length = n := by simp; omega
  by_cases hs : Pl.sealB (l.take n) = l
  · rw [hn] at hv hlc ⊢
    refine ⟨b, off, n, cap, hlt, by omega, hcm, Sl.take (fun i hi => by rw [bytes_at hv i hi]; simp [List.getD, hi]) (by omega) (by omega) hcm, .inr (Sl.lt (a := ⟨b, off + 1, none⟩) (bytes_at hv 1 (by omega))), fun y k => ?_⟩
    exact (ropen_long b off n cap l hn (by omega) hcm y (hv.below k)).mono fun e w' ⟨h1, _, k⟩ => ⟨h1 hs, k⟩
  · rw [if_neg hs] at h; cases h
set_option maxRecDepth 100000 in
set_option maxHeartbeats 2000000 in
theorem rfr_open (v : Value) (l : List UInt8) (w : World) (hv : IsBytes w v l) (k : Int) (hk : Pl.openFault l = k) (h : k ≠ 0) :
    Calls Tryd.prog 18 #[v] w fun e w' => e = .returned (.tuple #[zeroFr, .int .i64 k]) ∧ Below w.heap.size w w' := by
  have O := Lib.hid (fun y (kk : Below w.heap.size w y) => ropen_any v l y (hv.below kk))
  rw [hk] at O
  have d : (k == 0) = false := by rw [beq_eq_false_iff_ne]; exact h
  have HK := Lib.hid h
  clear h hv hk
  go_enter Tryd.func18, Tryd.ntmps18
  go_upto_region 1 with fail
  refine abs_b (fun y => FrMem y w.heap.size 0 0 0 0 (.slice none 0 0) ∧ Hid (Below w.heap.size w y)) ⟨obj_new _ _, Lib.hid ((Below.refl _ _).alloc (Nat.le_refl _) _)⟩ ?_
  have hN : ∃ N, N = w.heap.size := ⟨_, rfl⟩
  obtain ⟨N, hN⟩ := hN
  rw [← hN] at O ⊢
  have HN := Lib.hid hN
  clear hN
  rintro y ⟨hp, kb⟩
  have HP := Lib.hid hp
  clear hp
  go_upto_region 3 with (go_at_call 35; refine (O.out _ kb.out).mono ?_; rintro e y2 ⟨oa, n, c, rfl, -, k2⟩)
  have hp : FrMem y2 N 0 0 0 0 (.slice none 0 0) := Below.heapAt k2 HP.out (lt_of_block HP.out)
  have kb2 := Lib.hid (kb.out.trans (k2.mono (Nat.le_of_lt (lt_of_block HP.out))))
  clear k2 kb HP
  have p0 := obj_cell hp (k := 0) rfl
  have p1 := obj_cell hp (k := 1) rfl
  have p2 := obj_cell hp (k := 2) rfl
  have p3 := obj_cell hp (k := 3) rfl
  have p4 := obj_cell hp (k := 4) rfl
  have f0 := obj_free hp 0
  have f1 := obj_free hp 1
  have f2 := obj_free hp 2
  have f3 := obj_free hp 3
  have f4 := obj_free hp 4
  go_cut [3] (fun s3 x => s3 = .int .i64 k ∧ FrMem x N 0 0 0 0 (.slice none 0 0) ∧ Hid (Below N w x))
  case first =>
    go_wp2_with fail
    go_meet
    refine ⟨rfl, obj_set (obj_set (obj_set (obj_set (obj_set hp 0 _) 1 _) 2 _) 3 _) 4 _, ?_⟩
    have hl : N ≤ N := Nat.le_refl _
    exact Lib.hid (Below.setCell (Below.setCell (Below.setCell (Below.setCell (Below.setCell kb2.out hl _) hl _) hl _) hl _) hl _)
  case rest =>
  clear hp kb2 p0 p1 p2 p3 p4 f0 f1 f2 f3 f4
  obtain ⟨rfl, hp, kb⟩ := hcut
  have p0 := obj_cell hp (k := 0) rfl
  have p1 := obj_cell hp (k := 1) rfl
  have p2 := obj_cell hp (k := 2) rfl
  have p3 := obj_cell hp (k := 3) rfl
  have p4 := obj_cell hp (k := 4) rfl
  go_wp2
  refine bodyPost_ret (v := .tuple #[zeroFr, .int .i64 k]) (by simp [results, Tryd.results18, go_sem, p0, p1, p2, p3, p4]) rfl ?_
  exact ⟨rfl, by have h := kb.out; rw [HN.out] at h; exact h⟩
set_option maxRecDepth 100000 in
set_option maxHeartbeats 2000000 in
theorem rfr_short (v : Value) (l x : List UInt8) (w : World) (hv : IsBytes w v l) (h : Pl.openFault l = 0) (hx : Pl.opened l = x) (hl : x.length < 6) :
    Calls Tryd.prog 18 #[v] w fun e w' => e = .returned (.tuple #[zeroFr, .int .i64 8]) ∧ Below w.heap.size w w' := by
  obtain ⟨b, off, m, cap, hm, q1, q2, hr, hb, O⟩ := ropen_good v l w hv h
  have O := Lib.hid O
  rw [hx] at hm hr
  have HM := Lib.hid hm
  have HR := Lib.hid hr
  have Q2 := Lib.hid q2
  have hcm := q2
  unfold maxLen at hcm
  clear h hv hx hr q2
  rw [hm] at hl
  clear hm
  go_enter Tryd.func18, Tryd.ntmps18
  go_upto_region 1 with fail
  refine abs_b (fun y => FrMem y w.heap.size 0 0 0 0 (.slice none 0 0) ∧ Hid (Below w.heap.size w y)) ⟨obj_new _ _, Lib.hid ((Below.refl _ _).alloc (Nat.le_refl _) _)⟩ ?_
  have hN : ∃ N, N = w.heap.size := ⟨_, rfl⟩
  obtain ⟨N, hN⟩ := hN
  rw [← hN] at O hb ⊢
  have HN := Lib.hid hN
  clear hN
  rintro y ⟨hp, kb⟩
  have HP := Lib.hid hp
  clear hp
  have O2 := Lib.hid ((O.out _ kb.out).mono (fun e y2 ⟨he, k2⟩ => (show e = Ending.returned (.tuple #[.slice (some ⟨b, off, none⟩) m cap, .int .i64 0]) ∧ Hid (IsBytes y2 (.slice (some ⟨b, off, none⟩) m cap) x) ∧ Hid (FrMem y2 N 0 0 0 0 (.slice none 0 0)) ∧ Hid (Below N w y2) from by
    have hNy := lt_of_block HP.out
    have K := kb.out.trans (k2.mono (Nat.le_of_lt hNy))
    exact ⟨he, Lib.hid (HR.out.below (by rw [← HN.out]; exact K)), Lib.hid (Below.heapAt k2 HP.out hNy), Lib.hid K⟩)))
  clear O kb HP
  go_upto_region 5 with (go_at_call 35; refine O2.out.mono ?_; rintro e y2 ⟨rfl, -, HP, kb2⟩)
  have hp := HP.out
  clear HP
  have p0 := obj_cell hp (k := 0) rfl
  have p1 := obj_cell hp (k := 1) rfl
  have p2 := obj_cell hp (k := 2) rfl
  have p3 := obj_cell hp (k := 3) rfl
  have p4 := obj_cell hp (k := 4) rfl
  have f0 := obj_free hp 0
  have f1 := obj_free hp 1
  have f2 := obj_free hp 2
  have f3 := obj_free hp 3
  have f4 := obj_free hp 4
  go_cut [3] (fun s3 x => s3 = .int .i64 8 ∧ FrMem x N 0 0 0 0 (.slice none 0 0) ∧ Hid (Below N w x))
  case first =>
    go_wp2_with fail
    go_meet
    refine ⟨rfl, obj_set (obj_set (obj_set (obj_set (obj_set hp 0 _) 1 _) 2 _) 3 _) 4 _, ?_⟩
    have hl : N ≤ N := Nat.le_refl _
    exact Lib.hid (Below.setCell (Below.setCell (Below.setCell (Below.setCell (Below.setCell kb2.out hl _) hl _) hl _) hl _) hl _)
  case rest =>
  clear hp kb2 p0 p1 p2 p3 p4 f0 f1 f2 f3 f4
  obtain ⟨rfl, hp, kb⟩ := hcut
  have p0 := obj_cell hp (k := 0) rfl
  have p1 := obj_cell hp (k := 1) rfl
  have p2 := obj_cell hp (k := 2) rfl
  have p3 := obj_cell hp (k := 3) rfl
  have p4 := obj_cell hp (k := 4) rfl
  go_wp2
  refine bodyPost_ret (v := .tuple #[zeroFr, .int .i64 8]) (by simp [results, Tryd.results18, go_sem, p0, p1, p2, p3, p4]) rfl ?_
  exact ⟨rfl, by have h := kb.out; rw [HN.out] at h; exact h⟩
set_option maxRecDepth 100000 in
set_option maxHeartbeats 2000000 in
theorem rfr_sign (v : Value) (l x : List UInt8) (w : World) (hv : IsBytes w v l) (h : Pl.openFault l = 0) (hx : Pl.opened l = x) (hl : 6 ≤ x.length) (h70 : Pl.bAt x 0 ≠ 70) :
    Calls Tryd.prog 18 #[v] w fun e w' => e = .returned (.tuple #[zeroFr, .int .i64 2]) ∧ Below w.heap.size w w' := by
  obtain ⟨b, off, m, cap, hm, q1, q2, hr, hb, O⟩ := ropen_good v l w hv h
  have O := Lib.hid O
  rw [hx] at hm hr
  have HM := Lib.hid hm
  have HR := Lib.hid hr
  have Q2 := Lib.hid q2
  have hcm := q2
  unfold maxLen at hcm
  clear h hv hx hr q2
  rw [hm] at hl
  clear hm
  have d : (((Pl.bAt x 0).toNat : Int) == 70) = false := by
    rw [beq_eq_false_iff_ne]
    intro h2
    exact h70 (UInt8.toNat_inj.1 (by show (Pl.bAt x 0).toNat = 70; omega))
  have HD := Lib.hid d
  clear h70 d
  go_enter Tryd.func18, Tryd.ntmps18
  go_upto_region 1 with fail
  refine abs_b (fun y => FrMem y w.heap.size 0 0 0 0 (.slice none 0 0) ∧ Hid (Below w.heap.size w y)) ⟨obj_new _ _, Lib.hid ((Below.refl _ _).alloc (Nat.le_refl _) _)⟩ ?_
  have hN : ∃ N, N = w.heap.size := ⟨_, rfl⟩
  obtain ⟨N, hN⟩ := hN
  rw [← hN] at O hb ⊢
  have HN := Lib.hid hN
  clear hN
  rintro y ⟨hp, kb⟩
  have HP := Lib.hid hp
  clear hp
  have O2 := Lib.hid ((O.out _ kb.out).mono (fun e y2 ⟨he, k2⟩ => (show e = Ending.returned (.tuple #[.slice (some ⟨b, off, none⟩) m cap, .int .i64 0]) ∧ Hid (IsBytes y2 (.slice (some ⟨b, off, none⟩) m cap) x) ∧ Hid (FrMem y2 N 0 0 0 0 (.slice none 0 0)) ∧ Hid (Below N w y2) from by
    have hNy := lt_of_block HP.out
    have K := kb.out.trans (k2.mono (Nat.le_of_lt hNy))
    exact ⟨he, Lib.hid (HR.out.below (by rw [← HN.out]; exact K)), Lib.hid (Below.heapAt k2 HP.out hNy), Lib.hid K⟩)))
  clear O kb HP
  go_upto_region 6 with (go_at_call 35; refine O2.out.mono ?_; rintro e y2 ⟨rfl, hr, HP, kb2⟩)
  have c0 : y2.cell? ⟨b, off + 0, none⟩ = some (encB (Pl.bAt x 0)) := bytes_at hr.out 0 (by rw [HM.out]; omega)
  rw [Nat.add_zero] at c0
  have d := HD.out
  clear HD
  generalize Pl.bAt x 0 = x0 at *
  go_upto_region 7 with fail
  have hp := HP.out
  clear HP
  have p0 := obj_cell hp (k := 0) rfl
  have p1 := obj_cell hp (k := 1) rfl
  have p2 := obj_cell hp (k := 2) rfl
  have p3 := obj_cell hp (k := 3) rfl
  have p4 := obj_cell hp (k := 4) rfl
  have f0 := obj_free hp 0
  have f1 := obj_free hp 1
  have f2 := obj_free hp 2
  have f3 := obj_free hp 3
  have f4 := obj_free hp 4
  go_cut [3] (fun s3 x => s3 = .int .i64 2 ∧ FrMem x N 0 0 0 0 (.slice none 0 0) ∧ Hid (Below N w x))
  case first =>
    go_wp2_with fail
    go_meet
    refine ⟨rfl, obj_set (obj_set (obj_set (obj_set (obj_set hp 0 _) 1 _) 2 _) 3 _) 4 _, ?_⟩
    have hl : N ≤ N := Nat.le_refl _
    exact Lib.hid (Below.setCell (Below.setCell (Below.setCell (Below.setCell (Below.setCell kb2.out hl _) hl _) hl _) hl _) hl _)
  case rest =>
  clear hp kb2 p0 p1 p2 p3 p4 f0 f1 f2 f3 f4
  obtain ⟨rfl, hp, kb⟩ := hcut
  have p0 := obj_cell hp (k := 0) rfl
  have p1 := obj_cell hp (k := 1) rfl
  have p2 := obj_cell hp (k := 2) rfl
  have p3 := obj_cell hp (k := 3) rfl
  have p4 := obj_cell hp (k := 4) rfl
  go_wp2
  refine bodyPost_ret (v := .tuple #[zeroFr, .int .i64 2]) (by simp [results, Tryd.results18, go_sem, p0, p1, p2, p3, p4]) rfl ?_
  exact ⟨rfl, by have h := kb.out; rw [HN.out] at h; exact h⟩
set_option maxRecDepth 100000 in
set_option maxHeartbeats 4000000 in
theorem rfr_bad (v : Value) (l x : List UInt8) (w : World) (hv : IsBytes w v l) (h : Pl.openFault l = 0) (hx : Pl.opened l = x) (hl : 6 ≤ x.length) (h70 : Pl.bAt x 0 = 70) (k : Int)
    (hk : Pl.frFault ((Pl.bAt x 1).toNat : Int) ((Pl.bAt x 2).toNat : Int) (Pl.getB ((x.drop 4).take 2)) ((Pl.bAt x 3).toNat : Int) (x.drop 6) = k) (hf : k ≠ 0) :
    Calls Tryd.prog 18 #[v] w fun e w' => e = .returned (.tuple #[zeroFr, .int .i64 k]) ∧ Below w.heap.size w w' := by
  obtain ⟨b, off, m, cap, hm, q1, q2, hr, hb, O⟩ := ropen_good v l w hv h
  have O := Lib.hid O
  rw [hx] at hm hr
  have HM := Lib.hid hm
  have HR := Lib.hid hr
  have Q2 := Lib.hid q2
  have hcm := q2
  unfold maxLen at hcm
  clear h hv hx hr q2
  rw [hm] at hl
  clear hm
  have HK := Lib.hid hk
  have d : (k == 0) = false := by rw [beq_eq_false_iff_ne]; exact hf
  have HF := Lib.hid hf
  clear hf
  have H70 := Lib.hid h70
  clear h70 hk
  have E1 := Lib.hid (Pl.wrap_byte (Pl.bAt x 1))
  have E2 := Lib.hid (Pl.wrap_byte (Pl.bAt x 2))
  have E3 := Lib.hid (Pl.wrap_byte (Pl.bAt x 3))
  go_enter Tryd.func18, Tryd.ntmps18
  go_upto_region 1 with fail
  refine abs_b (fun y => FrMem y w.heap.size 0 0 0 0 (.slice none 0 0) ∧ Hid (Below w.heap.size w y)) ⟨obj_new _ _, Lib.hid ((Below.refl _ _).alloc (Nat.le_refl _) _)⟩ ?_
  have hN : ∃ N, N = w.heap.size := ⟨_, rfl⟩
  obtain ⟨N, hN⟩ := hN
  rw [← hN] at O hb ⊢
  have HN := Lib.hid hN
  clear hN
  rintro y ⟨hp, kb⟩
  have HP := Lib.hid hp
  clear hp
  have O2 := Lib.hid ((O.out _ kb.out).mono (fun e y2 ⟨he, k2⟩ => (show e = Ending.returned (.tuple #[.slice (some ⟨b, off, none⟩) m cap, .int .i64 0]) ∧ Hid (IsBytes y2 (.slice (some ⟨b, off, none⟩) m cap) x) ∧ Hid (FrMem y2 N 0 0 0 0 (.slice none 0 0)) ∧ Hid (Below N w y2) from by
    have hNy := lt_of_block HP.out
    have K := kb.out.trans (k2.mono (Nat.le_of_lt hNy))
    exact ⟨he, Lib.hid (HR.out.below (by rw [← HN.out]; exact K)), Lib.hid (Below.heapAt k2 HP.out hNy), Lib.hid K⟩)))
  clear O kb HP
  have d0 : Pl.bAt x 0 = 70 := H70.out
  go_upto_region 6 with (go_at_call 35; refine O2.out.mono ?_; rintro e y2 ⟨rfl, hr, HP, kb⟩)
  have c0 : y2.cell? ⟨b, off + 0, none⟩ = some (encB (Pl.bAt x 0)) := bytes_at hr.out 0 (by rw [HM.out]; omega)
  rw [Nat.add_zero, d0] at c0
  clear d0
  go_upto_region 8 with fail
  clear c0
  have BLT := Lib.hid (show b < y2.heap.size from Sl.lt (a := ⟨b, off + 1, none⟩) (bytes_at hr.out 1 (by rw [HM.out]; omega)))
  have c1 : y2.cell? ⟨b, off + 1, none⟩ = some (encB (Pl.bAt x 1)) := bytes_at hr.out 1 (by rw [HM.out]; omega)
  have c2 : y2.cell? ⟨b, off + 2, none⟩ = some (encB (Pl.bAt x 2)) := bytes_at hr.out 2 (by rw [HM.out]; omega)
  have c3 : y2.cell? ⟨b, off + 3, none⟩ = some (encB (Pl.bAt x 3)) := bytes_at hr.out 3 (by rw [HM.out]; omega)
  generalize hx1 : Pl.bAt x 1 = x1 at *
  generalize hx2 : Pl.bAt x 2 = x2 at *
  generalize hx3 : Pl.bAt x 3 = x3 at *
  have HX := Lib.hid (And.intro hx1 (And.intro hx2 hx3))
  have SOF := Lib.hid (show ∀ w', Below y2.heap.size y2 w' → (w'.cell? ⟨b, off + 1, none⟩ = some (encB x1) ∧ w'.cell? ⟨b, off + 2, none⟩ = some (encB x2) ∧ w'.cell? ⟨b, off + 3, none⟩ = some (encB x3) ∧ Below y2.heap.size y2 w') from fun w' h => ⟨(h.cell BLT.out).trans c1, (h.cell BLT.out).trans c2, (h.cell BLT.out).trans c3, h⟩)
  clear hx1 hx2 hx3
  have n4 : ¬ (cap = 4) := by omega
  have n6 : ¬ (cap = 6) := by omega
  have SUB := Lib.hid (fun w' (h : Below y2.heap.size y2 w') (lo hi mm c : Nat) (h1 : lo ≤ hi) (h2 : hi ≤ m) (hm : mm = hi - lo) (hc : c = cap - lo) => sub_bytes (hr.out.below h) lo hi h1 (by rw [HM.out]; exact h2) Q2.out (by rw [HM.out]; omega) mm c hm hc)
  have G4 := Lib.hid (fun w' (h : Below y2.heap.size y2 w') => refNumber_any (.slice (some ⟨b, off + 4, none⟩) 2 (cap - 4)) ((x.drop 4).take 2) w' (by have q := SUB.out w' h 4 6 2 (cap - 4) (by omega) (by omega) rfl rfl; rw [if_neg n4] at q; exact q) (by simp; omega))
  have B6 := Lib.hid (show IsBytes y2 (.slice (some ⟨b, off + 6, none⟩) (m - 6) (cap - 6)) (x.drop 6) from by have q := SUB.out y2 (Below.refl _ _) 6 m (m - 6) (cap - 6) (by omega) (by omega) rfl rfl; rw [if_neg n6, List.take_of_length_le (by rw [List.length_drop, HM.out]; exact Nat.le_refl _)] at q; exact q)
  have b4 : (6 : Int) ≤ (cap : Int) := by omega
  have b6 : (6 : Int) ≤ (m : Int) := by omega
  have b1 : (1 : Int) < (m : Int) := by omega
  have b2 : (2 : Int) < (m : Int) := by omega
  have b3 : (3 : Int) < (m : Int) := by omega
  have blc : (m : Int) ≤ (cap : Int) := by omega
  have HL := Lib.hid (Nat.le_refl y2.heap.size)
  have kk := Below.refl y2.heap.size y2
  clear hb
  go_cut [6] (fun s5 z => s5 = .pointer (some ⟨y2.heap.size, 0, none⟩) ∧ Hid (IsBytes z (.slice (some ⟨b, off + 6, none⟩) (m - 6) (cap - 6)) (x.drop 6)) ∧ FrMem z y2.heap.size (x1.toNat : Int) (x2.toNat : Int) (Pl.getB ((x.drop 4).take 2)) (x3.toNat : Int) (.slice (some ⟨b, off + 6, none⟩) (m - 6) (cap - 6)) ∧ Hid (Below y2.heap.size y2 z))
  case first =>
    go_region_held3 (fun w' => w'.cell? ⟨b, off + 1, none⟩ = some (encB x1) ∧ w'.cell? ⟨b, off + 2, none⟩ = some (encB x2) ∧ w'.cell? ⟨b, off + 3, none⟩ = some (encB x3) ∧ Below y2.heap.size y2 w')
      (first | (with_reducible assumption) | (go_split_ands; refine SOF.out _ ?_; (repeat' (first | (with_reducible assumption) | (with_reducible exact HL.out) | (with_reducible apply Below.drew) | (with_reducible apply Below.setCell) | (with_reducible apply Below.alloc)))))
      (first
      | (go_at_call 45; go_split_ands; (with_reducible refine (G4.out _ (by with_reducible assumption)).mono ?_); rintro e w' ⟨rfl, rfl⟩)
      | fail)
    all_goals go_wp2_with fail
    all_goals go_meet
    all_goals
      refine ⟨rfl, Lib.hid (B6.out.below (Below.drew (Below.alloc kk HL.out _))), frMem_eq (t := IntKind.i64.wrap (x1.toNat : Int)) (o := IntKind.i64.wrap (x2.toNat : Int)) (h := IntKind.i64.wrap (x3.toNat : Int)) (obj_drew (obj_new _ _)) E1.out E2.out rfl E3.out, Lib.hid (Below.drew (Below.alloc kk HL.out _))⟩
  case rest =>
  clear kk c1 c2 c3 SOF SUB G4 E1 E2 E3
  obtain ⟨rfl, HB, fm, kz⟩ := hcut
  have HPz := Lib.hid (Below.heapAt kz.out HP.out (lt_of_block HP.out))
  have HNY := Lib.hid (lt_of_block HP.out)
  have KB := Lib.hid (kb.out.trans (kz.out.mono (Nat.le_of_lt HNY.out)))
  have FM := Lib.hid fm
  have p0 := obj_cell fm (k := 0) rfl
  have p1 := obj_cell fm (k := 1) rfl
  have p2 := obj_cell fm (k := 2) rfl
  have p3 := obj_cell fm (k := 3) rfl
  have p4 := obj_cell fm (k := 4) rfl
  have CK := Lib.hid (refFrame_any (x1.toNat : Int) (x2.toNat : Int) (Pl.getB ((x.drop 4).take 2)) (x3.toNat : Int) _ _ _ HB.out)
  rw [HK.out] at CK
  clear B6 HP kb kz hr fm
  generalize y2.heap.size = Y at *
  go_upto_region 11 with (go_at_call 15; refine CK.out.mono ?_; rintro e z2 ⟨rfl, k2⟩)
  have hp := Below.heapAt k2 HPz.out (lt_of_block HPz.out)
  have kb2 := Lib.hid (KB.out.trans (k2.mono (Nat.le_of_lt (lt_of_block HPz.out))))
  clear p0 p1 p2 p3 p4 k2 CK KB HB
  have p0 := obj_cell hp (k := 0) rfl
  have p1 := obj_cell hp (k := 1) rfl
  have p2 := obj_cell hp (k := 2) rfl
  have p3 := obj_cell hp (k := 3) rfl
  have p4 := obj_cell hp (k := 4) rfl
  have f0 := obj_free hp 0
  have f1 := obj_free hp 1
  have f2 := obj_free hp 2
  have f3 := obj_free hp 3
  have f4 := obj_free hp 4
  go_cut [3] (fun s3 x => s3 = .int .i64 k ∧ FrMem x N 0 0 0 0 (.slice none 0 0) ∧ Hid (Below N w x))
  case first =>
    go_wp2_with fail
    go_meet
    refine ⟨rfl, obj_set (obj_set (obj_set (obj_set (obj_set hp 0 _) 1 _) 2 _) 3 _) 4 _, ?_⟩
    have hl : N ≤ N := Nat.le_refl _
    exact Lib.hid (Below.setCell (Below.setCell (Below.setCell (Below.setCell (Below.setCell kb2.out hl _) hl _) hl _) hl _) hl _)
  case rest =>
  clear hp kb2 p0 p1 p2 p3 p4 f0 f1 f2 f3 f4
  obtain ⟨rfl, hp, kb⟩ := hcut
  have p0 := obj_cell hp (k := 0) rfl
  have p1 := obj_cell hp (k := 1) rfl
  have p2 := obj_cell hp (k := 2) rfl
  have p3 := obj_cell hp (k := 3) rfl
  have p4 := obj_cell hp (k := 4) rfl
  go_wp2
  refine bodyPost_ret (v := .tuple #[zeroFr, .int .i64 k]) (by simp [results, Tryd.results18, go_sem, p0, p1, p2, p3, p4]) rfl ?_
  exact ⟨rfl, by have h := kb.out; rw [HN.out] at h; exact h⟩
set_option maxRecDepth 100000 in
set_option maxHeartbeats 4000000 in
theorem rfr_ok (v : Value) (l x : List UInt8) (w : World) (hv : IsBytes w v l) (h : Pl.openFault l = 0) (hx : Pl.opened l = x) (hl : 6 ≤ x.length) (h70 : Pl.bAt x 0 = 70)
    (hk : Pl.frFault ((Pl.bAt x 1).toNat : Int) ((Pl.bAt x 2).toNat : Int) (Pl.getB ((x.drop 4).take 2)) ((Pl.bAt x 3).toNat : Int) (x.drop 6) = 0) :
    Calls Tryd.prog 18 #[v] w fun e w' => ∃ oa n c, e = .returned (.tuple #[frV ((Pl.bAt x 1).toNat : Int) ((Pl.bAt x 2).toNat : Int) (Pl.getB ((x.drop 4).take 2)) ((Pl.bAt x 3).toNat : Int) (.slice oa n c), .int .i64 0]) ∧ IsBytes w' (.slice oa n c) (x.drop 6) ∧ Below w.heap.size w w' := by
  obtain ⟨b, off, m, cap, hm, q1, q2, hr, hb, O⟩ := ropen_good v l w hv h
  have O := Lib.hid O
  rw [hx] at hm hr
  have HM := Lib.hid hm
  have HR := Lib.hid hr
  have Q2 := Lib.hid q2
  have hcm := q2
  unfold maxLen at hcm
  clear h hv hx hr q2
  rw [hm] at hl
  clear hm
  have HK := Lib.hid hk
  have HBW := Lib.hid (show b < w.heap.size by omega)
  have H70 := Lib.hid h70
  clear h70 hk
  have E1 := Lib.hid (Pl.wrap_byte (Pl.bAt x 1))
  have E2 := Lib.hid (Pl.wrap_byte (Pl.bAt x 2))
  have E3 := Lib.hid (Pl.wrap_byte (Pl.bAt x 3))
  go_enter Tryd.func18, Tryd.ntmps18
  go_upto_region 1 with fail
  refine abs_b (fun y => FrMem y w.heap.size 0 0 0 0 (.slice none 0 0) ∧ Hid (Below w.heap.size w y)) ⟨obj_new _ _, Lib.hid ((Below.refl _ _).alloc (Nat.le_refl _) _)⟩ ?_
  have hN : ∃ N, N = w.heap.size := ⟨_, rfl⟩
  obtain ⟨N, hN⟩ := hN
  rw [← hN] at O hb ⊢
  have HN := Lib.hid hN
  clear hN
  rintro y ⟨hp, kb⟩
  have HP := Lib.hid hp
  clear hp
  have O2 := Lib.hid ((O.out _ kb.out).mono (fun e y2 ⟨he, k2⟩ => (show e = Ending.returned (.tuple #[.slice (some ⟨b, off, none⟩) m cap, .int .i64 0]) ∧ Hid (IsBytes y2 (.slice (some ⟨b, off, none⟩) m cap) x) ∧ Hid (FrMem y2 N 0 0 0 0 (.slice none 0 0)) ∧ Hid (Below N w y2) from by
    have hNy := lt_of_block HP.out
    have K := kb.out.trans (k2.mono (Nat.le_of_lt hNy))
    exact ⟨he, Lib.hid (HR.out.below (by rw [← HN.out]; exact K)), Lib.hid (Below.heapAt k2 HP.out hNy), Lib.hid K⟩)))
  clear O kb HP
  have d0 : Pl.bAt x 0 = 70 := H70.out
  go_upto_region 6 with (go_at_call 35; refine O2.out.mono ?_; rintro e y2 ⟨rfl, hr, HP, kb⟩)
  have c0 : y2.cell? ⟨b, off + 0, none⟩ = some (encB (Pl.bAt x 0)) := bytes_at hr.out 0 (by rw [HM.out]; omega)
  rw [Nat.add_zero, d0] at c0
  clear d0
  go_upto_region 8 with fail
  clear c0
  have BLT := Lib.hid (show b < y2.heap.size from Sl.lt (a := ⟨b, off + 1, none⟩) (bytes_at hr.out 1 (by rw [HM.out]; omega)))
  have c1 : y2.cell? ⟨b, off + 1, none⟩ = some (encB (Pl.bAt x 1)) := bytes_at hr.out 1 (by rw [HM.out]; omega)
  have c2 : y2.cell? ⟨b, off + 2, none⟩ = some (encB (Pl.bAt x 2)) := bytes_at hr.out 2 (by rw [HM.out]; omega)
  have c3 : y2.cell? ⟨b, off + 3, none⟩ = some (encB (Pl.bAt x 3)) := bytes_at hr.out 3 (by rw [HM.out]; omega)
  generalize hx1 : Pl.bAt x 1 = x1 at *
  generalize hx2 : Pl.bAt x 2 = x2 at *
  generalize hx3 : Pl.bAt x 3 = x3 at *
  have HX := Lib.hid (And.intro hx1 (And.intro hx2 hx3))
  have SOF := Lib.hid (show ∀ w', Below y2.heap.size y2 w' → (w'.cell? ⟨b, off + 1, none⟩ = some (encB x1) ∧ w'.cell? ⟨b, off + 2, none⟩ = some (encB x2) ∧ w'.cell? ⟨b, off + 3, none⟩ = some (encB x3) ∧ Below y2.heap.size y2 w') from fun w' h => ⟨(h.cell BLT.out).trans c1, (h.cell BLT.out).trans c2, (h.cell BLT.out).trans c3, h⟩)
  clear hx1 hx2 hx3
  have n4 : ¬ (cap = 4) := by omega
  have n6 : ¬ (cap = 6) := by omega
  have SUB := Lib.hid (fun w' (h : Below y2.heap.size y2 w') (lo hi mm c : Nat) (h1 : lo ≤ hi) (h2 : hi ≤ m) (hm : mm = hi - lo) (hc : c = cap - lo) => sub_bytes (hr.out.below h) lo hi h1 (by rw [HM.out]; exact h2) Q2.out (by rw [HM.out]; omega) mm c hm hc)
  have G4 := Lib.hid (fun w' (h : Below y2.heap.size y2 w') => refNumber_any (.slice (some ⟨b, off + 4, none⟩) 2 (cap - 4)) ((x.drop 4).take 2) w' (by have q := SUB.out w' h 4 6 2 (cap - 4) (by omega) (by omega) rfl rfl; rw [if_neg n4] at q; exact q) (by simp; omega))
  have B6 := Lib.hid (show IsBytes y2 (.slice (some ⟨b, off + 6, none⟩) (m - 6) (cap - 6)) (x.drop 6) from by have q := SUB.out y2 (Below.refl _ _) 6 m (m - 6) (cap - 6) (by omega) (by omega) rfl rfl; rw [if_neg n6, List.take_of_length_le (by rw [List.length_drop, HM.out]; exact Nat.le_refl _)] at q; exact q)
  have b4 : (6 : Int) ≤ (cap : Int) := by omega
  have b6 : (6 : Int) ≤ (m : Int) := by omega
  have b1 : (1 : Int) < (m : Int) := by omega
  have b2 : (2 : Int) < (m : Int) := by omega
  have b3 : (3 : Int) < (m : Int) := by omega
  have blc : (m : Int) ≤ (cap : Int) := by omega
  have HL := Lib.hid (Nat.le_refl y2.heap.size)
  have kk := Below.refl y2.heap.size y2
  clear hb
  go_cut [6] (fun s5 z => s5 = .pointer (some ⟨y2.heap.size, 0, none⟩) ∧ Hid (IsBytes z (.slice (some ⟨b, off + 6, none⟩) (m - 6) (cap - 6)) (x.drop 6)) ∧ FrMem z y2.heap.size (x1.toNat : Int) (x2.toNat : Int) (Pl.getB ((x.drop 4).take 2)) (x3.toNat : Int) (.slice (some ⟨b, off + 6, none⟩) (m - 6) (cap - 6)) ∧ Hid (Below y2.heap.size y2 z))
  case first =>
    go_region_held3 (fun w' => w'.cell? ⟨b, off + 1, none⟩ = some (encB x1) ∧ w'.cell? ⟨b, off + 2, none⟩ = some (encB x2) ∧ w'.cell? ⟨b, off + 3, none⟩ = some (encB x3) ∧ Below y2.heap.size y2 w')
      (first | (with_reducible assumption) | (go_split_ands; refine SOF.out _ ?_; (repeat' (first | (with_reducible assumption) | (with_reducible exact HL.out) | (with_reducible apply Below.drew) | (with_reducible apply Below.setCell) | (with_reducible apply Below.alloc)))))
      (first
      | (go_at_call 45; go_split_ands; (with_reducible refine (G4.out _ (by with_reducible assumption)).mono ?_); rintro e w' ⟨rfl, rfl⟩)
      | fail)
    all_goals go_wp2_with fail
    all_goals go_meet
    all_goals
      refine ⟨rfl, Lib.hid (B6.out.below (Below.drew (Below.alloc kk HL.out _))), frMem_eq (t := IntKind.i64.wrap (x1.toNat : Int)) (o := IntKind.i64.wrap (x2.toNat : Int)) (h := IntKind.i64.wrap (x3.toNat : Int)) (obj_drew (obj_new _ _)) E1.out E2.out rfl E3.out, Lib.hid (Below.drew (Below.alloc kk HL.out _))⟩
  case rest =>
  clear kk c1 c2 c3 SOF SUB G4 E1 E2 E3
  obtain ⟨rfl, HB, fm, kz⟩ := hcut
  have HPz := Lib.hid (Below.heapAt kz.out HP.out (lt_of_block HP.out))
  have HNY := Lib.hid (lt_of_block HP.out)
  have KB := Lib.hid (kb.out.trans (kz.out.mono (Nat.le_of_lt HNY.out)))
  have FM := Lib.hid fm
  have p0 := obj_cell fm (k := 0) rfl
  have p1 := obj_cell fm (k := 1) rfl
  have p2 := obj_cell fm (k := 2) rfl
  have p3 := obj_cell fm (k := 3) rfl
  have p4 := obj_cell fm (k := 4) rfl
  have CK := Lib.hid (refFrame_any (x1.toNat : Int) (x2.toNat : Int) (Pl.getB ((x.drop 4).take 2)) (x3.toNat : Int) _ _ _ HB.out)
  rw [HK.out] at CK
  clear B6 HP kb kz hr fm
  generalize y2.heap.size = Y at *
  go_upto_region 12 with (go_at_call 15; refine CK.out.mono ?_; rintro e z2 ⟨rfl, k2⟩)
  have hp := Below.heapAt k2 HPz.out (lt_of_block HPz.out)
  have fm := Below.heapAt k2 FM.out (lt_of_block FM.out)
  have hb2 := Lib.hid (HB.out.below k2)
  have kb2 := Lib.hid (KB.out.trans (k2.mono (Nat.le_of_lt (lt_of_block HPz.out))))
  clear p0 p1 p2 p3 p4 k2 CK KB HB
  have p0 := obj_cell fm (k := 0) rfl
  have p1 := obj_cell fm (k := 1) rfl
  have p2 := obj_cell fm (k := 2) rfl
  have p3 := obj_cell fm (k := 3) rfl
  have p4 := obj_cell fm (k := 4) rfl
  have r0 := obj_cell hp (k := 0) rfl
  have r1 := obj_cell hp (k := 1) rfl
  have r2 := obj_cell hp (k := 2) rfl
  have r3 := obj_cell hp (k := 3) rfl
  have r4 := obj_cell hp (k := 4) rfl
  have f0 := obj_free hp 0
  have f1 := obj_free hp 1
  have f2 := obj_free hp 2
  have f3 := obj_free hp 3
  have f4 := obj_free hp 4
  go_cut [3] (fun s3 q => s3 = .int .i64 0 ∧ FrMem q N (x1.toNat : Int) (x2.toNat : Int) (Pl.getB ((x.drop 4).take 2)) (x3.toNat : Int) (.slice (some ⟨b, off + 6, none⟩) (m - 6) (cap - 6)) ∧ Hid (IsBytes q (.slice (some ⟨b, off + 6, none⟩) (m - 6) (cap - 6)) (x.drop 6)) ∧ Hid (Below N w q))
  case first =>
    go_wp2_with fail
    go_meet
    refine ⟨rfl, obj_set (obj_set (obj_set (obj_set (obj_set hp 0 _) 1 _) 2 _) 3 _) 4 _, ?_, ?_⟩
    · refine Lib.hid (hb2.out.keep (fun a ha hx => ?_))
      have e : b = a.block := hx _ _ _ rfl _ rfl
      have ne : a.block ≠ N := by rw [← e]; have := HBW.out; have := HN.out; omega
      rw [cell_set ne, cell_set ne, cell_set ne, cell_set ne, cell_set ne]
    · have hl : N ≤ N := Nat.le_refl _
      exact Lib.hid (Below.setCell (Below.setCell (Below.setCell (Below.setCell (Below.setCell kb2.out hl _) hl _) hl _) hl _) hl _)
  case rest =>
  clear fm hp kb2 hb2 p0 p1 p2 p3 p4 r0 r1 r2 r3 r4 f0 f1 f2 f3 f4
  obtain ⟨rfl, hp, hb2, kb⟩ := hcut
  have p0 := obj_cell hp (k := 0) rfl
  have p1 := obj_cell hp (k := 1) rfl
  have p2 := obj_cell hp (k := 2) rfl
  have p3 := obj_cell hp (k := 3) rfl
  have p4 := obj_cell hp (k := 4) rfl
  obtain ⟨hx1, hx2, hx3⟩ := HX.out
  go_wp2
  refine bodyPost_ret (v := .tuple #[frV (x1.toNat : Int) (x2.toNat : Int) (Pl.getB ((x.drop 4).take 2)) (x3.toNat : Int) (.slice (some ⟨b, off + 6, none⟩) (m - 6) (cap - 6)), .int .i64 0]) (by simp [results, Tryd.results18, go_sem, p0, p1, p2, p3, p4]) rfl ?_
  exact ⟨_, _, _, by rw [hx1, hx2, hx3], hb2.out, by have h := kb.out; rw [HN.out] at h; exact h⟩
theorem refReadFrame_any (v : Value) (l : List UInt8) (w : World) (hv : IsBytes w v l) :
    Calls Tryd.prog 18 #[v] w fun e w' => ∃ oa n c, e = .returned (.tuple #[frV (Pl.rdT l) (Pl.rdO l) (Pl.rdE l) (Pl.rdH l) (.slice oa n c), .int .i64 (Pl.frReadFault l)]) ∧ IsBytes w' (.slice oa n c) (Pl.rdX l) ∧ Below w.heap.size w w' := by
  by_cases h : Pl.frReadFault l = 0
  · have G := Pl.frGood h
    have R := rfr_ok v l _ w hv G.op rfl (Nat.le_of_lt G.len) G.b70 G.ok
    refine R.mono fun e w' ⟨oa, n, c, h1, h2, h3⟩ => ⟨oa, n, c, ?_, ?_, h3⟩
    · unfold Pl.rdT Pl.rdO Pl.rdE Pl.rdH
      rw [if_pos h, if_pos h, if_pos h, if_pos h, h]
      exact h1
    · unfold Pl.rdX
      rw [if_pos h]
      exact h2
  · obtain ⟨e1, e2, e3, e4, e5⟩ := Pl.rd_bad h
    rw [e1, e2, e3, e4, e5]
    have R : Calls Tryd.prog 18 #[v] w fun e w' => e = .returned (.tuple #[zeroFr, .int .i64 (Pl.frReadFault l)]) ∧ Below w.heap.size w w' := by
      unfold Pl.frReadFault at h ⊢
      by_cases h1 : Pl.openFault l ≠ 0
      · rw [if_pos h1]; exact rfr_open v l w hv _ rfl h1
      rw [if_neg h1] at h ⊢
      have h1' : Pl.openFault l = 0 := by
        by_cases q : Pl.openFault l = 0
        · exact q
        · exact absurd q h1
      by_cases h2 : (Pl.opened l).length < 6
      · rw [if_pos h2]; exact rfr_short v l _ w hv h1' rfl h2
      rw [if_neg h2] at h ⊢
      by_cases h3 : Pl.bAt (Pl.opened l) 0 ≠ 70
      · rw [if_pos h3]; exact rfr_sign v l _ w hv h1' rfl (by omega) h3
      rw [if_neg h3] at h ⊢
      have h3' : Pl.bAt (Pl.opened l) 0 = 70 := by
        by_cases q : Pl.bAt (Pl.opened l) 0 = 70
        · exact q
        · exact absurd q h3
      exact rfr_bad v l _ w hv h1' rfl (by omega) h3' _ rfl h
    exact R.mono fun e w' ⟨h1, h2⟩ => ⟨none, 0, 0, h1, Sl.nil _, h2⟩
end Go.Proofs.YticihmkgdabgiaaDoor
