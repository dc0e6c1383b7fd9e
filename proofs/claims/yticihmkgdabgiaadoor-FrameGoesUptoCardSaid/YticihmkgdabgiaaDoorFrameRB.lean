import Derived.Test.YticihmkgdabgiaaDoorFramePass
import Derived.Test.YticihmkgdabgiaaDoorRefFm
import Derived.Deep.DeepCutAuto
/-! frame.Read: too short, not its sign, a bad frame. -/
namespace Go.Proofs.YticihmkgdabgiaaDoor
open Go.RowKit
set_option linter.unusedVariables false
set_option linter.unusedSimpArgs false
set_option maxRecDepth 100000 in
set_option maxHeartbeats 2000000 in
theorem fread_short (v : Value) (l x : List UInt8) (w : World) (hv : IsBytes w v l) (hb : l.length ≤ 100000000) (h : Pl.openFault l = 0) (hx : Pl.opened l = x) (hl : x.length < 6) :
    Calls Tryd.prog 11 #[v] w fun e w' => e = .returned (.tuple #[zeroFr, .iface 73 (.int .i64 8)]) ∧ Below w.heap.size w w' := by
  have O := Lib.hid (fun y (k : Below w.heap.size w y) => copen_ok v l y (hv.below k) hb h)
  rw [hx] at O
  clear h hv hx hb
  go_enter Tryd.func11, Tryd.ntmps11
  go_upto_region 1 with fail
  refine abs_b (fun y => FrMem y w.heap.size 0 0 0 0 (.slice none 0 0) ∧ Hid (Below w.heap.size w y)) ⟨obj_new _ _, Lib.hid ((Below.refl _ _).alloc (Nat.le_refl _) _)⟩ ?_
  have hN : ∃ N, N = w.heap.size := ⟨_, rfl⟩
  obtain ⟨N, hN⟩ := hN
  rw [← hN] at O ⊢
  have HN := Lib.hid hN
  clear hN
  rintro y ⟨hp, kb⟩
  have HP := Lib.hid hp
  clear hp
  have O2 := Lib.hid ((O.out _ kb.out).mono (fun e y2 ⟨oa, n, c, he, ho, k2⟩ => (show ∃ oa c, e = Ending.returned (.tuple #[.slice oa x.length c, .nilIface]) ∧ Hid (FrMem y2 N 0 0 0 0 (.slice none 0 0)) ∧ Hid (Below N w y2) from by
    obtain ⟨oa2, c2, e2, _⟩ := bytes_slice ho.reads
    rw [e2] at he
    exact ⟨oa2, c2, he, Lib.hid (Below.heapAt k2 HP.out (lt_of_block HP.out)), Lib.hid (kb.out.trans (k2.mono (Nat.le_of_lt (lt_of_block HP.out))))⟩)))
  clear O kb HP
  go_upto_region 5 with (go_at_call 36; refine O2.out.mono ?_; rintro e y2 ⟨oa, c, rfl, HP, kb2⟩)
  have hp := HP.out
  clear HP
  have p0 := obj_cell hp (k := 0) rfl
  have p1 := obj_cell hp (k := 1) rfl
  have p2 := obj_cell hp (k := 2) rfl
  have p3 := obj_cell hp (k := 3) rfl
  have p4 := obj_cell hp (k := 4) rfl
  have f0 := obj_free hp 0
  have f1 := obj_free hp 1
  have f2 := obj_free hp 2
  have f3 := obj_free hp 3
  have f4 := obj_free hp 4
  go_cut [3] (fun s3 x => s3 = .iface 73 (.int .i64 8) ∧ FrMem x N 0 0 0 0 (.slice none 0 0) ∧ Hid (Below N w x))
  case first =>
    go_wp2_with fail
    go_meet
    refine ⟨rfl, obj_set (obj_set (obj_set (obj_set (obj_set hp 0 _) 1 _) 2 _) 3 _) 4 _, ?_⟩
    have hl : N ≤ N := Nat.le_refl _
    exact Lib.hid (Below.setCell (Below.setCell (Below.setCell (Below.setCell (Below.setCell kb2.out hl _) hl _) hl _) hl _) hl _)
  case rest =>
  clear hp kb2 p0 p1 p2 p3 p4 f0 f1 f2 f3 f4
  obtain ⟨rfl, hp, kb⟩ := hcut
  have p0 := obj_cell hp (k := 0) rfl
  have p1 := obj_cell hp (k := 1) rfl
  have p2 := obj_cell hp (k := 2) rfl
  have p3 := obj_cell hp (k := 3) rfl
  have p4 := obj_cell hp (k := 4) rfl
  go_wp2
  refine bodyPost_ret (v := .tuple #[zeroFr, .iface 73 (.int .i64 8)]) (by simp [results, Tryd.results11, go_sem, p0, p1, p2, p3, p4]) rfl ?_
  exact ⟨rfl, by have h := kb.out; rw [HN.out] at h; exact h⟩
set_option maxRecDepth 100000 in
set_option maxHeartbeats 2000000 in
theorem fread_sign (v : Value) (l x : List UInt8) (w : World) (hv : IsBytes w v l) (hb : l.length ≤ 100000000) (h : Pl.openFault l = 0) (hx : Pl.opened l = x) (hl : 6 ≤ x.length) (h70 : Pl.bAt x 0 ≠ 70) :
    Calls Tryd.prog 11 #[v] w fun e w' => e = .returned (.tuple #[zeroFr, .iface 73 (.int .i64 2)]) ∧ Below w.heap.size w w' := by
  have O := Lib.hid (fun y (k : Below w.heap.size w y) => copen_ok v l y (hv.below k) hb h)
  rw [hx] at O
  clear h hv hx hb
  obtain ⟨m, hm⟩ : ∃ m, x.length = m := ⟨_, rfl⟩
  rw [hm] at hl
  have HM := Lib.hid hm
  clear hm
  have H70 := Lib.hid h70
  clear h70
  go_enter Tryd.func11, Tryd.ntmps11
  go_upto_region 1 with fail
  refine abs_b (fun y => FrMem y w.heap.size 0 0 0 0 (.slice none 0 0) ∧ Hid (Below w.heap.size w y)) ⟨obj_new _ _, Lib.hid ((Below.refl _ _).alloc (Nat.le_refl _) _)⟩ ?_
  have hN : ∃ N, N = w.heap.size := ⟨_, rfl⟩
  obtain ⟨N, hN⟩ := hN
  rw [← hN] at O ⊢
  have HN := Lib.hid hN
  clear hN
  rintro y ⟨hp, kb⟩
  have HP := Lib.hid hp
  clear hp
  have O2 := Lib.hid ((O.out _ kb.out).mono (fun e y2 ⟨oa, n, c, he, ho, k2⟩ => (show ∃ b off cap, e = Ending.returned (.tuple #[.slice (some ⟨b, off, none⟩) m cap, .nilIface]) ∧ m ≤ cap ∧ Hid (cap ≤ maxLen) ∧ Hid (IsBytes y2 (.slice (some ⟨b, off, none⟩) m cap) x) ∧ Hid (FrMem y2 N 0 0 0 0 (.slice none 0 0)) ∧ Hid (Below N w y2) ∧ Hid (N < b) from by
    have hr := ho.reads
    have hNy := lt_of_block HP.out
    have hm := HM.out
    rcases ho.forms with ⟨_, h0⟩ | ⟨b, cap, e2, hbb, q1, q2, _, _⟩
    · rw [h0] at hm; simp at hm; omega
    rw [e2] at he hr
    rw [hm] at he hr q1
    exact ⟨b, 0, cap, he, q1, Lib.hid q2, Lib.hid hr, Lib.hid (Below.heapAt k2 HP.out (lt_of_block HP.out)), Lib.hid (kb.out.trans (k2.mono (Nat.le_of_lt (lt_of_block HP.out)))), Lib.hid (by omega)⟩)))
  clear O kb HP
  go_upto_region 4 with (go_at_call 36; refine O2.out.mono ?_; rintro e y2 ⟨b, off, cap, rfl, q1, q2, hr, HP, kb2, BN⟩)
  have IS := Lib.hid (is_no _ x y2 hr.out H70.out)
  go_upto_region 7 with (go_at_call 39; refine IS.out.mono ?_; rintro e w' ⟨rfl, rfl⟩)
  have hp := HP.out
  clear HP
  have p0 := obj_cell hp (k := 0) rfl
  have p1 := obj_cell hp (k := 1) rfl
  have p2 := obj_cell hp (k := 2) rfl
  have p3 := obj_cell hp (k := 3) rfl
  have p4 := obj_cell hp (k := 4) rfl
  have f0 := obj_free hp 0
  have f1 := obj_free hp 1
  have f2 := obj_free hp 2
  have f3 := obj_free hp 3
  have f4 := obj_free hp 4
  go_cut [3] (fun s3 x => s3 = .iface 73 (.int .i64 2) ∧ FrMem x N 0 0 0 0 (.slice none 0 0) ∧ Hid (Below N w x))
  case first =>
    go_wp2_with fail
    go_meet
    refine ⟨rfl, obj_set (obj_set (obj_set (obj_set (obj_set hp 0 _) 1 _) 2 _) 3 _) 4 _, ?_⟩
    have hl : N ≤ N := Nat.le_refl _
    exact Lib.hid (Below.setCell (Below.setCell (Below.setCell (Below.setCell (Below.setCell kb2.out hl _) hl _) hl _) hl _) hl _)
  case rest =>
  clear hp kb2 p0 p1 p2 p3 p4 f0 f1 f2 f3 f4
  obtain ⟨rfl, hp, kb⟩ := hcut
  have p0 := obj_cell hp (k := 0) rfl
  have p1 := obj_cell hp (k := 1) rfl
  have p2 := obj_cell hp (k := 2) rfl
  have p3 := obj_cell hp (k := 3) rfl
  have p4 := obj_cell hp (k := 4) rfl
  go_wp2
  refine bodyPost_ret (v := .tuple #[zeroFr, .iface 73 (.int .i64 2)]) (by simp [results, Tryd.results11, go_sem, p0, p1, p2, p3, p4]) rfl ?_
  exact ⟨rfl, by have h := kb.out; rw [HN.out] at h; exact h⟩
set_option maxRecDepth 100000 in
set_option maxHeartbeats 4000000 in
theorem fread_bad (v : Value) (l x : List UInt8) (w : World) (hv : IsBytes w v l) (hb : l.length ≤ 100000000) (h : Pl.openFault l = 0) (hx : Pl.opened l = x) (hl : 6 ≤ x.length) (h70 : Pl.bAt x 0 = 70) (k : Int)
    (hk : Pl.frFault ((Pl.bAt x 1).toNat : Int) ((Pl.bAt x 2).toNat : Int) (Pl.getB ((x.drop 4).take 2)) ((Pl.bAt x 3).toNat : Int) (x.drop 6) = k) (hf : k ≠ 0) :
    Calls Tryd.prog 11 #[v] w fun e w' => e = .returned (.tuple #[zeroFr, .iface 73 (.int .i64 k)]) ∧ Below w.heap.size w w' := by
  have O := Lib.hid (fun y (k : Below w.heap.size w y) => copen_ok v l y (hv.below k) hb h)
  rw [hx] at O
  clear h hv hx hb
  obtain ⟨m, hm⟩ : ∃ m, x.length = m := ⟨_, rfl⟩
  rw [hm] at hl
  have HM := Lib.hid hm
  clear hm
  have FC := Lib.hid (show Pl.frFault ((Pl.bAt x 1).toNat : Int) ((Pl.bAt x 2).toNat : Int) (Pl.getB ((x.drop 4).take 2)) ((Pl.bAt x 3).toNat : Int) (x.drop 6) ≠ 0 from by rw [hk]; exact hf)
  have HK := Lib.hid hk
  have H70 := Lib.hid h70
  clear hf h70 hk
  have E1 := Lib.hid (Pl.wrap_byte (Pl.bAt x 1))
  have E2 := Lib.hid (Pl.wrap_byte (Pl.bAt x 2))
  have E3 := Lib.hid (Pl.wrap_byte (Pl.bAt x 3))
  go_enter Tryd.func11, Tryd.ntmps11
  go_upto_region 1 with fail
  refine abs_b (fun y => FrMem y w.heap.size 0 0 0 0 (.slice none 0 0) ∧ Hid (Below w.heap.size w y)) ⟨obj_new _ _, Lib.hid ((Below.refl _ _).alloc (Nat.le_refl _) _)⟩ ?_
  have hN : ∃ N, N = w.heap.size := ⟨_, rfl⟩
  obtain ⟨N, hN⟩ := hN
  rw [← hN] at O ⊢
  have HN := Lib.hid hN
  clear hN
  rintro y ⟨hp, kb⟩
  have HP := Lib.hid hp
  clear hp
  have O2 := Lib.hid ((O.out _ kb.out).mono (fun e y2 ⟨oa, n, c, he, ho, k2⟩ => (show ∃ b off cap, e = Ending.returned (.tuple #[.slice (some ⟨b, off, none⟩) m cap, .nilIface]) ∧ m ≤ cap ∧ Hid (cap ≤ maxLen) ∧ Hid (IsBytes y2 (.slice (some ⟨b, off, none⟩) m cap) x) ∧ Hid (FrMem y2 N 0 0 0 0 (.slice none 0 0)) ∧ Hid (Below N w y2) ∧ Hid (N < b) from by
    have hr := ho.reads
    have hNy := lt_of_block HP.out
    have hm := HM.out
    rcases ho.forms with ⟨_, h0⟩ | ⟨b, cap, e2, hbb, q1, q2, _, _⟩
    · rw [h0] at hm; simp at hm; omega
    rw [e2] at he hr
    rw [hm] at he hr q1
    exact ⟨b, 0, cap, he, q1, Lib.hid q2, Lib.hid hr, Lib.hid (Below.heapAt k2 HP.out (lt_of_block HP.out)), Lib.hid (kb.out.trans (k2.mono (Nat.le_of_lt (lt_of_block HP.out)))), Lib.hid (by omega)⟩)))
  clear O kb HP
  go_upto_region 4 with (go_at_call 36; refine O2.out.mono ?_; rintro e y2 ⟨b, off, cap, rfl, q1, q2, hr, HP, kb, BN⟩)
  have IS := Lib.hid (is_yes b off m cap x y2 (by omega) q1 q2.out HM.out hr.out H70.out)
  have hcm := q2.out
  unfold maxLen at hcm
  go_upto_region 8 with (go_at_call 39; refine IS.out.mono ?_; rintro e w' ⟨rfl, rfl⟩)
  have BLT := Lib.hid (show b < y2.heap.size from Sl.lt (a := ⟨b, off + 1, none⟩) (bytes_at hr.out 1 (by rw [HM.out]; omega)))
  have c1 : y2.cell? ⟨b, off + 1, none⟩ = some (encB (Pl.bAt x 1)) := bytes_at hr.out 1 (by rw [HM.out]; omega)
  have c2 : y2.cell? ⟨b, off + 2, none⟩ = some (encB (Pl.bAt x 2)) := bytes_at hr.out 2 (by rw [HM.out]; omega)
  have c3 : y2.cell? ⟨b, off + 3, none⟩ = some (encB (Pl.bAt x 3)) := bytes_at hr.out 3 (by rw [HM.out]; omega)
  generalize hx1 : Pl.bAt x 1 = x1 at *
  generalize hx2 : Pl.bAt x 2 = x2 at *
  generalize hx3 : Pl.bAt x 3 = x3 at *
  have SOF := Lib.hid (show ∀ w', Below y2.heap.size y2 w' → (w'.cell? ⟨b, off + 1, none⟩ = some (encB x1) ∧ w'.cell? ⟨b, off + 2, none⟩ = some (encB x2) ∧ w'.cell? ⟨b, off + 3, none⟩ = some (encB x3) ∧ Below y2.heap.size y2 w') from fun w' h => ⟨(h.cell BLT.out).trans c1, (h.cell BLT.out).trans c2, (h.cell BLT.out).trans c3, h⟩)
  clear hx1 hx2 hx3 IS
  by_cases n6 : cap = 6
  · obtain rfl : m = 6 := by omega
    subst n6
    have n4 : ¬ (6 = 4) := by omega
    have SUB := Lib.hid (fun w' (h : Below y2.heap.size y2 w') (lo hi mm c : Nat) (h1 : lo ≤ hi) (h2 : hi ≤ 6) (hm : mm = hi - lo) (hc : c = 6 - lo) => sub_bytes (hr.out.below h) lo hi h1 (by rw [HM.out]; exact h2) q2.out (by rw [HM.out]; exact q1) mm c hm hc)
    have G4 := Lib.hid (fun w' (h : Below y2.heap.size y2 w') => get_any (.slice (some ⟨b, off + 4, none⟩) 2 (6 - 4)) ((x.drop 4).take 2) w' (by have q := SUB.out w' h 4 6 2 (6 - 4) (by omega) (by omega) rfl rfl; rw [if_neg n4] at q; exact q) (by simp; omega))
    have B6 := Lib.hid (show IsBytes y2 (.slice (some ⟨b, off, none⟩) 0 0) (x.drop 6) from by have q := SUB.out y2 (Below.refl _ _) 6 6 (6 - 6) (6 - 6) (by omega) (by omega) rfl rfl; rw [if_pos rfl, List.take_of_length_le (by rw [List.length_drop, HM.out]; exact Nat.le_refl _)] at q; exact q)
    have b4 : (6 : Int) ≤ (6 : Int) := by omega
    have b6 : (6 : Int) ≤ (6 : Int) := by omega
    have b1 : (1 : Int) < (6 : Int) := by omega
    have b2 : (2 : Int) < (6 : Int) := by omega
    have b3 : (3 : Int) < (6 : Int) := by omega
    have blc : (6 : Int) ≤ (6 : Int) := by omega
    have HL := Lib.hid (Nat.le_refl y2.heap.size)
    have kk := Below.refl y2.heap.size y2
    go_cut [5] (fun s5 z => s5 = .pointer (some ⟨y2.heap.size, 0, none⟩) ∧ ∃ bv, Hid (IsBytes z bv (x.drop 6)) ∧ FrMem z y2.heap.size (x1.toNat : Int) (x2.toNat : Int) (Pl.getB ((x.drop 4).take 2)) (x3.toNat : Int) bv ∧ Hid (Below y2.heap.size y2 z))
    case first =>
      go_region_held3 (fun w' => w'.cell? ⟨b, off + 1, none⟩ = some (encB x1) ∧ w'.cell? ⟨b, off + 2, none⟩ = some (encB x2) ∧ w'.cell? ⟨b, off + 3, none⟩ = some (encB x3) ∧ Below y2.heap.size y2 w')
        (first | (with_reducible assumption) | (go_split_ands; refine SOF.out _ ?_; (repeat' (first | (with_reducible assumption) | (with_reducible exact HL.out) | (with_reducible apply Below.drew) | (with_reducible apply Below.setCell) | (with_reducible apply Below.alloc)))))
        (first
        | (go_at_call 40; go_split_ands; (with_reducible refine (G4.out _ (by with_reducible assumption)).mono ?_); rintro e w' ⟨rfl, rfl⟩)
        | fail)
      all_goals go_wp2_with fail
      all_goals go_meet
      all_goals
        refine ⟨rfl, (.slice (some ⟨b, off, none⟩) 0 0), Lib.hid (B6.out.below (Below.drew (Below.alloc kk HL.out _))), frMem_eq (t := IntKind.i64.wrap (x1.toNat : Int)) (o := IntKind.i64.wrap (x2.toNat : Int)) (h := IntKind.i64.wrap (x3.toNat : Int)) (obj_drew (obj_new _ _)) E1.out E2.out rfl E3.out, Lib.hid (Below.drew (Below.alloc kk HL.out _))⟩
    case rest =>
    clear kk c1 c2 c3 SOF SUB G4 E1 E2 E3
    obtain ⟨rfl, bv, HB, fm, kz⟩ := hcut
    have HPz := Lib.hid (Below.heapAt kz.out HP.out (lt_of_block HP.out))
    have HNY := Lib.hid (lt_of_block HP.out)
    have KB := Lib.hid (kb.out.trans (kz.out.mono (Nat.le_of_lt HNY.out)))
    obtain ⟨ob, c9, hbv, _⟩ := bytes_slice HB.out
    obtain ⟨n9, hn9⟩ : ∃ n, (x.drop 6).length = n := ⟨_, rfl⟩
    rw [hn9] at hbv
    clear hn9
    subst hbv
    have FM := Lib.hid fm
    have p0 := obj_cell fm (k := 0) rfl
    have p1 := obj_cell fm (k := 1) rfl
    have p2 := obj_cell fm (k := 2) rfl
    have p3 := obj_cell fm (k := 3) rfl
    have p4 := obj_cell fm (k := 4) rfl
    have CK := Lib.hid (fcheck_bad _ _ _ _ _ _ _ HB.out FC.out)
    rw [HK.out] at CK
    clear B6 HP kb kz hr fm
    generalize y2.heap.size = Y at *
    go_upto_region 11 with (go_at_call 17; refine CK.out.mono ?_; rintro e z2 ⟨rfl, k2⟩)
    have hp := Below.heapAt k2 HPz.out (lt_of_block HPz.out)
    have kb2 := Lib.hid (KB.out.trans (k2.mono (Nat.le_of_lt (lt_of_block HPz.out))))
    clear p0 p1 p2 p3 p4 k2 CK KB HB FC
    have p0 := obj_cell hp (k := 0) rfl
    have p1 := obj_cell hp (k := 1) rfl
    have p2 := obj_cell hp (k := 2) rfl
    have p3 := obj_cell hp (k := 3) rfl
    have p4 := obj_cell hp (k := 4) rfl
    have f0 := obj_free hp 0
    have f1 := obj_free hp 1
    have f2 := obj_free hp 2
    have f3 := obj_free hp 3
    have f4 := obj_free hp 4
    go_cut [3] (fun s3 x => s3 = .iface 73 (.int .i64 k) ∧ FrMem x N 0 0 0 0 (.slice none 0 0) ∧ Hid (Below N w x))
    case first =>
      go_wp2_with fail
      go_meet
      refine ⟨rfl, obj_set (obj_set (obj_set (obj_set (obj_set hp 0 _) 1 _) 2 _) 3 _) 4 _, ?_⟩
      have hl : N ≤ N := Nat.le_refl _
      exact Lib.hid (Below.setCell (Below.setCell (Below.setCell (Below.setCell (Below.setCell kb2.out hl _) hl _) hl _) hl _) hl _)
    case rest =>
    clear hp kb2 p0 p1 p2 p3 p4 f0 f1 f2 f3 f4
    obtain ⟨rfl, hp, kb⟩ := hcut
    have p0 := obj_cell hp (k := 0) rfl
    have p1 := obj_cell hp (k := 1) rfl
    have p2 := obj_cell hp (k := 2) rfl
    have p3 := obj_cell hp (k := 3) rfl
    have p4 := obj_cell hp (k := 4) rfl
    go_wp2
    refine bodyPost_ret (v := .tuple #[zeroFr, .iface 73 (.int .i64 k)]) (by simp [results, Tryd.results11, go_sem, p0, p1, p2, p3, p4]) rfl ?_
    exact ⟨rfl, by have h := kb.out; rw [HN.out] at h; exact h⟩
  · skip
    have n4 : ¬ (cap = 4) := by omega
    have SUB := Lib.hid (fun w' (h : Below y2.heap.size y2 w') (lo hi mm c : Nat) (h1 : lo ≤ hi) (h2 : hi ≤ m) (hm : mm = hi - lo) (hc : c = cap - lo) => sub_bytes (hr.out.below h) lo hi h1 (by rw [HM.out]; exact h2) q2.out (by rw [HM.out]; exact q1) mm c hm hc)
    have G4 := Lib.hid (fun w' (h : Below y2.heap.size y2 w') => get_any (.slice (some ⟨b, off + 4, none⟩) 2 (cap - 4)) ((x.drop 4).take 2) w' (by have q := SUB.out w' h 4 6 2 (cap - 4) (by omega) (by omega) rfl rfl; rw [if_neg n4] at q; exact q) (by simp; omega))
    have B6 := Lib.hid (show IsBytes y2 (.slice (some ⟨b, off + 6, none⟩) (m - 6) (cap - 6)) (x.drop 6) from by have q := SUB.out y2 (Below.refl _ _) 6 m (m - 6) (cap - 6) (by omega) (by omega) rfl rfl; rw [if_neg n6, List.take_of_length_le (by rw [List.length_drop, HM.out]; exact Nat.le_refl _)] at q; exact q)
    have b4 : (6 : Int) ≤ (cap : Int) := by omega
    have b6 : (6 : Int) ≤ (m : Int) := by omega
    have b1 : (1 : Int) < (m : Int) := by omega
    have b2 : (2 : Int) < (m : Int) := by omega
    have b3 : (3 : Int) < (m : Int) := by omega
    have blc : (m : Int) ≤ (cap : Int) := by omega
    have HL := Lib.hid (Nat.le_refl y2.heap.size)
    have kk := Below.refl y2.heap.size y2
    go_cut [5] (fun s5 z => s5 = .pointer (some ⟨y2.heap.size, 0, none⟩) ∧ ∃ bv, Hid (IsBytes z bv (x.drop 6)) ∧ FrMem z y2.heap.size (x1.toNat : Int) (x2.toNat : Int) (Pl.getB ((x.drop 4).take 2)) (x3.toNat : Int) bv ∧ Hid (Below y2.heap.size y2 z))
    case first =>
      go_region_held3 (fun w' => w'.cell? ⟨b, off + 1, none⟩ = some (encB x1) ∧ w'.cell? ⟨b, off + 2, none⟩ = some (encB x2) ∧ w'.cell? ⟨b, off + 3, none⟩ = some (encB x3) ∧ Below y2.heap.size y2 w')
        (first | (with_reducible assumption) | (go_split_ands; refine SOF.out _ ?_; (repeat' (first | (with_reducible assumption) | (with_reducible exact HL.out) | (with_reducible apply Below.drew) | (with_reducible apply Below.setCell) | (with_reducible apply Below.alloc)))))
        (first
        | (go_at_call 40; go_split_ands; (with_reducible refine (G4.out _ (by with_reducible assumption)).mono ?_); rintro e w' ⟨rfl, rfl⟩)
        | fail)
      all_goals go_wp2_with fail
      all_goals go_meet
      all_goals
        refine ⟨rfl, (.slice (some ⟨b, off + 6, none⟩) (m - 6) (cap - 6)), Lib.hid (B6.out.below (Below.drew (Below.alloc kk HL.out _))), frMem_eq (t := IntKind.i64.wrap (x1.toNat : Int)) (o := IntKind.i64.wrap (x2.toNat : Int)) (h := IntKind.i64.wrap (x3.toNat : Int)) (obj_drew (obj_new _ _)) E1.out E2.out rfl E3.out, Lib.hid (Below.drew (Below.alloc kk HL.out _))⟩
    case rest =>
    clear kk c1 c2 c3 SOF SUB G4 E1 E2 E3
    obtain ⟨rfl, bv, HB, fm, kz⟩ := hcut
    have HPz := Lib.hid (Below.heapAt kz.out HP.out (lt_of_block HP.out))
    have HNY := Lib.hid (lt_of_block HP.out)
    have KB := Lib.hid (kb.out.trans (kz.out.mono (Nat.le_of_lt HNY.out)))
    obtain ⟨ob, c9, hbv, _⟩ := bytes_slice HB.out
    obtain ⟨n9, hn9⟩ : ∃ n, (x.drop 6).length = n := ⟨_, rfl⟩
    rw [hn9] at hbv
    clear hn9
    subst hbv
    have FM := Lib.hid fm
    have p0 := obj_cell fm (k := 0) rfl
    have p1 := obj_cell fm (k := 1) rfl
    have p2 := obj_cell fm (k := 2) rfl
    have p3 := obj_cell fm (k := 3) rfl
    have p4 := obj_cell fm (k := 4) rfl
    have CK := Lib.hid (fcheck_bad _ _ _ _ _ _ _ HB.out FC.out)
    rw [HK.out] at CK
    clear B6 HP kb kz hr fm
    generalize y2.heap.size = Y at *
    go_upto_region 11 with (go_at_call 17; refine CK.out.mono ?_; rintro e z2 ⟨rfl, k2⟩)
    have hp := Below.heapAt k2 HPz.out (lt_of_block HPz.out)
    have kb2 := Lib.hid (KB.out.trans (k2.mono (Nat.le_of_lt (lt_of_block HPz.out))))
    clear p0 p1 p2 p3 p4 k2 CK KB HB FC
    have p0 := obj_cell hp (k := 0) rfl
    have p1 := obj_cell hp (k := 1) rfl
    have p2 := obj_cell hp (k := 2) rfl
    have p3 := obj_cell hp (k := 3) rfl
    have p4 := obj_cell hp (k := 4) rfl
    have f0 := obj_free hp 0
    have f1 := obj_free hp 1
    have f2 := obj_free hp 2
    have f3 := obj_free hp 3
    have f4 := obj_free hp 4
    go_cut [3] (fun s3 x => s3 = .iface 73 (.int .i64 k) ∧ FrMem x N 0 0 0 0 (.slice none 0 0) ∧ Hid (Below N w x))
    case first =>
      go_wp2_with fail
      go_meet
      refine ⟨rfl, obj_set (obj_set (obj_set (obj_set (obj_set hp 0 _) 1 _) 2 _) 3 _) 4 _, ?_⟩
      have hl : N ≤ N := Nat.le_refl _
      exact Lib.hid (Below.setCell (Below.setCell (Below.setCell (Below.setCell (Below.setCell kb2.out hl _) hl _) hl _) hl _) hl _)
    case rest =>
    clear hp kb2 p0 p1 p2 p3 p4 f0 f1 f2 f3 f4
    obtain ⟨rfl, hp, kb⟩ := hcut
    have p0 := obj_cell hp (k := 0) rfl
    have p1 := obj_cell hp (k := 1) rfl
    have p2 := obj_cell hp (k := 2) rfl
    have p3 := obj_cell hp (k := 3) rfl
    have p4 := obj_cell hp (k := 4) rfl
    go_wp2
    refine bodyPost_ret (v := .tuple #[zeroFr, .iface 73 (.int .i64 k)]) (by simp [results, Tryd.results11, go_sem, p0, p1, p2, p3, p4]) rfl ?_
    exact ⟨rfl, by have h := kb.out; rw [HN.out] at h; exact h⟩
/-- the fault of bytes that are read as a frame -/
def Pl.frReadFault (l : List UInt8) : Int :=
  if Pl.openFault l ≠ 0 then Pl.openFault l
  else if (Pl.opened l).length < 6 then 8
  else if Pl.bAt (Pl.opened l) 0 ≠ 70 then 2
  else Pl.frFault ((Pl.bAt (Pl.opened l) 1).toNat : Int) ((Pl.bAt (Pl.opened l) 2).toNat : Int) (Pl.getB (((Pl.opened l).drop 4).take 2)) ((Pl.bAt (Pl.opened l) 3).toNat : Int) ((Pl.opened l).drop 6)
theorem fread_fault (v : Value) (l : List UInt8) (w : World) (hv : IsBytes w v l) (hb : l.length ≤ 100000000) (h : Pl.frReadFault l ≠ 0) :
    Calls Tryd.prog 11 #[v] w fun e w' => e = .returned (.tuple #[zeroFr, .iface 73 (.int .i64 (Pl.frReadFault l))]) ∧ Below w.heap.size w w' := by
  unfold Pl.frReadFault at h ⊢
  by_cases h1 : Pl.openFault l ≠ 0
  · rw [if_pos h1]; exact fread_open v l w hv hb h1
  rw [if_neg h1] at h ⊢
  have h1' : Pl.openFault l = 0 := by
    by_cases q : Pl.openFault l = 0
    · exact q
    · exact absurd q h1
  by_cases h2 : (Pl.opened l).length < 6
  · rw [if_pos h2]; exact fread_short v l _ w hv hb h1' rfl h2
  rw [if_neg h2] at h ⊢
  by_cases h3 : Pl.bAt (Pl.opened l) 0 ≠ 70
  · rw [if_pos h3]; exact fread_sign v l _ w hv hb h1' rfl (by omega) h3
  rw [if_neg h3] at h ⊢
  have h3' : Pl.bAt (Pl.opened l) 0 = 70 := by
    by_cases q : Pl.bAt (Pl.opened l) 0 = 70
    · exact q
    · exact absurd q h3
  exact fread_bad v l _ w hv hb h1' rfl (by omega) h3' _ rfl h
end Go.Proofs.YticihmkgdabgiaaDoor
