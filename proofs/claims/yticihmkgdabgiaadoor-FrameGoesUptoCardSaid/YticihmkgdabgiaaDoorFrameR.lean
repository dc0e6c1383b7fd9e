import Derived.Test.YticihmkgdabgiaaDoorCrcOpen
import Derived.Test.YticihmkgdabgiaaDoorFrameE
import Derived.Deep.DeepCutAuto
/-! frame.Is, frame.Read. -/
namespace Go.Proofs.YticihmkgdabgiaaDoor
open Go.RowKit
set_option linter.unusedVariables false
set_option linter.unusedSimpArgs false
def FrMem (w : World) (g : Nat) (t o ep h : Int) (bv : Value) : Prop := w.heap[g]? = some (.cells #[.int .i64 t, .int .i64 o, .int .i64 ep, .int .i64 h, bv] 24 (0, 0))
theorem frMem_eq {w : World} {g : Nat} {t o ep h t' o' ep' h' : Int} {bv : Value} (H : FrMem w g t o ep h bv) (h1 : t = t') (h2 : o = o') (h3 : ep = ep') (h4 : h = h') : FrMem w g t' o' ep' h' bv := by subst h1 h2 h3 h4; exact H
theorem cell_set {w : World} {a : Addr} {N : Nat} (h : a.block ≠ N) {k : Nat} {v : Value} : (w.setCell ⟨N, k, none⟩ v).cell? a = w.cell? a := World.cell?_of_block (Below.heap_setCell _ _ _ _ h)
abbrev zeroFr : Value := frV 0 0 0 0 (.slice none 0 0)
theorem is_yes (b off n cap : Nat) (l : List UInt8) (w : World) (hn : 0 < n) (hc : n ≤ cap) (hm : cap ≤ maxLen) (hl : l.length = n) (hv : IsBytes w (.slice (some ⟨b, off, none⟩) n cap) l) (h : Pl.bAt l 0 = 70) :
    Calls Tryd.prog 39 #[.slice (some ⟨b, off, none⟩) n cap] w fun e w' => e = .returned (.bool true) ∧ w = w' := by
  have c0 : w.cell? ⟨b, off + 0, none⟩ = some (encB (Pl.bAt l 0)) := bytes_at hv 0 (by omega)
  rw [h, Nat.add_zero] at c0
  unfold maxLen at hm
  clear hv
  go_enter Tryd.func39, Tryd.ntmps39
  go_wp2
  go_ret
  exact ⟨rfl, rfl⟩
theorem is_no (v : Value) (l : List UInt8) (w : World) (hv : IsBytes w v l) (h : Pl.bAt l 0 ≠ 70) :
    Calls Tryd.prog 39 #[v] w fun e w' => e = .returned (.bool false) ∧ w = w' := by
  by_cases h0 : l = []
  · subst h0
    obtain ⟨oa, c, rfl, _⟩ := bytes_slice hv
    go_enter Tryd.func39, Tryd.ntmps39
    go_wp2
    go_ret
    exact ⟨rfl, rfl⟩
  · have hp : 0 < l.length := List.length_pos_iff.2 h0
    obtain ⟨b, off, cap, rfl, hlc, hcm, _⟩ := bytes_long hv hp
    have c0 : w.cell? ⟨b, off + 0, none⟩ = some (encB (Pl.bAt l 0)) := bytes_at hv 0 hp
    rw [Nat.add_zero] at c0
    unfold maxLen at hcm
    clear hv
    have d : (((Pl.bAt l 0).toNat : Int) == 70) = false := by
      rw [beq_eq_false_iff_ne]
      intro h2
      exact h (UInt8.toNat_inj.1 (by show (Pl.bAt l 0).toNat = 70; omega))
    generalize Pl.bAt l 0 = x at *
    go_enter Tryd.func39, Tryd.ntmps39
    go_wp2
    go_ret
    exact ⟨rfl, rfl⟩
set_option maxRecDepth 100000 in
set_option maxHeartbeats 2000000 in
theorem fread_open (v : Value) (l : List UInt8) (w : World) (hv : IsBytes w v l) (hb : l.length ≤ 100000000) (h : Pl.openFault l ≠ 0) :
    Calls Tryd.prog 11 #[v] w fun e w' => e = .returned (.tuple #[zeroFr, .iface 73 (.int .i64 (Pl.openFault l))]) ∧ Below w.heap.size w w' := by
  have O := Lib.hid (fun y (k : Below w.heap.size w y) => copen_bad v l y (hv.below k) hb h)
  clear h hv
  generalize Pl.openFault l = f at *
  go_enter Tryd.func11, Tryd.ntmps11
  go_upto_region 1 with fail
  refine abs_b (fun y => FrMem y w.heap.size 0 0 0 0 (.slice none 0 0) ∧ Hid (Below w.heap.size w y)) ⟨obj_new _ _, Lib.hid ((Below.refl _ _).alloc (Nat.le_refl _) _)⟩ ?_
  have hN : ∃ N, N = w.heap.size := ⟨_, rfl⟩
  obtain ⟨N, hN⟩ := hN
  rw [← hN] at O ⊢
  have HN := Lib.hid hN
  clear hN
  rintro y ⟨hp, kb⟩
  have HP := Lib.hid hp
  clear hp
  go_upto_region 3 with (go_at_call 36; refine (O.out _ kb.out).mono ?_; rintro e y2 ⟨rfl, k2⟩)
  have hp : FrMem y2 N 0 0 0 0 (.slice none 0 0) := Below.heapAt k2 HP.out (lt_of_block HP.out)
  have kb2 := Lib.hid (kb.out.trans (k2.mono (Nat.le_of_lt (lt_of_block HP.out))))
  clear k2 kb HP
  have p0 := obj_cell hp (k := 0) rfl
  have p1 := obj_cell hp (k := 1) rfl
  have p2 := obj_cell hp (k := 2) rfl
  have p3 := obj_cell hp (k := 3) rfl
  have p4 := obj_cell hp (k := 4) rfl
  have f0 := obj_free hp 0
  have f1 := obj_free hp 1
  have f2 := obj_free hp 2
  have f3 := obj_free hp 3
  have f4 := obj_free hp 4
  go_cut [3] (fun s3 x => s3 = .iface 73 (.int .i64 f) ∧ FrMem x N 0 0 0 0 (.slice none 0 0) ∧ Hid (Below N w x))
  case first =>
    go_wp2_with fail
    go_meet
    refine ⟨rfl, obj_set (obj_set (obj_set (obj_set (obj_set hp 0 _) 1 _) 2 _) 3 _) 4 _, ?_⟩
    have hl : N ≤ N := Nat.le_refl _
    exact Lib.hid (Below.setCell (Below.setCell (Below.setCell (Below.setCell (Below.setCell kb2.out hl _) hl _) hl _) hl _) hl _)
  case rest =>
  clear hp kb2 p0 p1 p2 p3 p4 f0 f1 f2 f3 f4
  obtain ⟨rfl, hp, kb⟩ := hcut
  have p0 := obj_cell hp (k := 0) rfl
  have p1 := obj_cell hp (k := 1) rfl
  have p2 := obj_cell hp (k := 2) rfl
  have p3 := obj_cell hp (k := 3) rfl
  have p4 := obj_cell hp (k := 4) rfl
  go_wp2
  refine bodyPost_ret (v := .tuple #[zeroFr, .iface 73 (.int .i64 f)]) (by simp [results, Tryd.results11, go_sem, p0, p1, p2, p3, p4]) rfl ?_
  exact ⟨rfl, by have h := kb.out; rw [HN.out] at h; exact h⟩
set_option maxRecDepth 100000 in
set_option maxHeartbeats 4000000 in
theorem fread_ok (v : Value) (l x : List UInt8) (w : World) (hv : IsBytes w v l) (hb : l.length ≤ 100000000) (h : Pl.openFault l = 0) (hx : Pl.opened l = x) (hl : 6 < x.length) (h70 : Pl.bAt x 0 = 70)
    (hf : Pl.frFault ((Pl.bAt x 1).toNat : Int) ((Pl.bAt x 2).toNat : Int) (Pl.getB ((x.drop 4).take 2)) ((Pl.bAt x 3).toNat : Int) (x.drop 6) = 0) :
    Calls Tryd.prog 11 #[v] w fun e w' => ∃ oa n c, e = .returned (.tuple #[frV ((Pl.bAt x 1).toNat : Int) ((Pl.bAt x 2).toNat : Int) (Pl.getB ((x.drop 4).take 2)) ((Pl.bAt x 3).toNat : Int) (.slice oa n c), .nilIface]) ∧ IsBytes w' (.slice oa n c) (x.drop 6) ∧ Below w.heap.size w w' ∧ (∀ a, oa = some a → w.heap.size ≤ a.block) := by
  have O := Lib.hid (fun y (k : Below w.heap.size w y) => copen_ok v l y (hv.below k) hb h)
  rw [hx] at O
  clear h hv hx hb
  have FC := Lib.hid hf
  have H70 := Lib.hid h70
  clear hf h70
  have E1 := Lib.hid (Pl.wrap_byte (Pl.bAt x 1))
  have E2 := Lib.hid (Pl.wrap_byte (Pl.bAt x 2))
  have E3 := Lib.hid (Pl.wrap_byte (Pl.bAt x 3))
  go_enter Tryd.func11, Tryd.ntmps11
  go_upto_region 1 with fail
  refine abs_b (fun y => FrMem y w.heap.size 0 0 0 0 (.slice none 0 0) ∧ Hid (Below w.heap.size w y)) ⟨obj_new _ _, Lib.hid ((Below.refl _ _).alloc (Nat.le_refl _) _)⟩ ?_
  have hN : ∃ N, N = w.heap.size := ⟨_, rfl⟩
  obtain ⟨N, hN⟩ := hN
  rw [← hN] at O ⊢
  have HN := Lib.hid hN
  clear hN
  rintro y ⟨hp, kb⟩
  have HP := Lib.hid hp
  clear hp
  have O2 := Lib.hid ((O.out _ kb.out).mono (fun e y2 ⟨oa, n, c, he, ho, k2⟩ => (show ∃ b off cap, e = Ending.returned (.tuple #[.slice (some ⟨b, off, none⟩) x.length cap, .nilIface]) ∧ x.length ≤ cap ∧ Hid (cap ≤ maxLen) ∧ Hid (IsBytes y2 (.slice (some ⟨b, off, none⟩) x.length cap) x) ∧ Hid (FrMem y2 N 0 0 0 0 (.slice none 0 0)) ∧ Hid (Below N w y2) ∧ Hid (N < b) from by
    have hr := ho.reads
    have hNy := lt_of_block HP.out
    rcases ho.forms with ⟨_, h0⟩ | ⟨b, cap, e2, hbb, q1, q2, _, _⟩
    · rw [h0] at hl; simp at hl
    rw [e2] at he hr
    exact ⟨b, 0, cap, he, q1, Lib.hid q2, Lib.hid hr, Lib.hid (Below.heapAt k2 HP.out (lt_of_block HP.out)), Lib.hid (kb.out.trans (k2.mono (Nat.le_of_lt (lt_of_block HP.out)))), Lib.hid (by omega)⟩)))
  clear O kb HP
  go_upto_region 4 with (go_at_call 36; refine O2.out.mono ?_; rintro e y2 ⟨b, off, cap, rfl, q1, q2, hr, HP, kb, BN⟩)
  have IS := Lib.hid (is_yes b off x.length cap x y2 (by omega) q1 q2.out rfl hr.out H70.out)
  have hcm := q2.out
  unfold maxLen at hcm
  go_upto_region 8 with (go_at_call 39; refine IS.out.mono ?_; rintro e w' ⟨rfl, rfl⟩)
  have BLT := Lib.hid (show b < y2.heap.size from Sl.lt (a := ⟨b, off + 1, none⟩) (bytes_at hr.out 1 (by omega)))
  have c1 : y2.cell? ⟨b, off + 1, none⟩ = some (encB (Pl.bAt x 1)) := bytes_at hr.out 1 (by omega)
  have c2 : y2.cell? ⟨b, off + 2, none⟩ = some (encB (Pl.bAt x 2)) := bytes_at hr.out 2 (by omega)
  have c3 : y2.cell? ⟨b, off + 3, none⟩ = some (encB (Pl.bAt x 3)) := bytes_at hr.out 3 (by omega)
  generalize hx1 : Pl.bAt x 1 = x1 at *
  generalize hx2 : Pl.bAt x 2 = x2 at *
  generalize hx3 : Pl.bAt x 3 = x3 at *
  have SOF := Lib.hid (show ∀ w', Below y2.heap.size y2 w' → (w'.cell? ⟨b, off + 1, none⟩ = some (encB x1) ∧ w'.cell? ⟨b, off + 2, none⟩ = some (encB x2) ∧ w'.cell? ⟨b, off + 3, none⟩ = some (encB x3) ∧ Below y2.heap.size y2 w') from fun w' h => ⟨(h.cell BLT.out).trans c1, (h.cell BLT.out).trans c2, (h.cell BLT.out).trans c3, h⟩)
  have n4 : ¬ cap = 4 := by omega
  have n6 : ¬ cap = 6 := by omega
  have SUB := Lib.hid (fun w' (h : Below y2.heap.size y2 w') (lo hi m c : Nat) (h1 : lo ≤ hi) (h2 : hi ≤ x.length) (hm : m = hi - lo) (hc : c = cap - lo) => sub_bytes (hr.out.below h) lo hi h1 h2 q2.out q1 m c hm hc)
  have G4 := Lib.hid (fun w' (h : Below y2.heap.size y2 w') => get_any (.slice (some ⟨b, off + 4, none⟩) 2 (cap - 4)) ((x.drop 4).take 2) w' (by have q := SUB.out w' h 4 6 2 (cap - 4) (by omega) (by omega) rfl rfl; rw [if_neg n4] at q; exact q) (by simp; omega))
  have B6 := Lib.hid (fun w' (h : Below y2.heap.size y2 w') => (show IsBytes w' (.slice (some ⟨b, off + 6, none⟩) (x.length - 6) (cap - 6)) (x.drop 6) from by have q := SUB.out w' h 6 x.length (x.length - 6) (cap - 6) (by omega) (by omega) rfl rfl; rw [if_neg n6, List.take_of_length_le (by simp)] at q; exact q))
  have b4 : (6 : Int) ≤ (cap : Int) := by omega
  have b6 : (6 : Int) ≤ (x.length : Int) := by omega
  have b1 : (1 : Int) < (x.length : Int) := by omega
  have b2 : (2 : Int) < (x.length : Int) := by omega
  have b3 : (3 : Int) < (x.length : Int) := by omega
  have blc : (x.length : Int) ≤ (cap : Int) := by omega
  have HX := Lib.hid (And.intro hx1 (And.intro hx2 hx3))
  have HL := Lib.hid (Nat.le_refl y2.heap.size)
  have kk := Below.refl y2.heap.size y2
  clear hx1 hx2 hx3 IS
  go_cut [5] (fun s5 z => s5 = .pointer (some ⟨y2.heap.size, 0, none⟩) ∧ FrMem z y2.heap.size (x1.toNat : Int) (x2.toNat : Int) (Pl.getB ((x.drop 4).take 2)) (x3.toNat : Int) (.slice (some ⟨b, off + 6, none⟩) (x.length - 6) (cap - 6)) ∧ Hid (Below y2.heap.size y2 z))
  case first =>
    go_region_held3 (fun w' => w'.cell? ⟨b, off + 1, none⟩ = some (encB x1) ∧ w'.cell? ⟨b, off + 2, none⟩ = some (encB x2) ∧ w'.cell? ⟨b, off + 3, none⟩ = some (encB x3) ∧ Below y2.heap.size y2 w')
      (first | (with_reducible assumption) | (go_split_ands; refine SOF.out _ ?_; (repeat' (first | (with_reducible assumption) | (with_reducible exact HL.out) | (with_reducible apply Below.drew) | (with_reducible apply Below.setCell) | (with_reducible apply Below.alloc)))))
      (first
      | (go_at_call 40; go_split_ands; (with_reducible refine (G4.out _ (by with_reducible assumption)).mono ?_); rintro e w' ⟨rfl, rfl⟩)
      | fail)
    all_goals go_wp2_with fail
    all_goals go_meet
    all_goals
      refine ⟨rfl, frMem_eq (t := IntKind.i64.wrap (x1.toNat : Int)) (o := IntKind.i64.wrap (x2.toNat : Int)) (h := IntKind.i64.wrap (x3.toNat : Int)) (obj_drew (obj_new _ _)) E1.out E2.out rfl E3.out, Lib.hid (Below.drew (Below.alloc kk HL.out _))⟩
  case rest =>
  clear kk c1 c2 c3 SOF SUB G4 E1 E2 E3
  obtain ⟨rfl, fm, kz⟩ := hcut
  have HB := Lib.hid ((B6.out y2 (Below.refl _ _)).below kz.out)
  have HPz := Lib.hid (Below.heapAt kz.out HP.out (lt_of_block HP.out))
  have HNY := Lib.hid (lt_of_block HP.out)
  have KB := Lib.hid (kb.out.trans (kz.out.mono (Nat.le_of_lt HNY.out)))
  have FM := Lib.hid fm
  have p0 := obj_cell fm (k := 0) rfl
  have p1 := obj_cell fm (k := 1) rfl
  have p2 := obj_cell fm (k := 2) rfl
  have p3 := obj_cell fm (k := 3) rfl
  have p4 := obj_cell fm (k := 4) rfl
  have CK := Lib.hid (fcheck_ok _ _ _ _ _ _ _ HB.out FC.out)
  clear B6 HP kb kz hr fm
  generalize y2.heap.size = Y at *
  go_upto_region 12 with (go_at_call 17; refine CK.out.mono ?_; rintro e z2 ⟨rfl, k2⟩)
  have fm := Below.heapAt k2 FM.out (lt_of_block FM.out)
  have hp := Below.heapAt k2 HPz.out (lt_of_block HPz.out)
  have hb2 := Lib.hid (HB.out.below k2)
  have kb2 := Lib.hid (KB.out.trans (k2.mono (Nat.le_of_lt (lt_of_block HPz.out))))
  clear p0 p1 p2 p3 p4 k2 CK KB HB FC
  have p0 := obj_cell fm (k := 0) rfl
  have p1 := obj_cell fm (k := 1) rfl
  have p2 := obj_cell fm (k := 2) rfl
  have p3 := obj_cell fm (k := 3) rfl
  have p4 := obj_cell fm (k := 4) rfl
  have r0 := obj_cell hp (k := 0) rfl
  have r1 := obj_cell hp (k := 1) rfl
  have r2 := obj_cell hp (k := 2) rfl
  have r3 := obj_cell hp (k := 3) rfl
  have r4 := obj_cell hp (k := 4) rfl
  have f0 := obj_free hp 0
  have f1 := obj_free hp 1
  have f2 := obj_free hp 2
  have f3 := obj_free hp 3
  have f4 := obj_free hp 4
  go_cut [3] (fun s3 q => s3 = .nilIface ∧ FrMem q N (x1.toNat : Int) (x2.toNat : Int) (Pl.getB ((x.drop 4).take 2)) (x3.toNat : Int) (.slice (some ⟨b, off + 6, none⟩) (x.length - 6) (cap - 6)) ∧ Hid (IsBytes q (.slice (some ⟨b, off + 6, none⟩) (x.length - 6) (cap - 6)) (x.drop 6)) ∧ Hid (Below N w q))
  case first =>
    go_wp2_with fail
    go_meet
    refine ⟨rfl, obj_set (obj_set (obj_set (obj_set (obj_set hp 0 _) 1 _) 2 _) 3 _) 4 _, ?_, ?_⟩
    · refine Lib.hid (hb2.out.keep (fun a ha hx => ?_))
      have e : b = a.block := hx _ _ _ rfl _ rfl
      have ne : a.block ≠ N := by rw [← e]; have := BN.out; omega
      rw [cell_set ne, cell_set ne, cell_set ne, cell_set ne, cell_set ne]
    · have hl : N ≤ N := Nat.le_refl _
      exact Lib.hid (Below.setCell (Below.setCell (Below.setCell (Below.setCell (Below.setCell kb2.out hl _) hl _) hl _) hl _) hl _)
  case rest =>
  clear fm hp kb2 hb2 p0 p1 p2 p3 p4 r0 r1 r2 r3 r4 f0 f1 f2 f3 f4
  obtain ⟨rfl, hp, hb2, kb⟩ := hcut
  have p0 := obj_cell hp (k := 0) rfl
  have p1 := obj_cell hp (k := 1) rfl
  have p2 := obj_cell hp (k := 2) rfl
  have p3 := obj_cell hp (k := 3) rfl
  have p4 := obj_cell hp (k := 4) rfl
  obtain ⟨hx1, hx2, hx3⟩ := HX.out
  go_wp2
  refine bodyPost_ret (v := .tuple #[frV (x1.toNat : Int) (x2.toNat : Int) (Pl.getB ((x.drop 4).take 2)) (x3.toNat : Int) (.slice (some ⟨b, off + 6, none⟩) (x.length - 6) (cap - 6)), .nilIface]) (by simp [results, Tryd.results11, go_sem, p0, p1, p2, p3, p4]) rfl ?_
  exact ⟨_, _, _, by rw [hx1, hx2, hx3], hb2.out, by have h := kb.out; rw [HN.out] at h; exact h, fun a ha => by cases ha; rw [← HN.out]; exact Nat.le_of_lt BN.out⟩
end Go.Proofs.YticihmkgdabgiaaDoor
