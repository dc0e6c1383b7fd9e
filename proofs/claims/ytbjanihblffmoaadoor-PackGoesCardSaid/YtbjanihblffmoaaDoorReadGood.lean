import Derived.Test.YtbjanihblffmoaaDoorRead
import Derived.Test.YtbjanihblffmoaaDoorPk
import Derived.RegionTactic
import Derived.ChangeAlike
import Derived.Deep.QuietTactic
import Derived.BigQuiet
import Derived.Deep.RegionHeld3
import Derived.Deep.DeepCutAuto
import Derived.StillTailTactics
/-! pack.Read, what is read. -/
namespace Go.Proofs.YtbjanihblffmoaaDoor
open Go.RowKit
set_option linter.unusedVariables false
set_option linter.unusedSimpArgs false
theorem Pl.and_i64 (a : UInt8) (k : UInt8) : bits .and .u8 (a.toNat : Int) (k.toNat : Int) = ((a &&& k).toNat : Int) := by
  have hx := a.toNat_lt
  have hy := k.toNat_lt
  have hxy := (a &&& k).toNat_lt
  unfold bits
  have h : (BitVec.ofInt 8 (a.toNat : Int) &&& BitVec.ofInt 8 (k.toNat : Int)).toNat = (a &&& k).toNat := by
    rw [BitVec.toNat_and, BitVec.ofInt_natCast, BitVec.ofInt_natCast, BitVec.toNat_ofNat, BitVec.toNat_ofNat, Nat.mod_eq_of_lt (by omega), Nat.mod_eq_of_lt (by omega), UInt8.toNat_and]
  show IntKind.u8.wrap (((BitVec.ofInt 8 (a.toNat : Int) &&& BitVec.ofInt 8 (k.toNat : Int)).toNat : Nat) : Int) = _
  rw [h]
  generalize (a &&& k).toNat = n at *
  simp [IntKind.wrap, IntKind.bits, IntKind.signed]
  omega
theorem Pl.wrap_byte (a : UInt8) : IntKind.i64.wrap (a.toNat : Int) = (a.toNat : Int) := by
  have := a.toNat_lt
  rw [IntKind.wrap_i64]; omega
theorem Pl.rd_layer (a : UInt8) : IntKind.i64.wrap (bits .and .u8 (a.toNat : Int) 3) = Pl.rdLayer a := by
  have h := Pl.and_i64 a 3
  rw [show (((3 : UInt8).toNat : Nat) : Int) = 3 from rfl] at h
  rw [h, Pl.wrap_byte]
  rfl
theorem Pl.rd_start (a : UInt8) : (bits .and .u8 (a.toNat : Int) 32 != 0) = Pl.rdStart a := by
  have h := Pl.and_i64 a 32
  rw [show (((32 : UInt8).toNat : Nat) : Int) = 32 from rfl] at h
  rw [h]
  unfold Pl.rdStart
  by_cases e : a &&& 32 = 0
  · rw [e]; rfl
  · have h2 : ¬ ((a &&& 32).toNat : Int) = 0 := fun h3 => e (UInt8.toNat_inj.1 (by have h4 : (a &&& 32).toNat = 0 := by omega
                                                                                   rw [h4]; rfl))
    rw [bne_iff_ne.2 h2, bne_iff_ne.2 e]
theorem OwnB.set {w : World} {base : Nat} {v : Value} {l : List UInt8} (h : OwnB w base v l) {g : Nat} (hg : g < base) (k : Nat) (u : Value) : OwnB (w.setCell ⟨g, k, none⟩ u) base v l :=
  h.keep (fun g' o _ hb => Below.heap_setCell _ _ _ _ (by show g' ≠ g; omega))
theorem pkMem_eq {w : World} {g : Nat} {s t l lv l' lv' : Int} {st st' : Bool} {bv : Value} (h : PkMem w g s t l lv st bv) (h1 : l = l') (h2 : lv = lv') (h3 : st = st') : PkMem w g s t l' lv' st' bv := by subst h1 h2 h3; exact h
def Pl.bAt (l : List UInt8) (i : Nat) : UInt8 := l.getD i 0
set_option maxRecDepth 100000 in
set_option maxHeartbeats 8000000 in
theorem read_goodA (b off : Nat) (cap : Nat) (hcm0 : cap ≤ maxLen) (l : List UInt8) (w : World) (hv : IsBytes w (.slice (some ⟨b, off, none⟩) l.length cap) l) (h : 8 ≤ l.length) (h' : l.length ≤ 1008) (hb : Pl.headBad (Pl.bAt l 0) (Pl.bAt l 1) = false) (hlc : l.length ≤ cap) (n8 : ¬ cap = 8) :
    Calls Tryd.prog 12 #[.slice (some ⟨b, off, none⟩) l.length cap] w fun e w' => ∃ oa n c, e = .returned (.tuple #[pkV (Pl.getB ((l.drop 2).take 2)) (Pl.getB ((l.drop 4).take 4)) (Pl.rdLayer (Pl.bAt l 0)) ((Pl.bAt l 1).toNat : Int) (Pl.rdStart (Pl.bAt l 0)) (.slice oa n c), .nilIface]) ∧ OwnB w' (w.heap.size + 1) (.slice oa n c) (l.drop 8) ∧ Below w.heap.size w w' := by
  have hcm : cap ≤ maxLen := by first | exact hcm0 | (unfold maxLen; omega)
  have hlc : l.length ≤ cap := by omega
  have hbW := Lib.hid (show b < w.heap.size from Sl.lt (a := ⟨b, off + 1, none⟩) (bytes_at hv 1 (by omega)))
  unfold maxLen at hcm
  go_enter Tryd.func12, Tryd.ntmps12
  go_upto_region 1 with fail
  refine abs_b (fun y => PkMem y w.heap.size 0 0 0 0 false (.slice none 0 0) ∧ IsBytes y (.slice (some ⟨b, off, none⟩) l.length cap) l ∧ Hid (Below w.heap.size w y)) ⟨obj_new _ _, hv.below ((Below.refl _ _).alloc (Nat.le_refl _) _), Lib.hid ((Below.refl _ _).alloc (Nat.le_refl _) _)⟩ ?_
  clear hv
  have hN : ∃ N, N = w.heap.size := ⟨_, rfl⟩
  obtain ⟨N, hN⟩ := hN
  rw [← hN]
  have HN := Lib.hid hN
  clear hN
  rintro y ⟨hp, hv, kb⟩
  have hbN : b < N := by have h1 := hbW.out; have h2 := HN.out; omega
  have c0 : y.cell? ⟨b, off + 0, none⟩ = some (encB (Pl.bAt l 0)) := bytes_at hv 0 (by omega)
  have c1 : y.cell? ⟨b, off + 1, none⟩ = some (encB (Pl.bAt l 1)) := bytes_at hv 1 (by omega)
  rw [Nat.add_zero] at c0
  generalize hx0 : Pl.bAt l 0 = x0 at *
  have HX0 := Lib.hid hx0
  clear hx0
  generalize hx1 : Pl.bAt l 1 = x1 at *
  have HX1 := Lib.hid hx1
  clear hx1
  obtain ⟨h1, h2, h3⟩ := Pl.headBad_no hb
  clear hb
  have E2 := Lib.hid (Pl.rd_layer x0)
  have E3 := Lib.hid (Pl.wrap_byte x1)
  have E4 := Lib.hid (Pl.rd_start x0)
  have SOF := Lib.hid (show ∀ w', Below N y w' → (w'.cell? ⟨b, off, none⟩ = some (encB x0) ∧ w'.cell? ⟨b, off + 1, none⟩ = some (encB x1) ∧ Below N y w') from fun w' h => ⟨(h.cell hbN).trans c0, (h.cell hbN).trans c1, h⟩)
  have SUB := Lib.hid (fun w' (h : Below N y w') (lo hi m c : Nat) (h1 : lo ≤ hi) (h2 : hi ≤ l.length) (hm : m = hi - lo) (hc : c = cap - lo) => sub_bytes (w := w') (show IsBytes w' _ l from hv.keep (fun a ha hx => h.cell (by have h5 : b = a.block := hx _ _ _ rfl _ rfl; omega))) lo hi h1 h2 hcm hlc m c hm hc)
  have kb0 := Below.refl N y
  have n2 : ¬ cap = 2 := by omega
  have n4 : ¬ cap = 4 := by omega
  have G2 := Lib.hid (fun w' (h : Below N y w') => get_any (.slice (some ⟨b, off + 2, none⟩) 2 (cap - 2)) ((l.drop 2).take 2) w' (by have q := SUB.out w' h 2 4 2 (cap - 2) (by omega) (by omega) rfl rfl; rw [if_neg n2] at q; exact q) (by simp; omega))
  have G4 := Lib.hid (fun w' (h : Below N y w') => get_any (.slice (some ⟨b, off + 4, none⟩) 4 (cap - 4)) ((l.drop 4).take 4) w' (by have q := SUB.out w' h 4 8 4 (cap - 4) (by omega) (by omega) rfl rfl; rw [if_neg n4] at q; exact q) (by simp; omega))
  have b4 : (4 : Int) ≤ (cap : Int) := by omega
  have b8 : (8 : Int) ≤ (cap : Int) := by omega
  have b8l : (8 : Int) ≤ (l.length : Int) := by omega
  have blc : (l.length : Int) ≤ (cap : Int) := by omega
  have C8 := Lib.hid (fun w' (h : Below N y w') => SUB.out w' h 8 l.length (l.length - 8) (cap - 8) (by omega) (by omega) (by omega) rfl)
  go_upto_region 7 with fail
  have HNY := Lib.hid (lt_of_block hp)
  have HP := Lib.hid hp
  have HL := Lib.hid (Nat.le_refl N)
  have D8 := Lib.hid ((clone_own (.slice (some ⟨b, off + 8, none⟩) (l.length - 8) (cap - 8)) (l.drop 8) y.drew (by have q := C8.out y.drew (Below.drew (Below.refl N y)); rw [if_neg n8, List.take_of_length_le (by simp)] at q; exact q) (by simp; omega)).mono (fun e w1 ⟨bv, he, ho, hk⟩ => (show ∃ oa n c, e = Ending.returned (.slice oa n c) ∧ Hid (OwnB w1 (N + 1) (.slice oa n c) (l.drop 8)) ∧ Below N y w1 ∧ PkMem w1 N 0 0 0 0 false (.slice none 0 0) from by obtain ⟨oa, c, rfl, _⟩ := bytes_slice ho.reads; exact ⟨oa, _, c, he, Lib.hid (ho.mono HNY.out), (Below.drew (Below.refl N y)).trans (hk.mono (Nat.le_of_lt HNY.out)), Below.heapAt hk HP.out HNY.out⟩)))
  clear hp hv
  go_cut [3] (fun s3 x => s3 = .nilIface ∧ ∃ oa n c, PkMem x N (Pl.getB ((l.drop 2).take 2)) (Pl.getB ((l.drop 4).take 4)) (Pl.rdLayer x0) (x1.toNat : Int) (Pl.rdStart x0) (.slice oa n c) ∧ Hid (OwnB x (N + 1) (.slice oa n c) (l.drop 8)) ∧ Hid (Below N w x))
  case first =>
    go_region_held3 (fun w' => w'.cell? ⟨b, off, none⟩ = some (encB x0) ∧ w'.cell? ⟨b, off + 1, none⟩ = some (encB x1) ∧ Below N y w')
      (first | (with_reducible assumption) | (go_split_ands; refine SOF.out _ ?_; (repeat' (first | (with_reducible assumption) | (with_reducible exact HL.out) | (with_reducible apply Below.drew) | (with_reducible apply Below.setCell)))))
      (first
      | (go_at_call 25; go_split_ands; (with_reducible refine (G2.out _ (by with_reducible assumption)).mono ?_); rintro e w' ⟨rfl, rfl⟩)
      | (go_at_call 25; go_split_ands; (with_reducible refine (G4.out _ (by with_reducible assumption)).mono ?_); rintro e w' ⟨rfl, rfl⟩)
      | (go_at_call 19; (refine D8.out.mono ?_); rintro e w1 ⟨oa, n8', c8, rfl, o1, k1, hp1⟩; have q0 := obj_cell hp1 (k := 0) rfl; have q1 := obj_cell hp1 (k := 1) rfl; have q2 := obj_cell hp1 (k := 2) rfl; have q3 := obj_cell hp1 (k := 3) rfl; have q4 := obj_cell hp1 (k := 4) rfl; have q5 := obj_cell hp1 (k := 5) rfl; have g0 := obj_free hp1 0; have g1 := obj_free hp1 1; have g2 := obj_free hp1 2; have g3 := obj_free hp1 3; have g4 := obj_free hp1 4; have g5 := obj_free hp1 5))
    go_wp2_with fail
    go_meet
    refine ⟨rfl, oa, n8', c8, ?_, ?_, ?_⟩
    · exact pkMem_eq (l := IntKind.i64.wrap (bits .and .u8 (x0.toNat : Int) 3)) (lv := IntKind.i64.wrap (x1.toNat : Int)) (st := (bits .and .u8 (x0.toNat : Int) 32 != 0)) (obj_set (obj_set (obj_set (obj_set (obj_set (obj_set hp1 0 _) 1 _) 2 _) 3 _) 4 _) 5 _) E2.out E3.out E4.out
    · have hl : N < N + 1 := Nat.lt_succ_self N
      exact Lib.hid ((((((o1.out.set hl 0 _).set hl 1 _).set hl 2 _).set hl 3 _).set hl 4 _).set hl 5 _)
    · have hl := HL.out
      exact Lib.hid (kb.out.trans (Below.setCell (Below.setCell (Below.setCell (Below.setCell (Below.setCell (Below.setCell k1 hl _) hl _) hl _) hl _) hl _) hl _))
  case rest =>
  clear kb
  obtain ⟨rfl, oa, n9, c9, hp, ho, kb⟩ := hcut
  have p0 := obj_cell hp (k := 0) rfl
  have p1 := obj_cell hp (k := 1) rfl
  have p2 := obj_cell hp (k := 2) rfl
  have p3 := obj_cell hp (k := 3) rfl
  have p4 := obj_cell hp (k := 4) rfl
  have p5 := obj_cell hp (k := 5) rfl
  go_wp2
  refine bodyPost_ret (v := .tuple #[pkV (Pl.getB ((l.drop 2).take 2)) (Pl.getB ((l.drop 4).take 4)) (Pl.rdLayer x0) (x1.toNat : Int) (Pl.rdStart x0) (.slice oa n9 c9), .nilIface]) (by simp [results, Tryd.results12, go_sem, p0, p1, p2, p3, p4, p5]) rfl ?_
  exact ⟨oa, n9, c9, by rw [HX0.out, HX1.out], by have h := ho.out; rw [HN.out] at h; exact h, by have h := kb.out; rw [HN.out] at h; exact h⟩
set_option maxRecDepth 100000 in
set_option maxHeartbeats 8000000 in
theorem read_goodB (b off : Nat)  (l : List UInt8) (w : World) (hv : IsBytes w (.slice (some ⟨b, off, none⟩) 8 8) l) (h : 8 ≤ l.length) (h' : l.length ≤ 1008) (hb : Pl.headBad (Pl.bAt l 0) (Pl.bAt l 1) = false) (hl8 : l.length = 8) :
    Calls Tryd.prog 12 #[.slice (some ⟨b, off, none⟩) 8 8] w fun e w' => ∃ oa n c, e = .returned (.tuple #[pkV (Pl.getB ((l.drop 2).take 2)) (Pl.getB ((l.drop 4).take 4)) (Pl.rdLayer (Pl.bAt l 0)) ((Pl.bAt l 1).toNat : Int) (Pl.rdStart (Pl.bAt l 0)) (.slice oa n c), .nilIface]) ∧ OwnB w' (w.heap.size + 1) (.slice oa n c) (l.drop 8) ∧ Below w.heap.size w w' := by
  have hcm : 8 ≤ maxLen := by first | exact hcm0 | (unfold maxLen; omega)
  have hlc : l.length ≤ 8 := by omega
  have hbW := Lib.hid (show b < w.heap.size from Sl.lt (a := ⟨b, off + 1, none⟩) (bytes_at hv 1 (by omega)))
  unfold maxLen at hcm
  go_enter Tryd.func12, Tryd.ntmps12
  go_upto_region 1 with fail
  refine abs_b (fun y => PkMem y w.heap.size 0 0 0 0 false (.slice none 0 0) ∧ IsBytes y (.slice (some ⟨b, off, none⟩) 8 8) l ∧ Hid (Below w.heap.size w y)) ⟨obj_new _ _, hv.below ((Below.refl _ _).alloc (Nat.le_refl _) _), Lib.hid ((Below.refl _ _).alloc (Nat.le_refl _) _)⟩ ?_
  clear hv
  have hN : ∃ N, N = w.heap.size := ⟨_, rfl⟩
  obtain ⟨N, hN⟩ := hN
  rw [← hN]
  have HN := Lib.hid hN
  clear hN
  rintro y ⟨hp, hv, kb⟩
  have hbN : b < N := by have h1 := hbW.out; have h2 := HN.out; omega
  have c0 : y.cell? ⟨b, off + 0, none⟩ = some (encB (Pl.bAt l 0)) := bytes_at hv 0 (by omega)
  have c1 : y.cell? ⟨b, off + 1, none⟩ = some (encB (Pl.bAt l 1)) := bytes_at hv 1 (by omega)
  rw [Nat.add_zero] at c0
  generalize hx0 : Pl.bAt l 0 = x0 at *
  have HX0 := Lib.hid hx0
  clear hx0
  generalize hx1 : Pl.bAt l 1 = x1 at *
  have HX1 := Lib.hid hx1
  clear hx1
  obtain ⟨h1, h2, h3⟩ := Pl.headBad_no hb
  clear hb
  have E2 := Lib.hid (Pl.rd_layer x0)
  have E3 := Lib.hid (Pl.wrap_byte x1)
  have E4 := Lib.hid (Pl.rd_start x0)
  have SOF := Lib.hid (show ∀ w', Below N y w' → (w'.cell? ⟨b, off, none⟩ = some (encB x0) ∧ w'.cell? ⟨b, off + 1, none⟩ = some (encB x1) ∧ Below N y w') from fun w' h => ⟨(h.cell hbN).trans c0, (h.cell hbN).trans c1, h⟩)
  have SUB := Lib.hid (fun w' (h : Below N y w') (lo hi m c : Nat) (h1 : lo ≤ hi) (h2 : hi ≤ l.length) (hm : m = hi - lo) (hc : c = 8 - lo) => sub_bytes (w := w') (show IsBytes w' _ l from hv.keep (fun a ha hx => h.cell (by have h5 : b = a.block := hx _ _ _ rfl _ rfl; omega))) lo hi h1 h2 hcm hlc m c hm hc)
  have kb0 := Below.refl N y
  have n2 : ¬ 8 = 2 := by omega
  have n4 : ¬ 8 = 4 := by omega
  have G2 := Lib.hid (fun w' (h : Below N y w') => get_any (.slice (some ⟨b, off + 2, none⟩) 2 (8 - 2)) ((l.drop 2).take 2) w' (by have q := SUB.out w' h 2 4 2 (8 - 2) (by omega) (by omega) rfl rfl; rw [if_neg n2] at q; exact q) (by simp; omega))
  have G4 := Lib.hid (fun w' (h : Below N y w') => get_any (.slice (some ⟨b, off + 4, none⟩) 4 (8 - 4)) ((l.drop 4).take 4) w' (by have q := SUB.out w' h 4 8 4 (8 - 4) (by omega) (by omega) rfl rfl; rw [if_neg n4] at q; exact q) (by simp; omega))
  have b4 : (4 : Int) ≤ (8 : Int) := by omega
  have b8 : (8 : Int) ≤ (8 : Int) := by omega
  have b8l : (8 : Int) ≤ (8 : Int) := by omega
  have blc : (8 : Int) ≤ (8 : Int) := by omega
  have C8 := Lib.hid (fun w' (h : Below N y w') => SUB.out w' h 8 l.length (8 - 8) (8 - 8) (by omega) (by omega) (by omega) rfl)
  go_upto_region 7 with fail
  have HNY := Lib.hid (lt_of_block hp)
  have HP := Lib.hid hp
  have HL := Lib.hid (Nat.le_refl N)
  have D8 := Lib.hid ((clone_own (.slice (some ⟨b, off, none⟩) (0) (0)) (l.drop 8) y.drew (by have q := C8.out y.drew (Below.drew (Below.refl N y)); rw [if_pos rfl, List.take_of_length_le (by simp)] at q; exact q) (by simp; omega)).mono (fun e w1 ⟨bv, he, ho, hk⟩ => (show ∃ oa n c, e = Ending.returned (.slice oa n c) ∧ Hid (OwnB w1 (N + 1) (.slice oa n c) (l.drop 8)) ∧ Below N y w1 ∧ PkMem w1 N 0 0 0 0 false (.slice none 0 0) from by obtain ⟨oa, c, rfl, _⟩ := bytes_slice ho.reads; exact ⟨oa, _, c, he, Lib.hid (ho.mono HNY.out), (Below.drew (Below.refl N y)).trans (hk.mono (Nat.le_of_lt HNY.out)), Below.heapAt hk HP.out HNY.out⟩)))
  clear hp hv
  go_cut [3] (fun s3 x => s3 = .nilIface ∧ ∃ oa n c, PkMem x N (Pl.getB ((l.drop 2).take 2)) (Pl.getB ((l.drop 4).take 4)) (Pl.rdLayer x0) (x1.toNat : Int) (Pl.rdStart x0) (.slice oa n c) ∧ Hid (OwnB x (N + 1) (.slice oa n c) (l.drop 8)) ∧ Hid (Below N w x))
  case first =>
    go_region_held3 (fun w' => w'.cell? ⟨b, off, none⟩ = some (encB x0) ∧ w'.cell? ⟨b, off + 1, none⟩ = some (encB x1) ∧ Below N y w')
      (first | (with_reducible assumption) | (go_split_ands; refine SOF.out _ ?_; (repeat' (first | (with_reducible assumption) | (with_reducible exact HL.out) | (with_reducible apply Below.drew) | (with_reducible apply Below.setCell)))))
      (first
      | (go_at_call 25; go_split_ands; (with_reducible refine (G2.out _ (by with_reducible assumption)).mono ?_); rintro e w' ⟨rfl, rfl⟩)
      | (go_at_call 25; go_split_ands; (with_reducible refine (G4.out _ (by with_reducible assumption)).mono ?_); rintro e w' ⟨rfl, rfl⟩)
      | (go_at_call 19; (refine D8.out.mono ?_); rintro e w1 ⟨oa, n8', c8, rfl, o1, k1, hp1⟩; have q0 := obj_cell hp1 (k := 0) rfl; have q1 := obj_cell hp1 (k := 1) rfl; have q2 := obj_cell hp1 (k := 2) rfl; have q3 := obj_cell hp1 (k := 3) rfl; have q4 := obj_cell hp1 (k := 4) rfl; have q5 := obj_cell hp1 (k := 5) rfl; have g0 := obj_free hp1 0; have g1 := obj_free hp1 1; have g2 := obj_free hp1 2; have g3 := obj_free hp1 3; have g4 := obj_free hp1 4; have g5 := obj_free hp1 5))
    go_wp2_with fail
    go_meet
    refine ⟨rfl, oa, n8', c8, ?_, ?_, ?_⟩
    · exact pkMem_eq (l := IntKind.i64.wrap (bits .and .u8 (x0.toNat : Int) 3)) (lv := IntKind.i64.wrap (x1.toNat : Int)) (st := (bits .and .u8 (x0.toNat : Int) 32 != 0)) (obj_set (obj_set (obj_set (obj_set (obj_set (obj_set hp1 0 _) 1 _) 2 _) 3 _) 4 _) 5 _) E2.out E3.out E4.out
    · have hl : N < N + 1 := Nat.lt_succ_self N
      exact Lib.hid ((((((o1.out.set hl 0 _).set hl 1 _).set hl 2 _).set hl 3 _).set hl 4 _).set hl 5 _)
    · have hl := HL.out
      exact Lib.hid (kb.out.trans (Below.setCell (Below.setCell (Below.setCell (Below.setCell (Below.setCell (Below.setCell k1 hl _) hl _) hl _) hl _) hl _) hl _))
  case rest =>
  clear kb
  obtain ⟨rfl, oa, n9, c9, hp, ho, kb⟩ := hcut
  have p0 := obj_cell hp (k := 0) rfl
  have p1 := obj_cell hp (k := 1) rfl
  have p2 := obj_cell hp (k := 2) rfl
  have p3 := obj_cell hp (k := 3) rfl
  have p4 := obj_cell hp (k := 4) rfl
  have p5 := obj_cell hp (k := 5) rfl
  go_wp2
  refine bodyPost_ret (v := .tuple #[pkV (Pl.getB ((l.drop 2).take 2)) (Pl.getB ((l.drop 4).take 4)) (Pl.rdLayer x0) (x1.toNat : Int) (Pl.rdStart x0) (.slice oa n9 c9), .nilIface]) (by simp [results, Tryd.results12, go_sem, p0, p1, p2, p3, p4, p5]) rfl ?_
  exact ⟨oa, n9, c9, by rw [HX0.out, HX1.out], by have h := ho.out; rw [HN.out] at h; exact h, by have h := kb.out; rw [HN.out] at h; exact h⟩

theorem read_good (v : Value) (l : List UInt8) (w : World) (hv : IsBytes w v l) (h : 8 ≤ l.length) (h' : l.length ≤ 1008) (hb : Pl.headBad (Pl.bAt l 0) (Pl.bAt l 1) = false) :
    Calls Tryd.prog 12 #[v] w fun e w' => ∃ oa n c, e = .returned (.tuple #[pkV (Pl.getB ((l.drop 2).take 2)) (Pl.getB ((l.drop 4).take 4)) (Pl.rdLayer (Pl.bAt l 0)) ((Pl.bAt l 1).toNat : Int) (Pl.rdStart (Pl.bAt l 0)) (.slice oa n c), .nilIface]) ∧ OwnB w' (w.heap.size + 1) (.slice oa n c) (l.drop 8) ∧ Below w.heap.size w w' := by
  obtain ⟨b, off, cap, rfl, hlc, hcm, hcel⟩ := bytes_long hv (by omega)
  by_cases n8 : cap = 8
  · subst n8
    have hl8 : l.length = 8 := by omega
    rw [hl8] at hv ⊢
    exact read_goodB b off l w hv h h' hb hl8
  · exact read_goodA b off cap hcm l w hv h h' hb hlc n8
theorem read_bad (v : Value) (l : List UInt8) (w : World) (hv : IsBytes w v l) (h : Pl.readFault l ≠ 0) :
    Calls Tryd.prog 12 #[v] w fun e w' => e = .returned (.tuple #[zeroPk, .iface 48 (.int .i64 (Pl.readFault l))]) ∧ Below w.heap.size w w' := by
  unfold Pl.readFault at h ⊢
  by_cases h8 : l.length < 8
  · rw [if_pos h8]; exact read_short v l w hv h8
  · rw [if_neg h8] at h ⊢
    by_cases hb : Pl.headBad (l.getD 0 0) (l.getD 1 0) = true
    · rw [if_pos hb]; exact read_syntax v l w hv (by omega) hb
    · rw [if_neg hb] at h ⊢
      by_cases hf : 1008 < l.length
      · rw [if_pos hf]; exact read_full v l w hv hf (by simpa using hb)
      · rw [if_neg hf] at h; exact absurd rfl h
theorem Pl.read_ok {l : List UInt8} (h : Pl.readFault l = 0) : 8 ≤ l.length ∧ l.length ≤ 1008 ∧ Pl.headBad (Pl.bAt l 0) (Pl.bAt l 1) = false := by
  unfold Pl.readFault at h
  split at h
  · cases h
  · split at h
    · cases h
    · split at h
      · cases h
      · rename_i h1 h2 h3
        exact ⟨by omega, by omega, by cases h5 : headBad (l.getD 0 0) (l.getD 1 0); exact h5; exact absurd h5 h2⟩
end Go.Proofs.YtbjanihblffmoaaDoor
