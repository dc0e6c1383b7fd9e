import Derived.Test.YthgdkakkbaoccaaDoorRingPut
/-! ring.Get. -/
namespace Go.Proofs.YthgdkakkbaoccaaDoor
open Go.RowKit
open Go.Maps (Keyed)
set_option linter.unusedVariables false
set_option linter.unusedSimpArgs false
/-- what Get has in memory: its result, and what it found -/
structure GetAt (w : World) (b : Nat) (n top : Int) (bm c : Nat) (f : Int → Option Value) (G : Nat) (s t l lv : Int) (st : Bool) (bv : Value) (y : World) : Prop where
  ring : Rng y b n top bm c f
  res : PkIn y G s t l lv st bv
  kb : Below w.heap.size w y
set_option maxRecDepth 100000 in
set_option maxHeartbeats 4000000 in
theorem ringGet_none (b : Nat) (n top : Int) (bm c : Nat) (f : Int → Option Value) (num : Int) (hw : (Lit.int .i64 num).wf = true) (hf : f num = none) (w : World) (h : Rng w b n top bm c f) :
    Calls Tryd.prog 17 #[.pointer (some ⟨b, 0, none⟩), .int .i64 num] w fun e w' => e = .returned (.tuple #[pkV 0 0 0 0 false (.slice none 0 0), .iface 103 (.int .i64 5)]) ∧ Below w.heap.size w w' := by
  have HF := Lib.hid hf
  clear hf
  go_enter Tryd.func17, Tryd.ntmps17
  go_upto_region 1 with fail
  refine abs_at (fun y => GetAt w b n top bm c f w.heap.size 0 0 0 0 false (.slice none 0 0) y) ⟨h.alloc _, obj_new _ _, (Below.refl _ _).alloc (Nat.le_refl _) _⟩ ?_
  clear h
  generalize hG : w.heap.size = G
  have HG := Lib.hid hG
  clear hG
  rintro y h
  have q2 := obj_cell h.ring.at_ (k := 2) rfl
  have hm := h.ring.map
  have HH := Lib.hid h
  clear h
  go_upto_region 2 with (at_lookup; refine wpList_mlook _ rfl (.tmp 12) (.tmp 13) 104 rfl 3 36 rlaw Tryd.underlying3 Tryd.underlying104 (zeroPk _) bm c f rfl hm num rfl hw ?_; rw [HF.out]; simp only [Option.getD_none, Option.isSome_none])
  have hGy : G ≤ y.heap.size := by have := HH.out.kb.size; have := HG.out; omega
  refine abs_at (fun y => PkIn y G 0 0 0 0 false (.slice none 0 0) ∧ Hid (Below G w y)) ⟨obj_old HH.out.res _, Lib.hid (by have := HH.out.kb; rw [HG.out] at this; exact this.alloc hGy _)⟩ ?_
  clear q2 hm HH hGy
  rintro z ⟨q1, kb⟩
  have f0 := obj_free q1 0
  have f1 := obj_free q1 1
  have f2 := obj_free q1 2
  have f3 := obj_free q1 3
  have f4 := obj_free q1 4
  have f5 := obj_free q1 5
  have e0 := obj_cell q1 (k := 0) rfl
  have e1 := obj_cell q1 (k := 1) rfl
  have e2 := obj_cell q1 (k := 2) rfl
  have e3 := obj_cell q1 (k := 3) rfl
  have e4 := obj_cell q1 (k := 4) rfl
  have e5 := obj_cell q1 (k := 5) rfl
  go_upto_region 3 with fail
  go_cut [5] (fun s5 x => s5 = .iface 103 (.int .i64 5) ∧ Hid (Below G w x) ∧ PkIn x G 0 0 0 0 false (.slice none 0 0))
  case first =>
    go_wp2_with fail
    go_meet
    have hl : G ≤ G := Nat.le_refl _
    exact ⟨rfl, Lib.hid (Below.setCell (Below.setCell (Below.setCell (Below.setCell (Below.setCell (Below.setCell kb.out hl _) hl _) hl _) hl _) hl _) hl _), obj_set (obj_set (obj_set (obj_set (obj_set (obj_set q1 0 _) 1 _) 2 _) 3 _) 4 _) 5 _⟩
  case rest =>
  clear kb q1 e0 e1 e2 e3 e4 e5 f0 f1 f2 f3 f4 f5
  obtain ⟨rfl, kb, q1⟩ := hcut
  have e0 := obj_cell q1 (k := 0) rfl
  have e1 := obj_cell q1 (k := 1) rfl
  have e2 := obj_cell q1 (k := 2) rfl
  have e3 := obj_cell q1 (k := 3) rfl
  have e4 := obj_cell q1 (k := 4) rfl
  have e5 := obj_cell q1 (k := 5) rfl
  go_wp2
  refine bodyPost_ret (v := .tuple #[pkV 0 0 0 0 false (.slice none 0 0), .iface 103 (.int .i64 5)]) (by simp [results, Tryd.results17, go_sem, e0, e1, e2, e3, e4, e5]) rfl ?_
  exact ⟨rfl, by rw [HG.out]; exact kb.out⟩
set_option maxRecDepth 100000 in
set_option maxHeartbeats 8000000 in
theorem ringGet_some (b : Nat) (n top : Int) (bm c : Nat) (f : Int → Option Value) (num : Int) (hw : (Lit.int .i64 num).wf = true) (s t l lv : Int) (st : Bool) (oa : Option Addr) (bc : Nat) (body : List UInt8) (hbl : body.length ≤ 1000) (hf : f num = some (pkV s t l lv st (.slice oa body.length bc))) (w : World) (hv : IsBytes w (.slice oa body.length bc) body) (h : Rng w b n top bm c f) :
    Calls Tryd.prog 17 #[.pointer (some ⟨b, 0, none⟩), .int .i64 num] w fun e w' => ∃ (oa8 : Option Addr) (c8 : Nat), e = .returned (.tuple #[pkV s t l lv st (.slice oa8 body.length c8), .nilIface]) ∧ (∀ W, Keeps (fun k => k < w.heap.size) w' W → IsBytes W (.slice oa8 body.length c8) body) ∧ Below w.heap.size w w' := by
  have HF := Lib.hid hf
  have HV := Lib.hid hv
  clear hf hv
  go_enter Tryd.func17, Tryd.ntmps17
  go_upto_region 1 with fail
  refine abs_at (fun y => GetAt w b n top bm c f w.heap.size 0 0 0 0 false (.slice none 0 0) y) ⟨h.alloc _, obj_new _ _, (Below.refl _ _).alloc (Nat.le_refl _) _⟩ ?_
  clear h
  generalize hG : w.heap.size = G
  have HG := Lib.hid hG
  clear hG
  rintro y h
  have q2 := obj_cell h.ring.at_ (k := 2) rfl
  have hm := h.ring.map
  have HH := Lib.hid h
  clear h
  go_upto_region 2 with (at_lookup; refine wpList_mlook _ rfl (.tmp 12) (.tmp 13) 104 rfl 3 36 rlaw Tryd.underlying3 Tryd.underlying104 (zeroPk _) bm c f rfl hm num rfl hw ?_; rw [HF.out]; simp only [Option.getD_some, Option.isSome_some])
  have hGy : G < y.heap.size := lt_of_block HH.out.res
  have bA : ∀ o, Below w.heap.size w (y.alloc o) := fun o => HH.out.kb.alloc HH.out.kb.size _
  refine abs_at (fun z => PkIn z G 0 0 0 0 false (.slice none 0 0) ∧ PkIn z y.heap.size s t l lv st (.slice oa body.length bc) ∧ Hid (Below w.heap.size w z) ∧ IsBytes z (.slice oa body.length bc) body) ⟨obj_old HH.out.res _, obj_new _ _, Lib.hid (bA _), HV.out.below (bA _)⟩ ?_
  clear q2 hm HH bA
  generalize y.heap.size = F at *
  rintro z ⟨q1, p, kb, hv⟩
  have p5 := obj_cell p (k := 5) rfl
  go_wp2_with fail
  refine (clone_any (.slice oa body.length bc) body _ hv (by omega)).mono ?_
  rintro e w5 ⟨bv, rfl, iv, k5⟩
  obtain ⟨oa8, c8, rfl, _⟩ := bytes_slice (iv _ (Keeps.refl _ _))
  have hFz : F < z.heap.size := lt_of_block p
  have hwz := kb.out.size
  have q15 : PkIn w5 G 0 0 0 0 false (.slice none 0 0) := Below.heapAt k5 q1 (lt_of_block q1)
  have p55 : PkIn w5 F s t l lv st (.slice oa body.length bc) := Below.heapAt k5 p (lt_of_block p)
  have kb5 : Hid (Below w.heap.size w w5) := Lib.hid (kb.out.trans (k5.mono hwz))
  have IV : Hid (∀ W, Keeps (fun k => k ≤ F) w5 W → IsBytes W (.slice oa8 body.length c8) body) := Lib.hid (fun W hh => iv W (hh.mono (fun k _ hk => by show k < _; omega)))
  clear p5 hv kb k5 iv q1 p hFz hwz
  have p5 := obj_cell p55 (k := 5) rfl
  have f5 := obj_free p55 5
  have hFw : w.heap.size ≤ F := by have := HG.out; omega
  go_upto_region 5 with fail
  refine abs_at (fun z => PkIn z G 0 0 0 0 false (.slice none 0 0) ∧ PkIn z F s t l lv st (.slice oa8 body.length c8) ∧ Hid (Below w.heap.size w z) ∧ Hid (∀ W, Keeps (fun k => k ≤ F) z W → IsBytes W (.slice oa8 body.length c8) body)) ⟨obj_other q15 (by show F ≠ G; omega) _, obj_set p55 5 _, Lib.hid (kb5.out.setCell hFw _), Lib.hid (fun W hh => IV.out W (Keeps.trans (Keeps.setCell (S := fun k => k ≤ F) (Keeps.refl _ _) (.inl (Nat.le_refl F)) _) hh))⟩ ?_
  clear p5 f5 q15 p55 kb5 IV
  rintro z ⟨q1, p, kb, IV⟩
  have f0 := obj_free q1 0
  have f1 := obj_free q1 1
  have f2 := obj_free q1 2
  have f3 := obj_free q1 3
  have f4 := obj_free q1 4
  have f5 := obj_free q1 5
  have e0 := obj_cell q1 (k := 0) rfl
  have e1 := obj_cell q1 (k := 1) rfl
  have e2 := obj_cell q1 (k := 2) rfl
  have e3 := obj_cell q1 (k := 3) rfl
  have e4 := obj_cell q1 (k := 4) rfl
  have e5 := obj_cell q1 (k := 5) rfl
  have p0 := obj_cell p (k := 0) rfl
  have p1 := obj_cell p (k := 1) rfl
  have p2 := obj_cell p (k := 2) rfl
  have p3 := obj_cell p (k := 3) rfl
  have p4 := obj_cell p (k := 4) rfl
  have p5 := obj_cell p (k := 5) rfl
  go_cut [5] (fun s5 x => s5 = .nilIface ∧ Hid (Below w.heap.size w x) ∧ Hid (∀ W, Keeps (fun k => k ≤ F) x W → IsBytes W (.slice oa8 body.length c8) body) ∧ PkIn x G s t l lv st (.slice oa8 body.length c8))
  case first =>
    go_wp2_with fail
    go_meet
    have hl : w.heap.size ≤ G := Nat.le_of_eq HG.out
    have hGF : G ≤ F := by omega
    exact ⟨rfl, Lib.hid (Below.setCell (Below.setCell (Below.setCell (Below.setCell (Below.setCell (Below.setCell kb.out hl _) hl _) hl _) hl _) hl _) hl _),
      Lib.hid (fun W hh => IV.out W (Keeps.trans (Keeps.setCell (Keeps.setCell (Keeps.setCell (Keeps.setCell (Keeps.setCell (Keeps.setCell (S := fun k => k ≤ F) (Keeps.refl _ _) (.inl hGF) _) (.inl hGF) _) (.inl hGF) _) (.inl hGF) _) (.inl hGF) _) (.inl hGF) _) hh)),
      obj_set (obj_set (obj_set (obj_set (obj_set (obj_set q1 0 _) 1 _) 2 _) 3 _) 4 _) 5 _⟩
  case rest =>
  clear kb q1 IV e0 e1 e2 e3 e4 e5 f0 f1 f2 f3 f4 f5 p0 p1 p2 p3 p4 p5 p
  obtain ⟨rfl, kb, IV, q1⟩ := hcut
  have e0 := obj_cell q1 (k := 0) rfl
  have e1 := obj_cell q1 (k := 1) rfl
  have e2 := obj_cell q1 (k := 2) rfl
  have e3 := obj_cell q1 (k := 3) rfl
  have e4 := obj_cell q1 (k := 4) rfl
  have e5 := obj_cell q1 (k := 5) rfl
  go_wp2
  refine bodyPost_ret (v := .tuple #[pkV s t l lv st (.slice oa8 body.length c8), .nilIface]) (by simp [results, Tryd.results17, go_sem, e0, e1, e2, e3, e4, e5]) rfl ?_
  exact ⟨oa8, c8, rfl, fun W hh => IV.out W (hh.mono (fun k _ hk => by show k ≤ F; omega)), kb.out⟩
end Go.Proofs.YthgdkakkbaoccaaDoor
