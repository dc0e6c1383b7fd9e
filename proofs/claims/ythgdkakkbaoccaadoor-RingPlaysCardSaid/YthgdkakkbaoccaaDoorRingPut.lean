import Derived.Test.YthgdkakkbaoccaaDoorRingOld
import Derived.RegionTactic
import Derived.ChangeAlike
/-! ring.Put, ring.Get. -/
namespace Go.Proofs.YthgdkakkbaoccaaDoor
open Go.RowKit
open Go.Maps (Keyed)
set_option linter.unusedVariables false
set_option linter.unusedSimpArgs false
theorem zeroPk (w : World) : (zeroValue 36).run Tryd.prog w = .ok (pkV 0 0 0 0 false (.slice none 0 0)) w := by kernel_rfl
set_option maxRecDepth 100000 in
set_option maxHeartbeats 4000000 in
theorem ringPut_range (b : Nat) (num : Int) (hl : Pl.long num = false) (s t l lv : Int) (st : Bool) (bv : Value) (w : World) :
    Calls Tryd.prog 11 #[.pointer (some ⟨b, 0, none⟩), .int .i64 num, pkV s t l lv st bv] w fun e w' => e = .returned (.tuple #[.bool false, .iface 103 (.int .i64 1)]) ∧ Below w.heap.size w w' := by
  go_enter Tryd.func11, Tryd.ntmps11
  go_wp2_with fail
  refine (long_any num _).mono ?_
  rw [hl]
  rintro e w' ⟨rfl, rfl⟩
  go_wp2
  go_ret2
  exact ⟨rfl, ((Below.refl _ _).alloc (Nat.le_refl _) _).alloc (by simp) _⟩
set_option maxRecDepth 100000 in
set_option maxHeartbeats 4000000 in
theorem ringPut_bad (b : Nat) (num : Int) (hl : Pl.long num = true) (s t l lv : Int) (st : Bool) (oa : Option Addr) (bn bc : Nat) (hbn : bn ≤ maxLen) (hp : ¬ Pl.pkOk s t l lv bn) (w : World) :
    Calls Tryd.prog 11 #[.pointer (some ⟨b, 0, none⟩), .int .i64 num, pkV s t l lv st (.slice oa bn bc)] w fun e w' => e = .returned (.tuple #[.bool false, .iface 103 (.int .i64 (Pl.pkFault s t l lv bn))]) ∧ Below w.heap.size w w' := by
  have HP := Lib.hid hp
  clear hp
  go_enter Tryd.func11, Tryd.ntmps11
  go_wp2_with fail
  refine (long_any num _).mono ?_
  rw [hl]
  rintro e w' ⟨rfl, rfl⟩
  go_wp2_with fail
  refine (check_bad s t l lv st oa bn bc hbn HP.out _).mono ?_
  rintro e w2 ⟨rfl, k2⟩
  go_wp2
  go_ret2
  refine ⟨rfl, Below.trans ((Below.refl _ _).alloc (Nat.le_refl _) _ |>.alloc (by simp) _) (k2.mono (by simp; omega))⟩
/-- the ring's head: what lies in memory behind the two boxes -/
structure PutAt (w : World) (b : Nat) (n top : Int) (bm c : Nat) (f : Int → Option Value) (rb N : Nat) (s t l lv : Int) (st : Bool) (bv : Value) (y : World) : Prop where
  ring : Rng y b n top bm c f
  box : y.heap[rb]? = some (.cells #[.pointer (some ⟨b, 0, none⟩)] 24 (0, 0))
  pk : PkIn y N s t l lv st bv
  kb : KR2 b bm w y
  rbN : rb ≠ N ∧ w.heap.size ≤ rb ∧ w.heap.size ≤ N
namespace PutAt
variable {w y z : World} {b : Nat} {n top : Int} {bm c : Nat} {f : Int → Option Value} {rb N : Nat} {s t l lv : Int} {st : Bool} {bv : Value}
theorem below (h : PutAt w b n top bm c f rb N s t l lv st bv y) (k : Below y.heap.size y z) : PutAt w b n top bm c f rb N s t l lv st bv z :=
  ⟨h.ring.below k, Below.heapAt k h.box (lt_of_block h.box), Below.heapAt k h.pk (lt_of_block h.pk), Keeps.trans h.kb (Below.toKeeps k (Nat.le_refl _)), h.rbN⟩
theorem cell (h : PutAt w b n top bm c f rb N s t l lv st bv y) : y.cell? ⟨rb, 0, none⟩ = some (.pointer (some ⟨b, 0, none⟩)) := obj_cell h.box rfl
theorem drewN (h : PutAt w b n top bm c f rb N s t l lv st bv y) (k : Nat) : PutAt w b n top bm c f rb N s t l lv st bv (y.drewN k) :=
  ⟨h.ring.drewN _, by exact h.box, by exact h.pk, Keeps.drewN h.kb _, h.rbN⟩
theorem lows (h : PutAt w b n top bm c f rb N s t l lv st bv y) (hb : b < w.heap.size) (hm : bm < w.heap.size) : rb ≠ b ∧ rb ≠ bm ∧ N ≠ b ∧ N ≠ bm := by have := h.rbN; omega
theorem setPk {bv' : Value} (h : PutAt w b n top bm c f rb N s t l lv st bv y) (hb : b < w.heap.size) (hm : bm < w.heap.size) : PutAt w b n top bm c f rb N s t l lv st bv' (y.setCell ⟨N, 5, none⟩ bv') :=
  ⟨h.ring.setOther (h.lows hb hm).2.2.1 (h.lows hb hm).2.2.2, obj_other h.box (Ne.symm h.rbN.1) _, obj_set h.pk 5 _, Keeps.setCell h.kb (.inr h.rbN.2.2) _, h.rbN⟩
theorem setTop {T : Int} (h : PutAt w b n top bm c f rb N s t l lv st bv y) (hb : b < w.heap.size) (hm : bm < w.heap.size) : PutAt w b n T bm c f rb N s t l lv st bv (y.setCell ⟨b, 1, none⟩ (.int .i64 T)) :=
  ⟨h.ring.set (obj_set h.ring.at_ 1 _), obj_other h.box (Ne.symm (h.lows hb hm).1) _, obj_other h.pk (Ne.symm (h.lows hb hm).2.2.1) _, Keeps.setCell h.kb (.inl (.inl rfl)) _, h.rbN⟩
theorem mapped {c' : Nat} {f' : Int → Option Value} (h : PutAt w b n top bm c f rb N s t l lv st bv y) (hb : b < w.heap.size) (hm : bm < w.heap.size) (m : RMap z bm c' f') (g : y.grownBy z (some bm)) : PutAt w b n top bm c' f' rb N s t l lv st bv z := by
  have q := h.lows hb hm
  have hne := h.ring.ne
  refine ⟨⟨?_, m, hne⟩, ?_, ?_, Keeps.trans h.kb ⟨g.os, g.tape, g.output, g.size, fun k hk hn => g.block k hk (by rintro e; simp at e; exact hn (.inr e))⟩, h.rbN⟩
  · have e := g.block b (lt_of_block h.ring.at_) (by simp [hne])
    have a := h.ring.at_
    unfold RingAt at *
    rw [e]; exact a
  · have e := g.block rb (lt_of_block h.box) (by simp [q.2.1])
    rw [e]; exact h.box
  · have e := g.block N (lt_of_block h.pk) (by simp [q.2.2.2])
    have a := h.pk
    unfold PkIn at *
    rw [e]; exact a
end PutAt
set_option maxRecDepth 100000 in
set_option maxHeartbeats 4000000 in
theorem ringPut_old (b : Nat) (n top : Int) (bm c : Nat) (f : Int → Option Value) (num : Int) (hl : Pl.long num = true) (hn : 1 ≤ n ∧ n ≤ 64) (ht : -1 ≤ top ∧ top ≤ 1099511627776) (s t l lv : Int) (st : Bool) (oa : Option Addr) (bn bc : Nat) (hp : Pl.pkOk s t l lv bn) (hold : num ≤ top - n) (w : World) (h : Rng w b n top bm c f) :
    Calls Tryd.prog 11 #[.pointer (some ⟨b, 0, none⟩), .int .i64 num, pkV s t l lv st (.slice oa bn bc)] w fun e w' => e = .returned (.tuple #[.bool false, .iface 103 (.int .i64 6)]) ∧ Below w.heap.size w w' := by
  obtain ⟨n1, n2⟩ := hn
  obtain ⟨t1, t2⟩ := ht
  have HP := Lib.hid hp
  clear hp
  go_enter Tryd.func11, Tryd.ntmps11
  go_upto_region 1 with fail
  refine abs_at (fun y => PutAt w b n top bm c f w.heap.size (w.heap.size + 1) s t l lv st (.slice oa bn bc) y ∧ Hid (Below w.heap.size w y)) ⟨⟨(h.alloc _).alloc _, obj_old (obj_new _ _) _, obj_new2 _ _ _, ((Keeps.refl _ _).alloc _).alloc _, by omega, by omega, by omega⟩, Lib.hid (((Below.refl _ _).alloc (Nat.le_refl _) _).alloc (by simp) _)⟩ ?_
  generalize w.heap.size + 1 = N
  generalize hB : w.heap.size = B
  have HB := Lib.hid hB
  clear h hB
  rintro y ⟨h, kb⟩
  have p0 := obj_cell h.pk (k := 0) rfl
  have p1 := obj_cell h.pk (k := 1) rfl
  have p2 := obj_cell h.pk (k := 2) rfl
  have p3 := obj_cell h.pk (k := 3) rfl
  have p4 := obj_cell h.pk (k := 4) rfl
  have p5 := obj_cell h.pk (k := 5) rfl
  go_wp2_with fail
  refine (long_any num _).mono ?_
  rw [hl]
  rintro e w' ⟨rfl, rfl⟩
  go_wp2_with fail
  refine (check_ok s t l lv st oa bn bc HP.out _).mono ?_
  rintro e w2 ⟨rfl, k2⟩
  have h2 := h.below k2
  have kb2 : Hid (Below B w w2) := Lib.hid (kb.out.trans (k2.mono (by have := kb.out.size; have := HB.out; omega)))
  clear p0 p1 p2 p3 p4 p5 k2 kb h y
  have r0 := h2.cell
  have q0 := obj_cell h2.ring.at_ (k := 0) rfl
  have q1 := obj_cell h2.ring.at_ (k := 1) rfl
  clear h2
  go_wp2_with fail
  go_quiet (fail)
  go_wp2
  go_ret2
  exact ⟨rfl, by have h := Below.drewN kb2.out nq; rw [← HB.out] at h; exact h⟩
set_option maxRecDepth 100000 in
set_option maxHeartbeats 4000000 in
theorem ringPut_has (b : Nat) (n top : Int) (bm c : Nat) (f : Int → Option Value) (num : Int) (hl : Pl.long num = true) (hn : 1 ≤ n ∧ n ≤ 64) (ht : -1 ≤ top ∧ top ≤ 1099511627776) (s t l lv : Int) (st : Bool) (oa : Option Addr) (bn bc : Nat) (hp : Pl.pkOk s t l lv bn) (hold : ¬ num ≤ top - n) (s' t' l' lv' : Int) (st' : Bool) (oa' : Option Addr) (bn' bc' : Nat) (hf : f num = some (pkV s' t' l' lv' st' (.slice oa' bn' bc'))) (w : World) (h : Rng w b n top bm c f) :
    Calls Tryd.prog 11 #[.pointer (some ⟨b, 0, none⟩), .int .i64 num, pkV s t l lv st (.slice oa bn bc)] w fun e w' => e = .returned (.tuple #[.bool false, .nilIface]) ∧ Below w.heap.size w w' := by
  obtain ⟨n1, n2⟩ := hn
  obtain ⟨t1, t2⟩ := ht
  have hnum := (Pl.long_iff num).1 hl
  have hw : (Lit.int .i64 num).wf = true := by simp [Lit.wf, IntKind.min, IntKind.max, IntKind.signed, IntKind.bits]; omega
  have HP := Lib.hid hp
  have HF := Lib.hid hf
  clear hp hf
  go_enter Tryd.func11, Tryd.ntmps11
  go_upto_region 1 with fail
  refine abs_at (fun y => PutAt w b n top bm c f w.heap.size (w.heap.size + 1) s t l lv st (.slice oa bn bc) y ∧ Hid (Below w.heap.size w y)) ⟨⟨(h.alloc _).alloc _, obj_old (obj_new _ _) _, obj_new2 _ _ _, ((Keeps.refl _ _).alloc _).alloc _, by omega, by omega, by omega⟩, Lib.hid (((Below.refl _ _).alloc (Nat.le_refl _) _).alloc (by simp) _)⟩ ?_
  generalize w.heap.size + 1 = N
  generalize hB : w.heap.size = B
  have HB := Lib.hid hB
  clear h hB
  rintro y ⟨h, kb⟩
  have p0 := obj_cell h.pk (k := 0) rfl
  have p1 := obj_cell h.pk (k := 1) rfl
  have p2 := obj_cell h.pk (k := 2) rfl
  have p3 := obj_cell h.pk (k := 3) rfl
  have p4 := obj_cell h.pk (k := 4) rfl
  have p5 := obj_cell h.pk (k := 5) rfl
  go_wp2_with fail
  refine (long_any num _).mono ?_
  rw [hl]
  rintro e w' ⟨rfl, rfl⟩
  go_wp2_with fail
  refine (check_ok s t l lv st oa bn bc HP.out _).mono ?_
  rintro e w2 ⟨rfl, k2⟩
  have h2 := h.below k2
  have kb2 : Hid (Below B w w2) := Lib.hid (kb.out.trans (k2.mono (by have := kb.out.size; have := HB.out; omega)))
  clear p0 p1 p2 p3 p4 p5 k2 kb h y
  have r0 := h2.cell
  have q0 := obj_cell h2.ring.at_ (k := 0) rfl
  have q1 := obj_cell h2.ring.at_ (k := 1) rfl
  go_wp2_with fail
  go_quiet (fail)
  go_upto_region 8 with fail
  refine abs_at (fun y => PutAt w b n top bm c f B N s t l lv st (.slice oa bn bc) y ∧ Hid (Below B w y)) ⟨⟨h2.ring.drewN _, by exact h2.box, by exact h2.pk, Keeps.drewN h2.kb _, h2.rbN⟩, Lib.hid (Below.drewN kb2.out _)⟩ ?_
  clear r0 q0 q1 h2 kb2 w2
  rintro y ⟨h, kb⟩
  have r0 := h.cell
  have q2 := obj_cell h.ring.at_ (k := 2) rfl
  have hm := h.ring.map
  have hsz : Hid (B ≤ y.heap.size) := Lib.hid (by have := kb.out.size; have := HB.out; omega)
  clear h
  go_wp2_with (at_lookup; refine wpList_mlook _ rfl (.tmp 36) (.tmp 37) 104 rfl 3 36 rlaw Tryd.underlying3 Tryd.underlying104 (zeroPk _) bm c f rfl hm num rfl hw ?_; rw [HF.out]; simp only [Option.getD_some, Option.isSome_some])
  go_ret2
  exact ⟨rfl, by rw [HB.out]; exact kb.out.alloc hsz.out _⟩
/-- the highest number, behind one more -/
def Pl.topOf (top num : Int) : Int := if top < num then num else top
/-- what is kept, behind one more -/
def Pl.ringF (f : Int → Option Value) (n T num : Int) (v : Value) : Int → Option Value := fun j => if j ≤ T - n then none else if j = num then some v else f j
set_option maxRecDepth 100000 in
set_option maxHeartbeats 8000000 in
theorem ringPut_new (b : Nat) (n top : Int) (bm c : Nat) (f : Int → Option Value) (hall : AllPk f) (hcc : c < 1000000) (num : Int) (hl : Pl.long num = true) (hn : 1 ≤ n ∧ n ≤ 64) (ht : -1 ≤ top ∧ top ≤ 1099511627776) (s t l lv : Int) (st : Bool) (bv : Value) (body : List UInt8) (hp : Pl.pkOk s t l lv body.length) (hold : ¬ num ≤ top - n) (hf : f num = none) (w : World) (hv : ∀ W, KR2 b bm w W → IsBytes W bv body) (h : Rng w b n top bm c f) :
    Calls Tryd.prog 11 #[.pointer (some ⟨b, 0, none⟩), .int .i64 num, pkV s t l lv st bv] w fun e w' => ∃ (oa8 : Option Addr) (c8 c' : Nat), e = .returned (.tuple #[.bool true, .nilIface]) ∧ c' ≤ c + 1 ∧ Rng w' b n (Pl.topOf top num) bm c' (Pl.ringF f n (Pl.topOf top num) num (pkV s t l lv st (.slice oa8 body.length c8))) ∧ (∀ W, Keeps (fun k => k < w.heap.size) w' W → IsBytes W (.slice oa8 body.length c8) body) ∧ KR2 b bm w w' := by
  obtain ⟨oa, bc, rfl, hbl⟩ := bytes_slice (hv w (Keeps.refl _ _))
  obtain ⟨n1, n2⟩ := hn
  obtain ⟨t1, t2⟩ := ht
  have hnum := (Pl.long_iff num).1 hl
  have hw : (Lit.int .i64 num).wf = true := by simp [Lit.wf, IntKind.min, IntKind.max, IntKind.signed, IntKind.bits]; omega
  have HP := Lib.hid hp
  have HF := Lib.hid hf
  have HV := Lib.hid hv
  have HALL := Lib.hid hall
  have hb := lt_of_block h.at_
  have hbm := h.map.lt
  have HBB := Lib.hid (show b < w.heap.size ∧ bm < w.heap.size from ⟨hb, hbm⟩)
  clear hp hf hv hall hb hbm
  go_enter Tryd.func11, Tryd.ntmps11
  go_upto_region 1 with fail
  refine abs_at (fun y => PutAt w b n top bm c f w.heap.size (w.heap.size + 1) s t l lv st (.slice oa body.length bc) y) ⟨(h.alloc _).alloc _, obj_old (obj_new _ _) _, obj_new2 _ _ _, ((Keeps.refl _ _).alloc _).alloc _, by omega, by omega, by omega⟩ ?_
  generalize hN : w.heap.size + 1 = N
  generalize hB : w.heap.size = B
  have HB := Lib.hid hB
  have HN := Lib.hid hN
  clear h hB hN
  rintro y h
  have p0 := obj_cell h.pk (k := 0) rfl
  have p1 := obj_cell h.pk (k := 1) rfl
  have p2 := obj_cell h.pk (k := 2) rfl
  have p3 := obj_cell h.pk (k := 3) rfl
  have p4 := obj_cell h.pk (k := 4) rfl
  have p5 := obj_cell h.pk (k := 5) rfl
  go_wp2_with fail
  refine (long_any num _).mono ?_
  rw [hl]
  rintro e w' ⟨rfl, rfl⟩
  go_wp2_with fail
  refine (check_ok s t l lv st oa body.length bc HP.out _).mono ?_
  rintro e w2 ⟨rfl, k2⟩
  have h2 := h.below k2
  clear p0 p1 p2 p3 p4 p5 k2 h y
  have r0 := h2.cell
  have q0 := obj_cell h2.ring.at_ (k := 0) rfl
  have q1 := obj_cell h2.ring.at_ (k := 1) rfl
  go_wp2_with fail
  go_quiet (fail)
  go_upto_region 8 with fail
  refine abs_at (fun y => PutAt w b n top bm c f B N s t l lv st (.slice oa body.length bc) y) (h2.drewN _) ?_
  clear r0 q0 q1 h2 w2
  rintro y h
  have r0 := h.cell
  have q2 := obj_cell h.ring.at_ (k := 2) rfl
  have hm := h.ring.map
  have HH := Lib.hid h
  clear h
  go_upto_region 9 with (at_lookup; refine wpList_mlook _ rfl (.tmp 36) (.tmp 37) 104 rfl 3 36 rlaw Tryd.underlying3 Tryd.underlying104 (zeroPk _) bm c f rfl hm num rfl hw ?_; rw [HF.out]; simp only [Option.getD_none, Option.isSome_none])
  refine abs_at (fun y => PutAt w b n top bm c f B N s t l lv st (.slice oa body.length bc) y) (HH.out.below ((Below.refl _ _).alloc (Nat.le_refl _) _)) ?_
  clear r0 q2 hm HH
  rintro z h
  have p5 := obj_cell h.pk (k := 5) rfl
  go_wp2_with fail
  refine (clone_any (.slice oa body.length bc) body _ (HV.out _ h.kb) (by have := HP.out.2.2.2.2.2.2.2.2; omega)).mono ?_
  rintro e w5 ⟨bv, rfl, iv, k5⟩
  have hN4 : N < z.heap.size := lt_of_block h.pk
  obtain ⟨oa8, c8, rfl, _⟩ := bytes_slice (iv _ (Keeps.refl _ _))
  have h5 := h.below k5
  have IV : Hid (∀ W, Keeps (fun k => k ≤ N) w5 W → IsBytes W (.slice oa8 body.length c8) body) := Lib.hid (fun W hh => iv W (hh.mono (fun k _ hk => by show k < _; omega)))
  clear h k5 iv p5 hN4 z
  have p5 := obj_cell h5.pk (k := 5) rfl
  have f5 := obj_free h5.pk 5
  go_upto_region 12 with fail
  have HBB' : Hid (b < w.heap.size ∧ bm < w.heap.size) := HBB
  refine abs_at (fun y => PutAt w b n top bm c f B N s t l lv st (.slice oa8 body.length c8) y ∧ Hid (∀ W, Keeps (fun k => k ≤ N) y W → IsBytes W (.slice oa8 body.length c8) body)) ⟨PutAt.setPk (bv' := .slice oa8 body.length c8) h5 HBB.out.1 HBB.out.2, Lib.hid (fun W hh => IV.out W (Keeps.trans (Keeps.setCell (S := fun k => k ≤ N) (Keeps.refl _ _) (.inl (Nat.le_refl N)) _) hh))⟩ ?_
  clear h5 IV p5 f5
  rintro z ⟨h, IV⟩
  have r0 := h.cell
  have q2 := obj_cell h.ring.at_ (k := 2) rfl
  have p0 := obj_cell h.pk (k := 0) rfl
  have p1 := obj_cell h.pk (k := 1) rfl
  have p2 := obj_cell h.pk (k := 2) rfl
  have p3 := obj_cell h.pk (k := 3) rfl
  have p4 := obj_cell h.pk (k := 4) rfl
  have p5 := obj_cell h.pk (k := 5) rfl
  have hbN : Hid (bm ≤ N ∧ b ≤ N) := Lib.hid (by have := HN.out; have := HBB.out; omega)
  go_still_tail 6, (by kernel_rfl)
  change wpList _ _ _ _ _ z.drew
  have h' : PutAt w b n top bm c f B N s t l lv st (.slice oa8 body.length c8) z.drew := h.drewN 1
  have IV' : Hid (∀ W, Keeps (fun k => k ≤ N) z.drew W → IsBytes W (.slice oa8 body.length c8) body) := Lib.hid (fun W hh => IV.out W (Keeps.trans (Keeps.drew (Keeps.refl _ _)) hh))
  clear h IV r0 q2 p0 p1 p2 p3 p4 p5
  generalize z.drew = y' at *
  have hm := h'.ring.map
  go_upto_region 13 with (at_mapUpdate; refine wpList_mput _ rfl (.tmp 49) (.tmp 50) (.tmp 51) 104 rfl 3 36 rlaw Tryd.underlying3 Tryd.underlying104 bm c f rfl hm (by unfold maxLen; omega) num _ rfl rfl hw ?_; intro w6 hm6 hgr)
  rw [HF.out] at hm6
  simp only [Option.isSome_none, if_false, Bool.false_eq_true] at hm6
  have h6 := h'.mapped HBB.out.1 HBB.out.2 hm6 hgr
  have IV6 : Hid (∀ W, Keeps (fun k => k ≤ N) w6 W → IsBytes W (.slice oa8 body.length c8) body) := Lib.hid (fun W hh => IV'.out W (Keeps.trans ⟨hgr.os, hgr.tape, hgr.output, hgr.size, fun k hk hne => hgr.block k hk (by rintro e; simp at e; subst e; exact hne hbN.out.1)⟩ hh))
  clear hm h' IV' hm6 hgr y'
  have r0 := h6.cell
  have q1 := obj_cell h6.ring.at_ (k := 1) rfl
  have g1 := obj_free h6.ring.at_ 1
  have hT : ∃ T, T = Pl.topOf top num := ⟨_, rfl⟩
  obtain ⟨T, hT⟩ := hT
  have HT := Lib.hid hT
  clear hT
  simp only [Act.put]
  go_cut [] (fun y => PutAt w b n T bm (c + 1) (fun j => if j = num then some (pkV s t l lv st (.slice oa8 body.length c8)) else f j) B N s t l lv st (.slice oa8 body.length c8) y ∧ Hid (∀ W, Keeps (fun k => k ≤ N) y W → IsBytes W (.slice oa8 body.length c8) body))
  case first =>
    by_cases hlt : top < num
    · have e : T = num := by rw [HT.out]; unfold Pl.topOf; rw [if_pos hlt]
      go_region
      all_goals (
        go_wp2_with fail
        go_meet
        exact ⟨by rw [e]; exact (PutAt.setTop h6 HBB.out.1 HBB.out.2).drewN 1, Lib.hid (fun W hh => IV6.out W (Keeps.trans (Keeps.drew (Keeps.setCell (S := fun k => k ≤ N) (Keeps.refl _ _) (.inl hbN.out.2) _)) hh))⟩)
    · have e : T = top := by rw [HT.out]; unfold Pl.topOf; rw [if_neg hlt]
      go_region
      all_goals (
        go_wp2_with fail
        go_meet
        exact ⟨by rw [e]; exact (PutAt.setTop h6 HBB.out.1 HBB.out.2).drewN 1, Lib.hid (fun W hh => IV6.out W (Keeps.trans (Keeps.drew (Keeps.setCell (S := fun k => k ≤ N) (Keeps.refl _ _) (.inl hbN.out.2) _)) hh))⟩)
  case rest =>
  clear h6 IV6 r0 q1 g1 w6
  obtain ⟨h, IV⟩ := hcut
  have r0 := h.cell
  have q2 := obj_cell h.ring.at_ (k := 2) rfl
  have hTb : -1 ≤ T ∧ T ≤ 1099511627776 := by have := HT.out; unfold Pl.topOf at this; split at this <;> omega
  obtain ⟨hTb1, hTb2⟩ := hTb
  have HR := Lib.hid h
  have hring := h.ring
  clear h
  have hall1 : AllPk (fun j => if j = num then some (pkV s t l lv st (.slice oa8 body.length c8)) else f j) := fun i v hv => by
    by_cases e : i = num
    · subst e; simp at hv; exact ⟨_, _, _, _, _, _, _, _, hv.symm⟩
    · simp [e] at hv; exact HALL.out i v hv
  have HALL1 := Lib.hid hall1
  have hne : B ≠ bm := by have := HBB.out; have := HB.out; omega
  clear hall1
  go_wp2_with fail
  refine (ringStrike_any B b n T bm (c + 1) (fun j => if j = num then some (pkV s t l lv st (.slice oa8 body.length c8)) else f j) ⟨n1, n2⟩ ⟨hTb1, hTb2⟩ HALL1.out _ hring r0 hne).mono ?_
  rintro e w9 ⟨rfl, ⟨c9, hc9, h9⟩, k9⟩
  go_wp2
  go_ret2
  refine ⟨oa8, c8, c9, rfl, hc9, by rw [← HT.out]; exact h9, fun W hh => IV.out W (Keeps.trans (k9.mono (fun k _ e => by have := hbN.out; show k ≤ N; omega)) (hh.mono (fun k _ e => by have := HN.out; show k ≤ N; omega))), Keeps.trans HR.out.kb (k9.mono (fun _ _ e => .inr e))⟩
end Go.Proofs.YthgdkakkbaoccaaDoor
