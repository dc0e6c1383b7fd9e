import Derived.Test.YtmlpdcbfafplkaaDoorOutMore
import Derived.Deep.DeepCutAuto
import Derived.Deep.QuietTactic
import Derived.BigQuiet
/-! Contracts of the reference's row of numbers. -/
namespace Go.Proofs.YtmlpdcbfafplkaaDoor
open Go.RowKit
set_option linter.unusedVariables false
set_option linter.unusedSimpArgs false

/-- the reference's row in memory -/
def ROutAt (w : World) (b : Nat) (seq time sent s t l lv : Int) (st : Bool) (bv : Value) : Prop := w.heap[b]? = some (.cells #[.int .i64 seq, .int .i64 time, .int .i64 sent, .int .i64 s, .int .i64 t, .int .i64 l, .int .i64 lv, .bool st, bv] 48 (0, 0))
theorem ROutAt.other {a c : World} {b N : Nat} {seq time sent s t l lv : Int} {st : Bool} {bv : Value} (h : ROutAt a b seq time sent s t l lv st bv) (k : KeepsBut N a c) (hn : b ≠ N) : ROutAt c b seq time sent s t l lv st bv := Keeps.heap k h hn
theorem ROutAt.below {a c : World} {b B : Nat} {seq time sent s t l lv : Int} {st : Bool} {bv : Value} (h : ROutAt a b seq time sent s t l lv st bv) (k : Below B a c) (hn : b < B) : ROutAt c b seq time sent s t l lv st bv := Below.heapAt k h hn

set_option maxRecDepth 100000 in
set_option maxHeartbeats 2000000 in
theorem rOutNext_badF (b : Nat) (s t l lv : Int) (st : Bool) (bv : Value) (body : List UInt8) (f : Int) (hf : Hid (f = Pl.pkFault s t l lv body.length)) (d : (f == 0) = false) (d2 : (f != 0) = true) (w : World) (hv : IsBytes w bv body) :
    Calls Tryd.prog 15 #[.pointer (some ⟨b, 0, none⟩), pkV s t l lv st bv] w fun e w' => e = .returned (.tuple #[pkV 0 0 0 0 false (.slice none 0 0), .int .i64 f]) ∧ Below w.heap.size w w' := by
  obtain ⟨oa, c, rfl, hn⟩ := bytes_slice hv
  go_enter Tryd.func15, Tryd.ntmps15
  go_wp2_with fail
  refine (refPk_any s t l lv st oa body.length c hn _).mono ?_
  rintro e w1 ⟨he, hb'⟩
  rw [← hf.out] at he
  subst he
  simp at hb'
  have q1 : PkAt w1 (w.heap.size + 1) 0 0 0 0 false (.slice none 0 0) := Below.heapAt hb' (obj_new2 _ _ _) (by omega)
  have kb : Below w.heap.size w w1 := (((Below.refl _ _).alloc (Nat.le_refl _) _).alloc (by simp) _).trans (hb'.mono (by omega))
  clear hb'
  have e0 := obj_cell q1 (k := 0) rfl
  have e1 := obj_cell q1 (k := 1) rfl
  have e2 := obj_cell q1 (k := 2) rfl
  have e3 := obj_cell q1 (k := 3) rfl
  have e4 := obj_cell q1 (k := 4) rfl
  have e5 := obj_cell q1 (k := 5) rfl
  have f0 := obj_free q1 0
  have f1 := obj_free q1 1
  have f2 := obj_free q1 2
  have f3 := obj_free q1 3
  have f4 := obj_free q1 4
  have f5 := obj_free q1 5
  go_upto_region 3 with fail
  go_cut [5] (fun s5 x => s5 = .int .i64 f ∧ Below w.heap.size w x ∧ PkAt x (w.heap.size + 1) 0 0 0 0 false (.slice none 0 0))
  case first =>
    go_wp2_with fail
    go_meet
    have hl : w.heap.size ≤ w.heap.size + 1 := by omega
    exact ⟨rfl, Below.setCell (Below.setCell (Below.setCell (Below.setCell (Below.setCell (Below.setCell kb hl _) hl _) hl _) hl _) hl _) hl _, obj_set (obj_set (obj_set (obj_set (obj_set (obj_set q1 0 _) 1 _) 2 _) 3 _) 4 _) 5 _⟩
  case rest =>
  clear kb q1 e0 e1 e2 e3 e4 e5 f0 f1 f2 f3 f4 f5
  obtain ⟨rfl, kb, q1⟩ := hcut
  have e0 := obj_cell q1 (k := 0) rfl
  have e1 := obj_cell q1 (k := 1) rfl
  have e2 := obj_cell q1 (k := 2) rfl
  have e3 := obj_cell q1 (k := 3) rfl
  have e4 := obj_cell q1 (k := 4) rfl
  have e5 := obj_cell q1 (k := 5) rfl
  go_wp2
  refine bodyPost_ret (v := .tuple #[pkV 0 0 0 0 false (.slice none 0 0), .int .i64 f]) (by simp [results, Tryd.results15, go_sem, e0, e1, e2, e3, e4, e5]) rfl ?_
  exact ⟨rfl, kb⟩
theorem rOutNext_bad (b : Nat) (s t l lv : Int) (st : Bool) (bv : Value) (body : List UInt8) (hp : ¬ Pl.pkOk s t l lv body.length) (w : World) (hv : IsBytes w bv body) :
    Calls Tryd.prog 15 #[.pointer (some ⟨b, 0, none⟩), pkV s t l lv st bv] w fun e w' => e = .returned (.tuple #[pkV 0 0 0 0 false (.slice none 0 0), .int .i64 (Pl.pkFault s t l lv body.length)]) ∧ Below w.heap.size w w' := by
  have h := Pl.pkFault_bad hp
  have h0 : Pl.pkFault s t l lv body.length ≠ 0 := by omega
  exact rOutNext_badF b s t l lv st bv body _ (Lib.hid rfl) (by simpa using h0) (by simpa using h0) w hv

theorem PkAt.set01 {w : World} {g : Nat} {s t l lv : Int} {st : Bool} {bv : Value} (h : PkAt w g s t l lv st bv) (x y : Int) : PkAt ((w.setCell ⟨g, 0, none⟩ (.int .i64 x)).setCell ⟨g, 1, none⟩ (.int .i64 y)) g x y l lv st bv := obj_set (obj_set h 0 _) 1 _

set_option maxRecDepth 100000 in
set_option maxHeartbeats 4000000 in
theorem rOutNext_ok (b : Nat) (seq time sent s' lt ll lv' s t l lv : Int) (st' st : Bool) (bv' bv : Value) (body : List UInt8) (hp : Pl.pkOk s t l lv body.length) (h1 : Pl.seq seq = true) (h2 : Pl.word time) (h3 : 0 ≤ sent) (h4 : sent ≤ 1000000) (h5 : Pl.word lt) (w : World) (hg : ROutAt w b seq time sent s' lt ll lv' st' bv') (hv : IsBytes w bv body) :
    Calls Tryd.prog 15 #[.pointer (some ⟨b, 0, none⟩), pkV s t l lv st bv] w fun e w' => e = .returned (.tuple #[pkV (Pl.outSeq sent seq) (Pl.outTime sent time lt ll t l) l lv st bv, .int .i64 0]) ∧ ROutAt w' b (Pl.outSeq sent seq) (Pl.outTime sent time lt ll t l) (sent + 1) s t l lv st bv ∧ KeepsBut b w w' := by
  have hb := lt_of_block hg
  obtain ⟨oa, c, rfl, hn⟩ := bytes_slice hv
  have hpf := Pl.pkFault_ok hp
  have PF := Lib.hid hpf
  clear hpf
  go_enter Tryd.func15, Tryd.ntmps15
  go_wp2_with fail
  refine (refPk_any s t l lv st oa body.length c hn _).mono ?_
  rintro e w1 ⟨he, hb'⟩
  rw [PF.out] at he
  subst he
  simp at hb'
  have q0 : PkAt w1 w.heap.size s t l lv st (.slice oa body.length c) := Below.heapAt hb' (obj_old (obj_new _ _) _) (by omega)
  have q1 : PkAt w1 (w.heap.size + 1) 0 0 0 0 false (.slice none 0 0) := Below.heapAt hb' (obj_new2 _ _ _) (by omega)
  have kb : Below w.heap.size w w1 := (((Below.refl _ _).alloc (Nat.le_refl _) _).alloc (by simp) _).trans (hb'.mono (by omega))
  have gg : ROutAt w1 b seq time sent s' lt ll lv' st' bv' := Below.heapAt kb hg hb
  have kk : KeepsBut b w w1 := Below.toKeeps kb (Nat.le_refl _)
  have Fin := Lib.hid (show ∀ (x y : Int) w2, x = Pl.outSeq sent seq → y = Pl.outTime sent time lt ll t l → ROutAt w2 b x y (sent + 1) s t l lv st (.slice oa body.length c) → KeepsBut b w w2 →
      Ending.returned (.tuple #[pkV x y l lv st (.slice oa body.length c), .int .i64 0]) = .returned (.tuple #[pkV (Pl.outSeq sent seq) (Pl.outTime sent time lt ll t l) l lv st (.slice oa body.length c), .int .i64 0]) ∧ ROutAt w2 b (Pl.outSeq sent seq) (Pl.outTime sent time lt ll t l) (sent + 1) s t l lv st (.slice oa body.length c) ∧ KeepsBut b w w2 from by
    rintro x y w2 rfl rfl g1 g2; exact ⟨rfl, g1, g2⟩)
  obtain ⟨h6, h7⟩ := (Pl.seq_iff _).1 h1
  obtain ⟨h8, h9⟩ := h2
  obtain ⟨h10, h11⟩ := h5
  obtain ⟨_, _, h12, h13, _⟩ := hp
  have n1 : b ≠ w.heap.size := by omega
  have n2 : b ≠ w.heap.size + 1 := by omega
  obtain ⟨X, hX⟩ : ∃ X, X = Pl.outSeq sent seq := ⟨_, rfl⟩
  obtain ⟨Y, hY⟩ : ∃ Y, Y = Pl.outTime sent time lt ll t l := ⟨_, rfl⟩
  have HX := Lib.hid hX
  have HY := Lib.hid hY
  have c0 := obj_cell gg (k := 0) rfl
  have c1 := obj_cell gg (k := 1) rfl
  have c2 := obj_cell gg (k := 2) rfl
  have c4 := obj_cell gg (k := 4) rfl
  have c5 := obj_cell gg (k := 5) rfl
  have f0 := obj_free gg 0
  have f1 := obj_free gg 1
  have r1 := obj_cell q0 (k := 1) rfl
  have r2 := obj_cell q0 (k := 2) rfl
  clear h1 hb' kb hg hX hY
  go_upto_if 18 with fail
  go_cut [] (fun x => ROutAt x b X Y sent s' lt ll lv' st' bv' ∧ KeepsBut b w x ∧ PkAt x w.heap.size s t l lv st (.slice oa body.length c) ∧ PkAt x (w.heap.size + 1) 0 0 0 0 false (.slice none 0 0))
  case first =>
    by_cases hs : 0 < sent
    · have ES := Lib.hid (show (seq + 1) % 65536 = X by rw [HX.out]; unfold Pl.outSeq; rw [if_pos hs])
      cases d1 : (l == ll)
      · have hne : ¬ l = ll := by simpa using d1
        have ET := Lib.hid (show (time + 1) % 4294967296 = Y by rw [HY.out]; unfold Pl.outTime; rw [if_pos hs, if_neg hne])
        clear hne
        go_upto_region 6 with fail
        refine abs_world (fun x => ROutAt x b X time sent s' lt ll lv' st' bv' ∧ KeepsBut b w x ∧ PkAt x w.heap.size s t l lv st (.slice oa body.length c) ∧ PkAt x (w.heap.size + 1) 0 0 0 0 false (.slice none 0 0)) ⟨by rw [← ES.out]; exact obj_set gg 0 _, KeepsBut.set kk _ _, obj_other q0 n1 _, obj_other q1 n2 _⟩ ?_
        clear gg kk q0 q1 c0 c1 c2 c4 c5 f0 f1 r1 r2
        rintro wq ⟨gq, kq, p0, p1⟩
        have c1 := obj_cell gq (k := 1) rfl
        have c5 := obj_cell gq (k := 5) rfl
        have f1 := obj_free gq 1
        have r2 := obj_cell p0 (k := 2) rfl
        go_quiet (fail)
        go_wp2_with fail
        go_meet
        refine ⟨?_, KeepsBut.set (Keeps.drewN kq _) _ _, obj_other p0 n1 _, obj_other p1 n2 _⟩
        rw [← ET.out]
        exact obj_set gq 1 _
      · have heq : l = ll := by simpa using d1
        have ET := Lib.hid (show (time + t - lt) % 4294967296 = Y by rw [HY.out]; unfold Pl.outTime; rw [if_pos hs, if_pos heq]; omega)
        clear heq
        go_upto_region 6 with fail
        refine abs_world (fun x => ROutAt x b X time sent s' lt ll lv' st' bv' ∧ KeepsBut b w x ∧ PkAt x w.heap.size s t l lv st (.slice oa body.length c) ∧ PkAt x (w.heap.size + 1) 0 0 0 0 false (.slice none 0 0)) ⟨by rw [← ES.out]; exact obj_set gg 0 _, KeepsBut.set kk _ _, obj_other q0 n1 _, obj_other q1 n2 _⟩ ?_
        clear gg kk q0 q1 c0 c1 c2 c4 c5 f0 f1 r1 r2
        rintro wq ⟨gq, kq, p0, p1⟩
        have c1 := obj_cell gq (k := 1) rfl
        have c4 := obj_cell gq (k := 4) rfl
        have c5 := obj_cell gq (k := 5) rfl
        have f1 := obj_free gq 1
        have r1 := obj_cell p0 (k := 1) rfl
        have r2 := obj_cell p0 (k := 2) rfl
        go_quiet (fail)
        go_upto_region 7 with fail
        refine abs_world (fun x => ROutAt x b X time sent s' lt ll lv' st' bv' ∧ KeepsBut b w x ∧ PkAt x w.heap.size s t l lv st (.slice oa body.length c) ∧ PkAt x (w.heap.size + 1) 0 0 0 0 false (.slice none 0 0)) ⟨gq, Keeps.drewN kq _, p0, p1⟩ ?_
        clear gq kq p0 p1 c1 c4 c5 f1 r1 r2
        rintro wr ⟨gq, kq, p0, p1⟩
        have c1 := obj_cell gq (k := 1) rfl
        have c4 := obj_cell gq (k := 4) rfl
        have f1 := obj_free gq 1
        have r1 := obj_cell p0 (k := 1) rfl
        go_region
        go_wp2_with fail
        go_meet
        refine ⟨?_, Keeps.drew (KeepsBut.set kq _ _), obj_other p0 n1 _, obj_other p1 n2 _⟩
        rw [← ET.out]
        exact obj_set gq 1 _
    · have ES : seq = X := by rw [HX.out]; unfold Pl.outSeq; rw [if_neg hs]
      have ET : time = Y := by rw [HY.out]; unfold Pl.outTime; rw [if_neg hs]
      have EE := Lib.hid (And.intro ES ET)
      clear ES ET
      go_wp2_with fail
      go_meet
      exact ⟨by rw [← EE.out.1, ← EE.out.2]; exact gg, kk, q0, q1⟩
  case rest =>
  clear gg kk q0 q1 c0 c1 c2 c4 c5 f0 f1 r1 r2
  obtain ⟨gq, kq, p0, p1⟩ := hcut
  have c2 := obj_cell gq (k := 2) rfl
  have k3 := obj_cell gq (k := 3) rfl
  have k4 := obj_cell gq (k := 4) rfl
  have k5 := obj_cell gq (k := 5) rfl
  have k6 := obj_cell gq (k := 6) rfl
  have k7 := obj_cell gq (k := 7) rfl
  have k8 := obj_cell gq (k := 8) rfl
  have f2 := obj_free gq 2
  have f3 := obj_free gq 3
  have f4 := obj_free gq 4
  have f5 := obj_free gq 5
  have f6 := obj_free gq 6
  have f7 := obj_free gq 7
  have f8 := obj_free gq 8
  have r0 := obj_cell p0 (k := 0) rfl
  have r1 := obj_cell p0 (k := 1) rfl
  have r2 := obj_cell p0 (k := 2) rfl
  have r3 := obj_cell p0 (k := 3) rfl
  have r4 := obj_cell p0 (k := 4) rfl
  have r5 := obj_cell p0 (k := 5) rfl
  go_upto_region 11 with fail
  refine abs_world (fun x => ROutAt x b X Y (sent + 1) s t l lv st (.slice oa body.length c) ∧ KeepsBut b w x ∧ PkAt x w.heap.size s t l lv st (.slice oa body.length c) ∧ PkAt x (w.heap.size + 1) 0 0 0 0 false (.slice none 0 0)) ⟨obj_set (obj_set (obj_set (obj_set (obj_set (obj_set (obj_set gq 2 _) 3 _) 4 _) 5 _) 6 _) 7 _) 8 _, KeepsBut.set (KeepsBut.set (KeepsBut.set (KeepsBut.set (KeepsBut.set (KeepsBut.set (KeepsBut.set kq _ _) _ _) _ _) _ _) _ _) _ _) _ _, obj_other (obj_other (obj_other (obj_other (obj_other (obj_other (obj_other p0 n1 _) n1 _) n1 _) n1 _) n1 _) n1 _) n1 _, obj_other (obj_other (obj_other (obj_other (obj_other (obj_other (obj_other p1 n2 _) n2 _) n2 _) n2 _) n2 _) n2 _) n2 _⟩ ?_
  clear gq kq p0 p1 c2 k3 k4 k5 k6 k7 k8 f2 f3 f4 f5 f6 f7 f8 r0 r1 r2 r3 r4 r5
  rintro wd ⟨gq, kq, p0, p1⟩
  have r0 := obj_cell p0 (k := 0) rfl
  have r1 := obj_cell p0 (k := 1) rfl
  have r2 := obj_cell p0 (k := 2) rfl
  have r3 := obj_cell p0 (k := 3) rfl
  have r4 := obj_cell p0 (k := 4) rfl
  have r5 := obj_cell p0 (k := 5) rfl
  have hq := lt_of_block gq
  have hp1 := lt_of_block p1
  have hsz := kq.size
  go_upto_region 12 with fail
  refine abs_world (fun x => ROutAt x b X Y (sent + 1) s t l lv st (.slice oa body.length c) ∧ KeepsBut b w x ∧ PkAt x wd.heap.size s t l lv st (.slice oa body.length c) ∧ PkAt x (w.heap.size + 1) 0 0 0 0 false (.slice none 0 0)) ⟨?_, ?_, ?_, ?_⟩ ?_
  · exact obj_old gq _
  · exact Keeps.alloc kq _
  · exact PkAt.new _ _ _ _ _ _ _
  · exact PkAt.old p1 _
  clear gq kq p0 p1 r0 r1 r2 r3 r4 r5
  rintro we ⟨gq, kq, p0, p1⟩
  generalize hN : wd.heap.size = N at *
  have c0 := obj_cell gq (k := 0) rfl
  have c1 := obj_cell gq (k := 1) rfl
  have z0 := obj_cell p0 (k := 0) rfl
  have z1 := obj_cell p0 (k := 1) rfl
  have f0 := obj_free p0 0
  have f1 := obj_free p0 1
  have nb : b ≠ N := by omega
  have np : w.heap.size + 1 ≠ N := by omega
  have hNs : w.heap.size ≤ N := by omega
  clear hN hq hp1 hsz
  go_upto_region 14 with fail
  refine abs_world (fun x => ROutAt x b X Y (sent + 1) s t l lv st (.slice oa body.length c) ∧ KeepsBut b w x ∧ PkAt x N X Y l lv st (.slice oa body.length c) ∧ PkAt x (w.heap.size + 1) 0 0 0 0 false (.slice none 0 0)) ⟨by exact obj_other (obj_other gq (Ne.symm nb) _) (Ne.symm nb) _, Keeps.setCell (Keeps.setCell kq (.inr hNs) _) (.inr hNs) _, PkAt.set01 p0 X Y, by exact obj_other (obj_other p1 (Ne.symm np) _) (Ne.symm np) _⟩ ?_
  clear gq kq p0 p1 c0 c1 z0 z1 f0 f1
  rintro wf ⟨gr, kr, p0, p1⟩
  have s0 := obj_cell p0 (k := 0) rfl
  have s1 := obj_cell p0 (k := 1) rfl
  have s2 := obj_cell p0 (k := 2) rfl
  have s3 := obj_cell p0 (k := 3) rfl
  have s4 := obj_cell p0 (k := 4) rfl
  have s5 := obj_cell p0 (k := 5) rfl
  have e0 := obj_cell p1 (k := 0) rfl
  have e1 := obj_cell p1 (k := 1) rfl
  have e2 := obj_cell p1 (k := 2) rfl
  have e3 := obj_cell p1 (k := 3) rfl
  have e4 := obj_cell p1 (k := 4) rfl
  have e5 := obj_cell p1 (k := 5) rfl
  have f0 := obj_free p1 0
  have f1 := obj_free p1 1
  have f2 := obj_free p1 2
  have f3 := obj_free p1 3
  have f4 := obj_free p1 4
  have f5 := obj_free p1 5
  go_cut [5] (fun s5 x => s5 = .int .i64 0 ∧ KeepsBut (w.heap.size + 1) wf x ∧ PkAt x (w.heap.size + 1) X Y l lv st (.slice oa body.length c))
  case first =>
    go_wp2_with fail
    go_meet
    exact ⟨rfl, keeps_sets wf _ _ _ _ _ _ _, PkAt.sets p1⟩
  case rest =>
  clear s0 s1 s2 s3 s4 s5 e0 e1 e2 e3 e4 e5 f0 f1 f2 f3 f4 f5 p1 p0
  obtain ⟨rfl, kx, p1⟩ := hcut
  have e0 := obj_cell p1 (k := 0) rfl
  have e1 := obj_cell p1 (k := 1) rfl
  have e2 := obj_cell p1 (k := 2) rfl
  have e3 := obj_cell p1 (k := 3) rfl
  have e4 := obj_cell p1 (k := 4) rfl
  have e5 := obj_cell p1 (k := 5) rfl
  go_wp2
  refine bodyPost_ret (v := .tuple #[pkV X Y l lv st (.slice oa body.length c), .int .i64 0]) (by simp [results, Tryd.results15, go_sem, e0, e1, e2, e3, e4, e5]) rfl ?_
  exact Fin.out X Y _ HX.out HY.out (ROutAt.other gr kx n2) (keeps_step kr kx (Nat.le_succ _))
end Go.Proofs.YtmlpdcbfafplkaaDoor
