import Derived.Test.YticihmkgdabgiaaSameFr
import Derived.Test.YticihmkgdabgiaaOpenFr
/-! The walk of the law FrameSizes. -/
namespace Go.Proofs.Yticihmkgdabgiaa
open Go.RowKit
set_option linter.unusedVariables false
set_option linter.unusedSimpArgs false
/-- a frame in memory -/
def FrAt (w : World) (g : Nat) (p : Fr) : Prop := w.heap[g]? = some (.cells #[.int .i64 p.t, .int .i64 p.o, .int .i64 p.ep, .int .i64 p.h, p.bv] 24 (0, 0))
def Fr.fault (p : Fr) : Int := Pl.frFault p.t p.o p.ep p.h p.body
def Fr.bytes (p : Fr) : List UInt8 := Pl.frBytes p.t p.o p.ep p.h p.body
/-- what the law holds: both frames, in memory -/
structure Two (N : Nat) (w : World) (a b : Fr) (y : World) : Prop where
  a0 : FrAt y N a
  b0 : FrAt y (N + 1) b
  av : IsBytes y a.bv a.body
  bv : IsBytes y b.bv b.body
  kb : Below N w y
theorem Two.next {N : Nat} {w y y' : World} {a b : Fr} (h : Two N w a b y) (k : Below y.heap.size y y') : Two N w a b y' :=
  ⟨Below.heapAt k h.a0 (lt_of_block h.a0), Below.heapAt k h.b0 (lt_of_block h.b0), h.av.below k, h.bv.below k, h.kb.trans (k.mono (Nat.le_of_lt (lt_of_block h.a0)))⟩
theorem Two.cells {N : Nat} {w y : World} {a b : Fr} (h : Two N w a b y) :
    y.cell? ⟨N, 0, none⟩ = some (.int .i64 a.t) ∧ y.cell? ⟨N, 1, none⟩ = some (.int .i64 a.o) ∧ y.cell? ⟨N, 2, none⟩ = some (.int .i64 a.ep) ∧ y.cell? ⟨N, 3, none⟩ = some (.int .i64 a.h) ∧ y.cell? ⟨N, 4, none⟩ = some a.bv ∧
    y.cell? ⟨N + 1, 0, none⟩ = some (.int .i64 b.t) ∧ y.cell? ⟨N + 1, 1, none⟩ = some (.int .i64 b.o) ∧ y.cell? ⟨N + 1, 2, none⟩ = some (.int .i64 b.ep) ∧ y.cell? ⟨N + 1, 3, none⟩ = some (.int .i64 b.h) ∧ y.cell? ⟨N + 1, 4, none⟩ = some b.bv :=
  ⟨obj_cell h.a0 rfl, obj_cell h.a0 rfl, obj_cell h.a0 rfl, obj_cell h.a0 rfl, obj_cell h.a0 rfl, obj_cell h.b0 rfl, obj_cell h.b0 rfl, obj_cell h.b0 rfl, obj_cell h.b0 rfl, obj_cell h.b0 rfl⟩
set_option maxRecDepth 100000 in
set_option maxHeartbeats 4000000 in
theorem walk_FrameSizes_bb (w : World) (a b : Fr) (ha : a.Good w) (hb : b.Good w) (fa : a.fault ≠ 0) (fb : b.fault ≠ 0) :
    Calls Try.prog 3 #[a.val, b.val] w fun e w' => e = .returned (.bool true) ∧ Below w.heap.size w w' := by
  have GA := Lib.hid ha.2.2.2.2
  have GB := Lib.hid hb.2.2.2.2
  clear ha hb
  obtain ⟨t, o, ep, h, bv, body⟩ := a
  obtain ⟨t', o', ep', h', bv', body'⟩ := b
  have FA := Lib.hid (show Pl.frFault t o ep h body ≠ 0 from fa)
  have FB := Lib.hid (show Pl.frFault t' o' ep' h' body' ≠ 0 from fb)
  clear fa fb
  obtain ⟨ob, cb, hbv, -⟩ := bytes_slice GA.out
  obtain ⟨ob', cb', hbv', -⟩ := bytes_slice GB.out
  dsimp only at hbv hbv' GA GB
  subst hbv hbv'
  go_enter Try.func3, Try.ntmps3
  go_upto_region 1 with fail
  have kb : Below w.heap.size w ((w.alloc (.cells #[.int .i64 t, .int .i64 o, .int .i64 ep, .int .i64 h, .slice ob body.length cb] 24)).alloc (.cells #[.int .i64 t', .int .i64 o', .int .i64 ep', .int .i64 h', .slice ob' body'.length cb'] 24)) := ((Below.refl _ _).alloc (Nat.le_refl _) _).alloc (by simp) _
  refine abs_b (fun x => Two w.heap.size w ⟨t, o, ep, h, .slice ob body.length cb, body⟩ ⟨t', o', ep', h', .slice ob' body'.length cb', body'⟩ x) ⟨obj_old (obj_new _ _) _, obj_new2 _ _ _, GA.out.below kb, GB.out.below kb, kb⟩ ?_
  clear kb GA GB
  intro y hy
  have TW := Lib.hid hy
  clear hy
  obtain ⟨p0, p1, p2, p3, p4, q0, q1, q2, q3, q4⟩ := TW.out.cells; dsimp only at p0 p1 p2 p3 p4 q0 q1 q2 q3 q4
  go_wp2_with (first
    | (go_at_call 5; with_reducible refine (fencode_bad t o ep h _ body _ TW.out.av FA.out).mono ?_; rintro e y ⟨rfl, kb⟩; have TW := Lib.hid (TW.out.next kb); obtain ⟨p0, p1, p2, p3, p4, q0, q1, q2, q3, q4⟩ := TW.out.cells; dsimp only at p0 p1 p2 p3 p4 q0 q1 q2 q3 q4)
    | (go_at_call 5; with_reducible refine (fencode_bad t' o' ep' h' _ body' _ TW.out.bv FB.out).mono ?_; rintro e y ⟨rfl, kb⟩; have TW := Lib.hid (TW.out.next kb); obtain ⟨p0, p1, p2, p3, p4, q0, q1, q2, q3, q4⟩ := TW.out.cells; dsimp only at p0 p1 p2 p3 p4 q0 q1 q2 q3 q4)
    | (go_at_call 6; with_reducible refine (fcheck_bad t o ep h _ body _ TW.out.av FA.out).mono ?_; rintro e y ⟨rfl, kb⟩; have TW := Lib.hid (TW.out.next kb); obtain ⟨p0, p1, p2, p3, p4, q0, q1, q2, q3, q4⟩ := TW.out.cells; dsimp only at p0 p1 p2 p3 p4 q0 q1 q2 q3 q4)
    | (go_at_call 6; with_reducible refine (fcheck_bad t' o' ep' h' _ body' _ TW.out.bv FB.out).mono ?_; rintro e y ⟨rfl, kb⟩; have TW := Lib.hid (TW.out.next kb); obtain ⟨p0, p1, p2, p3, p4, q0, q1, q2, q3, q4⟩ := TW.out.cells; dsimp only at p0 p1 p2 p3 p4 q0 q1 q2 q3 q4)
    | fail)
  go_ret
  exact ⟨rfl, TW.out.kb⟩
set_option maxRecDepth 100000 in
set_option maxHeartbeats 4000000 in
theorem walk_FrameSizes_bo (w : World) (a b : Fr) (ha : a.Good w) (hb : b.Good w) (fa : a.fault ≠ 0) (fb : b.fault = 0) :
    Calls Try.prog 3 #[a.val, b.val] w fun e w' => e = .returned (.bool true) ∧ Below w.heap.size w w' := by
  have GA := Lib.hid ha.2.2.2.2
  have GB := Lib.hid hb.2.2.2.2
  clear ha hb
  obtain ⟨t, o, ep, h, bv, body⟩ := a
  obtain ⟨t', o', ep', h', bv', body'⟩ := b
  have FA := Lib.hid (show Pl.frFault t o ep h body ≠ 0 from fa)
  have FB := Lib.hid (show Pl.frFault t' o' ep' h' body' = 0 from fb)
  clear fa fb
  obtain ⟨ob, cb, hbv, -⟩ := bytes_slice GA.out
  obtain ⟨ob', cb', hbv', -⟩ := bytes_slice GB.out
  dsimp only at hbv hbv' GA GB
  subst hbv hbv'
  go_enter Try.func3, Try.ntmps3
  go_upto_region 1 with fail
  have kb : Below w.heap.size w ((w.alloc (.cells #[.int .i64 t, .int .i64 o, .int .i64 ep, .int .i64 h, .slice ob body.length cb] 24)).alloc (.cells #[.int .i64 t', .int .i64 o', .int .i64 ep', .int .i64 h', .slice ob' body'.length cb'] 24)) := ((Below.refl _ _).alloc (Nat.le_refl _) _).alloc (by simp) _
  refine abs_b (fun x => Two w.heap.size w ⟨t, o, ep, h, .slice ob body.length cb, body⟩ ⟨t', o', ep', h', .slice ob' body'.length cb', body'⟩ x) ⟨obj_old (obj_new _ _) _, obj_new2 _ _ _, GA.out.below kb, GB.out.below kb, kb⟩ ?_
  clear kb GA GB
  intro y hy
  have TW := Lib.hid hy
  clear hy
  obtain ⟨p0, p1, p2, p3, p4, q0, q1, q2, q3, q4⟩ := TW.out.cells; dsimp only at p0 p1 p2 p3 p4 q0 q1 q2 q3 q4
  go_wp2_with (first
    | (go_at_call 5; with_reducible refine (fencode_bad t o ep h _ body _ TW.out.av FA.out).mono ?_; rintro e y ⟨rfl, kb⟩; have TW := Lib.hid (TW.out.next kb); obtain ⟨p0, p1, p2, p3, p4, q0, q1, q2, q3, q4⟩ := TW.out.cells; dsimp only at p0 p1 p2 p3 p4 q0 q1 q2 q3 q4)
    | (go_at_call 5; with_reducible refine (fencode_ok t' o' ep' h' _ body' _ TW.out.bv FB.out).mono ?_; rintro e y ⟨oB, cB, rfl, rb, kb⟩; have TW := Lib.hid (TW.out.next kb); have RB := Lib.hid rb.reads; clear rb; obtain ⟨p0, p1, p2, p3, p4, q0, q1, q2, q3, q4⟩ := TW.out.cells; dsimp only at p0 p1 p2 p3 p4 q0 q1 q2 q3 q4)
    | (go_at_call 6; with_reducible refine (fcheck_bad t o ep h _ body _ TW.out.av FA.out).mono ?_; rintro e y ⟨rfl, kb⟩; have TW := Lib.hid (TW.out.next kb); obtain ⟨p0, p1, p2, p3, p4, q0, q1, q2, q3, q4⟩ := TW.out.cells; dsimp only at p0 p1 p2 p3 p4 q0 q1 q2 q3 q4)
    | fail)
  go_ret
  exact ⟨rfl, TW.out.kb⟩
set_option maxRecDepth 100000 in
set_option maxHeartbeats 4000000 in
theorem walk_FrameSizes_ob (w : World) (a b : Fr) (ha : a.Good w) (hb : b.Good w) (fa : a.fault = 0) (fb : b.fault ≠ 0) :
    Calls Try.prog 3 #[a.val, b.val] w fun e w' => e = .returned (.bool true) ∧ Below w.heap.size w w' := by
  have GA := Lib.hid ha.2.2.2.2
  have GB := Lib.hid hb.2.2.2.2
  clear ha hb
  obtain ⟨t, o, ep, h, bv, body⟩ := a
  obtain ⟨t', o', ep', h', bv', body'⟩ := b
  have FA := Lib.hid (show Pl.frFault t o ep h body = 0 from fa)
  have FB := Lib.hid (show Pl.frFault t' o' ep' h' body' ≠ 0 from fb)
  clear fa fb
  obtain ⟨ob, cb, hbv, -⟩ := bytes_slice GA.out
  obtain ⟨ob', cb', hbv', -⟩ := bytes_slice GB.out
  dsimp only at hbv hbv' GA GB
  subst hbv hbv'
  go_enter Try.func3, Try.ntmps3
  go_upto_region 1 with fail
  have kb : Below w.heap.size w ((w.alloc (.cells #[.int .i64 t, .int .i64 o, .int .i64 ep, .int .i64 h, .slice ob body.length cb] 24)).alloc (.cells #[.int .i64 t', .int .i64 o', .int .i64 ep', .int .i64 h', .slice ob' body'.length cb'] 24)) := ((Below.refl _ _).alloc (Nat.le_refl _) _).alloc (by simp) _
  refine abs_b (fun x => Two w.heap.size w ⟨t, o, ep, h, .slice ob body.length cb, body⟩ ⟨t', o', ep', h', .slice ob' body'.length cb', body'⟩ x) ⟨obj_old (obj_new _ _) _, obj_new2 _ _ _, GA.out.below kb, GB.out.below kb, kb⟩ ?_
  clear kb GA GB
  intro y hy
  have TW := Lib.hid hy
  clear hy
  obtain ⟨p0, p1, p2, p3, p4, q0, q1, q2, q3, q4⟩ := TW.out.cells; dsimp only at p0 p1 p2 p3 p4 q0 q1 q2 q3 q4
  go_wp2_with (first
    | (go_at_call 5; with_reducible refine (fencode_ok t o ep h _ body _ TW.out.av FA.out).mono ?_; rintro e y ⟨oA, cA, rfl, ra, kb⟩; have TW := Lib.hid (TW.out.next kb); have RA := Lib.hid ra.reads; clear ra; obtain ⟨p0, p1, p2, p3, p4, q0, q1, q2, q3, q4⟩ := TW.out.cells; dsimp only at p0 p1 p2 p3 p4 q0 q1 q2 q3 q4)
    | (go_at_call 5; with_reducible refine (fencode_bad t' o' ep' h' _ body' _ TW.out.bv FB.out).mono ?_; rintro e y ⟨rfl, kb⟩; have TW := Lib.hid (TW.out.next kb); have RA := Lib.hid (RA.out.below kb); obtain ⟨p0, p1, p2, p3, p4, q0, q1, q2, q3, q4⟩ := TW.out.cells; dsimp only at p0 p1 p2 p3 p4 q0 q1 q2 q3 q4)
    | (go_at_call 6; with_reducible refine (fcheck_bad t' o' ep' h' _ body' _ TW.out.bv FB.out).mono ?_; rintro e y ⟨rfl, kb⟩; have TW := Lib.hid (TW.out.next kb); obtain ⟨p0, p1, p2, p3, p4, q0, q1, q2, q3, q4⟩ := TW.out.cells; dsimp only at p0 p1 p2 p3 p4 q0 q1 q2 q3 q4)
    | fail)
  go_ret
  exact ⟨rfl, TW.out.kb⟩
set_option maxRecDepth 100000 in
set_option maxHeartbeats 4000000 in
theorem walk_FrameSizes_oo (w : World) (a b : Fr) (ha : a.Good w) (hb : b.Good w) (fa : a.fault = 0) (fb : b.fault = 0) :
    Calls Try.prog 3 #[a.val, b.val] w fun e w' => e = .returned (.bool true) ∧ Below w.heap.size w w' := by
  have GA := Lib.hid ha.2.2.2.2
  have GB := Lib.hid hb.2.2.2.2
  clear ha hb
  obtain ⟨t, o, ep, h, bv, body⟩ := a
  obtain ⟨t', o', ep', h', bv', body'⟩ := b
  have FA := Lib.hid (show Pl.frFault t o ep h body = 0 from fa)
  have FB := Lib.hid (show Pl.frFault t' o' ep' h' body' = 0 from fb)
  clear fa fb
  obtain ⟨ob, cb, hbv, -⟩ := bytes_slice GA.out
  obtain ⟨ob', cb', hbv', -⟩ := bytes_slice GB.out
  dsimp only at hbv hbv' GA GB
  subst hbv hbv'
  have INJ := Lib.hid (show Pl.sameFr t o ep h body t' o' ep' h' body' = decide (Pl.frBytes t o ep h body = Pl.frBytes t' o' ep' h' body') from by
    unfold Pl.sameFr
    by_cases e : t = t' ∧ o = o' ∧ ep = ep' ∧ h = h' ∧ body = body'
    · obtain ⟨rfl, rfl, rfl, rfl, rfl⟩ := e; simp
    · have e2 : ¬ Pl.frBytes t o ep h body = Pl.frBytes t' o' ep' h' body' := fun h2 => e (Pl.frBytes_inj (Pl.frFault_ok FA.out).1 (Pl.frFault_ok FB.out).1 h2)
      rw [decide_eq_false e, decide_eq_false e2])
  have LB := Lib.hid (show body.length ≤ 1008 from (Pl.read_ok (Pl.frFault_ok FA.out).2).2.1)
  go_enter Try.func3, Try.ntmps3
  go_upto_region 1 with fail
  have kb : Below w.heap.size w ((w.alloc (.cells #[.int .i64 t, .int .i64 o, .int .i64 ep, .int .i64 h, .slice ob body.length cb] 24)).alloc (.cells #[.int .i64 t', .int .i64 o', .int .i64 ep', .int .i64 h', .slice ob' body'.length cb'] 24)) := ((Below.refl _ _).alloc (Nat.le_refl _) _).alloc (by simp) _
  refine abs_b (fun x => Two w.heap.size w ⟨t, o, ep, h, .slice ob body.length cb, body⟩ ⟨t', o', ep', h', .slice ob' body'.length cb', body'⟩ x) ⟨obj_old (obj_new _ _) _, obj_new2 _ _ _, GA.out.below kb, GB.out.below kb, kb⟩ ?_
  clear kb GA GB
  intro y hy
  have TW := Lib.hid hy
  clear hy
  obtain ⟨p0, p1, p2, p3, p4, q0, q1, q2, q3, q4⟩ := TW.out.cells; dsimp only at p0 p1 p2 p3 p4 q0 q1 q2 q3 q4
  go_upto_region 5 with (first
    | (go_at_call 5; with_reducible refine (fencode_ok t o ep h _ body _ TW.out.av FA.out).mono ?_; rintro e y ⟨oA, cA, rfl, ra, kb⟩; have TW := Lib.hid (TW.out.next kb); have RA := Lib.hid ra.reads; clear ra; obtain ⟨p0, p1, p2, p3, p4, q0, q1, q2, q3, q4⟩ := TW.out.cells; dsimp only at p0 p1 p2 p3 p4 q0 q1 q2 q3 q4)
    | (go_at_call 5; with_reducible refine (fencode_ok t' o' ep' h' _ body' _ TW.out.bv FB.out).mono ?_; rintro e y ⟨oB, cB, rfl, rb, kb⟩; have TW := Lib.hid (TW.out.next kb); have RA := Lib.hid (RA.out.below kb); have RB := Lib.hid rb.reads; clear rb; obtain ⟨p0, p1, p2, p3, p4, q0, q1, q2, q3, q4⟩ := TW.out.cells; dsimp only at p0 p1 p2 p3 p4 q0 q1 q2 q3 q4)
    | fail)
  have SAME := Lib.hid (sameFr_any t o ep h t' o' ep' h' _ _ body body' y TW.out.av TW.out.bv)
  go_upto_region 6 with (go_at_call 7; refine SAME.out.mono ?_; rintro e y2 ⟨rfl, kb⟩; have TW := Lib.hid (TW.out.next kb); have RA := Lib.hid (RA.out.below kb); have RB := Lib.hid (RB.out.below kb); obtain ⟨p0, p1, p2, p3, p4, q0, q1, q2, q3, q4⟩ := TW.out.cells; dsimp only at p0 p1 p2 p3 p4 q0 q1 q2 q3 q4)
  have c1 := conv_bytes RA.out
  have c2 := conv_bytes RB.out
  have hl := LB.out
  have e1 := INJ.out
  generalize Pl.sameFr t o ep h body t' o' ep' h' body' = same at *
  clear p0 p1 p2 p3 q0 q1 q2 q3 q4
  by_cases e : Pl.frBytes t o ep h body = Pl.frBytes t' o' ep' h' body'
  · rw [decide_eq_true e] at e1
    subst e1
    rw [e] at c1
    generalize strB (Pl.frBytes t' o' ep' h' body') = x at *
    clear e RA RB INJ
    go_wp2
    go_ret
    exact ⟨by simp, TW.out.kb⟩
  · rw [decide_eq_false e] at e1
    subst e1
    have ne : ¬ (strB (Pl.frBytes t o ep h body)).toList = (strB (Pl.frBytes t' o' ep' h' body')).toList := by rw [ByteArray.toList_eq, ByteArray.toList_eq]; simpa [strB] using e
    have d : ((strB (Pl.frBytes t o ep h body)).toList == (strB (Pl.frBytes t' o' ep' h' body')).toList) = false := beq_eq_false_iff_ne.2 ne
    clear e RA RB INJ
    generalize strB (Pl.frBytes t o ep h body) = x at *
    generalize strB (Pl.frBytes t' o' ep' h' body') = x' at *
    go_wp2
    go_ret
    exact ⟨by simp [ne], TW.out.kb⟩

theorem walk_FrameSizes (w : World) (v0 : Value) (l0 : Fr) (o0 : v0 = l0.val ∧ l0.Good w) (v1 : Value) (l1 : Fr) (o1 : v1 = l1.val ∧ l1.Good w) :
    Calls Try.prog 3 #[v0, v1] w fun e w' => e = .returned (.bool true) ∧ Below w.heap.size w w' := by
  obtain ⟨rfl, g0⟩ := o0
  obtain ⟨rfl, g1⟩ := o1
  by_cases f0 : l0.fault = 0 <;> by_cases f1 : l1.fault = 0
  · exact walk_FrameSizes_oo w l0 l1 g0 g1 f0 f1
  · exact walk_FrameSizes_ob w l0 l1 g0 g1 f0 f1
  · exact walk_FrameSizes_bo w l0 l1 g0 g1 f0 f1
  · exact walk_FrameSizes_bb w l0 l1 g0 g1 f0 f1
end Go.Proofs.Yticihmkgdabgiaa
