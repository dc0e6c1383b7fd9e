import Derived.Test.YticihmkgdabgiaaDoorFrameC
/-! frame.Encode. -/
namespace Go.Proofs.YticihmkgdabgiaaDoor
open Go.RowKit
set_option linter.unusedVariables false
set_option linter.unusedSimpArgs false
theorem Pl.byte0 (t : Int) (h1 : 0 ≤ t) (h2 : t ≤ 255) : t = ((Pl.byteAt t 0).toNat : Int) := by
  rw [Pl.byteAt_toNat, show (256 : Int) ^ 0 = 1 by decide]; omega
theorem Pl.byte0w (t : Int) (h1 : 0 ≤ t) (h2 : t ≤ 255) : IntKind.u8.wrap t = ((Pl.byteAt t 0).toNat : Int) := Pl.byte_wrap0 t
set_option maxRecDepth 100000 in
set_option maxHeartbeats 4000000 in
theorem fencode_bad (t o1 ep h : Int) (bv : Value) (l : List UInt8) (w : World) (hv : IsBytes w bv l) (hf : Pl.frFault t o1 ep h l ≠ 0) :
    Calls Tryd.prog 10 #[frV t o1 ep h bv] w fun e w' => e = .returned (.tuple #[.slice none 0 0, .iface 73 (.int .i64 (Pl.frFault t o1 ep h l))]) ∧ Below w.heap.size w w' := by
  obtain ⟨oa, c, rfl, _⟩ := bytes_slice hv
  have HB := Lib.hid ((Below.refl w.heap.size w).alloc (Nat.le_refl _) (.cells #[.int .i64 t, .int .i64 o1, .int .i64 ep, .int .i64 h, .slice oa l.length c] 24))
  have R := Lib.hid (fcheck_bad t o1 ep h _ l _ (hv.below HB.out) hf)
  clear hf hv
  generalize Pl.frFault t o1 ep h l = k at *
  go_enter Tryd.func10, Tryd.ntmps10
  go_wp2_with (go_at_call 17; refine (R.out).mono ?_; rintro e w' ⟨rfl, kb⟩)
  refine bodyPost_ret (v := .tuple #[.slice none 0 0, .iface 73 (.int .i64 k)]) (by simp [results, Tryd.results10, go_sem]) rfl ?_
  exact ⟨rfl, HB.out.trans (kb.mono (by simp))⟩
set_option maxRecDepth 100000 in
set_option maxHeartbeats 4000000 in
theorem fencode_ok (t o1 ep h : Int) (bv : Value) (l : List UInt8) (w : World) (hv : IsBytes w bv l) (hf : Pl.frFault t o1 ep h l = 0) :
    Calls Tryd.prog 10 #[frV t o1 ep h bv] w fun e w' => ∃ oa c, e = .returned (.tuple #[.slice oa (10 + l.length) c, .nilIface]) ∧ OwnB w' w.heap.size (.slice oa (10 + l.length) c) (Pl.frBytes t o1 ep h l) ∧ Below w.heap.size w w' := by
  obtain ⟨hn, hr⟩ := Pl.frFault_ok hf
  obtain ⟨g1, g2, g3, g4, g5, g6, g7, g8⟩ := hn
  obtain ⟨r1, r2, r3⟩ := Pl.read_ok hr
  obtain ⟨oa, c, rfl, _⟩ := bytes_slice hv
  have HB := Lib.hid ((Below.refl w.heap.size w).alloc (Nat.le_refl _) (.cells #[.int .i64 t, .int .i64 o1, .int .i64 ep, .int .i64 h, .slice oa l.length c] 24))
  have R := Lib.hid (fcheck_ok t o1 ep h _ l _ (hv.below HB.out) hf)
  have HV := Lib.hid hv
  have HX := Lib.hid (obj_new w (.cells #[.int .i64 t, .int .i64 o1, .int .i64 ep, .int .i64 h, .slice oa l.length c] 24))
  have BT := Lib.hid (Pl.byte0 t (by omega) (by omega))
  have BO := Lib.hid (Pl.byte0 o1 (by omega) (by omega))
  have BH := Lib.hid (Pl.byte0 h (by omega) (by omega))
  have L2 := Lib.hid r2
  clear hf hr r1 r2 r3 hv
  go_enter Tryd.func10, Tryd.ntmps10
  go_upto_region 4 with (go_at_call 17; refine (R.out).mono ?_; rintro e w1 ⟨rfl, kb⟩)
  have hp : w1.heap[w.heap.size]? = some (.cells #[.int .i64 t, .int .i64 o1, .int .i64 ep, .int .i64 h, .slice oa l.length c] 24 (0, 0)) := Below.heapAt kb HX.out (by simp)
  have HP := Lib.hid hp
  have K1 := Lib.hid (HB.out.trans (kb.mono (by simp)))
  have HS1 := Lib.hid (lt_of_block hp)
  have p0 := obj_cell hp (k := 0) rfl
  have p1 := obj_cell hp (k := 1) rfl
  have p2 := fun o : Obj => obj_cell (obj_old hp o) (k := 2) rfl
  have p3 := obj_cell hp (k := 3) rfl
  clear hp kb R
  have HN : ∃ N, N = w.heap.size := ⟨_, rfl⟩
  obtain ⟨N, HN⟩ := HN
  rw [← HN] at p0 p1 p2 p3 HP HS1 K1 ⊢
  have HN' := Lib.hid HN
  clear HN
  have PUT := Lib.hid (fun (a b d : Int) (ha : a = ((Pl.byteAt t 0).toNat : Int)) (hb : b = ((Pl.byteAt o1 0).toNat : Int)) (hd : d = ((Pl.byteAt h 0).toNat : Int)) => put_any 2 (by omega) ep g5 (by omega) (N + 1) (.slice (some ⟨w1.heap.size, 0, none⟩) 4 4) [70, Pl.byteAt t 0, Pl.byteAt o1 0, Pl.byteAt h 0] (by simp) (w1.alloc (.cells #[.int .u8 70, .int .u8 a, .int .u8 b, .int .u8 d] 5)) (OwnB.lit w1 _ _ 4 rfl (by subst ha hb hd; rfl) (by simp) HS1.out) (by have := HS1.out; simp; omega))
  have STEP := Lib.hid (show ∀ (o : Obj) (w2 : World) (v2 : Value), OwnB w2 (N + 1) v2 ([70, Pl.byteAt t 0, Pl.byteAt o1 0, Pl.byteAt h 0] ++ Pl.putB ep 2) → Below (N + 1) (w1.alloc o) w2 →
      w2.cell? ⟨N, 4, none⟩ = some (.slice oa l.length c) ∧ ∃ v' w', (Builtin.append_ #[22, 22] 22 #[v2, .slice oa l.length c]).run Tryd.prog w2 = .ok v' w' ∧ OwnB w' (N + 1) v' (Pl.frBody t o1 ep h l) ∧ Below N w w' ∧ N + 1 ≤ w'.heap.size from by
    intro o w2 v2 o2 k2
    have hs := HS1.out
    have hk := k2.size
    have k3 : Below N w w2 := (K1.out.trans ((Below.refl _ _).alloc (Nat.le_of_lt hs) o)).trans (k2.mono (Nat.le_succ N))
    have hs2 : N + 1 ≤ w2.heap.size := by simp at hk; omega
    refine ⟨obj_cell (Below.heapAt k2 (obj_old HP.out _) (Nat.lt_succ_self N)) (k := 4) rfl, ?_⟩
    obtain ⟨v', w', hr, ho, hg⟩ := run_append_bytes w2 o2 (HV.out.below (by rw [← HN'.out]; exact k3)) hs2 (by have := L2.out; simp [Pl.putB]; omega)
    exact ⟨v', w', hr, ho, (k3.trans (below_row o2 hg (Nat.le_succ N) (Nat.le_of_lt hs2))).mono (Nat.le_refl _), by have := hg.size; omega⟩)
  go_wp2_with (first
    | (go_at_call 38; refine (PUT.out _ _ _ BT.out BO.out BH.out).mono ?_; rintro e w2 ⟨v2, rfl, o2, k2⟩; obtain ⟨p4, R2⟩ := STEP.out _ w2 v2 o2 k2; have RUN := Lib.hid R2; clear R2)
    | (at_builtin; obtain ⟨v3, w3, hr, o3, k3, s3⟩ := RUN.out; refine Lib.wpList_append_run _ rfl (.tmp 24) (.tmp 26) 22 22 rfl _ _ rfl rfl _ _ hr ?_)
    | (go_at_call 34; refine (seal_any v3 _ w3 o3.reads (by rw [Pl.frBody_length]; have := L2.out; omega)).mono ?_; rintro e w4 ⟨v4, rfl, o4, k4⟩))
  have E := Pl.frBytes_length t o1 ep h l
  obtain ⟨ob, c4, rfl, -⟩ := bytes_slice o4.reads
  refine bodyPost_ret (v := .tuple #[.slice ob (Pl.frBytes t o1 ep h l).length c4, .nilIface]) (by simp [results, Tryd.results10, go_sem, Pl.frBytes]) rfl ?_
  rw [E, ← HN'.out]
  have q : OwnB w4 N (.slice ob (Pl.frBytes t o1 ep h l).length c4) (Pl.frBytes t o1 ep h l) := o4.mono (by omega)
  rw [E] at q
  exact ⟨ob, c4, rfl, q, by rw [HN'.out]; exact (by rw [← HN'.out]; exact k3.trans (k4.mono (by omega)))⟩
end Go.Proofs.YticihmkgdabgiaaDoor
