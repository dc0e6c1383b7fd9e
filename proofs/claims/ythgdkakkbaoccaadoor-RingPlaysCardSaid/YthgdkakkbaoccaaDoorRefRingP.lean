import Derived.Test.YthgdkakkbaoccaaDoorRefRing
import Derived.Test.YthgdkakkbaoccaaDoorRing
import Derived.Deep.QuietTactic
import Derived.BigQuiet
import Derived.Deep.DeepCutAuto
import Derived.StillTailTactics
import Derived.Deep.RegionLaw
import Derived.Deep.AppendSrc
/-! The reference's Ring: Put. -/
namespace Go.Proofs.YthgdkakkbaoccaaDoor
open Go.RowKit
set_option linter.unusedVariables false
set_option linter.unusedSimpArgs false
/-- the packet's box and the ring -/
structure RPutAt (M : Nat) (w : World) (v0 : Value) (b : Nat) (n top : Int) (v : Value) (L : List Itm) (N : Nat) (x : Itm) (y : World) : Prop where
  ring : RRng M y b n top v L
  pk : PkIn y N x.s x.t x.l x.lv x.st (.slice x.oa x.bn x.bc)
  fp : RRFP b v0 w y
  N : w.heap.size ≤ N
namespace RPutAt
variable {M : Nat} {w y z : World} {v0 : Value} {b : Nat} {n top : Int} {v : Value} {L : List Itm} {N : Nat} {x : Itm}
theorem below (h : RPutAt M w v0 b n top v L N x y) (k : Below y.heap.size y z) : RPutAt M w v0 b n top v L N x z :=
  ⟨h.ring.below k, Below.heapAt k h.pk (lt_of_block h.pk), Keeps.trans h.fp (Below.toKeeps k (Nat.le_refl _)), h.N⟩
theorem drewN (h : RPutAt M w v0 b n top v L N x y) (k : Nat) : RPutAt M w v0 b n top v L N x (y.drewN k) :=
  ⟨⟨by exact h.ring.at_, by exact h.ring.row, h.ring.low⟩, by exact h.pk, Keeps.drewN h.fp _, h.N⟩
end RPutAt
/-- how Put ends -/
def RPutE (M b : Nat) (n top : Int) (v : Value) (L : List Itm) (x : Itm) (w : World) (e : Ending) (w' : World) : Prop :=
  ∃ (B : Bool) (f : Int) (top' : Int) (v' : Value) (L' : List Itm), e = .returned (.tuple #[.bool B, .int .i64 f]) ∧ RRng M w' b n top' v' L' ∧ RRFP b v w w' ∧ (∀ g, v'.ownBlock = some g → v.ownBlock = some g ∨ w.heap.size ≤ g) ∧
    ((x.num ≤ top - n ∧ B = false ∧ f = 6 ∧ top' = top ∧ L' = L) ∨ (¬ x.num ≤ top - n ∧ (∃ y ∈ L, y.num = x.num) ∧ B = false ∧ f = 0 ∧ top' = top ∧ L' = L) ∨ (¬ x.num ≤ top - n ∧ (∀ y ∈ L, y.num ≠ x.num) ∧ B = true ∧ f = 0 ∧ top' = (if top < x.num then x.num else top) ∧ L' = (L ++ [x]).filter (fun y => decide (top' - n < y.num))))
/-- append where a region draws -/
theorem step_append_at {P : Program} {ops : Array Oper} {o : Oper} {a : Act} {w : World} {K : Act → World → Prop} {Q : Exit → Act → World → Prop} {E : Prop} (hgd : o.guard = none) (s x : Operand) (t tn : TypeId)
    (ho : o.op = .call { callee := .builtin .append, args := #[s, x], argTypes := #[t, tn] }) (vs vx : Value) (hs : a.eval s = vs) (hx : a.eval x = vx)
    (v' : Value) (w' : World) (hr : (Builtin.append_ #[t, tn] o.type #[vs, vx]).run P w = .ok v' w') (h : K (a.put o.dst v') w') :
    if Region.wanted o (yielded ops a.tmps) = true then Oper.wp P o a w K Q else E := by
  have hw : Region.wanted o (yielded ops a.tmps) = true := by simp [Region.wanted, hgd]
  rw [if_pos hw]
  exact Lib.wp_append_run w s x t tn ho vs vx hs hx v' w' hr h
theorem rRingPut_range (b : Nat) (num : Int) (hl : Pl.long num = false) (s t l lv : Int) (st : Bool) (bv : Value) (w : World) :
    Calls Tryd.prog 10 #[.pointer (some ⟨b, 0, none⟩), .int .i64 num, pkV s t l lv st bv] w fun e w' => e = .returned (.tuple #[.bool false, .int .i64 1]) ∧ Below w.heap.size w w' := by
  have R := Lib.hid (fun y => rLong_any num y)
  rw [hl] at R
  go_enter Tryd.func10, Tryd.ntmps10
  go_wp2_with (go_at_call 53; refine (R.out _).mono ?_; rintro e w' ⟨rfl, rfl⟩)
  go_ret2
  exact ⟨rfl, (Below.refl _ _).alloc (Nat.le_refl _) _⟩
set_option maxRecDepth 100000 in
set_option maxHeartbeats 2000000 in
theorem rRingPut_bad (b : Nat) (num : Int) (hl : Pl.long num = true) (s t l lv : Int) (st : Bool) (oa : Option Addr) (bn bc : Nat) (hbn : bn ≤ maxLen) (hp : ¬ Pl.pkOk s t l lv bn) (w : World) :
    Calls Tryd.prog 10 #[.pointer (some ⟨b, 0, none⟩), .int .i64 num, pkV s t l lv st (.slice oa bn bc)] w fun e w' => e = .returned (.tuple #[.bool false, .int .i64 (Pl.pkFault s t l lv bn)]) ∧ Below w.heap.size w w' := by
  have R := Lib.hid (fun y => rLong_any num y)
  rw [hl] at R
  have P := Lib.hid (fun y => refPk_any s t l lv st oa bn bc hbn y)
  have hf : Pl.pkFault s t l lv bn ≠ 0 := by rcases Pl.pkFault_bad hp with h | h <;> omega
  generalize Pl.pkFault s t l lv bn = f at *
  have d1 : (f == 0) = false := by simpa using hf
  clear hf hp
  go_enter Tryd.func10, Tryd.ntmps10
  go_wp2_with (first
    | (go_at_call 53; refine (R.out _).mono ?_; rintro e w' ⟨rfl, rfl⟩)
    | (go_at_call 54; refine (P.out _).mono ?_; rintro e w' ⟨rfl, k⟩))
  go_ret2
  exact ⟨rfl, ((Below.refl _ _).alloc (Nat.le_refl _) _).trans (k.mono (by simp))⟩
set_option maxRecDepth 100000 in
set_option maxHeartbeats 4000000 in
/-- behind the looks at number and packet -/
theorem rRingPut_ok (M b : Nat) (n top : Int) (v : Value) (L : List Itm) (num : Int) (hl : Pl.long num = true) (hn : 1 ≤ n ∧ n ≤ 64) (ht : -1 ≤ top ∧ top ≤ 1099511627776) (s t l lv : Int) (st : Bool) (oa : Option Addr) (bn bc : Nat) (hp : Pl.pkOk s t l lv bn) (hL : L.length ≤ 10000) (hLn : ∀ x ∈ L, 0 ≤ x.num ∧ x.num ≤ 1099511627776) (w : World) (hM : M ≤ w.heap.size) (h : RRng M w b n top v L) :
    Calls Tryd.prog 10 #[.pointer (some ⟨b, 0, none⟩), .int .i64 num, pkV s t l lv st (.slice oa bn bc)] w (RPutE M b n top v L ⟨num, false, s, t, l, lv, st, oa, bn, bc⟩ w) := by
  have R := Lib.hid (fun y => rLong_any num y)
  rw [hl] at R
  have hbn : bn ≤ maxLen := by have := hp.2.2.2.2.2.2.2.2; unfold maxLen; omega
  have P := Lib.hid (fun y => refPk_any s t l lv st oa bn bc hbn y)
  rw [Pl.pkFault_ok hp] at P
  obtain ⟨hnum1, hnum2⟩ := (Pl.long_iff num).1 hl
  obtain ⟨n1, n2⟩ := hn
  obtain ⟨t1, t2⟩ := ht
  have H := Lib.hid h
  have HLN := Lib.hid hLn
  clear h hp hl hLn
  go_enter Tryd.func10, Tryd.ntmps10
  go_upto_region 1 with fail
  have H0 := Lib.hid (show RPutAt M w v b n top v L w.heap.size ⟨num, false, s, t, l, lv, st, oa, bn, bc⟩ (w.alloc (.cells #[.int .i64 s, .int .i64 t, .int .i64 l, .int .i64 lv, .bool st, .slice oa bn bc] 36)) from ⟨H.out.below ((Below.refl _ _).alloc (Nat.le_refl _) _), obj_new _ _, (Keeps.refl _ _).alloc _, Nat.le_refl _⟩)
  refine abs_to (fun y => Hid (RPutAt M w v b n top v L w.heap.size ⟨num, false, s, t, l, lv, st, oa, bn, bc⟩ y)) H0 ?_
  clear H0
  obtain ⟨N, hNe⟩ : ∃ N, w.heap.size = N := ⟨_, rfl⟩
  have hMN : M ≤ N := by omega
  have hwN : w.heap.size ≤ N := by omega
  have hNw : N ≤ w.heap.size := by omega
  rw [hNe]
  clear hNe
  rintro y H0
  have p0 := obj_cell H0.out.pk (k := 0) rfl
  have p1 := obj_cell H0.out.pk (k := 1) rfl
  have p2 := obj_cell H0.out.pk (k := 2) rfl
  have p3 := obj_cell H0.out.pk (k := 3) rfl
  have p4 := obj_cell H0.out.pk (k := 4) rfl
  have p5 := obj_cell H0.out.pk (k := 5) rfl
  go_upto_region 7 with (first
    | (go_at_call 53; refine (R.out _).mono ?_; rintro e w' ⟨rfl, rfl⟩)
    | (go_at_call 54; refine (P.out _).mono ?_; rintro e y2 ⟨rfl, k2⟩; have H2 := Lib.hid (H0.out.below k2); clear k2))
  clear p0 p1 p2 p3 p4 p5 H0 P R
  have c0 : y2.cell? ⟨b, 0, none⟩ = some (.int .i64 n) := obj_cell H2.out.ring.at_ rfl
  have c1 : y2.cell? ⟨b, 1, none⟩ = some (.int .i64 top) := obj_cell H2.out.ring.at_ rfl
  have W1 : IntKind.i64.wrap (top - n) = top - n := by rw [IntKind.wrap_i64]; omega
  by_cases hold : num ≤ top - n
  · have HO := Lib.hid hold
    go_quiet (fail)
    go_wp2_with fail
    go_ret2
    exact ⟨false, 6, top, v, L, rfl, (H2.out.drewN _).ring, (H2.out.drewN _).fp, fun _ e => .inl e, .inl ⟨by have := HO.out; show num ≤ top - n; omega, rfl, rfl, rfl, rfl⟩⟩
  · have HO := Lib.hid hold
    go_quiet (fail)
    go_upto_region 9 with fail
    refine abs_to (fun y => Hid (RPutAt M w v b n top v L N ⟨num, false, s, t, l, lv, st, oa, bn, bc⟩ y)) (Lib.hid (H2.out.drewN _)) ?_
    clear H2 c0 c1
    rintro y3 H3
    have A1 := Lib.hid (rRingAt_any M b n top v L num (by omega) y3 H3.out.ring)
    go_upto_region 10 with (go_at_call 16; refine A1.out.mono ?_; rintro e w' ⟨k, rfl, hk, rfl⟩; have HK := Lib.hid hk; clear hk)
    clear A1
    rcases HK.out with ⟨rfl, hno⟩ | ⟨j, rfl, hj, hj1⟩
    · have HNO := Lib.hid hno
      clear hno HK hold W1
      go_upto_region 12 with fail
      have HA := Lib.hid (H3.out.below ((Below.refl _ _).alloc (Nat.le_refl _) (.cells (Itm.cells ⟨num, false, s, t, l, lv, st, oa, bn, bc⟩).toArray 44)))
      have HAD : Hid (RPutAt M w v b n top v L N ⟨num, false, s, t, l, lv, st, oa, bn, bc⟩ (y3.alloc (.cells (Itm.cells ⟨num, false, s, t, l, lv, st, oa, bn, bc⟩).toArray 44)).drew) := Lib.hid (HA.out.drewN 1)
      have RUN := Lib.hid (RecK.run_one itemK_ok (y3.alloc (.cells (Itm.cells ⟨num, false, s, t, l, lv, st, oa, bn, bc⟩).toArray 44)).drew M v ⟨num, false, s, t, l, lv, st, oa, bn, bc⟩ L HAD.out.ring.row y3.heap.size (obj_new _ _) (by omega) (by have := H3.out.fp.size; simp; omega))
      obtain ⟨vN, wN, hr, ho, hgr, hbk⟩ := RUN.out
      obtain ⟨gN, capN, rfl⟩ := Joins.ownsRow_form ho (by simp)
      have aN := HAD.out.ring.grown hgr
      have HRN := Lib.hid hr
      have AN := Lib.hid aN
      have HO' := Lib.hid ho
      have HGR := Lib.hid hgr
      have cN : wN.cell? ⟨b, 2, none⟩ = some v := obj_cell aN rfl
      have fN := obj_free aN 2
      have p0 := obj_cell H3.out.pk (k := 0) rfl
      have p1 := obj_cell H3.out.pk (k := 1) rfl
      have p2 := obj_cell H3.out.pk (k := 2) rfl
      have p3 := obj_cell H3.out.pk (k := 3) rfl
      have p4 := obj_cell H3.out.pk (k := 4) rfl
      have p5 := obj_cell H3.out.pk (k := 5) rfl
      have c2 : y3.cell? ⟨b, 2, none⟩ = some v := obj_cell H3.out.ring.at_ rfl
      have q0 := obj_cell HA.out.pk (k := 0) rfl
      have q1 := obj_cell HA.out.pk (k := 1) rfl
      have q2 := obj_cell HA.out.pk (k := 2) rfl
      have q3 := obj_cell HA.out.pk (k := 3) rfl
      have q4 := obj_cell HA.out.pk (k := 4) rfl
      have q5 := obj_cell HA.out.pk (k := 5) rfl
      have d2 : (y3.alloc (.cells (Itm.cells ⟨num, false, s, t, l, lv, st, oa, bn, bc⟩).toArray 44)).cell? ⟨b, 2, none⟩ = some v := obj_cell HA.out.ring.at_ rfl
      simp only [Itm.cells] at q0 q1 q2 q3 q4 q5 d2
      have RN : Hid (RRng M (wN.setCell ⟨b, 2, none⟩ (.slice (some ⟨gN, 0, none⟩) (L ++ [(⟨num, false, s, t, l, lv, st, oa, bn, bc⟩ : Itm)]).length capN)) b n top (.slice (some ⟨gN, 0, none⟩) (L ++ [(⟨num, false, s, t, l, lv, st, oa, bn, bc⟩ : Itm)]).length capN) (L ++ [(⟨num, false, s, t, l, lv, st, oa, bn, bc⟩ : Itm)])) := Lib.hid (RRng.put aN HAD.out.ring.low ho)
      have FN : Hid (RRFP b v w (wN.setCell ⟨b, 2, none⟩ (.slice (some ⟨gN, 0, none⟩) (L ++ [(⟨num, false, s, t, l, lv, st, oa, bn, bc⟩ : Itm)]).length capN))) := Lib.hid (Keeps.setCell (S := fun k => k = b ∨ v.ownBlock = some k) (⟨hgr.os.trans HAD.out.fp.os, hgr.tape.trans HAD.out.fp.tape, hgr.output.trans HAD.out.fp.output, Nat.le_trans HAD.out.fp.size hgr.size, fun j hj hne => (hgr.block j (Nat.lt_of_lt_of_le hj HAD.out.fp.size) (fun e => hne (.inr e.symm))).trans (HAD.out.fp.block j hj hne)⟩ : RRFP b v w wN) (.inl (.inl rfl)) _)
      rw [show (L ++ [(⟨num, false, s, t, l, lv, st, oa, bn, bc⟩ : Itm)]).length = L.length + 1 from by simp] at RN FN
      clear hr ho hgr hbk aN RUN
      go_cut [49] (fun _ z => ∃ vZ, Hid (RRng M z b n top vZ (L ++ [(⟨num, false, s, t, l, lv, st, oa, bn, bc⟩ : Itm)])) ∧ Hid (RRFP b v w z))
      case first =>
        go_region_law (first | (refine step_append_at rfl (.tmp 42) (.tmp 46) 31 31 rfl _ _ rfl rfl _ _ HRN.out ?_))
        all_goals
          go_wp2_with fail
          go_meet
          exact ⟨_, RN, FN⟩
      case rest =>
      clear RN FN cN fN HRN AN HO' HGR HA HAD p0 p1 p2 p3 p4 p5 q0 q1 q2 q3 q4 q5 c2 d2 H3
      obtain ⟨vZ, RN, FN⟩ := hcut
      obtain ⟨X, hX⟩ : ∃ X : Itm, X = ⟨num, false, s, t, l, lv, st, oa, bn, bc⟩ := ⟨_, rfl⟩
      have HXX := Lib.hid hX
      rw [← hX] at RN
      clear hX
      have hL1 : (L ++ [X]).length ≤ 10001 := by simp; omega
      have HLN1 := Lib.hid (show ∀ x ∈ L ++ [X], 0 ≤ x.num ∧ x.num ≤ 1099511627776 from fun x hx => by
        rcases List.mem_append.1 hx with hx | hx
        · exact HLN.out x hx
        · simp at hx; subst hx; rw [HXX.out]; exact ⟨hnum1, hnum2⟩)
      obtain ⟨L1, hL1e⟩ : ∃ L1, L1 = L ++ [X] := ⟨_, rfl⟩
      have HL1 := Lib.hid hL1e
      rw [← hL1e] at RN HLN1 hL1
      clear hL1e
      have c1 : wc.cell? ⟨b, 1, none⟩ = some (.int .i64 top) := obj_cell RN.out.at_ rfl
      have f1 := obj_free RN.out.at_ 1
      obtain ⟨T, hT⟩ : ∃ T, T = (if top < num then num else top) := ⟨_, rfl⟩
      have HT := Lib.hid hT
      clear hT
      have RT := Lib.hid (fun x => (RN.out.setTop (x := x)))
      have FT : Hid (∀ x, RRFP b v w (wc.setCell ⟨b, 1, none⟩ (.int .i64 x))) := Lib.hid (fun x => Keeps.setCell FN.out (.inl (.inl rfl)) _)
      go_upto_if 55 with fail
      go_cut [55] (fun _ z => Hid (RRng M z b n T vZ L1) ∧ Hid (RRFP b v w z))
      case first =>
        by_cases hd : top < num
        · have hT' := HT.out
          rw [if_pos hd] at hT'
          have R2 := Lib.hid (show RRng M (wc.setCell ⟨b, 1, none⟩ (.int .i64 num)) b n T vZ L1 from by rw [hT']; exact RT.out num)
          clear hT'
          go_wp2_with fail
          go_meet
          exact ⟨R2, Lib.hid (FT.out num)⟩
        · have hT' := HT.out
          rw [if_neg hd] at hT'
          have R2 := Lib.hid (show RRng M wc b n T vZ L1 from by rw [hT']; exact RN.out)
          clear hT'
          go_wp2_with fail
          go_meet
          exact ⟨R2, FN⟩
      case rest =>
      clear RN FN RT FT c1 f1
      obtain ⟨R2, F2⟩ := hcut
      obtain ⟨oZ, cZ, rfl, -⟩ := R2.out.row.read itemK_ok
      have hT1 : -1 ≤ T ∧ T ≤ 1099511627776 := by have := HT.out; split at this <;> omega
      obtain ⟨hT2, hT3⟩ := hT1
      obtain ⟨S0, hS0⟩ : ∃ S0, wc.heap.size = S0 := ⟨_, rfl⟩
      have HGL := Lib.hid (fun g' (e : (Value.slice oZ L1.length cZ).ownBlock = some g') => (R2.out.row.lt g' e).2)
      have HBL := Lib.hid (lt_of_block R2.out.at_)
      have hNS : w.heap.size ≤ S0 := by have := F2.out.size; omega
      have hsz0 : S0 ≤ wc.heap.size := by omega
      rw [hS0] at HGL HBL
      clear hS0
      go_upto_region 17 with fail
      go_loopw [11, 12] (fun s11 s12 wr => ∃ (k : Nat) (A : List Itm), k ≤ L1.length ∧ A.length ≤ k ∧ s12 = .int .i64 k ∧ Hid (A = (L1.take k).filter (fun y => decide (T - n < y.num))) ∧ Hid (itemK.Own wr S0 s11 A) ∧ S0 ≤ wr.heap.size ∧ Hid (RRng M wr b n T (.slice oZ L1.length cZ) L1) ∧ Hid (RRFP b v w wr)) (fun _ s12 _ => L1.length - (RowKit.intOf s12).toNat)
      case atStart => exact ⟨0, [], by omega, by simp, rfl, Lib.hid (by simp), Lib.hid (RecK.Own.nil _ _), hsz0, R2, F2⟩
      case round =>
        clear R2 F2 hsz0
        obtain ⟨k, A, hk, hA, rfl, HA, ro, hsz, R2, F2⟩ := hrel
        have c0 : wr.cell? ⟨b, 0, none⟩ = some (.int .i64 n) := obj_cell R2.out.at_ rfl
        have c1 : wr.cell? ⟨b, 1, none⟩ = some (.int .i64 T) := obj_cell R2.out.at_ rfl
        have c2 : wr.cell? ⟨b, 2, none⟩ = some (.slice oZ L1.length cZ) := obj_cell R2.out.at_ rfl
        have W1 : IntKind.i64.wrap (T - n) = T - n := by rw [IntKind.wrap_i64]; omega
        by_cases hlt : k < L1.length
        · obtain ⟨o', c', e', hrd⟩ := R2.out.row.read itemK_ok
          cases e'
          obtain ⟨g, rfl, _, hgl, q⟩ := hrd k L1[k] (by simp [hlt])
          have HTK := Lib.hid (take_next L1 k hlt)
          obtain ⟨x, hx⟩ : ∃ x, x = L1[k] := ⟨_, rfl⟩
          have q' := Lib.hid q
          rw [← hx] at HTK q'
          clear hx hrd q
          have HSM := Lib.hid (show ¬ T - n < x.num → A = (L1.take (k + 1)).filter (fun y => decide (T - n < y.num)) from fun h => by
            rw [HTK.out, List.filter_append, ← HA.out]; simp [h])
          have HMO := Lib.hid (show T - n < x.num → A ++ [x] = (L1.take (k + 1)).filter (fun y => decide (T - n < y.num)) from fun h => by
            rw [HTK.out, List.filter_append, ← HA.out]; simp [h])
          have q0 : wr.cell? ⟨g, k * 8, none⟩ = some (.int .i64 x.num) := q'.out 0 _ rfl
          by_cases hkp : T - n < x.num
          · have HA2 := Lib.hid (HMO.out hkp)
            go_upto_region 19 with fail
            go_quiet (fail)
            go_upto_region 20 with fail
            refine abs_to (fun z => Hid (itemK.Own z S0 u11 A) ∧ S0 ≤ z.heap.size ∧ Hid (RRng M z b n T (.slice (some ⟨g, 0, none⟩) L1.length cZ) L1) ∧ Hid (RRFP b v w z) ∧ (∀ (j : Nat) (u : Value), x.cells[j]? = some u → z.cell? ⟨g, k * 8 + j, none⟩ = some u)) ⟨Lib.hid (by exact ro.out), by exact hsz, Lib.hid ⟨by exact R2.out.at_, by exact R2.out.row, R2.out.low⟩, Lib.hid (Keeps.drewN F2.out _), fun j u hu => by exact q'.out j u hu⟩ ?_
            clear ro R2 F2 c0 c1 c2 q0 q' HSM HMO hsz
            rintro z ⟨ro, hsz, R2, F2, q⟩
            obtain ⟨xn, xg, xs, xt, xl, xlv, xst, xo, xbn, xbc⟩ := x
            have q0 : z.cell? ⟨g, k * 8, none⟩ = some (.int .i64 xn) := q 0 _ rfl
            have q1 : z.cell? ⟨g, k * 8 + 1, none⟩ = some (.bool xg) := q 1 _ rfl
            have q2 : z.cell? ⟨g, k * 8 + 2, none⟩ = some (.int .i64 xs) := q 2 _ rfl
            have q3 : z.cell? ⟨g, k * 8 + 3, none⟩ = some (.int .i64 xt) := q 3 _ rfl
            have q4 : z.cell? ⟨g, k * 8 + 4, none⟩ = some (.int .i64 xl) := q 4 _ rfl
            have q5 : z.cell? ⟨g, k * 8 + 5, none⟩ = some (.int .i64 xlv) := q 5 _ rfl
            have q6 : z.cell? ⟨g, k * 8 + 6, none⟩ = some (.bool xst) := q 6 _ rfl
            have q7 : z.cell? ⟨g, k * 8 + 7, none⟩ = some (.slice xo xbn xbc) := q 7 _ rfl
            have c2 : z.cell? ⟨b, 2, none⟩ = some (.slice (some ⟨g, 0, none⟩) L1.length cZ) := obj_cell R2.out.at_ rfl
            clear q
            have BA : Below z.heap.size z (z.alloc (.cells (Itm.cells ⟨xn, xg, xs, xt, xl, xlv, xst, xo, xbn, xbc⟩).toArray 44)) := (Below.refl _ _).alloc (Nat.le_refl _) _
            have roA := Lib.hid (ro.out.below BA)
            have RA := Lib.hid (R2.out.below BA)
            have FA := Lib.hid (Keeps.trans F2.out (Below.toKeeps BA (Nat.le_refl _)))
            have RUN := Lib.hid (RecK.run_one itemK_ok _ S0 u11 ⟨xn, xg, xs, xt, xl, xlv, xst, xo, xbn, xbc⟩ A roA.out z.heap.size (obj_new _ _) (by omega) (by simp; omega))
            have hgb : Hid (∀ g, u11.ownBlock = some g → S0 ≤ g) := Lib.hid (fun g e => (ro.out.lt g e).1)
            clear BA ro R2 F2
            go_upto_region 18 with (at_builtin; obtain ⟨vN, wN, hr, ho, hgr, hbk⟩ := RUN.out; obtain ⟨gN, capN, rfl⟩ := Joins.ownsRow_form ho (by simp); refine Lib.wpList_append_run _ rfl (.tmp 87) (.tmp 95) 31 31 rfl _ _ rfl rfl _ _ hr ?_)
            have e9 : (A ++ [(⟨xn, xg, xs, xt, xl, xlv, xst, xo, xbn, xbc⟩ : Itm)]).length = A.length + 1 := by simp
            rw [e9] at ho
            have RO9 : Hid (itemK.Own wN S0 (.slice (some ⟨gN, 0, none⟩) (A.length + 1) capN) (A ++ [(⟨xn, xg, xs, xt, xl, xlv, xst, xo, xbn, xbc⟩ : Itm)])) := Lib.hid ho
            have hs9 : S0 ≤ wN.heap.size := by have := hgr.size; simp at this; omega
            have F9 : Hid (RRFP b v w wN) := Lib.hid ⟨hgr.os.trans FA.out.os, hgr.tape.trans FA.out.tape, hgr.output.trans FA.out.output, Nat.le_trans FA.out.size hgr.size, fun j hj hne => (hgr.block j (Nat.lt_of_lt_of_le hj FA.out.size) (fun e => by have := hgb.out j e.symm; omega)).trans (FA.out.block j hj hne)⟩
            have R9 : Hid (RRng M wN b n T (.slice (some ⟨g, 0, none⟩) L1.length cZ) L1) := Lib.hid ⟨by
                have e := hgr.block b (lt_of_block RA.out.at_) (fun e => by have := hgb.out b e.symm; have := HBL.out; omega)
                have a := RA.out.at_
                unfold RRingAt at *
                rw [e]; exact a, RA.out.row.keep (fun g' hg' _ hl => hgr.block g' hl (fun e => by have := hgb.out g' e.symm; have := HGL.out g' hg'; omega)), RA.out.low⟩
            clear hr ho hgr hbk RUN roA RA FA hgb q0 q1 q2 q3 q4 q5 q6 q7 c2 e9
            go_wp2_with fail
            go_roundw
            case measure => simp [RowKit.intOf]; omega
            case rel => exact ⟨k + 1, _, by omega, by simp; omega, rfl, HA2, RO9, hs9, R9, F9⟩
          · have HA2 := Lib.hid (HSM.out hkp)
            go_upto_region 19 with fail
            go_quiet (fail)
            go_wp2_with fail
            go_roundw
            case measure => simp [RowKit.intOf]; omega
            case rel => exact ⟨k + 1, A, by omega, by omega, rfl, HA2, Lib.hid (by exact ro.out), by exact hsz, Lib.hid ⟨by exact R2.out.at_, by exact R2.out.row, R2.out.low⟩, Lib.hid (Keeps.drewN F2.out _)⟩
        · obtain rfl : k = L1.length := by omega
          rw [List.take_length] at HA
          have f2 := obj_free R2.out.at_ 2
          have PT := Lib.hid (RRng.put R2.out.at_ R2.out.low (World.ownsRow.mono ro.out (show M ≤ S0 by omega)))
          have FT : Hid (RRFP b v w (wr.setCell ⟨b, 2, none⟩ u11)) := Lib.hid (Keeps.setCell F2.out (.inl (.inl rfl)) _)
          have FIN := Lib.hid (show RPutE M b n top v L ⟨num, false, s, t, l, lv, st, oa, bn, bc⟩ w (.returned (.tuple #[.bool true, .int .i64 0])) (wr.setCell ⟨b, 2, none⟩ u11) from ⟨true, 0, T, u11, A, rfl, PT.out, FT.out, fun g e => .inr (by have := (ro.out.lt g e).1; omega), .inr (.inr ⟨by have := HO.out; show ¬ num ≤ top - n; omega, HNO.out, rfl, rfl, HT.out, by rw [HA.out, HL1.out, HXX.out]⟩)⟩)
          clear PT FT
          rcases Joins.ownsRow_forms ro.out with ⟨rfl, -⟩ | ⟨gN, capN, rfl⟩
          all_goals
            clear ro R2 F2
            go_wp2_with fail
            go_ret2
            exact FIN.out
    · have HX := Lib.hid (show ∃ x ∈ L, x.num = num from ⟨L[j], List.getElem_mem hj, hj1⟩)
      clear HK hj1
      go_wp2_with fail
      go_ret2
      exact ⟨false, 0, top, v, L, rfl, H3.out.ring, H3.out.fp, fun _ e => .inl e, .inr (.inl ⟨by have := HO.out; show ¬ num ≤ top - n; omega, HX.out, rfl, rfl, rfl, rfl⟩)⟩
end Go.Proofs.YthgdkakkbaoccaaDoor
