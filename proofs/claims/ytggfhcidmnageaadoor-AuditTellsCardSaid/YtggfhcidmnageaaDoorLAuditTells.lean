import Derived.Test.YtggfhcidmnageaaDoorHoles
import Derived.Test.YtggfhcidmnageaaDoorARow
import Derived.Test.YtggfhcidmnageaaDoorDelay
import Derived.Test.YtggfhcidmnageaaDoorRefPlaces
import Derived.Test.YtggfhcidmnageaaDoorRefPk
import Derived.Test.YtggfhcidmnageaaDoorErrV
import Derived.Test.YtggfhcidmnageaaDoorSlRows
import Derived.Test.YtggfhcidmnageaaDoorPAuditC
import Derived.Deep.CutBlock
/-! The walk of the law AuditTells. -/
namespace Go.Proofs.YtggfhcidmnageaaDoor
open Go.RowKit
set_option linter.unusedVariables false
set_option linter.unusedSimpArgs false
set_option maxRecDepth 100000 in
set_option maxHeartbeats 8000000 in
theorem walk_AuditTells_run (v1 v2 v3 v4 : Value) (S G : List Pk) (A B : List Int) (w : World) (h1 : IsPks w v1 S) (h2 : IsPks w v2 G) (h3 : IsInts w v3 A) (h4 : IsInts w v4 B) (hE : Env w) :
    Calls Tryd.prog 4 #[v1, v2, v3, v4] w fun e w' => e = .returned (.bool true) ∧ Below w.heap.size w w' := by
  obtain ⟨o1, c1, rfl, l1, m1, n1, -⟩ := pks_open h1
  obtain ⟨o2, c2, rfl, l2, m2, n2, -⟩ := pks_open h2
  obtain ⟨o3, c3, rfl, l3, r3⟩ := ints_read h3
  obtain ⟨o4, c4, rfl, l4, r4⟩ := ints_read h4
  unfold maxLen at m1 m2 l3 l4
  have R3 := Lib.hid (show ∀ y, Below w.heap.size w y → ∀ k, k < A.length → ∃ b f, o3 = some ⟨b, f, none⟩ ∧ y.cell? ⟨b, f + k, none⟩ = some (.int .i64 (A.getD k 0)) ∧ -9223372036854775808 ≤ A.getD k 0 ∧ A.getD k 0 ≤ 9223372036854775807 from fun y kk k hk => by
    obtain ⟨b, f, e, hb, q, z⟩ := r3 k hk
    exact ⟨b, f, e, (kk.cell (p := ⟨b, f + k, none⟩) hb).trans q, z⟩)
  have R4 := Lib.hid (show ∀ y, Below w.heap.size w y → ∀ k, k < B.length → ∃ b f, o4 = some ⟨b, f, none⟩ ∧ y.cell? ⟨b, f + k, none⟩ = some (.int .i64 (B.getD k 0)) ∧ -9223372036854775808 ≤ B.getD k 0 ∧ B.getD k 0 ≤ 9223372036854775807 from fun y kk k hk => by
    obtain ⟨b, f, e, hb, q, z⟩ := r4 k hk
    exact ⟨b, f, e, (kk.cell (p := ⟨b, f + k, none⟩) hb).trans q, z⟩)
  have H2 := Lib.hid (show IsPks w (.slice o2 G.length c2) G from h2)
  have RW := Lib.hid (fun y (k : Below w.heap.size w y) => auditRow_any _ G y (IsPks.below h2 k))
  have RPW := Lib.hid (fun y (k : Below w.heap.size w y) => refPlaces_any _ _ S G y (IsPks.below h1 k) (IsPks.below h2 k))
  have CW := Lib.hid (fun y (k : Below w.heap.size w y) => auditCheck_any _ _ S G y (IsPks.below h1 k) (IsPks.below h2 k))
  have HW := Lib.hid (fun y (k : Below w.heap.size w y) => auditHoles_any _ _ S G y (IsPks.below h1 k) (IsPks.below h2 k))
  have DW := Lib.hid (fun y (k : Below w.heap.size w y) => auditDelay_any _ _ A B y (IsInts.below h3 k) (IsInts.below h4 k))
  have ES := Lib.hid (fun (j : Int) y (k : Below w.heap.size w y) => error_same j y (hE.below k))
  clear h1 h2 h3 h4 n1 n2 r3 r4 hE
  obtain ⟨N, hN⟩ : ∃ N, N = w.heap.size := ⟨_, rfl⟩
  have HN := Lib.hid hN
  rw [← hN] at RW RPW CW HW DW ES R3 R4
  clear hN
  have UP := Lib.hid (show ∀ y z, Below N w y → Below y.heap.size y z → Below N w z from fun y z a b => a.trans (b.mono (by rw [HN.out]; rw [HN.out] at a; exact a.size)))
  go_enter Tryd.func4, Tryd.ntmps4
  go_upto_if 33 with fail
  obtain ⟨e0, he0⟩ : ∃ e0 : Int, (if 1000 < G.length then (4 : Int) else 0) = e0 := ⟨_, rfl⟩
  have RS0 := Lib.hid (show Pl.RowSt G 0 e0 0 by rw [← he0]; exact Pl.RowSt.start G)
  go_cut [9] from 31 to 34 (fun v z => v = .int .i64 e0 ∧ w = z)
  case first =>
    by_cases q : 1000 < G.length
    · rw [if_pos q] at he0
      subst he0
      go_wp2_with fail
      go_meet
      exact ⟨rfl, rfl⟩
    · rw [if_neg q] at he0
      subst he0
      go_wp2_with fail
      go_meet
      exact ⟨rfl, rfl⟩
  case rest =>
  clear he0
  obtain ⟨rfl, rfl⟩ := hcut
  go_upto_block 0 with fail
  go_cut [9, 10, 11] from 34 to 74 (fun v9 v10 _ z => ∃ e a : Int, v9 = .int .i64 e ∧ v10 = .int .i64 a ∧ Hid (Pl.RowR G a e) ∧ Hid (Below N w z))
  case first =>
   go_upto_region 6 with fail
   go_loopw [9, 10, 11] (fun s9 s10 s11 wr => ∃ (i : Nat) (e a : Int), i ≤ G.length ∧ s11 = .int .i64 i ∧ s9 = .int .i64 e ∧ s10 = .int .i64 a ∧ Hid (Pl.RowSt G i e a) ∧ Hid (Below N w wr)) (fun _ _ s11 _ => G.length - (intOf s11).toNat)
   case atStart => exact ⟨0, e0, 0, by omega, rfl, rfl, rfl, RS0, Lib.hid (by rw [HN.out]; exact Below.refl _ _)⟩
   case round =>
     clear RS0
     obtain ⟨i, e, a, hi, rfl, rfl, rfl, RS, KB⟩ := hrel
     by_cases hgo : i < G.length ∧ e = 0
     · obtain ⟨hlt, rfl⟩ := hgo
       obtain ⟨_, _, e, -, -, -, rd⟩ := pks_open (IsPks.below H2.out (by rw [← HN.out]; exact KB.out))
       cases e
       obtain ⟨b, o, rfl, hb, q0, q1, q2, q3, q4, q5, gd⟩ := rd i hlt
       have RP := Lib.hid (show i ≠ 0 → ∃ q : Pk, G[i - 1]? = some q ∧ wr.cell? ⟨b, o + (i - 1) * 6, none⟩ = some (.int .i64 q.s) from fun h0 => by
         obtain ⟨b', o', e, -, r0, -⟩ := rd (i - 1) (by omega)
         cases e
         exact ⟨_, List.getElem?_eq_getElem (by omega), r0⟩)
       have HGi := Lib.hid (show G[i]? = some G[i] from List.getElem?_eq_getElem hlt)
       have GD := Lib.hid gd.2.2.2.2
       clear rd gd
       generalize G[i] = g at *
       obtain ⟨x0, x1, x2, x3, x4, x5, x6⟩ := g
       dsimp only at q0 q1 q2 q3 q4 q5 GD
       obtain ⟨ob, cb, rfl, hxm⟩ := bytes_slice GD.out
       have CK := Lib.hid (refPk_any x0 x1 x2 x3 x4 ob x6.length cb hxm wr)
       obtain ⟨f, hf⟩ : ∃ f, Pl.pkFault x0 x1 x2 x3 x6.length = f := ⟨_, rfl⟩
       rw [hf] at CK
       have HF := Lib.hid hf
       clear hf hxm GD
       go_upto_region 9 with (go_at_call 11; (with_reducible refine CK.out.mono ?_); rintro e z ⟨rfl, k⟩; have K := Lib.hid (UP.out _ _ KB.out k); have KK := Lib.hid k; clear k)
       have p0 := (KK.out.cell (p := ⟨b, o + i * 6, none⟩) (Sl.lt q0)).trans q0
       clear q0 q1 q2 q3 q4 q5 KB CK
       have i5 : (0 : Int) ≤ (i : Int) := by omega
       have i6 : (i : Int) < (G.length : Int) := by omega
       by_cases h0 : f = 0
       case neg =>
         have RS2 := Lib.hid (RS.out.bad hlt ((Pl.rowF_bad HGi.out (by rw [HF.out]; exact h0)).trans HF.out) h0)
         have d1 : (f == 0) = false := by simpa using h0
         have d2 : (f != 0) = true := by simpa using h0
         clear h0 RP
         go_quiet (fail)
         go_wp2_with fail
         go_roundw
         case measure => simp [intOf]; omega
         case rel => exact ⟨i + 1, f, i, by omega, by go_num, rfl, rfl, RS2, Lib.hid (Below.drewN K.out _)⟩
       subst h0
       by_cases hi0 : i = 0
       · subst hi0
         have RS2 := Lib.hid (RS.out.good (Pl.rowF_zero HGi.out HF.out))
         clear RP
         go_quiet (fail)
         go_wp2_with fail
         go_roundw
         case measure => simp [intOf]; omega
         case rel => exact ⟨1, 0, a, by omega, rfl, rfl, rfl, RS2, Lib.hid (Below.drewN K.out _)⟩
       · obtain ⟨q, hq, rq⟩ := RP.out hi0
         have HQ := Lib.hid hq
         have rz := (KK.out.cell (p := ⟨b, o + (i - 1) * 6, none⟩) (Sl.lt rq)).trans rq
         have HP := Lib.hid (Pl.rowF_prev hq (RS.out.zero.2.2 (i - 1) (by omega)))
         clear rq hq RP
         obtain ⟨qs, hqs⟩ : ∃ qs, q.s = qs := ⟨_, rfl⟩
         have b1 : 0 ≤ qs ∧ qs ≤ 65535 := by have := Pl.pkFault_zero.1 HP.out; rw [hqs] at this; exact ⟨this.1, this.2.1⟩
         rw [hqs] at rz
         have HQS := Lib.hid hqs
         clear hqs
         obtain ⟨b1, b2⟩ := b1
         have i1 : (0 : Int) ≤ ((i - 1 : Nat) : Int) := by omega
         have i2 : ((i - 1 : Nat) : Int) < (G.length : Int) := by omega
         have i4 : IntKind.i64.wrap ((i : Int) - 1) = ((i - 1 : Nat) : Int) := by rw [IntKind.wrap_i64]; omega
         have i3 : (0 : Int) < (i : Int) := by omega
         have i0 : 0 < i := by omega
         have i9 : decide ((0 : Int) < (i : Int)) = true := by simp; omega
         have i7 : IntKind.i64.wrap (qs + 1) = qs + 1 := by rw [IntKind.wrap_i64]; omega
         have i8 : (qs + 1).tmod 65536 = (qs + 1) % 65536 := Int.tmod_eq_emod_of_nonneg (by omega)
         by_cases hx : x0 = (qs + 1) % 65536
         · have RS2 := Lib.hid (RS.out.good (Pl.rowF_ok (by omega) HGi.out HF.out HQ.out (by rw [HQS.out]; exact hx)))
           have d1 : (x0 == (qs + 1) % 65536) = true := by simpa using hx
           have d2 : (x0 != (qs + 1) % 65536) = false := by simpa using hx
           clear hx
           go_quiet (fail)
           go_wp2_with fail
           go_roundw
           case measure => simp [intOf]; omega
           case rel => exact ⟨i + 1, 0, a, by omega, by go_num, rfl, rfl, RS2, Lib.hid (Below.drewN K.out _)⟩
         · have RS2 := Lib.hid (RS.out.bad hlt (Pl.rowF_gap (by omega) HGi.out HF.out HQ.out (by rw [HQS.out]; exact hx)) (by decide))
           have d1 : (x0 == (qs + 1) % 65536) = false := by simpa using hx
           have d2 : (x0 != (qs + 1) % 65536) = true := by simpa using hx
           clear hx
           go_quiet (fail)
           go_wp2_with fail
           go_roundw
           case measure => simp [intOf]; omega
           case rel => exact ⟨i + 1, 3, i, by omega, by go_num, rfl, rfl, RS2, Lib.hid (Below.drewN K.out _)⟩
     · have RR := Lib.hid (RS.out.done hi hgo)
       have hcase : ¬ i < G.length ∨ (i < G.length ∧ e ≠ 0) := by
         by_cases q2 : i < G.length
         · exact .inr ⟨q2, fun q => hgo ⟨q2, q⟩⟩
         · exact .inl q2
       clear hgo RS
       rcases hcase with q | ⟨q, q2⟩
       · go_wp2_with fail
         go_meet
         exact ⟨e, a, rfl, rfl, RR, KB⟩
       · have d : (e == 0) = false := by simp [q2]
         clear q2
         go_wp2_with fail
         go_meet
         exact ⟨e, a, rfl, rfl, RR, KB⟩

  case rest =>
  clear RS0
  obtain ⟨e, a, rfl, rfl, RR, KB⟩ := hcut
  have CRW := Lib.hid (fun y (k : Below N w y) => (RW.out y k).mono (R' := fun r w' => r = .returned (.tuple #[.int .i64 a, errV e]) ∧ Below y.heap.size y w') (fun r w' ⟨a', f', h1, h2, h3⟩ => by
    obtain ⟨rfl, rfl⟩ := h2.eq RR.out
    exact ⟨h1, h3⟩))
  clear RR RW
  go_upto_region 17 with (first
    | (go_at_call 10; (with_reducible refine (CRW.out _ KB.out).mono ?_); rintro r z1 ⟨rfl, k⟩; have K1 := Lib.hid (UP.out _ _ KB.out k); clear k)
    | (go_at_call 7; (with_reducible refine (ES.out e _ K1.out).mono ?_); rintro r z2 ⟨rfl, k⟩; have K2 := Lib.hid (UP.out _ _ K1.out k); clear k))
  clear CRW KB K1
  go_upto_region 18 with (go_at_call 12; (with_reducible refine (RPW.out _ K2.out).mono ?_); rintro r z3 ⟨v, c, at_, f, rfl, hp, ro, k⟩; have PR := Lib.hid hp; have RO := Lib.hid ro; have K3 := Lib.hid (UP.out _ _ K2.out k); clear hp ro k)
  have CCW := Lib.hid (fun y (k : Below N w y) => (CW.out y k).mono (R' := fun r w' => r = .returned (.tuple #[.int .i64 at_, errV f]) ∧ Below y.heap.size y w') (fun r w' ⟨c', a', f', h1, h2, h3⟩ => by
    obtain ⟨rfl, rfl, rfl⟩ := h2.eq PR.out
    exact ⟨h1, h3⟩))
  have HHW := Lib.hid (fun y (k : Below N w y) => (HW.out y k).mono (R' := fun r w' => ∃ v', r = .returned (.tuple #[v', errV f]) ∧ IRow w' y.heap.size v' (Pl.hol c c.length) ∧ Below y.heap.size y w') (fun r w' ⟨v', c', a', f', h1, h2, h3, h4⟩ => by
    obtain ⟨rfl, rfl, rfl⟩ := h2.eq PR.out
    exact ⟨v', h1, h3, h4⟩))
  clear CW HW RPW K2
  go_upto_region 22 with (first
    | (go_at_call 6; (with_reducible refine (CCW.out _ K3.out).mono ?_); rintro r z4 ⟨rfl, k⟩; have K4 := Lib.hid (UP.out _ _ K3.out k); have RO4 := Lib.hid (RO.out.below k); clear k)
    | (go_at_call 7; (with_reducible refine (ES.out f _ K4.out).mono ?_); rintro r z5 ⟨rfl, k⟩; have K5 := Lib.hid (UP.out _ _ K4.out k); have RO5 := Lib.hid (RO4.out.below k); clear k))
  clear CCW K3 K4 RO RO4
  obtain ⟨bd, hcl⟩ := PR.out.bd
  obtain ⟨oa, cap, rfl, rd⟩ := intRow_read RO5.out
  have RD := Lib.hid (show ∀ k, k < c.length → ∃ g, oa = some ⟨g, 0, none⟩ ∧ g < z5.heap.size ∧ z5.cell? ⟨g, k, none⟩ = some (.int .i64 (c.getD k 0 : Nat)) from fun k hk => by
    obtain ⟨g, e, -, h2, h3⟩ := rd k (c.getD k 0 : Nat) (by simp [Pl.ci, List.getD, hk])
    exact ⟨g, e, h2, h3⟩)
  have BD := Lib.hid (show ∀ k, c.getD k 0 < 1000 from fun k => by
    by_cases hk : k < c.length
    · have := bd c[k] (List.getElem_mem hk); simpa [List.getD, hk] using this
    · simp [List.getD, hk])
  rw [Pl.ci_len]
  clear rd bd RO5 PR
  obtain ⟨n, hn⟩ : ∃ n, c.length = n := ⟨_, rfl⟩
  have HNC := Lib.hid hn
  rw [hn] at RD hcl ⊢
  clear hn
  go_upto_block 2 with fail
  go_cut [17, 18] from 112 to 132 (fun v17 _ z => Hid (IRow z z5.heap.size v17 (Pl.hol c c.length)) ∧ Hid (Below z5.heap.size z5 z))
  case first =>
   go_upto_region 24 with fail
   go_loopw [17, 18] (fun s17 s18 wr => ∃ i : Nat, 1 ≤ i ∧ (i ≤ n ∨ i = 1) ∧ s18 = .int .i64 i ∧ Hid (IRow wr z5.heap.size s17 (Pl.hol c i)) ∧ Hid (Below z5.heap.size z5 wr)) (fun _ s18 _ => n - (intOf s18).toNat)
   case atStart => exact ⟨1, by omega, .inr rfl, rfl, Lib.hid (IRow.nil _ _), Lib.hid (Below.refl _ _)⟩
   case round =>
    obtain ⟨i, h1, hi, rfl, RO, KZ⟩ := hrel
    by_cases hlt : i < n
    · obtain ⟨g, rfl, hg, q0⟩ := RD.out i hlt
      obtain ⟨g', e, -, q1⟩ := RD.out (i - 1) (by omega)
      cases e
      have q0 := (KZ.out.cell (p := ⟨g, i, none⟩) hg).trans q0
      have q1 := (KZ.out.cell (p := ⟨g, i - 1, none⟩) hg).trans q1
      have b0 := BD.out i
      have b1 := BD.out (i - 1)
      have HS := Lib.hid (Pl.hol_step c i h1)
      have hlen : (Pl.hol c i).length ≤ 1000 := by rw [Pl.hol_len]; omega
      generalize c.getD i 0 = x at *
      generalize c.getD (i - 1) 0 = y at *
      have hzr := KZ.out.size
      obtain ⟨gN, capN, wN, hr, ro, kn⟩ : ∃ gN capN wN, (Builtin.append_ #[22, 22] 22 #[u17, .slice (some ⟨wr.heap.size, 0, none⟩) 1 1]).run Tryd.prog (wr.alloc (.cells #[.int .i64 ((x : Int) - y - 1)] 3)).drew = .ok (.slice (some ⟨gN, 0, none⟩) ((Pl.hol c i).length + 1) capN) wN ∧ IRow wN z5.heap.size (.slice (some ⟨gN, 0, none⟩) ((Pl.hol c i).length + 1) capN) (Pl.hol c i ++ [(x : Int) - y - 1]) ∧ Below z5.heap.size z5 wN := IRow.more (RO.out.below (Below.drewN (Below.refl _ _) 1)) ((x : Int) - y - 1) (by omega) (Below.drewN KZ.out 1) (Nat.le_refl _)
      have HRN := Lib.hid hr
      have RON := Lib.hid ro
      have KZN := Lib.hid kn
      clear hr ro kn
      have q0a : (wr.alloc (.cells #[.int .i64 ((x : Int) - y - 1)] 3)).cell? ⟨g, i, none⟩ = some (.int .i64 (x : Nat)) := by rw [← q0]; exact (Below.alloc (Below.refl _ _) (Nat.le_refl _) _).cell (by show g < _; omega)
      have q1a : (wr.alloc (.cells #[.int .i64 ((x : Int) - y - 1)] 3)).cell? ⟨g, i - 1, none⟩ = some (.int .i64 (y : Nat)) := by rw [← q1]; exact (Below.alloc (Below.refl _ _) (Nat.le_refl _) _).cell (by show g < _; omega)
      have i1 : (0 : Int) ≤ ((i - 1 : Nat) : Int) := by omega
      have i2 : ((i - 1 : Nat) : Int) < (n : Int) := by omega
      have i4 : IntKind.i64.wrap ((i : Int) - 1) = ((i - 1 : Nat) : Int) := by rw [IntKind.wrap_i64]; omega
      have i5 : (0 : Int) ≤ (i : Int) := by omega
      have i6 : (i : Int) < (n : Int) := by omega
      have i7 : IntKind.i64.wrap ((x : Int) - y) = (x : Int) - y := by rw [IntKind.wrap_i64]; omega
      have i8 : IntKind.i64.wrap ((x : Int) - y - 1) = (x : Int) - y - 1 := by rw [IntKind.wrap_i64]; omega
      go_upto_region 26 with fail
      go_region_law (first | (refine step_append_at rfl (.tmp 118) (.tmp 130) 22 22 rfl _ _ rfl rfl _ _ HRN.out ?_))
      all_goals
        go_wp2_with fail
        go_roundw
        case measure => simp [intOf]; omega
        case rel => exact ⟨i + 1, by omega, by omega, by go_num, Lib.hid (by rw [HS.out]; exact RON.out), KZN⟩
    · have HL := Lib.hid (show Pl.hol c i = Pl.hol c c.length by
        rcases hi with h | h
        · rw [HNC.out, show i = n by omega]
        · rw [Pl.hol_nil c i (by omega), Pl.hol_nil c c.length (by rw [HNC.out]; omega)])
      go_wp2_with fail
      go_meet
      exact ⟨by rw [← HL.out]; exact RO, KZ⟩
  case rest =>
  clear RD BD HNC
  obtain ⟨RO6, KZ⟩ := hcut
  have K6 := Lib.hid (UP.out _ _ K5.out KZ.out)
  clear KZ K5
  go_upto_region 30 with (first
    | (go_at_call 8; (with_reducible refine (HHW.out _ K6.out).mono ?_); rintro r z7 ⟨v7, rfl, ro, k⟩; have K7 := Lib.hid (UP.out _ _ K6.out k); have RO7 := Lib.hid ro; have RO6b := Lib.hid (RO6.out.below k); clear k ro)
    | (go_at_call 7; (with_reducible refine (ES.out f _ K7.out).mono ?_); rintro r z8 ⟨rfl, k⟩; have K8 := Lib.hid (UP.out _ _ K7.out k); have RO8 := Lib.hid (RO7.out.below k); have RO6c := Lib.hid (RO6b.out.below k); clear k)
    | (go_at_call 9; (with_reducible refine (sameInts_eq _ _ _ _ RO8.out.sl RO6c.out.sl).mono ?_); rintro r z9 ⟨rfl, n9, rfl⟩; have K9 := Lib.hid (Below.drewN K8.out n9)))
  clear HHW K6 K7 K8 RO6 RO6b RO6c RO7 RO8
  generalize z8.drewN n9 = z9 at *
  obtain ⟨d0, hd0⟩ : ∃ d0, Pl.del0 A B = d0 := ⟨_, rfl⟩
  have DS0 := Lib.hid (show Pl.DelSt A B 0 d0 0 0 by rw [← hd0]; exact Pl.DelSt.start A B)
  unfold Pl.del0 at hd0
  go_upto_region 31 with fail
  go_cut [151] from 144 to 152 (fun v z => v = .bool (decide (1000 < A.length ∨ 1000 < B.length)) ∧ z9 = z)
  case first =>
    by_cases q1 : 1000 < A.length
    · have HX := Lib.hid (show true = decide (1000 < A.length ∨ 1000 < B.length) from (decide_eq_true (.inl q1)).symm)
      go_wp2_with fail
      go_meet
      exact ⟨by rw [← HX.out], rfl⟩
    · by_cases q2 : 1000 < B.length
      · have HX := Lib.hid (show true = decide (1000 < A.length ∨ 1000 < B.length) from (decide_eq_true (.inr q2)).symm)
        go_wp2_with fail
        go_meet
        exact ⟨by rw [← HX.out]; congr 1; simp; omega, rfl⟩
      · have HX := Lib.hid (show false = decide (1000 < A.length ∨ 1000 < B.length) from (decide_eq_false (by omega)).symm)
        go_wp2_with fail
        go_meet
        exact ⟨by rw [← HX.out]; congr 1; simp; omega, rfl⟩
  case rest =>
  obtain ⟨rfl, rfl⟩ := hcut
  obtain ⟨m, hm⟩ : ∃ m, decide (1000 < A.length ∨ 1000 < B.length) = m := ⟨_, rfl⟩
  have HM := Lib.hid hm
  rw [hm]
  clear hm
  go_upto_if 151 with fail
  go_cut [9] from 152 to 160 (fun v z => v = .int .i64 d0 ∧ z9 = z)
  case first =>
    cases m
    case true =>
      rw [if_pos (of_decide_eq_true HM.out)] at hd0
      subst hd0
      go_wp2_with fail
      go_meet
      exact ⟨rfl, rfl⟩
    have q := of_decide_eq_false HM.out
    rw [if_neg q] at hd0
    have q1 : A.length ≤ 1000 := by omega
    have q2 : B.length ≤ 1000 := by omega
    clear q
    by_cases q : A.length = B.length
    case neg =>
      rw [if_pos q] at hd0
      subst hd0
      have e1 : ((A.length : Int) == (B.length : Int)) = false := by simp; omega
      have e2 : ((A.length : Int) != (B.length : Int)) = true := by simp; omega
      go_wp2_with fail
      go_meet
      exact ⟨rfl, rfl⟩
    rw [if_neg (fun h => h q)] at hd0
    have e1 : ((A.length : Int) == (B.length : Int)) = true := by simp; omega
    have e2 : ((A.length : Int) != (B.length : Int)) = false := by simp; omega
    clear q
    by_cases q : A.length = 0
    · rw [if_pos q] at hd0
      subst hd0
      have e3 : ((A.length : Int) == 0) = true := by rw [beq_iff_eq]; omega
      clear q
      go_wp2_with fail
      go_meet
      exact ⟨rfl, rfl⟩
    · rw [if_neg q] at hd0
      subst hd0
      have e3 : ((A.length : Int) == 0) = false := by rw [beq_eq_false_iff_ne]; omega
      clear q
      go_wp2_with fail
      go_meet
      exact ⟨rfl, rfl⟩
  case rest =>
  clear hd0 HM
  obtain ⟨rfl, rfl⟩ := hcut
  go_upto_block 4 with fail
  go_cut [9, 22, 23, 24, 25, 26, 27] from 160 to 216 (fun v9 v22 v23 _ _ _ _ z => ∃ e x y : Int, v9 = .int .i64 e ∧ v22 = .int .i64 x ∧ v23 = .int .i64 y ∧ Hid (Pl.DelayR A B (if e = 0 then x else 0) (if e = 0 then y else 0) e) ∧ Hid (Below N w z))
  case first =>
   go_upto_region 40 with fail
   go_loopw [9, 22, 23, 24] (fun s9 s22 s23 s24 wr => ∃ (i : Nat) (e x y : Int), i ≤ A.length ∧ s24 = .int .i64 i ∧ s9 = .int .i64 e ∧ s22 = .int .i64 x ∧ s23 = .int .i64 y ∧ Hid (Pl.DelSt A B i e x y) ∧ Hid (Below N w wr)) (fun _ _ _ s24 _ => A.length - (intOf s24).toNat)
   case atStart => exact ⟨0, d0, 0, 0, by omega, rfl, rfl, rfl, rfl, DS0, K9⟩
   case round =>
    clear DS0 K9
    obtain ⟨i, e, x, y, hi, rfl, rfl, rfl, rfl, DS, KB⟩ := hrel
    by_cases hgo : i < A.length ∧ e = 0
    · obtain ⟨hlt, rfl⟩ := hgo
      have hz := DS.out.zero
      obtain ⟨hl1, hl2, hl3, hl4⟩ := Pl.del0_zero hz.1
      have hltb : i < B.length := by omega
      clear hz hl4 hl1 hl2 hl3
      obtain ⟨b1, f1, rfl, q1, z1, z2⟩ := R3.out wr KB.out i hlt
      obtain ⟨b2, f2, rfl, q2, z3, z4⟩ := R4.out wr KB.out i hltb
      have i5 : (0 : Int) ≤ (i : Int) := by omega
      have i6 : (i : Int) < (A.length : Int) := by omega
      have i7 : (i : Int) < (B.length : Int) := by omega
      have HD := Lib.hid (show ∀ f : Int, (if A.getD i 0 < 0 ∨ 1000000 < A.getD i 0 ∨ B.getD i 0 < 0 ∨ 1000000 < B.getD i 0 then (1 : Int) else if B.getD i 0 < A.getD i 0 then 6 else 0) = f → Pl.delF A B i = f from fun f h => h)
      have HC := Lib.hid (show ∀ y, Below N w y → y.cell? ⟨b1, f1 + i, none⟩ = some (.int .i64 (A.getD i 0)) ∧ y.cell? ⟨b2, f2 + i, none⟩ = some (.int .i64 (B.getD i 0)) from fun y k => by
        obtain ⟨b, f, e, r, -⟩ := R3.out y k i hlt
        cases e
        obtain ⟨b', f', e', r', -⟩ := R4.out y k i hltb
        cases e'
        exact ⟨r, r'⟩)
      have NXf := Lib.hid (show ∀ d f : Int, Pl.delF A B i = f → (f = 0 → d = B.getD i 0 - A.getD i 0) → Pl.DelSt A B (i + 1) f (if i = 0 ∨ d < x then d else x) (if y < d then d else y) from fun d f h1 h2 => DS.out.next hlt h1 h2)
      obtain ⟨av, hav⟩ : ∃ av, A.getD i 0 = av := ⟨_, rfl⟩
      obtain ⟨bv, hbv⟩ : ∃ bv, B.getD i 0 = bv := ⟨_, rfl⟩
      rw [hav] at q1 z1 z2 HD HC NXf
      rw [hbv] at q2 z3 z4 HD HC NXf
      clear hav hbv DS
      obtain ⟨f, hf⟩ : ∃ f : Int, (if av < 0 ∨ 1000000 < av ∨ bv < 0 ∨ 1000000 < bv then (1 : Int) else if bv < av then 6 else 0) = f := ⟨_, rfl⟩
      have HDf := Lib.hid (HD.out f hf)
      obtain ⟨ta, hta⟩ : ∃ ta, Pl.timeB av = ta := ⟨_, rfl⟩
      obtain ⟨tb, htb⟩ : ∃ tb, Pl.timeB bv = tb := ⟨_, rfl⟩
      have TA := Lib.hid (fun y => rTime_any av y)
      have TB := Lib.hid (fun y => rTime_any bv y)
      rw [hta] at TA
      rw [htb] at TB
      have HTA := Lib.hid (show ta = true ↔ 0 ≤ av ∧ av ≤ 1000000 by rw [← hta]; exact Pl.timeB_iff av)
      have HTB := Lib.hid (show tb = true ↔ 0 ≤ bv ∧ bv ≤ 1000000 by rw [← htb]; exact Pl.timeB_iff bv)
      clear hta htb HD
      go_upto_region 43 with (go_at_call 13; (with_reducible refine (TA.out _).mono ?_); rintro r z ⟨rfl, rfl⟩)
      go_upto_region 44 with (go_at_call 13; (with_reducible refine (TB.out _).mono ?_); rintro r z ⟨rfl, rfl⟩)
      go_cut [185] from 180 to 186 (fun v z => v = .bool (!(ta && tb)) ∧ wr = z)
      case first =>
        cases ta <;> cases tb
        all_goals
          go_wp2_with fail
          go_meet
          exact ⟨rfl, rfl⟩
      case rest =>
      obtain ⟨rfl, rfl⟩ := hcut
      obtain ⟨m, hm⟩ : ∃ m, (!(ta && tb)) = m := ⟨_, rfl⟩
      have HMM := Lib.hid (show m = false → 0 ≤ av ∧ av ≤ 1000000 ∧ 0 ≤ bv ∧ bv ≤ 1000000 from fun h => by
        rw [h] at hm
        have : ta = true ∧ tb = true := by simpa using hm
        have a1 := HTA.out.1 this.1
        have a2 := HTB.out.1 this.2
        omega)
      have HMT := Lib.hid (show m = true → av < 0 ∨ 1000000 < av ∨ bv < 0 ∨ 1000000 < bv from fun h => by
        rw [h] at hm
        by_cases a1 : 0 ≤ av ∧ av ≤ 1000000
        · by_cases a2 : 0 ≤ bv ∧ bv ≤ 1000000
          · rw [HTA.out.2 a1, HTB.out.2 a2] at hm; cases hm
          · omega
        · omega)
      rw [hm]
      clear hm
      go_upto_if 185 with fail
      go_cut [9] from 186 to 195 (fun v z => v = .int .i64 f ∧ ∃ n, z = wr.drewN n)
      case first =>
        cases m
        · have hb := HMM.out rfl
          rw [if_neg (by omega)] at hf
          clear hb
          by_cases hba : bv < av
          · rw [if_pos hba] at hf
            subst hf
            go_upto_region 46 with fail
            go_quiet (fail)
            go_wp2_with fail
            go_meet
            exact ⟨rfl, _, rfl⟩
          · rw [if_neg hba] at hf
            subst hf
            have hba2 : av ≤ bv := by omega
            go_upto_region 46 with fail
            go_quiet (fail)
            go_wp2_with fail
            go_meet
            exact ⟨rfl, _, rfl⟩
        · rw [if_pos (HMT.out rfl)] at hf
          subst hf
          go_wp2_with fail
          go_meet
          exact ⟨rfl, 0, rfl⟩
      case rest =>
      obtain ⟨rfl, n2, rfl⟩ := hcut
      have K2 := Lib.hid (Below.drewN KB.out n2)
      clear q1 q2 KB HMT HTA HTB TA TB
      generalize wr.drewN n2 = y2 at *
      obtain ⟨q1, q2⟩ := HC.out _ K2.out
      obtain ⟨d, hd⟩ : ∃ d, IntKind.i64.wrap (bv - av) = d := ⟨_, rfl⟩
      have HDD := Lib.hid (show f = 0 → d = bv - av from fun h => by
        rw [h] at hf
        by_cases q : av < 0 ∨ 1000000 < av ∨ bv < 0 ∨ 1000000 < bv
        · rw [if_pos q] at hf; cases hf
        · rw [← hd, IntKind.wrap_i64]; omega)
      have NXh := NXf.out d f HDf.out HDD.out
      clear HDD NXf HDf hf HMM
      go_upto_region 48 with fail
      go_quiet (fail)
      have K3 := Lib.hid (Below.drewN K2.out nq)
      clear q1 q2 HC K2 hd
      by_cases hy : y < d
      · rw [if_pos hy] at NXh
        by_cases hi0 : i = 0
        · rw [if_pos (.inl hi0)] at NXh
          have NX := Lib.hid NXh
          have d0 : ((i : Int) == 0) = true := by simp; omega
          clear hi0 NXh
          go_wp2_with fail
          go_roundw
          case measure => simp [intOf]; omega
          case rel => exact ⟨i + 1, f, _, _, by omega, by go_num, rfl, rfl, rfl, NX, K3⟩
        have d0 : ((i : Int) == 0) = false := by simp; omega
        by_cases hdx : d < x
        · rw [if_pos (.inr hdx)] at NXh
          have NX := Lib.hid NXh
          clear NXh
          go_wp2_with fail
          go_roundw
          case measure => simp [intOf]; omega
          case rel => exact ⟨i + 1, f, _, _, by omega, by go_num, rfl, rfl, rfl, NX, K3⟩
        · rw [if_neg (by rintro (q | q); exact hi0 q; exact hdx q)] at NXh
          have NX := Lib.hid NXh
          clear NXh
          go_wp2_with fail
          go_roundw
          case measure => simp [intOf]; omega
          case rel => exact ⟨i + 1, f, _, _, by omega, by go_num, rfl, rfl, rfl, NX, K3⟩
      · rw [if_neg hy] at NXh
        by_cases hi0 : i = 0
        · rw [if_pos (.inl hi0)] at NXh
          have NX := Lib.hid NXh
          have d0 : ((i : Int) == 0) = true := by simp; omega
          clear hi0 NXh
          go_wp2_with fail
          go_roundw
          case measure => simp [intOf]; omega
          case rel => exact ⟨i + 1, f, _, _, by omega, by go_num, rfl, rfl, rfl, NX, K3⟩
        have d0 : ((i : Int) == 0) = false := by simp; omega
        by_cases hdx : d < x
        · rw [if_pos (.inr hdx)] at NXh
          have NX := Lib.hid NXh
          clear NXh
          go_wp2_with fail
          go_roundw
          case measure => simp [intOf]; omega
          case rel => exact ⟨i + 1, f, _, _, by omega, by go_num, rfl, rfl, rfl, NX, K3⟩
        · rw [if_neg (by rintro (q | q); exact hi0 q; exact hdx q)] at NXh
          have NX := Lib.hid NXh
          clear NXh
          go_wp2_with fail
          go_roundw
          case measure => simp [intOf]; omega
          case rel => exact ⟨i + 1, f, _, _, by omega, by go_num, rfl, rfl, rfl, NX, K3⟩
    · have RR := Lib.hid (DS.out.done hi hgo)
      have hcase : ¬ i < A.length ∨ (i < A.length ∧ e ≠ 0) := by
        by_cases q2 : i < A.length
        · exact .inr ⟨q2, fun q => hgo ⟨q2, q⟩⟩
        · exact .inl q2
      clear hgo DS
      rcases hcase with q | ⟨q, q2⟩
      · go_wp2_with fail
        go_meet
        exact ⟨e, x, y, rfl, rfl, rfl, RR, KB⟩
      · have d : (e == 0) = false := by simp [q2]
        clear q2
        go_wp2_with fail
        go_meet
        exact ⟨e, x, y, rfl, rfl, rfl, RR, KB⟩
  case rest =>
  clear DS0 K9
  obtain ⟨e9, x9, y9, rfl, rfl, rfl, DR, KB⟩ := hcut
  have CDW := Lib.hid (fun y (k : Below N w y) => (DW.out y k).mono (R' := fun r w' => r = .returned (.tuple #[.int .i64 (if e9 = 0 then x9 else 0), .int .i64 (if e9 = 0 then y9 else 0), errV e9]) ∧ Below y.heap.size y w') (fun r w' ⟨x', y', f', h1, h2, h3⟩ => by
    obtain ⟨rfl, rfl, rfl⟩ := h2.eq DR.out
    exact ⟨h1, h3⟩))
  clear DR DW
  by_cases h9 : e9 = 0
  · rw [if_pos h9, if_pos h9] at CDW
    subst h9
    go_wp2_with (first
      | (go_at_call 14; (with_reducible refine (CDW.out _ KB.out).mono ?_); rintro r z10 ⟨rfl, k⟩; have K10 := Lib.hid (UP.out _ _ KB.out k); clear k)
      | (go_at_call 7; (with_reducible refine (ES.out 0 _ K10.out).mono ?_); rintro r z11 ⟨rfl, k⟩; have K11 := Lib.hid (UP.out _ _ K10.out k); clear k))
    go_ret
    exact ⟨by simp, by rw [← HN.out]; exact K11.out⟩
  · rw [if_neg h9, if_neg h9] at CDW
    have d1 : (e9 == 0) = false := by simp [h9]
    have d2 : (e9 != 0) = true := by simp [h9]
    clear h9
    go_wp2_with (first
      | (go_at_call 14; (with_reducible refine (CDW.out _ KB.out).mono ?_); rintro r z10 ⟨rfl, k⟩; have K10 := Lib.hid (UP.out _ _ KB.out k); clear k)
      | (go_at_call 7; (with_reducible refine (ES.out e9 _ K10.out).mono ?_); rintro r z11 ⟨rfl, k⟩; have K11 := Lib.hid (UP.out _ _ K10.out k); clear k))
    go_ret
    exact ⟨by simp, by rw [← HN.out]; exact K11.out⟩
theorem walk_AuditTells (w : World) (v1 : Value) (S : List Pk) (o1 : IsPks w v1 S) (v2 : Value) (G : List Pk) (o2 : IsPks w v2 G) (v3 : Value) (A : List Int) (o3 : IsInts w v3 A) (v4 : Value) (B : List Int) (o4 : IsInts w v4 B) (hE : Env w) :
    Calls Tryd.prog 4 #[v1, v2, v3, v4] w fun e w' => e = .returned (.bool true) ∧ Below w.heap.size w w' :=
  walk_AuditTells_run v1 v2 v3 v4 S G A B w o1 o2 o3 o4 hE
end Go.Proofs.YtggfhcidmnageaaDoor
