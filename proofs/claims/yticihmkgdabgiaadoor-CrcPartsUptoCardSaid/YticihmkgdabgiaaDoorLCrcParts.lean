import Derived.Test.YticihmkgdabgiaaDoorJoin
import Derived.Test.YticihmkgdabgiaaDoorCrcOpen
import Derived.Test.YticihmkgdabgiaaDoorSame
import Derived.Test.YticihmkgdabgiaaDoorTold
import Derived.Lib.SlBytesConst
/-! The walk of the law CrcParts. -/
namespace Go.Proofs.YticihmkgdabgiaaDoor
open Go.RowKit
set_option linter.unusedVariables false
set_option linter.unusedSimpArgs false
namespace Pl
def D9 : List UInt8 := [49, 50, 51, 52, 53, 54, 55, 56, 57]
theorem D9_sum : sumI D9 = 3421780262 := by decide +kernel
def twist (l : List UInt8) (k : Nat) (m q : UInt8) : List UInt8 := (l.set k (l.getD k 0 ^^^ m)).set (k + 1) (l.getD (k + 1) 0 ^^^ q)
theorem twist_told (x : List UInt8) (k : Nat) (m q : UInt8) (hk : k + 1 < x.length + 4) (h : ¬ (m = 0 ∧ q = 0)) : openFault (twist (sealB x) k m q) = 9 := by
  have hl := sealB_length x
  refine open_told x _ k (by unfold twist; rw [List.length_set, List.length_set, hl]) (by omega) ?_ ?_
  · intro e
    have e1 : (twist (sealB x) k m q)[k]? = (sealB x)[k]? := by rw [e]
    have e2 : (twist (sealB x) k m q)[k + 1]? = (sealB x)[k + 1]? := by rw [e]
    have h1 : k < (sealB x).length := by omega
    have h2 : k + 1 < (sealB x).length := by omega
    unfold twist at e1 e2
    rw [List.getElem?_set_ne (by omega), List.getElem?_set_self h1, List.getElem?_eq_getElem h1] at e1
    rw [List.getElem?_set_self (by rw [List.length_set]; exact h2), List.getElem?_eq_getElem h2] at e2
    simp only [List.getD, List.getElem?_eq_getElem h1, List.getElem?_eq_getElem h2, Option.getD_some, Option.some.injEq] at e1 e2
    refine h ⟨?_, ?_⟩
    · have h3 := congrArg (fun z => (sealB x)[k] ^^^ z) e1
      simpa [← UInt8.xor_assoc] using h3
    · have h3 := congrArg (fun z => (sealB x)[k + 1] ^^^ z) e2
      simpa [← UInt8.xor_assoc] using h3
  · intro j h1 h2
    unfold twist
    rw [List.getElem?_set_ne (Ne.symm h2), List.getElem?_set_ne (Ne.symm h1)]
end Pl
theorem OwnB.setAt' {w : World} {base g cap n : Nat} {l : List UInt8} (h : OwnB w base (.slice (some ⟨g, 0, none⟩) n cap) l) (k : Nat) (c : UInt8) :
    OwnB (w.setCell ⟨g, k, none⟩ (encB c)) base (.slice (some ⟨g, 0, none⟩) n cap) (l.set k c) := by
  obtain ⟨h1, h2⟩ := h
  refine ⟨by simp at h1 ⊢; try exact h1, ?_⟩
  rcases h2 with ⟨h3, _⟩ | ⟨g', cap', cur, hv, hb, hg, hc, hm, hs, ht⟩
  · cases h3
  · simp only [Value.slice.injEq, Option.some.injEq, Addr.mk.injEq, true_and, and_true] at hv
    obtain ⟨rfl, rfl, rfl⟩ := hv
    refine .inr ⟨g, cap, cur.setIfInBounds k (encB c), by simp, hb, obj_set hg k _, by simpa using hc, hm, by simpa using hs, ?_⟩
    rw [Array.toList_setIfInBounds, List.map_set, ← ht]
    simp [List.take_set]
theorem OwnB.spot' {w : World} {base g cap n : Nat} {l : List UInt8} (h : OwnB w base (.slice (some ⟨g, 0, none⟩) n cap) l) (k : Nat) (hk : k < l.length) : base ≤ g ∧ w.cell? ⟨g, k, none⟩ = some (encB (l.getD k 0)) ∧ w.frozen? ⟨g, k, none⟩ = false := by
  have hr := bytes_at h.reads k hk
  rw [Nat.zero_add] at hr
  obtain ⟨h1, h2⟩ := h
  rcases h2 with ⟨h3, _⟩ | ⟨g', cap', cur, hv, hb, hg, hc, hm, hs, ht⟩
  · cases h3
  · simp only [Value.slice.injEq, Option.some.injEq, Addr.mk.injEq, true_and, and_true] at hv
    obtain ⟨rfl, rfl, rfl⟩ := hv
    exact ⟨hb, hr, obj_free hg k⟩
theorem seal_at (v : Value) (l : List UInt8) (w : World) (hv : IsBytes w v l) (hl : l.length ≤ 100000000) :
    Calls Tryd.prog 34 #[v] w fun e w' => ∃ g c, e = .returned (.slice (some ⟨g, 0, none⟩) (l.length + 4) c) ∧ l.length + 4 ≤ c ∧ c ≤ 9223372036854775807 ∧ OwnB w' w.heap.size (.slice (some ⟨g, 0, none⟩) (l.length + 4) c) (Pl.sealB l) ∧ Below w.heap.size w w' :=
  (seal_any v l w hv (by omega)).mono fun e w' ⟨v', h1, h2, h3⟩ => by
    have hl2 := Pl.sealB_length l
    rcases h2.forms with ⟨_, h5⟩ | ⟨g, cap, h4, _, h6, h7, _, _⟩
    · rw [h5, List.length_nil] at hl2; omega
    · rw [hl2] at h4 h6
      subst h4
      unfold maxLen at h7
      exact ⟨g, cap, h1, h6, by omega, h2, h3⟩
theorem lit9 (w : World) : IsBytes (w.alloc (.cells #[.int .u8 49, .int .u8 50, .int .u8 51, .int .u8 52, .int .u8 53, .int .u8 54, .int .u8 55, .int .u8 56, .int .u8 57] 5 (9, 10))) (.slice (some ⟨w.heap.size, 0, none⟩) 9 9) Pl.D9 := by
  refine .inr ⟨w.heap.size, 0, 9, rfl, by decide, by decide, fun i hi => ?_⟩
  rw [Nat.zero_add, cell_of_row _ w.heap.size i _ _ _ (obj_new w _)]
  have h : i < 9 := hi
  match i, h with
  | 0, _ => rfl
  | 1, _ => rfl
  | 2, _ => rfl
  | 3, _ => rfl
  | 4, _ => rfl
  | 5, _ => rfl
  | 6, _ => rfl
  | 7, _ => rfl
  | 8, _ => rfl
theorem abs_p {P : Program} {c : Code} {Q : Exit → Act → World → Prop} {a : Act} {W : World} (S : World → Prop) (h : S W) (k : ∀ wq, S wq → c.wp P Q a wq) : c.wp P Q a W := k W h
theorem fact_sum (w : World) (v : Value) (hv : IsBytes w v Pl.D9) : Calls Tryd.prog 28 #[v] w fun e w' => e = .returned (.int .i64 3421780262) ∧ w = w' := by
  have h := crcSum_any v Pl.D9 w hv
  rw [Pl.D9_sum] at h
  exact h
set_option maxRecDepth 100000 in
set_option maxHeartbeats 4000000 in
theorem walk_CrcParts_run (w : World) (v0 : Value) (l0 : List UInt8) (o0 : IsBytes w v0 l0) (oa1 : Option Addr) (c1 : Nat) (l1 : List UInt8) (o1 : IsBytes w (.slice oa1 l1.length c1) l1) (p : Int) (m q : UInt8) (hE : Env w) (h0 : l0.length ≤ 1048576) (h1 : l1.length ≤ 1048576)
    (y : Int) (ev : Value) (C : (ev = .nilIface ∧ y = Pl.sumI (l0 ++ l1)) ∨ (ev = .iface 73 (.int .i64 1) ∧ 1000000 < l1.length))
    (J : ∀ z : World, Calls Tryd.prog 33 #[.int .i64 (Pl.sumI l0), .int .i64 (Pl.sumI l1), .int .i64 (l1.length : Int)] z fun e w' => e = .returned (.tuple #[.int .i64 y, ev]) ∧ Below z.heap.size z w') :
    Calls Tryd.prog 8 #[v0, .slice oa1 l1.length c1, .int .i64 p, .int .u8 (m.toNat : Int), .int .u8 (q.toNat : Int)] w fun e w' => e = .returned (.bool true) ∧ Below w.heap.size w w' := by
  have H0 := Lib.hid h0
  have O0 := Lib.hid o0
  have O1 := Lib.hid o1
  have HE := Lib.hid hE
  have JJ := Lib.hid J
  have CC := Lib.hid C
  clear J C o0 o1 hE h0
  go_enter Tryd.func8, Tryd.ntmps8
  have CV := Lib.run_convert_bytes_const w 22 5 #[.int .u8 49, .int .u8 50, .int .u8 51, .int .u8 52, .int .u8 53, .int .u8 54, .int .u8 55, .int .u8 56, .int .u8 57] 9 9 Tryd.underlying22 Tryd.underlying5
  have FS := Lib.hid (fact_sum (w.alloc (.cells #[.int .u8 49, .int .u8 50, .int .u8 51, .int .u8 52, .int .u8 53, .int .u8 54, .int .u8 55, .int .u8 56, .int .u8 57] 5 (9, 10))) (.slice (some ⟨w.heap.size, 0, none⟩) 9 9) (lit9 w))
  have KB0 := Lib.hid ((Below.refl w.heap.size w).alloc (Nat.le_refl _) (.cells #[.int .u8 49, .int .u8 50, .int .u8 51, .int .u8 52, .int .u8 53, .int .u8 54, .int .u8 55, .int .u8 56, .int .u8 57] 5 (9, 10)))
  go_upto_region 5 with (go_at_call 28; (refine FS.out.mono ?_); rintro e z ⟨rfl, rfl⟩)
  clear FS CV
  refine abs_p (fun z => Hid (Below w.heap.size w z)) KB0 ?_
  clear KB0
  intro z0 K0
  have A1 := Lib.hid (run_append_bytes z0 (OwnB.nil z0 z0.heap.size) (O0.out.below K0.out) (Nat.le_refl _) (by have := H0.out; simp; omega))
  go_upto_region 6 with (at_builtin; obtain ⟨v2, z1, hr, ho, hg⟩ := A1.out; refine Lib.wpList_append_run _ rfl (.tmp 28) (.tmp 29) 22 22 rfl _ _ rfl rfl _ _ hr ?_)
  simp only [List.nil_append] at ho
  have K1 := Lib.hid (K0.out.trans ((below_row (OwnB.nil z0 z0.heap.size) hg (Nat.le_refl _) (Nat.le_refl _)).mono K0.out.size))
  have hs1 : z0.heap.size ≤ z1.heap.size := hg.size
  have HO := Lib.hid ho
  have A2 := Lib.hid (run_append_bytes z1 ho (O1.out.below K1.out) hs1 (by have := H0.out; omega))
  clear hr ho hg A1
  go_upto_region 7 with (at_builtin; obtain ⟨v3, z2, hr, ho, hg⟩ := A2.out; refine Lib.wpList_append_run _ rfl (.tmp 31) (.tmp 32) 22 22 rfl _ _ rfl rfl _ _ hr ?_)
  have K2 := Lib.hid (K1.out.trans ((below_row HO.out hg (Nat.le_refl _) hs1).mono K0.out.size))
  have X := Lib.hid ho.reads
  clear hr ho hg A2 HO K1 K0 hs1
  have S7 := Lib.hid (crcSum_any v3 _ z2 X.out)
  have SA := Lib.hid (crcSum_any v0 l0 z2 (O0.out.below K2.out))
  have SB := Lib.hid (crcSum_any _ l1 z2 (O1.out.below K2.out))
  have MO := Lib.hid (more_csum l0 l1 _ z2 (O1.out.below K2.out))
  have HXL := Lib.hid (show (l0 ++ l1).length ≤ 2097152 from by rw [List.length_append]; have := H0.out; omega)
  have HXP := Lib.hid (show l1.length ≤ (l0 ++ l1).length from by rw [List.length_append]; omega)
  generalize l0 ++ l1 = x at *
  generalize hsx : Pl.sumI x = sx at *
  generalize Pl.sumI l0 = s0 at *
  generalize Pl.sumI l1 = s1 at *
  clear hsx
  go_upto_region 10 with (first
    | (go_at_call 28; (with_reducible refine S7.out.mono ?_); rintro e z ⟨rfl, rfl⟩)
    | (go_at_call 28; (with_reducible refine SA.out.mono ?_); rintro e z ⟨rfl, rfl⟩)
    | (go_at_call 28; (with_reducible refine SB.out.mono ?_); rintro e z ⟨rfl, rfl⟩)
    | (go_at_call 31; (with_reducible refine MO.out.mono ?_); rintro e z ⟨rfl, rfl⟩)
    | (go_at_call 33; (with_reducible refine (JJ.out _).mono ?_); rintro e z3 ⟨rfl, k3⟩; have X := Lib.hid (X.out.below k3); have K2 := Lib.hid (K2.out.trans (k3.mono K2.out.size)); clear k3)
    | fail)
  clear S7 SA SB MO JJ
  go_cut [77] (fun s77 z => s77 = .bool false ∧ z3 = z)
  case first =>
    rcases CC.out with ⟨rfl, rfl⟩ | ⟨rfl, hfar⟩
    · go_wp2_with fail
      go_meet
      exact ⟨by simp, rfl⟩
    · have hfar2 : ¬ (l1.length : Int) ≤ 1000000 := by omega
      go_wp2_with fail
      go_meet
      exact ⟨by simp, rfl⟩
  case rest =>
  obtain ⟨rfl, rfl⟩ := hcut
  have SE := Lib.hid (seal_at v3 x z3 X.out (by have := HXL.out; omega))
  go_upto_region 13 with (go_at_call 34; (with_reducible refine SE.out.mono ?_); rintro e z4 ⟨g, c, rfl, m1, m2, ho, k4⟩; have HO := Lib.hid ho; have X := Lib.hid (X.out.below k4); have K4 := Lib.hid (K2.out.trans (k4.mono K2.out.size)); have KS := Lib.hid k4; clear k4 ho)
  clear SE
  have OP := Lib.hid (copen_ok _ (Pl.sealB x) z4 HO.out.reads (by rw [Pl.sealB_length]; have := HXL.out; omega) (Pl.open_seal_ok x))
  rw [Pl.open_seal] at OP
  go_upto_region 14 with (go_at_call 36; (with_reducible refine OP.out.mono ?_); rintro e z5 ⟨oo, no, co, rfl, hq, k5⟩; have HQ := Lib.hid hq.reads; have X := Lib.hid (X.out.below k5); have HO := Lib.hid (HO.out.below k5); have K5 := Lib.hid (K4.out.trans (k5.mono K4.out.size)); clear k5 hq)
  clear OP
  have u1 := conv_bytes HQ.out
  have u2 := conv_bytes X.out
  generalize strB x = sx2 at *
  go_upto_region 16 with fail
  clear u1 u2 HQ X
  have hxl := HXL.out
  by_cases c1 : p < 0
  · go_wp2
    all_goals first
      | (go_ret; exact ⟨rfl, K5.out⟩)
  by_cases c2 : (x.length : Int) + 3 ≤ p
  · have c1' : 0 ≤ p := by omega
    clear c1
    go_wp2
    all_goals first
      | (go_ret; exact ⟨rfl, K5.out⟩)
      | (exfalso; omega)
  obtain ⟨k, rfl⟩ := Int.eq_ofNat_of_zero_le (show 0 ≤ p by omega)
  have hk : k + 1 < x.length + 4 := by omega
  have hk3 : (k : Int) < (x.length : Int) + 3 := by omega
  clear c1 c2
  by_cases c3 : m = 0 ∧ q = 0
  · obtain ⟨rfl, rfl⟩ := c3
    have z8 : (((0 : UInt8).toNat : Nat) : Int) = 0 := rfl
    rw [z8]
    go_wp2
    all_goals first
      | (go_ret; exact ⟨rfl, K5.out⟩)
      | (exfalso; omega)
  have BAD := Lib.hid (Pl.twist_told x k m q hk c3)
  have G0 := Lib.hid (show m ≠ 0 ∨ q ≠ 0 from by
    by_cases hm : m = 0
    · exact .inr (fun hq => c3 ⟨hm, hq⟩)
    · exact .inl hm)
  clear c3
  obtain ⟨hge, u0, f0⟩ := HO.out.spot' k (by rw [Pl.sealB_length]; omega)
  have E1 := Lib.hid (Pl.xor_byte ((Pl.sealB x).getD k 0) m)
  have SD := Lib.hid (HO.out.setAt' k ((Pl.sealB x).getD k 0 ^^^ m))
  have e2 : ((Pl.sealB x).set k ((Pl.sealB x).getD k 0 ^^^ m)).getD (k + 1) 0 = (Pl.sealB x).getD (k + 1) 0 := by
    simp only [List.getD]
    rw [List.getElem?_set_ne (by omega)]
  have LS := Lib.hid (show ((Pl.sealB x).set k ((Pl.sealB x).getD k 0 ^^^ m)).length = x.length + 4 from by rw [List.length_set, Pl.sealB_length])
  have TW := Lib.hid (show Pl.twist (Pl.sealB x) k m q = ((Pl.sealB x).set k ((Pl.sealB x).getD k 0 ^^^ m)).set (k + 1) (((Pl.sealB x).set k ((Pl.sealB x).getD k 0 ^^^ m)).getD (k + 1) 0 ^^^ q) from by rw [e2]; rfl)
  generalize (Pl.sealB x).set k ((Pl.sealB x).getD k 0 ^^^ m) = t1 at *
  generalize (Pl.sealB x).getD k 0 = d at *
  clear e2
  have hkk : (k : Int) < (x.length : Int) + 4 := by omega
  go_cut [110] (fun s110 z => s110 = .bool false ∧ z5 = z)
  case first =>
    by_cases hm : m = 0
    · have hq : q ≠ 0 := by rcases G0.out with h | h; exact absurd hm h; exact h
      have d1 : ((m.toNat : Int) == 0) = true := by rw [hm]; rfl
      have d2 : ((q.toNat : Int) == 0) = false := by
        rw [beq_eq_false_iff_ne]
        exact fun h => hq (UInt8.toNat_inj.1 (by show q.toNat = 0; omega))
      clear hm hq G0 u0 f0
      go_wp2_with fail
      go_meet
      exact ⟨by simp; omega, rfl⟩
    · have d1 : ((m.toNat : Int) == 0) = false := by
        rw [beq_eq_false_iff_ne]
        exact fun h => hm (UInt8.toNat_inj.1 (by show m.toNat = 0; omega))
      clear hm G0 u0 f0
      go_wp2_with fail
      go_meet
      exact ⟨by simp; omega, rfl⟩
  case rest =>
  obtain ⟨rfl, rfl⟩ := hcut
  clear G0
  go_upto_region 19 with fail
  refine abs_p (fun z => OwnB z z3.heap.size (.slice (some ⟨g, 0, none⟩) (x.length + 4) c) t1 ∧ Hid (Below w.heap.size w z)) ⟨?_, ?_⟩ ?_
  · have h := SD.out
    unfold encB at h
    rw [← E1.out] at h
    exact h
  · exact Lib.hid (Below.setCell K5.out (Nat.le_trans K2.out.size hge) _)
  clear u0 f0 SD E1 HO K5
  rintro z6 ⟨ho, K6⟩
  obtain ⟨_, u0, f0⟩ := ho.spot' (k + 1) (by rw [LS.out]; omega)
  have E1 := Lib.hid (Pl.xor_byte (t1.getD (k + 1) 0) q)
  have SD := Lib.hid (ho.setAt' (k + 1) (t1.getD (k + 1) 0 ^^^ q))
  rw [← TW.out] at SD
  have LT := Lib.hid (show (Pl.twist (Pl.sealB x) k m q).length = x.length + 4 from by unfold Pl.twist; rw [List.length_set, List.length_set, Pl.sealB_length])
  generalize Pl.twist (Pl.sealB x) k m q = t2 at *
  generalize t1.getD (k + 1) 0 = d1 at *
  clear TW ho
  go_upto_region 20 with fail
  refine abs_p (fun z => IsBytes z (.slice (some ⟨g, 0, none⟩) (x.length + 4) c) t2 ∧ Hid (Below w.heap.size w z)) ⟨?_, ?_⟩ ?_
  · have h := SD.out
    unfold encB at h
    rw [← E1.out] at h
    exact h.reads
  · exact Lib.hid (Below.setCell K6.out (Nat.le_trans K2.out.size hge) _)
  clear u0 f0 SD E1 K6
  rintro z7 ⟨hr, K7⟩
  have OB := copen_bad _ t2 z7 hr (by rw [LT.out]; omega) (by rw [BAD.out]; decide)
  rw [BAD.out] at OB
  have OPB := Lib.hid OB
  clear OB hr
  go_wp2_with (first
    | (go_at_call 36; (with_reducible refine OPB.out.mono ?_); rintro e z8 ⟨rfl, k8⟩; have K8 := Lib.hid (K7.out.trans (k8.mono K7.out.size)); have ER := Lib.hid (error_hit 9 9 z8 (HE.out.below K8.out)); clear k8)
    | (go_at_call 13; (with_reducible refine ER.out.mono ?_); rintro e z9 ⟨rfl, k9⟩; have K9 := Lib.hid (K8.out.trans (k9.mono K8.out.size)); clear k9)
    | fail)
  go_ret
  exact ⟨rfl, K9.out⟩
theorem walk_CrcParts (w : World) (v0 : Value) (l0 : List UInt8) (o0 : IsBytes w v0 l0) (v1 : Value) (l1 : List UInt8) (o1 : IsBytes w v1 l1) (a2 : Int) (w2 : (Lit.int .i64 a2).wf = true) (a3 : Int) (w3 : (Lit.int .u8 a3).wf = true) (a4 : Int) (w4 : (Lit.int .u8 a4).wf = true) (hE : Env w) (h0 : l0.length ≤ 1048576) (h1 : l1.length ≤ 1048576) :
    Calls Tryd.prog 8 #[v0, v1, .int .i64 a2, .int .u8 a3, .int .u8 a4] w fun e w' => e = .returned (.bool true) ∧ Below w.heap.size w w' := by
  have b3 : 0 ≤ a3 ∧ a3 ≤ 255 := by simpa [Lit.wf, IntKind.min, IntKind.max, IntKind.signed, IntKind.bits] using w3
  have b4 : 0 ≤ a4 ∧ a4 ≤ 255 := by simpa [Lit.wf, IntKind.min, IntKind.max, IntKind.signed, IntKind.bits] using w4
  have e3 : a3 = ((UInt8.ofNat a3.toNat).toNat : Int) := by rw [UInt8.toNat_ofNat']; omega
  have e4 : a4 = ((UInt8.ofNat a4.toNat).toNat : Int) := by rw [UInt8.toNat_ofNat']; omega
  rw [e3, e4]
  obtain ⟨oa1, c1, rfl, _⟩ := bytes_slice o1
  by_cases h : l1.length ≤ 1000000
  · exact walk_CrcParts_run w v0 l0 o0 oa1 c1 l1 o1 a2 _ _ hE h0 h1 _ _ (.inl ⟨rfl, rfl⟩) (fun z => join_csum_ok l0 l1 h z)
  · exact walk_CrcParts_run w v0 l0 o0 oa1 c1 l1 o1 a2 _ _ hE h0 h1 _ _ (.inr ⟨rfl, by omega⟩) (fun z => (join_csum_far l0 l1 (by omega) z).mono fun e w' ⟨q1, q2⟩ => ⟨q1, by rw [← q2]; exact Below.refl _ _⟩)
end Go.Proofs.YticihmkgdabgiaaDoor
