import Derived.Test.YtggfhcidmnageaaDoorAlike
import Derived.Test.YtggfhcidmnageaaDoorPAuditB
import Derived.Test.YtggfhcidmnageaaDoorErrE
import Derived.Test.YtggfhcidmnageaaDoorPSerial
import Derived.Deep.QuietTactic
import Derived.BigQuiet
/-! audit.Row. -/
namespace Go.Proofs.YtggfhcidmnageaaDoor
open Go.RowKit
set_option linter.unusedVariables false
set_option linter.unusedSimpArgs false
theorem Pl.pkFault_zero {s t l lv : Int} {n : Nat} : Pl.pkFault s t l lv n = 0 ↔ Pl.pkOk s t l lv n := by
  unfold Pl.pkFault Pl.pkOk
  by_cases h : 0 ≤ s ∧ s ≤ 65535 ∧ 0 ≤ t ∧ t ≤ 4294967295 ∧ 0 ≤ l ∧ l ≤ 3 ∧ 0 ≤ lv ∧ lv ≤ 127
  · rw [if_pos h]
    by_cases h2 : n ≤ 1000
    · rw [if_pos h2]; simp; omega
    · rw [if_neg h2]; simp; omega
  · rw [if_neg h]; simp; omega
theorem check_errV (s t l lv : Int) (st : Bool) (oa : Option Addr) (n c : Nat) (hn : n ≤ maxLen) (w : World) :
    Calls Tryd.prog 19 #[pkV s t l lv st (.slice oa n c)] w fun e w' => e = .returned (errV (Pl.pkFault s t l lv n)) ∧ Below w.heap.size w w' := by
  by_cases h : Pl.pkFault s t l lv n = 0
  · rw [h]; exact check_ok s t l lv st oa n c (Pl.pkFault_zero.1 h) w
  · rw [errV_hit _ h]; exact check_bad s t l lv st oa n c hn (fun q => h (Pl.pkFault_zero.2 q)) w
set_option maxRecDepth 100000 in
set_option maxHeartbeats 4000000 in
theorem auditRow_any (v : Value) (G : List Pk) (w : World) (h : IsPks w v G) :
    Calls Tryd.prog 10 #[v] w fun e w' => ∃ at_ f : Int, e = .returned (.tuple #[.int .i64 at_, errV f]) ∧ Pl.RowR G at_ f ∧ Below w.heap.size w w' := by
  obtain ⟨o1, c1, rfl, l1, m1, n1, -⟩ := pks_open h
  have H1 := Lib.hid (show IsPks w (.slice o1 G.length c1) G from h)
  unfold maxLen at m1
  clear h n1
  by_cases hs : 1000 < G.length
  · have HR := Lib.hid (show Pl.RowR G 0 4 from .inl ⟨hs, rfl, rfl⟩)
    go_enter Tryd.func10, Tryd.ntmps10
    go_wp2_with fail
    go_ret2
    exact ⟨0, 4, rfl, HR.out, Below.refl _ _⟩
  have HS := Lib.hid (show ∀ a f, Pl.FstR (Pl.rowF G) G.length a f → Pl.RowR G a f from fun a f q => .inr ⟨by omega, q⟩)
  go_enter Tryd.func10, Tryd.ntmps10
  go_upto_region 4 with fail
  go_loopw [13] (fun s13 wr => ∃ i : Nat, i ≤ G.length ∧ s13 = .int .i64 i ∧ Hid (∀ j, j < i → Pl.rowF G j = 0) ∧ Hid (Below w.heap.size w wr)) (fun s13 _ => G.length - (intOf s13).toNat)
  case atStart => exact ⟨0, by omega, rfl, Lib.hid (fun j h => by omega), Lib.hid (Below.refl _ _)⟩
  case round =>
    obtain ⟨i, hi, rfl, HN, KB⟩ := hrel
    by_cases hlt : i < G.length
    · obtain ⟨_, _, e, -, -, -, rd⟩ := pks_open (IsPks.below H1.out KB.out)
      cases e
      obtain ⟨b, o, rfl, hb, q0, q1, q2, q3, q4, q5, gd⟩ := rd i hlt
      have RP := Lib.hid (show i ≠ 0 → ∃ q : Pk, G[i - 1]? = some q ∧ wr.cell? ⟨b, o + (i - 1) * 6, none⟩ = some (.int .i64 q.s) from fun h0 => by
        obtain ⟨b', o', e, -, r0, -⟩ := rd (i - 1) (by omega)
        cases e
        exact ⟨_, List.getElem?_eq_getElem (by omega), r0⟩)
      have HGi := Lib.hid (show G[i]? = some G[i] from List.getElem?_eq_getElem hlt)
      have GD := Lib.hid gd.2.2.2.2
      clear rd gd
      generalize G[i] = g at *
      obtain ⟨x0, x1, x2, x3, x4, x5, x6⟩ := g
      dsimp only at q0 q1 q2 q3 q4 q5 GD
      obtain ⟨ob, cb, rfl, hxm⟩ := bytes_slice GD.out
      have CK := Lib.hid (fun y => check_errV x0 x1 x2 x3 x4 ob x6.length cb hxm y)
      obtain ⟨f, hf⟩ : ∃ f, Pl.pkFault x0 x1 x2 x3 x6.length = f := ⟨_, rfl⟩
      rw [hf] at CK
      have HF := Lib.hid hf
      clear hf hxm
      go_upto_region 6 with fail
      obtain ⟨B, hBz⟩ : ∃ B, wr.heap.size = B := ⟨_, rfl⟩
      have hwB : w.heap.size ≤ wr.heap.size := KB.out.size
      refine abs_t (fun y => Hid (PkIn y wr.heap.size x0 x1 x2 x3 x4 (.slice ob x6.length cb)) ∧ Hid (i ≠ 0 → ∃ q : Pk, G[i - 1]? = some q ∧ y.cell? ⟨b, o + (i - 1) * 6, none⟩ = some (.int .i64 q.s)) ∧ Hid (Below w.heap.size w y)) ⟨Lib.hid (obj_new _ _), Lib.hid (fun h0 => by
        obtain ⟨q, e, r⟩ := RP.out h0
        exact ⟨q, e, by rw [← r]; exact (Below.alloc (Below.refl _ _) (Nat.le_refl _) _).cell (by show b < _; omega)⟩), Lib.hid (KB.out.alloc hwB _)⟩ ?_
      rw [hBz]
      clear q0 q1 q2 q3 q4 q5 GD KB hBz RP
      rintro y ⟨PB, RP, KB⟩
      obtain ⟨q0, q1, q2, q3, q4, q5⟩ := PkIn.cells PB.out
      by_cases h0 : f = 0
      case neg =>
        have HR := Lib.hid (HS.out i f (.inr ⟨h0, i, hlt, rfl, (Pl.rowF_bad HGi.out (by rw [HF.out]; exact h0)).trans HF.out, HN.out⟩))
        have HV := Lib.hid (errV_hit f h0)
        rw [errV_hit f h0] at CK
        clear h0
        go_wp2_with (go_at_call 19; (with_reducible refine (CK.out _).mono ?_); rintro e z ⟨rfl, k⟩; have K := Lib.hid (KB.out.trans (k.mono KB.out.size)); clear k)
        go_ret2
        exact ⟨i, f, by rw [HV.out]; rfl, HR.out, K.out⟩
      subst h0
      rw [errV_nil] at CK
      go_upto_region 7 with (go_at_call 19; (with_reducible refine (CK.out _).mono ?_); rintro e z ⟨rfl, k⟩; have K := Lib.hid (KB.out.trans (k.mono KB.out.size)); have PZ := Lib.hid (Below.heapAt k PB.out (lt_of_block PB.out)); have KK := Lib.hid k; clear k)
      clear q0 q1 q2 q3 q4 q5
      have q0 := obj_cell PZ.out (k := 0) rfl
      by_cases hi0 : i = 0
      · subst hi0
        have HR := Lib.hid (Pl.rowF_zero HGi.out HF.out)
        go_upto_region 9 with fail
        go_quiet (fail)
        go_wp2_with fail
        go_roundw
        case measure => simp [intOf]; omega
        case rel => exact ⟨1, by omega, rfl, Lib.hid (fun j hj => by obtain rfl : j = 0 := by omega
                                                                     exact HR.out), Lib.hid (Below.drewN K.out _)⟩
      · obtain ⟨q, hq, rq⟩ := RP.out hi0
        have HQ := Lib.hid hq
        have rz := (KK.out.cell (p := ⟨b, o + (i - 1) * 6, none⟩) (Sl.lt rq)).trans rq
        have HP := Lib.hid (Pl.rowF_prev hq (HN.out (i - 1) (by omega)))
        clear rq hq
        obtain ⟨qs, hqs⟩ : ∃ qs, q.s = qs := ⟨_, rfl⟩
        have b1 : 0 ≤ qs ∧ qs ≤ 65535 := by have := Pl.pkFault_zero.1 HP.out; rw [hqs] at this; exact ⟨this.1, this.2.1⟩
        rw [hqs] at rz
        have HQS := Lib.hid hqs
        clear hqs
        obtain ⟨b1, b2⟩ := b1
        have i1 : (0 : Int) ≤ ((i - 1 : Nat) : Int) := by omega
        have i2 : ((i - 1 : Nat) : Int) < (G.length : Int) := by omega
        have i4 : IntKind.i64.wrap ((i : Int) - 1) = ((i - 1 : Nat) : Int) := by rw [IntKind.wrap_i64]; omega
        have i5 : (0 : Int) < (i : Int) := by omega
        have i6 : 0 < i := by omega
        have i9 : decide ((0 : Int) < (i : Int)) = true := by simp; omega
        have i7 : IntKind.i64.wrap (qs + 1) = qs + 1 := by rw [IntKind.wrap_i64]; omega
        have i8 : bits .and .i64 (qs + 1) 65535 = (qs + 1) % 65536 := Pl.and_low16 _
        by_cases hx : x0 = (qs + 1) % 65536
        · have HR := Lib.hid (Pl.rowF_ok (by omega) HGi.out HF.out HQ.out (by rw [HQS.out]; exact hx))
          have d1 : (x0 == (qs + 1) % 65536) = true := by simpa using hx
          have d2 : (x0 != (qs + 1) % 65536) = false := by simpa using hx
          clear hx
          go_upto_region 9 with fail
          go_quiet (fail)
          go_wp2_with fail
          go_roundw
          case measure => simp [intOf]; omega
          case rel => exact ⟨i + 1, by omega, by go_num, Lib.hid (fun j hj => by
            by_cases e : j = i
            · subst e; exact HR.out
            · exact HN.out j (by omega)), Lib.hid (Below.drewN K.out _)⟩
        · have HR := Lib.hid (HS.out i 3 (.inr ⟨by decide, i, hlt, rfl, Pl.rowF_gap (by omega) HGi.out HF.out HQ.out (by rw [HQS.out]; exact hx), HN.out⟩))
          have d1 : (x0 == (qs + 1) % 65536) = false := by simpa using hx
          have d2 : (x0 != (qs + 1) % 65536) = true := by simpa using hx
          clear hx
          go_upto_region 9 with fail
          go_quiet (fail)
          go_wp2_with fail
          go_ret2
          exact ⟨i, 3, rfl, HR.out, Below.drewN K.out _⟩
    · obtain rfl : G.length = i := by omega
      have HR := Lib.hid (HS.out 0 0 (.inl ⟨rfl, rfl, HN.out⟩))
      go_wp2_with fail
      go_ret2
      exact ⟨0, 0, rfl, HR.out, KB.out⟩
end Go.Proofs.YtggfhcidmnageaaDoor
