import Derived.Test.YtggfhcidmnageaaDoorPlaces
import Derived.Test.YtggfhcidmnageaaDoorPAuditB
import Derived.Test.YtggfhcidmnageaaDoorStepApp
/-! audit.Check, audit.Holes. -/
namespace Go.Proofs.YtggfhcidmnageaaDoor
open Go.RowKit
set_option linter.unusedVariables false
set_option linter.unusedSimpArgs false
set_option maxRecDepth 100000 in
set_option maxHeartbeats 4000000 in
theorem auditCheck_any (v1 v2 : Value) (S G : List Pk) (w : World) (h1 : IsPks w v1 S) (h2 : IsPks w v2 G) :
    Calls Tryd.prog 6 #[v1, v2] w fun e w' => ∃ (c : List Nat) (at_ f : Int), e = .returned (.tuple #[.int .i64 at_, errV f]) ∧ Pl.PlacesR S G c at_ f ∧ Below w.heap.size w w' := by
  obtain ⟨o1, c1, rfl, l1, m1, n1, -⟩ := pks_open h1
  obtain ⟨o2, c2, rfl, l2, m2, n2, -⟩ := pks_open h2
  have PA := Lib.hid (places_any _ _ S G w h1 h2)
  clear h1 h2
  go_enter Tryd.func6, Tryd.ntmps6
  go_wp2_with (go_at_call 17; (with_reducible refine PA.out.mono ?_); rintro e z ⟨v, c, at_, f, rfl, hr, ro, k⟩; have HR := Lib.hid hr; have K := Lib.hid k; clear hr ro k)
  go_ret2
  exact ⟨_, _, _, rfl, HR.out, K.out⟩
set_option maxRecDepth 100000 in
set_option maxHeartbeats 4000000 in
theorem auditHoles_any (v1 v2 : Value) (S G : List Pk) (w : World) (h1 : IsPks w v1 S) (h2 : IsPks w v2 G) :
    Calls Tryd.prog 8 #[v1, v2] w fun e w' => ∃ (v : Value) (c : List Nat) (at_ f : Int), e = .returned (.tuple #[v, errV f]) ∧ Pl.PlacesR S G c at_ f ∧ IRow w' w.heap.size v (Pl.hol c c.length) ∧ Below w.heap.size w w' := by
  obtain ⟨o1, c1, rfl, l1, m1, n1, -⟩ := pks_open h1
  obtain ⟨o2, c2, rfl, l2, m2, n2, -⟩ := pks_open h2
  have PA := Lib.hid (places_any _ _ S G w h1 h2)
  clear h1 h2
  go_enter Tryd.func8, Tryd.ntmps8
  go_upto_region 2 with (go_at_call 17; (with_reducible refine PA.out.mono ?_); rintro e z ⟨v, c, at_, f, rfl, hr, ro, k⟩; have HR := Lib.hid hr; have RO := Lib.hid ro; have K := Lib.hid k; clear hr ro k)
  clear PA
  by_cases hf : f = 0
  case neg =>
    obtain ⟨ev, hev⟩ : ∃ ev, errV f = ev := ⟨_, rfl⟩
    have HV := Lib.hid hev
    have hne : ev = .iface 52 (.int .i64 f) := by rw [← hev]; exact errV_hit f hf
    have HN := Lib.hid (show c = [] from HR.out.nil hf)
    rw [hev, hne]
    rw [hne] at HV
    clear hev hne
    go_wp2_with fail
    go_ret2
    exact ⟨.slice none 0 0, _, _, f, by rw [HV.out]; rfl, HR.out, by rw [HN.out]; exact IRow.nil _ _, K.out⟩
  subst hf
  rw [errV_nil]
  obtain ⟨oa, cap, rfl, rd⟩ := intRow_read RO.out
  obtain ⟨bd, hcl⟩ := HR.out.bd
  have RD := Lib.hid (show ∀ k, k < c.length → ∃ g, oa = some ⟨g, 0, none⟩ ∧ g < z.heap.size ∧ z.cell? ⟨g, k, none⟩ = some (.int .i64 (c.getD k 0 : Nat)) from fun k hk => by
    obtain ⟨g, e, -, h2, h3⟩ := rd k (c.getD k 0 : Nat) (by simp [Pl.ci, List.getD, hk])
    exact ⟨g, e, h2, h3⟩)
  have BD := Lib.hid (show ∀ k, c.getD k 0 < 1000 from fun k => by
    by_cases hk : k < c.length
    · have := bd c[k] (List.getElem_mem hk); simpa [List.getD, hk] using this
    · simp [List.getD, hk])
  rw [Pl.ci_len]
  clear rd bd RO
  obtain ⟨n, hn⟩ : ∃ n, c.length = n := ⟨_, rfl⟩
  have HN := Lib.hid hn
  rw [hn] at RD hcl ⊢
  clear hn
  go_upto_region 6 with fail
  go_loopw [9, 10] (fun s9 s10 wr => ∃ i : Nat, 1 ≤ i ∧ (i ≤ n ∨ i = 1) ∧ s10 = .int .i64 i ∧ Hid (IRow wr z.heap.size s9 (Pl.hol c i)) ∧ Hid (Below z.heap.size z wr)) (fun _ s10 _ => n - (intOf s10).toNat)
  case atStart => exact ⟨1, by omega, .inr rfl, rfl, Lib.hid (IRow.nil _ _), Lib.hid (Below.refl _ _)⟩
  case round =>
    obtain ⟨i, h1, hi, rfl, RO, KZ⟩ := hrel
    by_cases hlt : i < n
    · obtain ⟨g, rfl, hg, q0⟩ := RD.out i hlt
      obtain ⟨g', e, -, q1⟩ := RD.out (i - 1) (by omega)
      cases e
      have q0 := (KZ.out.cell (p := ⟨g, i, none⟩) hg).trans q0
      have q1 := (KZ.out.cell (p := ⟨g, i - 1, none⟩) hg).trans q1
      have b0 := BD.out i
      have b1 := BD.out (i - 1)
      have HS := Lib.hid (Pl.hol_step c i h1)
      have hlen : (Pl.hol c i).length ≤ 1000 := by rw [Pl.hol_len]; omega
      generalize c.getD i 0 = x at *
      generalize c.getD (i - 1) 0 = y at *
      have hzr := KZ.out.size
      obtain ⟨gN, capN, wN, hr, ro, kn⟩ : ∃ gN capN wN, (Builtin.append_ #[22, 22] 22 #[u9, .slice (some ⟨wr.heap.size, 0, none⟩) 1 1]).run Tryd.prog (wr.alloc (.cells #[.int .i64 ((x : Int) - y - 1)] 3)).drew = .ok (.slice (some ⟨gN, 0, none⟩) ((Pl.hol c i).length + 1) capN) wN ∧ IRow wN z.heap.size (.slice (some ⟨gN, 0, none⟩) ((Pl.hol c i).length + 1) capN) (Pl.hol c i ++ [(x : Int) - y - 1]) ∧ Below z.heap.size z wN := IRow.more (RO.out.below (Below.drewN (Below.refl _ _) 1)) ((x : Int) - y - 1) (by omega) (Below.drewN KZ.out 1) (Nat.le_refl _)
      have HRN := Lib.hid hr
      have RON := Lib.hid ro
      have KZN := Lib.hid kn
      clear hr ro kn
      have q0a : (wr.alloc (.cells #[.int .i64 ((x : Int) - y - 1)] 3)).cell? ⟨g, i, none⟩ = some (.int .i64 (x : Nat)) := by rw [← q0]; exact (Below.alloc (Below.refl _ _) (Nat.le_refl _) _).cell (by show g < _; omega)
      have q1a : (wr.alloc (.cells #[.int .i64 ((x : Int) - y - 1)] 3)).cell? ⟨g, i - 1, none⟩ = some (.int .i64 (y : Nat)) := by rw [← q1]; exact (Below.alloc (Below.refl _ _) (Nat.le_refl _) _).cell (by show g < _; omega)
      have i1 : (0 : Int) ≤ ((i - 1 : Nat) : Int) := by omega
      have i2 : ((i - 1 : Nat) : Int) < (n : Int) := by omega
      have i4 : IntKind.i64.wrap ((i : Int) - 1) = ((i - 1 : Nat) : Int) := by rw [IntKind.wrap_i64]; omega
      have i5 : (0 : Int) ≤ (i : Int) := by omega
      have i6 : (i : Int) < (n : Int) := by omega
      have i7 : IntKind.i64.wrap ((x : Int) - y) = (x : Int) - y := by rw [IntKind.wrap_i64]; omega
      have i8 : IntKind.i64.wrap ((x : Int) - y - 1) = (x : Int) - y - 1 := by rw [IntKind.wrap_i64]; omega
      go_upto_region 8 with fail
      go_region_law (first | (refine step_append_at rfl (.tmp 27) (.tmp 39) 22 22 rfl _ _ rfl rfl _ _ HRN.out ?_))
      all_goals
        go_wp2_with fail
        go_roundw
        case measure => simp [intOf]; omega
        case rel => exact ⟨i + 1, by omega, by omega, by go_num, Lib.hid (by rw [HS.out]; exact RON.out), KZN⟩
    · have HL := Lib.hid (show Pl.hol c i = Pl.hol c c.length by
        rcases hi with h | h
        · rw [HN.out, show i = n by omega]
        · rw [Pl.hol_nil c i (by omega), Pl.hol_nil c c.length (by rw [HN.out]; omega)])
      go_wp2_with fail
      go_ret2
      exact ⟨_, c, at_, 0, rfl, HR.out, by rw [← HL.out]; exact RO.out.lower K.out.size, K.out.trans (KZ.out.mono K.out.size)⟩
end Go.Proofs.YtggfhcidmnageaaDoor
