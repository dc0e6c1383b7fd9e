import Derived.Test.YtggfhcidmnageaaDoorABk
import Derived.Test.YtggfhcidmnageaaDoorARow
import Derived.Test.YtggfhcidmnageaaDoorHoles
import Derived.Test.YtggfhcidmnageaaDoorErrV
import Derived.Test.YtggfhcidmnageaaDoorSlRows
import Derived.Deep.CutBlock
/-! The walk of the law AuditBack. -/
namespace Go.Proofs.YtggfhcidmnageaaDoor
open Go.RowKit
set_option linter.unusedVariables false
set_option linter.unusedSimpArgs false
theorem pb_cell {y : World} {M g c n : Nat} {L : List PX} (h : pbK.Own y M (.slice (some ⟨g, 0, none⟩) n c) L) (k : Nat) (x : PX) (hx : L[k]? = some x) (j : Nat) (u : Value) (hu : (PkR.cells x.1)[j]? = some u) : y.cell? ⟨g, k * 6 + j, none⟩ = some u := by
  obtain ⟨oa, cap, e, rd⟩ := RecK.Own.read pbK_ok h
  cases e
  obtain ⟨g, e, -, -, r⟩ := rd k x hx
  cases e
  exact r j u hu
theorem incr_ge {J : List Nat} (h : J.Pairwise (· < ·)) : ∀ k (hk : k < J.length), k ≤ J[k] := by
  intro k
  induction k with
  | zero => intro _; exact Nat.zero_le _
  | succ k ih =>
    intro hk
    have a := ih (by omega)
    have b := (List.pairwise_iff_getElem.1 h) k (k + 1) (by omega) hk (by omega)
    omega
theorem incr_len {J : List Nat} (h : J.Pairwise (· < ·)) {n : Nat} (hn : ∀ j ∈ J, j < n) : J.length ≤ n := by
  by_cases e : J.length = 0
  · omega
  · have a := incr_ge h (J.length - 1) (by omega)
    have b := hn _ (List.getElem_mem (show J.length - 1 < J.length by omega))
    omega
theorem none_places : Pl.PlacesR [] [⟨0, 0, 0, 0, false, .slice none 0 0, []⟩] [] 0 5 :=
  .inr ⟨by simp, .inr ⟨0, [], 0, _, .nil, rfl, fun j x _ h => by simp at h, rfl, rfl, rfl⟩⟩
theorem nilPks (w : World) : IsPks w (.slice none 0 0) [] := ⟨.inl ⟨rfl, none, 0, rfl, by simp, fun _ => rfl⟩, by simp⟩
theorem zeroPks (w : World) : IsPks (w.alloc (.cells #[.int .i64 0, .int .i64 0, .int .i64 0, .int .i64 0, .bool false, .slice none 0 0] 29)) (.slice (some ⟨w.heap.size, 0, none⟩) 1 1) [⟨0, 0, 0, 0, false, .slice none 0 0, []⟩] := by
  have hb := obj_new w (.cells #[.int .i64 0, .int .i64 0, .int .i64 0, .int .i64 0, .bool false, .slice none 0 0] 29)
  refine ⟨.inr ⟨w.heap.size, 0, 1, rfl, by simp, by unfold maxLen; omega, fun i hi j u hu => ?_⟩, fun p hp => ?_⟩
  · obtain rfl : i = 0 := by simp at hi; omega
    rw [Nat.zero_add]
    refine obj_cell hb ?_
    have hj : j < 6 := (List.getElem?_eq_some_iff.1 hu).1
    obtain rfl | rfl | rfl | rfl | rfl | rfl : j = 0 ∨ j = 1 ∨ j = 2 ∨ j = 3 ∨ j = 4 ∨ j = 5 := by omega
    all_goals (simp [Pk.cells] at hu ⊢; exact hu)
  · simp at hp
    subst hp
    exact ⟨by simp, by simp, by simp, by simp, Sl.nil _⟩
set_option maxRecDepth 100000 in
set_option maxHeartbeats 1000000 in
theorem walk_AuditBack_run (many : Int) (v1 : Value) (D : List Int) (w : World) (h1 : IsInts w v1 D) (hE : Env w) :
    Calls Tryd.prog 3 #[.int .i64 many, v1] w fun e w' => e = .returned (.bool true) ∧ Below w.heap.size w w' := by
  obtain ⟨od, cd, rfl, ld, rd⟩ := ints_read h1
  unfold maxLen at ld
  have RD := Lib.hid (show ∀ y, Below w.heap.size w y → ∀ k, k < D.length → ∃ b f, od = some ⟨b, f, none⟩ ∧ y.cell? ⟨b, f + k, none⟩ = some (.int .i64 (D.getD k 0)) from fun y kk k hk => by
    obtain ⟨b, f, e, hb, q, z⟩ := rd k hk
    exact ⟨b, f, e, (kk.cell (p := ⟨b, f + k, none⟩) hb).trans q⟩)
  have ES := Lib.hid (fun (j : Int) y (hh : Below w.heap.size w y) => error_same j y (hE.below hh))
  clear rd h1 hE
  have K0 := Lib.hid ((Below.refl w.heap.size w).alloc (Nat.le_refl _) (.cells #[.int .i64 0, .int .i64 0, .int .i64 0, .int .i64 0, .bool false, .slice none 0 0] 29))
  have C0 := Lib.hid ((auditCheck_any _ _ _ _ _ (nilPks _) (zeroPks w)).mono (R' := fun r w' => r = .returned (.tuple #[.int .i64 0, errV 5]) ∧ Below (w.alloc (.cells #[.int .i64 0, .int .i64 0, .int .i64 0, .int .i64 0, .bool false, .slice none 0 0] 29)).heap.size (w.alloc (.cells #[.int .i64 0, .int .i64 0, .int .i64 0, .int .i64 0, .bool false, .slice none 0 0] 29)) w') (fun r w' ⟨c', a', f', h1, h2, h3⟩ => by
    obtain ⟨-, rfl, rfl⟩ := h2.eq none_places
    exact ⟨h1, h3⟩))
  go_enter Tryd.func3, Tryd.ntmps3
  go_upto_region 3 with (first
    | (go_at_call 6; (with_reducible refine C0.out.mono ?_); rintro r z1 ⟨rfl, k⟩; have K1 := Lib.hid (K0.out.trans (k.mono K0.out.size)); clear k)
    | (go_at_call 7; (with_reducible refine (ES.out 5 _ K1.out).mono ?_); rintro r z2 ⟨rfl, k⟩; have K2 := Lib.hid (K1.out.trans (k.mono K1.out.size)); clear k)
    | fail)
  clear C0 K0 K1
  refine abs_t (fun y => Hid (Below w.heap.size w y)) K2 ?_
  clear K2
  rintro y0 KY
  by_cases hm : many < 2
  · go_wp2_with fail
    go_ret
    exact ⟨rfl, KY.out⟩
  by_cases hm2 : 200 < many
  · go_wp2_with fail
    go_ret
    exact ⟨rfl, KY.out⟩
  obtain ⟨M, hM⟩ : ∃ M : Nat, many = M := ⟨many.toNat, by omega⟩
  subst hM
  have hM1 : 2 ≤ M ∧ M ≤ 200 := by omega
  obtain ⟨hM1, hM2⟩ := hM1
  have A0 := Lib.hid (show ABk w (.slice none 0 0) (.slice none 0 0) (.slice none 0 0) [] [] [] [] y0 from
    ⟨RecK.Own.nil _ _, RecK.Own.nil _ _, IRow.nil _ _, fun k e => by simp [Value.ownBlock] at e, fun i x h => by simp at h, fun i x h => by simp at h, QJ.nil _, List.Pairwise.nil, fun j h => by simp at h, KY.out⟩)
  clear hm hm2
  go_upto_region 10 with fail
  go_upto_block 0 with fail
  go_cut [8, 9, 10, 11, 12, 13, 14, 15] from 46 to 92 (fun v8 v9 v10 _ _ _ _ _ z => ∃ (P Q : List PX) (J : List Nat), P.length = M ∧ Hid (ABk w v8 v9 v10 P Q J (Pl.hol J J.length) z))
  case first =>
    go_upto_region 11 with fail
    go_loopw [8, 9, 10, 11, 12] (fun s8 s9 s10 s11 s12 wr => ∃ (i : Nat) (P Q : List PX) (J : List Nat) (bt : Int), i ≤ M ∧ s12 = .int .i64 i ∧ s11 = .int .i64 bt ∧ 0 ≤ bt ∧ bt ≤ i ∧ P.length = i ∧ Hid (ABk w s8 s9 s10 P Q J (Pl.hol J J.length) wr) ∧ Hid (0 < J.length → ∃ l, J[J.length - 1]? = some l ∧ bt = (i : Int) - 1 - l)) (fun _ _ _ _ s12 _ => M - (intOf s12).toNat)
    case atStart => exact ⟨0, [], [], [], 0, by omega, rfl, rfl, by omega, by omega, rfl, A0, Lib.hid (fun h => by simp at h)⟩
    case round =>
      clear A0
      obtain ⟨i, P, Q, J, bt, hi, rfl, rfl, hb0, hb1, hPl, AR, HJ⟩ := hrel
      by_cases hlt : i < M
      · have hw8 : IntKind.u8.wrap (i : Int) = (i : Int) := by
          have : (i : Int) % 256 = i := by omega
          first
            | (simp [IntKind.wrap, IntKind.bits, IntKind.signed]; omega)
            | (simp [IntKind.wrap]; omega)
        have hlt2 : (i : Int) < (M : Int) := by omega
        go_upto_region 14 with fail
        obtain ⟨K, hK⟩ : ∃ K, wr.heap.size = K := ⟨_, rfl⟩
        have k1 : Below wr.heap.size wr (wr.alloc (.cells #[.int .u8 i] 5)) := (Below.refl _ _).alloc (Nat.le_refl _) _
        have k2 : Below wr.heap.size wr ((wr.alloc (.cells #[.int .u8 i] 5)).alloc (.cells #[.int .i64 i, .int .i64 0, .int .i64 0, .int .i64 0, .bool false, .slice (some ⟨wr.heap.size, 0, none⟩) 1 1] 29)) := k1.alloc (by simp) _
        refine abs_t (fun y => Hid (ByAt y wr.heap.size i) ∧ Hid (PkIn y (wr.heap.size + 1) i 0 0 0 false (.slice (some ⟨wr.heap.size, 0, none⟩) 1 1)) ∧ Hid (ABk w u8 u9 u10 P Q J (Pl.hol J J.length) y) ∧ Hid (wr.heap.size + 1 < y.heap.size) ∧ Hid (u8.ownBlock ≠ some (wr.heap.size + 1)) ∧ Hid (u9.ownBlock ≠ some (wr.heap.size + 1)) ∧ Hid (u10.ownBlock ≠ some (wr.heap.size + 1))) ⟨Lib.hid (obj_old (obj_new _ _) _), Lib.hid (by unfold PkIn; rw [show wr.heap.size + 1 = (wr.alloc (.cells #[.int .u8 i] 5)).heap.size by simp]; exact obj_new _ _), Lib.hid (AR.out.keep k2), Lib.hid (by simp), Lib.hid (fun e => by have := (AR.out.rS.lt _ e).2; omega), Lib.hid (fun e => by have := (AR.out.rG.lt _ e).2; omega), Lib.hid (fun e => by have := (AR.out.rH.lt _ e).2; omega)⟩ ?_
        try simp only [World.alloc_size]
        rw [hK]
        clear hK k1 k2 AR
        rintro y ⟨BY, PK, AR, HY, N8, N9, N10⟩
        obtain ⟨p0, p1, p2, p3, p4, p5⟩ := PkIn.cells PK.out
        have BX := Lib.hid (show BkAt ((⟨i, 0, 0, 0, false, some ⟨K, 0, none⟩, 1, 1⟩ : PkR), [UInt8.ofNat i]) P.length from by rw [hPl]; exact ⟨rfl, rfl, rfl, rfl, rfl, rfl, rfl, ⟨K, rfl⟩, rfl, by omega⟩)
        obtain ⟨g8, c8, w1, hr, ha, hold⟩ := ABk.moreS AR.out ((⟨i, 0, 0, 0, false, some ⟨K, 0, none⟩, 1, 1⟩ : PkR), [UInt8.ofNat i]) BX.out (fun k hk => by
          cases hk; rw [hPl]; exact BY.out)
        rw [hPl] at hr ha
        have HR := Lib.hid hr
        have A1 := Lib.hid ha
        have HJl := Lib.hid (show ∀ j ∈ J, j < i from fun j hj => by have := AR.out.jl j hj; omega)
        have PK1 := Lib.hid (show PkIn w1 (K + 1) i 0 0 0 false (.slice (some ⟨K, 0, none⟩) 1 1) from hold _ _ PK.out N8.out)
        have M9 := Lib.hid (show u9.ownBlock ≠ some (K + 1) from N9.out)
        have hPx : (P ++ [((⟨i, 0, 0, 0, false, some ⟨K, 0, none⟩, 1, 1⟩ : PkR), [UInt8.ofNat i])])[i]? = some ((⟨i, 0, 0, 0, false, some ⟨K, 0, none⟩, 1, 1⟩ : PkR), [UInt8.ofNat i]) := by rw [← hPl]; simp
        have HPx := Lib.hid hPx
        have HPl := Lib.hid (show (P ++ [((⟨i, 0, 0, 0, false, some ⟨K, 0, none⟩, 1, 1⟩ : PkR), [UInt8.ofNat i])]).length = i + 1 from by simp [hPl])
        clear hr ha hold hPx
        go_upto_region 15 with (at_builtin; refine Lib.wpList_append_run _ rfl (.tmp 56) (.tmp 58) 30 30 rfl _ _ rfl rfl _ _ HR.out ?_)
        clear p0 p1 p2 p3 p4 p5 PK AR HY N8 BY HR BX
        generalize P ++ [((⟨i, 0, 0, 0, false, some ⟨K, 0, none⟩, 1, 1⟩ : PkR), [UInt8.ofNat i])] = P1 at *
        go_upto_region 16 with fail
        go_upto_block 2 with fail
        go_cut [14, 15] from 60 to 78 (fun v14 _ z => (∃ b : Bool, v14 = .bool b) ∧ w1 = z)
        case first =>
          go_upto_region 17 with fail
          go_loopw [14, 15] (fun s14 s15 wz => ∃ (k : Nat) (b : Bool), k ≤ D.length ∧ k ≤ 50 ∧ s15 = .int .i64 k ∧ s14 = .bool b ∧ w1 = wz) (fun _ s15 _ => D.length - (intOf s15).toNat)
          case atStart => exact ⟨0, false, by omega, by omega, rfl, rfl, rfl⟩
          case round =>
            obtain ⟨k, b, hk, hk5, rfl, rfl, rfl⟩ := hrel
            by_cases hkl : k < D.length
            · by_cases hk6 : k < 50
              · obtain ⟨bd, fd, rfl, q⟩ := RD.out _ A1.out.kb k hkl
                generalize D.getD k 0 = d at *
                have e1 : (k : Int) < (D.length : Int) := by omega
                have e2 : (k : Int) < 50 := by omega
                cases b
                · by_cases hd : d = (i : Int)
                  · have hd2 : (d == (i : Int)) = true := by simp [hd]
                    clear hd
                    go_wp2_with fail
                    go_roundw
                    case measure => simp [intOf]; omega
                    case rel => exact ⟨k + 1, true, by omega, by omega, by go_num, by first | rfl | simp, by first | rfl | trivial⟩
                  · have hd2 : (d == (i : Int)) = false := by simp [hd]
                    clear hd
                    go_wp2_with fail
                    go_roundw
                    case measure => simp [intOf]; omega
                    case rel => exact ⟨k + 1, false, by omega, by omega, by go_num, by first | rfl | simp, by first | rfl | trivial⟩
                · go_wp2_with fail
                  go_roundw
                  case measure => simp [intOf]; omega
                  case rel => exact ⟨k + 1, true, by omega, by omega, by go_num, by first | rfl | simp, by first | rfl | trivial⟩
              · have e1 : (k : Int) < (D.length : Int) := by omega
                have e2 : ¬ (k : Int) < 50 := by omega
                go_wp2_with fail
                go_meet
                exact ⟨⟨_, rfl⟩, rfl⟩
            · have e1 : ¬ (k : Int) < (D.length : Int) := by omega
              go_wp2_with fail
              go_meet
              exact ⟨⟨_, rfl⟩, rfl⟩
        case rest =>
        obtain ⟨⟨b, rfl⟩, rfl⟩ := hcut
        cases b
        case true =>
          go_wp2_with fail
          go_roundw
          case measure => simp [intOf]; omega
          case rel => exact ⟨i + 1, P1, Q, J, bt + 1, by omega, by go_num, rfl, by omega, by omega, HPl.out, A1, Lib.hid (fun h => by
              obtain ⟨l, e, hb⟩ := HJ.out h
              exact ⟨l, e, by omega⟩)⟩
        have HQJ := Lib.hid A1.out.qj.1
        have hJl : J.length ≤ i := incr_len A1.out.jr HJl.out
        have hQ9 : Q.length ≤ 999 := by have := HQJ.out; omega
        obtain ⟨o9, c9, e9, -⟩ := RecK.Own.read pbK_ok A1.out.rG
        subst e9
        have hHl : (Pl.hol J J.length).length ≤ 1000 := by rw [Pl.hol_len]; omega
        by_cases h0 : 0 < J.length
        · have e1 : (0 : Int) < (Q.length : Int) := by have := HQJ.out; omega
          obtain ⟨l, hl, hbt⟩ := HJ.out h0
          have HS := Lib.hid (show Pl.hol (J ++ [i]) (J ++ [i]).length = Pl.hol J J.length ++ [bt] from by rw [Pl.hol_snoc J l i hl h0, hbt]; congr 2; omega)
          obtain ⟨gh, ch, w2, hr, ha, hold⟩ := ABk.moreH A1.out bt hHl
          have HR := Lib.hid hr
          have A2 := Lib.hid ha
          have PK2 := Lib.hid (show PkIn w2 (K + 1) i 0 0 0 false (.slice (some ⟨K, 0, none⟩) 1 1) from hold _ _ PK1.out N10.out)
          clear hr ha hold hl hbt
          go_upto_region 24 with (at_builtin; refine Lib.wpList_append_run _ rfl (.tmp 85) (.tmp 87) 22 22 rfl _ _ rfl rfl _ _ HR.out ?_)
          clear HR A1 PK1
          obtain ⟨p0, p1, p2, p3, p4, p5⟩ := PkIn.cells PK2.out
          obtain ⟨g9, c9', w3, hr, ha, -⟩ := ABk.moreG A2.out ((⟨i, 0, 0, 0, false, some ⟨K, 0, none⟩, 1, 1⟩ : PkR), [UInt8.ofNat i]) HPx.out (fun j hj => HJl.out j hj) hQ9
          have HR2 := Lib.hid hr
          have A3 := Lib.hid (show ABk w (.slice (some ⟨g8, 0, none⟩) (i + 1) c8) (.slice (some ⟨g9, 0, none⟩) (Q.length + 1) c9') _ P1 (Q ++ [((⟨i, 0, 0, 0, false, some ⟨K, 0, none⟩, 1, 1⟩ : PkR), [UInt8.ofNat i])]) (J ++ [i]) (Pl.hol (J ++ [i]) (J ++ [i]).length) w3 from by
            rw [HS.out]; exact ha)
          clear hr ha
          go_wp2_with (at_builtin; refine Lib.wpList_append_run _ rfl (.tmp 89) (.tmp 91) 30 30 rfl _ _ rfl rfl _ _ HR2.out ?_)
          go_roundw
          case measure => simp [intOf]; omega
          case rel => exact ⟨i + 1, P1, Q ++ [((⟨i, 0, 0, 0, false, some ⟨K, 0, none⟩, 1, 1⟩ : PkR), [UInt8.ofNat i])], J ++ [i], 0, by omega, by go_num, rfl, by omega, by omega, HPl.out, A3, Lib.hid (fun _ => ⟨i, by simp, by omega⟩)⟩
        · have e1 : ¬ (0 : Int) < (Q.length : Int) := by have := HQJ.out; omega
          have HJn := Lib.hid (show J = [] from List.length_eq_zero_iff.1 (by omega))
          have HS := Lib.hid (show Pl.hol (J ++ [i]) (J ++ [i]).length = Pl.hol J J.length from by rw [HJn.out]; rfl)
          go_upto_region 24 with fail
          obtain ⟨p0, p1, p2, p3, p4, p5⟩ := PkIn.cells PK1.out
          obtain ⟨g9, c9', w3, hr, ha, -⟩ := ABk.moreG A1.out ((⟨i, 0, 0, 0, false, some ⟨K, 0, none⟩, 1, 1⟩ : PkR), [UInt8.ofNat i]) HPx.out (fun j hj => HJl.out j hj) hQ9
          have HR2 := Lib.hid hr
          have A3 := Lib.hid (show ABk w (.slice (some ⟨g8, 0, none⟩) (i + 1) c8) (.slice (some ⟨g9, 0, none⟩) (Q.length + 1) c9') _ P1 (Q ++ [((⟨i, 0, 0, 0, false, some ⟨K, 0, none⟩, 1, 1⟩ : PkR), [UInt8.ofNat i])]) (J ++ [i]) (Pl.hol (J ++ [i]) (J ++ [i]).length) w3 from by
            rw [HS.out]; exact ha)
          clear hr ha
          go_wp2_with (at_builtin; refine Lib.wpList_append_run _ rfl (.tmp 89) (.tmp 91) 30 30 rfl _ _ rfl rfl _ _ HR2.out ?_)
          go_roundw
          case measure => simp [intOf]; omega
          case rel => exact ⟨i + 1, P1, Q ++ [((⟨i, 0, 0, 0, false, some ⟨K, 0, none⟩, 1, 1⟩ : PkR), [UInt8.ofNat i])], J ++ [i], 0, by omega, by go_num, rfl, by omega, by omega, HPl.out, A3, Lib.hid (fun _ => ⟨i, by simp, by omega⟩)⟩
      · obtain rfl : i = M := by omega
        clear HJ
        go_wp2_with fail
        go_meet
        exact ⟨P, Q, J, hPl, AR⟩
  case rest =>
  clear A0
  obtain ⟨P, Q, J, hPM, AR⟩ := hcut
  have hPl : P.length ≤ 1000 := by omega
  have hJl := incr_len AR.out.jr AR.out.jl
  have HQJ := Lib.hid AR.out.qj.1
  have hQ9 : Q.length ≤ 999 := by have := HQJ.out; omega
  have PA := Lib.hid (Pl.bk_all AR.out.pb AR.out.jr AR.out.qj hPl (by omega))
  have RO := Lib.hid (bk_row AR.out.pb hPl)
  have SW := Lib.hid (fun q0 q1 (h0 : Q[0]? = some q0) (h1 : Q[1]? = some q1) => Pl.bk_swap AR.out.pb AR.out.jr AR.out.qj hPl (by omega) h0 h1)
  have TW := Lib.hid (fun q (h0 : 0 < Q.length) (h1 : Q[Q.length - 1]? = some q) => Pl.bk_twice AR.out.pb AR.out.jr AR.out.qj hPl hQ9 h0 h1)
  clear hPM hPl hJl
  obtain ⟨o9, c9, e9, -⟩ := RecK.Own.read pbK_ok AR.out.rG
  subst e9
  have C1 := Lib.hid ((auditCheck_any _ _ _ _ _ AR.out.sent AR.out.got).mono (R' := fun r w' => r = .returned (.tuple #[.int .i64 0, .nilIface]) ∧ Below wc.heap.size wc w') (fun r w' ⟨c', a', f', h1, h2, h3⟩ => by
    obtain ⟨-, rfl, rfl⟩ := h2.eq PA.out
    exact ⟨h1, h3⟩))
  go_upto_region 27 with (go_at_call 6; (with_reducible refine C1.out.mono ?_); rintro r z1 ⟨rfl, k⟩; have A1 := Lib.hid (AR.out.keep k); clear k)
  clear C1 AR
  have C2 := Lib.hid ((auditHoles_any _ _ _ _ _ A1.out.sent A1.out.got).mono (R' := fun r w' => ∃ v', r = .returned (.tuple #[v', .nilIface]) ∧ Sl encI w' v' (Pl.hol J J.length) ∧ Below z1.heap.size z1 w') (fun r w' ⟨v', c', a', f', h1, h2, h3, h4⟩ => by
    obtain ⟨rfl, rfl, rfl⟩ := h2.eq PA.out
    exact ⟨v', h1, h3.sl, h4⟩))
  go_upto_region 28 with (go_at_call 8; (with_reducible refine C2.out.mono ?_); rintro r z2 ⟨v18, rfl, hs, k⟩; have HS := Lib.hid hs; have A2 := Lib.hid (A1.out.keep k); clear k hs)
  clear C2 A1
  have C3 := Lib.hid ((sameInts_eq _ _ _ z2 HS.out A2.out.rH.sl).mono (R' := fun r w' => r = .returned (.bool true) ∧ Below z2.heap.size z2 w') (fun e w' ⟨h, n, hn⟩ => ⟨h, hn ▸ Below.drewN (Below.refl _ _) n⟩))
  go_upto_region 29 with (go_at_call 9; (with_reducible refine C3.out.mono ?_); rintro r z3 ⟨rfl, k⟩; have A3 := Lib.hid (A2.out.keep k); clear k)
  clear C3 A2 HS
  have C4 := Lib.hid ((auditRow_any _ _ _ A3.out.sent).mono (R' := fun r w' => r = .returned (.tuple #[.int .i64 0, .nilIface]) ∧ Below z3.heap.size z3 w') (fun r w' ⟨a', f', h1, h2, h3⟩ => by
    obtain ⟨rfl, rfl⟩ := h2.eq RO.out
    exact ⟨h1, h3⟩))
  go_upto_region 30 with (go_at_call 10; (with_reducible refine C4.out.mono ?_); rintro r z4 ⟨rfl, k⟩; have A4 := Lib.hid (A3.out.keep k); clear k)
  clear C4 A3 PA RO
  go_upto_region 32 with fail
  by_cases hq2 : Q.length < 2
  · have e1 : (Q.length : Int) < 2 := by omega
    go_wp2_with fail
    go_ret
    exact ⟨rfl, A4.out.kb⟩
  have e1 : ¬ (Q.length : Int) < 2 := by omega
  obtain ⟨g9, c9', e⟩ := Joins.ownsRow_form A4.out.rG (by omega)
  cases e
  have g9t := A4.out.rG.blk (g := g9) rfl
  obtain ⟨hg9, cur9, hcur9⟩ := g9t
  -- the first copy
  obtain ⟨vB, w5, hr, ho, hg, hbk⟩ := RecK.run_more pbK_ok z4 w.heap.size (.slice none 0 0) [] Q (RecK.Own.nil _ _) ⟨g9, 0, none⟩ c9 (fun j u hu => A4.out.rG.cells (g := g9) rfl j u hu) (by simp; omega) A4.out.kb.size
  have ho2 := ho
  rw [List.nil_append] at ho2
  obtain ⟨gB, cB, rfl⟩ := Joins.ownsRow_form ho2 (by omega)
  have hgB : gB = z4.heap.size := by
    rcases hbk with q | q
    · simp [Value.ownBlock] at q
    · simpa [Value.ownBlock] using q
  have HR := Lib.hid hr
  have A5 := Lib.hid (A4.out.keep (below_grown hg))
  have OB := Lib.hid (show pbK.Own w5 w.heap.size (.slice (some ⟨gB, 0, none⟩) Q.length cB) Q from ho2)
  have HB9 := Lib.hid (show g9 ≠ gB from by have := lt_of_block hcur9; omega)
  have HBS := Lib.hid (show u8.ownBlock ≠ some gB from fun e => by have := (A4.out.rS.lt _ e).2; omega)
  clear hr ho ho2 hg hbk hgB hcur9 A4
  obtain ⟨q0, hq0⟩ : ∃ q, Q[0]? = some q := ⟨_, List.getElem?_eq_getElem (by omega)⟩
  obtain ⟨q1, hq1⟩ : ∃ q, Q[1]? = some q := ⟨_, List.getElem?_eq_getElem (by omega)⟩
  have SWQ := Lib.hid (SW.out q0 q1 hq0 hq1)
  have MQ0 := Lib.hid (List.mem_of_getElem? hq0)
  have MQ1 := Lib.hid (List.mem_of_getElem? hq1)
  obtain ⟨⟨s0, t0, l0, lv0, st0, oa0, bn0, bc0⟩, b0⟩ := q0
  obtain ⟨⟨s1, t1, l1, lv1, st1, oa1, bn1, bc1⟩, b1⟩ := q1
  have HQ0 := Lib.hid hq0
  have HQ1 := Lib.hid hq1
  clear hq0 hq1 SW
  go_upto_region 36 with (at_builtin; refine Lib.wpList_append_run _ rfl (.tmp 134) (.tmp 135) 30 30 rfl _ _ rfl rfl _ _ HR.out ?_)
  clear HR
  have p0 : w5.cell? ⟨g9, 6, none⟩ = some (.int .i64 s1) := pb_cell A5.out.rG 1 _ HQ1.out 0 _ rfl
  have p1 : w5.cell? ⟨g9, 7, none⟩ = some (.int .i64 t1) := pb_cell A5.out.rG 1 _ HQ1.out 1 _ rfl
  have p2 : w5.cell? ⟨g9, 8, none⟩ = some (.int .i64 l1) := pb_cell A5.out.rG 1 _ HQ1.out 2 _ rfl
  have p3 : w5.cell? ⟨g9, 9, none⟩ = some (.int .i64 lv1) := pb_cell A5.out.rG 1 _ HQ1.out 3 _ rfl
  have p4 : w5.cell? ⟨g9, 10, none⟩ = some (.bool st1) := pb_cell A5.out.rG 1 _ HQ1.out 4 _ rfl
  have p5 : w5.cell? ⟨g9, 11, none⟩ = some (.slice oa1 bn1 bc1) := pb_cell A5.out.rG 1 _ HQ1.out 5 _ rfl
  have r0 : w5.cell? ⟨gB, 0, none⟩ = some (.int .i64 s0) := pb_cell OB.out 0 _ HQ0.out 0 _ rfl
  have r1 : w5.cell? ⟨gB, 1, none⟩ = some (.int .i64 t0) := pb_cell OB.out 0 _ HQ0.out 1 _ rfl
  have r2 : w5.cell? ⟨gB, 2, none⟩ = some (.int .i64 l0) := pb_cell OB.out 0 _ HQ0.out 2 _ rfl
  have r3 : w5.cell? ⟨gB, 3, none⟩ = some (.int .i64 lv0) := pb_cell OB.out 0 _ HQ0.out 3 _ rfl
  have r4 : w5.cell? ⟨gB, 4, none⟩ = some (.bool st0) := pb_cell OB.out 0 _ HQ0.out 4 _ rfl
  have r5 : w5.cell? ⟨gB, 5, none⟩ = some (.slice oa0 bn0 bc0) := pb_cell OB.out 0 _ HQ0.out 5 _ rfl
  obtain ⟨hgB, curB, hcurB⟩ := OB.out.blk (g := gB) rfl
  have f0 := obj_free hcurB 0
  have f1 := obj_free hcurB 1
  have f2 := obj_free hcurB 2
  have f3 := obj_free hcurB 3
  have f4 := obj_free hcurB 4
  have f5 := obj_free hcurB 5
  have O6 := Lib.hid (pb_set (i := 0) ((⟨s1, t1, l1, lv1, st1, oa1, bn1, bc1⟩ : PkR), b1) OB.out (by omega))
  have A6 := Lib.hid (ABk.keepBut A5.out hcurB hgB HBS.out (fun e => HB9.out (by simpa [Value.ownBlock] using e)) (z := ((((((w5.setCell ⟨gB, 0, none⟩ (.int .i64 s1)).setCell ⟨gB, 1, none⟩ (.int .i64 t1)).setCell ⟨gB, 2, none⟩ (.int .i64 l1)).setCell ⟨gB, 3, none⟩ (.int .i64 lv1)).setCell ⟨gB, 4, none⟩ (.bool st1)).setCell ⟨gB, 5, none⟩ (.slice oa1 bn1 bc1))) (KeepsBut.set (KeepsBut.set (KeepsBut.set (KeepsBut.set (KeepsBut.set (KeepsBut.set (KeepsBut.refl gB w5) _ _) _ _) _ _) _ _) _ _) _ _))
  go_upto_region 37 with fail
  refine abs_t (fun y => Hid (ABk w u8 (.slice (some ⟨g9, 0, none⟩) Q.length c9) u10 P Q J (Pl.hol J J.length) y) ∧ Hid (pbK.Own y w.heap.size (.slice (some ⟨gB, 0, none⟩) Q.length cB) (Q.set 0 ((⟨s1, t1, l1, lv1, st1, oa1, bn1, bc1⟩ : PkR), b1)))) ⟨A6, O6⟩ ?_
  clear p0 p1 p2 p3 p4 p5 r0 r1 r2 r3 r4 r5 f0 f1 f2 f3 f4 f5 A6 O6 A5 OB hcurB hgB
  rintro y6 ⟨A6, O6⟩
  have HS1 := Lib.hid (show (Q.set 0 ((⟨s1, t1, l1, lv1, st1, oa1, bn1, bc1⟩ : PkR), b1))[1]? = some ((⟨s1, t1, l1, lv1, st1, oa1, bn1, bc1⟩ : PkR), b1) from by rw [List.getElem?_set_ne (by omega)]; exact HQ1.out)
  have p0 : y6.cell? ⟨g9, 0, none⟩ = some (.int .i64 s0) := pb_cell A6.out.rG 0 _ HQ0.out 0 _ rfl
  have p1 : y6.cell? ⟨g9, 1, none⟩ = some (.int .i64 t0) := pb_cell A6.out.rG 0 _ HQ0.out 1 _ rfl
  have p2 : y6.cell? ⟨g9, 2, none⟩ = some (.int .i64 l0) := pb_cell A6.out.rG 0 _ HQ0.out 2 _ rfl
  have p3 : y6.cell? ⟨g9, 3, none⟩ = some (.int .i64 lv0) := pb_cell A6.out.rG 0 _ HQ0.out 3 _ rfl
  have p4 : y6.cell? ⟨g9, 4, none⟩ = some (.bool st0) := pb_cell A6.out.rG 0 _ HQ0.out 4 _ rfl
  have p5 : y6.cell? ⟨g9, 5, none⟩ = some (.slice oa0 bn0 bc0) := pb_cell A6.out.rG 0 _ HQ0.out 5 _ rfl
  have r0 : y6.cell? ⟨gB, 6, none⟩ = some (.int .i64 s1) := pb_cell O6.out 1 _ HS1.out 0 _ rfl
  have r1 : y6.cell? ⟨gB, 7, none⟩ = some (.int .i64 t1) := pb_cell O6.out 1 _ HS1.out 1 _ rfl
  have r2 : y6.cell? ⟨gB, 8, none⟩ = some (.int .i64 l1) := pb_cell O6.out 1 _ HS1.out 2 _ rfl
  have r3 : y6.cell? ⟨gB, 9, none⟩ = some (.int .i64 lv1) := pb_cell O6.out 1 _ HS1.out 3 _ rfl
  have r4 : y6.cell? ⟨gB, 10, none⟩ = some (.bool st1) := pb_cell O6.out 1 _ HS1.out 4 _ rfl
  have r5 : y6.cell? ⟨gB, 11, none⟩ = some (.slice oa1 bn1 bc1) := pb_cell O6.out 1 _ HS1.out 5 _ rfl
  obtain ⟨hgB, curB2, hcurB⟩ := O6.out.blk (g := gB) rfl
  have f0 := obj_free hcurB 6
  have f1 := obj_free hcurB 7
  have f2 := obj_free hcurB 8
  have f3 := obj_free hcurB 9
  have f4 := obj_free hcurB 10
  have f5 := obj_free hcurB 11
  have O7 := Lib.hid (pb_set (i := 1) (L := Q.set 0 ((⟨s1, t1, l1, lv1, st1, oa1, bn1, bc1⟩ : PkR), b1)) ((⟨s0, t0, l0, lv0, st0, oa0, bn0, bc0⟩ : PkR), b0) (by rw [List.length_set]; exact O6.out) (by rw [List.length_set]; omega))
  rw [List.length_set] at O7
  have A7 := Lib.hid (ABk.keepBut A6.out hcurB hgB HBS.out (fun e => HB9.out (by simpa [Value.ownBlock] using e)) (z := ((((((y6.setCell ⟨gB, 6, none⟩ (.int .i64 s0)).setCell ⟨gB, 7, none⟩ (.int .i64 t0)).setCell ⟨gB, 8, none⟩ (.int .i64 l0)).setCell ⟨gB, 9, none⟩ (.int .i64 lv0)).setCell ⟨gB, 10, none⟩ (.bool st0)).setCell ⟨gB, 11, none⟩ (.slice oa0 bn0 bc0))) (KeepsBut.set (KeepsBut.set (KeepsBut.set (KeepsBut.set (KeepsBut.set (KeepsBut.set (KeepsBut.refl gB y6) _ _) _ _) _ _) _ _) _ _) _ _))
  go_upto_region 38 with fail
  refine abs_t (fun y => Hid (ABk w u8 (.slice (some ⟨g9, 0, none⟩) Q.length c9) u10 P Q J (Pl.hol J J.length) y) ∧ Hid (pbK.Own y w.heap.size (.slice (some ⟨gB, 0, none⟩) Q.length cB) ((Q.set 0 ((⟨s1, t1, l1, lv1, st1, oa1, bn1, bc1⟩ : PkR), b1)).set 1 ((⟨s0, t0, l0, lv0, st0, oa0, bn0, bc0⟩ : PkR), b0)))) ⟨A7, O7⟩ ?_
  clear p0 p1 p2 p3 p4 p5 r0 r1 r2 r3 r4 r5 f0 f1 f2 f3 f4 f5 A7 O7 A6 O6 hcurB hgB HS1
  rintro y7 ⟨A7, O7⟩
  have IB := Lib.hid (ABk.row A7.out O7.out (fun x hx => by
    rcases List.mem_or_eq_of_mem_set hx with hx | rfl
    · rcases List.mem_or_eq_of_mem_set hx with hx | rfl
      · exact A7.out.inP hx
      · exact A7.out.inP MQ1.out
    · exact A7.out.inP MQ0.out))
  have C5 := Lib.hid ((auditCheck_any _ _ _ _ _ A7.out.sent IB.out).mono (R' := fun r w' => r = .returned (.tuple #[.int .i64 1, .iface 52 (.int .i64 5)]) ∧ Below y7.heap.size y7 w') (fun r w' ⟨c', a', f', h1, h2, h3⟩ => by
    obtain ⟨-, rfl, rfl⟩ := h2.eq SWQ.out
    exact ⟨h1, h3⟩))
  go_upto_region 39 with (go_at_call 6; (with_reducible refine C5.out.mono ?_); rintro r z8 ⟨rfl, k⟩; have A8 := Lib.hid (A7.out.keep k); clear k)
  clear C5 IB A7 O7 SWQ HBS HB9 HQ0 HQ1 MQ0 MQ1
  -- the second copy
  obtain ⟨vT, w9, hr, ho, hg, hbk⟩ := RecK.run_more pbK_ok z8 w.heap.size (.slice none 0 0) [] Q (RecK.Own.nil _ _) ⟨g9, 0, none⟩ c9 (fun j u hu => A8.out.rG.cells (g := g9) rfl j u hu) (by simp; omega) A8.out.kb.size
  have ho2 := ho
  rw [List.nil_append] at ho2
  obtain ⟨gT, cT, rfl⟩ := Joins.ownsRow_form ho2 (by omega)
  have hgT : gT = z8.heap.size := by
    rcases hbk with q | q
    · simp [Value.ownBlock] at q
    · simpa [Value.ownBlock] using q
  have HR := Lib.hid hr
  have A9 := Lib.hid (A8.out.keep (below_grown hg))
  have OT := Lib.hid (show pbK.Own w9 w.heap.size (.slice (some ⟨gT, 0, none⟩) Q.length cT) Q from ho2)
  have HT9 := Lib.hid (show ∀ k, u8.ownBlock = some k ∨ k = g9 → k ≠ gT from fun k e => by
    rcases e with e | rfl
    · have := (A8.out.rS.lt _ e).2; omega
    · have := (A8.out.rG.lt k rfl).2; omega)
  clear hr ho ho2 hg hbk hgT A8
  go_upto_region 41 with (at_builtin; refine Lib.wpList_append_run _ rfl (.tmp 153) (.tmp 154) 30 30 rfl _ _ rfl rfl _ _ HR.out ?_)
  clear HR
  obtain ⟨ql, hql⟩ : ∃ q, Q[Q.length - 1]? = some q := ⟨_, List.getElem?_eq_getElem (by omega)⟩
  have TWQ := Lib.hid (TW.out ql (by omega) hql)
  have MQL := Lib.hid (List.mem_of_getElem? hql)
  obtain ⟨⟨s0, t0, l0, lv0, st0, oa0, bn0, bc0⟩, b0⟩ := ql
  have HQL := Lib.hid hql
  clear hql TW
  have kA : Below w9.heap.size w9 (w9.alloc (.cells (PkR.cells ⟨s0, t0, l0, lv0, st0, oa0, bn0, bc0⟩).toArray 29)) := (Below.refl _ _).alloc (Nat.le_refl _) _
  obtain ⟨vU, wA, hr, ho, hg, hbk⟩ := RecK.run_one pbK_ok (w9.alloc (.cells (PkR.cells ⟨s0, t0, l0, lv0, st0, oa0, bn0, bc0⟩).toArray 29)) w.heap.size (.slice (some ⟨gT, 0, none⟩) Q.length cT) ((⟨s0, t0, l0, lv0, st0, oa0, bn0, bc0⟩ : PkR), b0) Q (OT.out.below kA) w9.heap.size (obj_new _ _) (by omega) (by have := A9.out.kb.size; simp; omega)
  have HR := Lib.hid hr
  obtain ⟨hgT2, curT, hcurT⟩ := OT.out.blk (g := gT) rfl
  have AA := Lib.hid (ABk.keepBut A9.out hcurT hgT2 (fun e => HT9.out _ (.inl e) rfl) (fun e => HT9.out g9 (.inr rfl) (by simpa [Value.ownBlock] using e)) (z := wA) ⟨hg.os.trans kA.os, hg.tape.trans kA.tape, hg.output.trans kA.output, Nat.le_trans kA.size hg.size, fun j hj hn => (hg.block j (by simp; omega) (fun q => hn (by simpa [Value.ownBlock] using q))).trans (kA.block j hj)⟩)
  have OU := Lib.hid (show pbK.Own wA w.heap.size vU (Q ++ [((⟨s0, t0, l0, lv0, st0, oa0, bn0, bc0⟩ : PkR), b0)]) from ho)
  have p0 : w9.cell? ⟨g9, (Q.length - 1) * 6, none⟩ = some (.int .i64 s0) := pb_cell A9.out.rG _ _ HQL.out 0 _ rfl
  have p1 : w9.cell? ⟨g9, (Q.length - 1) * 6 + 1, none⟩ = some (.int .i64 t0) := pb_cell A9.out.rG _ _ HQL.out 1 _ rfl
  have p2 : w9.cell? ⟨g9, (Q.length - 1) * 6 + 2, none⟩ = some (.int .i64 l0) := pb_cell A9.out.rG _ _ HQL.out 2 _ rfl
  have p3 : w9.cell? ⟨g9, (Q.length - 1) * 6 + 3, none⟩ = some (.int .i64 lv0) := pb_cell A9.out.rG _ _ HQL.out 3 _ rfl
  have p4 : w9.cell? ⟨g9, (Q.length - 1) * 6 + 4, none⟩ = some (.bool st0) := pb_cell A9.out.rG _ _ HQL.out 4 _ rfl
  have p5 : w9.cell? ⟨g9, (Q.length - 1) * 6 + 5, none⟩ = some (.slice oa0 bn0 bc0) := pb_cell A9.out.rG _ _ HQL.out 5 _ rfl
  clear hr ho hg hbk hcurT hgT2 kA A9 OT HT9
  have i1 : IntKind.i64.wrap ((Q.length : Int) - 1) = ((Q.length - 1 : Nat) : Int) := by rw [IntKind.wrap_i64]; omega
  have i2 : (0 : Int) ≤ ((Q.length - 1 : Nat) : Int) := by omega
  have i3 : ((Q.length - 1 : Nat) : Int) < (Q.length : Int) := by omega
  have IU := Lib.hid (ABk.row AA.out OU.out (fun x hx => by
    rcases List.mem_append.1 hx with hx | hx
    · exact AA.out.inP hx
    · have : x = _ := List.mem_singleton.1 hx
      subst this
      exact AA.out.inP MQL.out))
  have C6 := Lib.hid ((auditCheck_any _ _ _ _ _ AA.out.sent IU.out).mono (R' := fun r w' => ∃ a : Int, r = .returned (.tuple #[.int .i64 a, .iface 52 (.int .i64 5)]) ∧ Below wA.heap.size wA w') (fun r w' ⟨c', a', f', h1, h2, h3⟩ => by
    obtain ⟨-, rfl, rfl⟩ := h2.eq TWQ.out
    exact ⟨_, h1, h3⟩))
  go_upto_region 42 with (at_builtin; refine Lib.wpList_append_run _ rfl (.tmp 156) (.tmp 163) 30 30 rfl _ _ rfl rfl _ _ HR.out ?_)
  go_wp2_with (go_at_call 6; (with_reducible refine C6.out.mono ?_); rintro r zB ⟨a, rfl, k⟩; have KB := Lib.hid (AA.out.kb.trans (k.mono AA.out.kb.size)); clear k)
  go_ret
  exact ⟨rfl, KB.out⟩
theorem walk_AuditBack (w : World) (many : Int) (hm : (Lit.int .i64 many).wf = true) (v1 : Value) (D : List Int) (o1 : IsInts w v1 D) (hE : Env w) :
    Calls Tryd.prog 3 #[.int .i64 many, v1] w fun e w' => e = .returned (.bool true) ∧ Below w.heap.size w w' :=
  walk_AuditBack_run many v1 D w o1 hE
end Go.Proofs.YtggfhcidmnageaaDoor
