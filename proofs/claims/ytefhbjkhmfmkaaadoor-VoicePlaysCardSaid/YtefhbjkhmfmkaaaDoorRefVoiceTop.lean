import Derived.Test.YtefhbjkhmfmkaaaDoorRefVoiceA
import Derived.Test.YtefhbjkhmfmkaaaDoorPVoiceD
/-! choirref3.Voices.Top: the scores, the greatest first. -/
namespace Go.Proofs.YtefhbjkhmfmkaaaDoor
open Go.RowKit
set_option linter.unusedVariables false
set_option linter.unusedSimpArgs false
/-- those of the first i, by vBef -/
structure Pl.TopL (K : List Vc) (i : Nat) (O : List Vc) : Prop where
  len : O.length = i
  ord : O.Pairwise Pl.vBef
  mem : ∀ x, x ∈ O ↔ x ∈ K.take i
theorem Pl.TopL.start (K : List Vc) : Pl.TopL K 0 [] := ⟨rfl, List.Pairwise.nil, fun x => by simp⟩
theorem Pl.TopL.put {K O : List Vc} {i k : Nat} (h : Pl.TopL K i O) (hK : K.Pairwise fun x y => x.who < y.who) (hi : i < K.length) (hk : k ≤ O.length) (h1 : ∀ j, k ≤ j → ∀ hj : j < O.length, O[j].lvl < K[i].lvl) (h2 : k = 0 ∨ ∀ hj : k - 1 < O.length, ¬ O[k - 1].lvl < K[i].lvl) : Pl.TopL K (i + 1) (O.take k ++ [K[i]] ++ O.drop k) := by
  have hw : ∀ x ∈ O, x.who < K[i].who := fun x hx => by
    obtain ⟨m, hm, rfl⟩ := List.mem_take_iff_getElem.1 ((h.mem x).1 hx)
    exact (List.pairwise_iff_getElem.1 hK) m i (by omega) hi (by omega)
  have hb : ∀ x ∈ O.take k, Pl.vBef x K[i] := fun x hx => by
    obtain ⟨m, hm, rfl⟩ := List.mem_take_iff_getElem.1 hx
    have hwm := hw O[m] (List.getElem_mem _)
    have h3 : ¬ O[k - 1].lvl < K[i].lvl := by
      rcases h2 with h2 | h2
      · omega
      · exact h2 (by omega)
    by_cases e : m = k - 1
    · subst e; unfold Pl.vBef; omega
    · have := (List.pairwise_iff_getElem.1 h.ord) m (k - 1) (by omega) (by omega) (by omega)
      unfold Pl.vBef at *; omega
  have ha : ∀ x ∈ O.drop k, Pl.vBef K[i] x := fun x hx => by
    obtain ⟨m, hm, rfl⟩ := List.mem_iff_getElem.1 hx
    rw [List.getElem_drop]
    have := h1 (k + m) (by omega) (by simp at hm; omega)
    unfold Pl.vBef; omega
  refine ⟨?_, ?_, fun x => ?_⟩
  · have := h.len; simp; omega
  · rw [List.append_assoc, List.pairwise_append]
    have hp : (O.take k ++ O.drop k).Pairwise Pl.vBef := by rw [List.take_append_drop]; exact h.ord
    obtain ⟨p1, p2, p3⟩ := List.pairwise_append.1 hp
    refine ⟨p1, ?_, fun x hx y hy => ?_⟩
    · rw [List.singleton_append, List.pairwise_cons]; exact ⟨ha, p2⟩
    · rw [List.singleton_append] at hy
      rcases List.mem_cons.1 hy with rfl | hy
      · exact hb x hx
      · exact p3 x hx y hy
  · rw [List.take_succ_eq_append_getElem hi]
    have e : x ∈ O ↔ x ∈ O.take k ∨ x ∈ O.drop k := by
      rw [← List.mem_append, List.take_append_drop]
    have m := h.mem x
    rw [List.mem_append, List.mem_append, List.mem_append, ← m, e]
    constructor
    · rintro ((h | h) | h)
      · exact .inl (.inl h)
      · exact .inr h
      · exact .inl (.inr h)
    · rintro ((h | h) | h)
      · exact .inl (.inl h)
      · exact .inr h
      · exact .inl (.inr h)
theorem Pl.TopL.sorted {K O : List Vc} {f : Pl.Sco} (h : Pl.TopL K K.length O) (hm : ∀ who lv, (⟨who, lv⟩ : Vc) ∈ K ↔ f who = some lv) : Pl.SortedOf f O := ⟨h.ord, fun who lv => by rw [h.mem, List.take_length]; exact hm who lv⟩
set_option maxRecDepth 100000 in
set_option maxHeartbeats 2000000 in
theorem rVoiceTop_any (b : Nat) (many sp : Int) (vK : Value) (K : List Vc) (w : World) (hR : RVo w b many sp vK) (hK : IsVs w vK K) (hKl : K.length ≤ 200) (hKr : K.Pairwise fun x y => x.who < y.who) :
    Calls Tryd.prog 8 #[.pointer (some ⟨b, 0, none⟩)] w fun e w' => ∃ (v' : Value) (O : List Vc), e = .returned v' ∧ Pl.TopL K K.length O ∧ vcK.Own w' w.heap.size v' O ∧ Below w.heap.size w w' := by
  obtain ⟨oK, cK, rfl, hlK, hcK, -, rK⟩ := vs_read hK
  unfold maxLen at hcK
  have RK := Lib.hid (show ∀ y, Below w.heap.size w y → ∀ k (hk : k < K.length), ∃ g f, oK = some ⟨g, f, none⟩ ∧ y.cell? ⟨g, f + k * 2, none⟩ = some (.int .i64 K[k].who) ∧ y.cell? ⟨g, f + k * 2 + 1, none⟩ = some (.int .i64 K[k].lvl) from fun y kk k hk => by
    obtain ⟨g, f, e, hb, q0, q1, -⟩ := rK k hk
    exact ⟨g, f, e, (kk.cell (p := ⟨g, f + k * 2, none⟩) hb).trans q0, (kk.cell (p := ⟨g, f + k * 2 + 1, none⟩) hb).trans q1⟩)
  have C2 := Lib.hid (show ∀ y, Below w.heap.size w y → y.cell? ⟨b, 2, none⟩ = some (.slice oK K.length cK) from fun y kk => obj_cell (Below.heapAt kk hR (lt_of_block hR)) rfl)
  have HKR := Lib.hid hKr
  have HKL := Lib.hid hKl
  have K0 := Lib.hid (Below.refl w.heap.size w)
  have O0 := Lib.hid (RecK.Own.nil (R := vcK) w w.heap.size)
  have T0 := Lib.hid (Pl.TopL.start K)
  clear rK hR hK hKl hKr
  go_enter Tryd.func8, Tryd.ntmps8
  go_upto_region 3 with fail
  go_loopw [3, 4, 5, 6] (fun s3 s4 _ _ wr => ∃ (i : Nat) (O : List Vc), i ≤ K.length ∧ s4 = .int .i64 i ∧ (i = 0 → s3 = .slice none 0 0) ∧ Hid (Pl.TopL K i O) ∧ Hid (vcK.Own wr w.heap.size s3 O) ∧ Hid (Below w.heap.size w wr)) (fun _ s4 _ _ _ => K.length - (intOf s4).toNat)
  case atStart => exact ⟨0, [], by omega, rfl, fun _ => rfl, T0, O0, K0⟩
  case round =>
    as_aux_lemma =>
    clear K0 O0 T0
    obtain ⟨i, O, hi, rfl, hz, TL, OW, KR⟩ := hrel
    by_cases hlt : i < K.length
    · have hi2 := HKL.out
      have e1 : (i : Int) < (K.length : Int) := by omega
      have PUT := Lib.hid (fun k => Pl.TopL.put (k := k) TL.out HKR.out hlt)
      have RX := Lib.hid (show ∀ y, Below w.heap.size w y → ∃ g f, oK = some ⟨g, f, none⟩ ∧ y.cell? ⟨g, f + i * 2, none⟩ = some (.int .i64 K[i].who) ∧ y.cell? ⟨g, f + i * 2 + 1, none⟩ = some (.int .i64 K[i].lvl) from fun y kk => RK.out y kk i hlt)
      have c2 := C2.out _ KR.out
      have TLN := Lib.hid TL.out.len
      obtain ⟨x, hx⟩ : ∃ x, K[i] = x := ⟨_, rfl⟩
      rw [hx] at PUT RX
      clear hx
      obtain ⟨xw, xl⟩ := x
      dsimp only at PUT RX
      by_cases h0 : i = 0
      · obtain rfl := hz h0
        subst h0
        have hO : O = [] := List.length_eq_zero_iff.1 TLN.out
        subst hO
        have TN := Lib.hid (PUT.out 0 (by simp) (fun j _ hj => by simp at hj) (.inl rfl))
        simp only [List.take_nil, List.drop_nil, List.nil_append, List.append_nil] at TN
        clear hz PUT hlt
        go_upto_block 2 with fail
        go_cut [5] from 18 to 38 (fun s5 z => s5 = .int .i64 0 ∧ Hid (Below w.heap.size w z))
        case first =>
          as_aux_lemma =>
          go_upto_region 6 with fail
          go_loopw [5] (fun s5 wq => s5 = .int .i64 0 ∧ Hid (Below w.heap.size w wq)) (fun s5 _ => 0)
          case atStart => exact ⟨rfl, KR⟩
          case round =>
            as_aux_lemma =>
            obtain ⟨rfl, KQ⟩ := hrel
            go_upto_region 6 with fail
            go_quiet (fail)
            go_wp2_with fail
            go_meet
            exact ⟨rfl, Lib.hid (Below.drewN KQ.out _)⟩
        case rest =>
        as_aux_lemma =>
        obtain ⟨rfl, KC⟩ := hcut
        go_upto_region 8 with fail
        refine abs_t (fun y => Hid (Below w.heap.size w y)) KC ?_
        clear KC
        clear KR c2
        rintro y KY
        have c2 := C2.out _ KY.out
        obtain ⟨g, fo, rfl, q0, q1⟩ := RX.out _ KY.out
        simp only [Nat.zero_mul, Nat.add_zero] at q0 q1
        obtain ⟨gN, capN, wN, hrun, ho, hk2⟩ := vc_more (RecK.Own.nil (R := vcK) y w.heap.size) ⟨xw, xl⟩ (by simp) KY.out (Nat.le_refl _)
        have HRUN := Lib.hid hrun
        have HO := Lib.hid ho
        have HK2 := Lib.hid hk2
        obtain ⟨iV, _, hiV, _⟩ := vcK_ok.info
        have HR3 := Lib.hid (run_append_owned_none (P := Tryd.prog) _ w.heap.size 30 30 38 iV 2 Tryd.underlying30 hiV _ _ _ ho)
        clear hrun ho hk2 hiV
        go_wp2_with (first
          | (at_builtin; refine Lib.wpList_append_run _ rfl (.tmp 44) (.tmp 52) 30 30 rfl _ _ rfl rfl _ _ HRUN.out ?_)
          | (at_builtin; refine Lib.wpList_append_run _ rfl (.tmp 54) (.tmp 57) 30 30 rfl _ _ rfl rfl _ _ HR3.out ?_))
        go_roundw
        case measure => simp only [intOf]; omega
        case rel => exact ⟨1, _, by omega, rfl, (fun h => by omega), TN, HO, HK2⟩
      · have hO0 : 0 < O.length := by have := TLN.out; omega
        have hO2 : O.length ≤ 200 := by have := TLN.out; omega
        obtain ⟨g, c, hv⟩ := Joins.ownsRow_form OW.out hO0
        subst hv
        clear hz
        have LO := OW.out.2
        have hcap : O.length ≤ c := by
          rcases LO with ⟨h0, _⟩ | ⟨g', cap, cur, h0, _, _, hc, _⟩
          · cases h0
          · cases h0; exact hc
        clear LO
        obtain ⟨o', c', e', rd⟩ := RecK.Own.read vcK_ok OW.out
        cases e'
        have RO := Lib.hid (show ∀ y, Below wr.heap.size wr y → ∀ k (hk : k < O.length), y.cell? ⟨g, k * 2, none⟩ = some (.int .i64 O[k].who) ∧ y.cell? ⟨g, k * 2 + 1, none⟩ = some (.int .i64 O[k].lvl) from fun y kk k hk => by
          obtain ⟨g', e, _, hl, q⟩ := rd k O[k] (by simp [hk])
          cases e
          exact ⟨(kk.cell (p := ⟨g, k * 2, none⟩) hl).trans (q 0 _ rfl), (kk.cell (p := ⟨g, k * 2 + 1, none⟩) hl).trans (q 1 _ rfl)⟩)
        have KRR := Lib.hid (show ∀ y, Below wr.heap.size wr y → Below w.heap.size w y from fun y kk => KR.out.trans (kk.mono KR.out.size))
        clear rd c2
        have c2 := C2.out _ KR.out
        have SR := Lib.hid (Below.refl wr.heap.size wr)
        obtain ⟨y, hy⟩ : ∃ y, y = wr := ⟨_, rfl⟩
        subst hy
        go_upto_block 2 with fail
        clear c2
        go_cut [5] from 18 to 38 (fun s5 z => ∃ k : Nat, k ≤ O.length ∧ s5 = .int .i64 k ∧ Hid ((∀ j, k ≤ j → ∀ hj : j < O.length, O[j].lvl < xl) ∧ (k = 0 ∨ ∀ hj : k - 1 < O.length, ¬ O[k - 1].lvl < xl)) ∧ Hid (Below y.heap.size y z))
        case first =>
          as_aux_lemma =>
          go_upto_region 6 with fail
          go_loopw [5] (fun s5 wq => ∃ k : Nat, k ≤ O.length ∧ s5 = .int .i64 k ∧ Hid (∀ j, k ≤ j → ∀ hj : j < O.length, O[j].lvl < xl) ∧ Hid (Below y.heap.size y wq)) (fun s5 _ => (intOf s5).toNat)
          case atStart => exact ⟨O.length, by omega, rfl, Lib.hid (fun j h1 h2 => by omega), SR⟩
          case round =>
            as_aux_lemma =>
            clear SR
            obtain ⟨k, hk, rfl, HJ, KQ⟩ := hrel
            have KW := Lib.hid (KRR.out _ KQ.out)
            have c2 := C2.out _ KW.out
            obtain ⟨gk, fo, rfl, q0, q1⟩ := RX.out _ KW.out
            by_cases hk0 : k = 0
            · subst hk0
              go_upto_region 6 with fail
              go_quiet (fail)
              go_wp2_with fail
              go_meet
              exact ⟨0, by omega, rfl, Lib.hid ⟨HJ.out, .inl rfl⟩, Lib.hid (Below.drewN KQ.out _)⟩
            · obtain ⟨p0, p1⟩ := RO.out _ KQ.out (k - 1) (by omega)
              have JN := Lib.hid (show O[k - 1].lvl < xl → ∀ j, k - 1 ≤ j → ∀ hj : j < O.length, O[j].lvl < xl from fun h j h1 hj => by
                by_cases e : j = k - 1
                · subst e; exact h
                · exact HJ.out j (by omega) hj)
              have JO := Lib.hid (show ¬ O[k - 1].lvl < xl → (k = 0 ∨ ∀ hj : k - 1 < O.length, ¬ O[k - 1].lvl < xl) from fun h => .inr (fun _ => h))
              obtain ⟨lo, hlo⟩ : ∃ x, O[k - 1].lvl = x := ⟨_, rfl⟩
              rw [hlo] at p1 JN
              have JO2 := Lib.hid (show ¬ lo < xl → (k = 0 ∨ ∀ hj : k - 1 < O.length, ¬ O[k - 1].lvl < xl) from fun h => JO.out (by rw [hlo]; exact h))
              clear hlo JO p0
              have i1 : (0 : Int) ≤ ((k - 1 : Nat) : Int) := by omega
              have i2 : ((k - 1 : Nat) : Int) < (O.length : Int) := by omega
              have i4 : IntKind.i64.wrap ((k : Int) - 1) = ((k - 1 : Nat) : Int) := by rw [IntKind.wrap_i64]; omega
              have i5 : (0 : Int) < (k : Int) := by omega
              have i6 : 0 < k := by omega
              have i9 : decide ((0 : Int) < (k : Int)) = true := by simp; omega
              by_cases hl : lo < xl
              · have J2 := Lib.hid (JN.out hl)
                have d1 : decide (lo < xl) = true := decide_eq_true hl
                clear JN JO2 hl
                go_upto_region 6 with fail
                go_quiet (fail)
                go_wp2_with fail
                go_roundw
                case measure => simp only [intOf]; omega
                case rel => exact ⟨k - 1, by omega, by first | rfl | simp, J2, Lib.hid (Below.drewN KQ.out _)⟩
              · have J2 := Lib.hid (JO2.out hl)
                have d1 : decide (lo < xl) = false := decide_eq_false hl
                clear JN JO2 hl
                go_upto_region 6 with fail
                go_quiet (fail)
                go_wp2_with fail
                go_meet
                exact ⟨k, by omega, rfl, Lib.hid ⟨HJ.out, J2.out⟩, Lib.hid (Below.drewN KQ.out _)⟩
        case rest =>
        as_aux_lemma =>
        obtain ⟨k, hk, rfl, HC, KC⟩ := hcut
        have TN := Lib.hid (PUT.out k hk HC.out.1 HC.out.2)
        clear PUT HC
        go_upto_region 8 with fail
        refine abs_t (fun z => Hid (Below y.heap.size y z)) KC ?_
        clear KC
        rintro z KZ
        have OZ := Lib.hid (OW.out.keep (w' := z) (fun g _ _ hl => KZ.out.block g hl))
        have KW := Lib.hid (KRR.out _ KZ.out)
        have NW := Lib.hid KW.out.size
        have RX2 := Lib.hid (fun y2 (k2 : Below z.heap.size z y2) => RX.out y2 (KW.out.trans (k2.mono KW.out.size)))
        have CC2 := Lib.hid (fun y2 (k2 : Below z.heap.size z y2) => C2.out y2 (KW.out.trans (k2.mono KW.out.size)))
        clear KRR KR KZ OW RO RX C2 RK
        have hOk : (O.take k).length = k := by rw [List.length_take]; omega
        have hOd : (O.drop k).length = O.length - k := by rw [List.length_drop]
        obtain ⟨v1, z1, r1, o1, g1, b1⟩ := RecK.run_more vcK_ok z z.heap.size (.slice none 0 0) [] (O.take k) (RecK.Own.nil _ _) ⟨g, 0, none⟩ c (fun j u hu => by
          have hc := OZ.out.cells (g := g) rfl
          refine hc j u ?_
          conv => lhs; rw [← List.take_append_drop k O]
          rw [RecK.all_app, List.getElem?_append_left (List.getElem?_eq_some_iff.1 hu).1]; exact hu) (by simp; omega) (Nat.le_refl _)
        rw [hOk] at r1
        rw [List.nil_append] at o1
        have kb1 : Below z.heap.size z z1 := ⟨g1.os, g1.tape, g1.output, g1.size, fun j hj => g1.block j hj (by simp [Value.ownBlock])⟩
        obtain ⟨gN, capN, z2, r2, o2, kb2⟩ := vc_more o1 ⟨xw, xl⟩ (by rw [hOk]; omega) kb1 (Nat.le_refl _)
        rw [hOk] at r2 o2
        have hgz := (OZ.out.lt g rfl).2
        have OZ2 := OZ.out.below kb2
        have rest : ∀ (a : Addr), (c ≠ k → a = ⟨g, k * 2, none⟩) → ∃ v3 z3, (Builtin.append_ #[30, 30] 30 #[.slice (some ⟨gN, 0, none⟩) (k + 1) capN, .slice (some a) (O.length - k) (c - k)]).run Tryd.prog z2 = .ok v3 z3 ∧ vcK.Own z3 z.heap.size v3 (O.take k ++ [⟨xw, xl⟩] ++ O.drop k) ∧ Below z.heap.size z z3 := fun a ha => by
          have o2' : vcK.Own z2 z.heap.size (.slice (some ⟨gN, 0, none⟩) (k + 1) capN) (O.take k ++ [⟨xw, xl⟩]) := o2
          obtain ⟨v3, z3, r3, o3, g3, b3⟩ := RecK.run_more vcK_ok z2 z.heap.size _ _ (O.drop k) o2' a (c - k) (fun j u hu => by
            by_cases e : c = k
            · exfalso
              have : O.drop k = [] := List.drop_eq_nil_of_le (by omega)
              rw [this] at hu; simp [RecK.all_nil] at hu
            · rw [ha e]
              have hc := OZ2.cells (g := g) rfl
              have e1 : (vcK.all (O.take k)).length = k * 2 := by rw [vcK.all_len vcK_ok, hOk]; rfl
              have := hc (k * 2 + j) u (by
                conv => lhs; rw [← List.take_append_drop k O]
                rw [RecK.all_app, List.getElem?_append_right (by omega), e1, Nat.add_sub_cancel_left]; exact hu)
              rw [Addr.add_lit, Nat.zero_add] at this
              rw [Addr.add_lit]
              exact this) (by simp; omega) kb2.size
          rw [hOd] at r3
          refine ⟨v3, z3, r3, o3, ?_⟩
          exact ⟨g3.os.trans kb2.os, g3.tape.trans kb2.tape, g3.output.trans kb2.output, Nat.le_trans kb2.size g3.size, fun j hj => (g3.block j (Nat.lt_of_lt_of_le hj kb2.size) (fun e => by have := (o2'.lt j e.symm).1; omega)).trans (kb2.block j hj)⟩
        have R1 := Lib.hid r1
        have R2 := Lib.hid r2
        have R3 := Lib.hid rest
        have KB1 := Lib.hid kb1
        have i1 : k ≤ c := by omega
        have i2 : k ≤ O.length := hk
        clear r1 o1 g1 b1 kb1 r2 o2 kb2 OZ2 rest hgz hOk hOd
        obtain ⟨gk, fo, rfl, q0, q1⟩ := RX2.out _ KB1.out
        have c2 := CC2.out _ KB1.out
        go_upto_region 11 with (first
          | (at_builtin; refine Lib.wpList_append_run _ rfl (.tmp 39) (.tmp 42) 30 30 rfl _ _ rfl rfl _ _ R1.out ?_)
          | (at_builtin; refine Lib.wpList_append_run _ rfl (.tmp 44) (.tmp 52) 30 30 rfl _ _ rfl rfl _ _ R2.out ?_))
        by_cases hck : c = k
        · obtain ⟨v3, z3, r3, o3, k3⟩ := R3.out ⟨g, 0, none⟩ (fun h => absurd hck h)
          have hl0 : O.length - k = 0 := by omega
          have hc0 : c - k = 0 := by omega
          rw [hl0, hc0] at r3
          have HRUN := Lib.hid r3
          have HO := Lib.hid (World.ownsRow.mono o3 NW.out)
          have HK := Lib.hid (KW.out.trans (k3.mono KW.out.size))
          clear r3 o3 k3 R1 R2 R3 hc0
          subst hck
          go_wp2_with (at_builtin; refine Lib.wpList_append_run _ rfl (.tmp 54) (.tmp 57) 30 30 rfl _ _ rfl rfl _ _ HRUN.out ?_)
          go_roundw
          case measure => simp only [intOf]; omega
          case rel => exact ⟨i + 1, _, by omega, by simp, (fun h => by omega), TN, HO, HK⟩
        · obtain ⟨v3, z3, r3, o3, k3⟩ := R3.out ⟨g, k * 2, none⟩ (fun _ => rfl)
          have HRUN := Lib.hid r3
          have HO := Lib.hid (World.ownsRow.mono o3 NW.out)
          have HK := Lib.hid (KW.out.trans (k3.mono KW.out.size))
          clear r3 o3 k3 R1 R2 R3
          go_wp2_with (at_builtin; refine Lib.wpList_append_run _ rfl (.tmp 54) (.tmp 57) 30 30 rfl _ _ rfl rfl _ _ HRUN.out ?_)
          go_roundw
          case measure => simp only [intOf]; omega
          case rel => exact ⟨i + 1, _, by omega, by simp, (fun h => by omega), TN, HO, HK⟩
    · have hie : i = K.length := by omega
      subst hie
      have e1 : ¬ (K.length : Int) < (K.length : Int) := by omega
      have c2 := C2.out _ KR.out
      clear hlt
      go_wp2_with fail
      go_ret
      first | exact ⟨_, O, rfl, TL.out, OW.out, KR.out⟩ | exact ⟨_, rfl, O, TL.out, OW.out, KR.out⟩
end Go.Proofs.YtefhbjkhmfmkaaaDoor
