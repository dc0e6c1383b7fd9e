import Derived.Test.YthmfmnoblobcoaaBackP
import Derived.Test.YthmfmnoblobcoaaCompact
/-! back.Numbers. -/
namespace Go.Proofs.Ythmfmnoblobcoaa
open Go.RowKit
set_option linter.unusedVariables false
set_option linter.unusedSimpArgs false
/-- one more, and what is no ints is as it was -/
theorem IRow.more2 {W w0 : World} {M : Nat} {v : Value} {A : List Int} (h : IRow W M v A) (x : Int) (hn : A.length ≤ 1000000) (K : Below M w0 W) (hM : M ≤ w0.heap.size) :
    ∃ gN capN wN, (Builtin.append_ #[22, 22] 22 #[v, .slice (some ⟨W.heap.size, 0, none⟩) 1 1]).run Try.prog (W.alloc (.cells #[.int .i64 x] 3)) = .ok (.slice (some ⟨gN, 0, none⟩) (A.length + 1) capN) wN ∧ IRow wN M (.slice (some ⟨gN, 0, none⟩) (A.length + 1) capN) (A ++ [x]) ∧ Below M w0 wN ∧
      ∀ (j : Nat) (cs : Array Value) (T : TypeId), T ≠ 3 → W.heap[j]? = some (.cells cs T (0, 0)) → wN.heap[j]? = some (.cells cs T (0, 0)) := by
  have hMW : M ≤ W.heap.size := Nat.le_trans hM K.size
  have BA : Below W.heap.size W (W.alloc (.cells #[.int .i64 x] 3)) := (Below.refl _ _).alloc (Nat.le_refl _) _
  obtain ⟨vN, wN, hr, ho, hgr, hbk⟩ := run_moreInt2 (W.alloc (.cells #[.int .i64 x] 3)) M v x A.length (A.map encI) (h.below BA) W.heap.size (obj_new _ _) hn (by simp; omega)
  obtain ⟨gN, capN, rfl⟩ := Joins.ownsRow_form ho (by omega)
  have hrow : ∀ g, v.ownBlock = some g → ∃ cs, W.heap[g]? = some (.cells cs 3 (0, 0)) ∧ M ≤ g := fun g e => by
    rcases h.2 with ⟨rfl, _⟩ | ⟨g', cap, cur, rfl, hb, hg', _⟩
    · cases e
    · simp [Value.ownBlock] at e; subst e; exact ⟨_, hg', hb⟩
  refine ⟨gN, capN, wN, hr, ?_, (K.trans (BA.mono hMW)).grown hgr (by have := K.size; simp; omega) (fun g e => by obtain ⟨cs, _, q⟩ := hrow g e; exact q), fun j cs T hT e => ?_⟩
  · unfold IRow; rw [List.map_append, List.length_append]; exact ho
  · rw [hgr.block j (by have := lt_of_block e; simp; omega) (fun e' => by
      obtain ⟨cs', q, _⟩ := hrow j e'.symm
      rw [e] at q; simp at q; exact hT q.2)]
    exact (BA.block j (lt_of_block e)).trans e
namespace Pl
/-- the numbers of one, by its first k bits -/
def numK (p : Pr) (k : Nat) : List Int := p.base :: ((List.range k).filter (bit p)).map fun k : Nat => p.base + (k : Int) + 1
theorem numK_zero (p : Pr) : numK p 0 = [p.base] := rfl
theorem numK_succ (p : Pr) (k : Nat) : numK p (k + 1) = numK p k ++ (if bit p k = true then [p.base + (k : Int) + 1] else []) := by
  unfold numK
  rw [List.range_succ, List.filter_append, List.map_append, List.cons_append]
  congr 2
  by_cases h : bit p k = true <;> simp [h]
theorem numK_all (p : Pr) : numK p 16 = numOf p := rfl
theorem numK_len (p : Pr) (k : Nat) : 1 ≤ (numK p k).length ∧ (numK p k).length ≤ k + 1 := by
  unfold numK
  have := List.length_filter_le (bit p) (List.range k)
  simp at *
  omega
theorem numsOf_succ {L : List Pr} {i : Nat} (h : i < L.length) : numsOf (L.take (i + 1)) = numsOf (L.take i) ++ numOf L[i] := by
  unfold numsOf
  rw [List.take_succ_eq_append_getElem h, List.flatMap_append]
  simp
/-- what its last number says -/
theorem prOk_last {p : Pr} {x : Int} (h1 : Seq16 p.base) (h2 : Seq16 p.mask) (hx : (numOf p).getLast? = some x) : prOk p ↔ Seq16 x := by
  have hm : x ∈ numOf p := List.mem_of_getLast? hx
  have hb : ∀ y ∈ numOf p, p.base ≤ y := fun y hy => by
    rcases mem_numOf.1 hy with rfl | ⟨k, _, _, rfl⟩ <;> omega
  have hle : ∀ y ∈ numOf p, y ≤ x := fun y hy => by
    obtain ⟨i, hi, rfl⟩ := List.mem_iff_getElem.1 hy
    rw [List.getLast?_eq_getElem?] at hx
    obtain ⟨hj, rfl⟩ := List.getElem?_eq_some_iff.1 hx
    rcases Nat.lt_or_ge i ((numOf p).length - 1) with q | q
    · exact Int.le_of_lt ((List.pairwise_iff_getElem.1 (numOf_rises p)) i _ hi hj q)
    · have : i = (numOf p).length - 1 := by omega
      subst this; exact Int.le_refl _
  unfold prOk
  constructor
  · intro h
    have := hb x hm
    have := h.2.2 x hm
    unfold Seq16 at *
    omega
  · intro h
    refine ⟨h1, h2, fun y hy => ?_⟩
    have := hle y hy
    unfold Seq16 at h
    omega
theorem numF_bad {L : List Pr} (hl : L.length ≤ 200) {i : Nat} (hi : i < L.length) (h : ¬ prOk L[i]) : numF L = 1 := by
  unfold numF
  rw [if_neg (by omega), if_neg (fun hh => h (hh _ (List.getElem_mem _)))]
/-- a bit, as it is asked for -/
theorem bit_shr {p : Pr} (h : Seq16 p.mask) {k : Nat} (hk : k < 16) : bits .and .i64 (p.mask / 2 ^ k) 1 = if bit p k = true then 1 else 0 := by
  obtain ⟨m, hm⟩ : ∃ m : Nat, p.mask = m := ⟨p.mask.toNat, by unfold Seq16 at h; omega⟩
  have hm2 : m < 65536 := by unfold Seq16 at h; omega
  have e : p.mask / 2 ^ k = ((m / 2 ^ k : Nat) : Int) := by rw [hm]; simp
  have hle : m / 2 ^ k ≤ m := Nat.div_le_self _ _
  have hb : bit p k = decide (m / 2 ^ k % 2 = 1) := by
    unfold bit
    rw [hm, Int.toNat_natCast, Nat.testBit_eq_decide_div_mod_eq]
  rw [e, hb]
  have hx : bits .and .i64 ((m / 2 ^ k : Nat) : Int) 1 = ((m / 2 ^ k % 2 : Nat) : Int) := by
    obtain ⟨q, hq⟩ : ∃ q : Nat, m / 2 ^ k = q := ⟨_, rfl⟩
    rw [hq]
    unfold bits
    have h : (BitVec.ofInt 64 (q : Int) &&& BitVec.ofInt 64 1).toNat = q % 2 := by
      rw [BitVec.ofInt_natCast, BitVec.toNat_and, BitVec.toNat_ofNat, Nat.mod_eq_of_lt (by omega)]
      have e : (BitVec.ofInt 64 1).toNat = 2 ^ 1 - 1 := by decide
      rw [e, Nat.and_two_pow_sub_one_eq_mod]
    show IntKind.i64.wrap (((BitVec.ofInt 64 (q : Int) &&& BitVec.ofInt 64 1).toNat : Nat) : Int) = _
    rw [h, IntKind.wrap_i64]
    omega
  rw [hx]
  rcases Nat.mod_two_eq_zero_or_one (m / 2 ^ k) with q | q <;> simp [q]
end Pl
theorem backNums_full (v : Value) (L : List Pr) (hL : 200 < L.length) (w : World) (h : IsPrs w v L) :
    Calls Try.prog 5 #[v] w fun e w' => e = .returned (.tuple #[.slice none 0 0, errV 4]) ∧ w = w' := by
  obtain ⟨oa, c, rfl, -⟩ := prs_read h
  have e1 : (200 : Int) < (L.length : Int) := by omega
  rw [errV_hit 4 (by decide)]
  clear h
  go_enter Try.func5, Try.ntmps5
  go_wp2_with fail
  go_ret2
  exact ⟨rfl, rfl⟩
/-- a pair in a box -/
def PrBox (w : World) (g : Nat) (b m : Int) : Prop := w.heap[g]? = some (.cells #[.int .i64 b, .int .i64 m] 32 (0, 0))
theorem PrBox.cells {w : World} {g : Nat} {b m : Int} (h : PrBox w g b m) : w.cell? ⟨g, 0, none⟩ = some (.int .i64 b) ∧ w.cell? ⟨g, 1, none⟩ = some (.int .i64 m) := ⟨obj_cell h rfl, obj_cell h rfl⟩
theorem abs_b {P : Program} {c : Code} {Q : Exit → Act → World → Prop} {a : Act} {W : World} (S : World → Prop) (h : S W) (k : ∀ wq, S wq → c.wp P Q a wq) : c.wp P Q a W := k W h
set_option maxRecDepth 100000 in
set_option maxHeartbeats 2000000 in
theorem backNums_1 (v : Value) (L : List Pr) (hL : L.length ≤ 200) (w : World) (h : IsPrs w v L) :
    Calls Try.prog 5 #[v] w fun e w' => Below w.heap.size w w' ∧ ((Pl.numF L = 1 ∧ e = .returned (.tuple #[.slice none 0 0, errV 1])) ∨
      (Pl.numF L = 0 ∧ ∃ (v' : Value), e = .returned (.tuple #[v', .nilIface]) ∧ ∃ R : List Int, IRow w' w.heap.size v' R ∧ Rises R ∧ ∀ i, i ∈ R ↔ i ∈ Pl.numsOf L)) := by
  obtain ⟨oL, cL, rfl, hlL, hcL, -, rL⟩ := prs_read h
  unfold maxLen at hcL
  have RL := Lib.hid (show ∀ y, Below w.heap.size w y → ∀ k (hk : k < L.length), ∃ g f, oL = some ⟨g, f, none⟩ ∧ y.cell? ⟨g, f + k * 2, none⟩ = some (.int .i64 L[k].base) ∧ y.cell? ⟨g, f + k * 2 + 1, none⟩ = some (.int .i64 L[k].mask) from fun y kk k hk => by
    obtain ⟨g, f, e, hb, q0, q1, -⟩ := rL k hk
    exact ⟨g, f, e, (kk.cell (p := ⟨g, f + k * 2, none⟩) hb).trans q0, (kk.cell (p := ⟨g, f + k * 2 + 1, none⟩) hb).trans q1⟩)
  have e0 : ¬ (200 : Int) < (L.length : Int) := by omega
  have R0 := Lib.hid (IRow.nil w w.heap.size)
  have K0 := Lib.hid (Below.refl w.heap.size w)
  clear rL h
  go_enter Try.func5, Try.ntmps5
  go_upto_region 5 with fail
  clear e0
  go_loopw [4, 6, 7, 14] (fun s4 _ _ s14 wr => ∃ (i : Nat) (A : List Int), i ≤ L.length ∧ s14 = .int .i64 i ∧ A.length ≤ 17 * i ∧ Hid (A = Pl.numsOf (L.take i)) ∧ Hid (∀ j (hj : j < i) (hl : j < L.length), Pl.prOk L[j]) ∧ Hid (IRow wr w.heap.size s4 A) ∧ Hid (Below w.heap.size w wr)) (fun _ _ _ s14 _ => L.length - (intOf s14).toNat)
  case atStart => exact ⟨0, [], by omega, rfl, by simp, Lib.hid rfl, Lib.hid (fun j hj => by omega), R0, K0⟩
  case round =>
    as_aux_lemma =>
    clear R0 K0
    obtain ⟨i, A, hi, rfl, hA, HA, HO, IR, KR⟩ := hrel
    by_cases hlt : i < L.length
    · have e1 : (i : Int) < (L.length : Int) := by omega
      obtain ⟨g, fo, rfl, q0, q1⟩ := RL.out _ KR.out i hlt
      have HS := Lib.hid (Pl.numsOf_succ hlt)
      have HB := Lib.hid (show ¬ Pl.prOk L[i] → Pl.numF L = 1 from fun h => Pl.numF_bad hL hlt h)
      have HG := Lib.hid (show Pl.prOk L[i] → ∀ j (hj : j < i + 1) (hl : j < L.length), Pl.prOk L[j] from fun h j hj hl => by
        by_cases e : j = i
        · subst e; exact h
        · exact HO.out j (by omega) hl)
      generalize L[i] = p at *
      obtain ⟨b, m⟩ := p
      dsimp only at q0 q1
      obtain ⟨o4, c4, rfl, -⟩ := intRow_read IR.out
      go_upto_region 7 with fail
      obtain ⟨gb, hgb⟩ : ∃ gb, wr.heap.size = gb := ⟨_, rfl⟩
      have hgw : w.heap.size ≤ gb := by rw [← hgb]; exact KR.out.size
      have kA : Below wr.heap.size wr (wr.alloc (.cells #[.int .i64 b, .int .i64 m] 32)) := (Below.refl _ _).alloc (Nat.le_refl _) _
      have PB0 : Hid ((wr.alloc (.cells #[.int .i64 b, .int .i64 m] 32)).heap[gb]? = some (.cells #[.int .i64 b, .int .i64 m] 32 (0, 0))) := Lib.hid (by rw [← hgb]; exact obj_new _ _)
      have IR0 := Lib.hid (IR.out.below kA)
      have KB0 := Lib.hid (KR.out.trans (kA.mono KR.out.size))
      refine abs_b (fun y => Hid (PrBox y gb b m) ∧ Hid (IRow y w.heap.size (.slice o4 A.length c4) A) ∧ Hid (Below w.heap.size w y)) ⟨PB0, IR0, KB0⟩ ?_
      rw [hgb]
      clear PB0 IR0 KB0 kA IR KR hgb q0 q1
      rintro y ⟨PB, IR, KR⟩
      obtain ⟨c0, c1⟩ := PB.out.cells
      have SQ := Lib.hid (seq_any b y)
      by_cases hb : Pl.Seq16 b
      case neg =>
        have hs : Pl.seq b = false := by rw [Pl.seq_b, decide_eq_false hb]
        have HF := Lib.hid (HB.out (fun h => hb h.1))
        clear hb HB HG
        go_wp2_with (go_at_call 11; refine SQ.out.mono ?_; rintro e w1 ⟨rfl, rfl⟩; rw [hs])
        go_ret2
        exact ⟨KR.out, .inl ⟨HF.out, by rw [errV_hit 1 (by decide)]; rfl⟩⟩
      have hs : Pl.seq b = true := (Pl.seq_16 b).2 hb
      by_cases hm : Pl.Seq16 m
      case neg =>
        have HF := Lib.hid (HB.out (fun h => hm h.2.1))
        have hm' : m < 0 ∨ (0 ≤ m ∧ 65535 < m) := by unfold Pl.Seq16 at hm; omega
        clear hb HB HG hm
        rcases hm' with h1 | ⟨h1, h2⟩
        all_goals
          go_wp2_with (go_at_call 11; refine SQ.out.mono ?_; rintro e w1 ⟨rfl, rfl⟩; rw [hs])
          go_ret2
          exact ⟨KR.out, .inl ⟨HF.out, by rw [errV_hit 1 (by decide)]; rfl⟩⟩
      have HBS := Lib.hid hb
      have HMS := Lib.hid hm
      obtain ⟨b0, b1⟩ := hb
      obtain ⟨m0, m1⟩ := hm
      obtain ⟨gN, capN, wN, hrun, ho, hk2, hkp⟩ := IR.out.more2 b (by omega) KR.out (Nat.le_refl _)
      have HRUN := Lib.hid hrun
      have KI := Lib.hid (show Pl.numK ⟨b, m⟩ 0 = [b] from rfl)
      have hcc : (y.alloc (.cells #[.int .i64 b] 3)).cell? ⟨gb, 0, none⟩ = some (.int .i64 b) := obj_cell (Below.heapAt ((Below.refl _ y).alloc (Nat.le_refl _) _) PB.out (lt_of_block PB.out)) rfl
      have PB1 := Lib.hid (show PrBox wN gb b m from hkp _ _ _ (by decide) PB.out)
      have IR1 := Lib.hid (show IRow wN w.heap.size (.slice (some ⟨gN, 0, none⟩) (A.length + 1) capN) (A ++ Pl.numK ⟨b, m⟩ 0) from ho)
      have KB1 := Lib.hid hk2
      clear hrun ho hk2 hkp
      go_upto_region 10 with (first
        | (go_at_call 11; refine SQ.out.mono ?_; rintro e w1 ⟨rfl, rfl⟩; rw [hs])
        | (at_builtin; refine Lib.wpList_append_run _ rfl (.tmp 33) (.tmp 36) 22 22 rfl _ _ rfl rfl _ _ HRUN.out ?_))
      refine abs_b (fun y => Hid (PrBox y gb b m) ∧ Hid (IRow y w.heap.size (.slice (some ⟨gN, 0, none⟩) (A.length + 1) capN) (A ++ Pl.numK ⟨b, m⟩ 0)) ∧ Hid (Below w.heap.size w y)) ⟨PB1, IR1, KB1⟩ ?_
      clear PB1 IR1 KB1 HRUN hcc c0 c1 SQ IR KR PB
      rintro y ⟨PB, IR, KR⟩
      have hA17 : A.length ≤ 3400 := by omega
      go_upto_region 11 with fail
      go_loopw [4, 7, 38] (fun s4 _ s38 z => ∃ (k : Nat) (C : List Int), k ≤ 16 ∧ s38 = .int .i64 k ∧ 1 ≤ C.length ∧ C.length ≤ k + 1 ∧ Hid (C = Pl.numK ⟨b, m⟩ k) ∧ Hid (PrBox z gb b m) ∧ Hid (IRow z w.heap.size s4 (A ++ C)) ∧ Hid (Below w.heap.size w z)) (fun _ _ s38 _ => 16 - (intOf s38).toNat)
      case atStart => exact ⟨0, Pl.numK ⟨b, m⟩ 0, by omega, rfl, (Pl.numK_len _ _).1, (Pl.numK_len _ _).2, Lib.hid rfl, PB, IR, KR⟩
      case round =>
        as_aux_lemma =>
        clear PB IR KR
        obtain ⟨k, C, hk, rfl, hC1, hC2, HC, PB, IR, KR⟩ := hrel
        have hACl : (A ++ C).length = A.length + C.length := by simp
        obtain ⟨g4, c4, hv4⟩ := Joins.ownsRow_form IR.out (by omega)
        subst hv4
        rw [hACl]
        obtain ⟨c0, c1⟩ := PB.out.cells
        by_cases hk16 : k < 16
        · have e2 : (k : Int) < 16 := by omega
          have BT := Lib.hid (Pl.bit_shr HMS.out hk16 (p := ⟨b, m⟩))
          have NS := Lib.hid (Pl.numK_succ ⟨b, m⟩ k)
          dsimp only at BT NS
          obtain ⟨bt, hbt⟩ : ∃ bt, Pl.bit ⟨b, m⟩ k = bt := ⟨_, rfl⟩
          rw [hbt] at BT NS
          have bt2 := BT.out
          clear hbt
          cases bt
          · have N2 := Lib.hid (show C = Pl.numK ⟨b, m⟩ (k + 1) from by rw [NS.out, HC.out]; simp)
            rw [if_neg (by decide)] at bt2
            clear BT NS
            go_wp2_with fail
            go_roundw
            case measure => simp only [intOf]; omega
            case rel => exact ⟨k + 1, C, by omega, by simp, hC1, by omega, N2, PB, by rw [← hACl]; exact IR, KR⟩
          · rw [if_pos rfl] at bt2
            have N2 := Lib.hid (show C ++ [b + (k : Int) + 1] = Pl.numK ⟨b, m⟩ (k + 1) from by rw [NS.out, HC.out]; simp)
            have i1 : IntKind.i64.wrap (b + (k : Int)) = b + (k : Int) := by rw [IntKind.wrap_i64]; omega
            have i2 : IntKind.i64.wrap (b + (k : Int) + 1) = b + (k : Int) + 1 := by rw [IntKind.wrap_i64]; omega
            obtain ⟨gN', capN', wN', hrun, ho, hk2, hkp⟩ := IR.out.more2 (b + (k : Int) + 1) (by omega) KR.out (Nat.le_refl _)
            rw [hACl] at hrun ho
            have HRUN := Lib.hid hrun
            have PB1 := Lib.hid (show PrBox wN' gb b m from hkp _ _ _ (by decide) PB.out)
            have IR1 := Lib.hid (show IRow wN' w.heap.size (.slice (some ⟨gN', 0, none⟩) (A.length + C.length + 1) capN') (A ++ (C ++ [b + (k : Int) + 1])) from by rw [← List.append_assoc]; exact ho)
            have KB1 := Lib.hid hk2
            clear hrun ho hk2 hkp BT NS
            go_wp2_with (at_builtin; refine Lib.wpList_append_run _ rfl (.tmp 47) (.tmp 53) 22 22 rfl _ _ rfl rfl _ _ HRUN.out ?_)
            go_roundw
            case measure => simp only [intOf]; omega
            case rel => exact ⟨k + 1, _, by omega, by simp, by simp, by simp; omega, N2, PB1, IR1, KB1⟩
        · obtain rfl : k = 16 := by omega
          have e2 : ¬ (((16 : Nat) : Int)) < 16 := by omega
          obtain ⟨D, x, hD⟩ : ∃ D x, C = D ++ [x] := by
            rcases last_of C with h | h
            · rw [h] at hC1; simp at hC1
            · exact h
          have PL := Lib.hid (Pl.prOk_last (p := ⟨b, m⟩) (x := x) HBS.out HMS.out (by rw [← Pl.numK_all, ← HC.out, hD]; simp))
          have N3 := Lib.hid (show A ++ C = Pl.numsOf (L.take (i + 1)) from by rw [HS.out, HA.out, HC.out, Pl.numK_all])
          have hDl : C.length = D.length + 1 := by rw [hD]; simp
          have hcx : wr.cell? ⟨g4, A.length + D.length, none⟩ = some (.int .i64 x) := by
            have := IR.out.cellAt (A.length + D.length) (by simp; omega)
            rw [this, hD]
            simp
          rw [hDl]
          have IR2 := Lib.hid (show IRow wr w.heap.size (.slice (some ⟨g4, 0, none⟩) (A.length + (D.length + 1)) c4) (A ++ C) from by have := IR.out; rw [hACl, hDl] at this; exact this)
          have SQ2 := Lib.hid (seq_any x wr)
          have i1 : (0 : Int) ≤ ((A.length + D.length : Nat) : Int) := by omega
          have i2 : ((A.length + D.length : Nat) : Int) < ((A.length + (D.length + 1) : Nat) : Int) := by omega
          have i3 : IntKind.i64.wrap (((A.length + (D.length + 1) : Nat) : Int) - 1) = ((A.length + D.length : Nat) : Int) := by rw [IntKind.wrap_i64]; omega
          clear hk16 c0 c1 hACl IR hD
          by_cases hx : Pl.Seq16 x
          · have hs : Pl.seq x = true := (Pl.seq_16 x).2 hx
            have G2 := Lib.hid (HG.out (PL.out.2 hx))
            clear hx
            go_wp2_with (go_at_call 11; refine SQ2.out.mono ?_; rintro e w1 ⟨rfl, rfl⟩; rw [hs])
            go_roundw
            case measure => simp only [intOf]; omega
            case rel => exact ⟨i + 1, _, by omega, by simp, by simp; omega, N3, G2, IR2, KR⟩
          · have hs : Pl.seq x = false := by rw [Pl.seq_b, decide_eq_false hx]
            have F2 := Lib.hid (HB.out (fun h => hx (PL.out.1 h)))
            clear hx
            go_wp2_with (go_at_call 11; refine SQ2.out.mono ?_; rintro e w1 ⟨rfl, rfl⟩; rw [hs])
            go_ret2
            exact ⟨KR.out, .inl ⟨F2.out, by rw [errV_hit 1 (by decide)]; rfl⟩⟩
    · have hie : i = L.length := by omega
      subst hie
      have e1 : ¬ (L.length : Int) < (L.length : Int) := by omega
      rw [List.take_length] at HA
      have hA34 : A.length ≤ 3400 := by omega
      have NF := Lib.hid (show Pl.numF L = 0 from by
        unfold Pl.numF
        rw [if_neg (by omega), if_pos]
        intro p hp
        obtain ⟨j, hj, rfl⟩ := List.mem_iff_getElem.1 hp
        exact HO.out j hj hj)
      clear hlt HO
      obtain ⟨o4, c4, rfl, -⟩ := intRow_read IR.out
      have SRT := Lib.hid (sortInts_own w.heap.size _ A wr (by omega) IR.out)
      have hsrt : (A.mergeSort fun x y => decide (x ≤ y)).Pairwise fun x y => x ≤ y := by
        have hp : (A.mergeSort fun x y => decide (x ≤ y)).Pairwise fun x y => decide (x ≤ y) = true := List.pairwise_mergeSort (fun a b c h1 h2 => by simp at *; omega) (fun a b => by simp; omega) A
        exact hp.imp fun {a b} h => by simpa using h
      have CR := Lib.hid (compact_rises hsrt)
      have SMM := Lib.hid (show ∀ i, i ∈ (A.mergeSort fun x y => decide (x ≤ y)) ↔ i ∈ A from fun i => List.mem_mergeSort)
      have SLN := Lib.hid (List.length_mergeSort (le := fun x y : Int => decide (x ≤ y)) A)
      clear hsrt
      go_wp2_with (first
        | (go_at_call 14; (with_reducible refine SRT.out.mono ?_); rintro e w2 ⟨rfl, h3, g3⟩; have HR3 := Lib.hid (show IRow w2 w.heap.size (.slice o4 A.length c4) (A.mergeSort fun x y => decide (x ≤ y)) from by unfold IRow; rw [SLN.out]; exact h3); have K2 := Lib.hid (KR.out.grown g3 KR.out.size (fun k e => (IR.out.lt k e).1)); clear h3 g3)
        | (go_at_call 15; (with_reducible refine (compact_own w.heap.size _ (A.mergeSort fun x y => decide (x ≤ y)) w2 (by rw [SLN.out]; omega) HR3.out).mono ?_); rintro e w3 ⟨v3, rfl, h4, g4⟩; have HR4 := Lib.hid h4; have K3 := Lib.hid (K2.out.grown g4 K2.out.size (fun k e => (HR3.out.lt k e).1)); clear h4 g4))
      go_ret2
      exact ⟨K3.out, .inr ⟨NF.out, _, rfl, _, HR4.out, CR.out.1, fun i => by rw [CR.out.2, SMM.out, HA.out]⟩⟩
end Go.Proofs.Ythmfmnoblobcoaa
