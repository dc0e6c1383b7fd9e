import Derived.Test.YtlmladaajhimbaaOut
import Derived.Test.YtlmladaajhimbaaSame
/-! The walk of the law OutShifts. -/
namespace Go.Proofs.Ytlmladaajhimbaa
open Go.RowKit
set_option linter.unusedVariables false
set_option linter.unusedSimpArgs false

/-- an argument's bytes outlive a method's writing -/
theorem arg_bytes {W w w' : World} {b : Nat} {v : Value} {l : List UInt8} (h : IsBytes W v l) (k : Below W.heap.size W w) (hb : W.heap.size ≤ b) (k2 : KeepsBut b w w') : IsBytes w' v l := h.below (k.trans (k2.below k.size hb))
theorem keeps_past {S : Nat → Prop} {a c d : World} {N : Nat} (h : Keeps S a c) (k : KeepsBut N c d) (hN : S N ∨ a.heap.size ≤ N) : Keeps S a d :=
  ⟨k.os.trans h.os, k.tape.trans h.tape, k.output.trans h.output, Nat.le_trans h.size k.size, fun i hi hs => (k.block i (Nat.lt_of_lt_of_le hi h.size) (fun e => by subst e; rcases hN with hN | hN; exact hs hN; omega)).trans (h.block i hi hs)⟩
theorem OutAt.old {w : World} {b : Nat} {seq time sent lt ll : Int} (h : OutAt w b seq time sent lt ll) (o : Obj) : OutAt (w.alloc o) b seq time sent lt ll := obj_old h o
theorem PkAt.new (w : World) (s t l lv : Int) (st : Bool) (bv : Value) : PkAt (w.alloc (.cells #[.int .i64 s, .int .i64 t, .int .i64 l, .int .i64 lv, .bool st, bv] 30)) w.heap.size s t l lv st bv := obj_new w _
theorem PkAt.old {w : World} {b : Nat} {s t l lv : Int} {st : Bool} {bv : Value} (h : PkAt w b s t l lv st bv) (o : Obj) : PkAt (w.alloc o) b s t l lv st bv := obj_old h o
theorem PkAt.other {a c : World} {b N : Nat} {s t l lv : Int} {st : Bool} {bv : Value} (h : PkAt a b s t l lv st bv) (k : KeepsBut N a c) (hn : b ≠ N) : PkAt c b s t l lv st bv := Keeps.heap k h hn
theorem PkAt.below {a c : World} {b B : Nat} {s t l lv : Int} {st : Bool} {bv : Value} (h : PkAt a b s t l lv st bv) (k : Below B a c) (hn : b < B) : PkAt c b s t l lv st bv := Below.heapAt k h hn
theorem OutAt.below {a c : World} {b B : Nat} {seq time sent lt ll : Int} (h : OutAt a b seq time sent lt ll) (k : Below B a c) (hn : b < B) : OutAt c b seq time sent lt ll := Below.heapAt k h hn
namespace Pl
theorem outSeq_bd (sent s : Int) (h : Pl.seq s = true) : Pl.seq (outSeq sent s) = true := by
  rw [seq_iff] at *; unfold outSeq; split <;> omega
theorem outTime_bd (sent time lt ll t l : Int) (h : word time) : word (outTime sent time lt ll t l) := by
  unfold word at *; unfold outTime; split <;> omega
theorem outSeq_shift (sent s d : Int) (h0 : 0 ≤ s) (h : 0 ≤ d) : (outSeq sent s + d).tmod 65536 = outSeq sent ((s + d) % 65536) ∨ ¬ 0 < sent := by
  by_cases hs : 0 < sent
  · left
    unfold outSeq; rw [if_pos hs, if_pos hs, Int.tmod_eq_emod_of_nonneg (by omega)]; omega
  · exact .inr hs
end Pl

set_option maxRecDepth 100000 in
set_option maxHeartbeats 4000000 in
theorem walk_OutShifts_bad (w : World) (a0 a1 : Int) (v : Value) (h : ¬ (0 ≤ a0 ∧ a0 ≤ 65535 ∧ 0 ≤ a1 ∧ a1 ≤ 4294967295)) :
    Calls Try.prog 3 #[.int .i64 a0, .int .i64 a1, v] w fun e w' => e = .returned (.bool true) ∧ Below w.heap.size w w' := by
  have G := Lib.hid h
  go_enter Try.func3, Try.ntmps3
  go_wp2_with fail
  refine (outNew_ok 0 0 (by decide) (by decide) _).mono ?_
  rintro e w1 ⟨b, rfl, hb, g1, k1⟩
  clear g1
  go_wp2_with fail
  refine (outNew_bad a0 a1 h _).mono ?_
  rintro e w2 ⟨rfl, rfl⟩
  clear h
  go_wp2
  all_goals first
    | (exfalso; have := G.out; omega)
    | (go_ret; exact ⟨by have := G.out; simp; try omega, k1⟩)

set_option maxRecDepth 100000 in
set_option maxHeartbeats 4000000 in
theorem walk_OutShifts_none (w : World) (a0 a1 : Int) (h0 : Pl.seq a0 = true) (h1 : Pl.word a1) (oa : Option Addr) (c : Nat) :
    Calls Try.prog 3 #[.int .i64 a0, .int .i64 a1, .slice oa 0 c] w fun e w' => e = .returned (.bool true) ∧ Below w.heap.size w w' := by
  go_enter Try.func3, Try.ntmps3
  go_wp2_with fail
  refine (outNew_ok 0 0 (by decide) (by decide) _).mono ?_
  rintro e w1 ⟨b, rfl, hb, g1, k1⟩
  go_wp2_with fail
  refine (outNew_ok a0 a1 h0 h1 _).mono ?_
  rintro e w2 ⟨b2, rfl, hb2, g2, k2⟩
  have gg := Below.heapAt k2 g1 (lt_of_block g1)
  have kb := k1.trans (k2.mono k1.size)
  clear k1 k2 g1
  go_wp2
  refine wp_loop_once ?_
  go_wp2_with (first
    | (go_at_call 12; refine (outSent_any b _ _ _ _ _ _ gg).mono ?_; rintro e w' ⟨rfl, rfl⟩)
    | (go_at_call 12; refine (outSent_any b2 _ _ _ _ _ _ g2).mono ?_; rintro e w' ⟨rfl, rfl⟩))
  go_ret
  exact ⟨rfl, kb⟩

/-- the two rows, side by side -/
structure Pl.Two (a0 a1 : Int) (sa ta sb tb sent lt : Int) : Prop where
  s1 : Pl.seq sa = true
  t1 : Pl.word ta
  s2 : sb = (sa + a0) % 65536
  t2 : tb = (ta + a1) % 4294967296
  n0 : 0 ≤ sent
  l0 : Pl.word lt
theorem Pl.Two.right {a0 a1 sa ta sb tb sent lt : Int} (h : Pl.Two a0 a1 sa ta sb tb sent lt) : Pl.seq sb = true ∧ Pl.word tb := by
  obtain ⟨_, _, rfl, rfl, _, _⟩ := h
  rw [Pl.seq_iff]; unfold Pl.word; omega
theorem Pl.Two.next {a0 a1 sa ta sb tb sent lt ll t l : Int} (h : Pl.Two a0 a1 sa ta sb tb sent lt) (ht : Pl.word t) :
    Pl.Two a0 a1 (Pl.outSeq sent sa) (Pl.outTime sent ta lt ll t l) (Pl.outSeq sent sb) (Pl.outTime sent tb lt ll t l) (sent + 1) t := by
  obtain ⟨s1, t1, rfl, rfl, n0, l0⟩ := h
  refine ⟨Pl.outSeq_bd _ _ s1, Pl.outTime_bd _ _ _ _ _ _ t1, ?_, ?_, by omega, ht⟩
  · unfold Pl.outSeq; split <;> omega
  · unfold Pl.outTime; split
    · split <;> omega
    · rfl
theorem Pl.Two.same {a0 a1 sa ta sb tb sent lt : Int} (h : Pl.Two a0 a1 sa ta sb tb sent lt) (h0 : 0 ≤ a0) (h1 : 0 ≤ a1) : (sa + a0).tmod 65536 = sb ∧ (ta + a1).tmod 4294967296 = tb := by
  obtain ⟨s1, t1, rfl, rfl, n0, l0⟩ := h
  rw [Pl.seq_iff] at s1; unfold Pl.word at t1
  rw [Int.tmod_eq_emod_of_nonneg (by omega), Int.tmod_eq_emod_of_nonneg (by omega)]
  exact ⟨rfl, rfl⟩

set_option maxRecDepth 100000 in
set_option maxHeartbeats 16000000 in
theorem walk_OutShifts_run (w : World) (a0 a1 : Int) (h0 : Pl.seq a0 = true) (h1 : Pl.word a1) (b1 f1 c1 : Nat) (l1 : List Pk) (hc1 : l1.length ≤ c1) (hm1 : c1 ≤ maxLen)
    (hcell : ∀ i (h : i < l1.length) j u, (l1[i].cells)[j]? = some u → w.cell? ⟨b1, f1 + (i * 6 + j), none⟩ = some u) (hgood : ∀ x ∈ l1, x.Good w) (hlt : b1 < w.heap.size) :
    Calls Try.prog 3 #[.int .i64 a0, .int .i64 a1, .slice (some ⟨b1, f1, none⟩) l1.length c1] w fun e w' => e = .returned (.bool true) ∧ Below w.heap.size w w' := by
  have HC := Lib.hid hcell
  have HG := Lib.hid hgood
  clear hcell hgood
  unfold maxLen at hm1
  go_enter Try.func3, Try.ntmps3
  go_wp2_with fail
  refine (outNew_ok 0 0 (by decide) (by decide) _).mono ?_
  rintro e w1 ⟨ba, rfl, hba, g1, k1⟩
  go_wp2_with fail
  refine (outNew_ok a0 a1 h0 h1 _).mono ?_
  rintro e w2 ⟨bb, rfl, hbb, g2, k2⟩
  have gg := Below.heapAt k2 g1 (lt_of_block g1)
  have kb := k1.trans (k2.mono k1.size)
  have hne : ba ≠ bb := by have := lt_of_block g1; omega
  have hbb' : w.heap.size ≤ bb := Nat.le_trans k1.size hbb
  clear k1 k2 g1 hbb
  have INV0 : Pl.Two a0 a1 0 0 a0 a1 0 0 := ⟨by decide, by decide, by rw [Pl.seq_iff] at h0; omega, by unfold Pl.word at h1; omega, by omega, by decide⟩
  have H0 := Lib.hid ((Pl.seq_iff _).1 h0)
  have H1 : Hid (0 ≤ a1 ∧ a1 ≤ 4294967295) := h1
  clear h0 h1
  go_wp2
  go_loopw [11] (fun i wr => ∃ (k : Nat) (sa ta sb tb sent lt ll : Int), k ≤ l1.length ∧ k ≤ 40 ∧ i = .int .i64 k ∧ sent ≤ k ∧ Pl.Two a0 a1 sa ta sb tb sent lt ∧ OutAt wr ba sa ta sent lt ll ∧ OutAt wr bb sb tb sent lt ll ∧ Below w.heap.size w wr) (fun i _ => 40 - (intOf i).toNat)
  case atStart => exact ⟨0, 0, 0, a0, a1, 0, 0, 0, by omega, by omega, rfl, by omega, INV0, gg, g2, kb⟩
  case round =>
    clear gg g2 kb INV0
    obtain ⟨k, sa, ta, sb, tb, sent, lt, ll, hk, hk40, rfl, hsent, inv, ga, gb, kb⟩ := hrel
    by_cases hlt1 : k < l1.length
    · by_cases hlt2 : k < 40
      · have cells := HC.out k hlt1
        have good := HG.out _ (List.getElem_mem hlt1)
        generalize l1[k] = x at *
        obtain ⟨s, t, l, lv, st, bv, bl⟩ := x
        obtain ⟨hs, ht, hl, hlv, hbv⟩ := good
        obtain ⟨boa, bc, hbv', hbn⟩ := bytes_slice hbv
        simp only [] at hbv' hbn
        subst hbv'
        have q0 := cells 0 _ rfl
        have q1 := cells 1 _ rfl
        have q2 := cells 2 _ rfl
        have q3 := cells 3 _ rfl
        have q4 := cells 4 _ rfl
        have q5 := cells 5 _ rfl
        clear cells
        simp only [] at *
        have CC : ∀ j u, w.cell? ⟨b1, f1 + (k * 6 + j), none⟩ = some u → wr.cell? ⟨b1, f1 + k * 6 + j, none⟩ = some u := fun j u h => by rw [kb.cell (p := ⟨b1, f1 + k * 6 + j, none⟩) hlt, Nat.add_assoc]; exact h
        replace q0 : wr.cell? ⟨b1, f1 + k * 6, none⟩ = _ := CC 0 _ q0
        replace q1 := CC _ _ q1
        replace q2 := CC _ _ q2
        replace q3 := CC _ _ q3
        replace q4 := CC _ _ q4
        replace q5 := CC _ _ q5
        clear CC
        have INV := Lib.hid inv
        clear inv
        by_cases hp : Pl.pkOk s t l lv bl.length
        · have hla := lt_of_block ga
          have hlb := lt_of_block gb
          go_wp2_with fail
          refine (outNext_ok ba sa ta sent lt ll s t l lv st _ bl hp INV.out.s1 INV.out.t1 INV.out.n0 (by omega) INV.out.l0 wr ga (fun W hW => arg_bytes hbv kb hba hW)).mono ?_
          rintro e w3 ⟨va, rfl, iva, ga3, ka⟩
          obtain ⟨oaa, caa, rfl, _⟩ := bytes_slice (iva _ (Keeps.refl _ _))
          have kb3 : Below w.heap.size w w3 := kb.trans (ka.below kb.size hba)
          have gb3 : OutAt w3 bb sb tb sent lt ll := OutAt.other gb ka (Ne.symm hne)
          have CC : ∀ j u, wr.cell? ⟨b1, f1 + k * 6 + j, none⟩ = some u → w3.cell? ⟨b1, f1 + k * 6 + j, none⟩ = some u := fun j u h => by rw [ka.cell (p := ⟨b1, f1 + k * 6 + j, none⟩) (Sl.lt h) (by simp; omega)]; exact h
          replace q0 : w3.cell? ⟨b1, f1 + k * 6, none⟩ = _ := CC 0 _ q0
          replace q1 := CC _ _ q1
          replace q2 := CC _ _ q2
          replace q3 := CC _ _ q3
          replace q4 := CC _ _ q4
          replace q5 := CC _ _ q5
          clear CC
          have hsz := ka.size
          have IVA := Lib.hid iva
          have KA := Lib.hid ka
          clear iva ka gb ga
          obtain ⟨X, hX⟩ : ∃ X, X = Pl.outSeq sent sa := ⟨_, rfl⟩
          obtain ⟨Y, hY⟩ : ∃ Y, Y = Pl.outTime sent ta lt ll t l := ⟨_, rfl⟩
          rw [← hX, ← hY] at ga3 ⊢
          have HX := Lib.hid hX
          have HY := Lib.hid hY
          clear hX hY
          have n1 : b1 ≠ w3.heap.size := by have := kb3.size; omega
          go_upto_region 9 with fail
          refine abs_world (fun x => OutAt x ba X Y (sent + 1) t l ∧ OutAt x bb sb tb sent lt ll ∧ PkAt x w3.heap.size X Y l lv st (.slice oaa bl.length caa) ∧ Below w.heap.size w x ∧ x.heap.size = w3.heap.size + 1 ∧ (∀ a : Addr, a.block < w3.heap.size → x.cell? a = w3.cell? a) ∧ Keeps (fun k => k < wr.heap.size) w3 x)
            ⟨OutAt.old ga3 _, OutAt.old gb3 _, PkAt.new _ _ _ _ _ _ _, Below.alloc kb3 kb3.size _, by simp, fun a ha => World.cell?_of_block (Below.heap_alloc _ _ _ ha), Keeps.alloc (Keeps.refl _ _) _⟩ ?_
          rintro w4 ⟨ga4, g4, p4, kb4, sz4, cc4, k34⟩
          have hb1 : b1 < w3.heap.size := by have := kb3.size; omega
          replace q0 := (cc4 ⟨b1, f1 + k * 6, none⟩ hb1).trans q0
          replace q1 := (cc4 ⟨b1, f1 + k * 6 + 1, none⟩ hb1).trans q1
          replace q2 := (cc4 ⟨b1, f1 + k * 6 + 2, none⟩ hb1).trans q2
          replace q3 := (cc4 ⟨b1, f1 + k * 6 + 3, none⟩ hb1).trans q3
          replace q4 := (cc4 ⟨b1, f1 + k * 6 + 4, none⟩ hb1).trans q4
          replace q5 := (cc4 ⟨b1, f1 + k * 6 + 5, none⟩ hb1).trans q5
          have SZ4 := Lib.hid sz4
          have K34 := Lib.hid k34
          clear cc4 ga3 gb3 kb3 k34 sz4
          go_wp2_with fail
          have R := INV.out.right
          refine (outNext_ok bb sb tb sent lt ll s t l lv st _ bl hp R.1 R.2 INV.out.n0 (by omega) INV.out.l0 _ g4 (fun W hW => arg_bytes hbv kb4 hbb' hW)).mono ?_
          rintro e w5 ⟨vb, rfl, ivb, gb5, k5⟩
          obtain ⟨oab, cab, rfl, _⟩ := bytes_slice (ivb _ (Keeps.refl _ _))
          have kb5 : Below w.heap.size w w5 := kb4.trans (k5.below kb4.size hbb')
          have npb : w3.heap.size ≠ bb := by omega
          have p5 := PkAt.other p4 k5 npb
          have ga5 := OutAt.other ga4 k5 hne
          have hs5 := k5.size
          have IVB := Lib.hid ivb
          have K5 := Lib.hid k5
          have NX := Lib.hid (INV.out.next (ll := ll) (t := t) (l := l) ⟨hp.2.2.1, hp.2.2.2.1⟩)
          clear ivb k5 g4 p4 ga4 kb4 R q0 q1 q2 q3 q4 q5
          obtain ⟨X2, hX2⟩ : ∃ X2, X2 = Pl.outSeq sent sb := ⟨_, rfl⟩
          obtain ⟨Y2, hY2⟩ : ∃ Y2, Y2 = Pl.outTime sent tb lt ll t l := ⟨_, rfl⟩
          rw [← hX2, ← hY2] at gb5 ⊢
          have HX2 := Lib.hid hX2
          have HY2 := Lib.hid hY2
          clear hX2 hY2
          go_upto_region 10 with fail
          refine abs_world (fun x => OutAt x ba X Y (sent + 1) t l ∧ OutAt x bb X2 Y2 (sent + 1) t l ∧ PkAt x w3.heap.size X Y l lv st (.slice oaa bl.length caa) ∧ PkAt x w5.heap.size X2 Y2 l lv st (.slice oab bl.length cab) ∧ Below w.heap.size w x ∧
            (∀ W, KeepsBut w3.heap.size x W → IsBytes W (.slice oaa bl.length caa) bl) ∧ (∀ W, KeepsBut w3.heap.size x W → IsBytes W (.slice oab bl.length cab) bl)) ⟨OutAt.old ga5 _, OutAt.old gb5 _, PkAt.old p5 _, PkAt.new _ _ _ _ _ _ _, Below.alloc kb5 kb5.size _, ?_, ?_⟩ ?_
          · exact fun W hW => IVA.out W (keeps_past (Keeps.alloc (keeps_past K34.out K5.out (.inl hlb)) _) hW (.inr (Nat.le_refl _)))
          · exact fun W hW => IVB.out W (keeps_past (Keeps.alloc (Keeps.refl _ _) _) hW (.inl (by rw [SZ4.out]; exact Nat.lt_succ_self _)))
          rintro wx ⟨gax, gbx, pax, pbx, kbx, ia, ib⟩
          have e0 := obj_cell pax (k := 0) rfl
          have e1 := obj_cell pax (k := 1) rfl
          have f0 := obj_free pax 0
          have f1 := obj_free pax 1
          have hX0 : 0 ≤ X ∧ X ≤ 65535 := by rw [HX.out]; exact (Pl.seq_iff _).1 NX.out.s1
          have hY0 : 0 ≤ Y ∧ Y ≤ 4294967295 := by rw [HY.out]; exact NX.out.t1
          have h0' := H0.out
          have h1' := H1.out
          go_quiet (fail)
          go_upto_region 15 with fail
          have K : KeepsBut w3.heap.size wx (((wx.drewN nq).setCell ⟨w3.heap.size, 0, none⟩ (.int .i64 ((X + a0) % 65536))).setCell ⟨w3.heap.size, 1, none⟩ (.int .i64 ((Y + a1) % 4294967296))) := KeepsBut.set (KeepsBut.set (Keeps.drewN (KeepsBut.refl _ _) nq) _ _) _ _
          have pz : PkAt (((wx.drewN nq).setCell ⟨w3.heap.size, 0, none⟩ (.int .i64 ((X + a0) % 65536))).setCell ⟨w3.heap.size, 1, none⟩ (.int .i64 ((Y + a1) % 4294967296))) w3.heap.size ((X + a0) % 65536) ((Y + a1) % 4294967296) l lv st (.slice oaa bl.length caa) := obj_set (obj_set pax 0 _) 1 _
          have EX : (X + a0) % 65536 = X2 := by rw [HX.out, HX2.out]; exact NX.out.s2.symm
          have EY : (Y + a1) % 4294967296 = Y2 := by rw [HY.out, HY2.out]; exact NX.out.t2.symm
          have hq : w5.heap.size ≠ w3.heap.size := by have := SZ4.out; omega
          refine abs_world (fun x => OutAt x ba X Y (sent + 1) t l ∧ OutAt x bb X2 Y2 (sent + 1) t l ∧ PkAt x w3.heap.size X2 Y2 l lv st (.slice oaa bl.length caa) ∧ PkAt x w5.heap.size X2 Y2 l lv st (.slice oab bl.length cab) ∧ Below w.heap.size w x ∧
            IsBytes x (.slice oaa bl.length caa) bl ∧ IsBytes x (.slice oab bl.length cab) bl) ⟨OutAt.other gax K (by omega), OutAt.other gbx K (by omega), by rw [← EX, ← EY]; exact pz, PkAt.other pbx K hq, kbx.trans (Keeps.below K kbx.size (fun i hi e => by have := kb.size; omega)), ia _ K, ib _ K⟩ ?_
          clear gax gbx pax pbx kbx ia ib e0 e1 f0 f1 K pz EX EY
          rintro wy ⟨gax, gbx, pax, pbx, kbx, ia, ib⟩
          have e0 := obj_cell pax (k := 0) rfl
          have e1 := obj_cell pax (k := 1) rfl
          have e2 := obj_cell pax (k := 2) rfl
          have e3 := obj_cell pax (k := 3) rfl
          have e4 := obj_cell pax (k := 4) rfl
          have e5 := obj_cell pax (k := 5) rfl
          have u0 := obj_cell pbx (k := 0) rfl
          have u1 := obj_cell pbx (k := 1) rfl
          have u2 := obj_cell pbx (k := 2) rfl
          have u3 := obj_cell pbx (k := 3) rfl
          have u4 := obj_cell pbx (k := 4) rfl
          have u5 := obj_cell pbx (k := 5) rfl
          go_wp2_with fail
          refine (samePk_any X2 Y2 l lv X2 Y2 l lv st st _ _ bl bl wy ia ib).mono ?_
          rw [show Pl.samePk X2 Y2 l lv st bl X2 Y2 l lv st bl = true by simp [Pl.samePk]]
          rintro e w9 ⟨rfl, k9⟩
          have ga9 := OutAt.below gax k9 (lt_of_block gax)
          have gb9 := OutAt.below gbx k9 (lt_of_block gbx)
          have kb9 := kbx.trans (k9.mono kbx.size)
          clear gax gbx pax pbx kbx ia ib e0 e1 e2 e3 e4 e5 u0 u1 u2 u3 u4 u5 k9
          go_wp2
          go_roundw
          case measure => simp [intOf]; omega
          case rel => exact ⟨k + 1, X, Y, X2, Y2, sent + 1, t, l, by omega, by omega, by go_num, by omega, by rw [HX.out, HY.out, HX2.out, HY2.out]; exact NX.out, ga9, gb9, kb9⟩
        · go_wp2_with fail
          refine (outNext_bad ba s t l lv st _ bl hp wr (hbv.below kb)).mono ?_
          rintro e w3 ⟨rfl, k3⟩
          have kb3 : Below w.heap.size w w3 := kb.trans (k3.mono kb.size)
          have hb1 : b1 < w3.heap.size := by have := kb3.size; omega
          have ga3 := OutAt.below ga k3 (lt_of_block ga)
          have gb3 := OutAt.below gb k3 (lt_of_block gb)
          have CC : ∀ j u, wr.cell? ⟨b1, f1 + k * 6 + j, none⟩ = some u → w3.cell? ⟨b1, f1 + k * 6 + j, none⟩ = some u := fun j u h => by rw [k3.cell (p := ⟨b1, f1 + k * 6 + j, none⟩) (Sl.lt h)]; exact h
          replace q0 : w3.cell? ⟨b1, f1 + k * 6, none⟩ = _ := CC 0 _ q0
          replace q1 := CC _ _ q1
          replace q2 := CC _ _ q2
          replace q3 := CC _ _ q3
          replace q4 := CC _ _ q4
          replace q5 := CC _ _ q5
          clear CC k3 ga gb
          go_upto_region 9 with fail
          refine abs_world (fun x => OutAt x ba sa ta sent lt ll ∧ OutAt x bb sb tb sent lt ll ∧ Below w.heap.size w x ∧ (∀ a : Addr, a.block < w3.heap.size → x.cell? a = w3.cell? a))
            ⟨OutAt.old ga3 _, OutAt.old gb3 _, Below.alloc kb3 kb3.size _, fun a ha => World.cell?_of_block (Below.heap_alloc _ _ _ ha)⟩ ?_
          rintro w4 ⟨ga4, g4, kb4, cc4⟩
          replace q0 := (cc4 ⟨b1, f1 + k * 6, none⟩ hb1).trans q0
          replace q1 := (cc4 ⟨b1, f1 + k * 6 + 1, none⟩ hb1).trans q1
          replace q2 := (cc4 ⟨b1, f1 + k * 6 + 2, none⟩ hb1).trans q2
          replace q3 := (cc4 ⟨b1, f1 + k * 6 + 3, none⟩ hb1).trans q3
          replace q4 := (cc4 ⟨b1, f1 + k * 6 + 4, none⟩ hb1).trans q4
          replace q5 := (cc4 ⟨b1, f1 + k * 6 + 5, none⟩ hb1).trans q5
          clear cc4 ga3 gb3 kb3
          go_wp2_with fail
          refine (outNext_bad bb s t l lv st _ bl hp w4 (hbv.below kb4)).mono ?_
          rintro e w5 ⟨rfl, k5⟩
          have kb5 : Below w.heap.size w w5 := kb4.trans (k5.mono kb4.size)
          have ga5 := OutAt.below ga4 k5 (lt_of_block ga4)
          have gb5 := OutAt.below g4 k5 (lt_of_block g4)
          clear k5 ga4 g4 kb4 q0 q1 q2 q3 q4 q5
          go_wp2_with fail
          go_quiet (fail)
          go_wp2
          go_roundw
          case measure => simp [intOf]; omega
          case rel => exact ⟨k + 1, sa, ta, sb, tb, sent, lt, ll, by omega, by omega, by go_num, by omega, INV.out, OutAt.old ga5 _, OutAt.old gb5 _, Below.drewN (Below.alloc kb5 kb5.size _) _⟩
      · have : k = 40 := by omega
        subst this
        go_wp2_with fail
        refine (outSent_any ba _ _ _ _ _ _ ga).mono ?_
        rintro e w' ⟨rfl, rfl⟩
        go_wp2_with fail
        refine (outSent_any bb _ _ _ _ _ _ gb).mono ?_
        rintro e w' ⟨rfl, rfl⟩
        go_wp2
        go_ret
        exact ⟨by simp, kb⟩
    · go_wp2_with fail
      refine (outSent_any ba _ _ _ _ _ _ ga).mono ?_
      rintro e w' ⟨rfl, rfl⟩
      go_wp2_with fail
      refine (outSent_any bb _ _ _ _ _ _ gb).mono ?_
      rintro e w' ⟨rfl, rfl⟩
      go_wp2
      go_ret
      exact ⟨by simp, kb⟩

theorem walk_OutShifts (w : World) (a0 : Int) (w0 : (Lit.int .i64 a0).wf = true) (a1 : Int) (w1 : (Lit.int .i64 a1).wf = true) (v : Value) (l1 : List Pk) (o1 : IsPks w v l1) :
    Calls Try.prog 3 #[.int .i64 a0, .int .i64 a1, v] w fun e w' => e = .returned (.bool true) ∧ Below w.heap.size w w' := by
  by_cases h : 0 ≤ a0 ∧ a0 ≤ 65535 ∧ 0 ≤ a1 ∧ a1 ≤ 4294967295
  · have h0 : Pl.seq a0 = true := (Pl.seq_iff _).2 ⟨h.1, h.2.1⟩
    have h1 : Pl.word a1 := h.2.2
    rcases o1 with ⟨⟨rfl, oa, cap, rfl, _, _⟩ | ⟨b1, f1, c1, rfl, q1, q2, q3⟩, hg⟩
    · exact walk_OutShifts_none w a0 a1 h0 h1 oa cap
    · by_cases hn : l1 = []
      · subst hn
        exact walk_OutShifts_none w a0 a1 h0 h1 _ c1
      · have hp : 0 < l1.length := List.length_pos_iff.2 hn
        exact walk_OutShifts_run w a0 a1 h0 h1 b1 f1 c1 l1 q1 q2 q3 hg (Sl.lt (q3 0 hp 0 _ rfl))
  · exact walk_OutShifts_bad w a0 a1 v h
end Go.Proofs.Ytlmladaajhimbaa
