import Derived.Test.YtbjanihblffmoaaDoorSplitI
import Derived.Test.YtbjanihblffmoaaDoorPSerial
/-! pack.Split: what lies behind the parts' making. -/
namespace Go.Proofs.YtbjanihblffmoaaDoor
open Go.RowKit
set_option linter.unusedVariables false
set_option linter.unusedSimpArgs false
/-- the parts, the first j of them with their numbers -/
structure SplitF (n₀ : Nat) (w : World) (L0 B2 : Nat) (s t l lv : Int) (st : Bool) (bv : Value) (gN capN N1 : Nat) (Q : Nat → List UInt8) (D j : Nat) (W : World) : Prop where
  ex : ∃ P : List PkR, pktK.Own W n₀ (.slice (some ⟨gN, 0, none⟩) N1 capN) P ∧ P.length = N1 ∧
    ∀ (i : Nat) (p : PkR), P[i]? = some p → p.s = (if i < j then (s + i) % 65536 else s) ∧ p.t = t ∧ p.l = l ∧ p.lv = lv ∧ p.st = (if i < j then (st && decide (i = 0)) else st) ∧ Sl encB W (.slice p.oa p.bn p.bc) (Q i) ∧ ∀ a, p.oa = some a → Q i ≠ [] → a.block ≠ gN ∧ a.block ≠ L0
  cell : W.heap[L0]? = some (.cells #[.slice (some ⟨gN, 0, none⟩) N1 capN] 30 (0, 0))
  box : PkIn W B2 s t l lv st bv
  kb : Below n₀ w W
  ne : gN ≠ B2
  dK : W.heap[D]? = some (.deferred (some []))
namespace SplitF
variable {n₀ : Nat} {w : World} {L0 B2 : Nat} {s t l lv : Int} {st : Bool} {bv : Value} {gN capN N1 : Nat} {Q : Nat → List UInt8} {D j : Nat} {W : World}
theorem own6 (h : SplitF n₀ w L0 B2 s t l lv st bv gN capN N1 Q D j W) : ∃ P : List PkR, P.length = N1 ∧ W.ownsRow n₀ 24 6 (.slice (some ⟨gN, 0, none⟩) N1 capN) N1 (pktK.all P) ∧ ∀ (i : Nat) (p : PkR), P[i]? = some p → p.s = (if i < j then (s + i) % 65536 else s) ∧ p.t = t ∧ p.l = l ∧ p.lv = lv ∧ p.st = (if i < j then (st && decide (i = 0)) else st) ∧ Sl encB W (.slice p.oa p.bn p.bc) (Q i) ∧ ∀ a, p.oa = some a → Q i ≠ [] → a.block ≠ gN ∧ a.block ≠ L0 := by
  obtain ⟨P, h1, h2, h3⟩ := h.ex
  refine ⟨P, h2, ?_, h3⟩
  have := h1
  unfold RecK.Own at this
  rw [h2] at this; exact this
theorem cells (h : SplitF n₀ w L0 B2 s t l lv st bv gN capN N1 Q D j W) (hj : j < N1) : (∃ u, W.cell? ⟨gN, j * 6, none⟩ = some u) ∧ W.frozen? ⟨gN, j * 6, none⟩ = false ∧ (∃ u, W.cell? ⟨gN, j * 6 + 4, none⟩ = some u) ∧ W.frozen? ⟨gN, j * 6 + 4, none⟩ = false := by
  obtain ⟨P, h1, h2, h3⟩ := h.own6
  have at_ : ∀ k, k < 6 → ∃ u, W.cell? ⟨gN, j * 6 + k, none⟩ = some u := fun k hk => by
    have e := RecK.all_at pktK pktK_ok P j P[j] (by simp [h1, hj]) k hk
    obtain ⟨u, hu⟩ : ∃ u, (pktK.cells P[j])[k]? = some u := ⟨(pktK.cells P[j])[k]'(by rw [pktK_ok.len]; exact hk), List.getElem?_eq_getElem _⟩
    have hc := h2.cells (g := gN) rfl (j * 6 + k) u (e.trans hu)
    rw [Addr.add_lit, Nat.zero_add] at hc
    exact ⟨u, hc⟩
  exact ⟨at_ 0 (by decide), h2.frozenAt (j * 6), at_ 4 (by decide), h2.frozenAt (j * 6 + 4)⟩
theorem blk (h : SplitF n₀ w L0 B2 s t l lv st bv gN capN N1 Q D j W) : (∃ cs, W.heap[gN]? = some (.cells cs 24 (0, 0))) ∧ n₀ ≤ gN := by
  obtain ⟨P, h1, _⟩ := h.ex
  obtain ⟨cs, q, q2⟩ := SplitI.row_block h1 (g := gN) rfl
  exact ⟨⟨cs, q⟩, q2⟩
/-- both stores of a round -/
theorem step (h : SplitF n₀ w L0 B2 s t l lv st bv gN capN N1 Q D j W) (hj : j < N1) : SplitF n₀ w L0 B2 s t l lv st bv gN capN N1 Q D (j + 1) ((W.setCell ⟨gN, j * 6, none⟩ (.int .i64 ((s + j) % 65536))).setCell ⟨gN, j * 6 + 4, none⟩ (.bool (st && decide (j = 0)))) := by
  obtain ⟨P, h1, h2, h3⟩ := h.own6
  obtain ⟨⟨cg, hcg⟩, hgn⟩ := h.blk
  obtain ⟨s1, _⟩ := h2.stored (j * 6) (.int .i64 ((s + j) % 65536))
  obtain ⟨s2, _⟩ := s1.stored (j * 6 + 4) (.bool (st && decide (j = 0)))
  have hjP : j < P.length := by omega
  obtain ⟨q, hq⟩ : ∃ q, P[j]? = some q := ⟨_, List.getElem?_eq_getElem hjP⟩
  have hPj : P[j] = q := by rw [List.getElem?_eq_getElem hjP] at hq; exact Option.some.inj hq
  obtain ⟨p1, hp1⟩ : ∃ p1 : PkR, p1 = ⟨(s + j) % 65536, q.t, q.l, q.lv, q.st, q.oa, q.bn, q.bc⟩ := ⟨_, rfl⟩
  obtain ⟨p2, hp2⟩ : ∃ p2 : PkR, p2 = ⟨(s + j) % 65536, q.t, q.l, q.lv, st && decide (j = 0), q.oa, q.bn, q.bc⟩ := ⟨_, rfl⟩
  have e1 : (pktK.all P).set (j * 6) (.int .i64 ((s + j) % 65536)) = pktK.all (P.set j p1) := by
    have := RecK.set_at pktK pktK_ok P j hjP 0 (by decide) (.int .i64 ((s + j) % 65536)) p1 (by rw [hPj, hp1]; rfl)
    exact this
  have e2 : (pktK.all (P.set j p1)).set (j * 6 + 4) (.bool (st && decide (j = 0))) = pktK.all ((P.set j p1).set j p2) := by
    have := RecK.set_at pktK pktK_ok (P.set j p1) j (by rw [List.length_set]; exact hjP) 4 (by decide) (.bool (st && decide (j = 0))) p2 (by simp [pktK, PkR.cells, hp1, hp2])
    exact this
  rw [e1, e2, List.set_set] at s2
  have same : ∀ k, k ≠ gN → ((W.setCell ⟨gN, j * 6, none⟩ (.int .i64 ((s + j) % 65536))).setCell ⟨gN, j * 6 + 4, none⟩ (.bool (st && decide (j = 0)))).heap[k]? = W.heap[k]? := fun k hk => (Below.heap_setCell _ _ _ _ hk).trans (Below.heap_setCell _ _ _ _ hk)
  have hgL : gN ≠ L0 := fun e => by rw [e, h.cell] at hcg; simp at hcg
  have hgD : gN ≠ D := fun e => by rw [e, h.dK] at hcg; cases hcg
  refine ⟨⟨P.set j p2, ?_, by rw [List.length_set]; exact h1, fun i p hp => ?_⟩, (same L0 (Ne.symm hgL)).trans h.cell, ?_, Below.setCell (Below.setCell h.kb hgn _) hgn _, h.ne, (same D (Ne.symm hgD)).trans h.dK⟩
  · unfold RecK.Own
    rw [List.length_set, h1]
    exact s2
  · by_cases e : i = j
    · subst e
      rw [List.getElem?_set_self hjP] at hp
      cases hp
      obtain ⟨d1, d2, d3, d4, d5, d6, d7⟩ := h3 i q hq
      rw [if_pos (by omega), if_pos (by omega), hp2]
      exact ⟨rfl, d2, d3, d4, rfl, bytes_keep (P := fun k => k ≠ gN) d6 (fun a ha hne => (d7 a ha hne).1) (fun k hk => same k hk), d7⟩
    · rw [List.getElem?_set_ne (Ne.symm e)] at hp
      obtain ⟨d1, d2, d3, d4, d5, d6, d7⟩ := h3 i p hp
      have hc : (i < j + 1) ↔ (i < j) := by omega
      refine ⟨by rw [d1]; simp only [hc], d2, d3, d4, by rw [d5]; simp only [hc], bytes_keep (P := fun k => k ≠ gN) d6 (fun a ha hne => (d7 a ha hne).1) (fun k hk => same k hk), d7⟩
  · have hb := h.box
    unfold PkIn at *
    rw [same B2 (Ne.symm h.ne)]; exact hb
/-- between a round's stores -/
theorem mid (h : SplitF n₀ w L0 B2 s t l lv st bv gN capN N1 Q D j W) (hj : j < N1) : (W.setCell ⟨gN, j * 6, none⟩ (.int .i64 ((s + j) % 65536))).cell? ⟨L0, 0, none⟩ = some (.slice (some ⟨gN, 0, none⟩) N1 capN) ∧ (W.setCell ⟨gN, j * 6, none⟩ (.int .i64 ((s + j) % 65536))).cell? ⟨B2, 4, none⟩ = some (.bool st) ∧ (∃ u, (W.setCell ⟨gN, j * 6, none⟩ (.int .i64 ((s + j) % 65536))).cell? ⟨gN, j * 6 + 4, none⟩ = some u) ∧ (W.setCell ⟨gN, j * 6, none⟩ (.int .i64 ((s + j) % 65536))).frozen? ⟨gN, j * 6 + 4, none⟩ = false := by
  obtain ⟨P, h1, h2, h3⟩ := h.own6
  obtain ⟨⟨cg, hcg⟩, hgn⟩ := h.blk
  obtain ⟨s1, _⟩ := h2.stored (j * 6) (.int .i64 ((s + j) % 65536))
  have hjP : j < P.length := by omega
  have hgL : gN ≠ L0 := fun e => by rw [e, h.cell] at hcg; simp at hcg
  have same : ∀ k, k ≠ gN → (W.setCell ⟨gN, j * 6, none⟩ (.int .i64 ((s + j) % 65536))).heap[k]? = W.heap[k]? := fun k hk => Below.heap_setCell _ _ _ _ hk
  have e1 : (pktK.all P).set (j * 6) (.int .i64 ((s + j) % 65536)) = pktK.all (P.set j ⟨(s + j) % 65536, P[j].t, P[j].l, P[j].lv, P[j].st, P[j].oa, P[j].bn, P[j].bc⟩) :=
    RecK.set_at pktK pktK_ok P j hjP 0 (by decide) (.int .i64 ((s + j) % 65536)) _ rfl
  rw [e1] at s1
  have hbx : PkIn (W.setCell ⟨gN, j * 6, none⟩ (.int .i64 ((s + j) % 65536))) B2 s t l lv st bv := by
    have hb := h.box
    unfold PkIn at *
    rw [same B2 (Ne.symm h.ne)]; exact hb
  refine ⟨obj_cell ((same L0 (Ne.symm hgL)).trans h.cell) rfl, obj_cell hbx (k := 4) rfl, ?_, s1.frozenAt (j * 6 + 4)⟩
  have e := RecK.all_at pktK pktK_ok (P.set j ⟨(s + j) % 65536, P[j].t, P[j].l, P[j].lv, P[j].st, P[j].oa, P[j].bn, P[j].bc⟩) j ⟨(s + j) % 65536, P[j].t, P[j].l, P[j].lv, P[j].st, P[j].oa, P[j].bn, P[j].bc⟩ (by rw [List.getElem?_set_self hjP]) 4 (by decide)
  have hc := s1.cells (g := gN) rfl (j * 6 + 4) (.bool P[j].st) (e.trans rfl)
  rw [Addr.add_lit, Nat.zero_add] at hc
  exact ⟨_, hc⟩
/-- out of the parts that were made -/
theorem of_parts {Bs Bn k : Nat} {bss : List (List UInt8)} (h : SplitI n₀ w L0 B2 Bs Bn k s t l lv st bv bss W) (hb : bss ≠ []) (hD : W.heap[D]? = some (.deferred (some []))) (hQ : ∀ i b, bss[i]? = some b → Q i = b) :
    ∃ gN capN, SplitF n₀ w L0 B2 s t l lv st bv gN capN bss.length Q D 0 W := by
  obtain ⟨v, P, h1, h2, h3, h0, h4⟩ := h.ex
  have hp : 0 < P.length := by rw [h3]; exact List.length_pos_iff.2 hb
  obtain ⟨gN, capN, rfl⟩ := Joins.ownsRow_form h2 (by omega)
  rw [h3] at h1
  refine ⟨gN, capN, ⟨P, by rw [h3] at h2; exact h2, h3, fun i p hp => ?_⟩, h1, h.box, h.kb, fun e => h0 (by rw [← e]; rfl), hD⟩
  have hi : i < bss.length := by have := (List.getElem?_eq_some_iff.1 hp).1; omega
  obtain ⟨p', e1, e2, e3, e4, e5, e6, e7, e8⟩ := h4 i bss[i] (List.getElem?_eq_getElem hi)
  rw [hp] at e1
  cases e1
  rw [hQ i bss[i] (List.getElem?_eq_getElem hi)]
  exact ⟨by rw [e2]; simp, e3, e4, e5, by rw [e6]; simp, e7, fun a ha hne => by
    obtain ⟨_, _, q3, q4⟩ := e8 a ha hne
    exact ⟨fun e => q4 (by rw [e]; rfl), q3⟩⟩
/-- out of none: the packet itself -/
theorem of_none {Bs Bn k : Nat} {oa : Option Addr} {bc : Nat} (h : SplitI n₀ w L0 B2 Bs Bn k s t l lv st (.slice oa 0 bc) [] W) (hn : n₀ ≤ W.heap.size) (hD : W.heap[D]? = some (.deferred (some []))) (hQ : Q 0 = []) (hs : Sl encB W (.slice oa 0 bc) []) :
    SplitF n₀ w L0 B2 s t l lv st (.slice oa 0 bc) W.heap.size 1 1 Q D 0 ((W.alloc (.cells (PkR.cells ⟨s, t, l, lv, st, oa, 0, bc⟩).toArray 24)).setCell ⟨L0, 0, none⟩ (.slice (some ⟨W.heap.size, 0, none⟩) 1 1)) := by
  obtain ⟨v, P, h1, h2, h3, h0, h4⟩ := h.ex
  have BA : Below W.heap.size W (W.alloc (.cells (PkR.cells ⟨s, t, l, lv, st, oa, 0, bc⟩).toArray 24)) := (Below.refl _ _).alloc (Nat.le_refl _) _
  have hL := lt_of_block h1
  have hB := lt_of_block h.box
  have hDl := lt_of_block hD
  have hL1 : (W.alloc (.cells (PkR.cells ⟨s, t, l, lv, st, oa, 0, bc⟩).toArray 24)).heap[L0]? = some (.cells #[v] 30 (0, 0)) := (BA.block _ hL).trans h1
  have same : ∀ j, j ≠ L0 → ((W.alloc (.cells (PkR.cells ⟨s, t, l, lv, st, oa, 0, bc⟩).toArray 24)).setCell ⟨L0, 0, none⟩ (.slice (some ⟨W.heap.size, 0, none⟩) 1 1)).heap[j]? = (W.alloc (.cells (PkR.cells ⟨s, t, l, lv, st, oa, 0, bc⟩).toArray 24)).heap[j]? := fun j hj => Below.heap_setCell _ _ _ _ hj
  have hLB : B2 ≠ L0 := fun e => by
    have hb := h.box
    unfold PkIn at hb
    rw [e, h1] at hb; simp at hb
  have hLD : D ≠ L0 := fun e => by rw [e, h1] at hD; cases hD
  refine ⟨⟨[⟨s, t, l, lv, st, oa, 0, bc⟩], ⟨rfl, .inr ⟨W.heap.size, 1, (PkR.cells ⟨s, t, l, lv, st, oa, 0, bc⟩).toArray, rfl, hn, ?_, by simp, by unfold maxLen; omega, rfl, rfl⟩⟩, rfl, fun i p hp => ?_⟩, obj_set hL1 0 _, ?_, ?_, by omega, ?_⟩
  · rw [same _ (by omega)]; exact obj_new _ _
  · have hi : i = 0 := by
      have := (List.getElem?_eq_some_iff.1 hp).1
      simp at this; exact this
    subst hi
    simp at hp
    subst hp
    rw [hQ]
    refine ⟨by simp, rfl, rfl, rfl, by simp, ?_, fun a ha hne => absurd rfl hne⟩
    rcases hs with ⟨_, oa', cap', e, q1, q2⟩ | ⟨b, off, cap, e, q1, q2, q3⟩
    · cases e; exact .inl ⟨rfl, _, _, rfl, q1, q2⟩
    · cases e; exact .inl ⟨rfl, _, _, rfl, q2, fun e => (by cases e)⟩
  · have hb := h.box
    unfold PkIn at *
    rw [same _ hLB, BA.block _ hB]; exact hb
  · exact Below.setCell (h.kb.trans (BA.mono hn)) h.lo.1 _
  · rw [same _ hLD, BA.block _ hDl]; exact hD
/-- the collected deferred calls are taken: what was handed out stays -/
theorem fin (h : SplitF n₀ w L0 B2 s t l lv st bv gN capN N1 Q D j W) (hn : n₀ ≤ D) (o : Obj) : Below n₀ w (W.putObj D o) ∧ (N1 ≤ j → ∃ P : List PkR, pktK.Own (W.putObj D o) n₀ (.slice (some ⟨gN, 0, none⟩) N1 capN) P ∧ P.length = N1 ∧ ∀ (i : Nat) (p : PkR), P[i]? = some p → p.s = (s + i) % 65536 ∧ p.t = t ∧ p.l = l ∧ p.lv = lv ∧ p.st = (st && decide (i = 0)) ∧ Sl encB (W.putObj D o) (.slice p.oa p.bn p.bc) (Q i)) := by
  have hg := grownBy_putObj' W D o
  have hr : ∀ r, some D = some r → ∃ o : Obj, W.heap[r]? = some o ∧ o.isCells = false := fun r e => by cases e; exact ⟨_, h.dK, rfl⟩
  obtain ⟨⟨cg, hcg⟩, hgn⟩ := h.blk
  have hgD : gN ≠ D := fun e => by rw [e, h.dK] at hcg; cases hcg
  have hD := lt_of_block h.dK
  refine ⟨⟨hg.os.trans h.kb.os, hg.tape.trans h.kb.tape, hg.output.trans h.kb.output, Nat.le_trans h.kb.size hg.size, fun k hk => ?_⟩, fun hj => ?_⟩
  · by_cases hkl : k < W.heap.size
    · rw [hg.block k hkl (by simp; omega)]; exact h.kb.block k hk
    · have e1 : W.heap[k]? = none := Array.getElem?_eq_none (by omega)
      have e2 : (W.putObj D o).heap[k]? = none := Array.getElem?_eq_none (by simp [World.putObj]; omega)
      rw [e2, ← e1]; exact h.kb.block k hk
  · obtain ⟨P, h1, h2, h3⟩ := h.ex
    refine ⟨P, h1.keep (fun g hg' _ hl => hg.block g hl (by simp [Value.ownBlock] at hg'; subst hg'; simpa using hgD)), h2, fun i p hp => ?_⟩
    have hi : i < N1 := by have := (List.getElem?_eq_some_iff.1 hp).1; omega
    obtain ⟨d1, d2, d3, d4, d5, d6, d7⟩ := h3 i p hp
    rw [if_pos (by omega)] at d1 d5
    refine ⟨d1, d2, d3, d4, d5, ?_⟩
    rcases d6 with d6 | ⟨b, off, cap, c0, c1, c2, c3⟩
    · exact .inl d6
    · exact .inr ⟨b, off, cap, c0, c1, c2, fun i hi => cell_kept (c3 i hi) hg hr⟩
end SplitF
end Go.Proofs.YtbjanihblffmoaaDoor
