import Derived.Test.YtnbcajciobfljaaDoorViewCheck
import Derived.Laws.CopyRow
import Derived.Laws.Externs
import Derived.Lib.Overlaps
import Derived.Lib.AppendZerosOnto
import Derived.Shelf.Spec.SlicesInsert
/-! slices.Insert of one member into a row of the call's own. -/
namespace Go.Proofs.YtnbcajciobfljaaDoor
open Go.RowKit
set_option linter.unusedVariables false
set_option linter.unusedSimpArgs false
/-- copy into a row of records -/
theorem run_copy_rowN (P : Program) (w : World) (dT sT ty elem : TypeId) (m g o dLen dCap : Nat) (a : Addr) (sLen sCap : Nat) (cur : Array Value) (t : TypeId) (cs : List Value) (k : Nat)
    (hu : P.underlying dT = some (.slice elem)) (hs : (P.info? elem).map (·.size) = some m)
    (hg : w.heap[g]? = some (.cells cur t (0, 0))) (hk : Nat.min sLen dLen = k) (hn : cs.length = k * m)
    (hsrc : ∀ j v, cs[j]? = some v → w.cell? (a.add j) = some v) (hfit : o + cs.length ≤ cur.size) (h1 : ∀ v ∈ cs, v.oneCell' = true) :
    (Builtin.copy_ #[dT, sT] ty #[.slice (some ⟨g, o, none⟩) dLen dCap, .slice (some a) sLen sCap]).run P w =
      .ok (goInt k) (w.setRow g (cur.toList.take o ++ cs ++ cur.toList.drop (o + cs.length)).toArray) := by
  have hl := run_loadCells_list (P := P) w a cs hsrc
  have hst := run_storeCells_at P g o t cs 0 cur w hg (by simpa using hfit) h1
  cases hq : P.info? elem with
  | none => simp [hq] at hs
  | some i =>
    have hi : i.size = m := by simpa [hq] using hs
    simp [Builtin.copy_, run_underlying hu, Builtin.lenOf, Builtin.firstCells, sizeOf, typeInfo, hq, hi, hk, ← hn, hl, hst]
theorem KeepsBut.setRow (g : Nat) (w : World) (X : Array Value) : KeepsBut g w (w.setRow g X) :=
  ⟨rfl, rfl, rfl, by simp [World.setRow], fun j hj hn => by
    simp only [World.setRow]
    rw [Array.getElem?_modify]
    split
    · rename_i e; exact absurd e.symm hn
    · rfl⟩
namespace RecK
variable {α : Type} {R : RecK α}
theorem all_cons (x : α) (L : List α) : R.all (x :: L) = R.cells x ++ R.all L := by simp [all]
theorem all_take (h : R.Ok) (L : List α) (i : Nat) : (R.all L).take (i * R.n) = R.all (L.take i) := by
  induction L generalizing i with
  | nil => simp [all]
  | cons x r ih =>
    cases i with
    | zero => simp [all]
    | succ i =>
      have hl := h.len x
      rw [all_cons, List.take_succ_cons, all_cons, List.take_append, hl, List.take_of_length_le (by rw [hl, Nat.add_mul]; omega), show (i + 1) * R.n - R.n = i * R.n by rw [Nat.add_mul]; omega, ih]
theorem all_drop (h : R.Ok) (L : List α) (i : Nat) : (R.all L).drop (i * R.n) = R.all (L.drop i) := by
  induction L generalizing i with
  | nil => simp [all]
  | cons x r ih =>
    cases i with
    | zero => simp
    | succ i =>
      have hl := h.len x
      rw [all_cons, List.drop_succ_cons, List.drop_append, hl, List.drop_of_length_le (by rw [hl, Nat.add_mul]; omega), show (i + 1) * R.n - R.n = i * R.n by rw [Nat.add_mul]; omega, ih]
      rfl
end RecK
theorem mb_len (L : List Mb) : (mbK.all L).length = L.length * 3 := RecK.all_len mbK mbK_ok L
/-- the two writes of the shift -/
theorem ins_shift (L : List Mb) (x : Mb) (i : Nat) (cur : List Value) (hi : i ≤ L.length) (hc : L.length * 3 + 3 ≤ cur.length) (ht : cur.take (L.length * 3) = mbK.all L) :
    ∃ tl : List Value, (((cur.take ((i + 1) * 3) ++ mbK.all (L.drop i) ++ cur.drop ((i + 1) * 3 + (mbK.all (L.drop i)).length)).take (i * 3)) ++ x.cells ++ ((cur.take ((i + 1) * 3) ++ mbK.all (L.drop i) ++ cur.drop ((i + 1) * 3 + (mbK.all (L.drop i)).length)).drop (i * 3 + x.cells.length))) = mbK.all (L.take i ++ x :: L.drop i) ++ tl := by
  have e1 : x.cells.length = 3 := rfl
  have e2 : (cur.take ((i + 1) * 3)).length = (i + 1) * 3 := by rw [List.length_take]; omega
  refine ⟨cur.drop ((i + 1) * 3 + (mbK.all (L.drop i)).length), ?_⟩
  rw [List.append_assoc (cur.take _), List.take_append_of_le_length (by rw [e2]; omega), List.take_take, Nat.min_eq_left (by omega), e1, show i * 3 + 3 = (i + 1) * 3 by omega]
  rw [List.drop_left' e2]
  have e3 : cur.take (i * 3) = mbK.all (L.take i) := by
    have := RecK.all_take mbK_ok L i
    rw [show i * mbK.n = i * 3 from rfl, ← ht, List.take_take, Nat.min_eq_left (by omega)] at this
    exact this
  rw [e3, RecK.all_app, RecK.all_cons]
  simp [List.append_assoc, mbK]
theorem ins_grow (L : List Mb) (x : Mb) (i : Nat) (z : List Value) (hi : i ≤ L.length) (hz : (L.length - i) * 3 + 3 ≤ z.length) :
    ∃ tl : List Value, ((((mbK.all (L.take i) ++ z).take (i * 3) ++ x.cells ++ (mbK.all (L.take i) ++ z).drop (i * 3 + x.cells.length)).take ((i + 1) * 3)) ++ mbK.all (L.drop i) ++ (((mbK.all (L.take i) ++ z).take (i * 3) ++ x.cells ++ (mbK.all (L.take i) ++ z).drop (i * 3 + x.cells.length)).drop ((i + 1) * 3 + (mbK.all (L.drop i)).length))) = mbK.all (L.take i ++ x :: L.drop i) ++ tl := by
  have e1 : x.cells.length = 3 := rfl
  have e2 : (mbK.all (L.take i)).length = i * 3 := by rw [mb_len, List.length_take]; congr 1; omega
  refine ⟨((mbK.all (L.take i) ++ z).take (i * 3) ++ x.cells ++ (mbK.all (L.take i) ++ z).drop (i * 3 + x.cells.length)).drop ((i + 1) * 3 + (mbK.all (L.drop i)).length), ?_⟩
  generalize ((mbK.all (L.take i) ++ z).take (i * 3) ++ x.cells ++ (mbK.all (L.take i) ++ z).drop (i * 3 + x.cells.length)).drop ((i + 1) * 3 + (mbK.all (L.drop i)).length) = T
  rw [List.take_left' e2]
  have e3 : (mbK.all (L.take i) ++ x.cells).length = (i + 1) * 3 := by rw [List.length_append, e2, e1]; omega
  rw [List.take_left' e3, RecK.all_app, RecK.all_cons]
  simp only [List.append_assoc, mbK]
set_option maxHeartbeats 4000000 in
set_option maxRecDepth 100000 in
/-- at the end -/
theorem insert_end (v : Value) (L : List Mb) (x : Mb) (M vb : Nat) (w : World) (ho : mbK.Own w M v L) (hM : M ≤ w.heap.size) (hx : w.heap[vb]? = some (.cells x.cells.toArray 30 (0, 0))) (hl : L.length ≤ 1000) :
    Calls Tryd.prog 23 #[v, .int .i64 L.length, .slice (some ⟨vb, 0, none⟩) 1 1] w fun e w' => ∃ v', e = .returned v' ∧ mbK.Own w' M v' (L ++ [x]) ∧ Below M w w' := by
  obtain ⟨v', w', hr, ho', hg, hb⟩ := RecK.run_one mbK_ok w M v x L ho vb hx (by omega) hM
  have HR := Lib.hid (show (Builtin.append_ #[22, 22] 22 #[v, .slice (some ⟨vb, 0, none⟩) 1 1]).run Tryd.prog w = .ok v' w' from hr)
  have HO := Lib.hid ho'
  have HB := Lib.hid (show Below M w w' from ⟨hg.os, hg.tape, hg.output, hg.size, fun j hj => hg.block j (Nat.lt_of_lt_of_le hj hM) (fun e => by have := (ho.lt j e.symm).1; omega)⟩)
  rcases Joins.ownsRow_forms ho with ⟨rfl, h0⟩ | ⟨g, cap, rfl⟩
  · rw [h0]
    clear hr ho' hg hb ho
    go_enter Tryd.func23, Tryd.ntmps23
    go_wp2_with (at_builtin; refine Lib.wpList_append_run _ rfl (.tmp 23) (.tmp 24) 22 22 rfl _ _ rfl rfl _ _ HR.out ?_)
    go_ret
    exact ⟨_, rfl, HO.out, HB.out⟩
  · have hcap : L.length ≤ cap ∧ cap ≤ maxLen := by
      rcases ho.2 with ⟨e, _⟩ | ⟨g', cap', cur, e, _, _, h1, h2, _⟩
      · cases e
      · cases e; exact ⟨h1, h2⟩
    unfold maxLen at hcap
    obtain ⟨hc1, hc2⟩ := hcap
    have NC := Lib.hid (show ∀ k : Nat, k = L.length → k = L.length from fun k h => h)
    clear hr ho' hg hb ho
    by_cases hc : cap = L.length
    · subst hc
      go_enter Tryd.func23, Tryd.ntmps23
      go_wp2_with (at_builtin; refine Lib.wpList_append_run _ rfl (.tmp 23) (.tmp 24) 22 22 rfl _ _ rfl rfl _ _ HR.out ?_)
      go_ret
      exact ⟨_, rfl, HO.out, HB.out⟩
    · go_enter Tryd.func23, Tryd.ntmps23
      go_wp2_with (at_builtin; refine Lib.wpList_append_run _ rfl (.tmp 23) (.tmp 24) 22 22 rfl _ _ rfl rfl _ _ HR.out ?_)
      go_ret
      exact ⟨_, rfl, HO.out, HB.out⟩
theorem info3 : (Tryd.prog.info? 30).map (·.size) = some 3 := by
  obtain ⟨i0, hi, hz0, hz1, hz2⟩ := info_parts infoMb
  rw [hi]; simp [hz1]
theorem size3 (w : World) : (Go.sizeOf 30).run Tryd.prog w = .ok 3 w := by
  obtain ⟨i0, hi, hz0, hz1, hz2⟩ := info_parts infoMb
  simp [sizeOf, typeInfo, hi, hz1]
theorem shape_of {w : World} {b : Nat} {cs : Array Value} {t : TypeId} (h : w.heap[b]? = some (.cells cs t (0, 0))) : w.shape? b = some (t, cs.size) := by simp [World.shape?, h]
/-- what a row of the call's own holds, written out -/
theorem own_open {w : World} {M : Nat} {g c : Nat} {L : List Mb} (h : mbK.Own w M (.slice (some ⟨g, 0, none⟩) L.length c) L) : M ≤ g ∧ L.length ≤ c ∧ c ≤ maxLen ∧ ∃ cur : Array Value, w.heap[g]? = some (.cells cur 30 (0, 0)) ∧ cur.size = c * 3 ∧ cur.toList.take (L.length * 3) = mbK.all L := by
  rcases h.2 with ⟨e, _⟩ | ⟨g', c', cur, e, h1, h2, h3, h4, h5, h6⟩
  · cases e
  · cases e; exact ⟨h1, h3, h4, cur, h2, h5, h6⟩
theorem own_close {w : World} {M g c n : Nat} {L : List Mb} {cur : Array Value} {tl : List Value} (hM : M ≤ g) (hg : w.heap[g]? = some (.cells cur 30 (0, 0))) (hn : n = L.length) (hc : L.length ≤ c) (hm : c ≤ maxLen) (hs : cur.size = c * 3) (ht : cur.toList = mbK.all L ++ tl) : mbK.Own w M (.slice (some ⟨g, 0, none⟩) n c) L := by
  subst hn
  refine ⟨mb_len L, .inr ⟨g, c, cur, rfl, hM, hg, hc, hm, hs, ?_⟩⟩
  rw [show L.length * mbK.n = L.length * 3 from rfl, ht, List.take_left' (mb_len L)]
set_option maxHeartbeats 8000000 in
set_option maxRecDepth 100000 in
/-- there is room: in place -/
theorem insert_shift (g c : Nat) (L : List Mb) (x : Mb) (M vb i : Nat) (w : World) (ho : mbK.Own w M (.slice (some ⟨g, 0, none⟩) L.length c) L) (hM : M ≤ w.heap.size) (hx : w.heap[vb]? = some (.cells x.cells.toArray 30 (0, 0))) (hne : vb ≠ g) (hi : i < L.length) (hroom : L.length + 1 ≤ c) (hl : L.length ≤ 1000) :
    Calls Tryd.prog 23 #[.slice (some ⟨g, 0, none⟩) L.length c, .int .i64 i, .slice (some ⟨vb, 0, none⟩) 1 1] w fun e w' => ∃ v', e = .returned v' ∧ mbK.Own w' M v' (L.take i ++ x :: L.drop i) ∧ Below M w w' := by
  obtain ⟨hMg, hlc, hcm, cur, hg, hs, ht⟩ := own_open ho
  obtain ⟨tl, htl⟩ := ins_shift L x i cur.toList (by omega) (by simp [hs]; omega) ht
  have hov : ∀ lb cb, (callFunc 30 #[.slice (some ⟨vb, 0, none⟩) 1 1, .slice (some ⟨g, (i + 1) * 3, none⟩) lb cb]).run Tryd.prog w = .ok (.value (.bool false)) w := fun lb cb => by
    rw [run_callFunc_extern Tryd.func30 (by kernel_rfl) (by kernel_rfl) (by kernel_rfl) (e := Extern.SlicesOverlaps.overlaps #[22, 22] #[4]) (by kernel_rfl),
      Lib.run_overlaps_apart w 22 4 30 Tryd.underlying22 3 size3 ⟨vb, 0, none⟩ ⟨g, (i + 1) * 3, none⟩ 1 1 lb cb hne _ _ _ _ (shape_of hx) (shape_of hg) (by rw [hs]; omega) (obj_free hx 0) (obj_free hx _)]
    rfl
  have hd : (mbK.all (L.drop i)).length = (L.length - i) * 3 := by rw [mb_len, List.length_drop]
  have hcd : ∀ j v, (mbK.all (L.drop i))[j]? = some v → w.cell? ⟨g, i * 3 + j, none⟩ = some v := fun j v hj => by
    have e := RecK.all_drop mbK_ok L i
    rw [show i * mbK.n = i * 3 from rfl] at e
    rw [← e, List.getElem?_drop] at hj
    refine obj_cell hg ?_
    rw [← ht, List.getElem?_take] at hj
    split at hj
    · simpa using hj
    · cases hj
  have hg2 := setRow_heap w g cur ((cur.toList.take ((i + 1) * 3) ++ mbK.all (L.drop i) ++ cur.toList.drop ((i + 1) * 3 + (mbK.all (L.drop i)).length)).toArray) _ _ hg
  have hsz2 : (cur.toList.take ((i + 1) * 3) ++ mbK.all (L.drop i) ++ cur.toList.drop ((i + 1) * 3 + (mbK.all (L.drop i)).length)).length = c * 3 := by
    have := Array.length_toList (xs := cur)
    rw [List.length_append, List.length_append, List.length_take, List.length_drop, hd]; omega
  have hcp1 : ∀ ty dc sc, (Builtin.copy_ #[22, 22] ty #[.slice (some ⟨g, (i + 1) * 3, none⟩) (L.length + 1 - (i + 1)) dc, .slice (some ⟨g, i * 3, none⟩) (L.length + 1 - i) sc]).run Tryd.prog w.drew = .ok (goInt ((L.length - i : Nat) : Int)) (w.drew.setRow g (cur.toList.take ((i + 1) * 3) ++ mbK.all (L.drop i) ++ cur.toList.drop ((i + 1) * 3 + (mbK.all (L.drop i)).length)).toArray) := fun ty dc sc => by
    refine run_copy_rowN Tryd.prog w.drew 22 22 ty 30 3 g ((i + 1) * 3) (L.length + 1 - (i + 1)) dc ⟨g, i * 3, none⟩ (L.length + 1 - i) sc cur _ (mbK.all (L.drop i)) (L.length - i) Tryd.underlying22 info3 hg (by simp only [Nat.min_def]; split <;> omega) hd (fun j v hj => by rw [Addr.add_lit]; exact hcd j v hj) (by rw [hd, hs]; omega) (fun u hu => RecK.all_one' mbK mbK_ok _ u hu)
  obtain ⟨W1, hW1⟩ : ∃ W1, W1 = w.drew.setRow g (cur.toList.take ((i + 1) * 3) ++ mbK.all (L.drop i) ++ cur.toList.drop ((i + 1) * 3 + (mbK.all (L.drop i)).length)).toArray := ⟨_, rfl⟩
  have K1 : KeepsBut g w W1 := by
    rw [hW1]
    exact Keeps.trans (Keeps.drewN (Keeps.refl _ _) 1) (KeepsBut.setRow _ _ _)
  have g1 : W1.heap[g]? = some (.cells (cur.toList.take ((i + 1) * 3) ++ mbK.all (L.drop i) ++ cur.toList.drop ((i + 1) * 3 + (mbK.all (L.drop i)).length)).toArray 30 (0, 0)) := by
    rw [hW1]; exact setRow_heap w.drew g cur _ _ _ hg
  rw [← hW1] at hcp1
  generalize hR1 : cur.toList.take ((i + 1) * 3) ++ mbK.all (L.drop i) ++ cur.toList.drop ((i + 1) * 3 + (mbK.all (L.drop i)).length) = R1 at *
  have hx1 : W1.heap[vb]? = some (.cells x.cells.toArray 30 (0, 0)) := Keeps.heap K1 hx hne
  have hcp2 : ∀ ty dc, (Builtin.copy_ #[22, 22] ty #[.slice (some ⟨g, i * 3, none⟩) (L.length + 1 - i) dc, .slice (some ⟨vb, 0, none⟩) 1 1]).run Tryd.prog W1 = .ok (goInt ((1 : Nat) : Int)) (W1.setRow g (R1.take (i * 3) ++ x.cells ++ R1.drop (i * 3 + x.cells.length)).toArray) := fun ty dc => by
    have := run_copy_rowN Tryd.prog W1 22 22 ty 30 3 g (i * 3) (L.length + 1 - i) dc ⟨vb, 0, none⟩ 1 1 R1.toArray _ x.cells 1 Tryd.underlying22 info3 g1 (by simp only [Nat.min_def]; split <;> omega) rfl (fun j v hj => by rw [Addr.add_lit, Nat.zero_add]; exact obj_cell hx1 (by simpa using hj)) (by simp [hsz2, Mb.cells]; omega) (fun u hu => mbK_ok.one x u hu)
    simpa using this
  obtain ⟨W2, hW2⟩ : ∃ W2, W2 = W1.setRow g (R1.take (i * 3) ++ x.cells ++ R1.drop (i * 3 + x.cells.length)).toArray := ⟨_, rfl⟩
  have K2 : KeepsBut g w W2 := by
    rw [hW2]
    exact Keeps.trans K1 (KeepsBut.setRow _ _ _)
  have g2 : W2.heap[g]? = some (.cells (R1.take (i * 3) ++ x.cells ++ R1.drop (i * 3 + x.cells.length)).toArray 30 (0, 0)) := by
    rw [hW2]; exact setRow_heap W1 g _ _ _ _ g1
  rw [← hW2] at hcp2
  have hll : (L.take i ++ x :: L.drop i).length = L.length + 1 := by simp; omega
  have OWN := Lib.hid (show mbK.Own W2 M (.slice (some ⟨g, 0, none⟩) (L.length + 1) c) (L.take i ++ x :: L.drop i) from
    own_close hMg g2 hll.symm (by omega) hcm (by rw [List.size_toArray, List.length_append, List.length_append, List.length_take, List.length_drop, hsz2]; simp [Mb.cells]; omega) htl)
  have KB := Lib.hid (K2.below hM hMg)
  have OV := Lib.hid hov
  have C1 := Lib.hid hcp1
  have C2 := Lib.hid hcp2
  unfold maxLen at hcm
  clear hcp1 hcp2 hov hcd htl hd hsz2 ht hs hg hg2 K1 K2 g1 g2 hx1 hx ho hR1 hW1 hW2 hll hMg hM
  have hz2 : ¬ ((i : Int) = (L.length : Int)) := by omega
  have hw1 : IntKind.i64.wrap ((i : Int) + 1) = (i : Int) + 1 := by rw [IntKind.wrap_i64]; omega
  have hb1 : (0 : Int) ≤ (i : Int) + 1 := by omega
  have htn : ((i : Int) + 1).toNat = i + 1 := by omega
  have hb2 : ¬ (c = i + 1) := by omega
  have hb3 : (i : Int) ≤ (L.length : Int) + 1 := by omega
  have hb4 : ¬ (c = i) := by omega
  have hin : i ≤ L.length := by omega
  have mixed : Tryd.prog.follows .mixedOrders = true := by kernel_rfl
  go_enter Tryd.func23, Tryd.ntmps23
  go_upto_region 14 with fail
  go_wp2_with (simp only [OV.out])
  go_region_law_o (refine step_copy_runI rfl _ _ 22 22 rfl (.slice (some ⟨g, (i + 1) * 3, none⟩) (L.length + 1 - (i + 1)) (c - (i + 1))) (.slice (some ⟨g, i * 3, none⟩) (L.length + 1 - i) (c - i)) (by simp [Act.eval, Act.put]) (by simp [Act.eval, Act.put]) (C1.out 3 _ _) ?_)
  have c2 := C2.out
  go_wp2_with fail
  go_ret
  exact ⟨_, rfl, OWN.out, KB.out⟩
set_option maxHeartbeats 8000000 in
set_option maxRecDepth 100000 in
/-- there is no room: a new row -/
theorem insert_grow (g c : Nat) (L : List Mb) (x : Mb) (M vb i : Nat) (w : World) (ho : mbK.Own w M (.slice (some ⟨g, 0, none⟩) L.length c) L) (hM : M ≤ w.heap.size) (hx : w.heap[vb]? = some (.cells x.cells.toArray 30 (0, 0))) (hi : i < L.length) (hroom : c < L.length + 1) (hl : L.length ≤ 1000) :
    Calls Tryd.prog 23 #[.slice (some ⟨g, 0, none⟩) L.length c, .int .i64 i, .slice (some ⟨vb, 0, none⟩) 1 1] w fun e w' => ∃ v', e = .returned v' ∧ mbK.Own w' M v' (L.take i ++ x :: L.drop i) ∧ Below M w w' := by
  obtain ⟨hMg, hlc, hcm, cur, hg, hs, ht⟩ := own_open ho
  obtain ⟨i0, hi0, hz0, hzs, hzb⟩ := info_parts infoMb
  have hgw := lt_of_block hg
  have hvw := lt_of_block hx
  have hd : (mbK.all (L.drop i)).length = (L.length - i) * 3 := by rw [mb_len, List.length_drop]
  have htk : (mbK.all (L.take i)).length = i * 3 := by rw [mb_len, List.length_take]; congr 1; omega
  have hcd : ∀ j v, (mbK.all (L.drop i))[j]? = some v → w.cell? ⟨g, i * 3 + j, none⟩ = some v := fun j v hj => by
    have e := RecK.all_drop mbK_ok L i
    rw [show i * mbK.n = i * 3 from rfl] at e
    rw [← e, List.getElem?_drop] at hj
    refine obj_cell hg ?_
    rw [← ht, List.getElem?_take] at hj
    split at hj
    · simpa using hj
    · cases hj
  have hct : ∀ j v, (mbK.all (L.take i))[j]? = some v → w.cell? ⟨g, j, none⟩ = some v := fun j v hj => by
    have e := RecK.all_take mbK_ok L i
    rw [show i * mbK.n = i * 3 from rfl] at e
    rw [← e, List.getElem?_take] at hj
    split at hj
    · refine obj_cell hg ?_
      rw [← ht, List.getElem?_take] at hj
      split at hj
      · simpa using hj
      · cases hj
    · cases hj
  have hold : (Builtin.firstCells i0.size i (.slice (some ⟨g, 0, none⟩) i c)).run Tryd.prog w.drew = .ok (mbK.all (L.take i)).toArray w.drew := by
    rw [hzs]
    exact run_firstCells_some w.drew 3 i ⟨g, 0, none⟩ i c (mbK.all (L.take i)) (by rw [htk]) (fun j v hj => by
      rw [Addr.add_lit, Nat.zero_add]
      exact hct j v hj)
  have hkk : (L.length : Int) + 1 - (i : Int) = ((L.length + 1 - i : Nat) : Int) := by omega
  have hik : i + (L.length + 1 - i) = L.length + 1 := by omega
  have hrz : ∀ ty, (Builtin.append_ #[22, 3] ty #[.slice (some ⟨g, 0, none⟩) i c, .int .i64 ((L.length : Int) + 1 - (i : Int))]).run Tryd.prog w =
      .ok (.slice (some ⟨w.heap.size, 0, none⟩) (L.length + 1) (grownCap w (L.length + 1) c 30)) (w.drew.alloc (.cells ((mbK.all (L.take i)).toArray ++ Builtin.zeroCells (mbV 0 0 false).cells (L.length + 1 - i) ++ Builtin.zeroCells (mbV 0 0 false).cells (grownCap w (L.length + 1) c 30 - (L.length + 1))) 30)) := fun ty => by
    have h := Lib.run_append_grow_zeros w 22 3 ty 30 i0 _ .i64 .i64 Tryd.underlying22 Tryd.underlying3 hi0 hz0 (some ⟨g, 0, none⟩) i c (mbK.all (L.take i)) hold (L.length + 1 - i) (by omega) (by omega) (by omega) (by omega) (by rw [hzb]; omega) (by rw [hzb, hik]; exact growslice_fits hroom (by omega))
    rw [hik] at h
    rw [hkk]
    exact h
  have hGn : L.length + 1 ≤ grownCap w (L.length + 1) c 30 := grownCap_ge w _ _ _
  have hGm : grownCap w (L.length + 1) c 30 ≤ maxLen := grownCap_le_maxLen w (L.length + 1) c 30 (by unfold maxLen; omega)
  generalize grownCap w (L.length + 1) c 30 = G at *
  obtain ⟨Z, hZ⟩ : ∃ Z : List Value, Z = (Builtin.zeroCells (mbV 0 0 false).cells (L.length + 1 - i) ++ Builtin.zeroCells (mbV 0 0 false).cells (G - (L.length + 1))).toList := ⟨_, rfl⟩
  have hZl : Z.length = (G - i) * 3 := by
    rw [hZ]
    simp [Builtin.zeroCells, Value.cells]
    omega
  have hROW : ((mbK.all (L.take i)).toArray ++ Builtin.zeroCells (mbV 0 0 false).cells (L.length + 1 - i) ++ Builtin.zeroCells (mbV 0 0 false).cells (G - (L.length + 1))) = (mbK.all (L.take i) ++ Z).toArray := by
    rw [hZ]
    apply Array.ext'
    simp
  rw [hROW] at hrz
  clear hROW hZ
  obtain ⟨tl, htl⟩ := ins_grow L x i Z (by omega) (by rw [hZl]; omega)
  obtain ⟨R0, hR0⟩ : ∃ R0, R0 = mbK.all (L.take i) ++ Z := ⟨_, rfl⟩
  have hR0l : R0.length = G * 3 := by rw [hR0, List.length_append, htk, hZl]; omega
  rw [← hR0] at hrz htl
  obtain ⟨W0, hW0⟩ : ∃ W0, W0 = w.drew.alloc (.cells R0.toArray 30) := ⟨_, rfl⟩
  rw [← hW0] at hrz
  have K0 : Below w.heap.size w W0 := by rw [hW0]; exact (Below.drewN (Below.refl _ _) 1).alloc (Nat.le_refl _) _
  have g0 : W0.heap[w.heap.size]? = some (.cells R0.toArray 30 (0, 0)) := by rw [hW0]; exact obj_new w.drew _
  obtain ⟨N, hN⟩ : ∃ N, w.heap.size = N := ⟨_, rfl⟩
  rw [hN] at hrz K0 g0 hgw hvw hM
  have hx0 := Below.heapAt K0 hx hvw
  have hcd0 : ∀ j v, (mbK.all (L.drop i))[j]? = some v → W0.cell? ⟨g, i * 3 + j, none⟩ = some v := fun j v hj => (K0.cell (p := ⟨_, _, none⟩) hgw).trans (hcd j v hj)
  have hcpA : ∀ ty dc, (Builtin.copy_ #[22, 22] ty #[.slice (some ⟨N, i * 3, none⟩) (L.length + 1 - i) dc, .slice (some ⟨vb, 0, none⟩) 1 1]).run Tryd.prog W0 = .ok (goInt ((1 : Nat) : Int)) (W0.setRow N (R0.take (i * 3) ++ x.cells ++ R0.drop (i * 3 + x.cells.length)).toArray) := fun ty dc => by
    have := run_copy_rowN Tryd.prog W0 22 22 ty 30 3 N (i * 3) (L.length + 1 - i) dc ⟨vb, 0, none⟩ 1 1 R0.toArray _ x.cells 1 Tryd.underlying22 info3 g0 (by simp only [Nat.min_def]; split <;> omega) rfl (fun j v hj => by rw [Addr.add_lit, Nat.zero_add]; exact obj_cell hx0 (by simpa using hj)) (by simp [hR0l, Mb.cells]; omega) (fun u hu => mbK_ok.one x u hu)
    simpa using this
  obtain ⟨W1, hW1⟩ : ∃ W1, W1 = W0.setRow N (R0.take (i * 3) ++ x.cells ++ R0.drop (i * 3 + x.cells.length)).toArray := ⟨_, rfl⟩
  have K1 : Below N w W1 := by rw [hW1]; exact K0.trans ((KeepsBut.setRow N W0 _).below (Nat.le_of_lt (lt_of_block g0)) (Nat.le_refl _))
  have g1 : W1.heap[N]? = some (.cells (R0.take (i * 3) ++ x.cells ++ R0.drop (i * 3 + x.cells.length)).toArray 30 (0, 0)) := by rw [hW1]; exact setRow_heap W0 N _ _ _ _ g0
  have hR1l : (R0.take (i * 3) ++ x.cells ++ R0.drop (i * 3 + x.cells.length)).length = G * 3 := by
    rw [List.length_append, List.length_append, List.length_take, List.length_drop, hR0l]; simp [Mb.cells]; omega
  rw [← hW1] at hcpA
  have hcd1 : ∀ j v, (mbK.all (L.drop i))[j]? = some v → W1.drew.cell? ⟨g, i * 3 + j, none⟩ = some v := fun j v hj => (K1.cell (p := ⟨_, _, none⟩) hgw).trans (hcd j v hj)
  generalize hR1 : R0.take (i * 3) ++ x.cells ++ R0.drop (i * 3 + x.cells.length) = R1 at *
  have hcpB : ∀ ty dc sc, (Builtin.copy_ #[22, 22] ty #[.slice (some ⟨N, (i + 1) * 3, none⟩) (L.length + 1 - (i + 1)) dc, .slice (some ⟨g, i * 3, none⟩) (L.length - i) sc]).run Tryd.prog W1.drew = .ok (goInt ((L.length - i : Nat) : Int)) (W1.drew.setRow N (R1.take ((i + 1) * 3) ++ mbK.all (L.drop i) ++ R1.drop ((i + 1) * 3 + (mbK.all (L.drop i)).length)).toArray) := fun ty dc sc => by
    have := run_copy_rowN Tryd.prog W1.drew 22 22 ty 30 3 N ((i + 1) * 3) (L.length + 1 - (i + 1)) dc ⟨g, i * 3, none⟩ (L.length - i) sc R1.toArray _ (mbK.all (L.drop i)) (L.length - i) Tryd.underlying22 info3 g1 (by simp only [Nat.min_def]; split <;> omega) hd (fun j v hj => by rw [Addr.add_lit]; exact hcd1 j v hj) (by simp [hR1l, hd]; omega) (fun u hu => RecK.all_one' mbK mbK_ok _ u hu)
    simpa using this
  obtain ⟨W2, hW2⟩ : ∃ W2, W2 = W1.drew.setRow N (R1.take ((i + 1) * 3) ++ mbK.all (L.drop i) ++ R1.drop ((i + 1) * 3 + (mbK.all (L.drop i)).length)).toArray := ⟨_, rfl⟩
  have K2 : Below N w W2 := by rw [hW2]; exact (Below.drewN K1 1).trans ((KeepsBut.setRow N W1.drew _).below (show N ≤ W1.heap.size from Nat.le_of_lt (lt_of_block g1)) (Nat.le_refl _))
  have g2 : W2.heap[N]? = some (.cells (R1.take ((i + 1) * 3) ++ mbK.all (L.drop i) ++ R1.drop ((i + 1) * 3 + (mbK.all (L.drop i)).length)).toArray 30 (0, 0)) := by rw [hW2]; exact setRow_heap W1.drew N _ _ _ _ g1
  rw [← hW2] at hcpB
  have hll : (L.take i ++ x :: L.drop i).length = L.length + 1 := by simp; omega
  have OWN := Lib.hid (show mbK.Own W2 M (.slice (some ⟨N, 0, none⟩) (L.length + 1) G) (L.take i ++ x :: L.drop i) from
    own_close hM g2 hll.symm (by omega) hGm (by rw [List.size_toArray, List.length_append, List.length_append, List.length_take, List.length_drop, hR1l, hd]; omega) htl)
  have KB := Lib.hid (K2.mono hM)
  have RZ := Lib.hid hrz
  have CA := Lib.hid hcpA
  have CB := Lib.hid hcpB
  have HNN := Lib.hid hN
  unfold maxLen at hcm hGm
  have hgN : g ≠ N := by omega
  clear hrz hcpA hcpB hcd hct hcd0 hcd1 htl hd hR1l hR0l ht hs hg K0 K1 K2 g0 g1 g2 hx0 hx ho hR0 hR1 hW0 hW1 hW2 hll hMg hM hN hold hkk hik hZl htk hi0 hz0 hzs hzb hgw hvw
  have hz2 : ¬ ((i : Int) = (L.length : Int)) := by omega
  have hw1 : IntKind.i64.wrap ((i : Int) + 1) = (i : Int) + 1 := by rw [IntKind.wrap_i64]; omega
  have hb1 : (0 : Int) ≤ (i : Int) + 1 := by omega
  have htn : ((i : Int) + 1).toNat = i + 1 := by omega
  have hb3 : (i : Int) ≤ (L.length : Int) + 1 := by omega
  have hin : i ≤ L.length := by omega
  have hz3 : (c : Int) < (L.length : Int) + 1 := by omega
  have hci : ¬ (c = i) := by omega
  have hGi : ¬ (G = i) := by omega
  have hGim : ¬ (G = i + 1) := by omega
  have mixed : Tryd.prog.follows .mixedOrders = true := by kernel_rfl
  go_enter Tryd.func23, Tryd.ntmps23
  go_upto_region 10 with (at_builtin; refine Lib.wpList_append_run _ rfl (.tmp 34) (.tmp 39) 22 3 rfl _ _ rfl rfl _ _ (RZ.out _) ?_)
  have ca := CA.out
  go_upto_region 11 with fail
  go_region_law_o (refine step_copy_runI rfl _ _ 22 22 rfl (.slice (some ⟨N, (i + 1) * 3, none⟩) (L.length + 1 - (i + 1)) (G - (i + 1))) (.slice (some ⟨g, i * 3, none⟩) (L.length - i) (c - i)) (by simp [Act.eval, Act.put]) (by simp [Act.eval, Act.put]) (CB.out 3 _ _) ?_)
  go_wp2_with fail
  go_ret
  exact ⟨_, rfl, OWN.out, KB.out⟩
/-- wherever -/
theorem insert_any (v : Value) (L : List Mb) (x : Mb) (M vb i : Nat) (w : World) (ho : mbK.Own w M v L) (hM : M ≤ w.heap.size) (hx : w.heap[vb]? = some (.cells x.cells.toArray 30 (0, 0))) (hne : v.ownBlock ≠ some vb) (hi : i ≤ L.length) (hl : L.length ≤ 1000) :
    Calls Tryd.prog 23 #[v, .int .i64 i, .slice (some ⟨vb, 0, none⟩) 1 1] w fun e w' => ∃ v', e = .returned v' ∧ mbK.Own w' M v' (L.take i ++ x :: L.drop i) ∧ Below M w w' := by
  by_cases he : i = L.length
  · subst he
    rw [List.take_length, List.drop_length]
    exact insert_end v L x M vb w ho hM hx hl
  · rcases Joins.ownsRow_forms ho with ⟨rfl, h0⟩ | ⟨g, cap, rfl⟩
    · omega
    · by_cases hr : L.length + 1 ≤ cap
      · exact insert_shift g cap L x M vb i w ho hM hx (fun e => hne (by rw [e]; rfl)) (by omega) hr hl
      · exact insert_grow g cap L x M vb i w ho hM hx (by omega) (by omega) hl
end Go.Proofs.YtnbcajciobfljaaDoor
