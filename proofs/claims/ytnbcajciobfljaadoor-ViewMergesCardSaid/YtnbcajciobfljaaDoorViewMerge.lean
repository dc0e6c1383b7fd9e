import Derived.Test.YtnbcajciobfljaaDoorViewPut
/-! view.put, both, Merge. -/
namespace Go.Proofs.YtnbcajciobfljaaDoor
open Go.RowKit
set_option linter.unusedVariables false
set_option linter.unusedSimpArgs false
theorem own_num {w : World} {M g c : Nat} {L : List Mb} (h : mbK.Own w M (.slice (some ⟨g, 0, none⟩) L.length c) L) : M ≤ g ∧ g < w.heap.size ∧ L.length ≤ c ∧ c ≤ maxLen := by
  obtain ⟨h1, h2, h3, cur, h4, _⟩ := own_open h
  exact ⟨h1, lt_of_block h4, h2, h3⟩
set_option maxRecDepth 100000 in
set_option maxHeartbeats 4000000 in
theorem put_any (v : Value) (L : List Mb) (m : Mb) (M : Nat) (w : World) (ho : mbK.Own w M v L) (hM : M ≤ w.heap.size) (hr : Pl.Ris L) (hn : ∀ x ∈ L, x.Num) (hl : L.length ≤ 1000) :
    Calls Tryd.prog 19 #[v, mbV m.n m.v m.up] w fun e w' => ∃ v', e = .returned v' ∧ mbK.Own w' M v' (Pl.putV L m) ∧ Below M w w' := by
  have HFI := Lib.hid (fun y (k : mbK.Own y M v L) => find_any v L m.n y (mbK_ms k hn) hr (by omega))
  have HO := Lib.hid ho
  have HIN := Lib.hid (fun (i vb : Nat) y (k : mbK.Own y M v L) (hM : M ≤ y.heap.size) (hx : y.heap[vb]? = some (.cells m.cells.toArray 30 (0, 0))) (hne : v.ownBlock ≠ some vb) (hi : i ≤ L.length) => insert_any v L m M vb i y k hM hx hne hi hl)
  have PN := Lib.hid (fun i (h : Pl.Place L m.n i) (hn : Pl.has L m.n i = false) => Pl.put_no h hn)
  have PH := Lib.hid (fun i x (h : Pl.Place L m.n i) (hx : L[i]? = some x) (hn : x.n = m.n) => Pl.put_has h hx hn)
  have HS := Lib.hid (show ∀ a b c : Prop, True from fun _ _ _ => trivial)
  have HMS := Lib.hid (fun y (k : mbK.Own y M v L) => mbK_ms k hn)
  clear hr hn ho HS
  have SETM := Lib.hid (fun y (g c i : Nat) (e : v = .slice (some ⟨g, 0, none⟩) L.length c) (k : mbK.Own y M v L) (hi : i < L.length) => (show mbK.Own (((y.setCell ⟨g, i * 3, none⟩ (.int .i64 m.n)).setCell ⟨g, i * 3 + 1, none⟩ (.int .i64 m.v)).setCell ⟨g, i * 3 + 2, none⟩ (.bool m.up)) M v (L.set i m) from by subst e; exact own_set m k hi))
  obtain ⟨mn, mv, mu⟩ := m
  dsimp only at *
  go_enter Tryd.func19, Tryd.ntmps19
  go_upto_region 1 with fail
  obtain ⟨B, hB⟩ : ∃ B, w.heap.size = B := ⟨_, rfl⟩
  rw [hB] at hM
  refine abs_t (fun y => Hid (MbIn y B mn mv mu) ∧ Hid (mbK.Own y M v L) ∧ Hid (Below M w y) ∧ Hid (B < y.heap.size) ∧ Hid (v.ownBlock ≠ some B)) ⟨Lib.hid (by rw [← hB]; exact obj_new _ _), Lib.hid (HO.out.below ((Below.refl _ _).alloc (Nat.le_refl _) _)), Lib.hid ((Below.refl _ _).alloc (by omega) _), Lib.hid (by simp; omega), Lib.hid (fun e => by have := (HO.out.lt B e).2; omega)⟩ ?_
  rw [hB]
  clear HO hB
  rintro y ⟨PB, HO, KB, HBy, HNB⟩
  obtain ⟨p0, p1, p2⟩ := MbIn.cells PB.out
  go_upto_region 2 with (go_at_call 20; (with_reducible refine (HFI.out _ HO.out).mono ?_); rintro e z ⟨i, rfl, hp, k⟩; have HP := Lib.hid hp; have KZ := Lib.hid k; clear hp k)
  have HOz := Lib.hid (HO.out.below KZ.out)
  have PBz := Lib.hid (show MbIn z B mn mv mu from Below.heapAt KZ.out PB.out HBy.out)
  have HMy : M ≤ y.heap.size := by have := HBy.out; omega
  have KBz := Lib.hid (KB.out.trans (KZ.out.mono HMy))
  have HMz : M ≤ z.heap.size := Nat.le_trans HMy KZ.out.size
  have hile := HP.out.le
  clear p0 p1 p2 HO PB KB HFI
  obtain ⟨p0, p1, p2⟩ := MbIn.cells PBz.out
  obtain ⟨hs, hhs⟩ : ∃ hs, Pl.has L mn i = hs := ⟨_, rfl⟩
  rw [hhs]
  have HHS := Lib.hid hhs
  clear hhs
  cases hs
  · -- not there
    have PE := Lib.hid (PN.out i HP.out HHS.out)
    have INS := Lib.hid (show ∀ y2 : World, Below z.heap.size z y2 → y2.heap[z.heap.size]? = some (.cells #[.int .i64 mn, .int .i64 mv, .bool mu] 30 (0, 0)) → Calls Tryd.prog 23 #[v, .int .i64 i, .slice (some ⟨z.heap.size, 0, none⟩) 1 1] y2 fun e w' => ∃ v', e = .returned v' ∧ mbK.Own w' M v' (Pl.putV L ⟨mn, mv, mu⟩) ∧ Below M w w' from fun y2 k hx =>
      (HIN.out i z.heap.size y2 (HOz.out.below k) (Nat.le_trans HMz k.size) hx (fun e => by have := (HOz.out.lt _ e).2; omega) hile).mono fun e w' ⟨v', h1, h2, h3⟩ => ⟨v', h1, by rw [PE.out]; exact h2, KBz.out.trans ((k.mono HMz).trans h3)⟩)
    go_wp2_with (go_at_call 23; (with_reducible refine (INS.out _ ((Below.refl _ _).alloc (Nat.le_refl _) _) (obj_new _ _)).mono ?_); rintro e z2 ⟨v', rfl, hq, kq⟩; have HQ := Lib.hid hq; have KQ := Lib.hid kq; clear hq kq)
    go_ret
    exact ⟨_, rfl, HQ.out, KQ.out⟩
  · -- there
    have hlt : i < L.length := by
      by_cases e : i < L.length
      · exact e
      · have := HHS.out; rw [Pl.has_no (by omega)] at this; cases this
    have hxn : (L[i]).n = mn := by
      have := HHS.out
      unfold Pl.has at this
      rw [List.getElem?_eq_getElem hlt] at this
      simpa using this
    have PE := Lib.hid (PH.out i L[i] HP.out (List.getElem?_eq_getElem hlt) hxn)
    obtain ⟨oa, cp, e, hlc, hcm, -, rd⟩ := ms_read (HMS.out z HOz.out)
    obtain ⟨g, f, e2, hg, q0, q1, q2, -⟩ := rd i hlt
    subst e2
    have hgf : f = 0 ∧ M ≤ g := by
      rcases Joins.ownsRow_forms HOz.out with ⟨e3, _⟩ | ⟨g', c', e3⟩
      · rw [e] at e3; cases e3
      · have := HOz.out.lt g' (by rw [e3]; rfl)
        rw [e] at e3; cases e3
        exact ⟨rfl, this.1⟩
    obtain ⟨rfl, hMg⟩ := hgf
    have HSM := Lib.hid (SETM.out z g cp i e HOz.out hlt)
    subst e
    have hgB : g ≠ B := fun e => HNB.out (by rw [e]; rfl)
    have LT := Lib.hid (fun y => later_any mn mv L[i].n L[i].v mu L[i].up y)
    rw [Nat.zero_add] at q0 q1 q2
    obtain ⟨lt, hlt2⟩ : ∃ lt, decide (Pl.key (⟨L[i].n, L[i].v, L[i].up⟩ : Mb) < Pl.key ⟨mn, mv, mu⟩) = lt := ⟨_, rfl⟩
    rw [hlt2] at LT
    have PE2 := Lib.hid (show Pl.putV L ⟨mn, mv, mu⟩ = if lt = true then L.set i ⟨mn, mv, mu⟩ else L from by
      rw [PE.out]
      rw [show Pl.key L[i] = Pl.key (⟨L[i].n, L[i].v, L[i].up⟩ : Mb) from rfl]
      by_cases q : Pl.key (⟨L[i].n, L[i].v, L[i].up⟩ : Mb) < Pl.key ⟨mn, mv, mu⟩
      · rw [if_pos q, if_pos (by rw [← hlt2]; simpa using q)]
      · rw [if_neg q, if_neg (by rw [← hlt2]; simpa using q)])
    clear PE hxn rd hlt2
    generalize L[i].n = xn at *
    generalize L[i].v = xv at *
    generalize L[i].up = xu at *
    go_upto_region 4 with fail
    have HC := Lib.hid (fun y (k : Below z.heap.size z y) => (show y.cell? ⟨g, i * 3, none⟩ = some (.int .i64 xn) ∧ y.cell? ⟨g, i * 3 + 1, none⟩ = some (.int .i64 xv) ∧ y.cell? ⟨g, i * 3 + 2, none⟩ = some (.bool xu) ∧ y.cell? ⟨B, 0, none⟩ = some (.int .i64 mn) ∧ y.cell? ⟨B, 1, none⟩ = some (.int .i64 mv) ∧ y.cell? ⟨B, 2, none⟩ = some (.bool mu) from
        ⟨(k.cell (p := ⟨_, _, none⟩) (Sl.lt q0)).trans q0, (k.cell (p := ⟨_, _, none⟩) (Sl.lt q1)).trans q1, (k.cell (p := ⟨_, _, none⟩) (Sl.lt q2)).trans q2, (k.cell (p := ⟨_, _, none⟩) (Sl.lt p0)).trans p0, (k.cell (p := ⟨_, _, none⟩) (Sl.lt p1)).trans p1, (k.cell (p := ⟨_, _, none⟩) (Sl.lt p2)).trans p2⟩))
    have kd : Below z.heap.size z z.drew := Below.drewN (Below.refl _ _) 1
    go_cut [22] (fun v22 y => v22 = .bool lt ∧ Hid (Below z.heap.size z y))
    case first =>
      go_region_held3 (fun y => y.cell? ⟨g, i * 3, none⟩ = some (.int .i64 xn) ∧ y.cell? ⟨g, i * 3 + 1, none⟩ = some (.int .i64 xv) ∧ y.cell? ⟨g, i * 3 + 2, none⟩ = some (.bool xu) ∧ y.cell? ⟨B, 0, none⟩ = some (.int .i64 mn) ∧ y.cell? ⟨B, 1, none⟩ = some (.int .i64 mv) ∧ y.cell? ⟨B, 2, none⟩ = some (.bool mu))
        (first | (exact ⟨q0, q1, q2, p0, p1, p2⟩) | (with_reducible exact s12) | (with_reducible assumption))
        (first
        | (go_at_call 21; (with_reducible refine (LT.out _).mono ?_); rintro e z1 ⟨rfl, k1⟩; have K1 := Lib.hid (kd.trans (k1.mono kd.size)); have s12 := HC.out z1 K1.out; clear k1))
      go_wp2_with fail
      go_meet
      exact ⟨rfl, K1⟩
    case rest =>
    obtain ⟨rfl, KW⟩ := hcut
    cases lt
    · have PE3 := PE2.out
      rw [if_neg (by decide)] at PE3
      have OWN := Lib.hid (show mbK.Own _ M (.slice (some ⟨g, 0, none⟩) L.length cp) (Pl.putV L ⟨mn, mv, mu⟩) from by rw [PE3]; exact HOz.out.below KW.out)
      have KQ := Lib.hid (KBz.out.trans (KW.out.mono HMz))
      clear PE3
      go_wp2_with fail
      go_ret
      exact ⟨_, rfl, OWN.out, KQ.out⟩
    · have PE3 := PE2.out
      rw [if_pos rfl] at PE3
      have OWN := Lib.hid (own_set (⟨mn, mv, mu⟩ : Mb) (HOz.out.below KW.out) hlt)
      have PE4 := Lib.hid PE3
      obtain ⟨q0, q1, q2, p0, p1, p2⟩ := HC.out _ KW.out
      obtain ⟨-, -, -, cur, hcur, -, -⟩ := own_open (HOz.out.below KW.out)
      have f0 := obj_free hcur (i * 3)
      have f1 := obj_free hcur (i * 3 + 1)
      have f2 := obj_free hcur (i * 3 + 2)
      have KQ := Lib.hid (show ∀ a b c : Value, Below M w (((wc.setCell ⟨g, i * 3, none⟩ a).setCell ⟨g, i * 3 + 1, none⟩ b).setCell ⟨g, i * 3 + 2, none⟩ c) from fun a b c => KBz.out.trans ((KW.out.mono HMz).trans ((KeepsBut.set (KeepsBut.set (KeepsBut.set (KeepsBut.refl g _) _ _) _ _) _ _).below (Nat.le_trans HMz KW.out.size) hMg)))
      clear PE3 hcur kd HC LT
      go_wp2_with fail
      go_ret
      exact ⟨_, rfl, by rw [PE4.out]; exact OWN.out, KQ.out _ _ _⟩
/-- what is wrong with two -/
def Pl.BothF (A B : List Mb) (f : Int) : Prop := ∃ a, Pl.ViewF A a ∧ ((a ≠ 0 ∧ f = a) ∨ (a = 0 ∧ Pl.ViewF B f))
theorem Pl.BothF.eq {A B : List Mb} {f g : Int} (h : Pl.BothF A B f) (h' : Pl.BothF A B g) : f = g := by
  obtain ⟨a, h1, h2⟩ := h
  obtain ⟨a', h1', h2'⟩ := h'
  have := h1.eq h1'
  subst this
  rcases h2 with ⟨n, rfl⟩ | ⟨n, h2⟩ <;> rcases h2' with ⟨n', rfl⟩ | ⟨n', h2'⟩
  · rfl
  · exact absurd n' n
  · exact absurd n n'
  · exact h2.eq h2'
theorem Pl.BothF.zero {A B : List Mb} (h : Pl.BothF A B 0) : Pl.GoodV A ∧ Pl.GoodV B := by
  obtain ⟨a, h1, h2⟩ := h
  rcases h2 with ⟨n, e⟩ | ⟨rfl, h2⟩
  · exact absurd e.symm n
  · exact ⟨h1.good, h2.good⟩
theorem both_any (v1 v2 : Value) (A B : List Mb) (w : World) (h1 : IsMs w v1 A) (h2 : IsMs w v2 B) :
    Calls Tryd.prog 17 #[v1, v2] w fun e w' => ∃ f : Int, e = .returned (errV f) ∧ Pl.BothF A B f ∧ Below w.heap.size w w' := by
  have C1 := Lib.hid (viewCheck_any v1 A w h1)
  have C2 := Lib.hid (fun y (k : Below w.heap.size w y) => viewCheck_any v2 B y (h2.below k))
  clear h1 h2
  go_enter Tryd.func17, Tryd.ntmps17
  go_upto_region 2 with (go_at_call 6; (with_reducible refine C1.out.mono ?_); rintro r z ⟨a, rfl, ha, k⟩; have HA := Lib.hid ha; have K1 := Lib.hid k; clear ha k)
  by_cases h0 : a = 0
  · subst h0
    rw [errV_nil]
    go_wp2_with (go_at_call 6; (with_reducible refine (C2.out _ K1.out).mono ?_); rintro r z ⟨f, rfl, hf, k⟩; have HF := Lib.hid hf; have K2 := Lib.hid k; clear hf k)
    go_ret
    exact ⟨f, rfl, ⟨0, HA.out, .inr ⟨rfl, HF.out⟩⟩, K1.out.trans (K2.out.mono K1.out.size)⟩
  · have H0 := Lib.hid h0
    rw [errV_hit a h0]
    clear h0
    go_wp2_with fail
    go_ret
    exact ⟨a, by rw [errV_hit a H0.out]; rfl, ⟨a, HA.out, .inl ⟨H0.out, rfl⟩⟩, K1.out⟩
theorem mb_more {W w0 : World} {M : Nat} {v : Value} {L : List Mb} (h : mbK.Own W M v L) (x : Mb) (hn : L.length ≤ 999999) (K : Below M w0 W) (hM : M ≤ w0.heap.size) :
    ∃ gN capN wN, (Builtin.append_ #[22, 22] 22 #[v, .slice (some ⟨W.heap.size, 0, none⟩) 1 1]).run Tryd.prog (W.alloc (.cells #[.int .i64 x.n, .int .i64 x.v, .bool x.up] 30)) = .ok (.slice (some ⟨gN, 0, none⟩) (L.length + 1) capN) wN ∧ mbK.Own wN M (.slice (some ⟨gN, 0, none⟩) (L.length + 1) capN) (L ++ [x]) ∧ Below M w0 wN := by
  have hMW : M ≤ W.heap.size := Nat.le_trans hM K.size
  have kA : Below M w0 (W.alloc (.cells #[.int .i64 x.n, .int .i64 x.v, .bool x.up] 30)) := K.alloc hMW _
  obtain ⟨vN, wN, hr, ho, hgr, hbk⟩ := RecK.run_one mbK_ok (W.alloc (.cells #[.int .i64 x.n, .int .i64 x.v, .bool x.up] 30)) M v x L (h.below ((Below.refl _ _).alloc (Nat.le_refl _) _)) W.heap.size (obj_new _ _) hn (by simp; omega)
  have ho' := ho
  obtain ⟨gN, capN, rfl⟩ := Joins.ownsRow_form ho (by simp)
  have e : (L ++ [x]).length = L.length + 1 := by simp
  rw [e] at hr ho'
  refine ⟨gN, capN, wN, hr, by unfold RecK.Own at ho' ⊢; rw [e]; simpa using ho', ?_⟩
  exact ⟨hgr.os.trans kA.os, hgr.tape.trans kA.tape, hgr.output.trans kA.output, Nat.le_trans kA.size hgr.size, fun j hj => (hgr.block j (Nat.lt_of_lt_of_le hj (by simp; omega)) (fun e => by have := (h.lt j e.symm).1; omega)).trans (kA.block j hj)⟩
theorem Pl.take_more {α : Type} {L : List α} {i : Nat} (h : i < L.length) : L.take (i + 1) = L.take i ++ [L[i]] := by rw [List.take_add_one, List.getElem?_eq_getElem h]; rfl
theorem Pl.merge_more {A B : List Mb} {i : Nat} (h : i < B.length) : Pl.mergeV A (B.take (i + 1)) = Pl.putV (Pl.mergeV A (B.take i)) B[i] := by
  rw [Pl.take_more h]; unfold Pl.mergeV; rw [List.foldl_append]; rfl
set_option maxRecDepth 100000 in
set_option maxHeartbeats 4000000 in
theorem merge_any (v1 v2 : Value) (A B : List Mb) (w : World) (h1 : IsMs w v1 A) (h2 : IsMs w v2 B) :
    Calls Tryd.prog 9 #[v1, v2] w fun e w' => ∃ (f : Int) (v' : Value), e = .returned (.tuple #[v', errV f]) ∧ Pl.BothF A B f ∧ IsMs w' v' (if f = 0 then Pl.mergeV A B else []) ∧ Below w.heap.size w w' := by
  have BO := Lib.hid (both_any v1 v2 A B w h1 h2)
  obtain ⟨o2, c2, rfl, hlc2, hcm2, -, -⟩ := ms_read h2
  have H1 := Lib.hid h1
  have H2 := Lib.hid (show IsMs w (.slice o2 B.length c2) B from h2)
  unfold maxLen at hcm2
  clear h1 h2
  go_enter Tryd.func9, Tryd.ntmps9
  go_upto_region 2 with (go_at_call 17; (with_reducible refine BO.out.mono ?_); rintro r z ⟨a, rfl, ha, k⟩; have HA := Lib.hid ha; have K1 := Lib.hid k; clear ha k)
  clear BO
  by_cases h0 : a = 0
  case neg =>
    have H0 := Lib.hid h0
    rw [errV_hit a h0]
    clear h0
    go_wp2_with fail
    go_ret2
    exact ⟨a, _, by rw [errV_hit a H0.out]; rfl, HA.out, by rw [if_neg H0.out]; exact IsMs.nil _, K1.out⟩
  subst h0
  rw [errV_nil]
  have GD := Lib.hid HA.out.zero
  have CL := Lib.hid (cloneMb_any v1 A z (H1.out.below K1.out) (by have := GD.out.1.len; omega))
  go_upto_region 5 with (go_at_call 18; (with_reducible refine CL.out.mono ?_); rintro r z2 ⟨v7, rfl, ho, k⟩; have O0 := Lib.hid ho; have K2 := Lib.hid (K1.out.trans (k.mono K1.out.size)); clear ho k)
  have O1 := Lib.hid (show mbK.Own z2 w.heap.size v7 (Pl.mergeV A (B.take 0)) from by
    have e : Pl.mergeV A (B.take 0) = A := by simp [Pl.mergeV]
    rw [e]
    obtain ⟨q1, q2⟩ := O0.out
    refine ⟨q1, ?_⟩
    rcases q2 with h | ⟨g, cap, cur, e, a1, a2⟩
    · exact .inl h
    · exact .inr ⟨g, cap, cur, e, Nat.le_trans K1.out.size a1, a2⟩)
  clear CL O0 K1
  go_upto_region 6 with fail
  go_loopw [7, 20] (fun s7 s20 wr => ∃ i : Nat, i ≤ B.length ∧ s20 = .int .i64 i ∧ Hid (mbK.Own wr w.heap.size s7 (Pl.mergeV A (B.take i))) ∧ Hid (Below w.heap.size w wr)) (fun _ s20 _ => B.length - (intOf s20).toNat)
  case atStart => exact ⟨0, by omega, rfl, O1, K2⟩
  case round =>
    clear O1 K2
    obtain ⟨i, hi, rfl, OR, KR⟩ := hrel
    by_cases hlt : i < B.length
    · obtain ⟨_, _, e, -, -, -, rd⟩ := ms_read (H2.out.below KR.out)
      cases e
      obtain ⟨g, f, rfl, hg, q0, q1, q2, -⟩ := rd i hlt
      have GI := Lib.hid (Pl.mergeV_good (B := B.take i) GD.out.1 (fun x hx => GD.out.2.ok x (List.mem_of_mem_take hx)))
      have PT := Lib.hid (fun y (k : Below wr.heap.size wr y) => put_any u7 (Pl.mergeV A (B.take i)) B[i] w.heap.size y (OR.out.below k) (Nat.le_trans KR.out.size k.size) GI.out.ris (fun x hx => Pl.mbOk_num (GI.out.ok x hx)) (by have := GI.out.len; omega))
      have MM := Lib.hid (Pl.merge_more (A := A) hlt)
      clear rd
      have MM2 := Lib.hid (show ∀ y v', mbK.Own y w.heap.size v' (Pl.putV (Pl.mergeV A (B.take i)) B[i]) → mbK.Own y w.heap.size v' (Pl.mergeV A (B.take (i + 1))) from fun y v' k => by rw [MM.out]; exact k)
      clear MM
      obtain ⟨x, hx⟩ : ∃ x, B[i] = x := ⟨_, rfl⟩
      rw [hx] at PT MM2 q0 q1 q2
      obtain ⟨xn, xv, xu⟩ := x
      clear hx
      dsimp only at PT q0 q1 q2
      go_upto_region 8 with fail
      refine abs_t (fun y => Hid (MbIn y wr.heap.size xn xv xu) ∧ Hid (Below wr.heap.size wr y)) ⟨Lib.hid (obj_new _ _), Lib.hid ((Below.refl _ _).alloc (Nat.le_refl _) _)⟩ ?_
      obtain ⟨N, hN⟩ : ∃ N, wr.heap.size = N := ⟨_, rfl⟩
      rw [hN]
      have HN := Lib.hid hN
      clear q0 q1 q2 hN
      rintro y ⟨PB, KY⟩
      obtain ⟨q0, q1, q2⟩ := MbIn.cells PB.out
      have PTy := Lib.hid (PT.out y (by rw [HN.out]; exact KY.out))
      have KYw := Lib.hid (KR.out.trans (KY.out.mono (by have := KR.out.size; have := HN.out; omega)))
      clear PT
      go_wp2_with (go_at_call 19; (with_reducible refine PTy.out.mono ?_); rintro r z3 ⟨v', rfl, ho, k⟩; have OZ := Lib.hid (MM2.out _ _ ho); have KZ := Lib.hid (KYw.out.trans k); clear ho k)
      go_roundw
      case measure => simp [intOf]; omega
      case rel => exact ⟨i + 1, by omega, by go_num, OZ, KZ⟩
    · obtain rfl : i = B.length := by omega
      have GI := Lib.hid (Pl.mergeV_good GD.out.1 GD.out.2.ok)
      have OE := Lib.hid (show mbK.Own wr w.heap.size u7 (Pl.mergeV A B) from by have := OR.out; rw [List.take_length] at this; exact this)
      go_wp2_with fail
      go_ret2
      exact ⟨0, _, rfl, HA.out, by rw [if_pos rfl]; exact mbK_ms OE.out (fun x hx => Pl.mbOk_num (GI.out.ok x hx)), KR.out⟩
end Go.Proofs.YtnbcajciobfljaaDoor
