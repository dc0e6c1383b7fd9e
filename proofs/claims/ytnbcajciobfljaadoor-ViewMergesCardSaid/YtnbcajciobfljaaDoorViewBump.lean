import Derived.Test.YtnbcajciobfljaaDoorViewNewer
/-! view.Alive, Bump. -/
namespace Go.Proofs.YtnbcajciobfljaaDoor
open Go.RowKit
set_option linter.unusedVariables false
set_option linter.unusedSimpArgs false
theorem Pl.alive_more {A : List Mb} {i : Nat} (h : i < A.length) : Pl.aliveV (A.take (i + 1)) = Pl.aliveV (A.take i) ++ (if A[i].up = true then [A[i].n] else []) := by
  rw [Pl.take_more h]; unfold Pl.aliveV; rw [List.filter_append, List.map_append]
  congr 1
  rw [List.filter_cons]; split <;> rfl
set_option maxRecDepth 100000 in
set_option maxHeartbeats 4000000 in
theorem alive_any (v1 : Value) (A : List Mb) (w : World) (h1 : IsMs w v1 A) :
    Calls Tryd.prog 12 #[v1] w fun e w' => ∃ (f : Int) (v' : Value), e = .returned (.tuple #[v', errV f]) ∧ Pl.ViewF A f ∧ IRow w' w.heap.size v' (if f = 0 then Pl.aliveV A else []) ∧ Below w.heap.size w w' := by
  have CK := Lib.hid (viewCheck_any v1 A w h1)
  obtain ⟨o1, c1, rfl, hlc1, hcm1, -, -⟩ := ms_read h1
  have H1 := Lib.hid (show IsMs w (.slice o1 A.length c1) A from h1)
  unfold maxLen at hcm1
  clear h1
  go_enter Tryd.func12, Tryd.ntmps12
  go_upto_region 2 with (go_at_call 6; (with_reducible refine CK.out.mono ?_); rintro r z ⟨a, rfl, ha, k⟩; have HA := Lib.hid ha; have K1 := Lib.hid k; clear ha k)
  clear CK
  by_cases h0 : a = 0
  case neg =>
    have H0 := Lib.hid h0
    rw [errV_hit a h0]
    clear h0
    go_wp2_with fail
    go_ret2
    exact ⟨a, _, by rw [errV_hit a H0.out]; rfl, HA.out, by rw [if_neg H0.out]; exact IRow.nil _ _, K1.out⟩
  subst h0
  rw [errV_nil]
  have GD := Lib.hid HA.out.good
  have O1 := Lib.hid (show IRow z w.heap.size (.slice none 0 0) (Pl.aliveV (A.take 0)) from IRow.nil _ _)
  go_upto_region 6 with fail
  go_loopw [5, 15] (fun s5 s15 wr => ∃ i : Nat, i ≤ A.length ∧ s15 = .int .i64 i ∧ Hid (IRow wr w.heap.size s5 (Pl.aliveV (A.take i))) ∧ Hid (Below w.heap.size w wr)) (fun _ s15 _ => A.length - (intOf s15).toNat)
  case atStart => exact ⟨0, by omega, rfl, O1, K1⟩
  case round =>
    clear O1 K1
    obtain ⟨i, hi, rfl, OR, KR⟩ := hrel
    by_cases hlt : i < A.length
    · obtain ⟨_, _, e, -, -, -, rd⟩ := ms_read (H1.out.below KR.out)
      cases e
      obtain ⟨g, f, rfl, hg, q0, q1, q2, -⟩ := rd i hlt
      have GL := Lib.hid (show (Pl.aliveV (A.take i)).length ≤ 1000000 from by
        have := List.length_filter_le (·.up) (A.take i)
        have h2 := GD.out.len
        unfold Pl.aliveV
        rw [List.length_map]
        rw [List.length_take] at this; omega)
      have MM := Lib.hid (Pl.alive_more hlt)
      clear rd
      obtain ⟨xn, hxn⟩ : ∃ x, A[i].n = x := ⟨_, rfl⟩
      obtain ⟨xu, hxu⟩ : ∃ x, A[i].up = x := ⟨_, rfl⟩
      rw [hxn] at q0 MM
      rw [hxu] at q2 MM
      clear hxn hxu
      generalize A[i].v = xv at *
      go_upto_region 8 with fail
      obtain ⟨N, hN⟩ : ∃ N, wr.heap.size = N := ⟨_, rfl⟩
      have hwN : w.heap.size ≤ wr.heap.size := KR.out.size
      refine abs_t (fun y => Hid (MbIn y wr.heap.size xn xv xu) ∧ Hid (Below w.heap.size w y) ∧ Hid (IRow y w.heap.size u5 (Pl.aliveV (A.take i)))) ⟨Lib.hid (obj_new _ _), Lib.hid (KR.out.alloc hwN _), Lib.hid (OR.out.below ((Below.refl _ _).alloc (Nat.le_refl _) _))⟩ ?_
      rw [hN]
      clear q0 q1 q2 hN OR KR hwN
      rintro y ⟨PB, KY, OY⟩
      obtain ⟨p0, p1, p2⟩ := MbIn.cells PB.out
      cases xu
      · have O2 := Lib.hid (show IRow y w.heap.size u5 (Pl.aliveV (A.take (i + 1))) from by rw [MM.out, if_neg (by decide), List.append_nil]; exact OY.out)
        go_wp2_with fail
        go_roundw
        case measure => simp [intOf]; omega
        case rel => exact ⟨i + 1, by omega, by go_num, O2, KY⟩
      · obtain ⟨gN, capN, wN, hr, ho, hk⟩ := IRow.more OY.out xn GL.out KY.out (Nat.le_refl _)
        have HR := Lib.hid hr
        have O2 := Lib.hid (show IRow wN w.heap.size (.slice (some ⟨gN, 0, none⟩) ((Pl.aliveV (A.take i)).length + 1) capN) (Pl.aliveV (A.take (i + 1))) from by
          rw [MM.out, if_pos rfl]; exact ho)
        have KN := Lib.hid hk
        clear hr ho hk
        go_wp2_with (at_builtin; refine Lib.wpList_append_run _ rfl (.tmp 21) (.tmp 24) 36 36 rfl _ _ rfl rfl _ _ HR.out ?_)
        go_roundw
        case measure => simp [intOf]; omega
        case rel => exact ⟨i + 1, by omega, by go_num, O2, KN⟩
    · obtain rfl : i = A.length := by omega
      have OE := Lib.hid (show IRow wr w.heap.size u5 (Pl.aliveV A) from by have := OR.out; rw [List.take_length] at this; exact this)
      go_wp2_with fail
      go_ret2
      exact ⟨0, _, rfl, HA.out, by rw [if_pos rfl]; exact OE.out, KR.out⟩
/-- what is wrong with a member that is told anew -/
def Pl.BumpF (A : List Mb) (n : Int) (up : Bool) (f : Int) : Prop := ∃ a, Pl.ViewF A a ∧ ((a ≠ 0 ∧ f = a) ∨ (a = 0 ∧ f = if Pl.nodeB n = true then (if 1000000 < (Pl.bumpM A n up).v then 4 else 0) else 1))
theorem Pl.BumpF.eq {A : List Mb} {n : Int} {up : Bool} {f g : Int} (h : Pl.BumpF A n up f) (h' : Pl.BumpF A n up g) : f = g := by
  obtain ⟨a, h1, h2⟩ := h
  obtain ⟨a', h1', h2'⟩ := h'
  have := h1.eq h1'
  subst this
  rcases h2 with ⟨n, rfl⟩ | ⟨n, h2⟩ <;> rcases h2' with ⟨n', rfl⟩ | ⟨n', h2'⟩
  · rfl
  · exact absurd n' n
  · exact absurd n n'
  · rw [h2, h2']
theorem Pl.bump_ver {A : List Mb} (h : Pl.GoodV A) (n : Int) (up : Bool) : 1 ≤ (Pl.bumpM A n up).v ∧ (Pl.bumpM A n up).v ≤ 1000001 := by
  unfold Pl.bumpM
  cases e : Pl.vat A n with
  | none => simp only; omega
  | some x =>
    have := (Pl.mbOk_iff x).1 (h.ok x (Pl.vat_mem e))
    simp only; omega
theorem Pl.BumpF.zero {A : List Mb} {n : Int} {up : Bool} (h : Pl.BumpF A n up 0) : Pl.GoodV A ∧ Pl.mbOk (Pl.bumpM A n up) = true := by
  obtain ⟨a, h1, h2⟩ := h
  rcases h2 with ⟨n, e⟩ | ⟨rfl, h2⟩
  · exact absurd e.symm n
  · have g := h1.good
    refine ⟨g, (Pl.mbOk_iff _).2 ?_⟩
    have hv := Pl.bump_ver g n up
    split at h2
    · rename_i hn
      unfold Pl.nodeB at hn
      simp at hn
      have e : (Pl.bumpM A n up).n = n := rfl
      rw [e]
      split at h2
      · cases h2
      · omega
    · cases h2
set_option maxRecDepth 100000 in
set_option maxHeartbeats 4000000 in
theorem bump_any (v1 : Value) (A : List Mb) (n : Int) (up : Bool) (w : World) (h1 : IsMs w v1 A) :
    Calls Tryd.prog 14 #[v1, .int .i64 n, .bool up] w fun e w' => ∃ (f : Int) (v' : Value), e = .returned (.tuple #[v', errV f]) ∧ Pl.BumpF A n up f ∧ IsMs w' v' (if f = 0 then Pl.putV A (Pl.bumpM A n up) else []) ∧ Below w.heap.size w w' := by
  have CK := Lib.hid (viewCheck_any v1 A w h1)
  obtain ⟨o1, c1, rfl, hlc1, hcm1, -, -⟩ := ms_read h1
  have H1 := Lib.hid (show IsMs w (.slice o1 A.length c1) A from h1)
  have CN := Lib.hid (fun z => node_any n z)
  unfold maxLen at hcm1
  clear h1
  go_enter Tryd.func14, Tryd.ntmps14
  go_upto_region 2 with (go_at_call 6; (with_reducible refine CK.out.mono ?_); rintro r z ⟨a, rfl, ha, k⟩; have HA := Lib.hid ha; have K1 := Lib.hid k; clear ha k)
  clear CK
  by_cases h0 : a = 0
  case neg =>
    have H0 := Lib.hid h0
    rw [errV_hit a h0]
    clear h0
    go_wp2_with fail
    go_ret2
    exact ⟨a, _, by rw [errV_hit a H0.out]; rfl, ⟨a, HA.out, .inl ⟨H0.out, rfl⟩⟩, by rw [if_neg H0.out]; exact IsMs.nil _, K1.out⟩
  subst h0
  rw [errV_nil]
  have GD := Lib.hid HA.out.good
  obtain ⟨nb, hnb⟩ : ∃ nb, Pl.nodeB n = nb := ⟨_, rfl⟩
  rw [hnb] at CN
  have HNB := Lib.hid hnb
  clear hnb
  cases nb
  · go_wp2_with (go_at_call 16; (with_reducible refine (CN.out _).mono ?_); rintro e w2 ⟨rfl, rfl⟩)
    go_ret2
    exact ⟨1, _, rfl, ⟨0, HA.out, .inr ⟨rfl, by rw [HNB.out]; rfl⟩⟩, by rw [if_neg (by decide)]; exact IsMs.nil _, K1.out⟩
  go_upto_region 7 with (go_at_call 16; (with_reducible refine (CN.out _).mono ?_); rintro e w2 ⟨rfl, rfl⟩)
  have FI := Lib.hid (fun y (k : Below w.heap.size w y) => find_any (.slice o1 A.length c1) A n y (H1.out.below k) GD.out.ris (by have := GD.out.len; omega))
  obtain ⟨N, hN⟩ : ∃ N, z.heap.size = N := ⟨_, rfl⟩
  have hwN : w.heap.size ≤ z.heap.size := K1.out.size
  refine abs_t (fun y => Hid (MbIn y z.heap.size n 1 up) ∧ Hid (Below w.heap.size w y)) ⟨Lib.hid (obj_new _ _), Lib.hid (K1.out.alloc hwN _)⟩ ?_
  rw [hN] at hwN ⊢
  clear hN
  rintro y ⟨PB, KY⟩
  go_upto_region 8 with (go_at_call 20; (with_reducible refine (FI.out _ KY.out).mono ?_); rintro e z3 ⟨j, rfl, hp, k⟩; have HP := Lib.hid hp; have KZ := Lib.hid k; clear hp k)
  have PBz := Lib.hid (show MbIn z3 N n 1 up from Below.heapAt KZ.out PB.out (lt_of_block PB.out))
  have KZw := Lib.hid (KY.out.trans (KZ.out.mono KY.out.size))
  have VV := Lib.hid (show Pl.vat A n = if Pl.has A n j = true then A[j]? else none from HP.out.vat GD.out.ris)
  clear FI PB KY KZ K1
  obtain ⟨p0, p1, p2⟩ := MbIn.cells PBz.out
  obtain ⟨ver, hver⟩ : ∃ ver, (Pl.bumpM A n up).v = ver := ⟨_, rfl⟩
  have HV := Lib.hid hver
  clear hver
  have f1 := obj_free PBz.out 1
  obtain ⟨hs, hhs⟩ : ∃ hs, Pl.has A n j = hs := ⟨_, rfl⟩
  rw [hhs]
  have HHS := Lib.hid hhs
  clear hhs
  go_upto_if 30 with fail
  go_cut [0, 11, 12] from 24 to 36 (fun v0 v11 v12 y => v0 = .slice o1 A.length c1 ∧ (∃ b : Bool, v11 = .bool b) ∧ v12 = .slice o1 A.length c1 ∧ Hid (MbIn y N n ver up) ∧ Hid (Below w.heap.size w y))
  case first =>
    cases hs
    · have e : ver = 1 := by
        rw [← HV.out]
        unfold Pl.bumpM
        rw [VV.out, HHS.out]; rfl
      subst e
      go_wp2_with fail
      go_meet
      exact ⟨rfl, ⟨_, rfl⟩, rfl, PBz, KZw⟩
    · have hj := Pl.has_lt HHS.out
      obtain ⟨_, _, e, -, -, -, rd⟩ := ms_read (H1.out.below KZw.out)
      cases e
      obtain ⟨g1, f1', rfl, hg1, q0, q1, q2, nn⟩ := rd j hj
      have e : ver = A[j].v + 1 := by
        rw [← HV.out]
        unfold Pl.bumpM
        rw [VV.out, HHS.out, if_pos rfl, List.getElem?_eq_getElem hj]
      have hb : 1 ≤ A[j].v ∧ A[j].v ≤ 1000000 := ((Pl.mbOk_iff _).1 (GD.out.ok _ (List.getElem_mem hj))).2.2
      obtain ⟨xv, hxv⟩ : ∃ x, A[j].v = x := ⟨_, rfl⟩
      rw [hxv] at e hb q1
      obtain ⟨hb1, hb2⟩ := hb
      clear rd q0 q2 nn hxv
      have PB2 := Lib.hid (show MbIn (z3.setCell ⟨N, 1, none⟩ (.int .i64 (xv + 1))) N n (xv + 1) up from obj_set PBz.out 1 _)
      have K2 := Lib.hid (show Below w.heap.size w (z3.setCell ⟨N, 1, none⟩ (.int .i64 (xv + 1))) from KZw.out.trans ((KeepsBut.set (KeepsBut.refl N _) _ _).below KZw.out.size hwN))
      have HE := Lib.hid e
      clear e
      go_wp2_with fail
      go_meet
      refine ⟨rfl, ⟨_, rfl⟩, rfl, ?_, K2⟩
      rw [HE.out]; exact PB2
  case rest =>
  obtain ⟨rfl, ⟨b11, rfl⟩, rfl, PBw, KW⟩ := hcut
  clear p0 p1 p2 f1 PBz KZw VV HHS
  obtain ⟨p0, p1, p2⟩ := MbIn.cells PBw.out
  by_cases hbig : 1000000 < ver
  · have HF := Lib.hid (show Pl.BumpF A n up 4 from ⟨0, HA.out, .inr ⟨rfl, by rw [HNB.out, if_pos rfl, HV.out, if_pos hbig]⟩⟩)
    go_wp2_with fail
    go_ret2
    exact ⟨4, _, rfl, HF.out, by rw [if_neg (by decide)]; exact IsMs.nil _, KW.out⟩
  have HF := Lib.hid (show Pl.BumpF A n up 0 from ⟨0, HA.out, .inr ⟨rfl, by rw [HNB.out, if_pos rfl, HV.out, if_neg hbig]⟩⟩)
  have BM := Lib.hid (show Pl.bumpM A n up = ⟨n, ver, up⟩ from by rw [← HV.out]; rfl)
  have CL := Lib.hid (fun y (k : Below w.heap.size w y) => cloneMb_any (.slice o1 A.length c1) A y (H1.out.below k) (by have := GD.out.len; omega))
  have PT := Lib.hid (fun M v' y (k : mbK.Own y M v' A) (hM : M ≤ y.heap.size) => put_any v' A ⟨n, ver, up⟩ M y k hM GD.out.ris (fun x hx => Pl.mbOk_num (GD.out.ok x hx)) (by have := GD.out.len; omega))
  have kd : Below w.heap.size w wc.drew := Below.drewN KW.out 1
  have kc : Below wc.heap.size wc wc.drew := Below.drewN (Below.refl _ _) 1
  have HC := Lib.hid (fun y (k : Below wc.heap.size wc y) => (show y.cell? ⟨N, 0, none⟩ = some (.int .i64 n) ∧ y.cell? ⟨N, 1, none⟩ = some (.int .i64 ver) ∧ y.cell? ⟨N, 2, none⟩ = some (.bool up) from
            ⟨(k.cell (p := ⟨_, _, none⟩) (Sl.lt p0)).trans p0, (k.cell (p := ⟨_, _, none⟩) (Sl.lt p1)).trans p1, (k.cell (p := ⟨_, _, none⟩) (Sl.lt p2)).trans p2⟩))
  go_upto_region 12 with fail
  go_region_held3 (fun y => y.cell? ⟨N, 0, none⟩ = some (.int .i64 n) ∧ y.cell? ⟨N, 1, none⟩ = some (.int .i64 ver) ∧ y.cell? ⟨N, 2, none⟩ = some (.bool up))
    (first | (exact ⟨p0, p1, p2⟩) | (with_reducible exact s12) | (with_reducible assumption))
    (first
    | (go_at_call 18; (with_reducible refine (CL.out _ kd).mono ?_); rintro e z1 ⟨v1, rfl, o1, k1⟩; have O1 := Lib.hid o1; have K1 := Lib.hid (kd.trans (k1.mono kd.size)); have KC := Lib.hid (kc.trans (k1.mono kc.size)); have s12 := HC.out z1 KC.out; clear k1 o1)
    | (go_at_call 19; (with_reducible refine (PT.out _ _ _ O1.out (by have := KC.out.size; simpa using this)).mono ?_); rintro e z2 ⟨v2, rfl, o2, k2⟩; have O2 := Lib.hid o2; have K2 := Lib.hid (K1.out.trans (k2.mono (by have := kd.size; exact this))); have s12 := HC.out z2 (KC.out.trans k2); clear k2 o2)
    | fail)
  have GO := Lib.hid (Pl.putV_good GD.out HF.out.zero.2)
  go_wp2_with fail
  go_ret2
  exact ⟨0, _, rfl, HF.out, by rw [if_pos rfl, BM.out]; exact mbK_ms O2.out (fun x hx => Pl.mbOk_num (GO.out.ok x (by rw [BM.out]; exact hx))), K2.out⟩
end Go.Proofs.YtnbcajciobfljaaDoor
