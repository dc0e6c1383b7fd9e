import Derived.Test.YtlfdkoebjddokaaDoorRefOrderQ
/-! The reference's Order: Pop. -/
namespace Go.Proofs.YtlfdkoebjddokaaDoor
open Go.RowKit
set_option linter.unusedVariables false
set_option linter.unusedSimpArgs false
/-- the loop's memory -/
structure RPop (M : Nat) (w : World) (v0 : Value) (b : Nat) (wait now nx : Int) (v : Value) (K : List KI) (vO : Value) (O : List Itm) (y : World) : Prop where
  ord : ROrd M y b wait now nx v K
  out : itemK.Own y w.heap.size vO O
  fp : ROFP b v0 w y
  own : ∀ g, v.ownBlock = some g → v0.ownBlock = some g ∨ w.heap.size ≤ g
  bl : b < w.heap.size
namespace RPop
variable {M : Nat} {w y z : World} {v0 : Value} {b : Nat} {wait now nx : Int} {v : Value} {K : List KI} {vO : Value} {O : List Itm}
theorem below (h : RPop M w v0 b wait now nx v K vO O y) (k : Below y.heap.size y z) : RPop M w v0 b wait now nx v K vO O z :=
  ⟨h.ord.below k, h.out.below k, Keeps.trans h.fp (Below.toKeeps k (Nat.le_refl _)), h.own, h.bl⟩
theorem drewN (h : RPop M w v0 b wait now nx v K vO O y) (n : Nat) : RPop M w v0 b wait now nx v K vO O (y.drewN n) :=
  ⟨h.ord.drewN n, by exact h.out, Keeps.drewN h.fp _, h.own, h.bl⟩
theorem item_kept {w : World} {M M' : Nat} {v u : Value} {L : List KI} {O : List Itm} (hr : keptK.Own w M v L) (hg : itemK.Own w M' u O) : v.ownBlock = none ∨ v.ownBlock ≠ u.ownBlock := by
  cases hu : v.ownBlock with
  | none => exact .inl rfl
  | some k =>
    refine .inr (fun e => ?_)
    rcases hr.2 with ⟨rfl, _⟩ | ⟨g, cap, cur, rfl, _, e1, _⟩
    · cases hu
    · rcases hg.2 with ⟨rfl, _⟩ | ⟨g', cap', cur', rfl, _, e2, _⟩
      · cases e
      · simp [Value.ownBlock] at hu e
        subst hu e
        rw [e1] at e2; simp [keptK, itemK] at e2
/-- an item is handed out -/
theorem more {vN : Value} {O' : List Itm} (h : RPop M w v0 b wait now nx v K vO O y) (q : y.grownBy z vO.ownBlock) (ho : itemK.Own z w.heap.size vN O') : RPop M w v0 b wait now nx v K vN O' z := by
  have hge : ∀ k, vO.ownBlock = some k → w.heap.size ≤ k := fun k hk => (h.out.lt k hk).1
  refine ⟨⟨?_, h.ord.row.keep (fun g hg _ hl => q.block g hl (fun e => by
    rcases item_kept h.ord.row h.out with e' | e'
    · rw [e'] at hg; cases hg
    · exact e' (by rw [hg, ← e]))), h.ord.low⟩, ho, ⟨q.os.trans h.fp.os, q.tape.trans h.fp.tape, q.output.trans h.fp.output, Nat.le_trans h.fp.size q.size, fun k hk hn => (q.block k (Nat.lt_of_lt_of_le hk h.fp.size) (fun e => by have := hge k e.symm; omega)).trans (h.fp.block k hk hn)⟩, h.own, h.bl⟩
  have e := q.block b (lt_of_block h.ord.at_) (fun e => by have := hge b e.symm; have := h.bl; omega)
  have a := h.ord.at_
  unfold ROrdAt at *
  rw [e]; exact a
/-- what is left is stored -/
theorem left {v' : Value} {K' : List KI} (h : RPop M w v0 b wait now nx v K vO O y) (hM : M ≤ w.heap.size) (k : Below y.heap.size y z) (hr : keptK.Own z y.heap.size v' K') : ROrdAt z b wait now nx v ∧ RPop M w v0 b wait now nx v' K' vO O (z.setCell ⟨b, 3, none⟩ v') := by
  have h2 := h.below k
  have hs := h.fp.size
  have hob : vO.ownBlock ≠ some b := fun e => by have := (h.out.lt b e).1; have := h.bl; omega
  refine ⟨h2.ord.at_, ⟨ROrd.put h2.ord.at_ h2.ord.low (World.ownsRow.mono hr (by omega)), h2.out.keep (fun g hg _ _ => Below.heap_setCell _ _ _ _ (fun e => hob (hg.trans (by rw [e])))), Keeps.setCell h2.fp (.inl (.inl rfl)) _, fun g hg => .inr ?_, h.bl⟩⟩
  have := (hr.lt g hg).1; omega
theorem set {nx' now' : Int} {j : Nat} {u : Value} (h : RPop M w v0 b wait now nx v K vO O y) (hg : ROrdAt (y.setCell ⟨b, j, none⟩ u) b wait now' nx' v) : RPop M w v0 b wait now' nx' v K vO O (y.setCell ⟨b, j, none⟩ u) := by
  have hob : vO.ownBlock ≠ some b := fun e => by have := (h.out.lt b e).1; have := h.bl; omega
  exact ⟨h.ord.set hg, h.out.keep (fun g hg _ _ => Below.heap_setCell _ _ _ _ (fun e => hob (hg.trans (by rw [e])))), Keeps.setCell h.fp (.inl (.inl rfl)) _, h.own, h.bl⟩
end RPop
/-- how Pop ends -/
def RPopE (M b : Nat) (wait now next : Int) (v : Value) (L : List KI) (w : World) (e : Ending) (w' : World) : Prop :=
  ∃ (vO v' : Value) (nx : Int), e = .returned (.tuple #[vO, .int .i64 0]) ∧ next ≤ nx ∧ ROrd M w' b wait now nx v' (leftK L nx) ∧ itemK.Own w' w.heap.size vO (popI L next (nx - next).toNat) ∧ ROFP b v w w' ∧ (∀ g, v'.ownBlock = some g → v.ownBlock = some g ∨ w.heap.size ≤ g) ∧
    StopK L now wait nx ∧ ∀ m, next ≤ m → m < nx → ¬ StopK L now wait m
set_option maxRecDepth 100000 in
set_option maxHeartbeats 4000000 in
theorem rPop_ok (M b : Nat) (wait cur next now mx : Int) (v : Value) (L : List KI) (ht : Pl.oTime cur now = 0) (hn : 0 ≤ now ∧ now ≤ 1000000) (hw : 0 ≤ wait ∧ wait ≤ 1000000) (hn1 : -1 ≤ next) (hmx : next ≤ mx ∧ mx ≤ next + 1000 ∧ next ≤ 1099511627876) (hL : L.length ≤ 10000) (hu : (L.map KI.num).Nodup) (hr : ∀ x ∈ L, next ≤ x.num ∧ x.num < mx ∧ 0 ≤ x.at_ ∧ x.at_ ≤ 1000000) (w : World) (hM : M ≤ w.heap.size) (h : ROrd M w b wait cur next v L) :
    Calls Tryd.prog 11 #[.pointer (some ⟨b, 0, none⟩), .int .i64 now] w (RPopE M b wait now next v L w) := by
  have H := Lib.hid h
  have TT := Lib.hid (rOrdTime_any b wait cur next v now w h.at_)
  rw [ht] at TT
  obtain ⟨hn0, hn2⟩ := hn
  obtain ⟨hw0, hw1⟩ := hw
  obtain ⟨hm1, hm2, hm3⟩ := hmx
  have HU := Lib.hid hu
  have HR := Lib.hid hr
  have c1 : w.cell? ⟨b, 1, none⟩ = some (.int .i64 cur) := obj_cell h.at_ rfl
  have f1 := obj_free h.at_ 1
  clear h ht hu hr
  go_enter Tryd.func11, Tryd.ntmps11
  go_upto_region 5 with (go_at_call 26; (with_reducible refine TT.out.mono ?_); rintro e w' ⟨rfl, rfl⟩)
  have LA := leftK_all (fun x hx => (HR.out x hx).1)
  refine abs_to (fun y => Hid (RPop M w v b wait now next v (leftK L next) (.slice none 0 0) (popI L next 0) y)) (Lib.hid ⟨by rw [LA]; exact H.out.set (by unfold ROrdAt; rw [obj_set H.out.at_]; rfl), RecK.Own.nil _ _, Keeps.setCell (Keeps.refl _ _) (.inl (.inl rfl)) _, fun g e => .inl e, lt_of_block H.out.at_⟩) ?_
  clear H c1 f1 TT LA
  rintro y0 S0
  go_upto_region 6 with fail
  go_loopw [7] (fun s7 wr => ∃ (nx : Int) (vK : Value), next ≤ nx ∧ nx ≤ mx ∧ Hid (RPop M w v b wait now nx vK (leftK L nx) s7 (popI L next (nx - next).toNat) wr) ∧ Hid (∀ m, next ≤ m → m < nx → ¬ StopK L now wait m)) (fun _ wr => (mx - RowKit.intOf ((wr.cell? ⟨b, 2, none⟩).getD .nilIface)).toNat)
  case atStart => exact ⟨next, v, by omega, by omega, by simpa using S0, Lib.hid (fun m h1 h2 => by omega)⟩
  case round =>
    clear S0
    obtain ⟨nx, vK, i1, i2, S, ST⟩ := hrel
    have HKl : (leftK L nx).length ≤ 10000 := by have := leftK_len L nx; omega
    obtain ⟨oK, cK, rfl, hrd⟩ := S.out.ord.row.read keptK_ok
    have HRD := Lib.hid hrd
    clear hrd
    have k3 : wr.cell? ⟨b, 3, none⟩ = some (.slice oK (leftK L nx).length cK) := obj_cell S.out.ord.at_ rfl
    have k2 : wr.cell? ⟨b, 2, none⟩ = some (.int .i64 nx) := obj_cell S.out.ord.at_ rfl
    have HK2 := Lib.hid k2
    obtain ⟨K, hK⟩ : ∃ K, leftK L nx = K := ⟨_, rfl⟩
    have HK := Lib.hid hK
    rw [hK] at S HKl HRD k3
    clear hK
    have HMEM := Lib.hid (show ∀ x, x ∈ K ↔ x ∈ L ∧ nx ≤ x.num from fun x => by rw [← HK.out]; exact leftK_mem)
    have HNL : Hid ((popI L next (nx - next).toNat).length ≤ 1000) := Lib.hid (by rw [popI_len]; omega)
    have HP := Lib.hid (show popI L next (nx + 1 - next).toNat = popI L next (nx - next).toNat ++ [outI L nx] from by
      rw [show (nx + 1 - next).toNat = (nx - next).toNat + 1 by omega, popI_step, show next + (((nx - next).toNat : Nat) : Int) = nx by omega])
    by_cases hemp : K.length = 0
    · have hK0 := List.eq_nil_of_length_eq_zero hemp
      subst hK0
      have HST := Lib.hid (show StopK L now wait nx from ⟨fun x hx e => absurd ((HMEM.out x).2 ⟨hx, by omega⟩) (by simp), fun x hx e => absurd ((HMEM.out x).2 ⟨hx, e⟩) (by simp)⟩)
      go_wp2_with fail
      go_ret2
      exact ⟨_, _, nx, rfl, i1, by rw [HK.out]; exact S.out.ord, S.out.out, S.out.fp, S.out.own, HST.out, ST.out⟩
    have hpos : 0 < K.length := by omega
    have hlt : nx < mx := by
      obtain ⟨h1, h2⟩ := (HMEM.out _).1 (List.getElem_mem (l := K) (n := 0) hpos)
      have := HR.out _ h1; omega
    have A1 := Lib.hid (rOrdAt_any M b wait now nx _ K nx (by omega) wr S.out.ord)
    go_upto_region 8 with (go_at_call 29; refine A1.out.mono ?_; rintro e w' ⟨k, rfl, hk, rfl⟩; have HKK := Lib.hid hk; clear hk)
    clear A1
    rcases HKK.out with ⟨rfl, hno⟩ | ⟨j, rfl, hj, hj1⟩
    · have HNO := Lib.hid hno
      clear hno HKK
      have HRD' := HRD
      clear k2 k3 HRD
      have HST2 := Lib.hid (show (∃ x : KI, x ∈ K ∧ wait ≤ now - x.at_) → ∀ m, next ≤ m → m < nx + 1 → ¬ StopK L now wait m from fun ⟨x, hx, e1⟩ m h1 h2 hs => by
        by_cases e : m = nx
        · subst e
          obtain ⟨q1, q2⟩ := (HMEM.out x).1 hx
          have := hs.2 x q1 q2
          omega
        · exact ST.out m h1 (by omega) hs)
      have HSTOP := Lib.hid (show ¬ (∃ x : KI, x ∈ K ∧ wait ≤ now - x.at_) → StopK L now wait nx from fun hn => ⟨fun x hx e => HNO.out x ((HMEM.out x).2 ⟨hx, by omega⟩) e, fun x hx e => by
        rcases Int.lt_or_le (now - x.at_) wait with h | h
        · exact h
        · exact absurd ⟨x, (HMEM.out x).2 ⟨hx, e⟩, h⟩ hn⟩)
      have HLS := Lib.hid (show leftK L (nx + 1) = K from by rw [leftK_skip (by rw [HK.out]; exact HNO.out), HK.out])
      have HON := Lib.hid (show outI L nx = goneI nx from outI_none (fun x hx e => HNO.out x ((HMEM.out x).2 ⟨hx, by omega⟩) e))
      have HAT := Lib.hid (show ∀ (k : Nat) (hk : k < K.length), 0 ≤ (K[k]).at_ ∧ (K[k]).at_ ≤ 1000000 from fun k hk => by
        obtain ⟨h1, _⟩ := (HMEM.out _).1 (List.getElem_mem (l := K) (n := k) hk)
        have := HR.out _ h1; omega)
      have S' := S
      clear S
      go_upto_region 16 with fail
      go_loopw [10, 11] (fun s10 s11 y => ∃ (k : Nat) (W : Bool), k ≤ K.length ∧ s11 = .int .i64 k ∧ s10 = .bool W ∧ Hid (W = (K.take k).any (fun x => decide (wait ≤ now - x.at_))) ∧ Hid (RPop M w v b wait now nx (.slice oK K.length cK) K u7 (popI L next (nx - next).toNat) y)) (fun _ s11 _ => K.length - (RowKit.intOf s11).toNat)
      case atStart => exact ⟨0, false, by omega, rfl, rfl, Lib.hid (by simp), S'⟩
      case round =>
        clear S'
        obtain ⟨k, W, hk, rfl, rfl, HW, S⟩ := hrel
        have k3 : wr.cell? ⟨b, 3, none⟩ = some (.slice oK K.length cK) := obj_cell S.out.ord.at_ rfl
        by_cases hkl : k < K.length
        · have HTK := Lib.hid (take_next K k hkl)
          cases W
          case true =>
            have HW2 := Lib.hid (show true = (K.take (k + 1)).any (fun x => decide (wait ≤ now - x.at_)) from by
              rw [HTK.out, List.any_append, ← HW.out]; rfl)
            have SD := Lib.hid (fun n => S.out.drewN n)
            go_upto_region 18 with fail
            go_quiet (fail)
            go_wp2_with fail
            go_roundw
            case measure => simp [RowKit.intOf]; omega
            case rel => exact ⟨k + 1, true, by omega, rfl, rfl, HW2, Lib.hid (SD.out _)⟩
          case false =>
            obtain ⟨o', c', e', hrd2⟩ := S.out.ord.row.read keptK_ok
            cases e'
            obtain ⟨g, rfl, _, hgl, q⟩ := hrd2 k K[k] (by simp [hkl])
            have q8 : wr.cell? ⟨g, k * 9 + 8, none⟩ = some (.int .i64 (K[k]).at_) := q 8 _ rfl
            clear q hrd2
            have c0 : wr.cell? ⟨b, 0, none⟩ = some (.int .i64 wait) := obj_cell S.out.ord.at_ rfl
            obtain ⟨ha0, ha1⟩ := HAT.out k hkl
            obtain ⟨Z, hZ⟩ : ∃ Z : Bool, Z = decide (wait ≤ now - (K[k]).at_) := ⟨_, rfl⟩
            have HW2 := Lib.hid (show Z = (K.take (k + 1)).any (fun x => decide (wait ≤ now - x.at_)) from by
              rw [HTK.out, List.any_append, ← HW.out, hZ]; simp)
            have HZ := Lib.hid hZ
            clear hZ
            generalize (K[k]).at_ = aa at *
            have W1 : IntKind.i64.wrap (now - aa) = now - aa := by rw [IntKind.wrap_i64]; omega
            have SD := Lib.hid (fun n => S.out.drewN n)
            cases Z
            · have d1 : decide (wait ≤ now - aa) = false := HZ.out.symm
              go_upto_region 18 with fail
              go_quiet (fail)
              go_wp2_with fail
              go_roundw
              case measure => simp [RowKit.intOf]; omega
              case rel => exact ⟨k + 1, false, by omega, rfl, rfl, HW2, Lib.hid (SD.out _)⟩
            · have d1 : decide (wait ≤ now - aa) = true := HZ.out.symm
              go_upto_region 18 with fail
              go_quiet (fail)
              go_wp2_with fail
              go_roundw
              case measure => simp [RowKit.intOf]; omega
              case rel => exact ⟨k + 1, true, by omega, rfl, rfl, HW2, Lib.hid (SD.out _)⟩
        · obtain rfl : k = K.length := by omega
          rw [List.take_length] at HW
          cases W
          case false =>
            have HST := Lib.hid (HSTOP.out (fun ⟨x, hx, e⟩ => by have := HW.out.symm; rw [List.any_eq_false] at this; exact this x hx (decide_eq_true e)))
            go_wp2_with fail
            go_ret2
            exact ⟨_, _, nx, rfl, i1, by rw [HK.out]; exact S.out.ord, S.out.out, S.out.fp, S.out.own, HST.out, ST.out⟩
          case true =>
            have HS3 := Lib.hid (HST2.out (by obtain ⟨x, hx, e⟩ := List.any_eq_true.1 HW.out.symm; exact ⟨x, hx, of_decide_eq_true e⟩))
            have k2 : wr.cell? ⟨b, 2, none⟩ = some (.int .i64 nx) := obj_cell S.out.ord.at_ rfl
            have SA := Lib.hid (S.out.below ((Below.refl _ _).alloc (Nat.le_refl _) (.cells (Itm.cells (goneI nx)).toArray 81)))
            have RUN := Lib.hid (RecK.run_one itemK_ok (wr.alloc (.cells (Itm.cells (goneI nx)).toArray 81)) w.heap.size u7 (goneI nx) _ SA.out.out wr.heap.size (obj_new _ _) (by have := HNL.out; omega) (by have := S.out.fp.size; simp; omega))
            go_upto_region 22 with (at_builtin; obtain ⟨vN, wN, hr, ho, hgr, hbk⟩ := RUN.out; obtain ⟨gN, capN, rfl⟩ := Joins.ownsRow_form ho (by simp); refine Lib.wpList_append_run _ rfl (.tmp 104) (.tmp 110) 45 45 rfl _ _ rfl rfl _ _ hr ?_)
            have S2 := Lib.hid (SA.out.more hgr ho)
            clear RUN SA S hr ho hgr hbk k2 k3
            refine abs_to (fun y => Hid (RPop M w v b wait now nx (.slice oK K.length cK) K _ _ y)) S2 ?_
            clear S2
            rintro y2 S2
            have k2 : y2.cell? ⟨b, 2, none⟩ = some (.int .i64 nx) := obj_cell S2.out.ord.at_ rfl
            have f2 := obj_free S2.out.ord.at_ 2
            have W2 : IntKind.i64.wrap (nx + 1) = nx + 1 := by rw [IntKind.wrap_i64]; omega
            have hset := S2.out.set (j := 2) (u := .int .i64 (nx + 1)) (nx' := nx + 1) (now' := now) (by unfold ROrdAt; rw [obj_set S2.out.ord.at_]; rfl)
            have kq : (y2.setCell ⟨b, 2, none⟩ (.int .i64 (nx + 1))).cell? ⟨b, 2, none⟩ = some (.int .i64 (nx + 1)) := obj_cell hset.ord.at_ rfl
            have HKQ := Lib.hid kq
            rw [List.length_append, List.length_singleton] at hset
            rw [← HON.out, ← HP.out] at hset
            have S3 := Lib.hid hset
            clear S2 hset kq
            go_wp2_with fail
            go_roundw
            case measure => rw [HKQ.out, HK2.out]; simp [RowKit.intOf]; omega
            case rel => exact ⟨nx + 1, _, by omega, by omega, by rw [HLS.out]; exact S3, HS3⟩
    · obtain ⟨g, rfl, _, hgl, q⟩ := HRD.out j K[j] (by simp [hj])
      have HJ := Lib.hid hj1
      obtain ⟨x, hx⟩ : ∃ x, x = K[j] := ⟨_, rfl⟩
      have HX := Lib.hid hx
      have HXO := Lib.hid (show outI L nx = x.it from by
        rw [← hj1, ← hx]
        refine outI_some HU.out ?_
        rw [hx]
        exact ((HMEM.out _).1 (List.getElem_mem hj)).1)
      have HST2 := Lib.hid (show ∀ m, next ≤ m → m < nx + 1 → ¬ StopK L now wait m from fun m h1 h2 hs => by
        by_cases e : m = nx
        · subst e
          exact hs.1 _ ((HMEM.out _).1 (List.getElem_mem hj)).1 hj1
        · exact ST.out m h1 (by omega) hs)
      have HLD := Lib.hid (show K.take j ++ K.drop (j + 1) = leftK L (nx + 1) from by
        have e := HK.out
        subst e
        exact leftK_drop HU.out j hj hj1)
      rw [← hx] at q
      clear hx hj1 HKK
      have q0 : wr.cell? ⟨g, j * 9, none⟩ = some (.int .i64 x.num) := q 0 _ rfl
      have q1 : wr.cell? ⟨g, j * 9 + 1, none⟩ = some (.bool x.gone) := q 1 _ rfl
      have q2 : wr.cell? ⟨g, j * 9 + 2, none⟩ = some (.int .i64 x.s) := q 2 _ rfl
      have q3 : wr.cell? ⟨g, j * 9 + 3, none⟩ = some (.int .i64 x.t) := q 3 _ rfl
      have q4 : wr.cell? ⟨g, j * 9 + 4, none⟩ = some (.int .i64 x.l) := q 4 _ rfl
      have q5 : wr.cell? ⟨g, j * 9 + 5, none⟩ = some (.int .i64 x.lv) := q 5 _ rfl
      have q6 : wr.cell? ⟨g, j * 9 + 6, none⟩ = some (.bool x.st) := q 6 _ rfl
      have q7 : wr.cell? ⟨g, j * 9 + 7, none⟩ = some (.slice x.oa x.bn x.bc) := q 7 _ rfl
      clear q
      have SA := Lib.hid (S.out.below ((Below.refl _ _).alloc (Nat.le_refl _) (.cells (Itm.cells ⟨x.num, x.gone, x.s, x.t, x.l, x.lv, x.st, x.oa, x.bn, x.bc⟩).toArray 81)))
      have RUN := Lib.hid (RecK.run_one itemK_ok (wr.alloc (.cells (Itm.cells ⟨x.num, x.gone, x.s, x.t, x.l, x.lv, x.st, x.oa, x.bn, x.bc⟩).toArray 81)) w.heap.size u7 ⟨x.num, x.gone, x.s, x.t, x.l, x.lv, x.st, x.oa, x.bn, x.bc⟩ _ SA.out.out wr.heap.size (obj_new _ _) (by have := HNL.out; omega) (by have := S.out.fp.size; simp; omega))
      go_upto_region 10 with (at_builtin; obtain ⟨vN, wN, hr, ho, hgr, hbk⟩ := RUN.out; obtain ⟨gN, capN, rfl⟩ := Joins.ownsRow_form ho (by simp); refine Lib.wpList_append_run _ rfl (.tmp 36) (.tmp 45) 45 45 rfl _ _ rfl rfl _ _ hr ?_)
      have S2 := Lib.hid (SA.out.more hgr ho)
      have HITC := Lib.hid (show (⟨x.num, x.gone, x.s, x.t, x.l, x.lv, x.st, x.oa, x.bn, x.bc⟩ : Itm) = x.it from rfl)
      clear RUN SA S hr ho hgr hbk q0 q1 q2 q3 q4 q5 q6 q7 k3 k2
      refine abs_to (fun y => Hid (RPop M w v b wait now nx (.slice (some ⟨g, 0, none⟩) K.length cK) K _ _ y)) S2 ?_
      clear S2
      rintro y2 S2
      have k3 : y2.cell? ⟨b, 3, none⟩ = some (.slice (some ⟨g, 0, none⟩) K.length cK) := obj_cell S2.out.ord.at_ rfl
      obtain ⟨vF, wF, hr, ho, hkF⟩ := rem_first S2.out.ord (by omega) j hj
      have HRF := Lib.hid hr
      have kN := Lib.hid hkF
      have HON9 := Lib.hid ho
      have SF := S2.out.below hkF
      have RM := Lib.hid (rem_second SF.ord (by omega) j hj hkF.size ho)
      have hcl : K.length ≤ cK := by
        rcases SF.ord.row.2 with ⟨h0, _⟩ | ⟨g', cap, cur, h0, _, _, hc, _⟩
        · cases h0
        · cases h0; exact hc
      have k3F : wF.cell? ⟨b, 3, none⟩ = some (.slice (some ⟨g, 0, none⟩) K.length cK) := obj_cell SF.ord.at_ rfl
      have W1 : IntKind.i64.wrap ((j : Int) + 1) = ((j + 1 : Nat) : Int) := by rw [IntKind.wrap_i64]; omega
      clear hr ho hkF SF
      go_upto_region 12 with (at_builtin; refine Lib.wpList_append_run _ rfl (.tmp 47) (.tmp 53) 31 31 rfl _ _ rfl rfl _ _ HRF.out ?_)
      clear HRF
      by_cases hc1 : cK = j + 1
      · have hl0 : K.length - (j + 1) = 0 := by omega
        have RM2 := Lib.hid (RM.out.2 hc1)
        rw [hl0] at RM2
        clear RM
        subst hc1
        obtain ⟨v9, w9, hr, ho, hk9⟩ := RM2.out
        have k9b : Below y2.heap.size y2 w9 := kN.out.trans hk9
        have ho2 := ho
        rw [HLD.out] at ho2
        obtain ⟨a9, S9⟩ := S2.out.left hM k9b ho2
        have k9 : w9.cell? ⟨b, 3, none⟩ = some (.slice (some ⟨g, 0, none⟩) K.length (j + 1)) := obj_cell a9 rfl
        have f9 := obj_free a9 3
        have HR9 := Lib.hid hr
        have k2 : (w9.setCell ⟨b, 3, none⟩ v9).cell? ⟨b, 2, none⟩ = some (.int .i64 nx) := obj_cell S9.ord.at_ rfl
        have g2 := obj_free S9.ord.at_ 2
        have S9 := Lib.hid S9
        have HF9 := Lib.hid (Joins.ownsRow_forms ho2)
        clear hr ho ho2 hk9 k9b a9 RM2
        obtain ⟨K9, hK9⟩ : ∃ K9, leftK L (nx + 1) = K9 := ⟨_, rfl⟩
        have HK9 := Lib.hid hK9
        rw [hK9] at S9 HF9
        clear hK9 HLD
        rcases HF9.out with ⟨rfl, -⟩ | ⟨g9, cap9, rfl⟩
        all_goals
          go_upto_region 13 with (at_builtin; refine Lib.wpList_append_run _ rfl (.tmp 56) (.tmp 63) 31 31 rfl _ _ rfl rfl _ _ HR9.out ?_)
          refine abs_to (fun y => Hid (RPop M w v b wait now nx _ K9 _ _ y)) S9 ?_
          clear S9 k9 f9 HR9 k2 g2 HON9 kN HF9 S2 k3 k3F
          rintro y4 S4
          have k2 : y4.cell? ⟨b, 2, none⟩ = some (.int .i64 nx) := obj_cell S4.out.ord.at_ rfl
          have f2 := obj_free S4.out.ord.at_ 2
          have W2 : IntKind.i64.wrap (nx + 1) = nx + 1 := by rw [IntKind.wrap_i64]; omega
          have hset := S4.out.set (j := 2) (u := .int .i64 (nx + 1)) (nx' := nx + 1) (now' := now) (by unfold ROrdAt; rw [obj_set S4.out.ord.at_]; rfl)
          have kq : (y4.setCell ⟨b, 2, none⟩ (.int .i64 (nx + 1))).cell? ⟨b, 2, none⟩ = some (.int .i64 (nx + 1)) := obj_cell hset.ord.at_ rfl
          have HKQ := Lib.hid kq
          rw [List.length_append, List.length_singleton] at hset
          rw [HITC.out, ← HXO.out, ← HP.out] at hset
          have S5 := Lib.hid hset
          clear S4 hset kq
          go_wp2_with fail
          go_roundw
          case measure => rw [HKQ.out, HK2.out]; simp [RowKit.intOf]; omega
          case rel => exact ⟨nx + 1, _, by omega, by omega, by rw [HK9.out]; exact S5, HST2⟩
      · have RM2 := Lib.hid (RM.out.1 hc1)
        clear RM
        obtain ⟨v9, w9, hr, ho, hk9⟩ := RM2.out
        have k9b : Below y2.heap.size y2 w9 := kN.out.trans hk9
        have ho2 := ho
        rw [HLD.out] at ho2
        obtain ⟨a9, S9⟩ := S2.out.left hM k9b ho2
        have k9 : w9.cell? ⟨b, 3, none⟩ = some (.slice (some ⟨g, 0, none⟩) K.length cK) := obj_cell a9 rfl
        have f9 := obj_free a9 3
        have HR9 := Lib.hid hr
        have k2 : (w9.setCell ⟨b, 3, none⟩ v9).cell? ⟨b, 2, none⟩ = some (.int .i64 nx) := obj_cell S9.ord.at_ rfl
        have g2 := obj_free S9.ord.at_ 2
        have S9 := Lib.hid S9
        have HF9 := Lib.hid (Joins.ownsRow_forms ho2)
        clear hr ho ho2 hk9 k9b a9 RM2
        obtain ⟨K9, hK9⟩ : ∃ K9, leftK L (nx + 1) = K9 := ⟨_, rfl⟩
        have HK9 := Lib.hid hK9
        rw [hK9] at S9 HF9
        clear hK9 HLD
        rcases HF9.out with ⟨rfl, -⟩ | ⟨g9, cap9, rfl⟩
        all_goals
          go_upto_region 13 with (at_builtin; refine Lib.wpList_append_run _ rfl (.tmp 56) (.tmp 63) 31 31 rfl _ _ rfl rfl _ _ HR9.out ?_)
          refine abs_to (fun y => Hid (RPop M w v b wait now nx _ K9 _ _ y)) S9 ?_
          clear S9 k9 f9 HR9 k2 g2 HON9 kN HF9 S2 k3 k3F
          rintro y4 S4
          have k2 : y4.cell? ⟨b, 2, none⟩ = some (.int .i64 nx) := obj_cell S4.out.ord.at_ rfl
          have f2 := obj_free S4.out.ord.at_ 2
          have W2 : IntKind.i64.wrap (nx + 1) = nx + 1 := by rw [IntKind.wrap_i64]; omega
          have hset := S4.out.set (j := 2) (u := .int .i64 (nx + 1)) (nx' := nx + 1) (now' := now) (by unfold ROrdAt; rw [obj_set S4.out.ord.at_]; rfl)
          have kq : (y4.setCell ⟨b, 2, none⟩ (.int .i64 (nx + 1))).cell? ⟨b, 2, none⟩ = some (.int .i64 (nx + 1)) := obj_cell hset.ord.at_ rfl
          have HKQ := Lib.hid kq
          rw [List.length_append, List.length_singleton] at hset
          rw [HITC.out, ← HXO.out, ← HP.out] at hset
          have S5 := Lib.hid hset
          clear S4 hset kq
          go_wp2_with fail
          go_roundw
          case measure => rw [HKQ.out, HK2.out]; simp [RowKit.intOf]; omega
          case rel => exact ⟨nx + 1, _, by omega, by omega, by rw [HK9.out]; exact S5, HST2⟩
end Go.Proofs.YtlfdkoebjddokaaDoor
