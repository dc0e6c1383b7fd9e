import Derived.Test.YtanmokomefdaiaaDoorRefLinkAny
import Derived.Test.YtanmokomefdaiaaDoorTold
import Derived.Deep.QuietTactic
import Derived.BigQuiet
import Derived.Deep.CutBlock
import Derived.Deep.DeepCutAuto
/-! The walk of the law LinkPlays. -/
namespace Go.Proofs.YtanmokomefdaiaaDoor
open Go.RowKit
set_option linter.unusedVariables false
set_option linter.unusedSimpArgs false

theorem error_errV (f : Int) (w : World) (hE : Env w) : Calls Tryd.prog 14 #[Pl.errV f, .int .i64 f] w fun e w' => e = .returned (.bool true) ∧ Below w.heap.size w w' := by
  by_cases h : f = 0
  · subst h
    exact (error_nil 0 w).mono fun e w' ⟨h1, h2⟩ => ⟨by rw [h1]; simp, by rw [← h2]; exact Below.refl _ _⟩
  · rw [Pl.errV_ne h]
    exact (error_hit f f w hE).mono fun e w' ⟨h1, h2⟩ => ⟨by rw [h1]; simp, h2⟩
theorem error_none (w : World) : Calls Tryd.prog 14 #[.nilIface, .int .i64 0] w fun e w' => e = .returned (.bool true) ∧ w = w' :=
  (error_nil 0 w).mono fun e w' ⟨h1, h2⟩ => ⟨by rw [h1]; simp, h2⟩
theorem SaidAt.other {a c : World} {N M : Nat} {v : Value} {l : List Int} (h : SaidAt N a v l) (k : KeepsBut M a c) (hn : M < N) : SaidAt N c v l := by
  rcases h with h | ⟨g, k1, s, o, rfl, hN, rfl, hm⟩
  · exact .inl h
  · exact .inr ⟨g, k1, s, o, rfl, hN, rfl, hm.other k (by omega)⟩
/-- three numbers of the law's own -/
def ThreeAt (w : World) (b : Nat) (a0 a1 a2 : Int) : Prop := w.heap[b]? = some (.cells #[.int .i64 a0, .int .i64 a1, .int .i64 a2] 77 (0, 0))
theorem ThreeAt.other {a c : World} {b N : Nat} {x y z : Int} (h : ThreeAt a b x y z) (k : KeepsBut N a c) (hn : b ≠ N) : ThreeAt c b x y z := Keeps.heap k h hn
/-- both sides, and the law's three numbers -/
def PlaysAt (w0 y : World) (b rb bv : Nat) (x : Pl.Lk) : Prop := ∃ z0 z1 z2, LinkAt y b x ∧ RLinkAt y rb x ∧ ThreeAt y bv z0 z1 z2 ∧ Below w0.heap.size w0 y
/-- a row of rows: the element at k -/
theorem IsRows.at {w : World} {v : Value} {l : List (Value × List Int)} (h : IsRows w v l) {k : Nat} (hk : k < l.length) : ∃ b off cap oa n c m bm om, v = .slice (some ⟨b, off, none⟩) l.length cap ∧ w.cell? ⟨b, off + k, none⟩ = some (.slice oa n c) ∧ b < w.heap.size ∧ n = m.length ∧ Sl encI w (.slice oa n c) m ∧ m.length ≤ maxLen ∧ (0 < n → oa = some ⟨bm, om, none⟩ ∧ bm < w.heap.size) ∧ ∀ j (h : j < m.length), w.cell? ⟨bm, om + j, none⟩ = some (.int .i64 m[j]) := by
  obtain ⟨h1, h2⟩ := h
  have h3 := h2 _ (List.getElem_mem hk)
  rcases h1 with ⟨rfl, _⟩ | ⟨b, off, cap, rfl, q1, q2, q3⟩
  · simp at hk
  · have q := q3 k hk
    obtain ⟨bm, om, c, oa, e, n1, g1⟩ := h3.1.shape
    simp only [] at q
    rw [e] at q
    refine ⟨b, off, cap, oa, _, c, (l[k]).2, bm, om, rfl, q, Sl.lt q, rfl, by rw [← e]; exact h3.1, h3.1.len, fun hp => ?_, g1⟩
    have e2 := n1 (by intro e0; rw [e0] at hp; simp at hp)
    exact ⟨e2, Sl.lt (g1 0 hp)⟩

set_option maxRecDepth 100000 in
set_option maxHeartbeats 2000000 in
theorem walk_LinkPlays_bad (w : World) (hE : Env w) (a0 : Int) (v1 v2 : Value) (h : ¬ (1 ≤ a0 ∧ a0 ≤ 1000000)) :
    Calls Tryd.prog 6 #[.int .i64 a0, v1, v2] w fun e w' => e = .returned (.bool true) ∧ Below w.heap.size w w' := by
  have G := Lib.hid h
  go_enter Tryd.func6, Tryd.ntmps6
  go_wp2_with fail
  refine (linkNew_bad a0 h _).mono ?_
  rintro e w1 ⟨rfl, rfl⟩
  clear h
  go_wp2_with fail
  all_goals first
    | (exfalso; have := G.out; omega)
    | (refine (error_hit 1 1 _ hE).mono ?_
       rintro e w2 ⟨rfl, k2⟩
       go_wp2
       go_ret
       exact ⟨by simp, k2⟩)

set_option maxRecDepth 100000 in
set_option maxHeartbeats 16000000 in
theorem walk_LinkPlays_run (w : World) (hE : Env w) (a0 : Int) (h0 : 1 ≤ a0) (h1 : a0 ≤ 1000000) (v1 : Value) (l1 : List (Value × List Int)) (o1 : IsRows w v1 l1) (v2 : Value) (l2 : List (Value × List Int)) (o2 : IsRows w v2 l2) :
    Calls Tryd.prog 6 #[.int .i64 a0, v1, v2] w fun e w' => e = .returned (.bool true) ∧ Below w.heap.size w w' := by
  obtain ⟨b1, f1, c1, oa1, e1, _, _⟩ := o1.1.shape
  obtain ⟨b2, f2, c2, oa2, e2, _, _⟩ := o2.1.shape
  have hl1 := o1.1.len
  have hl2 := o2.1.len
  have O1 := Lib.hid o1
  have O2 := Lib.hid o2
  unfold maxLen at hl1 hl2
  clear o1 o2
  subst e1
  subst e2
  go_enter Tryd.func6, Tryd.ntmps6
  go_wp2_with fail
  refine (linkNew_ok a0 h0 h1 _).mono ?_
  rintro e w1 ⟨b, rfl, hb, g1, k1⟩
  go_wp2_with fail
  refine (error_none _).mono ?_
  rintro e w' ⟨rfl, rfl⟩
  go_upto_region 9 with fail
  refine abs_at (fun x => LinkAt x b ⟨0, a0, 0, 0, 0, 0⟩ ∧ RLinkAt x w1.heap.size ⟨0, a0, 0, 0, 0, 0⟩ ∧ Below w.heap.size w x) ⟨obj_old g1 _, obj_new _ _, k1.alloc k1.size _⟩ ?_
  have hrb := k1.size
  have hbr := lt_of_block g1
  clear g1 k1
  rintro w2 ⟨gl2, gr2, kb2⟩
  generalize hrbn : w1.heap.size = rb at *
  clear hrbn
  have hne : b ≠ rb := by omega
  go_wp2
  go_loopw [12] (fun i wr => ∃ (k : Nat) (x : Pl.Lk), k ≤ l1.length ∧ k ≤ 60 ∧ i = .int .i64 k ∧ x.Ok ∧ LinkAt wr b x ∧ RLinkAt wr rb x ∧ Below w.heap.size w wr) (fun i _ => 60 - (intOf i).toNat)
  case atStart => exact ⟨0, _, by omega, by omega, rfl, ⟨Int.le_refl _, by simp, Int.le_refl _, Int.le_refl _, Int.le_refl _, Int.le_refl _⟩, gl2, gr2, kb2⟩
  case round =>
    clear gl2 gr2 kb2
    obtain ⟨k, x, hk, hk60, rfl, hx, gl, gr, kb⟩ := hrel
    by_cases hlt1 : k < l1.length
    · by_cases hlt2 : k < 60
      · obtain ⟨b1', f1', c1', oa, n, c, m, bm, om, ev, q, hb1, hn, hs, hnl, hbm, hcm⟩ := O1.out.at hlt1
        simp only [Value.slice.injEq] at ev
        obtain ⟨rfl, _, rfl⟩ := ev
        unfold maxLen at hnl
        have Q := Lib.hid (fun W (hW : Below w.heap.size w W) => (hW.cell (p := ⟨b1', f1' + k, none⟩) hb1).trans q)
        have HC := Lib.hid (fun W (hW : Below w.heap.size w W) j (hj : j < m.length) (hp : 0 < n) => (hW.cell (p := ⟨bm, om + j, none⟩) (hbm hp).2).trans (hcm j hj))
        have HB := Lib.hid hbm
        clear q hcm hbm hs
        have hXX := Lib.hid hx
        clear hx
        go_upto_region 13 with fail
        refine abs_at (fun y => LinkAt y b x ∧ RLinkAt y rb x ∧ ThreeAt y wr.heap.size 0 0 0 ∧ Below w.heap.size w y) ⟨obj_old gl _, obj_old gr _, obj_new _ _, kb.alloc kb.size _⟩ ?_
        have hbv1 := lt_of_block gl
        have hbv2 := lt_of_block gr
        have hbv3 := kb.size
        clear gl gr kb
        generalize hbvn : wr.heap.size = bv at *
        clear hbvn
        rintro w3 ⟨gl, gr, gv, kb⟩
        go_upto_block 2 with fail
        go_cut [14] from 44 to 172 (fun _ y => PlaysAt w y b rb bv x)
        case first =>
          go_wp2_with fail
          go_loopw [14] (fun j y => ∃ (jj : Nat), jj ≤ 3 ∧ j = .int .i64 jj ∧ PlaysAt w y b rb bv x) (fun j _ => 3 - (intOf j).toNat)
          case atStart => exact ⟨0, by omega, rfl, 0, 0, 0, gl, gr, gv, kb⟩
          case round =>
            clear gl gr gv kb
            obtain ⟨jj, hj3, rfl, z0, z1, z2, gl, gr, gv, kb⟩ := hrel
            have q := Q.out _ kb
            by_cases hj : jj < n
            · by_cases hj' : jj < 3
              · obtain ⟨rfl, hbm⟩ := HB.out (by omega)
                have z := HC.out _ kb jj (by omega) (by omega)
                generalize m[jj]'(by omega) = zz at *
                have gv0 := obj_free gv 0
                have gv1 := obj_free gv 1
                have gv2 := obj_free gv 2
                have fin : ∀ u, ∃ y0 y1 y2, ThreeAt (wr.setCell ⟨bv, jj, none⟩ (.int .i64 u)) bv y0 y1 y2 := by
                  intro u
                  obtain rfl | rfl | rfl : jj = 0 ∨ jj = 1 ∨ jj = 2 := by omega
                  · exact ⟨u, z1, z2, obj_set gv 0 _⟩
                  · exact ⟨z0, u, z2, obj_set gv 1 _⟩
                  · exact ⟨z0, z1, u, obj_set gv 2 _⟩
                obtain ⟨y0, y1, y2, gv'⟩ := fin zz
                have KS := KeepsBut.set (KeepsBut.refl bv wr) jj (.int .i64 zz)
                have gl' := gl.other KS (by omega)
                have gr' := gr.other KS (by omega)
                have kb' := kb.trans (KS.below kb.size hbv3)
                clear fin KS
                obtain ⟨cu, hcu⟩ : ∃ cu, wr.cell? ⟨bv, jj, none⟩ = some cu := by
                  obtain rfl | rfl | rfl : jj = 0 ∨ jj = 1 ∨ jj = 2 := by omega
                  · exact ⟨_, obj_cell gv rfl⟩
                  · exact ⟨_, obj_cell gv rfl⟩
                  · exact ⟨_, obj_cell gv rfl⟩
                have gvj := obj_free gv jj
                clear gv0 gv1 gv2
                have hjn : (jj : Int) < (n : Int) := by omega
                go_wp2_with fail
                go_roundw
                case measure => simp [intOf]; omega
                case rel => exact ⟨jj + 1, by omega, by go_num, y0, y1, y2, gl', gr', gv', kb'⟩
              · go_wp2_with fail
                go_meet
                exact ⟨z0, z1, z2, gl, gr, gv, kb⟩
            · go_wp2_with fail
              go_meet
              exact ⟨z0, z1, z2, gl, gr, gv, kb⟩
        case rest =>
        clear gl gr gv kb
        obtain ⟨z0, z1, z2, gl, gr, gv, kb⟩ := hcut
        have hx := hXX.out
        have c0 := obj_cell gv (k := 0) rfl
        have c1 := obj_cell gv (k := 1) rfl
        have c2 := obj_cell gv (k := 2) rfl
        go_upto_block 4 with fail
        go_cut [9, 15, 16, 17] from 44 to 172 (fun e9 g15 g16 e17 y => ∃ r : Pl.Out, r.x.Ok ∧ e9 = .int .i64 r.f ∧ e17 = Pl.errV r.f ∧ Sl encI y g15 r.l ∧ Sl encI y g16 r.l ∧ LinkAt y b r.x ∧ RLinkAt y rb r.x ∧ Below w.heap.size w y)
        case first =>
          by_cases h0 : z0 = 0
          · subst h0
            go_wp2_with fail
            refine (rlOpen_any rb x z1 _ gr).mono ?_
            rintro e w5 ⟨v5, rfl, gr5, s5, k5⟩
            have gl5 := gl.other k5 hne
            have gv5 := gv.other k5 (by omega)
            have kb5 := kb.trans (k5.below kb.size hrb)
            have lb := lt_of_block gl
            clear c0 c1 c2 gl gr gv
            have c1 := obj_cell gv5 (k := 1) rfl
            go_wp2_with fail
            refine (linkOpen_any b x z1 _ gl5).mono ?_
            rintro e w6 ⟨v6, rfl, gl6, s6, k6⟩
            go_wp2_with fail
            go_meet
            exact ⟨x.open_ z1, hx.open_ z1, rfl, rfl, s6.sl, (s5.other k6 lb).sl, gl6, gr5.other k6 (Ne.symm hne), kb5.trans (k6.below kb5.size hb)⟩
          by_cases h1 : z0 = 1 ∨ z0 = 2 ∨ z0 = 3
          · clear h0
            obtain rfl | rfl | rfl := h1
            · skip
              by_cases hin : 0 ≤ z2 ∧ z2 < l2.length
              · obtain ⟨i1, i2⟩ := hin
                obtain ⟨kz, rfl⟩ := Int.eq_ofNat_of_zero_le i1
                obtain ⟨b2', f2', c2', oa2', n2, cc2, m2, bm2, om2, ev2, q2, hb2, rfl, hy, hnl2, hbm2, -⟩ := O2.out.at (k := kz) (by omega)
                simp only [Value.slice.injEq] at ev2
                obtain ⟨rfl, _, rfl⟩ := ev2
                have ay : ∀ B, w.heap.size ≤ B → Away (.slice oa2' m2.length cc2) B := by
                  intro B hB g off c e
                  simp only [Value.slice.injEq] at e
                  obtain ⟨rfl, e3, rfl⟩ := e
                  obtain ⟨e1, e2⟩ := hbm2 (by omega)
                  simp only [Option.some.injEq, Addr.mk.injEq] at e1
                  omega
                have ay1 := ay b hb
                have ay2 := ay rb hrb
                have q2' := (kb.cell (p := ⟨b2', f2' + kz, none⟩) hb2).trans q2
                clear q2 ay hbm2 hnl2
                have hyH := Lib.hid hy
                clear hy
                go_wp2_with fail
                refine (rlHear_any rb x m2 _ z1 _ gr (hyH.out.below kb) ay2).mono ?_
                rintro e w5 ⟨v5, rfl, gr5, s5, k5⟩
                have gl5 := gl.other k5 hne
                have gv5 := gv.other k5 (by omega)
                have kb5 := kb.trans (k5.below kb.size hrb)
                have lb := lt_of_block gl
                clear c0 c1 c2 gl gr gv
                have c1 := obj_cell gv5 (k := 1) rfl
                go_wp2_with fail
                refine (linkHear_any b x m2 _ z1 _ gl5 (hyH.out.below kb5) ay1).mono ?_
                rintro e w6 ⟨v6, rfl, gl6, s6, k6⟩
                go_wp2_with fail
                go_meet
                exact ⟨x.hear m2 z1, hx.hear m2 z1, rfl, rfl, s6.sl, (s5.other k6 lb).sl, gl6, gr5.other k6 (Ne.symm hne), kb5.trans (k6.below kb5.size hb)⟩
              · have ay1 : Away (.slice none 0 0) b := by
                  intro g off c e
                  simp at e
                have ay2 : Away (.slice none 0 0) rb := by
                  intro g off c e
                  simp at e
                have hy : Sl encI w (.slice none 0 0) [] := Sl.nil _
                have hg2 : (decide (0 ≤ z2) && decide (z2 < (l2.length : Int))) = false := by
                  have := hin
                  simp only [Bool.and_eq_false_iff, decide_eq_false_iff_not]
                  omega
                have HIN := Lib.hid hin
                clear hin
                go_upto_region 32 with fail
                all_goals try (exfalso; have := HIN.out; omega)
                all_goals (
                go_wp2_with fail
                refine (rlHear_any rb x [] _ z1 _ gr (hy.below kb) ay2).mono ?_
                rintro e w5 ⟨v5, rfl, gr5, s5, k5⟩
                have gl5 := gl.other k5 hne
                have gv5 := gv.other k5 (by omega)
                have kb5 := kb.trans (k5.below kb.size hrb)
                have lb := lt_of_block gl
                clear c0 c1 c2 gl gr gv
                have c1 := obj_cell gv5 (k := 1) rfl
                go_wp2_with fail
                refine (linkHear_any b x [] _ z1 _ gl5 (hy.below kb5) ay1).mono ?_
                rintro e w6 ⟨v6, rfl, gl6, s6, k6⟩
                go_wp2_with fail
                go_meet
                exact ⟨x.hear [] z1, hx.hear [] z1, rfl, rfl, s6.sl, (s5.other k6 lb).sl, gl6, gr5.other k6 (Ne.symm hne), kb5.trans (k6.below kb5.size hb)⟩)
            · skip
              by_cases hin : 0 ≤ z2 ∧ z2 < l2.length
              · obtain ⟨i1, i2⟩ := hin
                obtain ⟨kz, rfl⟩ := Int.eq_ofNat_of_zero_le i1
                obtain ⟨b2', f2', c2', oa2', n2, cc2, m2, bm2, om2, ev2, q2, hb2, rfl, hy, hnl2, hbm2, -⟩ := O2.out.at (k := kz) (by omega)
                simp only [Value.slice.injEq] at ev2
                obtain ⟨rfl, _, rfl⟩ := ev2
                have ay : ∀ B, w.heap.size ≤ B → Away (.slice oa2' m2.length cc2) B := by
                  intro B hB g off c e
                  simp only [Value.slice.injEq] at e
                  obtain ⟨rfl, e3, rfl⟩ := e
                  obtain ⟨e1, e2⟩ := hbm2 (by omega)
                  simp only [Option.some.injEq, Addr.mk.injEq] at e1
                  omega
                have ay1 := ay b hb
                have ay2 := ay rb hrb
                have q2' := (kb.cell (p := ⟨b2', f2' + kz, none⟩) hb2).trans q2
                clear q2 ay hbm2 hnl2
                have hyH := Lib.hid hy
                clear hy
                go_wp2_with fail
                refine (rlHear_any rb x m2 _ z1 _ gr (hyH.out.below kb) ay2).mono ?_
                rintro e w5 ⟨v5, rfl, gr5, s5, k5⟩
                have gl5 := gl.other k5 hne
                have gv5 := gv.other k5 (by omega)
                have kb5 := kb.trans (k5.below kb.size hrb)
                have lb := lt_of_block gl
                clear c0 c1 c2 gl gr gv
                have c1 := obj_cell gv5 (k := 1) rfl
                go_wp2_with fail
                refine (linkHear_any b x m2 _ z1 _ gl5 (hyH.out.below kb5) ay1).mono ?_
                rintro e w6 ⟨v6, rfl, gl6, s6, k6⟩
                go_wp2_with fail
                go_meet
                exact ⟨x.hear m2 z1, hx.hear m2 z1, rfl, rfl, s6.sl, (s5.other k6 lb).sl, gl6, gr5.other k6 (Ne.symm hne), kb5.trans (k6.below kb5.size hb)⟩
              · have ay1 : Away (.slice none 0 0) b := by
                  intro g off c e
                  simp at e
                have ay2 : Away (.slice none 0 0) rb := by
                  intro g off c e
                  simp at e
                have hy : Sl encI w (.slice none 0 0) [] := Sl.nil _
                have hg2 : (decide (0 ≤ z2) && decide (z2 < (l2.length : Int))) = false := by
                  have := hin
                  simp only [Bool.and_eq_false_iff, decide_eq_false_iff_not]
                  omega
                have HIN := Lib.hid hin
                clear hin
                go_upto_region 32 with fail
                all_goals try (exfalso; have := HIN.out; omega)
                all_goals (
                go_wp2_with fail
                refine (rlHear_any rb x [] _ z1 _ gr (hy.below kb) ay2).mono ?_
                rintro e w5 ⟨v5, rfl, gr5, s5, k5⟩
                have gl5 := gl.other k5 hne
                have gv5 := gv.other k5 (by omega)
                have kb5 := kb.trans (k5.below kb.size hrb)
                have lb := lt_of_block gl
                clear c0 c1 c2 gl gr gv
                have c1 := obj_cell gv5 (k := 1) rfl
                go_wp2_with fail
                refine (linkHear_any b x [] _ z1 _ gl5 (hy.below kb5) ay1).mono ?_
                rintro e w6 ⟨v6, rfl, gl6, s6, k6⟩
                go_wp2_with fail
                go_meet
                exact ⟨x.hear [] z1, hx.hear [] z1, rfl, rfl, s6.sl, (s5.other k6 lb).sl, gl6, gr5.other k6 (Ne.symm hne), kb5.trans (k6.below kb5.size hb)⟩)
            · skip
              by_cases hin : 0 ≤ z2 ∧ z2 < l2.length
              · obtain ⟨i1, i2⟩ := hin
                obtain ⟨kz, rfl⟩ := Int.eq_ofNat_of_zero_le i1
                obtain ⟨b2', f2', c2', oa2', n2, cc2, m2, bm2, om2, ev2, q2, hb2, rfl, hy, hnl2, hbm2, -⟩ := O2.out.at (k := kz) (by omega)
                simp only [Value.slice.injEq] at ev2
                obtain ⟨rfl, _, rfl⟩ := ev2
                have ay : ∀ B, w.heap.size ≤ B → Away (.slice oa2' m2.length cc2) B := by
                  intro B hB g off c e
                  simp only [Value.slice.injEq] at e
                  obtain ⟨rfl, e3, rfl⟩ := e
                  obtain ⟨e1, e2⟩ := hbm2 (by omega)
                  simp only [Option.some.injEq, Addr.mk.injEq] at e1
                  omega
                have ay1 := ay b hb
                have ay2 := ay rb hrb
                have q2' := (kb.cell (p := ⟨b2', f2' + kz, none⟩) hb2).trans q2
                clear q2 ay hbm2 hnl2
                have hyH := Lib.hid hy
                clear hy
                go_wp2_with fail
                refine (rlHear_any rb x m2 _ z1 _ gr (hyH.out.below kb) ay2).mono ?_
                rintro e w5 ⟨v5, rfl, gr5, s5, k5⟩
                have gl5 := gl.other k5 hne
                have gv5 := gv.other k5 (by omega)
                have kb5 := kb.trans (k5.below kb.size hrb)
                have lb := lt_of_block gl
                clear c0 c1 c2 gl gr gv
                have c1 := obj_cell gv5 (k := 1) rfl
                go_wp2_with fail
                refine (linkHear_any b x m2 _ z1 _ gl5 (hyH.out.below kb5) ay1).mono ?_
                rintro e w6 ⟨v6, rfl, gl6, s6, k6⟩
                go_wp2_with fail
                go_meet
                exact ⟨x.hear m2 z1, hx.hear m2 z1, rfl, rfl, s6.sl, (s5.other k6 lb).sl, gl6, gr5.other k6 (Ne.symm hne), kb5.trans (k6.below kb5.size hb)⟩
              · have ay1 : Away (.slice none 0 0) b := by
                  intro g off c e
                  simp at e
                have ay2 : Away (.slice none 0 0) rb := by
                  intro g off c e
                  simp at e
                have hy : Sl encI w (.slice none 0 0) [] := Sl.nil _
                have hg2 : (decide (0 ≤ z2) && decide (z2 < (l2.length : Int))) = false := by
                  have := hin
                  simp only [Bool.and_eq_false_iff, decide_eq_false_iff_not]
                  omega
                have HIN := Lib.hid hin
                clear hin
                go_upto_region 32 with fail
                all_goals try (exfalso; have := HIN.out; omega)
                all_goals (
                go_wp2_with fail
                refine (rlHear_any rb x [] _ z1 _ gr (hy.below kb) ay2).mono ?_
                rintro e w5 ⟨v5, rfl, gr5, s5, k5⟩
                have gl5 := gl.other k5 hne
                have gv5 := gv.other k5 (by omega)
                have kb5 := kb.trans (k5.below kb.size hrb)
                have lb := lt_of_block gl
                clear c0 c1 c2 gl gr gv
                have c1 := obj_cell gv5 (k := 1) rfl
                go_wp2_with fail
                refine (linkHear_any b x [] _ z1 _ gl5 (hy.below kb5) ay1).mono ?_
                rintro e w6 ⟨v6, rfl, gl6, s6, k6⟩
                go_wp2_with fail
                go_meet
                exact ⟨x.hear [] z1, hx.hear [] z1, rfl, rfl, s6.sl, (s5.other k6 lb).sl, gl6, gr5.other k6 (Ne.symm hne), kb5.trans (k6.below kb5.size hb)⟩)
          · have d0 : (z0 == 0) = false := by simpa using h0
            have d1 : (z0 == 1) = false := by simp; omega
            have d2 : (z0 == 2) = false := by simp; omega
            have d3 : (z0 == 3) = false := by simp; omega
            go_wp2_with fail
            refine (rlTick_any rb x hx z1 _ gr).mono ?_
            rintro e w5 ⟨v5, rfl, gr5, s5, k5⟩
            have gl5 := gl.other k5 hne
            have gv5 := gv.other k5 (by omega)
            have kb5 := kb.trans (k5.below kb.size hrb)
            have lb := lt_of_block gl
            clear c0 c1 c2 gl gr gv
            have c1 := obj_cell gv5 (k := 1) rfl
            go_wp2_with fail
            refine (linkTick_any b x hx z1 _ gl5).mono ?_
            rintro e w6 ⟨v6, rfl, gl6, s6, k6⟩
            go_wp2_with fail
            go_meet
            exact ⟨x.ticks z1, hx.ticks z1, rfl, rfl, s6.sl, (s5.other k6 lb).sl, gl6, gr5.other k6 (Ne.symm hne), kb5.trans (k6.below kb5.size hb)⟩
        case rest =>
        clear gl gr gv kb c0 c1 c2 hx
        obtain ⟨r, hr, rfl, rfl, s1, s2, gl, gr, kb⟩ := hcut
        go_wp2_with fail
        refine (error_errV r.f _ (hE.below kb)).mono ?_
        rintro e w7 ⟨rfl, k7⟩
        have gl7 := gl.below k7 (lt_of_block gl)
        have gr7 := gr.below k7 (lt_of_block gr)
        have kb7 := kb.trans (k7.mono kb.size)
        have s17 := s1.below k7
        have s27 := s2.below k7
        clear gl gr kb s1 s2
        go_wp2_with fail
        refine (sameInts_eq _ _ r.l _ s17 s27).mono ?_
        rintro e w8 ⟨rfl, n8, hw8⟩
        have gl8 : LinkAt w8 b r.x := by rw [hw8]; exact gl7
        have gr8 : RLinkAt w8 rb r.x := by rw [hw8]; exact gr7
        have kb8 : Below w.heap.size w w8 := by rw [hw8]; exact Below.drewN kb7 _
        clear hw8 gl7 gr7 kb7 s17 s27
        have hst := Lib.hid (fun n => linkState_any b r.x (World.drewN w8 n) gl8)
        have hot := Lib.hid (fun n => linkOther_any b r.x (World.drewN w8 n) gl8)
        have rk1 := obj_cell gr8 (k := 1) rfl
        have rk2 := obj_cell gr8 (k := 2) rfl
        go_wp2_with fail
        go_quiet ((first | (go_at_call 39; exact Calls.quietS (hst.out _)) | (go_at_call 40; exact Calls.quietS (hot.out _))))
        go_wp2
        go_roundw
        case measure => simp [intOf]; omega
        case rel => exact ⟨k + 1, r.x, by omega, by omega, by go_num, hr, gl8, gr8, Below.drewN kb8 _⟩
      · have : k = 60 := by omega
        subst this
        go_wp2
        go_ret
        exact ⟨rfl, kb⟩
    · go_wp2
      go_ret
      exact ⟨rfl, kb⟩
theorem walk_LinkPlays (w : World) (a0 : Int) (w0 : (Lit.int .i64 a0).wf = true) (v1 : Value) (l1 : List (Value × List Int)) (o1 : IsRows w v1 l1) (v2 : Value) (l2 : List (Value × List Int)) (o2 : IsRows w v2 l2) (hE : Env w) :
    Calls Tryd.prog 6 #[.int .i64 a0, v1, v2] w fun e w' => e = .returned (.bool true) ∧ Below w.heap.size w w' := by
  by_cases h : 1 ≤ a0 ∧ a0 ≤ 1000000
  · exact walk_LinkPlays_run w hE a0 h.1 h.2 v1 l1 o1 v2 l2 o2
  · exact walk_LinkPlays_bad w hE a0 v1 v2 h
end Go.Proofs.YtanmokomefdaiaaDoor
