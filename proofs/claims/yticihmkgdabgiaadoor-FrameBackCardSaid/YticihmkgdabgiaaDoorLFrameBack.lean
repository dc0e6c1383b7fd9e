import Derived.Test.YticihmkgdabgiaaDoorFramePass
import Derived.Test.YticihmkgdabgiaaDoorPackE
import Derived.Test.YticihmkgdabgiaaDoorSameFr
import Derived.Test.YticihmkgdabgiaaDoorOpenFr
import Derived.Test.YticihmkgdabgiaaDoorTold
/-! The walk of the law FrameBack. -/
namespace Go.Proofs.YticihmkgdabgiaaDoor
open Go.RowKit
set_option linter.unusedVariables false
set_option linter.unusedSimpArgs false
theorem OwnB.setAt {w : World} {base g cap : Nat} {l : List UInt8} (h : OwnB w base (.slice (some ⟨g, 0, none⟩) l.length cap) l) (k : Nat) (c : UInt8) :
    OwnB (w.setCell ⟨g, k, none⟩ (encB c)) base (.slice (some ⟨g, 0, none⟩) l.length cap) (l.set k c) := by
  obtain ⟨h1, h2⟩ := h
  refine ⟨by simp, ?_⟩
  rcases h2 with ⟨h3, _⟩ | ⟨g', cap', cur, hv, hb, hg, hc, hm, hs, ht⟩
  · cases h3
  · simp only [Value.slice.injEq, Option.some.injEq, Addr.mk.injEq, true_and, and_true] at hv
    obtain ⟨rfl, rfl⟩ := hv
    refine .inr ⟨g, cap, cur.setIfInBounds k (encB c), by simp, hb, obj_set hg k _, by simpa using hc, hm, by simpa using hs, ?_⟩
    rw [Array.toList_setIfInBounds, List.map_set, ← ht]
    simp [List.take_set]
theorem OwnB.spot {w : World} {base g cap n : Nat} {l : List UInt8} (h : OwnB w base (.slice (some ⟨g, 0, none⟩) n cap) l) (k : Nat) (hk : k < l.length) : base ≤ g ∧ (∃ u, w.cell? ⟨g, k, none⟩ = some u) ∧ w.frozen? ⟨g, k, none⟩ = false := by
  obtain ⟨h1, h2⟩ := h
  rcases h2 with ⟨h3, _⟩ | ⟨g', cap', cur, hv, hb, hg, hc, hm, hs, ht⟩
  · cases h3
  · simp only [Value.slice.injEq, Option.some.injEq, Addr.mk.injEq, true_and, and_true] at hv
    obtain ⟨rfl, rfl, rfl⟩ := hv
    have hk2 : k < cur.size := by omega
    exact ⟨hb, ⟨cur[k], obj_cell hg (by simp [hk2])⟩, obj_free hg k⟩
namespace Pl
def P7 : List UInt8 := pkBytes 7 0 0 0 false []
theorem P7_ok : frFault 1 0 0 0 P7 = 0 := by decide +kernel
theorem P7_len : P7.length = 8 := by decide +kernel
theorem frFault_hops {t o ep h h' : Int} {l : List UInt8} (hf : frFault t o ep h l = 0) (h1 : 0 ≤ h') (h2 : h' ≤ 64) : frFault t o ep h' l = 0 := by
  obtain ⟨⟨g1, g2, g3, g4, g5, g6, g7, g8⟩, hr⟩ := frFault_ok hf
  unfold frFault
  rw [if_pos ⟨g1, g2, g3, g4, g5, g6, h1, h2⟩, hr]
theorem changed (t o ep h : Int) (l : List UInt8) (k : Nat) (c : UInt8) (hk : k < (frBytes t o ep h l).length) (hc : bAt (frBytes t o ep h l) k ≠ c) : openFault ((frBytes t o ep h l).set k c) = 9 := by
  refine open_told (frBody t o ep h l) _ k ?_ ?_ ?_ ?_
  · rw [List.length_set, frBytes_length, frBody_length]; omega
  · rw [frBytes_length] at hk; rw [frBody_length]; omega
  · intro e
    refine hc ?_
    show (frBytes t o ep h l).getD k 0 = c
    have e2 : (frBytes t o ep h l).set k c = frBytes t o ep h l := e
    have e3 := congrArg (fun z : List UInt8 => z[k]?) e2
    simp [List.getElem?_set, hk] at e3
    simp [List.getD, hk, e3]
  · intro j h1 _
    rw [List.getElem?_set_ne (Ne.symm h1)]
    rfl
end Pl
theorem fact_p (w : World) :
    Calls Tryd.prog 9 #[pkV 7 0 0 0 false (.slice none 0 0)] w fun e w' => ∃ oa c, e = .returned (.tuple #[.slice oa 8 c, .nilIface]) ∧ IsBytes w' (.slice oa 8 c) Pl.P7 ∧ Below w.heap.size w w' :=
  (pencode_ok 7 0 0 0 false (.slice none 0 0) [] w (Sl.nil _) (by unfold Pl.pkOk; simp)).mono fun e w' ⟨oa, c, h1, h2, h3⟩ => ⟨oa, c, h1, h2.reads, h3⟩
theorem fact_f (v : Value) (w : World) (hv : IsBytes w v Pl.P7) :
    Calls Tryd.prog 10 #[frV 1 0 0 0 v] w fun e w' => ∃ g c, e = .returned (.tuple #[.slice (some ⟨g, 0, none⟩) 18 c, .nilIface]) ∧ 18 ≤ c ∧ c ≤ 9223372036854775807 ∧ w'.cell? ⟨g, 0, none⟩ = some (.int .u8 70) ∧ Below w.heap.size w w' :=
  (fencode_ok 1 0 0 0 v Pl.P7 w hv Pl.P7_ok).mono fun e w' ⟨oa, c, h1, h2, h3⟩ => by
    rw [Pl.P7_len] at h1 h2
    rcases h2.forms with ⟨h4, _⟩ | ⟨g, cap, h4, _, h6, h7, _, h8⟩
    · cases h4
    · have hl : (Pl.frBytes 1 0 0 0 Pl.P7).length = 18 := by rw [Pl.frBytes_length, Pl.P7_len]
      rw [hl] at h4 h6
      cases h4
      have h9 := h8 0 (by rw [hl]; omega)
      unfold maxLen at h7
      exact ⟨g, c, h1, h6, by omega, by rw [h9]; rfl, h3⟩
theorem fencode_at (t o ep h : Int) (bv : Value) (l : List UInt8) (w : World) (hv : IsBytes w bv l) (hf : Pl.frFault t o ep h l = 0) :
    Calls Tryd.prog 10 #[frV t o ep h bv] w fun e w' => ∃ g c, e = .returned (.tuple #[.slice (some ⟨g, 0, none⟩) (10 + l.length) c, .nilIface]) ∧ 10 + l.length ≤ c ∧ c ≤ 9223372036854775807 ∧ IsBytes w' (.slice (some ⟨g, 0, none⟩) (10 + l.length) c) (Pl.frBytes t o ep h l) ∧ Below w.heap.size w w' :=
  (fencode_ok t o ep h bv l w hv hf).mono fun e w' ⟨oa, c, h1, h2, h3⟩ => by
    have hl := Pl.frBytes_length t o ep h l
    have hr := h2.reads
    rcases h2.forms with ⟨h4, h5⟩ | ⟨g, cap, h4, _, h6, h7, _, h8⟩
    · rw [h5, List.length_nil] at hl; omega
    · rw [hl] at h4 h6
      cases h4
      unfold maxLen at h7
      exact ⟨g, c, h1, h6, by omega, hr, h3⟩
theorem run_copy (z : World) (v : Value) (x : List UInt8) (hx : IsBytes z v x) (hp : 0 < x.length) (hm : x.length ≤ 1000000) (n : Nat) (hn : x.length = n) :
    ∃ g c z', (Builtin.append_ #[22, 22] 22 #[.slice none 0 0, v]).run Tryd.prog z = .ok (.slice (some ⟨g, 0, none⟩) n c) z' ∧ n ≤ c ∧ c ≤ 9223372036854775807 ∧ OwnB z' z.heap.size (.slice (some ⟨g, 0, none⟩) n c) x ∧ Below z.heap.size z z' := by
  obtain ⟨v', z', hr, ho, hg⟩ := run_append_bytes z (OwnB.nil z z.heap.size) hx (Nat.le_refl _) (by simp; omega)
  simp only [List.nil_append] at ho
  rcases ho.forms with ⟨_, h5⟩ | ⟨g, cap, h4, _, h6, h7, _, _⟩
  · rw [h5] at hp; simp at hp
  · subst h4
    rw [hn] at hr ho h6
    unfold maxLen at h7
    exact ⟨g, cap, z', hr, h6, by omega, ho, below_row (OwnB.nil z z.heap.size) hg (Nat.le_refl _) (Nat.le_refl _)⟩
/-- what the law holds: its frame, boxed; what was read; the bytes at hand -/
structure FB (N G : Nat) (w : World) (f : Fr) (xv : Value) (xs : List UInt8) (z : World) : Prop where
  b0 : w.heap.size ≤ N ∧ z.heap[N]? = some (.cells #[.int .i64 f.t, .int .i64 f.o, .int .i64 f.ep, .int .i64 f.h, f.bv] 24 (0, 0))
  kb : Below w.heap.size w z
  g0 : ∃ t o ep h bv, FrMem z G t o ep h bv
  hG : N < G
  xb : IsBytes z xv xs
theorem FB.next {N G : Nat} {w z z' : World} {f : Fr} {xv : Value} {xs : List UInt8} (H : FB N G w f xv xs z) (k : Below z.heap.size z z') : FB N G w f xv xs z' := by
  obtain ⟨t, o, ep, h, bv, hg⟩ := H.g0
  exact ⟨⟨H.b0.1, Below.heapAt k H.b0.2 (lt_of_block H.b0.2)⟩, H.kb.trans (k.mono (Nat.le_trans H.b0.1 (Nat.le_of_lt (lt_of_block H.b0.2)))), ⟨t, o, ep, h, bv, Below.heapAt k hg (lt_of_block hg)⟩, H.hG, H.xb.below k⟩
theorem FB.cells {N G : Nat} {w z : World} {f : Fr} {xv : Value} {xs : List UInt8} (H : FB N G w f xv xs z) :
    z.cell? ⟨N, 0, none⟩ = some (.int .i64 f.t) ∧ z.cell? ⟨N, 1, none⟩ = some (.int .i64 f.o) ∧ z.cell? ⟨N, 2, none⟩ = some (.int .i64 f.ep) ∧ z.cell? ⟨N, 3, none⟩ = some (.int .i64 f.h) ∧ z.cell? ⟨N, 4, none⟩ = some f.bv :=
  ⟨obj_cell H.b0.2 rfl, obj_cell H.b0.2 rfl, obj_cell H.b0.2 rfl, obj_cell H.b0.2 rfl, obj_cell H.b0.2 rfl⟩
theorem abs_f {P : Program} {c : Code} {Q : Exit → Act → World → Prop} {a : Act} {W : World} (S : World → Prop) (h : S W) (k : ∀ wq, S wq → c.wp P Q a wq) : c.wp P Q a W := k W h
set_option maxRecDepth 100000 in
set_option maxHeartbeats 4000000 in
theorem walk_FrameBack_run (w : World) (t o ep h : Int) (ob : Option Addr) (cb : Nat) (body : List UInt8) (hv : IsBytes w (.slice ob body.length cb) body) (hf : Pl.frFault t o ep h body = 0) (p : Int) (c : UInt8) (times : Int) (hE : Env w) :
    Calls Tryd.prog 3 #[frV t o ep h (.slice ob body.length cb), .int .i64 p, .int .u8 (c.toNat : Int), .int .i64 times] w fun e w' => e = .returned (.bool true) ∧ Below w.heap.size w w' := by
  have HV := Lib.hid hv
  have HF := Lib.hid hf
  have HE := Lib.hid hE
  clear hv hf hE
  go_enter Tryd.func3, Tryd.ntmps3
  go_upto_region 1 with fail
  refine abs_f (fun y => FrMem y w.heap.size t o ep h (.slice ob body.length cb) ∧ Below w.heap.size w y) ⟨obj_new _ _, (Below.refl _ _).alloc (Nat.le_refl _) _⟩ ?_
  rintro y1 ⟨m1, k1⟩
  have M1 := Lib.hid m1
  have K1 := Lib.hid k1
  clear m1 k1
  go_upto_region 5 with (first
    | (go_at_call 9; (with_reducible refine (fact_p _).mono ?_); rintro e y2 ⟨oa, ca, rfl, hp, k2⟩; have P2 := Lib.hid hp; have K1 := Lib.hid (K1.out.trans (k2.mono (Nat.le_of_lt (lt_of_block M1.out)))); have M1 := Lib.hid (Below.heapAt k2 M1.out (lt_of_block M1.out)); clear hp k2)
    | (go_at_call 10; (with_reducible refine (fact_f _ _ P2.out).mono ?_); rintro e y3 ⟨gf, cf, rfl, u1, u2, u3, k2⟩; have K1 := Lib.hid (K1.out.trans (k2.mono (Nat.le_of_lt (lt_of_block M1.out)))); have M1 := Lib.hid (Below.heapAt k2 M1.out (lt_of_block M1.out)); clear k2)
    | fail)
  clear u1 u2 u3 P2
  have LB := Lib.hid (show body.length ≤ 1008 from (Pl.read_ok (Pl.frFault_ok HF.out).2).2.1)
  have p0 := obj_cell M1.out (k := 0) rfl
  have p1 := obj_cell M1.out (k := 1) rfl
  have p2 := obj_cell M1.out (k := 2) rfl
  have p3 := obj_cell M1.out (k := 3) rfl
  have p4 := obj_cell M1.out (k := 4) rfl
  have EN := Lib.hid (fencode_at t o ep h _ body y3 (HV.out.below K1.out) HF.out)
  go_upto_region 8 with (go_at_call 10; (with_reducible refine EN.out.mono ?_); rintro e y4 ⟨gx, cx, rfl, n1, n2, hx, k2⟩; have K1 := Lib.hid (K1.out.trans (k2.mono (Nat.le_of_lt (lt_of_block M1.out)))); have M1 := Lib.hid (Below.heapAt k2 M1.out (lt_of_block M1.out)); have X1 := Lib.hid hx; clear hx k2)
  clear EN p0 p1 p2 p3 p4
  have RD := Lib.hid (fread_frame t o ep h _ body y4 X1.out HF.out)
  go_upto_region 9 with (go_at_call 11; (with_reducible refine RD.out.mono ?_); rintro e y5 ⟨og, ng, cg, rfl, hg, k2, -⟩; have K1 := Lib.hid (K1.out.trans (k2.mono (Nat.le_of_lt (lt_of_block M1.out)))); have M1 := Lib.hid (Below.heapAt k2 M1.out (lt_of_block M1.out)); have X1 := Lib.hid (X1.out.below k2); have G1 := Lib.hid hg; clear hg k2)
  clear RD
  refine abs_f (fun z => FB w.heap.size y5.heap.size w ⟨t, o, ep, h, .slice ob body.length cb, body⟩ (.slice (some ⟨gx, 0, none⟩) (10 + body.length) cx) (Pl.frBytes t o ep h body) z ∧ FrMem z y5.heap.size t o ep h (.slice og ng cg) ∧ IsBytes z (.slice og ng cg) body) ?_ ?_
  · have kk : Below y5.heap.size y5 (y5.alloc (.cells #[.int .i64 t, .int .i64 o, .int .i64 ep, .int .i64 h, .slice og ng cg] 24)) := (Below.refl _ _).alloc (Nat.le_refl _) _
    exact ⟨⟨⟨Nat.le_refl _, Below.heapAt kk M1.out (lt_of_block M1.out)⟩, K1.out.trans (kk.mono K1.out.size), ⟨_, _, _, _, _, obj_new _ _⟩, lt_of_block M1.out, X1.out.below kk⟩, obj_new _ _, G1.out.below kk⟩
  have HNN := Lib.hid (Nat.le_refl w.heap.size)
  clear M1 K1 X1 G1
  generalize y5.heap.size = G at *
  rintro z1 ⟨fb, m, hg⟩
  have FBz := Lib.hid fb
  obtain ⟨p0, p1, p2, p3, p4⟩ := fb.cells
  dsimp only at p0 p1 p2 p3 p4
  have q0 := obj_cell m (k := 0) rfl
  have q1 := obj_cell m (k := 1) rfl
  have q2 := obj_cell m (k := 2) rfl
  have q3 := obj_cell m (k := 3) rfl
  have q4 := obj_cell m (k := 4) rfl
  have SM := Lib.hid (sameFr_any t o ep h t o ep h _ _ body body z1 hg (HV.out.below fb.kb))
  rw [show Pl.sameFr t o ep h body t o ep h body = true from by simp [Pl.sameFr]] at SM
  clear fb m hg
  go_upto_region 12 with (go_at_call 12; (with_reducible refine SM.out.mono ?_); rintro e z2 ⟨rfl, k2⟩; have FBz := Lib.hid (FBz.out.next k2); clear k2)
  clear p0 p1 p2 p3 p4 q0 q1 q2 q3 q4 SM
  have hgd : ∃ g : Bool, Hid (g = true → ∃ k : Nat, p = (k : Int) ∧ k < (Pl.frBytes t o ep h body).length ∧ Pl.bAt (Pl.frBytes t o ep h body) k ≠ c) ∧ Hid (g = decide (0 ≤ p ∧ p < 10 + (body.length : Int) ∧ Pl.bAt (Pl.frBytes t o ep h body) p.toNat ≠ c)) := by
    refine ⟨_, Lib.hid (fun hg => ?_), Lib.hid rfl⟩
    have h2 := of_decide_eq_true hg
    exact ⟨p.toNat, by omega, by rw [Pl.frBytes_length]; omega, h2.2.2⟩
  obtain ⟨g, G1, G2⟩ := hgd
  have hb8 := LB.out
  go_cut [89] (fun s89 z => s89 = .bool g ∧ z2 = z)
  case first =>
    by_cases c1 : 0 ≤ p
    case neg =>
      have E := Lib.hid (show g = false by rw [G2.out]; exact decide_eq_false (fun h => c1 h.1))
      go_wp2_with fail
      go_meet
      exact ⟨by rw [E.out], rfl⟩
    by_cases c2 : p < 10 + (body.length : Int)
    case neg =>
      have E := Lib.hid (show g = false by rw [G2.out]; exact decide_eq_false (fun h => c2 h.2.1))
      go_wp2_with fail
      go_meet
      exact ⟨by rw [E.out], rfl⟩
    obtain ⟨k, rfl⟩ := Int.eq_ofNat_of_zero_le c1
    have u0 : z2.cell? ⟨gx, 0 + k, none⟩ = some (encB (Pl.bAt (Pl.frBytes t o ep h body) k)) := bytes_at FBz.out.xb k (by rw [Pl.frBytes_length]; omega)
    have u1 := u0
    rw [Nat.zero_add] at u1
    by_cases e : Pl.bAt (Pl.frBytes t o ep h body) k = c
    · have E := Lib.hid (show g = false by rw [G2.out]; exact decide_eq_false (fun h => h.2.2 (by simpa using e)))
      rw [e] at u0 u1
      go_wp2_with fail
      go_meet
      exact ⟨by rw [E.out], rfl⟩
    · have E := Lib.hid (show g = true by rw [G2.out]; exact decide_eq_true ⟨c1, c2, by simpa using e⟩)
      generalize Pl.bAt (Pl.frBytes t o ep h body) k = d at *
      have ne : ((d.toNat : Int) != (c.toNat : Int)) = true := by
        simpa using (fun h : (d.toNat : Int) = (c.toNat : Int) => e (UInt8.toNat_inj.1 (by omega)))
      go_wp2_with fail
      go_meet
      exact ⟨by rw [E.out], rfl⟩
  case rest =>
  obtain ⟨rfl, rfl⟩ := hcut
  clear G2
  go_upto_if 89 with fail
  go_cut [13] (fun s13 z => s13 = .slice (some ⟨gx, 0, none⟩) (10 + body.length) cx ∧ Hid (FB w.heap.size G w ⟨t, o, ep, h, .slice ob body.length cb, body⟩ (.slice (some ⟨gx, 0, none⟩) (10 + body.length) cx) (Pl.frBytes t o ep h body) z))
  case first =>
    cases g
    · go_wp2_with fail
      go_meet
      exact ⟨rfl, FBz⟩
    · obtain ⟨k, rfl, hk, hne⟩ := G1.out rfl
      have BAD := Lib.hid (Pl.changed t o ep h body k c hk hne)
      rw [Pl.frBytes_length] at hk
      have RUN := Lib.hid (run_copy z2 _ _ FBz.out.xb (by rw [Pl.frBytes_length]; omega) (by rw [Pl.frBytes_length]; omega) (10 + body.length) (Pl.frBytes_length t o ep h body))
      clear hne
      go_upto_region 15 with (at_builtin; obtain ⟨gy, cy, z3, hr, m1, m2, ho, k3⟩ := RUN.out; refine Lib.wpList_append_run _ rfl (.tmp 90) (.tmp 91) 22 22 rfl _ _ rfl rfl _ _ hr ?_)
      obtain ⟨hge, ⟨u, hu⟩, hfz⟩ := ho.spot k (by rw [Pl.frBytes_length]; omega)
      clear hr RUN
      go_upto_region 16 with fail
      refine abs_f (fun z => FB w.heap.size G w ⟨t, o, ep, h, .slice ob body.length cb, body⟩ (.slice (some ⟨gx, 0, none⟩) (10 + body.length) cx) (Pl.frBytes t o ep h body) z ∧ IsBytes z (.slice (some ⟨gy, 0, none⟩) (10 + body.length) cy) ((Pl.frBytes t o ep h body).set k c)) ⟨FBz.out.next (Below.setCell k3 hge _), ?_⟩ ?_
      · have q := ho
        rw [← Pl.frBytes_length t o ep h body] at q
        have q2 := (q.setAt k c).reads
        rw [Pl.frBytes_length] at q2
        exact q2
      clear ho hu hfz k3 hge FBz m1 m2
      rintro z4 ⟨fb, hy⟩
      have RB := fread_open _ _ z4 hy (by rw [List.length_set, Pl.frBytes_length]; omega) (by rw [BAD.out]; decide)
      rw [BAD.out] at RB
      have RBH := Lib.hid RB
      have FBz := Lib.hid fb
      clear RB fb hy
      go_upto_region 17 with (go_at_call 11; (with_reducible refine RBH.out.mono ?_); rintro e z5 ⟨rfl, k5⟩; have FBz := Lib.hid (FBz.out.next k5); clear k5)
      refine abs_f (fun z => FB w.heap.size G w ⟨t, o, ep, h, .slice ob body.length cb, body⟩ (.slice (some ⟨gx, 0, none⟩) (10 + body.length) cx) (Pl.frBytes t o ep h body) z) (FBz.out.next ((Below.refl _ _).alloc (Nat.le_refl _) _)) ?_
      clear FBz RBH
      intro z6 fb
      have FBz := Lib.hid fb
      have ER := Lib.hid (error_hit 9 9 z6 (HE.out.below fb.kb))
      clear fb
      go_wp2_with (go_at_call 13; (with_reducible refine ER.out.mono ?_); rintro e z7 ⟨rfl, k7⟩; have FBz := Lib.hid (FBz.out.next k7); clear k7)
      go_meet
      exact ⟨rfl, FBz⟩
  case rest =>
  clear FBz G1
  obtain ⟨rfl, FBz⟩ := hcut
  by_cases ht : 0 ≤ times ∧ times ≤ 70
  case neg =>
    have fin : ∀ z, FB w.heap.size G w ⟨t, o, ep, h, .slice ob body.length cb, body⟩ (.slice (some ⟨gx, 0, none⟩) (10 + body.length) cx) (Pl.frBytes t o ep h body) z → Below w.heap.size w z := fun z h => h.kb
    have Fin := Lib.hid fin
    clear fin
    by_cases ht0 : times < 0
    · clear ht
      go_wp2
      go_ret
      exact ⟨rfl, FBz.out.kb⟩
    · have h70 : 70 < times := by omega
      have h71 : 0 ≤ times := by omega
      clear ht ht0
      go_wp2
      go_ret
      exact ⟨rfl, FBz.out.kb⟩
  obtain ⟨ht1, ht2⟩ := ht
  have H0 := Lib.hid (show 0 ≤ h ∧ h ≤ 64 from (Pl.frFault_ok HF.out).1.2.2.2.2.2.2)
  go_wp2
  go_loopw [13, 22] (fun s13 s22 z => ∃ (k : Nat), (k : Int) ≤ times ∧ s22 = .int .i64 k ∧ Hid (h + (k : Int) ≤ 64) ∧ Hid (FB w.heap.size G w ⟨t, o, ep, h, .slice ob body.length cb, body⟩ s13 (Pl.frBytes t o ep (h + k) body) z)) (fun _ s22 _ => times.toNat - (intOf s22).toNat)
  case atStart => exact ⟨0, by omega, rfl, Lib.hid (by have := H0.out; omega), by simpa using FBz⟩
  case round =>
    clear FBz
    obtain ⟨k, hk, rfl, h64, FBz⟩ := hrel
    obtain ⟨p0, p1, p2, p3, p4⟩ := FBz.out.cells
    dsimp only at p0 p1 p2 p3 p4
    have h0 := H0.out.1
    have hm := h64.out
    have FK := Lib.hid (Pl.frFault_hops HF.out (h' := h + k) (by omega) h64.out)
    by_cases hlt : (k : Int) < times
    · by_cases he : h + (k : Int) = 64
      · have PF := FBz.out.xb
        rw [he] at PF FK
        have PA := Lib.hid (pass_full t o ep _ body _ PF FK.out)
        clear PF FK
        clear p0 p1 p2 p3 p4
        go_wp2_with (first
          | (go_at_call 14; (with_reducible refine PA.out.mono ?_); rintro e z8 ⟨rfl, k8⟩; have FBz := Lib.hid (FBz.out.next k8); obtain ⟨p0, p1, p2, p3, p4⟩ := FBz.out.cells; dsimp only at p0 p1 p2 p3 p4; have ER := Lib.hid (error_hit 6 6 z8 (HE.out.below FBz.out.kb)); clear k8)
          | (go_at_call 13; (with_reducible refine ER.out.mono ?_); rintro e z9 ⟨rfl, k9⟩; have FBz := Lib.hid (FBz.out.next k9); clear k9)
          | fail)
        go_ret
        exact ⟨by simp, FBz.out.kb⟩
      · have PA := Lib.hid (pass_ok t o ep (h + k) _ body _ FBz.out.xb FK.out (Pl.frFault_hops HF.out (h' := h + k + 1) (by omega) (by omega)) (by omega))
        clear p0 p1 p2 p3 p4
        go_wp2_with (first
          | (go_at_call 14; (with_reducible refine PA.out.mono ?_); rintro e z8 ⟨oa8, c8, rfl, hx8, k8⟩; have FBz := Lib.hid (FBz.out.next k8); have X8 := Lib.hid hx8; clear k8 hx8)
          | fail)
        go_roundw
        case rel =>
          refine ⟨k + 1, by omega, by go_num, Lib.hid (by omega), Lib.hid ⟨FBz.out.b0, FBz.out.kb, FBz.out.g0, FBz.out.hG, ?_⟩⟩
          have e2 : h + ((k + 1 : Nat) : Int) = h + k + 1 := by omega
          rw [e2]
          exact X8.out
        case measure => simp [intOf]; omega
    · have hkt : times = (k : Int) := by omega
      subst hkt
      have RD := Lib.hid (fread_frame t o ep (h + k) _ body _ FBz.out.xb FK.out)
      clear p0 p1 p2 p3 p4
      obtain ⟨_, _, _, _, _, mg0⟩ := FBz.out.g0
      have GLT := Lib.hid (lt_of_block mg0)
      clear mg0
      go_upto_region 30 with (go_at_call 11; (with_reducible refine RD.out.mono ?_); rintro e z8 ⟨og8, n8, c8, rfl, hb8', k8, hbl⟩; have FBz := Lib.hid (FBz.out.next k8); have B8 := Lib.hid hb8'; have BL := Lib.hid hbl; clear k8 hb8' hbl; obtain ⟨t5, o5, e5, h5, b5, mg⟩ := FBz.out.g0; have MG := Lib.hid mg; have r0 := obj_cell mg (k := 0) rfl; have r1 := obj_cell mg (k := 1) rfl; have r2 := obj_cell mg (k := 2) rfl; have r3 := obj_cell mg (k := 3) rfl; have r4 := obj_cell mg (k := 4) rfl; have f0 := obj_free mg 0; have f1 := obj_free mg 1; have f2 := obj_free mg 2; have f3 := obj_free mg 3; have f4 := obj_free mg 4; clear mg)
      refine abs_f (fun z => FrMem z G t o ep (h + k) (.slice og8 n8 c8) ∧ FrMem z w.heap.size t o ep h (.slice ob body.length cb) ∧ IsBytes z (.slice og8 n8 c8) body ∧ Below w.heap.size w z) ⟨obj_set (obj_set (obj_set (obj_set (obj_set MG.out 0 _) 1 _) 2 _) 3 _) 4 _, ?_, ?_, ?_⟩ ?_
      · have hne : G ≠ w.heap.size := by have := FBz.out.hG; omega
        exact obj_other (obj_other (obj_other (obj_other (obj_other FBz.out.b0.2 hne _) hne _) hne _) hne _) hne _
      · refine B8.out.keep (fun a ha hx => ?_)
        have ne : a.block ≠ G := by
          rcases og8 with _ | x8
          · exfalso
            rcases B8.out with ⟨h0, _⟩ | ⟨_, _, _, h0, _⟩
            · have h1 := (Pl.read_ok (Pl.frFault_ok HF.out).2).1
              rw [h0] at h1; simp at h1
            · cases h0
          · have h9 := BL.out x8 rfl
            have h10 := hx _ _ _ rfl _ rfl
            have := GLT.out
            omega
        rw [cell_set ne, cell_set ne, cell_set ne, cell_set ne, cell_set ne]
      · have hl : w.heap.size ≤ G := by have := FBz.out.hG; omega
        exact Below.setCell (Below.setCell (Below.setCell (Below.setCell (Below.setCell FBz.out.kb hl _) hl _) hl _) hl _) hl _
      clear r0 r1 r2 r3 r4 f0 f1 f2 f3 f4 MG FBz B8 BL GLT
      rintro z ⟨m1, m2, m3, kb⟩
      have p3 := obj_cell m2 (k := 3) rfl
      have p4 := obj_cell m2 (k := 4) rfl
      have q3 := obj_cell m1 (k := 3) rfl
      have q4 := obj_cell m1 (k := 4) rfl
      have v1 := conv_bytes m3
      have v2 := conv_bytes (HV.out.below kb)
      have KB := Lib.hid kb
      clear m1 m2 m3 kb
      generalize strB body = sb at *
      go_wp2
      go_ret
      exact ⟨by simp, KB.out⟩

set_option maxRecDepth 100000 in
set_option maxHeartbeats 4000000 in
theorem walk_FrameBack_bad (w : World) (t o ep h : Int) (ob : Option Addr) (cb : Nat) (body : List UInt8) (hv : IsBytes w (.slice ob body.length cb) body) (hf : Pl.frFault t o ep h body ≠ 0) (p : Int) (c : UInt8) (times : Int) :
    Calls Tryd.prog 3 #[frV t o ep h (.slice ob body.length cb), .int .i64 p, .int .u8 (c.toNat : Int), .int .i64 times] w fun e w' => e = .returned (.bool true) ∧ Below w.heap.size w w' := by
  have HV := Lib.hid hv
  have HF := Lib.hid hf
  clear hv hf
  go_enter Tryd.func3, Tryd.ntmps3
  go_upto_region 1 with fail
  refine abs_f (fun y => FrMem y w.heap.size t o ep h (.slice ob body.length cb) ∧ Below w.heap.size w y) ⟨obj_new _ _, (Below.refl _ _).alloc (Nat.le_refl _) _⟩ ?_
  rintro y1 ⟨m1, k1⟩
  have M1 := Lib.hid m1
  have K1 := Lib.hid k1
  clear m1 k1
  go_upto_region 5 with (first
    | (go_at_call 9; (with_reducible refine (fact_p _).mono ?_); rintro e y2 ⟨oa, ca, rfl, hp, k2⟩; have P2 := Lib.hid hp; have K1 := Lib.hid (K1.out.trans (k2.mono (Nat.le_of_lt (lt_of_block M1.out)))); have M1 := Lib.hid (Below.heapAt k2 M1.out (lt_of_block M1.out)); clear hp k2)
    | (go_at_call 10; (with_reducible refine (fact_f _ _ P2.out).mono ?_); rintro e y3 ⟨gf, cf, rfl, u1, u2, u3, k2⟩; have K1 := Lib.hid (K1.out.trans (k2.mono (Nat.le_of_lt (lt_of_block M1.out)))); have M1 := Lib.hid (Below.heapAt k2 M1.out (lt_of_block M1.out)); clear k2)
    | fail)
  clear u1 u2 u3 P2
  have p0 := obj_cell M1.out (k := 0) rfl
  have p1 := obj_cell M1.out (k := 1) rfl
  have p2 := obj_cell M1.out (k := 2) rfl
  have p3 := obj_cell M1.out (k := 3) rfl
  have p4 := obj_cell M1.out (k := 4) rfl
  have EN := Lib.hid (fencode_bad t o ep h _ body y3 (HV.out.below K1.out) HF.out)
  generalize Pl.frFault t o ep h body = q at *
  go_wp2_with (go_at_call 10; (with_reducible refine EN.out.mono ?_); rintro e y4 ⟨rfl, k2⟩; have K1 := Lib.hid (K1.out.trans (k2.mono (Nat.le_of_lt (lt_of_block M1.out)))); clear k2)
  go_ret
  exact ⟨rfl, K1.out⟩
theorem walk_FrameBack (w : World) (v0 : Value) (l0 : Fr) (o0 : v0 = l0.val ∧ l0.Good w) (a1 : Int) (w1 : (Lit.int .i64 a1).wf = true) (a2 : Int) (w2 : (Lit.int .u8 a2).wf = true) (a3 : Int) (w3 : (Lit.int .i64 a3).wf = true) (hE : Env w) :
    Calls Tryd.prog 3 #[v0, .int .i64 a1, .int .u8 a2, .int .i64 a3] w fun e w' => e = .returned (.bool true) ∧ Below w.heap.size w w' := by
  obtain ⟨rfl, _, _, _, _, hv⟩ := o0
  have hb : 0 ≤ a2 ∧ a2 ≤ 255 := by simpa [Lit.wf, IntKind.min, IntKind.max, IntKind.signed, IntKind.bits] using w2
  have e : a2 = ((UInt8.ofNat a2.toNat).toNat : Int) := by rw [UInt8.toNat_ofNat']; omega
  rw [e]
  obtain ⟨t, o, ep, h, bv, body⟩ := l0
  obtain ⟨ob, cb, e2, _⟩ := bytes_slice hv
  dsimp only at e2 hv
  subst e2
  by_cases hf : Pl.frFault t o ep h body = 0
  · exact walk_FrameBack_run w t o ep h ob cb body hv hf a1 _ a3 hE
  · exact walk_FrameBack_bad w t o ep h ob cb body hv hf a1 _ a3
end Go.Proofs.YticihmkgdabgiaaDoor
