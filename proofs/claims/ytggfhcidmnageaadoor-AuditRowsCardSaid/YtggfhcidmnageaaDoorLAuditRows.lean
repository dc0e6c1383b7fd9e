import Derived.Test.YtggfhcidmnageaaDoorHoles
import Derived.Test.YtggfhcidmnageaaDoorARow
import Derived.Test.YtggfhcidmnageaaDoorErrV
import Derived.Test.YtggfhcidmnageaaDoorRowPk
import Derived.Test.YtggfhcidmnageaaDoorPAuditD
import Derived.Test.YtggfhcidmnageaaDoorOut
import Derived.Test.YtggfhcidmnageaaDoorARs
import Derived.Test.YtggfhcidmnageaaDoorOutMore
import Derived.Deep.CutBlock
/-! The walk of the law AuditRows. -/
namespace Go.Proofs.YtggfhcidmnageaaDoor
open Go.RowKit
set_option linter.unusedVariables false
set_option linter.unusedSimpArgs false
/-- what is known of the rows' packets -/
def ARok (P Q : List (PkR × List UInt8)) (sq : Int) : Prop := Q.length = P.length ∧ (∀ (i : Nat) (x y : PkR × List UInt8), P[i]? = some x → Q[i]? = some y → Pl.alikeP (pbP x) (pbP y) = true) ∧ (∀ (i : Nat) (p : PkR × List UInt8), Q[i]? = some p → Pl.pkFault (pbP p).s (pbP p).t (pbP p).l (pbP p).lv (pbP p).body.length = 0) ∧
  (∀ (i : Nat) (p q : PkR × List UInt8), 0 < i → Q[i]? = some p → Q[i - 1]? = some q → (pbP p).s = ((pbP q).s + 1) % 65536) ∧ (∀ p, Q[Q.length - 1]? = some p → (pbP p).s = sq)
theorem ARok.nil (sq : Int) : ARok [] [] sq := ⟨rfl, fun i x y h => by simp at h, fun i p h => by simp at h, fun i p q _ h => by simp at h, fun p h => by simp at h⟩
theorem ARok.more {P Q : List (PkR × List UInt8)} {sq : Int} (h : ARok P Q sq) (x y : PkR × List UInt8) (ha : Pl.alikeP (pbP x) (pbP y) = true) (hf : Pl.pkFault (pbP y).s (pbP y).t (pbP y).l (pbP y).lv (pbP y).body.length = 0) (hs : (pbP y).s = Pl.outSeq P.length sq) : ARok (P ++ [x]) (Q ++ [y]) (Pl.outSeq P.length sq) := by
  obtain ⟨h1, h2, h3, h4, h5⟩ := h
  have at_ : ∀ {L : List (PkR × List UInt8)} {z : PkR × List UInt8} {i : Nat} {u}, (L ++ [z])[i]? = some u → (i < L.length ∧ L[i]? = some u) ∨ (i = L.length ∧ u = z) := fun {L z i u} e => by
    rcases Nat.lt_trichotomy i L.length with q | q | q
    · rw [List.getElem?_append_left q] at e; exact .inl ⟨q, e⟩
    · subst q; simp at e; exact .inr ⟨rfl, e.symm⟩
    · rw [List.getElem?_eq_none (by simp; omega)] at e; cases e
  refine ⟨by simp [h1], fun i a c e1 e2 => ?_, fun i p e => ?_, fun i p q hi e1 e2 => ?_, fun p e => ?_⟩
  · rcases at_ e1 with ⟨l1, e1⟩ | ⟨l1, rfl⟩ <;> rcases at_ e2 with ⟨l2, e2⟩ | ⟨l2, rfl⟩
    · exact h2 i a c e1 e2
    · omega
    · omega
    · exact ha
  · rcases at_ e with ⟨l1, e⟩ | ⟨l1, rfl⟩
    · exact h3 i p e
    · exact hf
  · rcases at_ e1 with ⟨l1, e1⟩ | ⟨l1, rfl⟩ <;> rcases at_ e2 with ⟨l2, e2⟩ | ⟨l2, rfl⟩
    · exact h4 i p q hi e1 e2
    · omega
    · rw [hs, h5 q (by rw [← l1]; exact e2)]
      unfold Pl.outSeq
      rw [if_pos (by omega)]
    · omega
  · rcases at_ e with ⟨l1, e⟩ | ⟨l1, rfl⟩
    · simp at l1
    · exact hs
def pkNil (s : Int) : Pk := ⟨s, 0, 0, 0, false, .slice none 0 0, []⟩
theorem rowTwo : Pl.RowR [pkNil 1, pkNil 3] 1 3 := by
  refine .inr ⟨by decide, .inr ⟨by decide, 1, by decide, rfl, ?_, ?_⟩⟩
  · exact Pl.rowF_gap (p := pkNil 3) (q := pkNil 1) (by decide) rfl (by decide) rfl (by decide)
  · intro j hj
    obtain rfl : j = 0 := by omega
    exact Pl.rowF_zero (p := pkNil 1) rfl (by decide)
theorem twoPks (w : World) : IsPks (w.alloc (.cells #[.int .i64 1, .int .i64 0, .int .i64 0, .int .i64 0, .bool false, .slice none 0 0, .int .i64 3, .int .i64 0, .int .i64 0, .int .i64 0, .bool false, .slice none 0 0] 29)) (.slice (some ⟨w.heap.size, 0, none⟩) 2 2) [pkNil 1, pkNil 3] := by
  have hb := obj_new w (.cells #[.int .i64 1, .int .i64 0, .int .i64 0, .int .i64 0, .bool false, .slice none 0 0, .int .i64 3, .int .i64 0, .int .i64 0, .int .i64 0, .bool false, .slice none 0 0] 29)
  refine ⟨.inr ⟨w.heap.size, 0, 2, rfl, by simp, by unfold maxLen; omega, fun i hi j u hu => ?_⟩, fun p hp => ?_⟩
  · rw [Nat.zero_add]
    refine obj_cell hb ?_
    have hi2 : i = 0 ∨ i = 1 := by simp at hi; omega
    rcases hi2 with rfl | rfl
    all_goals
      have hj : j < 6 := (List.getElem?_eq_some_iff.1 hu).1
      obtain rfl | rfl | rfl | rfl | rfl | rfl : j = 0 ∨ j = 1 ∨ j = 2 ∨ j = 3 ∨ j = 4 ∨ j = 5 := by omega
      all_goals (simp [pkNil, Pk.cells] at hu ⊢; exact hu)
  · simp at hp
    rcases hp with rfl | rfl <;> exact ⟨by simp [pkNil], by simp [pkNil], by simp [pkNil], by simp [pkNil], Sl.nil _⟩
set_option maxRecDepth 100000 in
set_option maxHeartbeats 8000000 in
theorem walk_AuditRows_run (seq time : Int) (v3 : Value) (L : List Pk) (w : World) (h3 : IsPks w v3 L) (hE : Env w) :
    Calls Tryd.prog 5 #[.int .i64 seq, .int .i64 time, v3] w fun e w' => e = .returned (.bool true) ∧ Below w.heap.size w w' := by
  obtain ⟨o3, c3, rfl, l3, m3, n3, -⟩ := pks_open h3
  unfold maxLen at m3
  have H3 := Lib.hid (show IsPks w (.slice o3 L.length c3) L from h3)
  have ES := Lib.hid (fun (j : Int) y (k : Below w.heap.size w y) => error_same j y (hE.below k))
  have ARW := Lib.hid (fun y (k : IsPks y (.slice (some ⟨w.heap.size, 0, none⟩) 2 2) [pkNil 1, pkNil 3]) => (auditRow_any _ _ y k).mono (R' := fun r w' => r = .returned (.tuple #[.int .i64 1, errV 3]) ∧ Below y.heap.size y w') (fun r w' ⟨a', f', h1, h2, h3⟩ => by
    obtain ⟨rfl, rfl⟩ := h2.eq rowTwo
    exact ⟨h1, h3⟩))
  clear h3 n3 hE
  go_enter Tryd.func5, Tryd.ntmps5
  have K0 := Lib.hid ((Below.refl w.heap.size w).alloc (Nat.le_refl _) (.cells #[.int .i64 1, .int .i64 0, .int .i64 0, .int .i64 0, .bool false, .slice none 0 0, .int .i64 3, .int .i64 0, .int .i64 0, .int .i64 0, .bool false, .slice none 0 0] 29))
  go_upto_region 5 with (first
    | (go_at_call 10; (with_reducible refine (ARW.out _ (twoPks w)).mono ?_); rintro r z1 ⟨rfl, k⟩; have K1 := Lib.hid (K0.out.trans (k.mono K0.out.size)); clear k)
    | (go_at_call 7; (with_reducible refine (ES.out 3 _ K1.out).mono ?_); rintro r z2 ⟨rfl, k⟩; have K2 := Lib.hid (K1.out.trans (k.mono K1.out.size)); clear k))
  clear ARW K0 K1
  by_cases hgd : 0 ≤ seq ∧ seq ≤ 65535 ∧ 0 ≤ time ∧ time ≤ 4294967295
  case neg =>
    have NB := Lib.hid (outNew_bad seq time hgd z2)
    have HG := Lib.hid hgd
    clear hgd
    go_wp2_with (go_at_call 15; (with_reducible refine NB.out.mono ?_); rintro r z3 ⟨rfl, rfl⟩)
    all_goals first
      | (go_ret; exact ⟨by simp <;> (have := HG.out; omega), K2.out⟩)
      | (exfalso; have := HG.out; omega)
      | skip
  have NG := Lib.hid (outNew_ok seq time ((Pl.seq_iff _).2 (by omega)) ⟨hgd.2.2.1, hgd.2.2.2⟩ z2)
  go_upto_region 9 with (go_at_call 15; (with_reducible refine NG.out.mono ?_); rintro r z3 ⟨b, rfl, hb, ho, k⟩; have HO := Lib.hid ho; have K3 := Lib.hid (K2.out.trans (k.mono K2.out.size)); clear ho k)
  have AR0 := Lib.hid (show ARs w.heap.size w b (.slice none 0 0) (.slice none 0 0) [] [] z3 from ⟨RecK.Own.nil _ _, RecK.Own.nil _ _, fun k e => by simp [Value.ownBlock] at e, by simp [Value.ownBlock], by simp [Value.ownBlock], fun x hx => by simp at hx, fun x hx => by simp at hx, Nat.le_refl _, Nat.le_refl _, Nat.le_trans K2.out.size hb, K3.out⟩)
  have HWD := Lib.hid hgd
  clear NG ES K2 K3 hgd
  go_upto_block 0 with fail
  go_cut [12, 13, 14, 15, 16] from 60 to 92 (fun v12 v13 _ _ _ z => ∃ (P Q : List (PkR × List UInt8)) (sq : Int), Hid (ARs w.heap.size w b v12 v13 P Q z) ∧ Hid (ARok P Q sq) ∧ P.length ≤ 60)
  case first =>
   go_upto_region 10 with fail
   go_loopw [12, 13, 14] (fun s12 s13 s14 wr => ∃ (i : Nat) (P Q : List (PkR × List UInt8)) (sq tm lt ll : Int), i ≤ L.length ∧ i ≤ 60 ∧ s14 = .int .i64 i ∧ P.length ≤ i ∧ Hid (ARs w.heap.size w b s12 s13 P Q wr) ∧ Hid (ARok P Q sq) ∧ Hid (OutAt wr b sq tm P.length lt ll) ∧ Hid (Pl.seq sq = true ∧ Pl.word tm ∧ Pl.word lt)) (fun _ _ s14 _ => L.length - (intOf s14).toNat)
   case atStart => exact ⟨0, [], [], seq, time, 0, 0, by omega, by omega, rfl, by simp, AR0, Lib.hid (ARok.nil _), HO, Lib.hid ⟨(Pl.seq_iff _).2 (by have := HWD.out; omega), ⟨HWD.out.2.2.1, HWD.out.2.2.2⟩, by decide⟩⟩
   case round =>
    clear AR0 HO
    obtain ⟨i, P, Q, sq, tm, lt, ll, hi, hi6, rfl, hP, AR, OKs, OA, WD⟩ := hrel
    by_cases hgo : i < L.length ∧ i < 60
    · obtain ⟨hlt, hl6⟩ := hgo
      obtain ⟨_, _, e, -, -, -, rd⟩ := pks_open (IsPks.below H3.out AR.out.kb)
      cases e
      obtain ⟨b1, f1, rfl, hb1, q0, q1, q2, q3, q4, q5, gd⟩ := rd i hlt
      have GW := Lib.hid (H3.out.2 L[i] (List.getElem_mem hlt))
      have GD := Lib.hid gd
      have LX := Lib.hid (show ∀ y, Below w.heap.size w y → y.cell? ⟨b1, f1 + i * 6, none⟩ = some (.int .i64 L[i].s) ∧ y.cell? ⟨b1, f1 + i * 6 + 1, none⟩ = some (.int .i64 L[i].t) ∧ y.cell? ⟨b1, f1 + i * 6 + 2, none⟩ = some (.int .i64 L[i].l) ∧ y.cell? ⟨b1, f1 + i * 6 + 3, none⟩ = some (.int .i64 L[i].lv) ∧ y.cell? ⟨b1, f1 + i * 6 + 4, none⟩ = some (.bool L[i].st) ∧ y.cell? ⟨b1, f1 + i * 6 + 5, none⟩ = some L[i].bv from fun y k => by
        obtain ⟨_, _, e, -, -, -, rd⟩ := pks_open (IsPks.below H3.out k)
        cases e
        obtain ⟨b9, f9, e9, -, r0, r1, r2, r3, r4, r5, -⟩ := rd i hlt
        cases e9
        exact ⟨r0, r1, r2, r3, r4, r5⟩)
      clear rd gd
      generalize L[i] = g at *
      obtain ⟨x0, x1, x2, x3, x4, x5, x6⟩ := g
      dsimp only at q0 q1 q2 q3 q4 q5 LX
      obtain ⟨ob, cb, e5, hxm⟩ := bytes_slice GD.out.2.2.2.2
      dsimp only at e5
      subst e5
      have i5 : (0 : Int) ≤ (i : Int) := by omega
      have i6 : (i : Int) < (L.length : Int) := by omega
      by_cases hp : Pl.pkOk x0 x1 x2 x3 x6.length
      case neg =>
        have NB := Lib.hid (outNext_bad b x0 x1 x2 x3 x4 _ x6 hp wr GD.out.2.2.2.2)
        clear hp
        go_upto_region 13 with (go_at_call 16; (with_reducible refine NB.out.mono ?_); rintro r z ⟨rfl, k⟩; have KK := Lib.hid k; clear k)
        refine abs_t (fun y => Hid (Below wr.heap.size wr y)) (Lib.hid (KK.out.alloc KK.out.size _)) ?_
        clear q0 q1 q2 q3 q4 q5 KK NB GD GW
        rintro y KY
        have ARy := Lib.hid (AR.out.keep (Below.toKeeps KY.out (Nat.le_refl _)))
        have OAy := Lib.hid (show OutAt y b sq tm P.length lt ll from Below.heapAt KY.out OA.out (lt_of_block OA.out))
        go_wp2_with fail
        go_roundw
        case measure => simp [intOf]; omega
        case rel => exact ⟨i + 1, P, Q, sq, tm, lt, ll, by omega, by omega, by go_num, by omega, ARy, OKs, OAy, WD⟩
      have HX := Lib.hid (Pl.outSeq_bd P.length sq WD.out.1)
      have HY := Lib.hid (Pl.outTime_bd P.length tm lt ll x1 x2 WD.out.2.1)
      have HPK := Lib.hid hp
      have NK := Lib.hid (outNext_ok b sq tm P.length lt ll x0 x1 x2 x3 x4 (.slice ob x6.length cb) x6 hp WD.out.1 WD.out.2.1 (by omega) (by omega) WD.out.2.2 wr OA.out (fun W hW => GW.out.2.2.2.2.below (AR.out.keep hW).kb))
      have hbw := lt_of_block OA.out
      obtain ⟨ns, hns⟩ : ∃ ns, Pl.outSeq P.length sq = ns := ⟨_, rfl⟩
      obtain ⟨nt, hnt⟩ : ∃ nt, Pl.outTime P.length tm lt ll x1 x2 = nt := ⟨_, rfl⟩
      rw [hns, hnt] at NK
      rw [hns] at HX
      rw [hnt] at HY
      have HNS := Lib.hid hns
      clear hp hns hnt GD
      go_upto_region 13 with (go_at_call 16; (with_reducible refine NK.out.mono ?_); rintro r z ⟨v', rfl, hv', oz, kz⟩; obtain ⟨on, cn, rfl, hnm⟩ := bytes_slice (hv' z (Keeps.refl _ _)); have HV := Lib.hid (bytes_fix hv'); have OZ := Lib.hid oz; have KZ := Lib.hid kz; clear hv' oz kz hnm)
      clear q0 q1 q2 q3 q4 q5 NK
      have kzy : ∀ c, Below z.heap.size z (z.alloc c) := fun c => (Below.refl _ _).alloc (Nat.le_refl _) c
      refine abs_t (fun y => Hid (PkIn y z.heap.size ns nt x2 x3 x4 (.slice on x6.length cn)) ∧ Hid (KeepsBut b wr y) ∧ Hid (OutAt y b ns nt (P.length + 1) x1 x2) ∧ Hid (IsBytes y (.slice on x6.length cn) x6 ∧ ∀ a, on = some a → x6 ≠ [] → wr.heap.size ≤ a.block ∧ a.block < y.heap.size)) ⟨Lib.hid (obj_new _ _), Lib.hid (Keeps.trans KZ.out (Below.toKeeps (kzy _) (Nat.le_refl _))), Lib.hid (Below.heapAt (kzy _) OZ.out (lt_of_block OZ.out)), Lib.hid ⟨HV.out.1.below (kzy _), fun a ha hl => ⟨(HV.out.2 a ha hl).1, by have := (HV.out.2 a ha hl).2; simp; omega⟩⟩⟩ ?_
      obtain ⟨B, hB⟩ : ∃ B, z.heap.size = B := ⟨_, rfl⟩
      rw [hB]
      clear HV OZ KZ kzy hB
      rintro y ⟨PB, KB, OB, BB⟩
      have ARy := Lib.hid (AR.out.keep KB.out)
      obtain ⟨p0, p1, p2, p3, p4, p5⟩ := PkIn.cells PB.out
      have n1 : -9223372036854775808 ≤ ns ∧ ns ≤ 9223372036854775807 := by have := (Pl.seq_iff _).1 HX.out; omega
      have n2 : -9223372036854775808 ≤ nt ∧ nt ≤ 9223372036854775807 := by have := HY.out; unfold Pl.word at this; omega
      obtain ⟨v13, w13, hr, har, hsz, hk⟩ := ARs.moreG ARy.out (lt_of_block OB.out) (by have := OKs.out.1; omega) (⟨ns, nt, x2, x3, x4, on, x6.length, cn⟩, x6) ⟨⟨n1, n2, GW.out.2.2.1, GW.out.2.2.2.1⟩, BB.out.1, fun a ha hl => by
        obtain ⟨h1, h2⟩ := BB.out.2 a ha hl
        exact ⟨h2, by omega, fun q => by have := (AR.out.rS.lt _ q).2; omega, fun q => by have := (AR.out.rG.lt _ q).2; omega⟩⟩
      have HR := Lib.hid hr
      have ARn := Lib.hid har
      have OBn := Lib.hid (show OutAt w13 b ns nt (P.length + 1) x1 x2 from hk _ _ OB.out ARy.out.bG)
      clear hr har hsz hk
      go_upto_region 15 with (at_builtin; refine Lib.wpList_append_run _ rfl (.tmp 81) (.tmp 83) 30 30 rfl _ _ rfl rfl _ _ HR.out ?_)
      clear p0 p1 p2 p3 p4 p5 HR PB KB OB BB ARy
      clear n1 n2
      obtain ⟨l0, l1, l2, l3, l4, l5⟩ := LX.out _ ARn.out.kb
      obtain ⟨v12, w14, hr, har, hsz, hk⟩ := ARs.moreS ARn.out (lt_of_block OBn.out) (by omega) (⟨x0, x1, x2, x3, x4, ob, x6.length, cb⟩, x6) GW.out
      have HR2 := Lib.hid hr
      have ARm := Lib.hid har
      have hps : ∀ z : PkR × List UInt8, ((P ++ [z]).length : Int) = (P.length : Int) + 1 := fun z => by simp
      have OBm := Lib.hid (show OutAt w14 b ns nt ((P ++ [((⟨x0, x1, x2, x3, x4, ob, x6.length, cb⟩ : PkR), x6)]).length : Int) x1 x2 from by rw [hps]; exact hk _ _ OBn.out ARn.out.bS)
      have OKm := Lib.hid (show ARok (P ++ [((⟨x0, x1, x2, x3, x4, ob, x6.length, cb⟩ : PkR), x6)]) (Q ++ [((⟨ns, nt, x2, x3, x4, on, x6.length, cn⟩ : PkR), x6)]) ns from by
        have a := ARok.more OKs.out (⟨x0, x1, x2, x3, x4, ob, x6.length, cb⟩, x6) (⟨ns, nt, x2, x3, x4, on, x6.length, cn⟩, x6) (by simp [Pl.alikeP, pbP]) (Pl.pkFault_zero.2 (by
          have h1 := HPK.out
          have h2 := (Pl.seq_iff _).1 HX.out
          have h3 := HY.out
          unfold Pl.word at h3
          unfold Pl.pkOk at h1 ⊢
          simp only [pbP]
          omega)) HNS.out.symm
        rw [HNS.out] at a; exact a)
      have WDm := Lib.hid (show Pl.seq ns = true ∧ Pl.word nt ∧ Pl.word x1 from ⟨HX.out, HY.out, by have h1 := HPK.out; unfold Pl.pkOk at h1; unfold Pl.word; omega⟩)
      have hle : (P ++ [((⟨x0, x1, x2, x3, x4, ob, x6.length, cb⟩ : PkR), x6)]).length ≤ i + 1 := by simp; omega
      have HLE := Lib.hid hle
      clear hr har hsz hk hps hle LX
      go_wp2_with (at_builtin; refine Lib.wpList_append_run _ rfl (.tmp 85) (.tmp 90) 30 30 rfl _ _ rfl rfl _ _ HR2.out ?_)
      go_roundw
      case measure => simp [intOf]; omega
      case rel => exact ⟨i + 1, _, _, ns, nt, x1, x2, by omega, by omega, by go_num, HLE.out, ARm, OKm, OBm, WDm⟩
    · have hcase : ¬ i < L.length ∨ (i < L.length ∧ ¬ i < 60) := by omega
      clear hgo OA WD
      rcases hcase with q | ⟨q, q2⟩
      all_goals
        go_wp2_with fail
        go_meet
        exact ⟨P, Q, sq, AR, OKs, by omega⟩
  case rest =>
  clear AR0 HO
  obtain ⟨P, Q, sq, AR, OKs, hP6⟩ := hcut
  have hlen : Q.length = P.length := OKs.out.1
  have HRR := Lib.hid (Pl.RowR.row (G := Q.map pbP) (by simp; omega) (fun i p h => by
    rw [List.getElem?_map] at h
    obtain ⟨x, hx, rfl⟩ := Option.map_eq_some_iff.1 h
    exact OKs.out.2.2.1 i x hx) (fun i p q hi h h' => by
    rw [List.getElem?_map] at h h'
    obtain ⟨x, hx, rfl⟩ := Option.map_eq_some_iff.1 h
    obtain ⟨y, hy, rfl⟩ := Option.map_eq_some_iff.1 h'
    exact OKs.out.2.2.2.1 i x y hi hx hy))
  have HPR := Lib.hid (Pl.PlacesR.same (S := P.map pbP) (G := Q.map pbP) (by simp [hlen]) (by simp; omega) (fun i p q h h' => by
    rw [List.getElem?_map] at h h'
    obtain ⟨x, hx, rfl⟩ := Option.map_eq_some_iff.1 h
    obtain ⟨y, hy, rfl⟩ := Option.map_eq_some_iff.1 h'
    exact OKs.out.2.1 i x y hx hy))
  have RWQ := Lib.hid (fun y v (k : IsPks y v (Q.map pbP)) => (auditRow_any v _ y k).mono (R' := fun r w' => r = .returned (.tuple #[.int .i64 0, .nilIface]) ∧ Below y.heap.size y w') (fun r w' ⟨a', f', h1, h2, h3⟩ => by
    obtain ⟨rfl, rfl⟩ := h2.eq HRR.out
    exact ⟨h1, h3⟩))
  have CWQ := Lib.hid (fun y v u (k : IsPks y v (P.map pbP)) (k' : IsPks y u (Q.map pbP)) => (auditCheck_any v u _ _ y k k').mono (R' := fun r w' => r = .returned (.tuple #[.int .i64 0, .nilIface]) ∧ Below y.heap.size y w') (fun r w' ⟨c', a', f', h1, h2, h3⟩ => by
    obtain ⟨rfl, rfl, rfl⟩ := h2.eq HPR.out
    exact ⟨h1, h3⟩))
  have HWQ := Lib.hid (fun y v u (k : IsPks y v (P.map pbP)) (k' : IsPks y u (Q.map pbP)) => (auditHoles_any v u _ _ y k k').mono (R' := fun r w' => ∃ v', r = .returned (.tuple #[v', .nilIface]) ∧ IRow w' y.heap.size v' (Pl.hol (List.range (Q.map pbP).length) (List.range (Q.map pbP).length).length) ∧ Below y.heap.size y w') (fun r w' ⟨v', c', a', f', h1, h2, h3, h4⟩ => by
    obtain ⟨rfl, rfl, rfl⟩ := h2.eq HPR.out
    exact ⟨v', h1, h3, h4⟩))
  go_upto_region 19 with (first
    | (go_at_call 10; (with_reducible refine (RWQ.out _ _ AR.out.got).mono ?_); rintro r y1 ⟨rfl, k⟩; have AR1 := Lib.hid (AR.out.keep (Below.toKeeps k (Nat.le_refl _))); clear k)
    | (go_at_call 6; (with_reducible refine (CWQ.out _ _ _ AR1.out.sent AR1.out.got).mono ?_); rintro r y2 ⟨rfl, k⟩; have AR2 := Lib.hid (AR1.out.keep (Below.toKeeps k (Nat.le_refl _))); clear k)
    | (go_at_call 8; (with_reducible refine (HWQ.out _ _ _ AR2.out.sent AR2.out.got).mono ?_); rintro r y3 ⟨v20, rfl, ro, k⟩; have RO := Lib.hid ro; have AR3 := Lib.hid (AR2.out.keep (Below.toKeeps k (Nat.le_refl _))); clear k ro))
  have ZZ : ∀ x ∈ Pl.hol (List.range (Q.map pbP).length) (List.range (Q.map pbP).length).length, x = 0 := fun x hx => Pl.hol_range _ _ x hx (by simp)
  generalize Pl.hol (List.range (Q.map pbP).length) (List.range (Q.map pbP).length).length = H at *
  obtain ⟨oa, cap, rfl, rd⟩ := intRow_read RO.out
  have RD := Lib.hid rd
  have Z := Lib.hid ZZ
  have hHm : H.length ≤ maxLen := RO.out.sl.len
  unfold maxLen at hHm
  clear rd ZZ RO RWQ CWQ HWQ HRR HPR AR AR1 AR2
  go_upto_region 20 with fail
  go_loopw [22] (fun s22 wr => ∃ i : Nat, i ≤ H.length ∧ s22 = .int .i64 i ∧ y3 = wr) (fun s22 _ => H.length - (intOf s22).toNat)
  case atStart => exact ⟨0, by omega, rfl, rfl⟩
  case round =>
    obtain ⟨i, hi, rfl, rfl⟩ := hrel
    by_cases hlt : i < H.length
    · obtain ⟨g, rfl, -, -, q⟩ := RD.out i H[i] (List.getElem?_eq_getElem hlt)
      rw [Z.out H[i] (List.getElem_mem hlt)] at q
      go_wp2_with fail
      go_roundw
      case measure => simp [intOf]; omega
      case rel => exact ⟨i + 1, by omega, by go_num, by first | rfl | trivial⟩
    · go_wp2_with fail
      go_ret
      exact ⟨by simp, AR3.out.kb⟩
theorem walk_AuditRows (w : World) (seq : Int) (hs : (Lit.int .i64 seq).wf = true) (time : Int) (ht : (Lit.int .i64 time).wf = true) (v3 : Value) (L : List Pk) (o3 : IsPks w v3 L) (hE : Env w) :
    Calls Tryd.prog 5 #[.int .i64 seq, .int .i64 time, v3] w fun e w' => e = .returned (.bool true) ∧ Below w.heap.size w w' :=
  walk_AuditRows_run seq time v3 L w o3 hE
end Go.Proofs.YtggfhcidmnageaaDoor
