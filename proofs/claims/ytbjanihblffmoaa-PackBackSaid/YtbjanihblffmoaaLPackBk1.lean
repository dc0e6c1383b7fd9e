import Derived.Test.YtbjanihblffmoaaSplitC
import Derived.Test.YtbjanihblffmoaaPPack
import Derived.Test.YtbjanihblffmoaaSame
import Derived.Deep.QuietTactic
import Derived.BigQuiet
import Derived.Deep.DeepCutAuto
import Derived.Deep.CutBlock
import Derived.Deep.RegionHeld3
/-! The walk of the law PackBack. -/
namespace Go.Proofs.Ytbjanihblffmoaa
open Go.RowKit
set_option linter.unusedVariables false
set_option linter.unusedSimpArgs false
/-- a packet's box, whatever becomes of what is beyond it -/
structure PB (w : World) (X : Nat) (s t l lv : Int) (st : Bool) (bv : Value) (z : World) : Prop where
  kb : Below w.heap.size w z
  px : PkIn z X s t l lv st bv
theorem PB.below {w z z' : World} {X : Nat} {s t l lv : Int} {st : Bool} {bv : Value} (h : PB w X s t l lv st bv z) (k : Below z.heap.size z z') : PB w X s t l lv st bv z' :=
  ⟨h.kb.trans (k.mono h.kb.size), Below.heapAt k h.px (lt_of_block h.px)⟩
theorem PB.cells {w z : World} {X : Nat} {s t l lv : Int} {st : Bool} {bv : Value} (h : PB w X s t l lv st bv z) : z.cell? ⟨X, 0, none⟩ = some (.int .i64 s) ∧ z.cell? ⟨X, 1, none⟩ = some (.int .i64 t) ∧ z.cell? ⟨X, 2, none⟩ = some (.int .i64 l) ∧ z.cell? ⟨X, 3, none⟩ = some (.int .i64 lv) ∧ z.cell? ⟨X, 4, none⟩ = some (.bool st) ∧ z.cell? ⟨X, 5, none⟩ = some bv :=
  ⟨obj_cell h.px rfl, obj_cell h.px rfl, obj_cell h.px rfl, obj_cell h.px rfl, obj_cell h.px rfl, obj_cell h.px rfl⟩
/-- what Read has left -/
def ReadE (w : World) (X : Nat) (s t l lv : Int) (st : Bool) (bv : Value) (lb : List UInt8) (v : Value) (N : Nat) (z : World) : Prop :=
  PB w X s t l lv st bv z ∧ ((Pl.readFault lb = 0 ∧ v = .nilIface ∧ ∃ (oa : Option Addr) (n c : Nat), PkIn z N (Pl.getB ((lb.drop 2).take 2)) (Pl.getB ((lb.drop 4).take 4)) (Pl.rdLayer (Pl.bAt lb 0)) ((Pl.bAt lb 1).toNat : Int) (Pl.rdStart (Pl.bAt lb 0)) (.slice oa n c) ∧ IsBytes z (.slice oa n c) (lb.drop 8)) ∨
    (Pl.readFault lb ≠ 0 ∧ ∃ f : Int, v = .iface 38 (.int .i64 f)))
set_option maxRecDepth 100000 in
set_option maxHeartbeats 8000000 in
theorem walk_PackBack_bad (w : World) (s t l lv : Int) (st : Bool) (oa : Option Addr) (bc : Nat) (bs : List UInt8) (hv : IsBytes w (.slice oa bs.length bc) bs) (ob : Option Addr) (cb : Nat) (lb : List UInt8) (hb : IsBytes w (.slice ob lb.length cb) lb) (k : Int) (hp : ¬ Pl.pkOk s t l lv bs.length) :
    Calls Try.prog 3 #[pkV s t l lv st (.slice oa bs.length bc), .slice ob lb.length cb, .int .i64 k] w fun e w' => e = .returned (.bool true) ∧ Below w.heap.size w w' := by
  have HV := Lib.hid hv
  have HB := Lib.hid hb
  have HP := Lib.hid hp
  clear hv hb hp
  have E0 := Lib.hid (fun z => pencode_ok 258 0 2 0 true (.slice none 0 0) [] z (.inl ⟨rfl, none, 0, rfl, by simp, fun _ => rfl⟩) (by decide))
  go_enter Try.func3, Try.ntmps3
  go_upto_region 1 with fail
  refine abs_to (fun y => Hid (PB w w.heap.size s t l lv st (.slice oa bs.length bc) y)) (Lib.hid ⟨(Below.refl _ _).alloc (Nat.le_refl _) _, obj_new _ _⟩) ?_
  obtain ⟨X, hX⟩ : ∃ X, w.heap.size = X := ⟨_, rfl⟩
  have HX := Lib.hid hX
  rw [hX]
  clear hX
  rintro y0 PB0
  go_upto_region 2 with (go_at_call 4; (with_reducible refine (E0.out _).mono ?_); rintro e y1 ⟨oe, ce, rfl, hob, k1⟩; have HOB := Lib.hid hob.reads; have PB1 := Lib.hid (PB0.out.below k1); clear hob k1)
  obtain ⟨ge, fe, c0, c3, rfl⟩ : ∃ ge fe, y1.cell? ⟨ge, fe, none⟩ = some (.int .u8 162) ∧ y1.cell? ⟨ge, fe + 3, none⟩ = some (.int .u8 2) ∧ oe = some ⟨ge, fe, none⟩ := by
    obtain ⟨b', off, cap, e, q1, q2, q3⟩ := bytes_long HOB.out (by decide)
    cases e
    exact ⟨b', off, q3 0 (by decide), q3 3 (by decide), rfl⟩
  clear HOB PB0 E0
  go_upto_region 4 with fail
  clear c0 c3
  obtain ⟨q0, q1, q2, q3, q4, q5⟩ := PB1.out.cells
  have EN := Lib.hid (fun z (kk : Below w.heap.size w z) => pencode_bad s t l lv st (.slice oa bs.length bc) bs z (HV.out.below kk) HP.out)
  go_upto_region 10 with (go_at_call 4; (with_reducible refine (EN.out _ PB1.out.kb).mono ?_); rintro e y2 ⟨rfl, k2⟩; have PBY := Lib.hid (PB1.out.below k2); clear k2)
  clear EN q0 q1 q2 q3 q4 q5 PB1
  have hlm : lb.length ≤ maxLen := HB.out.len
  refine (?_ : Code.wp _ _ _ _ _)
  go_cut [10, 14] from 65 to 69 (fun v u z => ∃ N, u = .pointer (some ⟨N, 0, none⟩) ∧ Hid (ReadE w X s t l lv st (.slice oa bs.length bc) lb v N z))
  case first =>
    by_cases hr : Pl.readFault lb = 0
    · obtain ⟨h8, h1008, hhb⟩ := Pl.read_ok hr
      have RG := Lib.hid (fun z (kk : Below w.heap.size w z) => read_good (.slice ob lb.length cb) lb z (HB.out.below kk) h8 h1008 hhb)
      have HR := Lib.hid hr
      clear h8 h1008 hhb hr
      go_wp2_with (go_at_call 5; (with_reducible refine (RG.out _ PBY.out.kb).mono ?_); rintro e z1 ⟨oq, nq, cq, rfl, hq, k1⟩; have HQ := Lib.hid hq.reads; have PB2 := Lib.hid (PBY.out.below k1); clear hq k1)
      go_meet
      refine ⟨_, rfl, Lib.hid ⟨PB2.out.below ((Below.refl _ _).alloc (Nat.le_refl _) _), .inl ⟨HR.out, rfl, oq, nq, cq, obj_new _ _, HQ.out.below ((Below.refl _ _).alloc (Nat.le_refl _) _)⟩⟩⟩
    · have RB := Lib.hid (fun z (kk : Below w.heap.size w z) => read_bad (.slice ob lb.length cb) lb z (HB.out.below kk) hr)
      have HN := Lib.hid hr
      clear hr
      go_wp2_with (go_at_call 5; (with_reducible refine (RB.out _ PBY.out.kb).mono ?_); rintro e z1 ⟨rfl, k1⟩; have PB2 := Lib.hid (PBY.out.below k1); clear k1)
      go_meet
      refine ⟨_, rfl, Lib.hid ⟨PB2.out.below ((Below.refl _ _).alloc (Nat.le_refl _) _), .inr ⟨HN.out, _, rfl⟩⟩⟩
  case rest =>
  obtain ⟨N, rfl, RE⟩ := hcut
  clear PBY
  go_upto_region 11 with fail
  go_cut [71] from 70 to 71 (fun v z => v = .bool (decide (Pl.readFault lb = 0)) ∧ Hid (ReadE w X s t l lv st (.slice oa bs.length bc) lb u10 N z))
  case first =>
    obtain ⟨PB3, hre⟩ := RE.out
    rcases hre with ⟨hr, rfl, hx⟩ | ⟨hn, f, rfl⟩
    · go_wp2_with fail
      go_meet
      exact ⟨by simp [hr], RE⟩
    · go_wp2_with fail
      go_meet
      exact ⟨by simp [hn], RE⟩
  case rest =>
  obtain ⟨rfl, RE⟩ := hcut
  go_upto_if 71 with fail
  go_cut [15, 16] from 70 to 85 (fun _ _ z => Hid (PB w X s t l lv st (.slice oa bs.length bc) z))
  case first =>
    obtain ⟨PB3, hre⟩ := RE.out
    have PB3 := Lib.hid PB3
    clear RE
    rcases hre with ⟨hr, rfl, oq, nq, cq, hpx, hq⟩ | ⟨hn, f, rfl⟩
    · have hd : decide (Pl.readFault lb = 0) = true := by simp [hr]
      rw [hd]
      clear hd
      obtain ⟨e1, e2⟩ := Pl.read_pk lb hr
      obtain ⟨r0, r1, r2, r3, r4, r5⟩ : wc.cell? ⟨N, 0, none⟩ = some (.int .i64 (Pl.getB ((lb.drop 2).take 2))) ∧ wc.cell? ⟨N, 1, none⟩ = some (.int .i64 (Pl.getB ((lb.drop 4).take 4))) ∧ wc.cell? ⟨N, 2, none⟩ = some (.int .i64 (Pl.rdLayer (Pl.bAt lb 0))) ∧ wc.cell? ⟨N, 3, none⟩ = some (.int .i64 ((Pl.bAt lb 1).toNat : Int)) ∧ wc.cell? ⟨N, 4, none⟩ = some (.bool (Pl.rdStart (Pl.bAt lb 0))) ∧ wc.cell? ⟨N, 5, none⟩ = some (.slice oq nq cq) :=
        ⟨obj_cell hpx rfl, obj_cell hpx rfl, obj_cell hpx rfl, obj_cell hpx rfl, obj_cell hpx rfl, obj_cell hpx rfl⟩
      have EN := Lib.hid (pencode_ok _ _ _ _ (Pl.rdStart (Pl.bAt lb 0)) (.slice oq nq cq) (lb.drop 8) wc hq e2)
      have HE1 := Lib.hid e1
      have hl8 : 8 + (lb.drop 8).length = lb.length := by have := Pl.pkBytes_length (Pl.getB ((lb.drop 2).take 2)) (Pl.getB ((lb.drop 4).take 4)) (Pl.rdLayer (Pl.bAt lb 0)) ((Pl.bAt lb 1).toNat : Int) (Pl.rdStart (Pl.bAt lb 0)) (lb.drop 8); rw [e1] at this; omega
      rw [e1, hl8] at EN
      clear hr e1 e2 hpx hq HE1 hl8
      generalize Pl.getB ((lb.drop 2).take 2) = z2 at *
      generalize Pl.getB ((lb.drop 4).take 4) = z4 at *
      generalize Pl.rdLayer (Pl.bAt lb 0) = zl at *
      generalize ((Pl.bAt lb 1).toNat : Int) = zv at *
      generalize Pl.rdStart (Pl.bAt lb 0) = zs at *
      go_upto_region 13 with (go_at_call 4; (with_reducible refine EN.out.mono ?_); rintro e z5 ⟨o5, c5, rfl, hob, k5⟩; have CB1 := conv_bytes hob.reads; have PB5 := Lib.hid (PB3.out.below k5); have CB2 := conv_bytes (HB.out.below PB5.out.kb); clear hob k5)
      clear r0 r1 r2 r3 r4 r5 EN
      generalize strB lb = sb at *
      go_wp2_with fail
      go_meet
      exact PB5
    · have hd : decide (Pl.readFault lb = 0) = false := by simp [hn]
      rw [hd]
      clear hd hn
      go_wp2_with fail
      go_meet
      exact PB3
  case rest =>
  have PB4 := hcut
  clear hcut RE
  go_upto_region 15 with fail
  obtain ⟨q0, q1, q2, q3, q4, q5⟩ := PB4.out.cells
  by_cases hk : 1 ≤ k ∧ k ≤ 1000
  · have SP := Lib.hid (split_bad s t l lv st oa bs.length bc HV.out.len HP.out k hk wc)
    clear hk
    go_wp2_with (go_at_call 7; (with_reducible refine SP.out.mono ?_); rintro e z2 ⟨rfl, k2⟩; have K2 := Lib.hid (PB4.out.below k2).kb; clear k2)
    go_ret
    exact ⟨rfl, K2.out⟩
  · have SP := Lib.hid (split_size s t l lv st oa bs.length bc k hk wc)
    clear hk
    go_wp2_with (go_at_call 7; (with_reducible refine SP.out.mono ?_); rintro e z2 ⟨rfl, k2⟩; have K2 := Lib.hid (PB4.out.below k2).kb; clear k2)
    go_ret
    exact ⟨rfl, K2.out⟩
end Go.Proofs.Ytbjanihblffmoaa
