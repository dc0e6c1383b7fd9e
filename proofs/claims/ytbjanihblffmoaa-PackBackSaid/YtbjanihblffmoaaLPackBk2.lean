import Derived.Test.YtbjanihblffmoaaLPackBk1
/-! The walk of the law PackBack: a packet that packs. -/
namespace Go.Proofs.Ytbjanihblffmoaa
open Go.RowKit
set_option linter.unusedVariables false
set_option linter.unusedSimpArgs false
/-- what was packed is read again -/
theorem readback (s t l lv : Int) (st : Bool) (bs : List UInt8) (v : Value) (z : World) (hv : IsBytes z v (Pl.pkBytes s t l lv st bs)) (hp : Pl.pkOk s t l lv bs.length) : Calls Try.prog 5 #[v] z fun e w' => ∃ oq nq cq, e = .returned (.tuple #[pkV s t l lv st (.slice oq nq cq), .nilIface]) ∧ IsBytes w' (.slice oq nq cq) bs ∧ Below z.heap.size z w' := by
  obtain ⟨h0, e1, e2, e3, e4, e5, e6⟩ := Pl.pk_read s t l lv st bs hp
  obtain ⟨h8, h1008, hhb⟩ := Pl.read_ok h0
  refine (read_good v _ z hv h8 h1008 hhb).mono ?_
  rintro e w' ⟨oq, nq, cq, rfl, hq, k⟩
  rw [e1, e2, e3, e4, e5]
  rw [e6] at hq
  exact ⟨oq, nq, cq, rfl, hq.reads, k⟩
theorem same_self (s t l lv : Int) (st : Bool) (v v' : Value) (b : List UInt8) (w : World) (h : IsBytes w v b) (h' : IsBytes w v' b) :
    Calls Try.prog 6 #[pkV s t l lv st v, pkV s t l lv st v'] w fun e w' => e = .returned (.bool true) ∧ Below w.heap.size w w' :=
  (samePk_any s t l lv s t l lv st st v v' b b w h h').mono fun e w' h => by
    have e1 : Pl.samePk s t l lv st b s t l lv st b = true := by simp [Pl.samePk]
    rw [e1] at h
    exact h
/-- what is owned is owned whatever is drawn -/
theorem ownB_drewN {w : World} {base : Nat} {v : Value} {l : List UInt8} (h : OwnB w base v l) (n : Nat) : OwnB (w.drewN n) base v l := by
  obtain ⟨h1, h2⟩ := h
  refine ⟨h1, ?_⟩
  rcases h2 with h2 | ⟨g, cap, cur, rfl, hb, hg, hc, hm, hs, ht⟩
  · exact .inl h2
  · exact .inr ⟨g, cap, cur, rfl, hb, hg, hc, hm, hs, ht⟩
/-- the packets that Split has left, wherever what it has left lies on -/
theorem parts_at {n0 : Nat} {v : Value} {P : List PkR} {w' : World} (k : Nat) (s t l lv : Int) (st : Bool) (bs : List UInt8) (hown : pktK.Own w' n0 v P)
    (hall : ∀ (i : Nat) (p : PkR), P[i]? = some p → p.s = (s + i) % 65536 ∧ p.t = t ∧ p.l = l ∧ p.lv = lv ∧ p.st = (st && decide (i = 0)) ∧ Sl encB w' (.slice p.oa p.bn p.bc) (chunkAt k bs i)) :
    ∃ og cap, v = .slice og P.length cap ∧ ∀ (z : World), Below w'.heap.size w' z → ∀ i, i < P.length → ∃ g oa c, og = some ⟨g, 0, none⟩ ∧ z.cell? ⟨g, i * 6, none⟩ = some (.int .i64 ((s + i) % 65536)) ∧ z.cell? ⟨g, i * 6 + 1, none⟩ = some (.int .i64 t) ∧ z.cell? ⟨g, i * 6 + 4, none⟩ = some (.bool (st && decide (i = 0))) ∧ z.cell? ⟨g, i * 6 + 5, none⟩ = some (.slice oa (chunkAt k bs i).length c) ∧ IsBytes z (.slice oa (chunkAt k bs i).length c) (chunkAt k bs i) := by
  obtain ⟨og, cap, rfl, -⟩ := RecK.Own.read pktK_ok hown
  refine ⟨og, cap, rfl, fun z kz i hi => ?_⟩
  have ho := RecK.Own.below hown kz
  obtain ⟨og', cap', e, hr⟩ := RecK.Own.read pktK_ok ho
  cases e
  obtain ⟨p, hp⟩ : ∃ p, P[i]? = some p := ⟨_, List.getElem?_eq_getElem hi⟩
  obtain ⟨g, hg, -, -, hc⟩ := hr i p hp
  obtain ⟨e1, e2, e3, e4, e5, hb⟩ := hall i p hp
  have c0 : z.cell? ⟨g, i * 6, none⟩ = some (.int .i64 p.s) := hc 0 _ rfl
  have c1 : z.cell? ⟨g, i * 6 + 1, none⟩ = some (.int .i64 p.t) := hc 1 _ rfl
  have c4 : z.cell? ⟨g, i * 6 + 4, none⟩ = some (.bool p.st) := hc 4 _ rfl
  have c5 : z.cell? ⟨g, i * 6 + 5, none⟩ = some (.slice p.oa p.bn p.bc) := hc 5 _ rfl
  obtain ⟨oa1, cc1, e, _⟩ := bytes_slice hb
  rw [e] at hb c5
  rw [e1] at c0
  rw [e2] at c1
  rw [e5] at c4
  exact ⟨g, oa1, cc1, hg, c0, c1, c4, c5, hb.below kz⟩
theorem chunk_next (k : Nat) (bs : List UInt8) (i : Nat) : bs.take (i * k) ++ chunkAt k bs i = bs.take ((i + 1) * k) := by
  unfold chunkAt
  rw [Nat.add_mul, Nat.one_mul, ← List.take_add]
theorem chunk_full (k : Nat) (hk : 1 ≤ k) (bs : List UInt8) (n : Nat) (hn : n = max 1 (chunkN k bs.length)) : bs.take (n * k) = bs := by
  apply List.take_of_length_le
  have h := chunkN_lt (k := k) (len := bs.length) (r := n) hk
  have : ¬ n < chunkN k bs.length := by omega
  rw [h] at this
  omega
/-- the law's loop: what all holds, and what has not changed -/
structure LB (W1 : World) (B : Nat) (k : Nat) (bs : List UInt8) (i : Nat) (v : Value) (z : World) : Prop where
  own : OwnB z B v (bs.take (i * k))
  kb : Below B W1 z
theorem LB.drewN {W1 : World} {B k : Nat} {bs : List UInt8} {i : Nat} {v : Value} {z : World} (h : LB W1 B k bs i v z) (n : Nat) : LB W1 B k bs i v (z.drewN n) := ⟨ownB_drewN h.own n, Below.drewN h.kb n⟩
theorem LB.app {W1 : World} {k : Nat} {bs : List UInt8} {i : Nat} {v : Value} {z : World} (h : LB W1 W1.heap.size k bs i v z) (hl : bs.length ≤ 1000) (src : Value) (hs : IsBytes z src (chunkAt k bs i)) :
    ∃ v' z', (Builtin.append_ #[22, 22] 22 #[v, src]).run Try.prog z = .ok v' z' ∧ LB W1 W1.heap.size k bs (i + 1) v' z' := by
  obtain ⟨v', z', hr, ho, hg⟩ := run_append_bytes z h.own hs h.kb.size (by rw [chunkAt_len, List.length_take]; omega)
  rw [chunk_next] at ho
  exact ⟨v', z', hr, ho, h.kb.trans (below_row h.own hg (Nat.le_refl _) h.kb.size)⟩
set_option pp.deepTerms true
set_option pp.maxSteps 1000000
set_option maxRecDepth 100000 in
set_option maxHeartbeats 8000000 in
theorem walk_PackBack_ok (w : World) (s t l lv : Int) (st : Bool) (oa : Option Addr) (bc : Nat) (bs : List UInt8) (hv : IsBytes w (.slice oa bs.length bc) bs) (ob : Option Addr) (cb : Nat) (lb : List UInt8) (hb : IsBytes w (.slice ob lb.length cb) lb) (k : Int) (hp : Pl.pkOk s t l lv bs.length) :
    Calls Try.prog 3 #[pkV s t l lv st (.slice oa bs.length bc), .slice ob lb.length cb, .int .i64 k] w fun e w' => e = .returned (.bool true) ∧ Below w.heap.size w w' := by
  have HV := Lib.hid hv
  have HB := Lib.hid hb
  have HP := Lib.hid hp
  clear hv hb hp
  have E0 := Lib.hid (fun z => pencode_ok 258 0 2 0 true (.slice none 0 0) [] z (.inl ⟨rfl, none, 0, rfl, by simp, fun _ => rfl⟩) (by decide))
  go_enter Try.func3, Try.ntmps3
  go_upto_region 1 with fail
  refine abs_to (fun y => Hid (PB w w.heap.size s t l lv st (.slice oa bs.length bc) y)) (Lib.hid ⟨(Below.refl _ _).alloc (Nat.le_refl _) _, obj_new _ _⟩) ?_
  obtain ⟨X, hX⟩ : ∃ X, w.heap.size = X := ⟨_, rfl⟩
  have HX := Lib.hid hX
  rw [hX]
  clear hX
  rintro y0 PB0
  go_upto_region 2 with (go_at_call 4; (with_reducible refine (E0.out _).mono ?_); rintro e y1 ⟨oe, ce, rfl, hob, k1⟩; have HOB := Lib.hid hob.reads; have PB1 := Lib.hid (PB0.out.below k1); clear hob k1)
  obtain ⟨ge, fe, c0, c3, rfl⟩ : ∃ ge fe, y1.cell? ⟨ge, fe, none⟩ = some (.int .u8 162) ∧ y1.cell? ⟨ge, fe + 3, none⟩ = some (.int .u8 2) ∧ oe = some ⟨ge, fe, none⟩ := by
    obtain ⟨b', off, cap, e, q1, q2, q3⟩ := bytes_long HOB.out (by decide)
    cases e
    exact ⟨b', off, q3 0 (by decide), q3 3 (by decide), rfl⟩
  clear HOB PB0 E0
  go_upto_region 4 with fail
  clear c0 c3
  obtain ⟨q0, q1, q2, q3, q4, q5⟩ := PB1.out.cells
  have EN := Lib.hid (fun z (kk : Below w.heap.size w z) => pencode_ok s t l lv st (.slice oa bs.length bc) bs z (HV.out.below kk) HP.out)
  go_upto_region 6 with (go_at_call 4; (with_reducible refine (EN.out _ PB1.out.kb).mono ?_); rintro e y2 ⟨o2, c2, rfl, hob, k2⟩; have HO2 := Lib.hid hob.reads; have PB2 := Lib.hid (PB1.out.below k2); clear hob k2)
  have RD := Lib.hid (readback s t l lv st bs _ y2 HO2.out HP.out)
  clear EN q0 q1 q2 q3 q4 q5 PB1
  go_upto_region 7 with (go_at_call 5; (with_reducible refine RD.out.mono ?_); rintro e y3 ⟨oq, nq, cq, rfl, hq, k3⟩; have HQ := Lib.hid hq; have PB3 := Lib.hid (PB2.out.below k3); clear hq k3)
  refine abs_to (fun y => Hid (PB w X s t l lv st (.slice oa bs.length bc) y) ∧ Hid (PkIn y y3.heap.size s t l lv st (.slice oq nq cq)) ∧ Hid (IsBytes y (.slice oq nq cq) bs)) ⟨Lib.hid (PB3.out.below ((Below.refl _ _).alloc (Nat.le_refl _) _)), Lib.hid (obj_new _ _), Lib.hid (HQ.out.below ((Below.refl _ _).alloc (Nat.le_refl _) _))⟩ ?_
  obtain ⟨N0, hN0⟩ : ∃ N0, y3.heap.size = N0 := ⟨_, rfl⟩
  rw [hN0]
  clear hN0 HQ PB3 RD HO2 PB2
  rintro y4 ⟨PB4, PQ, HQ⟩
  obtain ⟨q0, q1, q2, q3, q4, q5⟩ := PB4.out.cells
  obtain ⟨r0, r1, r2, r3, r4, r5⟩ : y4.cell? ⟨N0, 0, none⟩ = some (.int .i64 s) ∧ y4.cell? ⟨N0, 1, none⟩ = some (.int .i64 t) ∧ y4.cell? ⟨N0, 2, none⟩ = some (.int .i64 l) ∧ y4.cell? ⟨N0, 3, none⟩ = some (.int .i64 lv) ∧ y4.cell? ⟨N0, 4, none⟩ = some (.bool st) ∧ y4.cell? ⟨N0, 5, none⟩ = some (.slice oq nq cq) :=
    ⟨obj_cell PQ.out rfl, obj_cell PQ.out rfl, obj_cell PQ.out rfl, obj_cell PQ.out rfl, obj_cell PQ.out rfl, obj_cell PQ.out rfl⟩
  have SM := Lib.hid (same_self s t l lv st (.slice oq nq cq) (.slice oa bs.length bc) bs y4 HQ.out (HV.out.below PB4.out.kb))
  go_upto_region 10 with (go_at_call 6; (with_reducible refine SM.out.mono ?_); rintro e y5 ⟨rfl, k5⟩; have PBY := Lib.hid (PB4.out.below k5); clear k5)
  clear SM q0 q1 q2 q3 q4 q5 r0 r1 r2 r3 r4 r5 PB4 PQ HQ
  have hlm : lb.length ≤ maxLen := HB.out.len
  refine (?_ : Code.wp _ _ _ _ _)
  go_cut [10, 14] from 65 to 69 (fun v u z => ∃ N, u = .pointer (some ⟨N, 0, none⟩) ∧ Hid (ReadE w X s t l lv st (.slice oa bs.length bc) lb v N z))
  case first =>
    by_cases hr : Pl.readFault lb = 0
    · obtain ⟨h8, h1008, hhb⟩ := Pl.read_ok hr
      have RG := Lib.hid (fun z (kk : Below w.heap.size w z) => read_good (.slice ob lb.length cb) lb z (HB.out.below kk) h8 h1008 hhb)
      have HR := Lib.hid hr
      clear h8 h1008 hhb hr
      go_wp2_with (go_at_call 5; (with_reducible refine (RG.out _ PBY.out.kb).mono ?_); rintro e z1 ⟨oq, nq, cq, rfl, hq, k1⟩; have HQ := Lib.hid hq.reads; have PB2 := Lib.hid (PBY.out.below k1); clear hq k1)
      go_meet
      refine ⟨_, rfl, Lib.hid ⟨PB2.out.below ((Below.refl _ _).alloc (Nat.le_refl _) _), .inl ⟨HR.out, rfl, oq, nq, cq, obj_new _ _, HQ.out.below ((Below.refl _ _).alloc (Nat.le_refl _) _)⟩⟩⟩
    · have RB := Lib.hid (fun z (kk : Below w.heap.size w z) => read_bad (.slice ob lb.length cb) lb z (HB.out.below kk) hr)
      have HN := Lib.hid hr
      clear hr
      go_wp2_with (go_at_call 5; (with_reducible refine (RB.out _ PBY.out.kb).mono ?_); rintro e z1 ⟨rfl, k1⟩; have PB2 := Lib.hid (PBY.out.below k1); clear k1)
      go_meet
      refine ⟨_, rfl, Lib.hid ⟨PB2.out.below ((Below.refl _ _).alloc (Nat.le_refl _) _), .inr ⟨HN.out, _, rfl⟩⟩⟩
  case rest =>
  obtain ⟨N, rfl, RE⟩ := hcut
  clear PBY
  go_upto_region 11 with fail
  go_cut [71] from 70 to 71 (fun v z => v = .bool (decide (Pl.readFault lb = 0)) ∧ Hid (ReadE w X s t l lv st (.slice oa bs.length bc) lb u10 N z))
  case first =>
    obtain ⟨PB3, hre⟩ := RE.out
    rcases hre with ⟨hr, rfl, hx⟩ | ⟨hn, f, rfl⟩
    · go_wp2_with fail
      go_meet
      exact ⟨by simp [hr], RE⟩
    · go_wp2_with fail
      go_meet
      exact ⟨by simp [hn], RE⟩
  case rest =>
  obtain ⟨rfl, RE⟩ := hcut
  go_upto_if 71 with fail
  go_cut [15, 16] from 70 to 85 (fun _ _ z => Hid (PB w X s t l lv st (.slice oa bs.length bc) z))
  case first =>
    obtain ⟨PB3, hre⟩ := RE.out
    have PB3 := Lib.hid PB3
    clear RE
    rcases hre with ⟨hr, rfl, oq, nq, cq, hpx, hq⟩ | ⟨hn, f, rfl⟩
    · have hd : decide (Pl.readFault lb = 0) = true := by simp [hr]
      rw [hd]
      clear hd
      obtain ⟨e1, e2⟩ := Pl.read_pk lb hr
      obtain ⟨r0, r1, r2, r3, r4, r5⟩ : wc.cell? ⟨N, 0, none⟩ = some (.int .i64 (Pl.getB ((lb.drop 2).take 2))) ∧ wc.cell? ⟨N, 1, none⟩ = some (.int .i64 (Pl.getB ((lb.drop 4).take 4))) ∧ wc.cell? ⟨N, 2, none⟩ = some (.int .i64 (Pl.rdLayer (Pl.bAt lb 0))) ∧ wc.cell? ⟨N, 3, none⟩ = some (.int .i64 ((Pl.bAt lb 1).toNat : Int)) ∧ wc.cell? ⟨N, 4, none⟩ = some (.bool (Pl.rdStart (Pl.bAt lb 0))) ∧ wc.cell? ⟨N, 5, none⟩ = some (.slice oq nq cq) :=
        ⟨obj_cell hpx rfl, obj_cell hpx rfl, obj_cell hpx rfl, obj_cell hpx rfl, obj_cell hpx rfl, obj_cell hpx rfl⟩
      have EN := Lib.hid (pencode_ok _ _ _ _ (Pl.rdStart (Pl.bAt lb 0)) (.slice oq nq cq) (lb.drop 8) wc hq e2)
      have HE1 := Lib.hid e1
      have hl8 : 8 + (lb.drop 8).length = lb.length := by have := Pl.pkBytes_length (Pl.getB ((lb.drop 2).take 2)) (Pl.getB ((lb.drop 4).take 4)) (Pl.rdLayer (Pl.bAt lb 0)) ((Pl.bAt lb 1).toNat : Int) (Pl.rdStart (Pl.bAt lb 0)) (lb.drop 8); rw [e1] at this; omega
      rw [e1, hl8] at EN
      clear hr e1 e2 hpx hq HE1 hl8
      generalize Pl.getB ((lb.drop 2).take 2) = z2 at *
      generalize Pl.getB ((lb.drop 4).take 4) = z4 at *
      generalize Pl.rdLayer (Pl.bAt lb 0) = zl at *
      generalize ((Pl.bAt lb 1).toNat : Int) = zv at *
      generalize Pl.rdStart (Pl.bAt lb 0) = zs at *
      go_upto_region 13 with (go_at_call 4; (with_reducible refine EN.out.mono ?_); rintro e z5 ⟨o5, c5, rfl, hob, k5⟩; have CB1 := conv_bytes hob.reads; have PB5 := Lib.hid (PB3.out.below k5); have CB2 := conv_bytes (HB.out.below PB5.out.kb); clear hob k5)
      clear r0 r1 r2 r3 r4 r5 EN
      generalize strB lb = sb at *
      go_wp2_with fail
      go_meet
      exact PB5
    · have hd : decide (Pl.readFault lb = 0) = false := by simp [hn]
      rw [hd]
      clear hd hn
      go_wp2_with fail
      go_meet
      exact PB3
  case rest =>
  have PB4 := hcut
  clear hcut RE
  go_upto_region 15 with fail
  obtain ⟨q0, q1, q2, q3, q4, q5⟩ := PB4.out.cells
  by_cases hk : 1 ≤ k ∧ k ≤ 1000
  case neg =>
    have SP := Lib.hid (split_size s t l lv st oa bs.length bc k hk wc)
    clear hk
    go_wp2_with (go_at_call 7; (with_reducible refine SP.out.mono ?_); rintro e z2 ⟨rfl, k2⟩; have K2 := Lib.hid (PB4.out.below k2).kb; clear k2)
    go_ret
    exact ⟨rfl, K2.out⟩
  obtain ⟨kn, rfl⟩ : ∃ n : Nat, k = (n : Int) := ⟨k.toNat, by omega⟩
  have hkn : 1 ≤ kn ∧ kn ≤ 1000 := by omega
  clear hk
  by_cases hN : 200 < max 1 (chunkN kn bs.length)
  · have SP := Lib.hid (split_full s t l lv st oa bc bs HP.out kn hkn hN wc (HV.out.below PB4.out.kb))
    clear hkn hN
    go_wp2_with (go_at_call 7; (with_reducible refine SP.out.mono ?_); rintro e z2 ⟨rfl, k2⟩; have K2 := Lib.hid (PB4.out.below k2).kb; clear k2)
    go_ret
    exact ⟨rfl, K2.out⟩
  · have SP := Lib.hid (split_fits s t l lv st oa bc bs HP.out kn hkn hN wc (HV.out.below PB4.out.kb))
    have HKN := Lib.hid hkn
    have HNN := Lib.hid hN
    clear hkn hN
    go_upto_region 18 with (go_at_call 7; (with_reducible refine SP.out.mono ?_); rintro e z2 ⟨v, P, rfl, hown, hlen, hall, k2⟩; have PB5 := Lib.hid (PB4.out.below k2); have OWN := Lib.hid hown; have LEN := Lib.hid hlen; have ALL := Lib.hid hall; clear hown hlen hall k2)
    obtain ⟨og, cap, rfl, hpa⟩ := parts_at kn s t l lv st bs OWN.out ALL.out
    have PA := Lib.hid hpa
    have HL1 := Lib.hid (show 1 ≤ P.length ∧ P.length ≤ 200 from by have := LEN.out; have := HNN.out; omega)
    have K5 := Lib.hid PB5.out.kb
    have HS5 := Lib.hid (show w.heap.size ≤ z2.heap.size from PB5.out.kb.size)
    have P5 := Lib.hid PB5.out
    clear hpa OWN ALL SP PB4 PB5 q0 q1 q2 q3 q4 q5
    obtain ⟨n, hn⟩ : ∃ n, P.length = n := ⟨_, rfl⟩
    rw [hn] at PA HL1 LEN ⊢
    clear hn
    go_wp2
    go_loopw [18, 19] (fun s18 s19 z => ∃ i : Nat, i ≤ n ∧ s19 = .int .i64 i ∧ Hid (LB z2 z2.heap.size kn bs i s18 z)) (fun _ s19 _ => n - (intOf s19).toNat)
    case atStart => exact ⟨0, by omega, rfl, Lib.hid ⟨by simpa using OwnB.nil z2 z2.heap.size, Below.refl _ _⟩⟩
    case round =>
      obtain ⟨i, hi, rfl, LBi⟩ := hrel
      by_cases hlt : i < n
      · have hbs : bs.length ≤ 1000 := HP.out.2.2.2.2.2.2.2.2
        obtain ⟨hs0, hs1⟩ : 0 ≤ s ∧ s ≤ 65535 := by have := HP.out; unfold Pl.pkOk at this; omega
        obtain ⟨g, oa', c', rfl, c0, c1, c4, c5, hbq⟩ := PA.out _ LBi.out.kb i hlt
        obtain ⟨m, hM⟩ : ∃ m, (chunkAt kn bs i).length = m := ⟨_, rfl⟩
        rw [hM] at c5 hbq
        have hmk : m ≤ kn := by rw [← hM, chunkAt_len]; omega
        obtain ⟨q0, q1, q2, q3, q4, q5⟩ := (P5.out.below LBi.out.kb).cells
        have hn200 := HL1.out.2
        have W1 : IntKind.i64.wrap (s + (i : Int)) = s + (i : Int) := by rw [IntKind.wrap_i64]; omega
        have W2 : Int.tmod (s + (i : Int)) 65536 = (s + (i : Int)) % 65536 := Int.tmod_eq_emod_of_nonneg (by omega)
        have W3 : ((s + (i : Int)) % 65536 != Int.tmod (s + (i : Int)) 65536) = false := by rw [W2]; simp
        have HD2 : decide (kn < m) = false := by simp; omega
        have HD3 : ¬ kn < m := by omega
        have HD : decide ((kn : Int) < (m : Int)) = false := by simp; omega
        have HBQ := Lib.hid hbq
        have HBS := Lib.hid hbs
        clear hbq hM hbs hs0 hs1
        obtain ⟨jb, hjb⟩ : ∃ jb : Bool, decide (i = 0) = jb := ⟨_, rfl⟩
        have hjd : ((i : Int) == 0) = jb := by rw [← hjb]; by_cases e : i = 0 <;> simp [e]
        have hjd2 : decide ((i : Int) = 0) = jb := by rw [← hjb]; by_cases e : i = 0 <;> simp [e]
        rw [hjb] at c4
        clear hjb
        cases st
        all_goals
          cases jb
          all_goals
            go_upto_region 22 with fail
            go_quiet (fail)
            go_upto_region 24 with fail
            refine abs_to (fun y => Hid (LB z2 z2.heap.size kn bs i _ y) ∧ Hid (y.cell? ⟨g, i * 6 + 5, none⟩ = some (.slice oa' m c')) ∧ Hid (IsBytes y (.slice oa' m c') (chunkAt kn bs i))) ⟨Lib.hid (LBi.out.drewN _), Lib.hid c5, Lib.hid (HBQ.out.drewN _)⟩ ?_
            clear c0 c1 c4 c5 q0 q1 q2 q3 q4 q5 HBQ LBi W1 W2 W3 HD HD2 HD3 hjd hjd2
            rintro y ⟨LBy, C5, HBy⟩
            obtain ⟨v', z', hr, hlb⟩ := LBy.out.app HBS.out _ HBy.out
            have c5 := C5.out
            have LBz := Lib.hid hlb
            clear hlb
            go_wp2_with (at_builtin; refine Lib.wpList_append_run _ rfl (.tmp 145) (.tmp 150) 22 22 rfl _ _ rfl rfl _ _ hr ?_)
            go_roundw
            case measure => simp [intOf]; omega
            case rel => exact ⟨i + 1, by omega, by go_num, LBz⟩
      · obtain rfl : i = n := by omega
        have KW := Lib.hid (K5.out.trans (LBi.out.kb.mono HS5.out))
        have OB := LBi.out.own
        rw [chunk_full kn HKN.out.1 bs i LEN.out] at OB
        obtain ⟨q0, q1, q2, q3, q4, q5⟩ := (P5.out.below LBi.out.kb).cells
        have CB1 := conv_bytes OB.reads
        have CB2 := conv_bytes (HV.out.below KW.out)
        have hpos : 0 < i := HL1.out.1
        have hpos1 : decide (0 < i) = true := by simpa using hpos
        have hpos2 : decide ((0 : Int) < (i : Int)) = true := by simp; omega
        generalize strB bs = sb at *
        clear OB LBi PA
        go_wp2_with fail
        go_ret
        exact ⟨by simp, KW.out⟩
end Go.Proofs.Ytbjanihblffmoaa
