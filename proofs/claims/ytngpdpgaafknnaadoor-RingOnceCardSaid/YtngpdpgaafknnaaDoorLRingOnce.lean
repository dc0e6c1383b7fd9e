import Derived.Test.YtngpdpgaafknnaaDoorRingGet
import Derived.Test.YtngpdpgaafknnaaDoorRingLow
import Derived.Test.YtngpdpgaafknnaaDoorSame
import Derived.Test.YtngpdpgaafknnaaDoorTold
import Derived.Deep.RegionHeld3
/-! The walk of the law RingOnce. -/
namespace Go.Proofs.YtngpdpgaafknnaaDoor
open Go.RowKit
set_option linter.unusedVariables false
set_option linter.unusedSimpArgs false
/-- a packet that came in reads on, whatever a ring of the call's own does -/
theorem bytes_kr2 {w W0 : World} {v : Value} {l : List UInt8} {b bm : Nat} (h : IsBytes w v l) (k : Below w.heap.size w W0) (h1 : w.heap.size ≤ b) (h2 : w.heap.size ≤ bm) : ∀ W, KR2 b bm W0 W → IsBytes W v l := fun W q =>
  h.below (k.trans (Keeps.below q k.size (fun j hj e => by rcases e with e | e <;> omega)))
/-- the law's memory: the ring, and the two packets -/
structure RO (w y : World) (b : Nat) (n top : Int) (bm c : Nat) (f : Int → Option Value) (ps pt pl plv : Int) (pst : Bool) (pv : Value) (qs qt ql qlv : Int) (qst : Bool) (qv : Value) : Prop where
  ring : Rng y b n top bm c f
  p : PkIn y w.heap.size ps pt pl plv pst pv
  q : PkIn y (w.heap.size + 1) qs qt ql qlv qst qv
  kb : Below w.heap.size w y
  low : w.heap.size + 1 < b ∧ w.heap.size + 1 < bm
namespace RO
variable {w y z : World} {b : Nat} {n top : Int} {bm c : Nat} {f : Int → Option Value} {ps pt pl plv : Int} {pst : Bool} {pv : Value} {qs qt ql qlv : Int} {qst : Bool} {qv : Value}
theorem below (h : RO w y b n top bm c f ps pt pl plv pst pv qs qt ql qlv qst qv) (k : Below y.heap.size y z) : RO w z b n top bm c f ps pt pl plv pst pv qs qt ql qlv qst qv :=
  ⟨h.ring.below k, Below.heapAt k h.p (lt_of_block h.p), Below.heapAt k h.q (lt_of_block h.q), h.kb.trans (k.mono h.kb.size), h.low⟩
theorem put {top' : Int} {c' : Nat} {f' : Int → Option Value} (h : RO w y b n top bm c f ps pt pl plv pst pv qs qt ql qlv qst qv) (r : Rng z b n top' bm c' f') (k : KR2 b bm y z) : RO w z b n top' bm c' f' ps pt pl plv pst pv qs qt ql qlv qst qv :=
  ⟨r, Keeps.heap k h.p (by have := h.low; omega), Keeps.heap k h.q (by have := h.low; omega), h.kb.trans (Keeps.below k h.kb.size (fun j hj e => by have := h.low; rcases e with e | e <;> omega)), h.low⟩
theorem pc (h : RO w y b n top bm c f ps pt pl plv pst pv qs qt ql qlv qst qv) : y.cell? ⟨w.heap.size, 0, none⟩ = some (.int .i64 ps) ∧ y.cell? ⟨w.heap.size, 1, none⟩ = some (.int .i64 pt) ∧ y.cell? ⟨w.heap.size, 2, none⟩ = some (.int .i64 pl) ∧ y.cell? ⟨w.heap.size, 3, none⟩ = some (.int .i64 plv) ∧ y.cell? ⟨w.heap.size, 4, none⟩ = some (.bool pst) ∧ y.cell? ⟨w.heap.size, 5, none⟩ = some pv :=
  ⟨obj_cell h.p rfl, obj_cell h.p rfl, obj_cell h.p rfl, obj_cell h.p rfl, obj_cell h.p rfl, obj_cell h.p rfl⟩
theorem qc (h : RO w y b n top bm c f ps pt pl plv pst pv qs qt ql qlv qst qv) : y.cell? ⟨w.heap.size + 1, 0, none⟩ = some (.int .i64 qs) ∧ y.cell? ⟨w.heap.size + 1, 1, none⟩ = some (.int .i64 qt) ∧ y.cell? ⟨w.heap.size + 1, 2, none⟩ = some (.int .i64 ql) ∧ y.cell? ⟨w.heap.size + 1, 3, none⟩ = some (.int .i64 qlv) ∧ y.cell? ⟨w.heap.size + 1, 4, none⟩ = some (.bool qst) ∧ y.cell? ⟨w.heap.size + 1, 5, none⟩ = some qv :=
  ⟨obj_cell h.q rfl, obj_cell h.q rfl, obj_cell h.q rfl, obj_cell h.q rfl, obj_cell h.q rfl, obj_cell h.q rfl⟩
end RO
theorem two_boxes (w : World) (a b : Array Value) (T : TypeId) : Below w.heap.size w ((w.alloc (.cells a T)).alloc (.cells b T)) := ((Below.refl _ _).alloc (Nat.le_refl _) _).alloc (by simp) _
set_option maxRecDepth 100000 in
set_option maxHeartbeats 4000000 in
theorem walk_RingOnce_bad (w : World) (n num : Int) (hn : ¬ (1 ≤ n ∧ n ≤ 64)) (ps pt pl plv : Int) (pst : Bool) (pv : Value) (qs qt ql qlv : Int) (qst : Bool) (qv : Value) :
    Calls Tryd.prog 3 #[.int .i64 n, .int .i64 num, pkV ps pt pl plv pst pv, pkV qs qt ql qlv qst qv] w fun e w' => e = .returned (.bool true) ∧ Below w.heap.size w w' := by
  have G := Lib.hid hn
  go_enter Tryd.func3, Tryd.ntmps3
  go_wp2_with fail
  refine (ringNew_bad n hn _).mono ?_
  rintro e w1 ⟨rfl, rfl⟩
  clear hn
  go_wp2_with fail
  all_goals first
    | (exfalso; have := G.out; omega)
    | (go_ret; exact ⟨ret_bool (by have := G.out; simp <;> omega), two_boxes _ _ _ _⟩)
set_option maxRecDepth 100000 in
set_option maxHeartbeats 4000000 in
theorem walk_RingOnce_range (w : World) (n num : Int) (hn : 1 ≤ n ∧ n ≤ 64) (hl : Pl.long num = false) (ps pt pl plv : Int) (pst : Bool) (po : Option Addr) (pn pc : Nat) (qs qt ql qlv : Int) (qst : Bool) (qv : Value) :
    Calls Tryd.prog 3 #[.int .i64 n, .int .i64 num, pkV ps pt pl plv pst (.slice po pn pc), pkV qs qt ql qlv qst qv] w fun e w' => e = .returned (.bool true) ∧ Below w.heap.size w w' := by
  have hnl := (Pl.long_not num).1 hl
  have G := Lib.hid hnl
  clear hnl
  go_enter Tryd.func3, Tryd.ntmps3
  go_upto_region 1 with fail
  refine abs_at (fun y => PkIn y w.heap.size ps pt pl plv pst (.slice po pn pc) ∧ Hid (Below w.heap.size w y) ∧ w.heap.size < y.heap.size) ⟨obj_old (obj_new _ _) _, Lib.hid (two_boxes _ _ _ _), by simp; omega⟩ ?_
  rintro y ⟨p, kb, hsz⟩
  go_wp2_with fail
  refine (ringNew_ok n hn.1 hn.2 _).mono ?_
  rintro e w1 ⟨b, bm, rfl, hb, hbm, R1, k1⟩
  have p' : PkIn w1 w.heap.size ps pt pl plv pst (.slice po pn pc) := Below.heapAt k1 p hsz
  have kb1 := Lib.hid (kb.out.trans (k1.mono kb.out.size))
  clear R1 k1 p kb hsz
  have p0 := obj_cell p' (k := 0) rfl
  have p1 := obj_cell p' (k := 1) rfl
  have p2 := obj_cell p' (k := 2) rfl
  have p3 := obj_cell p' (k := 3) rfl
  have p4 := obj_cell p' (k := 4) rfl
  have p5 := obj_cell p' (k := 5) rfl
  clear p'
  go_wp2_with fail
  refine (ringPut_range b num hl ps pt pl plv pst _ _).mono ?_
  rintro e w2 ⟨rfl, k2⟩
  have kb2 := Lib.hid (kb1.out.trans (k2.mono kb1.out.size))
  clear k2 p0 p1 p2 p3 p4 p5 kb1
  by_cases h0 : num < 0
  · go_wp2_with fail
    go_ret
    exact ⟨rfl, kb2.out⟩
  · have h1 : 1099511627776 < num := by have := G.out; omega
    go_wp2_with fail
    go_ret
    exact ⟨rfl, kb2.out⟩
set_option maxRecDepth 100000 in
set_option maxHeartbeats 4000000 in
theorem walk_RingOnce_badp (w : World) (n num : Int) (hn : 1 ≤ n ∧ n ≤ 64) (hl : Pl.long num = true) (ps pt pl plv : Int) (pst : Bool) (po : Option Addr) (pn pc : Nat) (hpn : pn ≤ maxLen) (hp : ¬ Pl.pkOk ps pt pl plv pn) (qs qt ql qlv : Int) (qst : Bool) (qv : Value) :
    Calls Tryd.prog 3 #[.int .i64 n, .int .i64 num, pkV ps pt pl plv pst (.slice po pn pc), pkV qs qt ql qlv qst qv] w fun e w' => e = .returned (.bool true) ∧ Below w.heap.size w w' := by
  have hnl := (Pl.long_iff num).1 hl
  obtain ⟨hn0, hn1⟩ := hnl
  have HP := Lib.hid hp
  clear hp
  go_enter Tryd.func3, Tryd.ntmps3
  go_upto_region 1 with fail
  refine abs_at (fun y => PkIn y w.heap.size ps pt pl plv pst (.slice po pn pc) ∧ Hid (Below w.heap.size w y) ∧ w.heap.size < y.heap.size) ⟨obj_old (obj_new _ _) _, Lib.hid (two_boxes _ _ _ _), by simp; omega⟩ ?_
  rintro y ⟨p, kb, hsz⟩
  go_wp2_with fail
  refine (ringNew_ok n hn.1 hn.2 _).mono ?_
  rintro e w1 ⟨b, bm, rfl, hb, hbm, R1, k1⟩
  have p' : PkIn w1 w.heap.size ps pt pl plv pst (.slice po pn pc) := Below.heapAt k1 p hsz
  have kb1 := Lib.hid (kb.out.trans (k1.mono kb.out.size))
  clear R1 k1 p kb hsz
  have p0 := obj_cell p' (k := 0) rfl
  have p1 := obj_cell p' (k := 1) rfl
  have p2 := obj_cell p' (k := 2) rfl
  have p3 := obj_cell p' (k := 3) rfl
  have p4 := obj_cell p' (k := 4) rfl
  have p5 := obj_cell p' (k := 5) rfl
  go_wp2_with fail
  refine (ringPut_bad b num hl ps pt pl plv pst po pn pc hpn HP.out _).mono ?_
  rintro e w2 ⟨rfl, k2⟩
  have p2' : PkIn w2 w.heap.size ps pt pl plv pst (.slice po pn pc) := Below.heapAt k2 p' (lt_of_block p')
  have kb2 := Lib.hid (kb1.out.trans (k2.mono kb1.out.size))
  clear k2 p0 p1 p2 p3 p4 p5 kb1 p'
  have p0 := obj_cell p2' (k := 0) rfl
  have p1 := obj_cell p2' (k := 1) rfl
  have p2 := obj_cell p2' (k := 2) rfl
  have p3 := obj_cell p2' (k := 3) rfl
  have p4 := obj_cell p2' (k := 4) rfl
  have p5 := obj_cell p2' (k := 5) rfl
  clear p2'
  have CK := Lib.hid (fun z => check_bad ps pt pl plv pst po pn pc hpn HP.out z)
  have d0 : decide (num < 0) = false := by simpa using hn0
  have d1 : decide (1099511627776 < num) = false := by simpa using hn1
  go_wp2_with (go_at_call 7; (with_reducible refine (CK.out _).mono ?_); rintro e w3 ⟨rfl, k3⟩; have K3 := Lib.hid (kb2.out.trans (k3.mono kb2.out.size)); clear k3)
  go_ret
  exact ⟨rfl, K3.out⟩
set_option maxRecDepth 100000 in
set_option maxHeartbeats 16000000 in
theorem walk_RingOnce_ok (w : World) (hE : Env w) (n num : Int) (hn : 1 ≤ n ∧ n ≤ 64) (hl : Pl.long num = true) (ps pt pl plv : Int) (pst : Bool) (po : Option Addr) (pbody : List UInt8) (pc : Nat) (hp : Pl.pkOk ps pt pl plv pbody.length) (hpv : IsBytes w (.slice po pbody.length pc) pbody)
    (qs qt ql qlv : Int) (qst : Bool) (qo : Option Addr) (qn qc : Nat) (hqn : qn ≤ maxLen) :
    Calls Tryd.prog 3 #[.int .i64 n, .int .i64 num, pkV ps pt pl plv pst (.slice po pbody.length pc), pkV qs qt ql qlv qst (.slice qo qn qc)] w fun e w' => e = .returned (.bool true) ∧ Below w.heap.size w w' := by
  have hnl := (Pl.long_iff num).1 hl
  obtain ⟨hn0, hn1⟩ := hnl
  have hw : (Lit.int .i64 num).wf = true := by simp [Lit.wf, IntKind.min, IntKind.max, IntKind.signed, IntKind.bits]; omega
  have HP := Lib.hid hp
  have HPV := Lib.hid hpv
  have HE := Lib.hid hE
  have hbl : pbody.length ≤ 1000 := hp.2.2.2.2.2.2.2.2
  clear hp hpv hE
  obtain ⟨hna, hnb⟩ := hn
  go_enter Tryd.func3, Tryd.ntmps3
  go_upto_region 1 with fail
  refine abs_at (fun y => PkIn y w.heap.size ps pt pl plv pst (.slice po pbody.length pc) ∧ PkIn y (w.heap.size + 1) qs qt ql qlv qst (.slice qo qn qc) ∧ Hid (Below w.heap.size w y) ∧ w.heap.size + 1 < y.heap.size) ⟨obj_old (obj_new _ _) _, obj_new2 _ _ _, Lib.hid (two_boxes _ _ _ _), by simp⟩ ?_
  rintro y ⟨p, q, kb, hsz⟩
  go_wp2_with fail
  refine (ringNew_ok n hna hnb _).mono ?_
  rintro e w1 ⟨b, bm, rfl, hb, hbm, R1, k1⟩
  have O1 := Lib.hid (RO.mk (w := w) R1 (Below.heapAt k1 p (by omega)) (Below.heapAt k1 q hsz) (kb.out.trans (k1.mono kb.out.size)) ⟨by omega, by omega⟩)
  clear R1 k1 p q kb hsz hb hbm
  obtain ⟨p0, p1, p2, p3, p4, p5⟩ := O1.out.pc
  go_wp2_with fail
  refine (ringPut_new b n (-1) bm 0 (fun _ => none) (fun i v h => by cases h) (by decide) num hl ⟨hna, hnb⟩ ⟨by decide, by decide⟩ ps pt pl plv pst _ pbody HP.out (by omega) rfl _ (bytes_kr2 HPV.out O1.out.kb (by have := O1.out.low; omega) (by have := O1.out.low; omega)) O1.out.ring).mono ?_
  rintro e w2 ⟨oa2, bc2, c2, rfl, -, R2, iv, k2⟩
  have htop : Pl.topOf (-1) num = num := by unfold Pl.topOf; rw [if_pos (by omega)]
  rw [htop] at R2
  have F2 : Hid (∀ j, Pl.ringF (fun _ => none) n num num (pkV ps pt pl plv pst (.slice oa2 pbody.length bc2)) j = if j = num then some (pkV ps pt pl plv pst (.slice oa2 pbody.length bc2)) else none) := Lib.hid (fun j => by
    unfold Pl.ringF
    by_cases e : j = num
    · rw [if_neg (by omega)]
    · rw [if_neg e]; split <;> rfl)
  have hc2 : c2 = 1 := R2.map.count rlaw Tryd.underlying3 [num] (by simp) (fun i => by rw [F2.out]; by_cases e : i = num <;> simp [e])
  subst hc2
  generalize Pl.ringF (fun _ => none) n num num (pkV ps pt pl plv pst (.slice oa2 pbody.length bc2)) = f2 at *
  have O2 := Lib.hid (O1.out.put R2 k2)
  have hlow1 := O1.out.low
  have IV : Hid (∀ W, Keeps (fun k => k = b ∨ k = bm) w2 W → IsBytes W (.slice oa2 pbody.length bc2) pbody) := Lib.hid (fun W h => iv W (h.mono (fun k _ e => by
    have h1 := lt_of_block O1.out.ring.at_
    have h2 := O1.out.ring.map.lt
    rcases e with rfl | rfl
    · exact h1
    · exact h2)))
  clear R2 k2 iv O1 p0 p1 p2 p3 p4 p5 htop
  have hf2 : f2 num = some (pkV ps pt pl plv pst (.slice oa2 pbody.length bc2)) := by rw [F2.out, if_pos rfl]
  have HF2 := Lib.hid hf2
  clear hf2
  obtain ⟨q0, q1, q2, q3, q4, q5⟩ := O2.out.qc
  have hq : ∃ (v14 : Value) (isn : Bool), (∀ z, Calls Tryd.prog 7 #[pkV qs qt ql qlv qst (.slice qo qn qc)] z fun e w' => e = .returned v14 ∧ Below z.heap.size z w') ∧ (∀ z, Rng z b n num bm 1 f2 → Calls Tryd.prog 6 #[.pointer (some ⟨b, 0, none⟩), .int .i64 num, pkV qs qt ql qlv qst (.slice qo qn qc)] z fun e w' => e = .returned (.tuple #[.bool false, v14]) ∧ Below z.heap.size z w') ∧ ((v14 = .nilIface) ∨ ∃ k : Int, v14 = .iface 51 (.int .i64 k)) := by
    by_cases hq : Pl.pkOk qs qt ql qlv qn
    · exact ⟨.nilIface, true, fun z => check_ok qs qt ql qlv qst qo qn qc hq z, fun z hz => ringPut_has b n num bm 1 f2 num hl ⟨hna, hnb⟩ ⟨by omega, hn1⟩ qs qt ql qlv qst qo qn qc hq (by omega) ps pt pl plv pst oa2 pbody.length bc2 HF2.out z hz, .inl rfl⟩
    · exact ⟨_, false, fun z => check_bad qs qt ql qlv qst qo qn qc hqn hq z, fun z hz => ringPut_bad b num hl qs qt ql qlv qst qo qn qc hqn hq z, .inr ⟨_, rfl⟩⟩
  obtain ⟨v14, -, hck, hput, hv14⟩ := hq
  have CK := Lib.hid hck
  have PUT := Lib.hid hput
  have HV14 := Lib.hid hv14
  clear hck hput hv14
  go_wp2_with fail
  refine (PUT.out _ O2.out.ring).mono ?_
  rintro e w3 ⟨rfl, k3⟩
  have O3 := Lib.hid (O2.out.below k3)
  have iv3 := IV.out w3 (Below.toKeeps k3 (Nat.le_refl _))
  clear q0 q1 q2 q3 q4 q5 k3 O2
  go_wp2_with fail
  refine (ringGet_some b n num bm 1 f2 num hw ps pt pl plv pst oa2 bc2 pbody hbl HF2.out _ iv3 O3.out.ring).mono ?_
  rintro e w4 ⟨oa4, bc4, rfl, iv4, k4⟩
  have O4 := Lib.hid (O3.out.below k4)
  go_upto_region 9 with fail
  have bA : ∀ o, Below w4.heap.size w4 (w4.alloc o) := fun o => (Below.refl _ _).alloc (Nat.le_refl _) _
  refine abs_at (fun y => Hid (RO w y b n num bm 1 f2 ps pt pl plv pst (.slice po pbody.length pc) qs qt ql qlv qst (.slice qo qn qc)) ∧ PkIn y w4.heap.size ps pt pl plv pst (.slice oa4 pbody.length bc4) ∧ Hid (IsBytes y (.slice oa4 pbody.length bc4) pbody)) ⟨Lib.hid (O4.out.below (bA _)), obj_new _ _, Lib.hid ((iv4 w4 (Keeps.refl _ _)).below (bA _))⟩ ?_
  clear O3 O4 iv3 iv4 k4 bA
  generalize w4.heap.size = N4
  rintro y ⟨O5, x5, ix5⟩
  obtain ⟨p0, p1, p2, p3, p4, p5⟩ := O5.out.pc
  have x0 := obj_cell x5 (k := 0) rfl
  have x1 := obj_cell x5 (k := 1) rfl
  have x2 := obj_cell x5 (k := 2) rfl
  have x3 := obj_cell x5 (k := 3) rfl
  have x4 := obj_cell x5 (k := 4) rfl
  have x6 := obj_cell x5 (k := 5) rfl
  clear x5
  have SM := Lib.hid (samePk_any ps pt pl plv ps pt pl plv pst pst _ _ pbody pbody y ix5.out (HPV.out.below O5.out.kb))
  go_wp2_with fail
  refine SM.out.mono ?_
  rw [show Pl.samePk ps pt pl plv pst pbody ps pt pl plv pst pbody = true from by simp [Pl.samePk]]
  rintro e y2 ⟨rfl, k6⟩
  have O6 := Lib.hid (O5.out.below k6)
  clear O5 k6 p0 p1 p2 p3 p4 p5 x0 x1 x2 x3 x4 x6 ix5 SM
  go_upto_region 10 with fail
  have hqlt : w.heap.size + 1 < y2.heap.size := lt_of_block O6.out.q
  obtain ⟨q0, q1, q2, q3, q4, q5⟩ := O6.out.qc
  have SOF := Lib.hid (show ∀ w', Below y2.heap.size y2 w' → (w'.cell? ⟨w.heap.size + 1, 0, none⟩ = some (.int .i64 qs) ∧ w'.cell? ⟨w.heap.size + 1, 1, none⟩ = some (.int .i64 qt) ∧ w'.cell? ⟨w.heap.size + 1, 2, none⟩ = some (.int .i64 ql) ∧ w'.cell? ⟨w.heap.size + 1, 3, none⟩ = some (.int .i64 qlv) ∧ w'.cell? ⟨w.heap.size + 1, 4, none⟩ = some (.bool qst) ∧ w'.cell? ⟨w.heap.size + 1, 5, none⟩ = some (.slice qo qn qc) ∧ Below y2.heap.size y2 w') from fun w' h => ⟨(h.cell hqlt).trans q0, (h.cell hqlt).trans q1, (h.cell hqlt).trans q2, (h.cell hqlt).trans q3, (h.cell hqlt).trans q4, (h.cell hqlt).trans q5, h⟩)
  have HL := Lib.hid (Nat.le_refl y2.heap.size)
  have CC := Lib.hid (fun z (k : Below y2.heap.size y2 z) => (CK.out z).mono (fun e w' ⟨h1, h2⟩ => (show e = Ending.returned v14 ∧ Below y2.heap.size y2 w' from ⟨h1, k.trans (h2.mono k.size)⟩)))
  have CL := Lib.hid (fun z (k : Below y2.heap.size y2 z) => (ringLen_any b n num bm 1 f2 z (O6.out.below k).ring).mono (fun e w' ⟨h1, h2⟩ => (show e = Ending.returned (.int .i64 1) ∧ Below y2.heap.size y2 w' from ⟨h1, h2 ▸ k⟩)))
  have CT := Lib.hid (fun z (k : Below y2.heap.size y2 z) => (ringTop_any b n num bm z (O6.out.below k).ring.at_).mono (fun e w' ⟨h1, h2⟩ => (show e = Ending.returned (.int .i64 num) ∧ Below y2.heap.size y2 w' from ⟨h1, h2 ▸ k⟩)))
  have CW := Lib.hid (fun z (k : Below y2.heap.size y2 z) => (ringLow_some b n num bm 1 f2 (by decide) (by decide) z (O6.out.below k).ring).mono (fun e w' ⟨m, h1, h2, _, h4⟩ => (show e = Ending.returned (.int .i64 num) ∧ Below y2.heap.size y2 w' from ⟨(by
    rw [F2.out] at h2
    by_cases em : m = num
    · rw [h1, em]
    · rw [if_neg em] at h2; cases h2), k.trans (h4.mono k.size)⟩)))
  have kk := Below.refl y2.heap.size y2
  have O7 := Lib.hid (fun z (k : Below y2.heap.size y2 z) => O6.out.below k)
  clear O6 hqlt
  go_cut [108] (fun s108 z => s108 = .bool false ∧ Below y2.heap.size y2 z)
  case first =>
    rcases HV14.out with rfl | ⟨kv, rfl⟩
    all_goals
      go_region_held3 (fun w' => w'.cell? ⟨w.heap.size + 1, 0, none⟩ = some (.int .i64 qs) ∧ w'.cell? ⟨w.heap.size + 1, 1, none⟩ = some (.int .i64 qt) ∧ w'.cell? ⟨w.heap.size + 1, 2, none⟩ = some (.int .i64 ql) ∧ w'.cell? ⟨w.heap.size + 1, 3, none⟩ = some (.int .i64 qlv) ∧ w'.cell? ⟨w.heap.size + 1, 4, none⟩ = some (.bool qst) ∧ w'.cell? ⟨w.heap.size + 1, 5, none⟩ = some (.slice qo qn qc) ∧ Below y2.heap.size y2 w')
        (first | (with_reducible assumption) | (go_split_ands; refine SOF.out _ ?_; (repeat' (first | (with_reducible assumption) | (with_reducible exact HL.out) | (with_reducible apply Below.drew)))))
        (first
        | (go_at_call 7; go_split_ands; (with_reducible refine (CC.out _ (by with_reducible assumption)).mono ?_); rintro e w' ⟨rfl, kc⟩)
        | (go_at_call 10; go_split_ands; (with_reducible refine (CL.out _ (by with_reducible assumption)).mono ?_); rintro e w' ⟨rfl, kl⟩)
        | (go_at_call 11; go_split_ands; (with_reducible refine (CW.out _ (by with_reducible assumption)).mono ?_); rintro e w' ⟨rfl, kw⟩)
        | (go_at_call 12; go_split_ands; (with_reducible refine (CT.out _ (by with_reducible assumption)).mono ?_); rintro e w' ⟨rfl, kt⟩))
      all_goals go_wp2_with fail
      all_goals go_meet
      all_goals
        refine ⟨rfl, ?_⟩
        repeat' (first | (with_reducible assumption) | (with_reducible exact HL.out) | (with_reducible apply Below.drew))
  case rest =>
  obtain ⟨rfl, kz⟩ := hcut
  have O8 := Lib.hid (O7.out _ kz)
  clear kz kk CC CL CT CW SOF q0 q1 q2 q3 q4 q5 HL O7 CK PUT HV14
  by_cases hmn : num < n
  · go_wp2_with fail
    go_ret
    exact ⟨rfl, O8.out.kb⟩
  obtain ⟨p0, p1, p2, p3, p4, p5⟩ := O8.out.pc
  have W1 : IntKind.i64.wrap (num - n) = num - n := by rw [IntKind.wrap_i64]; omega
  have W2 : IntKind.i64.wrap (num - n + 1) = num - n + 1 := by rw [IntKind.wrap_i64]; omega
  have L1 : Pl.long (num - n) = true := (Pl.long_iff _).2 ⟨by omega, by omega⟩
  have L2 : Pl.long (num - n + 1) = true := (Pl.long_iff _).2 ⟨by omega, by omega⟩
  go_wp2_with fail
  try rw [W1]
  refine (ringPut_old b n num bm 1 f2 (num - n) L1 ⟨hna, hnb⟩ ⟨by omega, hn1⟩ ps pt pl plv pst po pbody.length pc HP.out (by omega) _ O8.out.ring).mono ?_
  rintro e w9 ⟨rfl, k9⟩
  have O9 := Lib.hid (O8.out.below k9)
  clear k9 p0 p1 p2 p3 p4 p5 O8
  obtain ⟨p0, p1, p2, p3, p4, p5⟩ := O9.out.pc
  go_wp2_with fail
  try rw [W1]
  try rw [W2]
  have PA : Calls Tryd.prog 6 #[.pointer (some ⟨b, 0, none⟩), .int .i64 (num - n + 1), pkV ps pt pl plv pst (.slice po pbody.length pc)] w9 fun e w' => e = .returned (.tuple #[.bool (decide (1 < n)), .nilIface]) ∧ Below w.heap.size w w' := by
    have K9 := O9.out.kb
    by_cases h1 : n = 1
    · subst h1
      exact (ringPut_has b 1 num bm 1 f2 (num - 1 + 1) L2 ⟨hna, hnb⟩ ⟨by omega, hn1⟩ ps pt pl plv pst po pbody.length pc HP.out (by omega) ps pt pl plv pst oa2 pbody.length bc2 (by rw [Int.sub_add_cancel]; exact HF2.out) w9 O9.out.ring).mono (fun e w' ⟨a, k⟩ => ⟨a, K9.trans (k.mono K9.size)⟩)
    · have ne : f2 (num - n + 1) = none := by rw [F2.out, if_neg (by omega)]
      have all2 : AllPk f2 := fun i v h => by
        rw [F2.out] at h
        by_cases ei : i = num
        · rw [if_pos ei] at h; cases h; exact ⟨_, _, _, _, _, _, _, _, rfl⟩
        · rw [if_neg ei] at h; cases h
      exact (ringPut_new b n num bm 1 f2 all2 (by decide) (num - n + 1) L2 ⟨hna, hnb⟩ ⟨by omega, hn1⟩ ps pt pl plv pst _ pbody HP.out (by omega) ne w9 (bytes_kr2 HPV.out K9 (by have := O9.out.low; omega) (by have := O9.out.low; omega)) O9.out.ring).mono (fun e w' ⟨oa8, c8, c', a, _, _, _, k⟩ => ⟨by rw [a, decide_eq_true (by omega)], K9.trans (Keeps.below k K9.size (fun j hj e => by have := O9.out.low; rcases e with e | e <;> omega))⟩)
  refine PA.mono ?_
  clear PA
  rintro e wA ⟨rfl, kA⟩
  have EA := Lib.hid ((error_hit 6 6 wA (HE.out.below kA)).mono (fun e w' ⟨h1, h2⟩ => (show e = Ending.returned (.bool true) ∧ Below wA.heap.size wA w' from ⟨by rw [h1]; simp, h2⟩)))
  clear O9 p0 p1 p2 p3 p4 p5 HE HP HPV
  go_wp2_with (go_at_call 13; refine EA.out.mono ?_; rintro e wB ⟨rfl, kB⟩)
  all_goals
    go_ret
    exact ⟨ret_bool (by simp), kA.trans (kB.mono kA.size)⟩
theorem walk_RingOnce (w : World) (n : Int) (wn : (Lit.int .i64 n).wf = true) (num : Int) (wm : (Lit.int .i64 num).wf = true) (v2 : Value) (l2 : Pk) (o2 : v2 = l2.val ∧ l2.Good w) (v3 : Value) (l3 : Pk) (o3 : v3 = l3.val ∧ l3.Good w) (hE : Env w) :
    Calls Tryd.prog 3 #[.int .i64 n, .int .i64 num, v2, v3] w fun e w' => e = .returned (.bool true) ∧ Below w.heap.size w w' := by
  obtain ⟨rfl, _, _, _, _, hv⟩ := o2
  obtain ⟨rfl, _, _, _, _, hv'⟩ := o3
  obtain ⟨s, t, l, lv, st, bv, body⟩ := l2
  obtain ⟨s', t', l', lv', st', bv', body'⟩ := l3
  obtain ⟨oa, c, e2, hb⟩ := bytes_slice hv
  obtain ⟨oa', c', e3, hb'⟩ := bytes_slice hv'
  dsimp only at e2 e3 hv hv' hb hb'
  subst e2 e3
  by_cases hn : 1 ≤ n ∧ n ≤ 64
  · cases hl : Pl.long num
    · exact walk_RingOnce_range w n num hn hl s t l lv st oa _ c s' t' l' lv' st' _
    · by_cases hp : Pl.pkOk s t l lv body.length
      · exact walk_RingOnce_ok w hE n num hn hl s t l lv st oa body c hp hv s' t' l' lv' st' oa' _ c' hb'
      · exact walk_RingOnce_badp w n num hn hl s t l lv st oa _ c hb hp s' t' l' lv' st' _
  · exact walk_RingOnce_bad w n num hn s t l lv st _ s' t' l' lv' st' _
end Go.Proofs.YtngpdpgaafknnaaDoor
