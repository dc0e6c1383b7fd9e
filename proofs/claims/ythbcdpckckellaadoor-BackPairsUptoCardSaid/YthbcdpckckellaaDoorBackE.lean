import Derived.Test.YthbcdpckckellaaDoorBytes
import Derived.Test.YthbcdpckckellaaDoorBackQ
import Derived.Deep.QuietTactic
import Derived.BigQuiet
import Derived.Deep.CutBlock
import Derived.Deep.RegionHeld3
/-! pack.Put: what is no bytes is as it was. -/
namespace Go.Proofs.YthbcdpckckellaaDoor
open Go.RowKit
set_option linter.unusedVariables false
set_option linter.unusedSimpArgs false
/-- what lies below, and what is no bytes, is as it was -/
structure KpT (base : Nat) (w w' : World) : Prop where
  below : Below base w w'
  keep : ∀ (j : Nat) (cs : Array Value) (T : TypeId), T ≠ 5 → w.heap[j]? = some (.cells cs T (0, 0)) → w'.heap[j]? = some (.cells cs T (0, 0))
theorem KpT.refl (base : Nat) (w : World) : KpT base w w := ⟨Below.refl _ _, fun _ _ _ _ h => h⟩
theorem KpT.trans {base : Nat} {a b c : World} (h : KpT base a b) (k : KpT base b c) : KpT base a c := ⟨h.below.trans k.below, fun j cs T hT e => k.keep j cs T hT (h.keep j cs T hT e)⟩
theorem KpT.of_below {base : Nat} {a b : World} (hb : base ≤ a.heap.size) (h : Below a.heap.size a b) : KpT base a b := ⟨h.mono hb, fun j cs T _ e => (h.block j (lt_of_block e)).trans e⟩
theorem KpT.drew {base : Nat} {a b : World} (h : KpT base a b) : KpT base a b.drew := ⟨Below.drewN h.below 1, h.keep⟩
theorem KpT.more {base : Nat} {wr w' : World} {o : Obj} {s : Value} {l : List UInt8} (hown : OwnB wr base s l) (hb : base ≤ wr.heap.size) (hg : (wr.alloc o).grownBy w' s.ownBlock) : KpT base wr w' := by
  have hrow : ∀ g, s.ownBlock = some g → ∃ cs, wr.heap[g]? = some (.cells cs 5 (0, 0)) := fun g e => by
    rcases hown.2 with ⟨rfl, _⟩ | ⟨g', cap, cur, rfl, _, hg', _⟩
    · cases e
    · simp [Value.ownBlock] at e; subst e; exact ⟨_, hg'⟩
  refine ⟨((Below.refl _ _).alloc (by omega) o).trans (below_row (OwnB.alloc hown o) hg (Nat.le_refl _) (by simp; omega)), fun j cs T hT e => ?_⟩
  have hl := lt_of_block e
  rw [hg.block j (by simp; omega) (fun e' => by
    obtain ⟨cs', q⟩ := hrow j e'.symm
    rw [e] at q; simp at q; exact hT q.2)]
  exact (Below.heap_alloc wr o j hl).trans e
theorem putk_step {n : Int} {size k : Nat} {X l : List UInt8} {base : Nat} {w wr w' : World} {o : Obj} {s v' : Value} (hown : OwnB wr base s (l ++ X)) (hx : X ++ Pl.putB n (k + 1) = Pl.putB n size) (hs : size ≤ 4) (ho : OwnB w' base v' ((l ++ X) ++ [Pl.byteAt n k])) (hg : (wr.alloc o).grownBy w' s.ownBlock) (kb : KpT base w wr) (hb : base ≤ w.heap.size) :
    Hid (OwnB w' base v' (l ++ (X ++ [Pl.byteAt n k]))) ∧ Hid ((X ++ [Pl.byteAt n k]).length ≤ 4) ∧ Hid ((X ++ [Pl.byteAt n k]) ++ Pl.putB n k = Pl.putB n size) ∧ Hid (KpT base w w') := by
  obtain ⟨h1, h2, h3, _⟩ := put_step hown hx hs ho hg kb.below hb
  exact ⟨h1, h2, h3, Lib.hid (kb.trans (KpT.more hown (Nat.le_trans hb kb.below.size) hg))⟩
set_option maxRecDepth 100000 in
set_option maxHeartbeats 4000000 in
theorem putk_any (size : Nat) (hs : size ≤ 4) (n : Int) (h1 : 0 ≤ n) (h2 : n ≤ 4294967295) (base : Nat) (v : Value) (l : List UInt8) (hl : l.length ≤ 1000000) (w : World) (hv : OwnB w base v l) (hb : base ≤ w.heap.size) :
    Calls Tryd.prog 27 #[v, .int .i64 n, .int .i64 (size : Int)] w fun e w' => ∃ v', e = .returned v' ∧ OwnB w' base v' (l ++ Pl.putB n size) ∧ KpT base w w' := by
  have HV := Lib.hid hv
  have HB := Lib.hid hb
  have HL := Lib.hid hl
  have E3 := Lib.hid (show n / 16777216 = ((Pl.byteAt n 3).toNat : Int) by rw [Pl.byteAt_toNat, show (256 : Int) ^ 3 = 16777216 by decide]; omega)
  have E2 := Lib.hid (Pl.byte_wrap n 2 65536 (by decide))
  have E1 := Lib.hid (Pl.byte_wrap n 1 256 (by decide))
  have E0 := Lib.hid (Pl.byte_wrap0 n)
  clear hv hb hl
  go_enter Tryd.func27, Tryd.ntmps27
  go_wp2
  go_loopw [0, 7] (fun s0 s7 wr => ∃ (k : Nat) (X : List UInt8) (z : Int), s7 = .int .i64 z ∧ k ≤ size ∧ Hid (z = (k : Int) - 1) ∧ Hid (OwnB wr base s0 (l ++ X)) ∧ Hid (X.length ≤ 4) ∧ Hid (X ++ Pl.putB n k = Pl.putB n size) ∧ Hid (KpT base w wr)) (fun _ s7 _ => (intOf s7 + 1).toNat)
  case atStart => exact ⟨size, [], _, rfl, Nat.le_refl _, Lib.hid rfl, by simpa using HV, Lib.hid (by simp), Lib.hid (by simp), Lib.hid (KpT.refl _ _)⟩
  case round =>
    obtain ⟨k, X, z, rfl, hk, hz, hown, hxl, hx, kb⟩ := hrel
    have HSZ := Lib.hid kb.out.below.size
    have hk4 : k = 0 ∨ k = 1 ∨ k = 2 ∨ k = 3 ∨ k = 4 := by omega
    have RUN := fun (c : UInt8) (i : Int) (hc : i = (c.toNat : Int)) => run_append_bytes (base := base) (l1 := l ++ X) (l2 := [c]) (src := .slice (some ⟨wr.heap.size, 0, none⟩) 1 1) (wr.alloc (.cells #[.int .u8 i] 5)) (OwnB.alloc hown.out _) (Sl.own (obj_new _ _) (by simp) (Nat.le_refl _) (by unfold maxLen; omega) (fun j hj => by simp at hj; subst hj; simp [encB, hc])) (by have := HSZ.out; have := HB.out; simp; omega) (by have := HL.out; have := hxl.out; simp; omega)
    have R := Lib.hid RUN
    clear RUN
    rcases hk4 with rfl | rfl | rfl | rfl | rfl
    · obtain rfl : z = -1 := by have := hz.out; omega
      go_wp2
      go_ret
      exact ⟨_, rfl, by have h := hx.out; simp [Pl.putB] at h; rw [← h]; exact hown.out, kb.out⟩
    · obtain rfl : z = 0 := by have := hz.out; omega
      go_wp2_with (at_builtin; obtain ⟨v', w', hr, ho, hg⟩ := R.out (Pl.byteAt n 0) _ E0.out; refine Lib.wpList_append_run _ rfl (.tmp 14) (.tmp 20) 26 26 rfl _ _ rfl rfl _ _ hr ?_)
      have Q := Lib.hid (putk_step hown.out hx.out hs ho hg kb.out HB.out)
      clear hr ho hg R
      go_roundw
      case rel => exact ⟨0, X ++ [Pl.byteAt n 0], -1, rfl, by omega, Lib.hid (by omega), Q.out.1, Q.out.2.1, Q.out.2.2.1, Q.out.2.2.2⟩
      case measure => simp [intOf]
    · obtain rfl : z = 1 := by have := hz.out; omega
      go_wp2_with (at_builtin; obtain ⟨v', w', hr, ho, hg⟩ := R.out (Pl.byteAt n 1) _ E1.out; refine Lib.wpList_append_run _ rfl (.tmp 14) (.tmp 20) 26 26 rfl _ _ rfl rfl _ _ hr ?_)
      have Q := Lib.hid (putk_step hown.out hx.out hs ho hg kb.out HB.out)
      clear hr ho hg R
      go_roundw
      case rel => exact ⟨1, X ++ [Pl.byteAt n 1], 0, rfl, by omega, Lib.hid (by omega), Q.out.1, Q.out.2.1, Q.out.2.2.1, Q.out.2.2.2⟩
      case measure => simp [intOf]
    · obtain rfl : z = 2 := by have := hz.out; omega
      go_wp2_with (at_builtin; obtain ⟨v', w', hr, ho, hg⟩ := R.out (Pl.byteAt n 2) _ E2.out; refine Lib.wpList_append_run _ rfl (.tmp 14) (.tmp 20) 26 26 rfl _ _ rfl rfl _ _ hr ?_)
      have Q := Lib.hid (putk_step hown.out hx.out hs ho hg kb.out HB.out)
      clear hr ho hg R
      go_roundw
      case rel => exact ⟨2, X ++ [Pl.byteAt n 2], 1, rfl, by omega, Lib.hid (by omega), Q.out.1, Q.out.2.1, Q.out.2.2.1, Q.out.2.2.2⟩
      case measure => simp [intOf]
    · obtain rfl : z = 3 := by have := hz.out; omega
      go_wp2_with (at_builtin; obtain ⟨v', w', hr, ho, hg⟩ := R.out (Pl.byteAt n 3) _ E3.out; refine Lib.wpList_append_run _ rfl (.tmp 14) (.tmp 20) 26 26 rfl _ _ rfl rfl _ _ hr ?_)
      have Q := Lib.hid (putk_step hown.out hx.out hs ho hg kb.out HB.out)
      clear hr ho hg R
      go_roundw
      case rel => exact ⟨3, X ++ [Pl.byteAt n 3], 2, rfl, by omega, Lib.hid (by omega), Q.out.1, Q.out.2.1, Q.out.2.2.1, Q.out.2.2.2⟩
      case measure => simp [intOf]

theorem putk_two (n : Int) (h1 : 0 ≤ n) (h2 : n ≤ 4294967295) (base : Nat) (v : Value) (l : List UInt8) (hl : l.length ≤ 1000000) (w : World) (hv : OwnB w base v l) (hb : base ≤ w.heap.size) :
    Calls Tryd.prog 27 #[v, .int .i64 n, .int .i64 2] w fun e w' => ∃ v', e = .returned v' ∧ OwnB w' base v' (l ++ Pl.putB n 2) ∧ KpT base w w' := putk_any 2 (by omega) n h1 h2 base v l hl w hv hb
theorem putk_four (n : Int) (h1 : 0 ≤ n) (h2 : n ≤ 4294967295) (base : Nat) (v : Value) (l : List UInt8) (hl : l.length ≤ 1000000) (w : World) (hv : OwnB w base v l) (hb : base ≤ w.heap.size) :
    Calls Tryd.prog 27 #[v, .int .i64 n, .int .i64 4] w fun e w' => ∃ v', e = .returned v' ∧ OwnB w' base v' (l ++ Pl.putB n 4) ∧ KpT base w w' := putk_any 4 (by omega) n h1 h2 base v l hl w hv hb
end Go.Proofs.YthbcdpckckellaaDoor

/-! back.most, rises, Encode. -/
namespace Go.Proofs.YthbcdpckckellaaDoor
open Go.RowKit
set_option linter.unusedVariables false
set_option linter.unusedSimpArgs false
namespace Pl
def most (k : Int) : Int := if k = 2 then 3 else if k = 3 then 1000000 else 0
def backHead (k t val : Int) : Prop := 1 ≤ k ∧ k ≤ 3 ∧ 1 ≤ t ∧ t ≤ 8 ∧ 0 ≤ val ∧ val ≤ most k
instance (k t val : Int) : Decidable (backHead k t val) := by unfold backHead; infer_instance
/-- the fault of what is said back -/
def backF (k t val : Int) (A : List Int) : Int := if backHead k t val then (if decide (k = 1) ≠ decide (0 < A.length) ∨ ¬ A.Pairwise (fun x y => x < y) then 3 else pairF A) else 1
def prBytes (L : List Pr) : List UInt8 := L.flatMap fun p => putB p.base 2 ++ putB p.mask 2
def backBytes (k t val : Int) (L : List Pr) : List UInt8 := [byteAt k 0, byteAt t 0] ++ (if k = 2 then [byteAt val 0] else if k = 3 then putB val 4 else prBytes L)
theorem prBytes_succ {L : List Pr} {i : Nat} (h : i < L.length) : prBytes (L.take (i + 1)) = (prBytes (L.take i) ++ putB L[i].base 2) ++ putB L[i].mask 2 := by
  unfold prBytes
  rw [List.take_succ_eq_append_getElem h, List.flatMap_append]
  simp
theorem prBytes_len (L : List Pr) : (prBytes L).length = 4 * L.length := by
  induction L with
  | nil => rfl
  | cons p r ih => unfold prBytes at *; rw [List.flatMap_cons, List.length_append, ih]; simp [putB_length]; omega
end Pl
theorem backMost_any (k : Int) (w : World) : Calls Tryd.prog 25 #[.int .i64 k] w fun e w' => e = .returned (.int .i64 (Pl.most k)) ∧ w = w' := by
  by_cases h2 : k = 2
  · subst h2
    go_enter Tryd.func25, Tryd.ntmps25
    go_wp2_with fail
    go_ret
    exact ⟨rfl, rfl⟩
  · by_cases h3 : k = 3
    · subst h3
      go_enter Tryd.func25, Tryd.ntmps25
      go_wp2_with fail
      go_ret
      exact ⟨rfl, rfl⟩
    · have e : Pl.most k = 0 := by unfold Pl.most; rw [if_neg h2, if_neg h3]
      have d2 : (k == 2) = false := by rw [beq_eq_false_iff_ne]; exact h2
      have d3 : (k == 3) = false := by rw [beq_eq_false_iff_ne]; exact h3
      rw [e]
      clear h2 h3 e
      go_enter Tryd.func25, Tryd.ntmps25
      go_wp2_with fail
      go_ret
      exact ⟨rfl, rfl⟩
theorem rises_steps {A : List Int} (h : ∀ i (hi : i + 1 < A.length), A[i] < A[i + 1]) : A.Pairwise fun x y => x < y := by
  rw [List.pairwise_iff_getElem]
  intro i j hi hj hij
  induction j with
  | zero => omega
  | succ j ih =>
    have := h j hj
    by_cases e : i = j
    · subst e; exact this
    · have := ih (by omega) (by omega); omega
theorem drewN_two (w : World) (a b : Nat) : (w.drewN a).drewN b = w.drewN (a + b) := by
  simp [World.drewN, Nat.add_assoc]
set_option maxRecDepth 100000 in
set_option maxHeartbeats 2000000 in
theorem backRises_any (v : Value) (A : List Int) (w : World) (h : Sl encI w v A) :
    Calls Tryd.prog 26 #[v] w fun e w' => e = .returned (.bool (decide (A.Pairwise fun x y => x < y))) ∧ ∃ n, w' = w.drewN n := by
  have hm := h.len
  unfold maxLen at hm
  obtain ⟨oa, c, rfl, rd⟩ : ∃ oa c, v = .slice oa A.length c ∧ ∀ i (hi : i < A.length), ∃ b f, oa = some ⟨b, f, none⟩ ∧ w.cell? ⟨b, f + i, none⟩ = some (.int .i64 A[i]) := by
    rcases h with ⟨h1, oa, cap, rfl, _⟩ | ⟨b, off, cap, rfl, _, _, h2⟩
    · subst h1
      exact ⟨oa, cap, rfl, fun i hi => by simp at hi⟩
    · exact ⟨_, cap, rfl, fun i hi => ⟨b, off, rfl, h2 i hi⟩⟩
  have RD := Lib.hid rd
  clear rd h
  go_enter Tryd.func26, Tryd.ntmps26
  go_upto_region 2 with fail
  go_loopw [3] (fun s3 wr => ∃ i n : Nat, 1 ≤ i ∧ i ≤ max 1 A.length ∧ s3 = .int .i64 i ∧ wr = w.drewN n ∧ Hid (∀ j (hj : j + 1 < i) (hl : j + 1 < A.length), A[j] < A[j + 1])) (fun s3 _ => A.length + 1 - (intOf s3).toNat)
  case atStart => exact ⟨1, 0, by omega, by omega, rfl, rfl, Lib.hid (fun j hj => by omega)⟩
  case round =>
    as_aux_lemma =>
    obtain ⟨i, n, hi1, hi2, rfl, rfl, HN⟩ := hrel
    by_cases hlt : i < A.length
    · have e1 : (i : Int) < (A.length : Int) := by omega
      obtain ⟨b, f, rfl, q1⟩ := RD.out i hlt
      obtain ⟨b', f', e, q0⟩ := RD.out (i - 1) (by omega)
      cases e
      have HB := Lib.hid (show ¬ A[i - 1] < A[i] → (decide (A.Pairwise fun x y => x < y)) = false from fun h => decide_eq_false (fun hp => h ((List.pairwise_iff_getElem.1 hp) (i - 1) i (by omega) hlt (by omega))))
      have HG := Lib.hid (show A[i - 1] < A[i] → ∀ j (hj : j + 1 < i + 1) (hl : j + 1 < A.length), A[j] < A[j + 1] from fun h j hj hl => by
        by_cases e : j = i - 1
        · subst e
          have e2 : i - 1 + 1 = i := by omega
          simp only [e2]
          exact h
        · exact HN.out j (by omega) hl)
      generalize A[i] = x at *
      generalize A[i - 1] = y at *
      have i1 : (0 : Int) ≤ ((i - 1 : Nat) : Int) := by omega
      have i2 : ((i - 1 : Nat) : Int) < (A.length : Int) := by omega
      have i4 : IntKind.i64.wrap ((i : Int) - 1) = ((i - 1 : Nat) : Int) := by rw [IntKind.wrap_i64]; omega
      by_cases hx : y < x
      · have G2 := Lib.hid (HG.out hx)
        have d1 : decide (x ≤ y) = false := by simp; omega
        clear HB HG hx
        go_wp2_with fail
        go_quiet (fail)
        go_wp2_with fail
        go_roundw
        case measure => simp only [intOf]; omega
        case rel => exact ⟨i + 1, _, by omega, by omega, by simp, rfl, G2⟩
      · have B2 := Lib.hid (HB.out hx)
        have d1 : decide (x ≤ y) = true := by simp; omega
        clear HB HG hx
        go_wp2_with fail
        go_quiet (fail)
        go_wp2_with fail
        go_ret
        exact ⟨by rw [B2.out]; first | rfl | simp, n + nq, drewN_two _ _ _⟩
    · have e1 : ¬ (i : Int) < (A.length : Int) := by omega
      have PT := Lib.hid (show decide (A.Pairwise fun x y => x < y) = true from decide_eq_true (rises_steps fun j hj => HN.out j (by omega) hj))
      clear hlt
      go_wp2_with fail
      go_ret
      exact ⟨by rw [PT.out]; first | rfl | simp, _, rfl⟩
/-- what is said back, in a box -/
def BkBox (w : World) (g : Nat) (k t : Int) (lv : Value) (val : Int) : Prop := w.heap[g]? = some (.cells #[.int .i64 k, .int .i64 t, lv, .int .i64 val] 25 (0, 0))
theorem BkBox.cells {w : World} {g : Nat} {k t val : Int} {lv : Value} (h : BkBox w g k t lv val) : w.cell? ⟨g, 0, none⟩ = some (.int .i64 k) ∧ w.cell? ⟨g, 1, none⟩ = some (.int .i64 t) ∧ w.cell? ⟨g, 2, none⟩ = some lv ∧ w.cell? ⟨g, 3, none⟩ = some (.int .i64 val) := ⟨obj_cell h rfl, obj_cell h rfl, obj_cell h rfl, obj_cell h rfl⟩
abbrev bkV (k t : Int) (lv : Value) (val : Int) : Value := .agg #[.int .i64 k, .int .i64 t, lv, .int .i64 val]
theorem Pl.head_not {k t val : Int} (h : ¬ Pl.backHead k t val) : k < 1 ∨ (1 ≤ k ∧ 3 < k) ∨ (1 ≤ k ∧ k ≤ 3 ∧ t < 1) ∨ (1 ≤ k ∧ k ≤ 3 ∧ 1 ≤ t ∧ 8 < t) ∨ (1 ≤ k ∧ k ≤ 3 ∧ 1 ≤ t ∧ t ≤ 8 ∧ val < 0) ∨ (1 ≤ k ∧ k ≤ 3 ∧ 1 ≤ t ∧ t ≤ 8 ∧ 0 ≤ val ∧ Pl.most k < val) := by
  unfold Pl.backHead at h; omega
theorem backEnc_head (k t val : Int) (oa : Option Addr) (n c : Nat) (h : ¬ Pl.backHead k t val) (w : World) :
    Calls Tryd.prog 12 #[bkV k t (.slice oa n c) val] w fun e w' => e = .returned (.tuple #[.slice none 0 0, .iface 54 (.int .i64 1)]) ∧ Below w.heap.size w w' := by
  have HC := Pl.head_not h
  have MA := Lib.hid (fun y => backMost_any k y)
  have KA : Hid (Below w.heap.size w (w.alloc (.cells #[.int .i64 k, .int .i64 t, .slice oa n c, .int .i64 val] 25))) := Lib.hid ((Below.refl _ _).alloc (Nat.le_refl _) _)
  clear h
  go_enter Tryd.func12, Tryd.ntmps12
  go_upto_region 1 with fail
  have BX : Hid (BkBox (w.alloc (.cells #[.int .i64 k, .int .i64 t, .slice oa n c, .int .i64 val] 25)) w.heap.size k t (.slice oa n c) val) := Lib.hid (obj_new _ _)
  refine abs_b (fun y => Hid (BkBox y w.heap.size k t (.slice oa n c) val) ∧ Hid (Below w.heap.size w y)) ⟨BX, KA⟩ ?_
  clear BX KA
  rintro y ⟨BX, KA⟩
  obtain ⟨c0, c1, c2, c3⟩ := BX.out.cells
  generalize hM : Pl.most k = mk at HC MA
  have MB := Lib.hid (show ∀ y, Calls Tryd.prog 25 #[.int .i64 k] y fun e w' => e = .returned (.int .i64 mk) ∧ y = w' from fun y => by rw [← hM]; exact backMost_any k y)
  clear MA hM
  rcases HC with h1 | ⟨h1, h2⟩ | ⟨h1, h2, h3⟩ | ⟨h1, h2, h3, h4⟩ | ⟨h1, h2, h3, h4, h5⟩ | ⟨h1, h2, h3, h4, h5, h6⟩
  · have d1 : decide (k < 1) = true := decide_eq_true (by omega)
    clear h1
    go_quiet ((go_at_call 25; exact Calls.quietS (MB.out _)))
    go_wp2_with fail
    go_ret2
    exact ⟨rfl, Below.drewN KA.out _⟩
  · have d1 : decide (k < 1) = false := decide_eq_false (by omega)
    have d2 : decide (3 < k) = true := decide_eq_true (by omega)
    clear h1 h2
    go_quiet ((go_at_call 25; exact Calls.quietS (MB.out _)))
    go_wp2_with fail
    go_ret2
    exact ⟨rfl, Below.drewN KA.out _⟩
  · have d1 : decide (k < 1) = false := decide_eq_false (by omega)
    have d2 : decide (3 < k) = false := decide_eq_false (by omega)
    have d3 : decide (t < 1) = true := decide_eq_true (by omega)
    clear h1 h2 h3
    go_quiet ((go_at_call 25; exact Calls.quietS (MB.out _)))
    go_wp2_with fail
    go_ret2
    exact ⟨rfl, Below.drewN KA.out _⟩
  · have d1 : decide (k < 1) = false := decide_eq_false (by omega)
    have d2 : decide (3 < k) = false := decide_eq_false (by omega)
    have d3 : decide (t < 1) = false := decide_eq_false (by omega)
    have d4 : decide (8 < t) = true := decide_eq_true (by omega)
    clear h1 h2 h3 h4
    go_quiet ((go_at_call 25; exact Calls.quietS (MB.out _)))
    go_wp2_with fail
    go_ret2
    exact ⟨rfl, Below.drewN KA.out _⟩
  · have d1 : decide (k < 1) = false := decide_eq_false (by omega)
    have d2 : decide (3 < k) = false := decide_eq_false (by omega)
    have d3 : decide (t < 1) = false := decide_eq_false (by omega)
    have d4 : decide (8 < t) = false := decide_eq_false (by omega)
    have d5 : decide (val < 0) = true := decide_eq_true (by omega)
    clear h1 h2 h3 h4 h5
    go_quiet ((go_at_call 25; exact Calls.quietS (MB.out _)))
    go_wp2_with fail
    go_ret2
    exact ⟨rfl, Below.drewN KA.out _⟩
  · have d1 : decide (k < 1) = false := decide_eq_false (by omega)
    have d2 : decide (3 < k) = false := decide_eq_false (by omega)
    have d3 : decide (t < 1) = false := decide_eq_false (by omega)
    have d4 : decide (8 < t) = false := decide_eq_false (by omega)
    have d5 : decide (val < 0) = false := decide_eq_false (by omega)
    have d6 : decide (mk < val) = true := decide_eq_true (by omega)
    clear h1 h2 h3 h4 h5 h6
    go_quiet ((go_at_call 25; exact Calls.quietS (MB.out _)))
    go_wp2_with fail
    go_ret2
    exact ⟨rfl, Below.drewN KA.out _⟩
set_option maxRecDepth 100000 in
set_option maxHeartbeats 2000000 in
theorem backEnc_1 (k t val : Int) (oa : Option Addr) (c : Nat) (A : List Int) (h : Pl.backHead k t val) (w : World) (hA : Sl encI w (.slice oa A.length c) A) :
    Calls Tryd.prog 12 #[bkV k t (.slice oa A.length c) val] w fun e w' => Below w.heap.size w w' ∧ ((Pl.backF k t val A ≠ 0 ∧ e = .returned (.tuple #[.slice none 0 0, .iface 54 (.int .i64 (Pl.backF k t val A))])) ∨
      (Pl.backF k t val A = 0 ∧ ∃ (v : Value) (L : List Pr), e = .returned (.tuple #[v, .nilIface]) ∧ Pl.PairsOf (· ∈ A) L ∧ OwnB w' w.heap.size v (Pl.backBytes k t val L))) := by
  have HF := Lib.hid (show Pl.backF k t val A = if decide (k = 1) ≠ decide (0 < A.length) ∨ ¬ A.Pairwise (fun x y => x < y) then 3 else Pl.pairF A from by unfold Pl.backF; rw [if_pos h])
  have KA : Hid (Below w.heap.size w (w.alloc (.cells #[.int .i64 k, .int .i64 t, .slice oa A.length c, .int .i64 val] 25))) := Lib.hid ((Below.refl _ _).alloc (Nat.le_refl _) _)
  have hA2 := hA.len
  unfold maxLen at hA2
  obtain ⟨n, hn⟩ : ∃ n, A.length = n := ⟨_, rfl⟩
  rw [hn] at hA hA2 HF KA ⊢
  have HA := Lib.hid hA
  have HNL := Lib.hid hn
  obtain ⟨h1, h2, h3, h4, h5, h6⟩ := h
  clear hA hn
  go_enter Tryd.func12, Tryd.ntmps12
  go_upto_region 1 with fail
  have BX : Hid (BkBox (w.alloc (.cells #[.int .i64 k, .int .i64 t, .slice oa n c, .int .i64 val] 25)) w.heap.size k t (.slice oa n c) val) := Lib.hid (obj_new _ _)
  refine abs_b (fun y => Hid (BkBox y w.heap.size k t (.slice oa n c) val) ∧ Hid (Below w.heap.size w y)) ⟨BX, KA⟩ ?_
  clear BX KA
  rintro y ⟨BX, KA⟩
  obtain ⟨c0, c1, c2, c3⟩ := BX.out.cells
  generalize hM : Pl.most k = mk at h6
  have MB := Lib.hid (show ∀ y, Calls Tryd.prog 25 #[.int .i64 k] y fun e w' => e = .returned (.int .i64 mk) ∧ y = w' from fun y => by rw [← hM]; exact backMost_any k y)
  have d1 : decide (k < 1) = false := decide_eq_false (by omega)
  have d2 : decide (3 < k) = false := decide_eq_false (by omega)
  have d3 : decide (t < 1) = false := decide_eq_false (by omega)
  have d4 : decide (8 < t) = false := decide_eq_false (by omega)
  have d5 : decide (val < 0) = false := decide_eq_false (by omega)
  have d6 : decide (mk < val) = false := decide_eq_false (by omega)
  have HH := Lib.hid (show 1 ≤ k ∧ k ≤ 3 ∧ 1 ≤ t ∧ t ≤ 8 ∧ 0 ≤ val ∧ val ≤ mk ∧ Pl.most k = mk from ⟨h1, h2, h3, h4, h5, h6, hM⟩)
  clear h1 h2 h3 h4 h5 h6 hM
  go_quiet ((go_at_call 25; exact Calls.quietS (MB.out _)))
  clear d1 d2 d3 d4 d5 d6 MB
  go_upto_region 3 with fail
  refine abs_b (fun z => Hid (BkBox z w.heap.size k t (.slice oa n c) val) ∧ Hid (Below w.heap.size w z)) ⟨Lib.hid (show BkBox (y.drewN _) w.heap.size k t (.slice oa n c) val from BX.out), Lib.hid (Below.drewN KA.out _)⟩ ?_
  clear BX KA c0 c1 c2 c3
  rintro z ⟨BX, KZ⟩
  obtain ⟨c0, c1, c2, c3⟩ := BX.out.cells
  obtain ⟨b1, hb1⟩ : ∃ b1, decide (k = 1) = b1 := ⟨_, rfl⟩
  obtain ⟨b2, hb2⟩ : ∃ b2, decide (0 < n) = b2 := ⟨_, rfl⟩
  rw [hb1, hb2] at HF
  have e1 : (k == 1) = b1 := by rw [← hb1, Bool.eq_iff_iff, beq_iff_eq, decide_eq_true_iff]
  have e2 : (b2 = true ∧ 0 < n ∧ (0 : Int) < (n : Int)) ∨ (b2 = false ∧ n = 0) := by
    rw [← hb2]
    rcases Nat.eq_zero_or_pos n with q | q
    · exact .inr ⟨by simp [q], q⟩
    · exact .inl ⟨by simp [q], q, by omega⟩
  have HB := Lib.hid (And.intro hb1 hb2)
  clear hb1 hb2
  by_cases hne : b1 = b2
  case neg =>
    have F3 := Lib.hid (show Pl.backF k t val A = 3 from by rw [HF.out, if_pos (.inl hne)])
    clear HF HB
    rcases e2 with ⟨rfl, n1, n2⟩ | ⟨rfl, rfl⟩
    · have hb : b1 = false := by cases b1 <;> simp_all
      subst hb
      clear hne
      go_wp2_with fail
      go_ret2
      exact ⟨KZ.out, .inl ⟨by rw [F3.out]; decide, by rw [F3.out]; rfl⟩⟩
    · have hb : b1 = true := by cases b1 <;> simp_all
      subst hb
      clear hne
      go_wp2_with fail
      go_ret2
      exact ⟨KZ.out, .inl ⟨by rw [F3.out]; decide, by rw [F3.out]; rfl⟩⟩
  subst hne
  have RS := Lib.hid (backRises_any (.slice oa n c) A z (HA.out.below KZ.out))
  by_cases hr : A.Pairwise fun x y => x < y
  case neg =>
    have F3 := Lib.hid (show Pl.backF k t val A = 3 from by rw [HF.out, if_pos (.inr hr)])
    rw [decide_eq_false hr] at RS
    clear hr HF
    rcases e2 with ⟨rfl, n1, n2⟩ | ⟨rfl, rfl⟩
    all_goals
      go_wp2_with (go_at_call 26; (with_reducible refine RS.out.mono ?_); rintro e z2 ⟨rfl, nn, rfl⟩)
      go_ret2
      exact ⟨Below.drewN KZ.out _, .inl ⟨by rw [F3.out]; decide, by rw [F3.out]; rfl⟩⟩
  have FP := Lib.hid (show Pl.backF k t val A = Pl.pairF A from by rw [HF.out, if_neg (by rintro (h | h); exact h rfl; exact h hr)])
  rw [decide_eq_true hr] at RS
  clear hr HF
  have SA := Lib.hid (HA.out.below KZ.out)
  by_cases hp : Pl.pairF A = 0
  case neg =>
    have HP := Lib.hid hp
    clear hp
    rcases e2 with ⟨rfl, n1, n2⟩ | ⟨rfl, rfl⟩
    all_goals
      go_wp2_with (first
        | (go_at_call 26; (with_reducible refine RS.out.mono ?_); rintro e z2 ⟨rfl, nn, rfl⟩; have PB := Lib.hid (backPairs_bad _ A HP.out (z.drewN nn) (SA.out.below (Below.drewN (Below.refl _ _) nn))))
        | (go_at_call 5; (with_reducible refine PB.out.mono ?_); rintro e z3 ⟨rfl, k3⟩; have K3 := Lib.hid ((Below.drewN KZ.out nn).trans (k3.mono (Below.drewN KZ.out nn).size))))
      go_ret2
      exact ⟨K3.out, .inl ⟨by rw [FP.out]; exact HP.out, by rw [FP.out]; rfl⟩⟩
  have HP := Lib.hid hp
  clear hp
  obtain ⟨h1, h2, h3, h4, h5, h6, hM⟩ := HH.out
  rcases e2 with ⟨rfl, n1, n2⟩ | ⟨rfl, rfl⟩
  · obtain rfl : k = 1 := by have := HB.out.1; simpa using this
    go_upto_region 8 with (first
      | (go_at_call 26; (with_reducible refine RS.out.mono ?_); rintro e z2 ⟨rfl, nn, rfl⟩; have PB := Lib.hid (backPairs_ok _ A HP.out (z.drewN nn) (SA.out.below (Below.drewN (Below.refl _ _) nn))))
      | (go_at_call 5; (with_reducible refine PB.out.mono ?_); rintro e z3 ⟨L, oL, cL, rfl, p1, p2, p3, p4, -, k3⟩; have K3 := Lib.hid ((Below.drewN KZ.out nn).trans (k3.mono (Below.drewN KZ.out nn).size)); have PL := Lib.hid p1; have PO := Lib.hid p2; have BX3 := Lib.hid (show BkBox z3 w.heap.size 1 t (.slice oa n c) val from Below.heapAt (k3.mono (Nat.le_refl _)) BX.out (lt_of_block BX.out)); clear p1 p2 k3))
    clear c0 c1 c2 c3 RS PB
    have hL2 : L.length ≤ 200 := by omega
    refine abs_b (fun y => Hid (BkBox y w.heap.size 1 t (.slice oa n c) val) ∧ Hid (IsPrs y (.slice oL L.length cL) L) ∧ Hid (Below w.heap.size w y)) ⟨BX3, PL, K3⟩ ?_
    clear BX3 PL K3 SA BX KZ p3 p4
    rintro y ⟨BX, PL, KY⟩
    obtain ⟨c0, c1, c2, c3⟩ := BX.out.cells
    have BY : Pl.byteAt 1 0 = 1 := by decide
    have BT : t = ((Pl.byteAt t 0).toNat : Int) := by rw [Pl.byteAt_toNat, show (256 : Int) ^ 0 = 1 by decide]; omega
    obtain ⟨oL', cL', e', hlL, hcL, -, rL⟩ := prs_read PL.out
    cases e'
    unfold maxLen at hcL
    obtain ⟨gy, hgy⟩ : ∃ gy, y.heap.size = gy := ⟨_, rfl⟩
    have RL := Lib.hid (show ∀ u, Below gy y u → ∀ k (hk : k < L.length), ∃ g f, oL = some ⟨g, f, none⟩ ∧ u.cell? ⟨g, f + k * 2, none⟩ = some (.int .i64 L[k].base) ∧ u.cell? ⟨g, f + k * 2 + 1, none⟩ = some (.int .i64 L[k].mask) from fun u kk k hk => by
      obtain ⟨g, f, e, hb, q0, q1, -⟩ := rL k hk
      exact ⟨g, f, e, (kk.cell (p := ⟨g, f + k * 2, none⟩) (by show g < gy; omega)).trans q0, (kk.cell (p := ⟨g, f + k * 2 + 1, none⟩) (by show g < gy; omega)).trans q1⟩)
    have RG := Lib.hid (fun i (hi : i < L.length) => PO.out.ok L[i] (List.getElem_mem _))
    have SQ := Lib.hid (Pl.pairF_all HP.out)
    have kA : Below gy y (y.alloc (.cells #[.int .u8 1, .int .u8 t] 5)) := (Below.refl _ _).alloc (by omega) _
    have OW : Hid (OwnB (y.alloc (.cells #[.int .u8 1, .int .u8 t] 5)) gy (.slice (some ⟨gy, 0, none⟩) 2 2) [Pl.byteAt 1 0, Pl.byteAt t 0]) := Lib.hid (by rw [← hgy]; exact OwnB.lit y _ _ 2 rfl (by rw [BY]; simp [encB, ← BT]) (by simp) (Nat.le_refl _))
    have BX4 : Hid (BkBox (y.alloc (.cells #[.int .u8 1, .int .u8 t] 5)) w.heap.size 1 t (.slice oa n c) val) := Lib.hid (Below.heapAt kA BX.out (by have := lt_of_block BX.out; omega))
    have HWG := Lib.hid (show w.heap.size ≤ gy from by rw [← hgy]; exact KY.out.size)
    have KA := Lib.hid kA
    have HZS := Lib.hid (show gy ≤ (y.alloc (.cells #[.int .u8 1, .int .u8 t] 5)).heap.size from by simp; omega)
    clear kA BT BY rL
    go_upto_region 9 with fail
    refine abs_b (fun z => Hid (OwnB z gy (.slice (some ⟨gy, 0, none⟩) 2 2) [Pl.byteAt 1 0, Pl.byteAt t 0]) ∧ Hid (BkBox z w.heap.size 1 t (.slice oa n c) val) ∧ Hid (Below gy y z) ∧ Hid (gy ≤ z.heap.size)) ⟨OW, BX4, KA, HZS⟩ ?_
    try rw [hgy]
    clear OW BX4 KA HZS BX PL c0 c1 c2 c3 hgy
    rintro z ⟨OW, BX, KZ, HZS⟩
    obtain ⟨c0, c1, c2, c3⟩ := BX.out.cells
    have K0 := Lib.hid (KpT.refl gy z)
    go_upto_region 15 with fail
    clear c0 c1 c2 c3 BX
    go_loopw [6, 8, 92] (fun s6 _ s92 wr => ∃ i : Nat, i ≤ L.length ∧ s92 = .int .i64 i ∧ Hid (OwnB wr gy s6 ([Pl.byteAt 1 0, Pl.byteAt t 0] ++ Pl.prBytes (L.take i))) ∧ Hid (KpT gy z wr)) (fun _ _ s92 _ => L.length - (intOf s92).toNat)
    case atStart => exact ⟨0, by omega, rfl, by simpa [Pl.prBytes] using OW, K0⟩
    case round =>
      as_aux_lemma =>
      clear K0 OW
      obtain ⟨i, hi, rfl, OW, KR⟩ := hrel
      by_cases hlt : i < L.length
      · have e1 : (i : Int) < (L.length : Int) := by omega
        obtain ⟨g, fo, rfl, q0, q1⟩ := RL.out _ (KZ.out.trans KR.out.below) i hlt
        have PS := Lib.hid (Pl.prBytes_succ hlt)
        obtain ⟨oS, om1, om2, -⟩ := RG.out i hlt
        have hb := SQ.out _ oS
        have hln : ([Pl.byteAt 1 0, Pl.byteAt t 0] ++ Pl.prBytes (L.take i)).length = 2 + 4 * i := by
          rw [List.length_append, Pl.prBytes_len, List.length_take, Nat.min_eq_left hi]; rfl
        generalize L[i] = p at *
        obtain ⟨b, m⟩ := p
        dsimp only at q0 q1 om1 om2 hb PS
        obtain ⟨hb1, hb2⟩ := hb
        obtain ⟨X, hX⟩ : ∃ X, [Pl.byteAt 1 0, Pl.byteAt t 0] ++ Pl.prBytes (L.take i) = X := ⟨_, rfl⟩
        have PS2 := Lib.hid (show [Pl.byteAt 1 0, Pl.byteAt t 0] ++ Pl.prBytes (L.take (i + 1)) = (X ++ Pl.putB b 2) ++ Pl.putB m 2 from by rw [PS.out, ← hX]; simp)
        rw [hX] at OW hln
        clear hX PS
        obtain ⟨gb, hgb⟩ : ∃ gb, wr.heap.size = gb := ⟨_, rfl⟩
        have hgw : gy ≤ gb := by rw [← hgb]; exact Nat.le_trans HZS.out KR.out.below.size
        have kA : Below wr.heap.size wr (wr.alloc (.cells #[.int .i64 b, .int .i64 m] 53)) := (Below.refl _ _).alloc (Nat.le_refl _) _
        have PB0 : Hid (PrBox (wr.alloc (.cells #[.int .i64 b, .int .i64 m] 53)) gb b m) := Lib.hid (by rw [← hgb]; exact obj_new _ _)
        have OW0 := Lib.hid (OW.out.below kA)
        have KR0 := Lib.hid (KR.out.trans (KpT.of_below (by omega) kA))
        go_upto_region 17 with fail
        refine abs_b (fun y => Hid (PrBox y gb b m) ∧ Hid (OwnB y gy u6 X) ∧ Hid (KpT gy z y)) ⟨PB0, OW0, KR0⟩ ?_
        try rw [hgb]
        clear PB0 OW0 KR0 kA OW KR hgb q0 q1
        rintro y2 ⟨PB, OW, KR⟩
        obtain ⟨v6, hv6⟩ : ∃ v6, u6 = v6 := ⟨_, rfl⟩
        have hgs := Lib.hid HZS.out
        have P1 := Lib.hid (show ∀ u, (PrBox u gb b m ∧ OwnB u gy u6 X ∧ KpT gy z u) → Calls Tryd.prog 27 #[u6, .int .i64 b, .int .i64 2] u fun e w' => ∃ v', e = .returned v' ∧ (PrBox w' gb b m ∧ OwnB w' gy v' (X ++ Pl.putB b 2) ∧ KpT gy z w') from fun u ⟨h1, h2, h3⟩ => by
          have hs := Nat.le_trans hgs.out h3.below.size
          exact (putk_two b hb1 (by omega) gy u6 X (by omega) u h2 hs).mono fun e w' ⟨v', q1, q2, q3⟩ => ⟨v', q1, q3.keep _ _ _ (by decide) h1, q2, h3.trans q3⟩)
        have P2 := Lib.hid (show ∀ v u, (PrBox u gb b m ∧ OwnB u gy v (X ++ Pl.putB b 2) ∧ KpT gy z u) → Calls Tryd.prog 27 #[v, .int .i64 m, .int .i64 2] u fun e w' => ∃ v', e = .returned v' ∧ PrBox w' gb b m ∧ OwnB w' gy v' ((X ++ Pl.putB b 2) ++ Pl.putB m 2) ∧ KpT gy z w' from fun v u ⟨h1, h2, h3⟩ => by
          have hs := Nat.le_trans hgs.out h3.below.size
          exact (putk_two m om1 (by omega) gy v _ (by rw [List.length_append, Pl.putB_length]; omega) u h2 hs).mono fun e w' ⟨v', q1, q2, q3⟩ => ⟨v', q1, q3.keep _ _ _ (by decide) h1, q2, h3.trans q3⟩)
        have hq0 : PrBox y2 gb b m ∧ OwnB y2 gy u6 X ∧ KpT gy z y2 := ⟨PB.out, OW.out, KR.out⟩
        have hq0d : PrBox y2.drew gb b m ∧ OwnB y2.drew gy u6 X ∧ KpT gy z y2.drew := ⟨PB.out, OW.out, KR.out.drew⟩
        obtain ⟨c0, c1⟩ := PB.out.cells
        have d0 : y2.drew.cell? ⟨gb, 0, none⟩ = some (.int .i64 b) := c0
        have d1 : y2.drew.cell? ⟨gb, 1, none⟩ = some (.int .i64 m) := c1
        have HQ0 := Lib.hid hq0
        have HQ0d := Lib.hid hq0d
        clear hv6 hq0 hq0d PB OW KR
        go_region_held3 (fun w' => w'.cell? ⟨gb, 0, none⟩ = some (.int .i64 b) ∧ w'.cell? ⟨gb, 1, none⟩ = some (.int .i64 m))
          (first | (with_reducible assumption) | (refine And.intro ?_ ?_ <;> with_reducible assumption))
          (first
          | (go_at_call 27; (with_reducible refine (P1.out _ HQ0.out).mono ?_); rintro e x1 ⟨v99, rfl, hq1⟩; have hc1 := hq1.1.cells; have g0 := hc1.1; have g1 := hc1.2; have HQ1 := Lib.hid hq1; clear hq1 hc1)
          | (go_at_call 27; (with_reducible refine (P1.out _ HQ0d.out).mono ?_); rintro e x1 ⟨v99, rfl, hq1⟩; have hc1 := hq1.1.cells; have g0 := hc1.1; have g1 := hc1.2; have HQ1 := Lib.hid hq1; clear hq1 hc1)
          | (go_at_call 27; (with_reducible refine (P2.out _ _ HQ1.out).mono ?_); rintro e x2 ⟨v102, rfl, hq2⟩; have hc2 := hq2.1.cells; have f0 := hc2.1; have f1 := hc2.2; have HQ2 := Lib.hid hq2; clear hq2 hc2))
        have OW2 := Lib.hid (show OwnB x2 gy v102 ([Pl.byteAt 1 0, Pl.byteAt t 0] ++ Pl.prBytes (L.take (i + 1))) from by rw [PS2.out]; exact HQ2.out.2.1)
        have KR2 := Lib.hid HQ2.out.2.2
        clear HQ2 HQ1 HQ0 HQ0d P1 P2
        go_wp2_with fail
        go_roundw
        case measure => simp only [intOf]; omega
        case rel => exact ⟨i + 1, by omega, by simp, OW2, KR2⟩
      · have hie : i = L.length := by omega
        subst hie
        have e1 : ¬ (L.length : Int) < (L.length : Int) := by omega
        rw [List.take_length] at OW
        clear hlt
        obtain ⟨o6, n6, c6, rfl⟩ : ∃ o6 n6 c6, u6 = .slice o6 n6 c6 := by
          rcases OW.out.forms with ⟨rfl, _⟩ | ⟨g, cap, rfl, _⟩
          · exact ⟨_, _, _, rfl⟩
          · exact ⟨_, _, _, rfl⟩
        go_wp2_with fail
        go_ret2
        refine ⟨?_, .inr ⟨?_, _, rfl, L, PO.out, ?_⟩⟩
        · exact KY.out.trans ((KZ.out.trans KR.out.below).mono HWG.out)
        · rw [FP.out]; exact HP.out
        · have := OW.out.mono HWG.out
          unfold Pl.backBytes
          rw [if_neg (by decide), if_neg (by decide)]
          exact this
  · have hk23 : k = 2 ∨ k = 3 := by
      have := HB.out.1
      simp at this
      omega
    have KF := Lib.hid (show ∀ (v : Value) (L : List Pr) (w' : World) (X : List UInt8), X = Pl.backBytes k t val L → Pl.PairsOf (· ∈ A) L → OwnB w' w.heap.size v X → Below w.heap.size w w' → Below w.heap.size w w' ∧ ((Pl.backF k t val A ≠ 0 ∧ (Ending.returned (.tuple #[v, .nilIface])) = .returned (.tuple #[.slice none 0 0, .iface 54 (.int .i64 (Pl.backF k t val A))])) ∨
      (Pl.backF k t val A = 0 ∧ ∃ (v2 : Value) (L : List Pr), Ending.returned (.tuple #[v, .nilIface]) = .returned (.tuple #[v2, .nilIface]) ∧ Pl.PairsOf (· ∈ A) L ∧ OwnB w' w.heap.size v2 (Pl.backBytes k t val L))) from fun v L w' X hX h1 h2 h3 => ⟨h3, .inr ⟨by rw [FP.out]; exact HP.out, v, L, rfl, h1, by rw [← hX]; exact h2⟩⟩)
    have BT : Hid (t = ((Pl.byteAt t 0).toNat : Int)) := Lib.hid (by rw [Pl.byteAt_toNat, show (256 : Int) ^ 0 = 1 by decide]; omega)
    have B2 : Pl.byteAt 2 0 = 2 := by decide
    have B3 : Pl.byteAt 3 0 = 3 := by decide
    rcases hk23 with rfl | rfl
    · obtain rfl : mk = 3 := by rw [← hM]; rfl
      have BV : Hid (val = ((Pl.byteAt val 0).toNat : Int)) := Lib.hid (by rw [Pl.byteAt_toNat, show (256 : Int) ^ 0 = 1 by decide]; omega)
      go_upto_region 8 with (first
        | (go_at_call 26; (with_reducible refine RS.out.mono ?_); rintro e z2 ⟨rfl, nn, rfl⟩; have PB := Lib.hid (backPairs_ok _ A HP.out (z.drewN nn) (SA.out.below (Below.drewN (Below.refl _ _) nn))))
        | (go_at_call 5; (with_reducible refine PB.out.mono ?_); rintro e z3 ⟨L, oL, cL, rfl, p1, p2, p3, p4, -, k3⟩; have K3 := Lib.hid ((Below.drewN KZ.out nn).trans (k3.mono (Below.drewN KZ.out nn).size)); have PO := Lib.hid p2; have BX3 := Lib.hid (show BkBox z3 w.heap.size 2 t (.slice oa 0 c) val from Below.heapAt (k3.mono (Nat.le_refl _)) BX.out (lt_of_block BX.out)); clear p1 p2 k3))
      clear c0 c1 c2 c3 RS PB
      refine abs_b (fun y => Hid (BkBox y w.heap.size 2 t (.slice oa 0 c) val) ∧ Hid (Below w.heap.size w y)) ⟨BX3, K3⟩ ?_
      clear BX3 K3 SA BX KZ p3 p4
      rintro y ⟨BX, KY⟩
      obtain ⟨c0, c1, c2, c3⟩ := BX.out.cells
      have kA : Below y.heap.size y (y.alloc (.cells #[.int .u8 2, .int .u8 t] 5)) := (Below.refl _ _).alloc (Nat.le_refl _) _
      have OW : Hid (OwnB (y.alloc (.cells #[.int .u8 2, .int .u8 t] 5)) w.heap.size (.slice (some ⟨y.heap.size, 0, none⟩) 2 2) [Pl.byteAt 2 0, Pl.byteAt t 0]) := Lib.hid (OwnB.lit y _ _ 2 rfl (by rw [B2]; simp [encB, ← BT.out]) (by simp) KY.out.size)
      have BX4 : Hid (BkBox (y.alloc (.cells #[.int .u8 2, .int .u8 t] 5)) w.heap.size 2 t (.slice oa 0 c) val) := Lib.hid (Below.heapAt kA BX.out (lt_of_block BX.out))
      have KY4 := Lib.hid (KY.out.trans (kA.mono KY.out.size))
      clear kA B2 B3
      go_upto_region 9 with fail
      refine abs_b (fun z => Hid (OwnB z w.heap.size (.slice (some ⟨y.heap.size, 0, none⟩) 2 2) [Pl.byteAt 2 0, Pl.byteAt t 0]) ∧ Hid (BkBox z w.heap.size 2 t (.slice oa 0 c) val) ∧ Hid (Below w.heap.size w z)) ⟨OW, BX4, KY4⟩ ?_
      generalize y.heap.size = gy at *
      clear OW BX4 KY4 BX KY c0 c1 c2 c3
      rintro z ⟨OW, BX, KZ⟩
      obtain ⟨c0, c1, c2, c3⟩ := BX.out.cells
      have kB : Below z.heap.size z (z.alloc (.cells #[.int .u8 val] 5)) := (Below.refl _ _).alloc (Nat.le_refl _) _
      obtain ⟨v', w', hr, ho, hg⟩ := run_append_bytes (base := w.heap.size) (l2 := [Pl.byteAt val 0]) (src := .slice (some ⟨z.heap.size, 0, none⟩) 1 1) (z.alloc (.cells #[.int .u8 val] 5)) (OwnB.alloc OW.out _) (Sl.own (obj_new _ _) (by simp) (Nat.le_refl _) (by unfold maxLen; omega) (fun j hj => by simp at hj; subst hj; simp [encB, ← BV.out])) (by have := KZ.out.size; simp; omega) (by simp)
      have HR := Lib.hid hr
      have HO := Lib.hid (show OwnB w' w.heap.size v' (Pl.backBytes 2 t val L) from ho)
      have HK := Lib.hid ((KZ.out.trans (kB.mono KZ.out.size)).grown hg (KZ.out.trans (kB.mono KZ.out.size)).size (fun k e => (World.ownsRow.lt OW.out k e).1))
      obtain ⟨o6, n6, c6, rfl⟩ : ∃ o6 n6 c6, v' = .slice o6 n6 c6 := by
        rcases ho.forms with ⟨rfl, _⟩ | ⟨g, cap, rfl, _⟩
        · exact ⟨_, _, _, rfl⟩
        · exact ⟨_, _, _, rfl⟩
      clear hr ho hg kB
      go_wp2_with (at_builtin; refine Lib.wpList_append_run _ rfl (.tmp 78) (.tmp 82) 26 26 rfl _ _ rfl rfl _ _ HR.out ?_)
      go_ret2
      exact KF.out _ L _ _ rfl PO.out HO.out HK.out
    · obtain rfl : mk = 1000000 := by rw [← hM]; rfl
      go_upto_region 8 with (first
        | (go_at_call 26; (with_reducible refine RS.out.mono ?_); rintro e z2 ⟨rfl, nn, rfl⟩; have PB := Lib.hid (backPairs_ok _ A HP.out (z.drewN nn) (SA.out.below (Below.drewN (Below.refl _ _) nn))))
        | (go_at_call 5; (with_reducible refine PB.out.mono ?_); rintro e z3 ⟨L, oL, cL, rfl, p1, p2, p3, p4, -, k3⟩; have K3 := Lib.hid ((Below.drewN KZ.out nn).trans (k3.mono (Below.drewN KZ.out nn).size)); have PO := Lib.hid p2; have BX3 := Lib.hid (show BkBox z3 w.heap.size 3 t (.slice oa 0 c) val from Below.heapAt (k3.mono (Nat.le_refl _)) BX.out (lt_of_block BX.out)); clear p1 p2 k3))
      clear c0 c1 c2 c3 RS PB
      refine abs_b (fun y => Hid (BkBox y w.heap.size 3 t (.slice oa 0 c) val) ∧ Hid (Below w.heap.size w y)) ⟨BX3, K3⟩ ?_
      clear BX3 K3 SA BX KZ p3 p4
      rintro y ⟨BX, KY⟩
      obtain ⟨c0, c1, c2, c3⟩ := BX.out.cells
      have kA : Below y.heap.size y (y.alloc (.cells #[.int .u8 3, .int .u8 t] 5)) := (Below.refl _ _).alloc (Nat.le_refl _) _
      have OW : Hid (OwnB (y.alloc (.cells #[.int .u8 3, .int .u8 t] 5)) w.heap.size (.slice (some ⟨y.heap.size, 0, none⟩) 2 2) [Pl.byteAt 3 0, Pl.byteAt t 0]) := Lib.hid (OwnB.lit y _ _ 2 rfl (by rw [B3]; simp [encB, ← BT.out]) (by simp) KY.out.size)
      have BX4 : Hid (BkBox (y.alloc (.cells #[.int .u8 3, .int .u8 t] 5)) w.heap.size 3 t (.slice oa 0 c) val) := Lib.hid (Below.heapAt kA BX.out (lt_of_block BX.out))
      have KY4 := Lib.hid (KY.out.trans (kA.mono KY.out.size))
      clear kA B2 B3
      go_upto_region 9 with fail
      refine abs_b (fun z => Hid (OwnB z w.heap.size (.slice (some ⟨y.heap.size, 0, none⟩) 2 2) [Pl.byteAt 3 0, Pl.byteAt t 0]) ∧ Hid (BkBox z w.heap.size 3 t (.slice oa 0 c) val) ∧ Hid (Below w.heap.size w z)) ⟨OW, BX4, KY4⟩ ?_
      generalize y.heap.size = gy at *
      clear OW BX4 KY4 BX KY c0 c1 c2 c3
      rintro z ⟨OW, BX, KZ⟩
      obtain ⟨c0, c1, c2, c3⟩ := BX.out.cells
      have PT := Lib.hid (show Calls Tryd.prog 27 #[.slice (some ⟨gy, 0, none⟩) 2 2, .int .i64 val, .int .i64 4] z fun e w' => ∃ v', e = .returned v' ∧ OwnB w' w.heap.size v' ([Pl.byteAt 3 0, Pl.byteAt t 0] ++ Pl.putB val 4) ∧ Below w.heap.size z w' from (putk_four val h5 (by omega) w.heap.size _ _ (by simp) z OW.out KZ.out.size).mono fun e w' ⟨v', q1, q2, q3⟩ => ⟨v', q1, q2, q3.below⟩)
      go_wp2_with (go_at_call 27; (with_reducible refine PT.out.mono ?_); rintro e w9 ⟨v9, rfl, ho, hk⟩; have HO := Lib.hid (show OwnB w9 w.heap.size v9 (Pl.backBytes 3 t val L) from ho); have HK := Lib.hid (KZ.out.trans hk); obtain ⟨o6, n6, c6, rfl⟩ : ∃ o6 n6 c6, v9 = .slice o6 n6 c6 := (by
        rcases ho.forms with ⟨rfl, _⟩ | ⟨g, cap, rfl, _⟩
        · exact ⟨_, _, _, rfl⟩
        · exact ⟨_, _, _, rfl⟩); clear ho hk)
      go_ret2
      exact KF.out _ L _ _ rfl PO.out HO.out HK.out
end Go.Proofs.YthbcdpckckellaaDoor
