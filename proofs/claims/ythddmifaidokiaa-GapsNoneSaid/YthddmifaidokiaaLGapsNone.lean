import Derived.Test.YthddmifaidokiaaGapsGave
/-! The walk of the law GapsNone. -/
namespace Go.Proofs.Ythddmifaidokiaa
open Go.RowKit Go.Maps
set_option linter.unusedVariables false
set_option linter.unusedSimpArgs false
theorem rises_one {S : List Int} (h : Rises S) {x : Int} (hm : ∀ i, i ∈ S ↔ i = x) : S = [x] := by
  cases S with
  | nil => exact absurd ((hm x).2 rfl) (by simp)
  | cons a r =>
    have ha := (hm a).1 (by simp)
    subst ha
    cases r with
    | nil => rfl
    | cons b r' =>
      have hb := (hm b).1 (by simp)
      have := List.rel_of_pairwise_cons h (a := a) (a' := b) (by simp)
      omega
theorem rises_nil {S : List Int} (hm : ∀ i, i ∉ S) : S = [] := List.eq_nil_iff_forall_not_mem.2 hm
/-- is one left out? -/
def leftOut (out many : Int) : Bool := decide (0 < out) && decide (out < many - 1)
/-- what is lacking when so many came -/
structure NoneSt (from_ many out : Int) (i : Nat) (top : Int) (g : Int → Option (Int × Int)) : Prop where
  top0 : i = 0 → top = -1
  top1 : 0 < i → top = if leftOut out many = true ∧ (i : Int) = out + 1 then from_ + i - 2 else from_ + i - 1
  g_ : ∀ j, g j = if leftOut out many = true ∧ out + 1 < i ∧ j = from_ + out then some (0, 0) else none
namespace NoneSt
variable {from_ many out top : Int} {i : Nat} {g : Int → Option (Int × Int)}
theorem start (from_ many out : Int) : NoneSt from_ many out 0 (-1) (fun _ => none) := ⟨fun _ => rfl, fun h => by omega, fun j => by
  rw [if_neg]; rintro ⟨h1, h2, _⟩; simp [leftOut] at h1; omega⟩
theorem skip (h : NoneSt from_ many out i top g) (ho : leftOut out many = true) (hi : (i : Int) = out) : NoneSt from_ many out (i + 1) top g := by
  have hl : 0 < out := by simp [leftOut] at ho; exact ho.1
  refine ⟨fun h => by omega, fun _ => ?_, fun j => ?_⟩
  · rw [h.top1 (by omega), if_neg (by omega), if_pos ⟨ho, by omega⟩]; omega
  · rw [h.g_ j, if_neg (by omega), if_neg (by omega)]
theorem first (h : NoneSt from_ many out 0 top g) : NoneSt from_ many out 1 from_ g := by
  refine ⟨fun h => by omega, fun _ => ?_, fun j => ?_⟩
  · rw [if_neg]
    · omega
    · rintro ⟨h1, h2⟩; simp [leftOut] at h1; omega
  · rw [h.g_ j, if_neg (by rintro ⟨h1, h2, _⟩; simp [leftOut] at h1; omega), if_neg (by rintro ⟨h1, h2, _⟩; simp [leftOut] at h1; omega)]
theorem more (h : NoneSt from_ many out i top g) (hi : 0 < i) (hs : ¬ (leftOut out many = true ∧ (i : Int) = out)) : NoneSt from_ many out (i + 1) (from_ + i) (fillG g top (from_ + i)) := by
  have ht := h.top1 hi
  refine ⟨fun h => by omega, fun _ => ?_, fun j => ?_⟩
  · rw [if_neg (by rintro ⟨h1, h2⟩; exact hs ⟨h1, by omega⟩)]; omega
  · unfold fillG
    rw [h.g_ j]
    by_cases h1 : leftOut out many = true ∧ (i : Int) = out + 1
    · rw [if_pos h1] at ht
      by_cases h2 : j = from_ + out
      · rw [if_pos (by omega), if_pos ⟨h1.1, by omega, h2⟩]
      · rw [if_neg (by omega), if_neg (by omega), if_neg (by omega)]
    · rw [if_neg h1] at ht
      rw [if_neg (by omega)]
      by_cases h2 : leftOut out many = true ∧ out + 1 < i ∧ j = from_ + out
      · rw [if_pos h2, if_pos ⟨h2.1, by omega, h2.2.2⟩]
      · rw [if_neg h2, if_neg (by rintro ⟨q1, q2, q3⟩; refine h2 ⟨q1, ?_, q3⟩; have : (i : Int) ≠ out + 1 := fun e => h1 ⟨q1, e⟩; omega)]
theorem fresh (h : NoneSt from_ many out i top g) (hi : 0 < i) : g (from_ + i) = none := by
  rw [h.g_, if_neg (by omega)]
end NoneSt
set_option maxRecDepth 100000 in
set_option maxHeartbeats 8000000 in
theorem walk_GapsNone (a0 : Int) (w0 : (Lit.int .i64 a0).wf = true) (a1 : Int) (w1 : (Lit.int .i64 a1).wf = true) (a2 : Int) (w2 : (Lit.int .i64 a2).wf = true) (w : World) :
    Calls Try.prog 3 #[.int .i64 a0, .int .i64 a1, .int .i64 a2] w fun e w' => e = .returned (.bool true) ∧ Below w.heap.size w w' := by
  have hw2 := wf_i64 w2
  obtain ⟨hw2a, hw2b⟩ := hw2
  go_enter Try.func3, Try.ntmps3
  go_wp2_with fail
  refine (gapsNew_ok 3 3 (by decide) (by decide) (by decide) (by decide) _).mono ?_
  rintro e w3 ⟨b, bm, rfl, G3, k3⟩
  by_cases hin : 0 ≤ a0 ∧ a0 ≤ 1000000 ∧ 1 ≤ a1 ∧ a1 ≤ 100
  case neg =>
    have HIN := Lib.hid hin
    clear hin G3
    go_wp2_with fail
    all_goals first
      | (exfalso; have := HIN.out; omega)
      | (go_ret; exact ⟨rfl, k3⟩)
  obtain ⟨h0, h1, h2, h3⟩ := hin
  have G3 := Lib.hid G3
  have K3 := Lib.hid k3
  have S3 := Lib.hid (NoneSt.start a0 a1 a2)
  have HM := Lib.hid (Nat.le_refl w.heap.size)
  clear k3
  go_wp2_with fail
  go_loopw [9] (fun s9 wr => ∃ (k : Nat) (cur top : Int) (c : Nat) (g : Int → Option (Int × Int)), (k : Int) ≤ a1 ∧ s9 = .int .i64 k ∧ 0 ≤ cur ∧ cur ≤ k ∧ top ≤ a0 + k ∧ c ≤ k * 2 ∧ Hid (Gp w.heap.size wr b cur 3 3 top bm c g (.slice none 0 0) []) ∧ Hid (NoneSt a0 a1 a2 k top g) ∧ Hid (Below w.heap.size w wr)) (fun s9 _ => (a1 - intOf s9).toNat)
  case atStart => exact ⟨0, 0, -1, 0, _, by omega, rfl, by omega, by omega, by omega, by omega, G3, S3, K3⟩
  case round =>
    as_aux_lemma =>
    clear G3 K3 S3
    obtain ⟨k, cur, top, c, g, hk, rfl, hc0, hc1, ht, hck, G, S, K⟩ := hrel
    by_cases hlt : (k : Int) < a1
    case neg =>
      as_aux_lemma =>
      have hk1 : (k : Int) = a1 := by omega
      have hk0 : 0 < k := by omega
      have ht1 := S.out.top1 hk0
      have ht2 : top = a0 + a1 - 1 := by
        rw [if_neg (by rintro ⟨q1, q2⟩; simp [leftOut] at q1; omega)] at ht1; omega
      have hgf : g a0 = none := by rw [S.out.g_, if_neg (by rintro ⟨q1, q2, q3⟩; simp [leftOut] at q1; omega)]
      have hcl : Pl.clockOk cur a1 := ⟨by omega, by omega, by omega⟩
      go_wp2_with fail
      refine (hear_known w.heap.size b cur 3 3 top a0 a1 bm c g _ _ hcl (by simp [Pl.long]; omega) (by omega) (by omega) (by omega) (by omega) hgf _ K.out.size G.out).mono ?_
      rintro e w5 ⟨rfl, G5, k5⟩
      have hkey : ∀ j, (g j).isSome = true → 0 ≤ j ∧ j ≤ 1099511627776 := fun j hj => by
        rw [S.out.g_] at hj
        split at hj
        · rename_i q; have := q.1; simp [leftOut] at this; omega
        · cases hj
      have hval : ∀ j t a, g j = some (t, a) → 0 ≤ t ∧ t ≤ 1000 ∧ 0 ≤ a ∧ a ≤ 1000000 := fun j t a hj => by
        rw [S.out.g_] at hj
        split at hj
        · simp at hj; omega
        · cases hj
      have HKEY := Lib.hid hkey
      have HVAL := Lib.hid hval
      have kb5 := Lib.hid (K.out.trans k5)
      have hM5 : w.heap.size ≤ w5.heap.size := kb5.out.size
      clear hkey hval K k5 hgf hcl ht1
      go_wp2_with fail
      refine (due_ok w.heap.size b a1 3 3 top a1 bm c g _ _ ⟨by omega, by omega, Int.le_refl _⟩ (by omega) (by simp) ⟨by decide, by decide⟩ HKEY.out HVAL.out _ hM5 G5).mono ?_
      rintro e w6 ⟨L, c6, v6, gv6, rfl, hR, hmem, hlen, hc6, G6, r6, -, k6⟩
      have kb6 := Lib.hid (kb5.out.trans k6)
      obtain ⟨oa6, cap6, rfl, hread⟩ := intRow_read r6
      clear kb5 k6 r6 G5 HKEY HVAL hM5 G
      cases hlo : leftOut a2 a1
      · have hno : L = [] := rises_nil (fun i hi => by
          have := (hmem i).1 hi
          rw [S.out.g_, hlo] at this
          simp at this)
        subst hno
        have hnot : ¬ (0 < a2 ∧ a2 < a1 - 1) := by rintro ⟨q1, q2⟩; simp [leftOut, q1] at hlo; omega
        have hg6 : ∀ j, ((fun j => (g j).bind (dueStep 3 3 a1)) j) = none := fun j => by
          show (g j).bind _ = none
          rw [S.out.g_, hlo]; simp
        have HNOT := Lib.hid hnot
        have G6 := Lib.hid G6
        have HG6 := Lib.hid hg6
        clear hread hmem hlen hR hnot hg6 S hlo
        have LK : Calls Try.prog 9 #[.pointer (some ⟨b, 0, none⟩)] w6 fun e w' => ∃ oa cap, e = .returned (.slice oa 0 cap) ∧ Below w.heap.size w w' :=
          (gapsLacks_any w.heap.size b _ _ _ _ bm c6 _ _ _ (by omega) w6 G6.out).mono (fun e w' ⟨v, L2, e1, _, m2, _, r2, k2⟩ => by
            have hL2 : L2 = [] := rises_nil (fun i hi => by have := (m2 i).1 hi; have q : (g i).bind (dueStep 3 3 a1) = none := HG6.out i; rw [q] at this; cases this)
            subst hL2
            obtain ⟨oa, cap, e2, _⟩ := intRow_read r2
            exact ⟨oa, cap, by rw [e1, e2]; rfl, kb6.out.trans (k2.mono kb6.out.size)⟩)
        have LK := Lib.hid LK
        clear G6 HG6
        by_cases hq : 0 < a2
        · have hq2 : ¬ a2 < a1 - 1 := by have := HNOT.out; omega
          go_wp2_with (go_at_call 9; (with_reducible refine LK.out.mono ?_); rintro e w' ⟨oa, cap, rfl, kb⟩; have KB := Lib.hid kb; clear kb)
          go_ret
          exact ⟨rfl, KB.out⟩
        · go_wp2_with (go_at_call 9; (with_reducible refine LK.out.mono ?_); rintro e w' ⟨oa, cap, rfl, kb⟩; have KB := Lib.hid kb; clear kb)
          go_ret
          exact ⟨rfl, KB.out⟩
      · have hq : 0 < a2 ∧ a2 < a1 - 1 := by simp [leftOut] at hlo; exact hlo
        obtain ⟨hq1, hq2⟩ := hq
        have hone : L = [a0 + a2] := rises_one hR (fun i => by
          rw [hmem i, S.out.g_, hlo]
          by_cases e : i = a0 + a2
          · subst e; simp; omega
          · simp [e])
        subst hone
        have hask : [a0 + a2].filter (isAsk 3 3 a1 g) = [a0 + a2] := by
          simp [isAsk, isWait, S.out.g_ (a0 + a2), hlo]
          rw [if_pos (by omega)]
          simp
        rw [hask] at hread ⊢
        obtain ⟨gg, rfl, _, _, qc⟩ := hread 0 (a0 + a2) rfl
        simp only [List.length_cons, List.length_nil, Nat.zero_add]
        clear hread hmem hlen hR hask S hlo G6
        go_wp2_with fail
        go_ret
        exact ⟨rfl, kb6.out⟩
    have hsk : ∃ s, s = (decide ((k : Int) = a2) && (decide (0 < (k : Int)) && decide ((k : Int) < a1 - 1))) := ⟨_, rfl⟩
    obtain ⟨s, hs⟩ := hsk
    have HS := Lib.hid hs
    clear hs
    go_upto_region 7 with fail
    go_cut [57] (fun v x => v = .bool s ∧ wr = x)
    case first =>
      as_aux_lemma =>
      by_cases q1 : (k : Int) = a2
      · have b1 : ((k : Int) == a2) = true := by simpa using q1
        have b2 : decide ((k : Int) = a2) = true := by simpa using q1
        have Q1 := Lib.hid q1
        clear q1
        by_cases q2 : 0 < (k : Int)
        · by_cases q3 : (k : Int) < a1 - 1
          · have e : s = true := by rw [HS.out]; simp [Q1.out]; have := Q1.out; omega
            subst e
            go_wp2_with fail
            go_meet
            exact ⟨by simp <;> omega, rfl⟩
          · have e : s = false := by rw [HS.out]; simp [q3]
            subst e
            go_wp2_with fail
            go_meet
            exact ⟨by simp <;> omega, rfl⟩
        · have e : s = false := by rw [HS.out]; simp; omega
          subst e
          go_wp2_with fail
          go_meet
          exact ⟨by simp <;> omega, rfl⟩
      · have b1 : ((k : Int) == a2) = false := by simpa using q1
        have b2 : decide ((k : Int) = a2) = false := by simpa using q1
        have e : s = false := by rw [HS.out]; simp [q1]
        clear q1
        subst e
        go_wp2_with fail
        go_meet
        exact ⟨by first | rfl | simp [b2], rfl⟩
    case rest =>
    as_aux_lemma =>
    obtain ⟨hv, hw⟩ := hcut
    subst hv
    subst hw
    cases s
    case true =>
      have e := HS.out
      simp only [Bool.true_eq, Bool.and_eq_true, decide_eq_true_eq] at e
      obtain ⟨e1, e2, e3⟩ := e
      have S' := Lib.hid (S.out.skip (by simp [leftOut]; omega) e1)
      clear HS e1 e2 e3
      go_wp2_with fail
      go_roundw
      case measure => simp [intOf]; omega
      case rel => exact ⟨k + 1, cur, top, c, g, by omega, by go_num, by omega, by omega, by omega, by omega, G, S', K⟩
    case false =>
      have hns : ¬ (leftOut a2 a1 = true ∧ (k : Int) = a2) := by
        rintro ⟨q1, q2⟩
        have e := HS.out
        simp [leftOut] at q1
        rw [q2] at e
        simp [q1] at e
      have hlong : Pl.long (a0 + k) = true := by simp [Pl.long]; omega
      have hcl : Pl.clockOk cur k := ⟨by omega, by omega, by omega⟩
      by_cases hk0 : k = 0
      · subst hk0
        have htop : top = -1 := S.out.top0 rfl
        have S' := Lib.hid S.out.first
        have HCL := Lib.hid hcl
        have hgf : g (a0 + ((0 : Nat) : Int)) = none := by rw [S.out.g_, if_neg (by rintro ⟨q1, q2, q3⟩; simp [leftOut] at q1; omega)]
        have C := Lib.hid (hear_first w.heap.size b cur 3 3 top a0 0 bm c g _ _ (by simpa using hcl) (by simpa using hlong) (by omega) (by omega) (by omega) (by simpa using hgf) _ K.out.size G.out)
        clear HS hns hlong hcl hgf HCL
        go_wp2_with (go_at_call 7; (with_reducible refine C.out.mono ?_); rintro e w5 ⟨rfl, G5, k5⟩; have G5 := Lib.hid G5; have K5 := Lib.hid (K.out.trans k5); clear k5)
        go_roundw
        case measure => simp [intOf]; omega
        case rel => exact ⟨1, 0, a0, c, g, by omega, by first | rfl | go_num, by omega, by omega, by omega, by omega, G5, S', K5⟩
      · have hk1 : 0 < k := by omega
        have htop := S.out.top1 hk1
        have ht0 : 0 ≤ top ∧ top < a0 + k ∧ a0 + k - top ≤ 2 := by
          split at htop
          · rename_i q; have := q.1; simp [leftOut] at this; omega
          · omega
        obtain ⟨ht0, ht1, ht2⟩ := ht0
        have S' := Lib.hid (S.out.more hk1 hns)
        have hgf := S.out.fresh hk1
        have C := Lib.hid (hear_above w.heap.size b cur 3 3 top (a0 + k) k bm c g _ _ hcl hlong (by omega) (by omega) ht0 ht1 (by omega) hgf _ K.out.size G.out)
        clear HS hns hlong hcl hgf htop
        go_wp2_with (go_at_call 7; (with_reducible refine C.out.mono ?_); rintro e w5 ⟨c5, rfl, G5, hc5, k5⟩; have G5 := Lib.hid G5; have K5 := Lib.hid (K.out.trans k5); clear k5)
        go_roundw
        case measure => simp [intOf]; omega
        case rel => exact ⟨k + 1, k, a0 + k, c5, _, by omega, by go_num, by omega, by omega, by omega, by omega, G5, S', K5⟩
end Go.Proofs.Ythddmifaidokiaa
