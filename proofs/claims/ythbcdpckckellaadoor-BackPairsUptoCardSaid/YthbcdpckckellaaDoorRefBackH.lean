import Derived.Test.YthbcdpckckellaaDoorArr
import Derived.Test.YthbcdpckckellaaDoorSerial
import Derived.Test.YthbcdpckckellaaDoorPBack
import Derived.Test.YthbcdpckckellaaDoorBackQ
import Derived.Test.YthbcdpckckellaaDoorRSorted
import Derived.Test.YthbcdpckckellaaDoorRefSerial
import Derived.Deep.CutBlock
import Derived.Test.YthbcdpckckellaaDoorRefBytes
import Derived.Test.YthbcdpckckellaaDoorBackE
/-! The cells of an array of 65536 bools: none is set. -/
namespace Go.Proofs.YthbcdpckckellaaDoor
open Go.RowKit
theorem rep_app {a b : List Value} {m n : Nat} (ha : a = List.replicate m (.bool false)) (hb : b = List.replicate n (.bool false)) : a.append b = List.replicate (m + n) (.bool false) := by
  subst ha hb
  exact List.replicate_append_replicate
set_option maxRecDepth 100000 in
set_option maxHeartbeats 4000000 in
theorem zeroBools : Tryd.zeroCells50 = Array.replicate 65536 (.bool false) := by
  refine Eq.trans (b := List.toArray (List.replicate 65536 (Value.bool false))) ?_ (List.toArray_replicate 65536 (Value.bool false))
  delta Tryd.zeroCells50
  refine congrArg List.toArray ?_
  refine rep_app (m := 32768) (n := 32768) ?_ ?_
  all_goals refine rep_app (m := 16384) (n := 16384) ?_ ?_
  all_goals refine rep_app (m := 8192) (n := 8192) ?_ ?_
  all_goals refine rep_app (m := 4096) (n := 4096) ?_ ?_
  all_goals refine rep_app (m := 2048) (n := 2048) ?_ ?_
  all_goals refine rep_app (m := 1024) (n := 1024) ?_ ?_
  all_goals refine rep_app (m := 512) (n := 512) ?_ ?_
  all_goals refine rep_app (m := 256) (n := 256) ?_ ?_
  all_goals refine rep_app (m := 128) (n := 128) ?_ ?_
  all_goals refine rep_app (m := 64) (n := 64) ?_ ?_
  all_goals rfl
end Go.Proofs.YthbcdpckckellaaDoor

/-! The bits of a mask, one by one; one more pair of what is told place by place. In plain Lean. -/
namespace Go.Proofs.YthbcdpckckellaaDoor
set_option linter.unusedVariables false
set_option linter.unusedSimpArgs false
namespace Pl
/-- the bits that are there, below k -/
def bitsN (f : Nat → Bool) : Nat → Nat
  | 0 => 0
  | k + 1 => bitsN f k + if f k = true then 2 ^ k else 0
theorem bitsN_lt (f : Nat → Bool) : ∀ k, bitsN f k < 2 ^ k
  | 0 => by simp [bitsN]
  | k + 1 => by
    have := bitsN_lt f k
    rw [Nat.pow_succ]
    unfold bitsN
    split <;> omega
theorem bitsN_bit (f : Nat → Bool) : ∀ k j, (bitsN f k).testBit j = (decide (j < k) && f j)
  | 0, j => by simp [bitsN]
  | k + 1, j => by
    have ih := bitsN_bit f k
    have hl := bitsN_lt f k
    unfold bitsN
    by_cases hj : j = k
    · subst hj
      have h0 : (bitsN f j).testBit j = false := Nat.testBit_lt_two_pow hl
      cases hf : f j
      · simp [h0]
      · rw [if_pos rfl, Nat.add_comm, Nat.testBit_two_pow_add_eq, h0]; simp
    · by_cases hlt : j < k
      · have e : decide (j < k + 1) = decide (j < k) := by simp; omega
        rw [e]
        split
        · rw [Nat.add_comm, Nat.testBit_two_pow_add_gt hlt, ih]
        · rw [Nat.add_zero, ih]
      · have e : decide (j < k + 1) = false := by simp; omega
        rw [e, Bool.false_and]
        have h2 : bitsN f k + (if f k = true then 2 ^ k else 0) < 2 ^ (k + 1) := by
          rw [Nat.pow_succ]; split <;> omega
        exact Nat.testBit_lt_two_pow (Nat.lt_of_lt_of_le h2 (Nat.pow_le_pow_right (by decide) (by omega)))
/-- one more pair: all of it -/
theorem PairsOf.add {S : Int → Prop} {L : List Pr} {n : Int} (h : PairsOf (fun s => S s ∧ s < n) L) (hr : ∀ p ∈ L, p.base + 16 < n) (hn : S n) {m : Int} (hm : 0 ≤ m ∧ m ≤ 65535) (hb : ∀ k, k < 16 → (m.toNat.testBit k = true ↔ S (n + k + 1))) :
    PairsOf (fun s => S s ∧ s < n + 17) (L ++ [⟨n, m⟩]) := by
  refine ⟨List.pairwise_append.2 ⟨h.gap, by simp, fun p hp q hq => ?_⟩, fun p hp => ?_, fun s hs => ?_⟩
  · simp at hq; subst hq; exact hr p hp
  · rcases List.mem_append.1 hp with hp | hp
    · obtain ⟨a, b, c, d⟩ := h.ok p hp
      have := hr p hp
      refine ⟨⟨a.1, by omega⟩, b, c, fun k hk => (d k hk).trans ⟨fun e => ⟨e.1, by omega⟩, fun e => ⟨e.1, by omega⟩⟩⟩
    · simp at hp; subst hp
      refine ⟨⟨hn, by dsimp only; omega⟩, hm.1, hm.2, fun k hk => (hb k hk).trans ⟨fun e => ⟨e, by dsimp only; omega⟩, fun e => e.1⟩⟩
  · by_cases hlt : s < n
    · obtain ⟨p, hp, h1, h2⟩ := h.cov s ⟨hs.1, hlt⟩
      exact ⟨p, List.mem_append_left _ hp, h1, h2⟩
    · exact ⟨⟨n, m⟩, by simp, by dsimp only; omega, by dsimp only; omega⟩
/-- none there -/
theorem PairsOf.skip {S : Int → Prop} {L : List Pr} {n : Int} (h : PairsOf (fun s => S s ∧ s < n) L) (hn : ¬ S n) : PairsOf (fun s => S s ∧ s < n + 1) L :=
  h.congr fun m => ⟨fun e => ⟨e.1, by omega⟩, fun e => ⟨e.1, by
    by_cases q : m = n
    · subst q; exact absurd e.1 hn
    · omega⟩⟩
end Pl
end Go.Proofs.YthbcdpckckellaaDoor

/-! The reference's Pairs. -/
namespace Go.Proofs.YthbcdpckckellaaDoor
open Go.RowKit
set_option linter.unusedVariables false
set_option linter.unusedSimpArgs false
theorem rPairs_full (v : Value) (A : List Int) (hA : 200 < A.length) (w : World) (h : Sl encI w v A) :
    Calls Tryd.prog 4 #[v] w fun e w' => e = .returned (.tuple #[.slice none 0 0, .int .i64 4]) ∧ w = w' := by
  obtain ⟨oa, c, rfl⟩ : ∃ oa c, v = .slice oa A.length c := by
    rcases h with ⟨h1, oa, cap, rfl, _⟩ | ⟨b, off, cap, rfl, _⟩
    · subst h1; exact ⟨_, _, rfl⟩
    · exact ⟨_, _, rfl⟩
  have e1 : (200 : Int) < (A.length : Int) := by omega
  clear h
  go_enter Tryd.func4, Tryd.ntmps4
  go_wp2_with fail
  go_ret2
  exact ⟨rfl, rfl⟩
/-- which numbers are there -/
def Pl.hasP (A : List Int) (j : Nat) : Bool := decide ((j : Int) ∈ A)
theorem Pl.hasP_take {A : List Int} {i : Nat} (hi : i < A.length) {m : Nat} (hm : A[i] = (m : Int)) : (fun j => if j = m then true else Pl.hasP (A.take i) j) = Pl.hasP (A.take (i + 1)) := by
  funext j
  unfold Pl.hasP
  rw [take_next A i hi]
  by_cases e : j = m
  · subst e
    rw [if_pos rfl]; symm
    rw [decide_eq_true_iff, List.mem_append, hm]; simp
  · rw [if_neg e, decide_eq_decide, List.mem_append, hm, List.mem_singleton]
    constructor
    · exact .inl
    · rintro (h | h)
      · exact h
      · omega
set_option maxRecDepth 100000 in
set_option maxHeartbeats 4000000 in
theorem rPairs_1 (v : Value) (A : List Int) (hA : A.length ≤ 200) (w : World) (h : Sl encI w v A) :
    Calls Tryd.prog 4 #[v] w fun e w' => Below w.heap.size w w' ∧ ((Pl.pairF A = 1 ∧ e = .returned (.tuple #[.slice none 0 0, .int .i64 1])) ∨
      (Pl.pairF A = 0 ∧ ∃ (v' : Value) (L : List Pr), e = .returned (.tuple #[v', .int .i64 0]) ∧ prK.Own w' w.heap.size v' L ∧ Pl.PairsOf (· ∈ A) L)) := by
  have hm := h.len
  unfold maxLen at hm
  have RD := Lib.hid (show ∃ oa c, v = .slice oa A.length c ∧ ∀ y, Below w.heap.size w y → ∀ i (hi : i < A.length), ∃ b f, oa = some ⟨b, f, none⟩ ∧ y.cell? ⟨b, f + i, none⟩ = some (.int .i64 A[i]) from by
    rcases h with ⟨h1, oa, cap, rfl, _⟩ | ⟨b, off, cap, rfl, _, _, h2⟩
    · subst h1
      exact ⟨oa, cap, rfl, fun y _ i hi => by simp at hi⟩
    · refine ⟨_, cap, rfl, fun y k i hi => ⟨b, off, rfl, ?_⟩⟩
      exact (k.cell (p := ⟨b, off + i, none⟩) (Sl.lt (h2 i hi))).trans (h2 i hi))
  obtain ⟨oa, c, rfl, rd⟩ := RD.out
  have RC := Lib.hid rd
  have e0 : ¬ (200 : Int) < (A.length : Int) := by omega
  clear RD rd h
  obtain ⟨N, hN⟩ : ∃ N, w.heap.size = N := ⟨_, rfl⟩
  have A0 := Lib.hid (show ArrAt encBl 65536 50 (w.alloc (.cells Tryd.zeroCells50 50)) N (Pl.hasP (A.take 0)) from by
    rw [← hN, zeroBools]; exact (ArrAt.new (enc := encBl) w _ 65536 false).ext (fun j _ => by simp [Pl.hasP]))
  have K0 := Lib.hid (show Below N w (w.alloc (.cells Tryd.zeroCells50 50)) from (Below.refl _ _).alloc (by omega) _)
  rw [hN] at RC ⊢
  have HN := Lib.hid hN
  go_enter Tryd.func4, Tryd.ntmps4
  go_upto_region 4 with fail
  clear e0
  refine abs_b (fun y => Hid (ArrAt encBl 65536 50 y N (Pl.hasP (A.take 0))) ∧ Hid (Below N w y)) ⟨A0, K0⟩ ?_
  try rw [hN]
  clear A0 K0 hN
  rintro y ⟨AR, KY⟩
  go_upto_block 0 with fail
  go_cut [5, 6] from 15 to 32 (fun _ _ z => Hid (Pl.pairF A = 0) ∧ Hid (ArrAt encBl 65536 50 z N (Pl.hasP A)) ∧ Hid (Below N w z))
  case first =>
    as_aux_lemma =>
    go_upto_region 5 with fail
    go_loopw [5, 6] (fun s5 _ wr => ∃ i : Nat, i ≤ A.length ∧ s5 = .int .i64 i ∧ Hid (ArrAt encBl 65536 50 wr N (Pl.hasP (A.take i))) ∧ Hid (Below N w wr) ∧ Hid (∀ j (hj : j < i) (hl : j < A.length), Pl.Seq16 A[j])) (fun s5 _ _ => A.length - (RowKit.intOf s5).toNat)
    case atStart => exact ⟨0, by omega, rfl, AR, KY, Lib.hid (fun j hj => by omega)⟩
    case round =>
      as_aux_lemma =>
      clear AR KY
      obtain ⟨i, hi, rfl, AR, KR, HS⟩ := hrel
      by_cases hlt : i < A.length
      · have e1 : (i : Int) < (A.length : Int) := by omega
        obtain ⟨b, f, rfl, q⟩ := RC.out _ KR.out i hlt
        have HZ := Lib.hid (show Pl.Seq16 A[i] → ∀ j (hj : j < i + 1) (hl : j < A.length), Pl.Seq16 A[j] from fun h j hj hl => by
          by_cases e : j = i
          · subst e; exact h
          · exact HS.out j (by omega) hl)
        have HB := Lib.hid (show ¬ Pl.Seq16 A[i] → Pl.pairF A = 1 from fun h => by
          unfold Pl.pairF
          rw [if_neg (by omega), if_neg (fun hh => h (hh _ (List.getElem_mem _)))])
        have HT := Lib.hid (fun m (hm : A[i] = ((m : Nat) : Int)) => Pl.hasP_take hlt hm)
        generalize A[i] = x at *
        have SQ := Lib.hid (rSeq_any x wr)
        by_cases hx : Pl.Seq16 x
        · have H2 := Lib.hid (HZ.out hx)
          have hs : Pl.seq x = true := (Pl.seq_16 x).2 hx
          obtain ⟨x0, x1⟩ := hx
          obtain ⟨m, rfl⟩ : ∃ m : Nat, x = m := ⟨x.toNat, by omega⟩
          have e2 : (m : Int) < 65536 := by omega
          have fz := AR.out.free m
          have A1 := Lib.hid (show ArrAt encBl 65536 50 (wr.setCell ⟨N, m, none⟩ (.bool true)) N (Pl.hasP (A.take (i + 1))) from by rw [← HT.out m rfl]; exact AR.out.set m true)
          have K1 := Lib.hid (show Below N w (wr.setCell ⟨N, m, none⟩ (.bool true)) from Below.setCell KR.out (Nat.le_refl N) _)
          have oc := AR.out.cell m (by omega)
          clear HZ HB HT
          go_wp2_with (go_at_call 16; refine SQ.out.mono ?_; rintro e w1 ⟨rfl, rfl⟩; rw [hs])
          go_roundw
          case measure => simp only [RowKit.intOf]; omega
          case rel => exact ⟨i + 1, by omega, by simp, A1, K1, H2⟩
        · have H2 := Lib.hid (HB.out hx)
          have hs : Pl.seq x = false := by rw [Pl.seq_b, decide_eq_false hx]
          clear HZ HB hx HT
          go_wp2_with (go_at_call 16; refine SQ.out.mono ?_; rintro e w1 ⟨rfl, rfl⟩; rw [hs])
          go_ret2
          exact ⟨KR.out, .inl ⟨H2.out, rfl⟩⟩
      · have hie : i = A.length := by omega
        subst hie
        have e1 : ¬ (A.length : Int) < (A.length : Int) := by omega
        have HG := Lib.hid (show Pl.pairF A = 0 from by
          unfold Pl.pairF
          rw [if_neg (by omega), if_pos]
          intro n hn
          obtain ⟨j, hj, rfl⟩ := List.mem_iff_getElem.1 hn
          exact HS.out j hj hj)
        rw [List.take_length] at AR
        clear hlt
        go_wp2_with fail
        go_meet
        exact ⟨HG, AR, KR⟩
  case rest =>
  as_aux_lemma =>
  clear AR KY
  obtain ⟨PF, AR, KY⟩ := hcut
  have SQ := Lib.hid (Pl.pairF_all PF.out)
  go_upto_region 13 with fail
  refine abs_b (fun z => Hid (ArrAt encBl 65536 50 z N (Pl.hasP A)) ∧ Hid (Below N w z)) ⟨AR, KY⟩ ?_
  clear AR KY
  rintro z ⟨AR, KZ⟩
  have NZ : N < z.heap.size := AR.out.lt
  have O0 := Lib.hid (RecK.Own.nil (R := prK) z (N + 1))
  have Z0 := Lib.hid (Below.refl (N + 1) z)
  have P0 := Lib.hid (show Pl.PairsOf (fun s => s ∈ A ∧ s < ((0 : Nat) : Int)) [] from Pl.PairsOf.nil (fun n hn => by have := SQ.out n hn.1; unfold Pl.Seq16 at this; omega))
  go_loopw [7, 8, 9, 10, 11] (fun s7 s8 _ _ _ wr => ∃ (n : Nat) (L : List Pr), n ≤ 65552 ∧ s8 = .int .i64 n ∧ L.length ≤ n ∧ Hid (Pl.PairsOf (fun s => s ∈ A ∧ s < (n : Int)) L) ∧ Hid (∀ p ∈ L, p.base + 16 < (n : Int)) ∧ Hid (prK.Own wr (N + 1) s7 L) ∧ Hid (Below (N + 1) z wr)) (fun _ s8 _ _ _ _ => 65553 - (RowKit.intOf s8).toNat)
  case atStart => exact ⟨0, [], by omega, rfl, by simp, P0, Lib.hid (fun p hp => by simp at hp), O0, Z0⟩
  case round =>
    as_aux_lemma =>
    clear O0 Z0 P0
    obtain ⟨n, L, hn, rfl, hL, PO, PR, OW, KR⟩ := hrel
    have AW := Lib.hid (AR.out.below KR.out (by omega))
    by_cases hlt : n < 65536
    · have e1 : (n : Int) < 65536 := by omega
      have q0 := AW.out.cell n hlt
      by_cases hb : (n : Int) ∈ A
      · have hp : Pl.hasP A n = true := decide_eq_true hb
        rw [hp] at q0
        have HB := Lib.hid hb
        obtain ⟨gb, hgb⟩ : ∃ gb, wr.heap.size = gb := ⟨_, rfl⟩
        have hNg : N + 1 ≤ gb := by have := KR.out.size; omega
        have PB0 := Lib.hid (show PrBox (wr.alloc (.cells #[.int .i64 (n : Int), .int .i64 0] 53)) gb n 0 from by rw [← hgb]; exact obj_new _ _)
        have KB0 := Lib.hid (show Below gb wr (wr.alloc (.cells #[.int .i64 (n : Int), .int .i64 0] 53)) from (Below.refl _ _).alloc (by omega) _)
        clear hb hp
        go_upto_region 17 with fail
        refine abs_b (fun y => Hid (PrBox y gb n 0) ∧ Hid (Below gb wr y)) ⟨PB0, KB0⟩ ?_
        try rw [hgb]
        clear PB0 KB0
        rintro y ⟨PB, KB⟩
        go_upto_region 19 with fail
        obtain ⟨f, hf⟩ : ∃ f : Nat → Bool, (fun j => Pl.hasP A (n + j + 1)) = f := ⟨_, rfl⟩
        have HF := Lib.hid (show ∀ j, f j = Pl.hasP A (n + j + 1) from fun j => by rw [← hf])
        clear hf q0
        go_loopw [10, 11] (fun s10 s11 z2 => ∃ k : Nat, k ≤ 16 ∧ s11 = .int .i64 ((k : Int) + 1) ∧ s10 = .int .i64 ((2 ^ k : Nat) : Int) ∧ Hid (PrBox z2 gb n ((Pl.bitsN f k : Nat) : Int)) ∧ Hid (Below gb wr z2)) (fun _ s11 _ => 17 - (RowKit.intOf s11).toNat)
        case atStart => exact ⟨0, by omega, rfl, rfl, PB, KB⟩
        case round =>
          as_aux_lemma =>
          clear PB KB
          obtain ⟨k, hk, rfl, rfl, PB, KB⟩ := hrel
          obtain ⟨c0, c1⟩ := PB.out.cells
          by_cases hk16 : k < 16
          · have e2 : (k : Int) + 1 ≤ 16 := by omega
            have hBS : Pl.bitsN f (k + 1) = Pl.bitsN f k + if f k = true then 2 ^ k else 0 := rfl
            have hBl := Pl.bitsN_lt f k
            have hP16 : 2 ^ k ≤ 32768 := Nat.pow_le_pow_right (n := 2) (i := k) (j := 15) (by decide) (by omega)
            have hPS : 2 ^ (k + 1) = 2 ^ k * 2 := Nat.pow_succ 2 k
            have hfk := HF.out k
            obtain ⟨B1, hB1⟩ : ∃ B1, Pl.bitsN f (k + 1) = B1 := ⟨_, rfl⟩
            obtain ⟨P1, hP1⟩ : ∃ P1, 2 ^ (k + 1) = P1 := ⟨_, rfl⟩
            have HE := Lib.hid (And.intro hB1 hP1)
            rw [hB1] at hBS
            rw [hP1] at hPS
            clear hB1 hP1
            generalize Pl.bitsN f k = B at *
            generalize 2 ^ k = P at *
            obtain ⟨m, hm⟩ : ∃ m : Nat, n + k + 1 = m := ⟨_, rfl⟩
            rw [hm] at hfk
            have i1 : IntKind.i64.wrap ((n : Int) + ((k : Int) + 1)) = (m : Int) := by rw [IntKind.wrap_i64]; omega
            have i2 : IntKind.i64.wrap ((P : Int) * 2) = (P1 : Int) := by rw [IntKind.wrap_i64]; omega
            have i3 : IntKind.i64.wrap ((k : Int) + 1 + 1) = (k : Int) + 1 + 1 := by rw [IntKind.wrap_i64]; omega
            by_cases hm6 : m < 65536
            · have e3 : (m : Int) < 65536 := by omega
              have q1 := (AW.out.below (KB.out.mono (by omega : N + 1 ≤ gb)) (by omega)).cell m hm6
              rw [← hfk] at q1
              cases hff : f k
              · rw [hff] at q1 hBS
                rw [if_neg (by decide), Nat.add_zero] at hBS
                have HBS := Lib.hid hBS
                clear hfk hff hBl hP16 hPS hBS
                have q1b : wr.cell? ⟨N, m, none⟩ = some (.bool false) := q1
                clear q1 hm hm6
                go_wp2_with fail
                go_roundw
                case measure => simp only [RowKit.intOf]; omega
                case rel => exact ⟨k + 1, by omega, by simp, by rw [HE.out.2], by rw [HE.out.1, HBS.out]; exact PB, KB⟩
              · rw [hff] at q1 hBS
                rw [if_pos rfl] at hBS
                have fz := obj_free PB.out 1
                have hBI : (B1 : Int) = (B : Int) + (P : Int) := by omega
                have PB1 := Lib.hid (show PrBox (_) gb n ((B : Int) + (P : Int)) from obj_set PB.out 1 (.int .i64 ((B : Int) + (P : Int))))
                have KB1 := Lib.hid (Below.setCell KB.out (p := ⟨gb, 1, none⟩) (Nat.le_refl gb) (.int .i64 ((B : Int) + (P : Int))))
                have HBI := Lib.hid hBI
                have i4 : IntKind.i64.wrap ((B : Int) + (P : Int)) = (B : Int) + (P : Int) := by rw [IntKind.wrap_i64]; omega
                clear hfk hff hBI hBS hBl hP16 hPS
                go_wp2_with fail
                go_roundw
                case measure => simp only [RowKit.intOf]; omega
                case rel => exact ⟨k + 1, by omega, by simp, by rw [HE.out.2], by rw [HE.out.1, HBI.out]; exact PB1, KB1⟩
            · have e3 : ¬ (m : Int) < 65536 := by omega
              have hff : f k = false := by
                rw [hfk]
                exact decide_eq_false (fun h => by have := SQ.out _ h; unfold Pl.Seq16 at this; omega)
              rw [hff, if_neg (by decide), Nat.add_zero] at hBS
              clear hfk hff hBl hP16 hPS
              go_wp2_with fail
              go_roundw
              case measure => simp only [RowKit.intOf]; omega
              case rel => exact ⟨k + 1, by omega, by simp, by rw [HE.out.2], by rw [HE.out.1, hBS]; exact PB, KB⟩
          · obtain rfl : k = 16 := by omega
            have e2 : ¬ ((16 : Nat) : Int) + 1 ≤ 16 := by omega
            have hBl := Pl.bitsN_lt f 16
            have hBB := Pl.bitsN_bit f 16
            have KZ2 := KR.out
            generalize Pl.bitsN f 16 = B at *
            have P2 := Lib.hid (show Pl.PairsOf (fun s => s ∈ A ∧ s < ((n + 17 : Nat) : Int)) (L ++ [⟨n, (B : Int)⟩]) from
              (Pl.PairsOf.add PO.out PR.out HB.out (m := (B : Int)) ⟨by omega, by omega⟩ (fun k hk => by
                rw [Int.toNat_natCast, hBB, HF.out k]
                simp only [hk, decide_true, Bool.true_and]
                unfold Pl.hasP
                rw [decide_eq_true_iff]
                have : ((n + k + 1 : Nat) : Int) = (n : Int) + k + 1 := by omega
                rw [this])).congr fun m => ⟨fun ⟨a, b⟩ => ⟨a, by omega⟩, fun ⟨a, b⟩ => ⟨a, by omega⟩⟩)
            have R2 := Lib.hid (show ∀ p ∈ L ++ [(⟨n, (B : Int)⟩ : Pr)], p.base + 16 < ((n + 17 : Nat) : Int) from fun p hp => by
              rcases List.mem_append.1 hp with h | h
              · have := PR.out p h; omega
              · simp at h; subst h; dsimp only; omega)
            have OW2 := OW.out.below (by rw [hgb]; exact KB.out)
            obtain ⟨gN, capN, wN, hrun, ho, hk2⟩ := pr_more OW2 ⟨n, (B : Int)⟩ (by omega) (KZ2.trans (KB.out.mono hNg)) (by omega)
            have HRUN := Lib.hid hrun
            have HO := Lib.hid ho
            have HK := Lib.hid hk2
            obtain ⟨oS, cS, rfl, -⟩ := RecK.Own.read prK_ok OW.out
            have i1 : IntKind.i64.wrap ((n : Int) + 16) = (n : Int) + 16 := by rw [IntKind.wrap_i64]; omega
            have i2 : IntKind.i64.wrap ((n : Int) + 16 + 1) = (n : Int) + 16 + 1 := by rw [IntKind.wrap_i64]; omega
            clear hrun ho hk2 hBB hBl
            go_wp2_with (at_builtin; refine Lib.wpList_append_run _ rfl (.tmp 65) (.tmp 67) 23 23 rfl _ _ rfl rfl _ _ HRUN.out ?_)
            go_roundw
            case measure => simp only [RowKit.intOf]; omega
            case rel => exact ⟨n + 17, _, by omega, by simp; omega, by simp; omega, P2, R2, HO, HK⟩
      · have hp : Pl.hasP A n = false := decide_eq_false hb
        rw [hp] at q0
        have P2 := Lib.hid (show Pl.PairsOf (fun s => s ∈ A ∧ s < ((n + 1 : Nat) : Int)) L from (Pl.PairsOf.skip PO.out hb).congr fun m => ⟨fun ⟨a, b⟩ => ⟨a, by omega⟩, fun ⟨a, b⟩ => ⟨a, by omega⟩⟩)
        have R2 := Lib.hid (show ∀ p ∈ L, p.base + 16 < ((n + 1 : Nat) : Int) from fun p hp => by have := PR.out p hp; omega)
        clear hp hb
        go_wp2_with fail
        go_roundw
        case measure => simp only [RowKit.intOf]; omega
        case rel => exact ⟨n + 1, L, by omega, by simp, by omega, P2, R2, OW, KR⟩
    · have e1 : ¬ (n : Int) < 65536 := by omega
      have P2 := Lib.hid (show Pl.PairsOf (· ∈ A) L from PO.out.congr fun m => ⟨fun h => h.1, fun h => ⟨h, by have := SQ.out m h; unfold Pl.Seq16 at this; omega⟩⟩)
      clear hlt
      go_wp2_with fail
      go_ret2
      exact ⟨KZ.out.trans (KR.out.mono (by omega)), .inr ⟨PF.out, _, rfl, L, World.ownsRow.mono OW.out (by omega), P2.out⟩⟩
end Go.Proofs.YthbcdpckckellaaDoor

/-! The reference's Numbers. -/
namespace Go.Proofs.YthbcdpckckellaaDoor
open Go.RowKit
set_option linter.unusedVariables false
set_option linter.unusedSimpArgs false
theorem rNums_full (v : Value) (L : List Pr) (hL : 200 < L.length) (w : World) (h : IsPrs w v L) :
    Calls Tryd.prog 8 #[v] w fun e w' => e = .returned (.tuple #[.slice none 0 0, .int .i64 4]) ∧ w = w' := by
  obtain ⟨oa, c, rfl, -⟩ := prs_read h
  have e1 : (200 : Int) < (L.length : Int) := by omega
  clear h
  go_enter Tryd.func8, Tryd.ntmps8
  go_wp2_with fail
  go_ret2
  exact ⟨rfl, rfl⟩
theorem Pl.bit_div (b : Int) (M k : Nat) : Pl.bit ⟨b, (M : Int)⟩ k = decide (M / 2 ^ k % 2 = 1) := by
  unfold Pl.bit
  rw [Int.toNat_natCast, Nat.testBit_eq_decide_div_mod_eq]
set_option maxRecDepth 100000 in
set_option maxHeartbeats 4000000 in
theorem rNums_1 (v : Value) (L : List Pr) (hL : L.length ≤ 200) (w : World) (h : IsPrs w v L) :
    Calls Tryd.prog 8 #[v] w fun e w' => Below w.heap.size w w' ∧ ((Pl.numF L = 1 ∧ e = .returned (.tuple #[.slice none 0 0, .int .i64 1])) ∨
      (Pl.numF L = 0 ∧ ∃ (v' : Value), e = .returned (.tuple #[v', .int .i64 0]) ∧ ∃ R : List Int, IRow w' w.heap.size v' R ∧ Rises R ∧ ∀ i, i ∈ R ↔ i ∈ Pl.numsOf L)) := by
  obtain ⟨oL, cL, rfl, hlL, hcL, -, rL⟩ := prs_read h
  unfold maxLen at hcL
  have RL := Lib.hid (show ∀ y, Below w.heap.size w y → ∀ k (hk : k < L.length), ∃ g f, oL = some ⟨g, f, none⟩ ∧ g < w.heap.size ∧ y.cell? ⟨g, f + k * 2, none⟩ = some (.int .i64 L[k].base) ∧ y.cell? ⟨g, f + k * 2 + 1, none⟩ = some (.int .i64 L[k].mask) ∧ L[k].Num from fun y kk k hk => by
    obtain ⟨g, f, e, hb, q0, q1, hn⟩ := rL k hk
    exact ⟨g, f, e, hb, (kk.cell (p := ⟨g, f + k * 2, none⟩) hb).trans q0, (kk.cell (p := ⟨g, f + k * 2 + 1, none⟩) hb).trans q1, hn⟩)
  have e0 : ¬ (200 : Int) < (L.length : Int) := by omega
  have R0 := Lib.hid (IRow.nil w w.heap.size)
  have K0 := Lib.hid (Below.refl w.heap.size w)
  clear rL h
  go_enter Tryd.func8, Tryd.ntmps8
  go_upto_region 5 with fail
  clear e0
  go_loopw [4, 5, 6, 7, 8, 9] (fun s4 s5 _ _ _ _ wr => ∃ (i : Nat) (A : List Int), i ≤ L.length ∧ s5 = .int .i64 i ∧ A.length ≤ 17 * i ∧ Hid (A = Pl.numsOf (L.take i)) ∧ Hid (∀ j (hj : j < i) (hl : j < L.length), Pl.prOk L[j]) ∧ Hid (IRow wr w.heap.size s4 A) ∧ Hid (Below w.heap.size w wr)) (fun _ s5 _ _ _ _ _ => L.length - (RowKit.intOf s5).toNat)
  case atStart => exact ⟨0, [], by omega, rfl, by simp, Lib.hid rfl, Lib.hid (fun j hj => by omega), R0, K0⟩
  case round =>
    as_aux_lemma =>
    clear R0 K0
    obtain ⟨i, A, hi, rfl, hA, HA, HO, IR, KR⟩ := hrel
    by_cases hlt : i < L.length
    · have e1 : (i : Int) < (L.length : Int) := by omega
      obtain ⟨g, fo, rfl, hgw, q0, q1, hnum⟩ := RL.out _ KR.out i hlt
      have QB := Lib.hid (show ∀ y, Below w.heap.size w y → y.cell? ⟨g, fo + i * 2, none⟩ = some (.int .i64 L[i].base) from fun y kk => by
        obtain ⟨g', f', e, -, q, -⟩ := RL.out y kk i hlt
        cases e; exact q)
      have QM := Lib.hid (show ∀ y, Below w.heap.size w y → y.cell? ⟨g, fo + i * 2 + 1, none⟩ = some (.int .i64 L[i].mask) from fun y kk => by
        obtain ⟨g', f', e, -, -, q, -⟩ := RL.out y kk i hlt
        cases e; exact q)
      have HS := Lib.hid (Pl.numsOf_succ hlt)
      have HB := Lib.hid (show ¬ Pl.prOk L[i] → Pl.numF L = 1 from fun h => Pl.numF_bad hL hlt h)
      have HG := Lib.hid (show Pl.prOk L[i] → ∀ j (hj : j < i + 1) (hl : j < L.length), Pl.prOk L[j] from fun h j hj hl => by
        by_cases e : j = i
        · subst e; exact h
        · exact HO.out j (by omega) hl)
      generalize L[i] = p at *
      obtain ⟨b, m⟩ := p
      dsimp only at q0 q1 hnum QB QM
      unfold Pr.Num at hnum
      obtain ⟨⟨nb0, nb1⟩, ⟨nm0, nm1⟩⟩ := hnum
      dsimp only at nb0 nb1 nm0 nm1
      obtain ⟨o4, c4, rfl, -⟩ := intRow_read IR.out
      have SQ := Lib.hid (rSeq_any b wr)
      have SM := Lib.hid (rSeq_any m wr)
      by_cases hb : Pl.Seq16 b
      case neg =>
        have hs : Pl.seq b = false := by rw [Pl.seq_b, decide_eq_false hb]
        have HF := Lib.hid (HB.out (fun h => hb h.1))
        clear hb HB HG
        go_wp2_with (first
          | (go_at_call 16; refine SQ.out.mono ?_; rintro e w1 ⟨rfl, rfl⟩; rw [hs])
          | (go_at_call 16; refine SM.out.mono ?_; rintro e w1 ⟨rfl, rfl⟩))
        go_ret2
        exact ⟨KR.out, .inl ⟨HF.out, rfl⟩⟩
      have hs : Pl.seq b = true := (Pl.seq_16 b).2 hb
      by_cases hm : Pl.Seq16 m
      case neg =>
        have HF := Lib.hid (HB.out (fun h => hm h.2.1))
        have hs2 : Pl.seq m = false := by rw [Pl.seq_b, decide_eq_false hm]
        clear hb HB HG hm
        go_wp2_with (first
          | (go_at_call 16; refine SQ.out.mono ?_; rintro e w1 ⟨rfl, rfl⟩; rw [hs])
          | (go_at_call 16; refine SM.out.mono ?_; rintro e w1 ⟨rfl, rfl⟩; rw [hs2]))
        go_ret2
        exact ⟨KR.out, .inl ⟨HF.out, rfl⟩⟩
      have hs2 : Pl.seq m = true := (Pl.seq_16 m).2 hm
      have HBS := Lib.hid hb
      have HMS := Lib.hid hm
      obtain ⟨b0, b1⟩ := hb
      obtain ⟨m0, m1⟩ := hm
      obtain ⟨M, rfl⟩ : ∃ M : Nat, m = M := ⟨m.toNat, by omega⟩
      obtain ⟨gN, capN, wN, hrun, ho, hk2, hkp⟩ := IR.out.more2 b (by omega) KR.out (Nat.le_refl _)
      have HRUN := Lib.hid hrun
      have IR1 := Lib.hid (show IRow wN w.heap.size (.slice (some ⟨gN, 0, none⟩) (A.length + 1) capN) (A ++ Pl.numK ⟨b, M⟩ 0) from ho)
      have KB1 := Lib.hid hk2
      have q2 := QM.out wN hk2
      have CX0 := Lib.hid (show ∀ x ∈ Pl.numK ⟨b, (M : Int)⟩ 0, x ≤ 65535 from fun x hx => by rw [Pl.numK_zero] at hx; simp at hx; omega)
      clear hrun ho hk2 hkp
      go_upto_region 13 with (first
        | (go_at_call 16; refine SQ.out.mono ?_; rintro e w1 ⟨rfl, rfl⟩; rw [hs])
        | (go_at_call 16; refine SM.out.mono ?_; rintro e w1 ⟨rfl, rfl⟩; rw [hs2])
        | (at_builtin; refine Lib.wpList_append_run _ rfl (.tmp 37) (.tmp 43) 22 22 rfl _ _ rfl rfl _ _ HRUN.out ?_))
      refine abs_b (fun y => Hid (IRow y w.heap.size (.slice (some ⟨gN, 0, none⟩) (A.length + 1) capN) (A ++ Pl.numK ⟨b, M⟩ 0)) ∧ Hid (Below w.heap.size w y)) ⟨IR1, KB1⟩ ?_
      clear IR1 KB1 HRUN SQ SM IR KR q0 q1 q2
      rintro y ⟨IR, KR⟩
      have hA17 : A.length ≤ 3400 := by omega
      go_upto_region 14 with fail
      go_loopw [4, 8, 9] (fun s4 s8 s9 z => ∃ (k : Nat) (C : List Int), k ≤ 16 ∧ s9 = .int .i64 ((k : Int) + 1) ∧ s8 = .int .i64 ((M / 2 ^ k : Nat) : Int) ∧ 1 ≤ C.length ∧ C.length ≤ k + 1 ∧ Hid (C = Pl.numK ⟨b, M⟩ k) ∧ Hid (∀ x ∈ C, x ≤ 65535) ∧ Hid (IRow z w.heap.size s4 (A ++ C)) ∧ Hid (Below w.heap.size w z)) (fun _ _ s9 _ => 17 - (RowKit.intOf s9).toNat)
      case atStart => exact ⟨0, Pl.numK ⟨b, M⟩ 0, by omega, rfl, by simp, (Pl.numK_len _ _).1, (Pl.numK_len _ _).2, Lib.hid rfl, CX0, IR, KR⟩
      case round =>
        as_aux_lemma =>
        clear IR KR CX0
        obtain ⟨k, C, hk, rfl, rfl, hC1, hC2, HC, CX, IR, KR⟩ := hrel
        have hACl : (A ++ C).length = A.length + C.length := by simp
        obtain ⟨g4, c4', hv4⟩ := Joins.ownsRow_form IR.out (by omega)
        subst hv4
        rw [hACl]
        by_cases hk16 : k < 16
        · have e2 : (k : Int) + 1 ≤ 16 := by omega
          have hbd := Pl.bit_div b M k
          have hq2 : M / 2 ^ k / 2 = M / 2 ^ (k + 1) := by rw [Nat.pow_succ, Nat.div_div_eq_div_mul]
          have NS := Lib.hid (Pl.numK_succ ⟨b, (M : Int)⟩ k)
          dsimp only at NS
          generalize Pl.bit ⟨b, (M : Int)⟩ k = bt at *
          have hqM : M / 2 ^ k ≤ 65535 := Nat.le_trans (Nat.div_le_self _ _) (by omega)
          obtain ⟨q, hqk⟩ : ∃ q, M / 2 ^ k = q := ⟨_, rfl⟩
          rw [hqk] at hbd hq2 hqM ⊢
          have HQ := Lib.hid hq2
          have HQK := Lib.hid hqk
          clear hq2 hqk
          have t2 : ((q : Int)).tdiv 2 = ((q / 2 : Nat) : Int) := by rw [Int.tdiv_eq_ediv_of_nonneg (by omega)]; omega
          have i3 : IntKind.i64.wrap ((k : Int) + 1 + 1) = (k : Int) + 1 + 1 := by rw [IntKind.wrap_i64]; omega
          have NS2 := NS.out
          clear NS
          cases bt
          · have hq0 : q % 2 = 0 := by have := of_decide_eq_false hbd.symm; omega
            have t1 : ((q : Int)).tmod 2 = 0 := by rw [Int.tmod_eq_emod_of_nonneg (by omega)]; omega
            have N2 := Lib.hid (show C = Pl.numK ⟨b, M⟩ (k + 1) from by rw [NS2, HC.out]; simp)
            clear NS2 hbd
            go_wp2_with fail
            go_roundw
            case measure => simp only [RowKit.intOf]; omega
            case rel => exact ⟨k + 1, C, by omega, by simp, by rw [← HQ.out]; exact congrArg (Value.int IntKind.i64) (by omega), hC1, by omega, N2, CX, by rw [← hACl]; exact IR, KR⟩
          · have hq0 : q % 2 = 1 := of_decide_eq_true hbd.symm
            have t1 : ((q : Int)).tmod 2 = 1 := by rw [Int.tmod_eq_emod_of_nonneg (by omega)]; omega
            have N2 := Lib.hid (show C ++ [b + ((k : Int) + 1)] = Pl.numK ⟨b, M⟩ (k + 1) from by rw [NS2, HC.out]; simp; omega)
            have BX := Lib.hid (show 65535 < b + ((k : Int) + 1) → ¬ Pl.prOk ⟨b, (M : Int)⟩ from fun h hp => by
              have h1 := hp.2.2 (b + ((k : Int) + 1)) (Pl.mem_numOf.2 (.inr ⟨k, hk16, by rw [Pl.bit_div, HQK.out]; exact decide_eq_true hq0, by dsimp only; omega⟩))
              omega)
            have i1 : IntKind.i64.wrap (b + ((k : Int) + 1)) = b + ((k : Int) + 1) := by rw [IntKind.wrap_i64]; omega
            have q0 := QB.out _ KR.out
            obtain ⟨gN', capN', wN', hrun, ho, hk2, hkp⟩ := IR.out.more2 (b + ((k : Int) + 1)) (by omega) KR.out (Nat.le_refl _)
            rw [hACl] at hrun ho
            have q3 := QB.out _ hk2
            have HRUN := Lib.hid hrun
            have IR1 := Lib.hid (show IRow wN' w.heap.size (.slice (some ⟨gN', 0, none⟩) (A.length + C.length + 1) capN') (A ++ (C ++ [b + ((k : Int) + 1)])) from by rw [← List.append_assoc]; exact ho)
            have KB1 := Lib.hid hk2
            clear hrun ho hk2 hkp NS2 hbd
            by_cases hbig : 65535 < b + ((k : Int) + 1)
            · have HF := Lib.hid (HB.out (BX.out hbig))
              clear BX
              go_wp2_with (at_builtin; refine Lib.wpList_append_run _ rfl (.tmp 57) (.tmp 65) 22 22 rfl _ _ rfl rfl _ _ HRUN.out ?_)
              go_ret2
              exact ⟨KB1.out, .inl ⟨HF.out, rfl⟩⟩
            · have CX2 := Lib.hid (show ∀ x ∈ C ++ [b + ((k : Int) + 1)], x ≤ 65535 from fun x hx => by
                rcases List.mem_append.1 hx with h | h
                · exact CX.out x h
                · simp at h; omega)
              clear BX
              go_wp2_with (at_builtin; refine Lib.wpList_append_run _ rfl (.tmp 57) (.tmp 65) 22 22 rfl _ _ rfl rfl _ _ HRUN.out ?_)
              go_roundw
              case measure => simp only [RowKit.intOf]; omega
              case rel => exact ⟨k + 1, _, by omega, by simp, by rw [← HQ.out]; exact congrArg (Value.int IntKind.i64) (by omega), by simp, by simp; omega, N2, CX2, IR1, KB1⟩
        · obtain rfl : k = 16 := by omega
          have e2 : ¬ ((16 : Nat) : Int) + 1 ≤ 16 := by omega
          have N3 := Lib.hid (show A ++ C = Pl.numsOf (L.take (i + 1)) from by rw [HS.out, HA.out, HC.out, Pl.numK_all])
          have G3 := Lib.hid (HG.out ⟨HBS.out, HMS.out, fun x hx => CX.out x (by rw [HC.out, Pl.numK_all]; exact hx)⟩)
          have IR2 := Lib.hid (show IRow wr w.heap.size (.slice (some ⟨g4, 0, none⟩) (A.length + C.length) c4') (A ++ C) from by rw [← hACl]; exact IR.out)
          have hl2 : (A ++ C).length ≤ 17 * (i + 1) := by rw [hACl]; omega
          go_wp2_with fail
          go_roundw
          case measure => simp only [RowKit.intOf]; omega
          case rel => exact ⟨i + 1, A ++ C, by omega, by simp, hl2, N3, G3, IR2, KR⟩
    · have hie : i = L.length := by omega
      subst hie
      have e1 : ¬ (L.length : Int) < (L.length : Int) := by omega
      have HF := Lib.hid (show Pl.numF L = 0 from by
        unfold Pl.numF
        rw [if_neg (by omega), if_pos]
        intro p hp
        obtain ⟨j, hj, rfl⟩ := List.mem_iff_getElem.1 hp
        exact HO.out j hj hj)
      rw [List.take_length] at HA
      obtain ⟨o4, c4, rfl, -⟩ := intRow_read IR.out
      have ST := Lib.hid (rSorted_any _ A (by omega) wr IR.out.sl)
      clear hlt
      go_wp2_with (go_at_call 21; (with_reducible refine ST.out.mono ?_); rintro r w3 ⟨v78, S, rfl, h1, h2, h3, k3⟩)
      go_ret2
      exact ⟨KR.out.trans (k3.mono KR.out.size), .inr ⟨HF.out, _, rfl, S, IRow.lower h3 KR.out.size, h1, fun j => by rw [h2, HA.out]⟩⟩
end Go.Proofs.YthbcdpckckellaaDoor

/-! The reference's BackBytes: its head. -/
namespace Go.Proofs.YthbcdpckckellaaDoor
open Go.RowKit
set_option linter.unusedVariables false
set_option linter.unusedSimpArgs false
theorem rPairs_bad (v : Value) (A : List Int) (hA : Pl.pairF A ≠ 0) (w : World) (h : Sl encI w v A) :
    Calls Tryd.prog 4 #[v] w fun e w' => e = .returned (.tuple #[.slice none 0 0, .int .i64 (Pl.pairF A)]) ∧ Below w.heap.size w w' := by
  rcases Pl.pairF_cases A with ⟨h1, h2⟩ | ⟨h1, h2⟩
  · refine (rPairs_full v A h2 w h).mono fun e w' ⟨a, b⟩ => ⟨by rw [a, h1], by subst b; exact Below.refl _ _⟩
  · refine (rPairs_1 v A h2 w h).mono fun e w' ⟨a, b⟩ => ?_
    rcases b with ⟨b1, b2⟩ | ⟨b1, _⟩
    · exact ⟨by rw [b2, b1], a⟩
    · exact absurd b1 hA
theorem rPairs_ok (v : Value) (A : List Int) (hA : Pl.pairF A = 0) (w : World) (h : Sl encI w v A) :
    Calls Tryd.prog 4 #[v] w fun e w' => ∃ (L : List Pr) (oa : Option Addr) (c : Nat), e = .returned (.tuple #[.slice oa L.length c, .int .i64 0]) ∧ IsPrs w' (.slice oa L.length c) L ∧ Pl.PairsOf (· ∈ A) L ∧ Below w.heap.size w w' := by
  rcases Pl.pairF_cases A with ⟨h1, h2⟩ | ⟨h1, h2⟩
  · rw [h1] at hA; cases hA
  · refine (rPairs_1 v A h2 w h).mono fun e w' ⟨a, b⟩ => ?_
    rcases b with ⟨b1, _⟩ | ⟨_, v', L, b2, b3, b4⟩
    · rw [b1] at hA; cases hA
    · have hp := prK_prs b3 (Pl.PairsOf.num b4 hA)
      obtain ⟨oa, c, rfl, -⟩ := prs_read hp
      exact ⟨L, oa, c, b2, hp, b4, a⟩
/-- what BackBytes hands out -/
def RBB (w : World) (k t val : Int) (A : List Int) (e : Ending) (w' : World) : Prop := Below w.heap.size w w' ∧ ((Pl.backF k t val A ≠ 0 ∧ e = .returned (.tuple #[.slice none 0 0, .int .i64 (Pl.backF k t val A)])) ∨
      (Pl.backF k t val A = 0 ∧ ∃ (v : Value) (L : List Pr), e = .returned (.tuple #[v, .int .i64 0]) ∧ Pl.PairsOf (· ∈ A) L ∧ OwnB w' w.heap.size v (Pl.backBytes k t val L)))
theorem RBB.bad {w w' : World} {k t val : Int} {A : List Int} (hb : Below w.heap.size w w') (c : Int) (h : Pl.backF k t val A = c) (hc : c ≠ 0) : RBB w k t val A (.returned (.tuple #[.slice none 0 0, .int .i64 c])) w' :=
  ⟨hb, .inl ⟨by rw [h]; exact hc, by rw [h]⟩⟩
theorem RBB.good {w w' : World} {k t val : Int} {A : List Int} (hb : Below w.heap.size w w') (h : Pl.backF k t val A = 0) {v : Value} {L : List Pr} (hL : Pl.PairsOf (· ∈ A) L) (ho : OwnB w' w.heap.size v (Pl.backBytes k t val L)) : RBB w k t val A (.returned (.tuple #[v, .int .i64 0])) w' :=
  ⟨hb, .inr ⟨h, v, L, rfl, hL, ho⟩⟩
theorem Pl.backF_mis {k t val : Int} {A : List Int} (hh : Pl.backHead k t val) (h : ¬ ((k = 1) ↔ (0 < A.length)) ∨ ¬ A.Pairwise (fun x y => x < y)) : Pl.backF k t val A = 3 := by
  unfold Pl.backF
  rw [if_pos hh, if_pos]
  rcases h with h | h
  · exact .inl (fun e => h (by rw [decide_eq_decide] at e; exact e))
  · exact .inr h
theorem Pl.backF_pair {k t val : Int} {A : List Int} (hh : Pl.backHead k t val) (h1 : (k = 1) ↔ (0 < A.length)) (h2 : A.Pairwise (fun x y => x < y)) : Pl.backF k t val A = Pl.pairF A := by
  unfold Pl.backF
  rw [if_pos hh, if_neg]
  rintro (h | h)
  · exact h (by rw [decide_eq_decide]; exact h1)
  · exact h h2
set_option maxRecDepth 100000 in
set_option maxHeartbeats 8000000 in
theorem rBackBytes_head (k t val : Int) (oa : Option Addr) (c : Nat) (A : List Int) (w : World) (hA : Sl encI w (.slice oa A.length c) A) (hh : ¬ Pl.backHead k t val) :
    Calls Tryd.prog 11 #[bkV k t (.slice oa A.length c) val] w (RBB w k t val A) := by
  have KA : Hid (Below w.heap.size w (w.alloc (.cells #[.int .i64 k, .int .i64 t, .slice oa A.length c, .int .i64 val] 25))) := Lib.hid ((Below.refl _ _).alloc (Nat.le_refl _) _)
  have hA2 := hA.len
  unfold maxLen at hA2
  obtain ⟨n, hn⟩ : ∃ n, A.length = n := ⟨_, rfl⟩
  rw [hn] at hA hA2 KA ⊢
  have HA := Lib.hid hA
  have HNL := Lib.hid hn
  clear hA
  clear hn
  go_enter Tryd.func11, Tryd.ntmps11
  go_upto_region 1 with fail
  have BX : Hid (BkBox (w.alloc (.cells #[.int .i64 k, .int .i64 t, .slice oa n c, .int .i64 val] 25)) w.heap.size k t (.slice oa n c) val) := Lib.hid (obj_new _ _)
  refine abs_b (fun y => Hid (BkBox y w.heap.size k t (.slice oa n c) val) ∧ Hid (Below w.heap.size w y)) ⟨BX, KA⟩ ?_
  clear BX KA
  rintro y ⟨BX, KA⟩
  obtain ⟨c0, c1, c2, c3⟩ := BX.out.cells
  have F1 := Lib.hid (show Pl.backF k t val A = 1 from by unfold Pl.backF; rw [if_neg hh])
  have HC := Pl.head_not hh
  have FIN := Lib.hid (show ∀ x, Below w.heap.size w x → RBB w k t val A (.returned (.tuple #[.slice none 0 0, .int .i64 1])) x from fun x hx => RBB.bad hx 1 F1.out (by decide))
  clear hh F1
  have H2 : Pl.most 2 = 3 := rfl
  have H3 : Pl.most 3 = 1000000 := rfl
  have HK : k = 2 ∨ k = 3 ∨ (k ≠ 2 ∧ k ≠ 3 ∧ Pl.most k = 0) := by
    by_cases a : k = 2
    · exact .inl a
    · by_cases b : k = 3
      · exact .inr (.inl b)
      · exact .inr (.inr ⟨a, b, by unfold Pl.most; rw [if_neg a, if_neg b]⟩)
  rcases HK with rfl | rfl | ⟨k2, k3, k0⟩
  · rw [H2] at HC
    clear H2 H3
    rcases HC with h1 | ⟨h1, h2⟩ | ⟨h1, h2, h3⟩ | ⟨h1, h2, h3, h4⟩ | ⟨h1, h2, h3, h4, h5⟩ | ⟨h1, h2, h3, h4, h5, h6⟩
    · omega
    · omega
    all_goals
      clear h1 h2
      go_wp2_with fail
      go_ret2
      exact FIN.out _ KA.out
  · rw [H3] at HC
    clear H2 H3
    rcases HC with h1 | ⟨h1, h2⟩ | ⟨h1, h2, h3⟩ | ⟨h1, h2, h3, h4⟩ | ⟨h1, h2, h3, h4, h5⟩ | ⟨h1, h2, h3, h4, h5, h6⟩
    · omega
    · omega
    all_goals
      clear h1 h2
      go_wp2_with fail
      go_ret2
      exact FIN.out _ KA.out
  · rw [k0] at HC
    have d2 : (k == 2) = false := beq_eq_false_iff_ne.2 k2
    have d3 : (k == 3) = false := beq_eq_false_iff_ne.2 k3
    clear H2 H3 k2 k3 k0
    rcases HC with h1 | ⟨h1, h2⟩ | ⟨h1, h2, h3⟩ | ⟨h1, h2, h3, h4⟩ | ⟨h1, h2, h3, h4, h5⟩ | ⟨h1, h2, h3, h4, h5, h6⟩
    all_goals
      go_wp2_with fail
      go_ret2
      exact FIN.out _ KA.out
end Go.Proofs.YthbcdpckckellaaDoor
