import Derived.Test.YthmfmnoblobcoaaPrs
import Derived.Test.YthmfmnoblobcoaaValSorted
import Derived.Test.YthmfmnoblobcoaaErrE
import Derived.Test.YthmfmnoblobcoaaSerial
import Derived.Deep.QuietTactic
import Derived.BigQuiet
import Derived.Deep.CutBlock
/-! back.Pairs. -/
namespace Go.Proofs.Ythmfmnoblobcoaa
open Go.RowKit
set_option linter.unusedVariables false
set_option linter.unusedSimpArgs false
theorem or_i64_nat (a b : Nat) (ha : a < 65536) (hb : b < 65536) : bits .or .i64 (a : Int) (b : Int) = ((a ||| b : Nat) : Int) := by
  have hx : a ||| b < 2 ^ 16 := Nat.or_lt_two_pow (by omega) (by omega)
  have h1 : (BitVec.ofInt 64 (a : Int)).toNat = a := by
    rw [BitVec.ofInt_natCast, BitVec.toNat_ofNat]; exact Nat.mod_eq_of_lt (by omega)
  have h2 : (BitVec.ofInt 64 (b : Int)).toNat = b := by
    rw [BitVec.ofInt_natCast, BitVec.toNat_ofNat]; exact Nat.mod_eq_of_lt (by omega)
  show IntKind.i64.wrap ((BitVec.ofInt 64 (a : Int) ||| BitVec.ofInt 64 (b : Int)).toNat : Int) = _
  rw [BitVec.toNat_or, h1, h2, IntKind.wrap_i64]
  omega
theorem Pl.or_mask {m : Int} {d : Nat} (hm : 0 ≤ m ∧ m ≤ 65535) (hd : d < 16) : bits .or .i64 m ((2 : Int) ^ d) = ((m.toNat ||| 2 ^ d : Nat) : Int) := by
  have e : ((2 : Int) ^ d) = ((2 ^ d : Nat) : Int) := by simp
  have hp : 2 ^ d < 65536 := Nat.pow_lt_pow_right (n := 16) (by decide) hd
  have hm2 : m = (m.toNat : Int) := by omega
  rw [e]
  conv => lhs; rw [hm2]
  exact or_i64_nat _ _ (by omega) hp
theorem Pl.wrap_pow {d : Nat} (hd : d < 16) : wrap64 ((2 : Int) ^ d) = (2 : Int) ^ d := by
  have e : ((2 : Int) ^ d) = ((2 ^ d : Nat) : Int) := by simp
  have hp : 2 ^ d < 65536 := Nat.pow_lt_pow_right (n := 16) (by decide) hd
  rw [e]
  obtain ⟨q, hq⟩ : ∃ q : Nat, 2 ^ d = q := ⟨_, rfl⟩
  rw [hq] at hp ⊢
  unfold wrap64
  omega
/-- the mask of the last is written -/
theorem pr_set {w : World} {M : Nat} {g c : Nat} {A : List Pr} {b m : Int} (h : prK.Own w M (.slice (some ⟨g, 0, none⟩) (A.length + 1) c) (A ++ [⟨b, m⟩])) (m' : Int) :
    prK.Own (w.setCell ⟨g, A.length * 2 + 1, none⟩ (.int .i64 m')) M (.slice (some ⟨g, 0, none⟩) (A.length + 1) c) (A ++ [⟨b, m'⟩]) ∧ M ≤ g ∧ w.frozen? ⟨g, A.length * 2 + 1, none⟩ = false := by
  have h' : w.ownsRow M 32 2 (.slice (some ⟨g, 0, none⟩) (A.length + 1) c) (A.length + 1) (prK.all (A ++ [⟨b, m⟩])) := by
    have := h
    unfold RecK.Own at this
    rw [show (A ++ [(⟨b, m⟩ : Pr)]).length = A.length + 1 by simp] at this; exact this
  obtain ⟨st1, _⟩ := h'.stored (A.length * 2 + 1) (.int .i64 m')
  have hset : (prK.all (A ++ [⟨b, m⟩])).set (A.length * 2 + 1) (.int .i64 m') = prK.all (A ++ [⟨b, m'⟩]) := by
    simp only [RecK.all, List.flatMap_append, List.flatMap_cons, List.flatMap_nil, List.append_nil]
    have hl : (A.flatMap prK.cells).length = A.length * 2 := prK.all_len prK_ok A
    rw [List.set_append_right _ _ (by omega), hl, Nat.add_sub_cancel_left]
    rfl
  rw [hset] at st1
  refine ⟨?_, (h'.lt g rfl).1, h'.frozenAt _⟩
  unfold RecK.Own
  rw [show (A ++ [(⟨b, m'⟩ : Pr)]).length = A.length + 1 by simp]
  exact st1
/-- lists that have a last one -/
theorem last_of {α : Type} (L : List α) : L = [] ∨ ∃ A x, L = A ++ [x] := by
  rcases List.eq_nil_or_concat L with h | ⟨A, x, h⟩
  · exact .inl h
  · exact .inr ⟨A, x, by simpa using h⟩
theorem Pl.seq_16 (n : Int) : Pl.seq n = true ↔ Pl.Seq16 n := Pl.seq_iff n
theorem Pl.seq_b (n : Int) : Pl.seq n = decide (Pl.Seq16 n) := by
  rw [Bool.eq_iff_iff, decide_eq_true_iff]; exact Pl.seq_16 n
theorem backPairs_full (v : Value) (A : List Int) (hA : 200 < A.length) (w : World) (h : Sl encI w v A) :
    Calls Try.prog 4 #[v] w fun e w' => e = .returned (.tuple #[.slice none 0 0, errV 4]) ∧ w = w' := by
  obtain ⟨oa, c, rfl⟩ : ∃ oa c, v = .slice oa A.length c := by
    rcases h with ⟨h1, oa, cap, rfl, _⟩ | ⟨b, off, cap, rfl, _⟩
    · subst h1; exact ⟨_, _, rfl⟩
    · exact ⟨_, _, rfl⟩
  have e1 : (200 : Int) < (A.length : Int) := by omega
  rw [errV_hit 4 (by decide)]
  clear h
  go_enter Try.func4, Try.ntmps4
  go_wp2_with fail
  go_ret2
  exact ⟨rfl, rfl⟩
set_option maxRecDepth 100000 in
set_option maxHeartbeats 2000000 in
theorem backPairs_1 (v : Value) (A : List Int) (hA : A.length ≤ 200) (w : World) (h : Sl encI w v A) :
    Calls Try.prog 4 #[v] w fun e w' => Below w.heap.size w w' ∧ ((Pl.pairF A = 1 ∧ e = .returned (.tuple #[.slice none 0 0, errV 1])) ∨
      (Pl.pairF A = 0 ∧ ∃ (v' : Value) (L : List Pr), e = .returned (.tuple #[v', .nilIface]) ∧ prK.Own w' w.heap.size v' L ∧ Pl.PairsOf (· ∈ A) L ∧ L.length ≤ A.length)) := by
  have HS := Lib.hid h
  have hm := h.len
  unfold maxLen at hm
  have RD := Lib.hid (show ∃ oa c, v = .slice oa A.length c ∧ ∀ y, Below w.heap.size w y → ∀ i (hi : i < A.length), ∃ b f, oa = some ⟨b, f, none⟩ ∧ y.cell? ⟨b, f + i, none⟩ = some (.int .i64 A[i]) from by
    rcases h with ⟨h1, oa, cap, rfl, _⟩ | ⟨b, off, cap, rfl, _, _, h2⟩
    · subst h1
      exact ⟨oa, cap, rfl, fun y _ i hi => by simp at hi⟩
    · refine ⟨_, cap, rfl, fun y k i hi => ⟨b, off, rfl, ?_⟩⟩
      exact (k.cell (p := ⟨b, off + i, none⟩) (Sl.lt (h2 i hi))).trans (h2 i hi))
  obtain ⟨oa, c, rfl, rd⟩ := RD.out
  have RC := Lib.hid rd
  have e0 : ¬ (200 : Int) < (A.length : Int) := by omega
  clear RD rd h
  go_enter Try.func4, Try.ntmps4
  go_upto_region 3 with fail
  clear e0
  go_upto_block 0 with fail
  go_cut [5] from 16 to 24 (fun _ z => w = z ∧ Hid (Pl.pairF A = 0))
  case first =>
    as_aux_lemma =>
    go_upto_region 4 with fail
    go_loopw [5, 16] (fun _ s16 wr => ∃ i : Nat, i ≤ A.length ∧ s16 = .int .i64 i ∧ w = wr ∧ Hid (∀ j (hj : j < i) (hl : j < A.length), Pl.Seq16 A[j])) (fun _ s16 _ => A.length - (intOf s16).toNat)
    case atStart => exact ⟨0, by omega, rfl, rfl, Lib.hid (fun j hj => by omega)⟩
    case round =>
      as_aux_lemma =>
      obtain ⟨i, hi, rfl, rfl, HN⟩ := hrel
      by_cases hlt : i < A.length
      · have e1 : (i : Int) < (A.length : Int) := by omega
        obtain ⟨b, f, rfl, q⟩ := RC.out w (Below.refl _ _) i hlt
        have HZ := Lib.hid (show Pl.Seq16 A[i] → ∀ j (hj : j < i + 1) (hl : j < A.length), Pl.Seq16 A[j] from fun h j hj hl => by
          by_cases e : j = i
          · subst e; exact h
          · exact HN.out j (by omega) hl)
        have HB := Lib.hid (show ¬ Pl.Seq16 A[i] → Pl.pairF A = 1 from fun h => by
          unfold Pl.pairF
          rw [if_neg (by omega), if_neg (fun hh => h (hh _ (List.getElem_mem _)))])
        generalize A[i] = x at *
        have SQ := Lib.hid (seq_any x w)
        by_cases hx : Pl.Seq16 x
        · have H2 := Lib.hid (HZ.out hx)
          have hs : Pl.seq x = true := (Pl.seq_16 x).2 hx
          clear HZ HB hx
          go_wp2_with (go_at_call 11; refine SQ.out.mono ?_; rintro e w1 ⟨rfl, rfl⟩; rw [hs])
          go_roundw
          case measure => simp only [intOf]; omega
          case rel => exact ⟨i + 1, by omega, by simp, by first | rfl | trivial, H2⟩
        · have H2 := Lib.hid (HB.out hx)
          have hs : Pl.seq x = false := by rw [Pl.seq_b, decide_eq_false hx]
          clear HZ HB hx
          go_wp2_with (go_at_call 11; refine SQ.out.mono ?_; rintro e w1 ⟨rfl, rfl⟩; rw [hs])
          go_ret2
          exact ⟨Below.refl _ _, .inl ⟨H2.out, by rw [errV_hit 1 (by decide)]; rfl⟩⟩
      · have hie : i = A.length := by omega
        subst hie
        have e1 : ¬ (A.length : Int) < (A.length : Int) := by omega
        have HG := Lib.hid (show Pl.pairF A = 0 from by
          unfold Pl.pairF
          rw [if_neg (by omega), if_pos]
          intro n hn
          obtain ⟨j, hj, rfl⟩ := List.mem_iff_getElem.1 hn
          exact HN.out j hj hj)
        clear hlt
        go_wp2_with fail
        go_meet
        exact ⟨rfl, HG⟩
  case rest =>
  as_aux_lemma =>
  obtain ⟨rfl, PF⟩ := hcut
  have VA := Lib.hid (fun n => values_in Fence.wide n trivial rfl oa A.length c w)
  have VC := Lib.hid (show Calls Try.prog 13 #[.slice oa A.length c] w fun e w' => e = .returned (.func (.func 24) #[] #[.pointer (some ⟨w.heap.size, 0, none⟩)]) ∧ w' = w.alloc (.cells #[.slice oa A.length c] 22) from (callsIn_wide (n := 6)).1 (VA.out 6))
  have kA : Below w.heap.size w (w.alloc (.cells #[.slice oa A.length c] 22)) := (Below.refl _ _).alloc (Nat.le_refl _) _
  have SV := Lib.hid (sorted_vals w.heap.size (.slice oa A.length c) A (by omega) (w.alloc (.cells #[.slice oa A.length c] 22)) (HS.out.below kA) (obj_new _ _))
  have KA := Lib.hid kA
  clear kA VA
  go_upto_region 11 with (first
    | (go_at_call 13; (with_reducible refine VC.out.mono ?_); rintro e w1 ⟨rfl, rfl⟩)
    | (go_at_call 12; (with_reducible refine SV.out.mono ?_); rintro e w2 ⟨v27, rfl, h1, k1⟩; obtain ⟨o27, c27, rfl, rd⟩ := intRow_read h1; have RS := Lib.hid h1; have K2 := Lib.hid (KA.out.trans (k1.mono KA.out.size)); clear h1 k1))
  clear VC SV KA
  obtain ⟨S, hS⟩ : ∃ S, (A.mergeSort fun x y => decide (x ≤ y)) = S := ⟨_, rfl⟩
  rw [hS] at rd
  have SM := Lib.hid (show ∀ n, n ∈ S ↔ n ∈ A from fun n => by rw [← hS, List.mem_mergeSort])
  have SL := Lib.hid (show S.length = A.length from by rw [← hS, List.length_mergeSort])
  have SO := Lib.hid (show ∀ i j (hi : i < S.length) (hj : j < S.length), i ≤ j → S[i] ≤ S[j] from by
    have hp : S.Pairwise fun x y => decide (x ≤ y) = true := by
      rw [← hS]; exact List.pairwise_mergeSort (fun a b c h1 h2 => by simp at *; omega) (fun a b => by simp; omega) A
    intro i j hi hj hij
    rcases Nat.lt_or_ge i j with q | q
    · have := (List.pairwise_iff_getElem.1 hp) i j hi hj q
      simpa using this
    · have : i = j := by omega
      subst this; exact Int.le_refl _)
  have SQ := Lib.hid (show ∀ n ∈ S, Pl.Seq16 n from fun n hn => by
    have := PF.out
    unfold Pl.pairF at this
    rw [if_neg (by omega)] at this
    split at this
    · rename_i h; exact h n ((SM.out n).1 hn)
    · cases this)
  have RD := Lib.hid (show ∀ y, Below w2.heap.size w2 y → ∀ i (hi : i < S.length), ∃ g, o27 = some ⟨g, 0, none⟩ ∧ y.cell? ⟨g, i, none⟩ = some (.int .i64 S[i]) from fun y k i hi => by
    obtain ⟨g, e, _, hl, q⟩ := rd i S[i] (by simp [hi])
    exact ⟨g, e, (k.cell (p := ⟨g, i, none⟩) hl).trans q⟩)
  have hSA : S.length ≤ 200 := by have := SL.out; omega
  have e27 : A.length = S.length := SL.out.symm
  rw [e27]
  clear rd RS e27
  have O0 := Lib.hid (RecK.Own.nil (R := prK) w2 w2.heap.size)
  have K0 := Lib.hid (Below.refl w2.heap.size w2)
  have P0 := Lib.hid (Pl.PairsOf.nil (S := (· ∈ S.take 0)) (fun n => by simp))
  go_loopw [6, 8, 9, 29] (fun s6 _ _ s29 wr => ∃ (i : Nat) (L : List Pr), i ≤ S.length ∧ s29 = .int .i64 i ∧ L.length ≤ i ∧ Hid (Pl.PairsOf (· ∈ S.take i) L) ∧ Hid (prK.Own wr w2.heap.size s6 L) ∧ Hid (Below w2.heap.size w2 wr)) (fun _ _ _ s29 _ => S.length - (intOf s29).toNat)
  case atStart => exact ⟨0, [], by omega, rfl, by simp, P0, O0, K0⟩
  case round =>
    as_aux_lemma =>
    clear O0 K0 P0
    obtain ⟨i, L, hi, rfl, hL, PO, OW, KR⟩ := hrel
    by_cases hlt : i < S.length
    · have e1 : (i : Int) < (S.length : Int) := by omega
      obtain ⟨gS, rfl, q⟩ := RD.out _ KR.out i hlt
      have MX := Lib.hid (show ∀ s, s ∈ S.take i → s ≤ S[i] from fun s hs => by
        obtain ⟨m, hm, rfl⟩ := List.mem_take_iff_getElem.1 hs
        exact SO.out m i (by omega) hlt (by omega))
      have TK := Lib.hid (show ∀ n, (n ∈ S.take i ∨ n = S[i]) ↔ n ∈ S.take (i + 1) from fun n => by
        rw [List.take_succ_eq_append_getElem hlt, List.mem_append, List.mem_singleton])
      have XQ := SQ.out S[i] (List.getElem_mem _)
      generalize S[i] = x at *
      obtain ⟨x0, x1⟩ := XQ
      rcases last_of L with rfl | ⟨B, ⟨b, m⟩, rfl⟩
      · obtain ⟨o6, c6, rfl, -⟩ := RecK.Own.read prK_ok OW.out
        have TN := Lib.hid ((PO.out.next (n := x) (fun s hs => by
          obtain ⟨p, hp, _⟩ := PO.out.cov s hs
          simp at hp) (by simp)).congr TK.out)
        obtain ⟨gN, capN, wN, hrun, ho, hk2⟩ := pr_more OW.out ⟨x, 0⟩ (by simp) KR.out (Nat.le_refl _)
        have HRUN := Lib.hid hrun
        have HO := Lib.hid ho
        have HK2 := Lib.hid hk2
        clear hrun ho hk2 hlt
        simp only [List.length_nil] at *
        go_wp2_with (at_builtin; refine Lib.wpList_append_run _ rfl (.tmp 72) (.tmp 75) 26 26 rfl _ _ rfl rfl _ _ HRUN.out ?_)
        go_roundw
        case measure => simp only [intOf]; omega
        case rel => exact ⟨i + 1, _, by omega, by simp, by simp, TN, HO, HK2⟩
      · have hl1 : (B ++ [(⟨b, m⟩ : Pr)]).length = B.length + 1 := by simp
        obtain ⟨g6, c6, hv⟩ := Joins.ownsRow_form OW.out (by omega)
        rw [hl1] at hv
        subst hv
        have cl := OW.out.cells (g := g6) rfl
        have hal : (prK.all B).length = B.length * 2 := prK.all_len prK_ok B
        have cA : wr.cell? ⟨g6, B.length * 2, none⟩ = some (.int .i64 b) := by
          have := cl (B.length * 2) (.int .i64 b) (by rw [RecK.all_app, List.getElem?_append_right (by omega), hal, Nat.sub_self]; rfl)
          rw [Addr.add_lit, Nat.zero_add] at this; exact this
        have cB : wr.cell? ⟨g6, B.length * 2 + 1, none⟩ = some (.int .i64 m) := by
          have := cl (B.length * 2 + 1) (.int .i64 m) (by rw [RecK.all_app, List.getElem?_append_right (by omega), hal, Nat.add_sub_cancel_left]; rfl)
          rw [Addr.add_lit, Nat.zero_add] at this; exact this
        clear cl hal
        obtain ⟨oS, om1, om2, -⟩ := PO.out.ok ⟨b, m⟩ (by simp)
        dsimp only at oS om1 om2
        have hbx := MX.out b oS
        have hb0 : 0 ≤ b := (SQ.out b (List.mem_of_mem_take oS)).1
        have i0 : (0 : Int) ≤ (B.length : Int) := by omega
        have i1 : (B.length : Int) < (B.length : Int) + 1 := by omega
        have i3 : IntKind.i64.wrap ((B.length : Int) + 1 - 1) = (B.length : Int) := by rw [IntKind.wrap_i64]; omega
        have i4 : IntKind.i64.wrap (b + 16) = b + 16 := by rw [IntKind.wrap_i64]; omega
        by_cases hg : x ≤ b + 16
        · by_cases hx : b < x
          · obtain ⟨d, hd⟩ : ∃ d : Nat, x - b - 1 = d := ⟨(x - b - 1).toNat, by omega⟩
            have hd16 : d < 16 := by omega
            have hxd : x = b + d + 1 := by omega
            have TN := Lib.hid (show Pl.PairsOf (· ∈ S.take (i + 1)) (B ++ [⟨b, ((m.toNat ||| 2 ^ d : Nat) : Int)⟩]) from (PO.out.more hd16 (fun s hs => by have := MX.out s hs; omega)).congr (fun n => by rw [← hxd]; exact TK.out n))
            obtain ⟨ST, hMg, hfr⟩ := pr_set OW.out ((m.toNat ||| 2 ^ d : Nat) : Int)
            have SO2 := Lib.hid ST
            have KS := Lib.hid (Below.setCell KR.out (p := ⟨g6, B.length * 2 + 1, none⟩) hMg (.int .i64 ((m.toNat ||| 2 ^ d : Nat) : Int)))
            have i5 : IntKind.i64.wrap (x - b) = x - b := by rw [IntKind.wrap_i64]; omega
            have i6 : IntKind.i64.wrap (x - b - 1) = (d : Int) := by rw [IntKind.wrap_i64]; omega
            have OM := Lib.hid (Pl.or_mask ⟨om1, om2⟩ hd16)
            clear ST hMg
            go_upto_region 16 with fail
            go_region
            rw [show (b + (d : Int) + 1 - b).toNat - 1 = d by omega, Pl.wrap_pow hd16, OM.out]
            have SO3 := Lib.hid (SO2.out.below (Below.drewN (Below.refl _ _) 1))
            have KS3 := Lib.hid (Below.drewN KS.out 1)
            clear SO2 KS
            go_wp2_with fail
            go_roundw
            case measure => simp only [intOf]; omega
            case rel => exact ⟨i + 1, _, by omega, by simp, by simp at hL ⊢; omega, TN, SO3, KS3⟩
          · have hxb : x = b := by omega
            subst hxb
            have TN := Lib.hid ((PO.out.same oS).congr TK.out)
            have e2 : ¬ x < x := by omega
            clear hx
            go_wp2_with fail
            go_roundw
            case measure => simp only [intOf]; omega
            case rel => exact ⟨i + 1, _, by omega, by simp, by omega, TN, OW, KR⟩
        · have TN := Lib.hid ((PO.out.next (n := x) (fun s hs => by
            obtain ⟨p, hp, h1, h2⟩ := PO.out.cov s hs
            have := PO.out.last p hp
            dsimp only at this
            omega) (fun p hp => by
            have := PO.out.last p hp
            dsimp only at this
            omega)).congr TK.out)
          obtain ⟨gN, capN, wN, hrun, ho, hk2⟩ := pr_more OW.out ⟨x, 0⟩ (by rw [hl1]; omega) KR.out (Nat.le_refl _)
          rw [hl1] at hrun ho
          have HRUN := Lib.hid hrun
          have HO := Lib.hid (show prK.Own wN w2.heap.size (.slice (some ⟨gN, 0, none⟩) (B.length + 1 + 1) capN) (B ++ [⟨b, m⟩] ++ [⟨x, 0⟩]) from ho)
          have HK2 := Lib.hid hk2
          clear hrun ho hk2
          go_wp2_with (at_builtin; refine Lib.wpList_append_run _ rfl (.tmp 72) (.tmp 75) 26 26 rfl _ _ rfl rfl _ _ HRUN.out ?_)
          go_roundw
          case measure => simp only [intOf]; omega
          case rel => exact ⟨i + 1, _, by omega, by simp, by simp; omega, TN, HO, HK2⟩
    · have hie : i = S.length := by omega
      subst hie
      have e1 : ¬ (S.length : Int) < (S.length : Int) := by omega
      clear hlt
      rw [List.take_length] at PO
      go_wp2_with fail
      go_ret2
      refine ⟨K2.out.trans (KR.out.mono K2.out.size), .inr ⟨PF.out, _, rfl, L, World.ownsRow.mono OW.out K2.out.size, PO.out.congr SM.out, by have := SL.out; omega⟩⟩
end Go.Proofs.Ythmfmnoblobcoaa
