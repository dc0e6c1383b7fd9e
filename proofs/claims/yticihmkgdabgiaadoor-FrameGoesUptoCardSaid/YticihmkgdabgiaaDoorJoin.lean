import Derived.Test.YticihmkgdabgiaaDoorMat
/-! crc.More, crc.Join. -/
namespace Go.Proofs.YticihmkgdabgiaaDoor
open Go.RowKit
set_option linter.unusedVariables false
set_option linter.unusedSimpArgs false
theorem word_any (z : Int) (w : World) : Calls Tryd.prog 50 #[.int .i64 z] w fun e w' => e = .returned (.bool (decide (0 ≤ z ∧ z ≤ 4294967295))) ∧ w = w' := by
  by_cases h1 : 0 ≤ z
  · by_cases h2 : z ≤ 4294967295
    · go_enter Tryd.func50, Tryd.ntmps50
      go_wp2
      go_ret
      exact ⟨by simp [h1, h2], rfl⟩
    · go_enter Tryd.func50, Tryd.ntmps50
      go_wp2
      go_ret
      exact ⟨by simp [h1, h2]; try omega, rfl⟩
  · go_enter Tryd.func50, Tryd.ntmps50
    go_wp2
    go_ret
    exact ⟨by simp [h1]; try omega, rfl⟩
theorem word_yes (s : BitVec 32) (w : World) : Calls Tryd.prog 50 #[.int .i64 (s.toNat : Int)] w fun e w' => e = .returned (.bool true) ∧ w = w' :=
  (word_any _ w).mono fun e w' ⟨h1, h2⟩ => ⟨by rw [h1, decide_eq_true (by have := u32_bd s; omega)], h2⟩
/-- a sum read on -/
def Pl.moreI (s : BitVec 32) (l : List UInt8) : Int := ((~~~ Pl.crun (~~~ s) l).toNat : Int)
theorem Pl.moreI_csum (a b : List UInt8) : Pl.moreI (Pl.csum a) b = Pl.sumI (a ++ b) := by unfold Pl.moreI Pl.sumI; rw [Pl.csum_more]
theorem Pl.turn_raw (s : BitVec 32) : bits .xor .u32 IntKind.u32.max (s.toNat : Int) = ((~~~ s).toNat : Int) := by
  have h := Pl.xor_u32 4294967295#32 s
  rw [show (4294967295#32 : BitVec 32) ^^^ s = ~~~ s from by rw [show (4294967295#32 : BitVec 32) = BitVec.allOnes 32 from rfl, BitVec.allOnes_xor]] at h
  exact h
theorem crcrun_at (z : Int) (s : BitVec 32) (h : z = (s.toNat : Int)) (v : Value) (l : List UInt8) (w : World) (hv : IsBytes w v l) :
    Calls Tryd.prog 48 #[.int .u32 z, v] w fun e w' => e = .returned (.int .u32 ((Pl.crun s l).toNat : Int)) ∧ w = w' := by
  subst h; exact crcrun_any s v l w hv
set_option maxHeartbeats 1000000 in
theorem more_any (s : BitVec 32) (v : Value) (l : List UInt8) (w : World) (hv : IsBytes w v l) :
    Calls Tryd.prog 31 #[.int .i64 (s.toNat : Int), v] w fun e w' => e = .returned (.tuple #[.int .i64 (Pl.moreI s l), .nilIface]) ∧ w = w' := by
  obtain ⟨b1, b2⟩ := u32_bd s
  have W1 := Lib.hid (word_yes s w)
  have R := Lib.hid (crcrun_at _ (~~~ s) (Pl.turn_raw s) v l w hv)
  have T := Lib.hid (show wrap64 (bits .xor .u32 IntKind.u32.max ((Pl.crun (~~~ s) l).toNat : Int)) = Pl.moreI s l from Pl.turn_u32 (Pl.crun (~~~ s) l))
  clear hv
  generalize Pl.crun (~~~ s) l = x at *
  go_enter Tryd.func31, Tryd.ntmps31
  go_wp2_with (first
    | (go_at_call 50; (with_reducible refine W1.out.mono ?_); rintro e w' ⟨rfl, rfl⟩)
    | (go_at_call 48; (refine R.out.mono ?_); rintro e w' ⟨rfl, rfl⟩)
    | fail)
  refine bodyPost_ret (v := .tuple #[.int .i64 (wrap64 (bits .xor .u32 IntKind.u32.max (x.toNat : Int))), .nilIface]) (by simp [results, Tryd.results31, go_sem]) rfl ?_
  exact ⟨by rw [T.out], rfl⟩
theorem more_bad (z : Int) (h : ¬ (0 ≤ z ∧ z ≤ 4294967295)) (v : Value) (w : World) :
    Calls Tryd.prog 31 #[.int .i64 z, v] w fun e w' => e = .returned (.tuple #[.int .i64 0, .iface 73 (.int .i64 1)]) ∧ w = w' := by
  have W := word_any z w
  rw [decide_eq_false h] at W
  have W1 := Lib.hid W
  clear W h
  go_enter Tryd.func31, Tryd.ntmps31
  go_wp2_with (go_at_call 50; (with_reducible refine W1.out.mono ?_); rintro e w' ⟨rfl, rfl⟩)
  refine bodyPost_ret (v := .tuple #[.int .i64 0, .iface 73 (.int .i64 1)]) (by simp [results, Tryd.results31, go_sem]) rfl ?_
  exact ⟨rfl, rfl⟩
theorem Pl.shl_one (k : Nat) : (2 : Int) ^ k % 4294967296 = ((1#32 <<< k).toNat : Int) := by
  have h : ((2 : Int) ^ k) = ((2 ^ k : Nat) : Int) := by simp
  rw [h, BitVec.toNat_shiftLeft]
  simp [Nat.shiftLeft_eq]
theorem Pl.and_one (n : Nat) (hn : n ≤ 1000000) : bits .and .i64 (n : Int) 1 = ((n % 2 : Nat) : Int) := by
  unfold bits
  have h : (BitVec.ofInt 64 (n : Int) &&& BitVec.ofInt 64 1).toNat = n % 2 := by
    rw [BitVec.ofInt_natCast, BitVec.toNat_and, BitVec.toNat_ofNat, Nat.mod_eq_of_lt (by omega)]
    have e : (BitVec.ofInt 64 1).toNat = 2 ^ 1 - 1 := by decide
    rw [e, Nat.and_two_pow_sub_one_eq_mod]
  show IntKind.i64.wrap (((BitVec.ofInt 64 (n : Int) &&& BitVec.ofInt 64 1).toNat : Nat) : Int) = _
  rw [h, IntKind.wrap_i64]
  omega
theorem upd_mat (e k : Nat) (i : Nat) : upd (fun i => if i < k then Pl.mat e i else 0) k (Pl.mat e k) i = (fun i => if i < k + 1 then Pl.mat e i else 0) i := by
  unfold upd
  by_cases h : i = k
  · subst h; simp
  · by_cases h2 : i < k
    · simp [h, h2, Nat.lt_succ_of_lt h2]
    · have : ¬ i < k + 1 := by omega
      simp [h, h2, this]
set_option maxRecDepth 100000 in
set_option maxHeartbeats 2000000 in
theorem join_ok (a b : BitVec 32) (n : Nat) (hn : n ≤ 1000000) (w : World) :
    Calls Tryd.prog 33 #[.int .i64 (a.toNat : Int), .int .i64 (b.toNat : Int), .int .i64 (n : Int)] w fun e w' => e = .returned (.tuple #[.int .i64 ((Pl.joinB a b n).toNat : Int), .nilIface]) ∧ Below w.heap.size w w' := by
  obtain ⟨a1, a2⟩ := u32_bd a
  obtain ⟨b1, b2⟩ := u32_bd b
  have W1 := Lib.hid (word_yes a w)
  have W2 := Lib.hid (word_yes b w)
  go_enter Tryd.func33, Tryd.ntmps33
  go_upto_region 4 with (first
    | (go_at_call 50; (with_reducible refine W1.out.mono ?_); rintro e w' ⟨rfl, rfl⟩)
    | (go_at_call 50; (with_reducible refine W2.out.mono ?_); rintro e w' ⟨rfl, rfl⟩)
    | fail)
  refine abs_m (fun y => Mat y w.heap.size (fun _ => 0) ∧ Hid (Below w.heap.size w y)) ⟨Mat.of (obj_new _ _) rfl, Lib.hid ((Below.refl _ _).alloc (Nat.le_refl _) _)⟩ ?_
  rintro y ⟨m, kb⟩
  have HG := Lib.hid (Nat.le_refl w.heap.size)
  go_wp2
  go_loopw [31] (fun s31 z => ∃ k : Nat, k ≤ 32 ∧ s31 = .int .i64 k ∧ Hid (Mat z w.heap.size (fun i => if i < k then Pl.mat 1 i else 0)) ∧ Hid (Below w.heap.size w z)) (fun s31 _ => 32 - (intOf s31).toNat)
  case atStart => exact ⟨0, by omega, rfl, Lib.hid (m.ext (fun i _ => by simp)), kb⟩
  case round =>
    clear m kb
    obtain ⟨k, hk, rfl, m, kb⟩ := hrel
    by_cases hlt : k < 32
    · have c := m.out.cell k hlt
      have f := m.out.free k hlt
      have SH := Lib.hid (shift_at _ (1#32 <<< k) (Pl.shl_one k) wr)
      rw [← Pl.mat_one] at SH
      go_wp2_with (go_at_call 51; (refine SH.out.mono ?_); rintro e w' ⟨rfl, rfl⟩)
      go_roundw
      case rel => exact ⟨k + 1, by omega, by go_num, Lib.hid ((m.out.set k hlt (Pl.mat 1 k)).ext (fun i _ => upd_mat 1 k i)), Lib.hid (Below.setCell kb.out HG.out _)⟩
      case measure => simp [intOf]; omega
    · have : k = 32 := by omega
      subst this
      rw [show ((32 : Nat) : Int) = 32 from rfl]
      have M1 := Lib.hid (m.out.ext (g := Pl.mat 1) (fun i hi => by simp [hi]))
      clear m
      go_wp2
      go_loopw [2, 10] (fun s2 s10 z => ∃ (n' e : Nat) (s : BitVec 32), s2 = .int .i64 n' ∧ s10 = .int .u32 (s.toNat : Int) ∧ n' ≤ 1000000 ∧ Hid (Pl.cN (e * n') s = Pl.cN n a) ∧ Hid (Mat z w.heap.size (Pl.mat e)) ∧ Hid (Below w.heap.size w z)) (fun s2 _ _ => (intOf s2).toNat)
      case atStart => exact ⟨n, 1, a, rfl, rfl, hn, Lib.hid (by rw [Nat.one_mul]), M1, kb⟩
      case round =>
        clear M1 kb
        obtain ⟨n', e, s, rfl, rfl, hn', J, M, kb⟩ := hrel
        by_cases h0 : n' = 0
        · subst h0
          have JJ := J.out
          rw [Nat.mul_zero] at JJ
          have E := Lib.hid (show Pl.joinB a b n = s ^^^ b by unfold Pl.joinB; rw [← JJ]; rfl)
          have X := Lib.hid (Pl.xor_u32 s b)
          clear JJ
          go_wp2
          refine bodyPost_ret (v := .tuple #[.int .i64 (wrap64 (bits .xor .u32 (s.toNat : Int) (b.toNat : Int))), .nilIface]) (by simp [results, Tryd.results33, go_sem]) rfl ?_
          exact ⟨by rw [X.out, E.out, IntWalk.wrap64_in _ (by have := u32_bd (s ^^^ b); omega)], kb.out⟩
        · have h1 : 0 < n' := by omega
          have ST := Lib.hid (show ∃ s', (n' % 2 = 1 → s' = Pl.ofK (Pl.mat e) s 32) ∧ (n' % 2 = 0 → s' = s) ∧ Pl.cN ((e + e) * (n' / 2)) s' = Pl.cN n a from by
            have hp : n' % 2 = 0 ∨ n' % 2 = 1 := by omega
            rcases hp with hp | hp
            · exact ⟨s, fun h => by omega, fun _ => rfl, by rw [← Pl.join_even e n' s hp]; exact J.out⟩
            · exact ⟨_, fun _ => rfl, fun h => by omega, by rw [Pl.of_mat, ← Pl.join_odd e n' s hp]; exact J.out⟩)
          obtain ⟨s', S1, S2, S3⟩ := ST.out
          have MI := Lib.hid (matI (Pl.mat e))
          have S4 := Lib.hid S3
          have S5 := Lib.hid S1
          have S6 := Lib.hid S2
          clear S1 S2 S3 ST J
          go_upto_if 48 with fail
          go_cut [10] (fun s10 z => s10 = .int .u32 (s'.toNat : Int) ∧ Hid (Mat z w.heap.size (Pl.mat e)) ∧ Hid (Below w.heap.size w z))
          case first =>
            have hp : n' % 2 = 0 ∨ n' % 2 = 1 := by omega
            have A := Pl.and_one n' hn'
            rcases hp with hp | hp
            · obtain rfl := S6.out hp
              rw [hp] at A
              have A2 : (n' : Int) % 2 = 0 := by omega
              go_wp2_with fail
              go_meet
              exact ⟨rfl, M, kb⟩
            · obtain rfl := S5.out hp
              rw [hp] at A
              have A2 : (n' : Int) % 2 = 1 := by omega
              have OF := Lib.hid (fun z => of_any (Pl.mat e) s z)
              go_wp2_with (first
                | (refine wpList_load_mid rfl 83 (.tmp 8) rfl w.heap.size 0 rfl (matL (Pl.mat e)) _ M.out.r Tryd.underlying83 rfl MI.out ?_)
                | (go_at_call 52; (with_reducible refine (OF.out _).mono ?_); rintro e2 z ⟨rfl, k2⟩; have kb := Lib.hid (kb.out.trans (k2.mono kb.out.size)); have M := Lib.hid (M.out.below k2 M.out.lt))
                | fail)
              go_meet
              exact ⟨rfl, M, kb⟩
          case rest =>
            clear M kb S5 S6
            obtain ⟨rfl, M, kb⟩ := hcut
            go_upto_region 14 with fail
            refine abs_m (fun y => Hid (Mat y w.heap.size (Pl.mat e)) ∧ Hid (Below w.heap.size w y)) ⟨M, kb⟩ ?_
            clear M kb
            rintro z0 ⟨M, kb⟩
            go_upto_region 15 with fail
            refine abs_m (fun y => Hid (Mat y w.heap.size (Pl.mat e)) ∧ Hid (Mat y z0.heap.size (fun i => if i < 0 then Pl.mat (e + e) i else 0)) ∧ Hid (Below w.heap.size w y))
              ⟨Lib.hid (M.out.below ((Below.refl z0.heap.size z0).alloc (Nat.le_refl _) _) M.out.lt), Lib.hid ((Mat.of (f := fun _ => 0) (obj_new z0 _) rfl).ext (fun i _ => by simp)), Lib.hid (Below.alloc kb.out kb.out.size _)⟩ ?_
            have HN := Lib.hid M.out.lt
            have HW := Lib.hid kb.out.size
            clear M kb
            generalize z0.heap.size = G2 at *
            rintro z1 ⟨M, M2, kb⟩
            go_wp2_with (refine wpList_load_mid rfl 83 (.tmp 8) rfl w.heap.size 0 rfl (matL (Pl.mat e)) _ M.out.r Tryd.underlying83 rfl MI.out ?_)
            have OF := Lib.hid (fun x z => of_any (Pl.mat e) x z)
            have HM := Lib.hid (fun i (h : i < 32) => matL_at (Pl.mat e) i h)
            go_loopw [53] (fun s53 z => ∃ k : Nat, k ≤ 32 ∧ s53 = .int .i64 k ∧ Hid (Mat z w.heap.size (Pl.mat e)) ∧ Hid (Mat z G2 (fun i => if i < k then Pl.mat (e + e) i else 0)) ∧ Hid (Below w.heap.size w z)) (fun s53 _ => 32 - (intOf s53).toNat)
            case atStart => exact ⟨0, by omega, rfl, M, M2, kb⟩
            case round =>
              clear M M2 kb
              obtain ⟨k, hk, rfl, M, M2, kb⟩ := hrel
              by_cases hlt : k < 32
              · have hx : (matL (Pl.mat e)).toArray[k]? = some (encU (Pl.mat e k)) := by simpa using HM.out k hlt
                have IX := run_index_mat wr (matL (Pl.mat e)).toArray k hlt _ hx
                have OX := Lib.hid (OF.out (Pl.mat e k))
                rw [Pl.mat_twice] at OX
                have UM := Lib.hid (upd_mat (e + e) k)
                unfold encU at IX
                clear hx
                have hgn : G2 ≠ w.heap.size := by have := HN.out; omega
                generalize Pl.mat e k = x at *
                generalize Pl.mat (e + e) k = x2 at *
                go_wp2_with (first
                  | (refine wpList_load_mid rfl 83 (.tmp 8) rfl w.heap.size 0 rfl (matL (Pl.mat e)) _ M.out.r Tryd.underlying83 rfl MI.out ?_)
                  | (go_at_call 52; (with_reducible refine (OX.out _).mono ?_); rintro e2 z ⟨rfl, k2⟩; have kb := Lib.hid (kb.out.trans (k2.mono kb.out.size)); have M := Lib.hid (M.out.below k2 M.out.lt); have M2 := Lib.hid (M2.out.below k2 M2.out.lt); have c := M2.out.cell k hlt; have f := M2.out.free k hlt)
                  | fail)
                go_roundw
                case rel =>
                  refine ⟨k + 1, by omega, by go_num, ?_, Lib.hid ((M2.out.set k hlt x2).ext (fun i _ => UM.out i)), Lib.hid (Below.setCell kb.out (Nat.le_of_lt HN.out) _)⟩
                  exact Lib.hid (M.out.below (Below.setCell (Below.refl G2 _) (Nat.le_refl _) _) HN.out)
                case measure => simp [intOf]; omega
              · have : k = 32 := by omega
                subst this
                rw [show ((32 : Nat) : Int) = 32 from rfl]
                have M3 := Lib.hid (M2.out.ext (g := Pl.mat (e + e)) (fun i hi => by simp [hi]))
                have MI2 := Lib.hid (matI (Pl.mat (e + e)))
                have ST := Lib.hid (M.out.store (Pl.mat (e + e)))
                have TH := Lib.hid M.out.t
                have ON := Lib.hid (matL_one (Pl.mat (e + e)))
                have SZ := Lib.hid (show (matL (Pl.mat (e + e))).toArray.size = 32 by simp [matL])
                have Th : ∀ y : World, y.there w.heap.size 0 32 → y.there w.heap.size 0 (matL (Pl.mat (e + e))).toArray.size := fun y h => by rw [SZ.out]; exact h
                have Ti : (Tryd.prog.info? 83).map (·.size) = some (matL (Pl.mat (e + e))).toArray.size := by rw [SZ.out]; kernel_rfl
                have TH2 := Lib.hid (Th _ TH.out)
                have TI := Lib.hid Ti
                clear Th Ti
                go_upto_region 11 with (first
                  | (refine wpList_load_mid rfl 83 (.tmp 11) rfl G2 0 rfl (matL (Pl.mat (e + e))) _ M3.out.r Tryd.underlying83 rfl MI2.out ?_; refine wpList_store_mid rfl 83 (.tmp 8) (.tmp 63) rfl w.heap.size 0 (matL (Pl.mat (e + e))).toArray rfl rfl TH2.out TI.out ON.out ?_)
                  | fail)
                have HGS := Lib.hid (Below.setCells w.heap.size (Nat.le_refl w.heap.size) (matL (Pl.mat (e + e))) 0 _ kb.out)
                refine abs_m (fun y => Hid (Mat y w.heap.size (Pl.mat (e + e))) ∧ Hid (Below w.heap.size w y)) ⟨ST, HGS⟩ ?_
                rintro y9 ⟨MQ, KQ⟩
                clear HGS ST TH TH2 M M2 M3 kb
                go_wp2
                go_roundw
                case rel => exact ⟨n' / 2, e + e, s', by go_num, rfl, by omega, S4, MQ, KQ⟩
                case measure => simp [intOf]; omega
set_option maxHeartbeats 1000000 in
theorem join_far (a b : BitVec 32) (n : Nat) (hn : 1000000 < n) (w : World) :
    Calls Tryd.prog 33 #[.int .i64 (a.toNat : Int), .int .i64 (b.toNat : Int), .int .i64 (n : Int)] w fun e w' => e = .returned (.tuple #[.int .i64 0, .iface 73 (.int .i64 1)]) ∧ w = w' := by
  have W1 := Lib.hid (word_yes a w)
  have W2 := Lib.hid (word_yes b w)
  go_enter Tryd.func33, Tryd.ntmps33
  go_wp2_with (first
    | (go_at_call 50; (with_reducible refine W1.out.mono ?_); rintro e w' ⟨rfl, rfl⟩)
    | (go_at_call 50; (with_reducible refine W2.out.mono ?_); rintro e w' ⟨rfl, rfl⟩)
    | fail)
  refine bodyPost_ret (v := .tuple #[.int .i64 0, .iface 73 (.int .i64 1)]) (by simp [results, Tryd.results33, go_sem]) rfl ?_
  exact ⟨rfl, rfl⟩
theorem csum_shape (l : List UInt8) : Pl.sumI l = ((Pl.csum l).toNat : Int) := rfl
/-- .. as the sums of bytes -/
theorem more_csum (a l : List UInt8) (v : Value) (w : World) (hv : IsBytes w v l) :
    Calls Tryd.prog 31 #[.int .i64 (Pl.sumI a), v] w fun e w' => e = .returned (.tuple #[.int .i64 (Pl.sumI (a ++ l)), .nilIface]) ∧ w = w' := by
  rw [← Pl.moreI_csum]; exact more_any (Pl.csum a) v l w hv
theorem join_csum_ok (a b : List UInt8) (hn : b.length ≤ 1000000) (w : World) :
    Calls Tryd.prog 33 #[.int .i64 (Pl.sumI a), .int .i64 (Pl.sumI b), .int .i64 (b.length : Int)] w fun e w' => e = .returned (.tuple #[.int .i64 (Pl.sumI (a ++ b)), .nilIface]) ∧ Below w.heap.size w w' := by
  have h := join_ok (Pl.csum a) (Pl.csum b) b.length hn w
  rw [Pl.join_csum] at h
  exact h
theorem join_csum_far (a b : List UInt8) (hn : 1000000 < b.length) (w : World) :
    Calls Tryd.prog 33 #[.int .i64 (Pl.sumI a), .int .i64 (Pl.sumI b), .int .i64 (b.length : Int)] w fun e w' => e = .returned (.tuple #[.int .i64 0, .iface 73 (.int .i64 1)]) ∧ w = w' := join_far (Pl.csum a) (Pl.csum b) b.length hn w
end Go.Proofs.YticihmkgdabgiaaDoor
