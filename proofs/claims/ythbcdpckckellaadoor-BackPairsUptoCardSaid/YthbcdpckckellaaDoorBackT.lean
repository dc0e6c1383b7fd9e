import Derived.Test.YthbcdpckckellaaDoorBackS
/-! back.Read, where no numbers are lost. -/
namespace Go.Proofs.YthbcdpckckellaaDoor
open Go.RowKit
set_option linter.unusedVariables false
set_option linter.unusedSimpArgs false
/-- a part of bytes -/
theorem bytes_part {w : World} {b off cap : Nat} {l : List UInt8} (h : IsBytes w (.slice (some ⟨b, off, none⟩) l.length cap) l) (i j : Nat) (hij : i ≤ j) (hj : j ≤ l.length) (c : Nat) (hc : j - i ≤ c) (hm : c ≤ maxLen) : IsBytes w (.slice (some ⟨b, off + i, none⟩) (j - i) c) ((l.take j).drop i) := by
  have hlen : ((l.take j).drop i).length = j - i := by simp; omega
  rcases h with ⟨rfl, _⟩ | ⟨b', off', cap', h0, _, _, h3⟩
  · have : j = 0 := by simpa using hj
    subst this
    exact .inl ⟨by simp, _, _, by simp; rfl, hm, fun e => by cases e⟩
  · cases h0
    refine .inr ⟨b, off + i, c, by rw [hlen], by rw [hlen]; exact hc, hm, fun k hk => ?_⟩
    rw [hlen] at hk
    rw [Nat.add_assoc, h3 (i + k) (by omega)]
    simp
/-- the end of Read: what the bytes say says these bytes, or not -/
def RdEnd (n₀ N : Nat) (l : List UInt8) (w : World) (k t : Int) (A : List Int) (val : Int) (e : Ending) (w' : World) : Prop := ReadBE n₀ l w e w'
theorem RdX.cases {l : List UInt8} {k t val : Int} {A : List Int} (h : Pl.RdX l k t A val) : Pl.backF k t val A ≠ 0 ∨ Pl.backF k t val A = 0 := by
  by_cases q : Pl.backF k t val A = 0
  · exact .inr q
  · exact .inl q
theorem RdX.same {l : List UInt8} {k t val : Int} {A : List Int} (h : Pl.RdX l k t A val) (L : List Pr) : l = Pl.backBytes k t val L ∨ ¬ l = Pl.backBytes k t val L := Decidable.em _
theorem enc_bad {l : List UInt8} {k t val : Int} {A : List Int} (h : Pl.RdX l k t A val) (hF : Pl.backF k t val A ≠ 0) (oa : Option Addr) (c : Nat) (z : World) (hA : Sl encI z (.slice oa A.length c) A) :
    Calls Tryd.prog 12 #[bkV k t (.slice oa A.length c) val] z fun e w' => e = .returned (.tuple #[.slice none 0 0, .iface 54 (.int .i64 (Pl.backF k t val A))]) ∧ Below z.heap.size z w' := by
  refine (backEnc_any k t val oa c A z hA).mono fun e w' ⟨h1, h2⟩ => ?_
  rcases h2 with ⟨_, h2⟩ | ⟨h2, _⟩
  · exact ⟨h2, h1⟩
  · exact absurd h2 hF
theorem enc_good {l : List UInt8} {k t val : Int} {A : List Int} (h : Pl.RdX l k t A val) (hF : Pl.backF k t val A = 0) (oa : Option Addr) (c : Nat) (z : World) (hA : Sl encI z (.slice oa A.length c) A) :
    Calls Tryd.prog 12 #[bkV k t (.slice oa A.length c) val] z fun e w' => ∃ (o1 : Option Addr) (n1 c1 : Nat) (L : List Pr), e = .returned (.tuple #[.slice o1 n1 c1, .nilIface]) ∧ Pl.PairsOf (· ∈ A) L ∧ IsBytes w' (.slice o1 n1 c1) (Pl.backBytes k t val L) ∧ Below z.heap.size z w' := by
  refine (backEnc_any k t val oa c A z hA).mono fun e w' ⟨h1, h2⟩ => ?_
  rcases h2 with ⟨h2, _⟩ | ⟨_, v, L, rfl, h3, h4⟩
  · exact absurd hF h2
  · have hb := h4.reads
    obtain ⟨o1, c1, rfl, -⟩ := bytes_slice hb
    exact ⟨o1, _, c1, L, rfl, h3, hb, h1⟩
/-- it says another thing -/
theorem ReadBE.bad {n₀ : Nat} {l : List UInt8} {w w' : World} {k t val : Int} {A : List Int} (hs : ¬ l.length < Pl.rdSize l) (h : Pl.RdX l k t A val) (hb : Below n₀ w w') (hF : Pl.backF k t val A ≠ 0 ∨ (Pl.backF k t val A = 0 ∧ ∃ L, Pl.PairsOf (· ∈ A) L ∧ Pl.backBytes k t val L ≠ l)) : ReadBE n₀ l w (.returned (.tuple #[bkV 0 0 (.slice none 0 0) 0, .iface 54 (.int .i64 2)])) w' :=
  ⟨hb, by rw [if_neg hs]; exact ⟨k, t, A, val, h, .inl ⟨hF, rfl⟩⟩⟩
theorem ReadBE.good {n₀ : Nat} {l : List UInt8} {w w' : World} {k t val : Int} {A : List Int} (hs : ¬ l.length < Pl.rdSize l) (h : Pl.RdX l k t A val) (hb : Below n₀ w w') (hF : Pl.backF k t val A = 0) {L : List Pr} (hL : Pl.PairsOf (· ∈ A) L) (he : l = Pl.backBytes k t val L) (oa : Option Addr) (c : Nat) (hA : Sl encI w' (.slice oa A.length c) A) : ReadBE n₀ l w (.returned (.tuple #[bkV k t (.slice oa A.length c) val, .nilIface])) w' :=
  ⟨hb, by rw [if_neg hs]; exact ⟨k, t, A, val, h, .inr ⟨hF, ⟨L, hL, he.symm⟩, oa, c, rfl, hA⟩⟩⟩
set_option maxRecDepth 100000 in
set_option maxHeartbeats 2000000 in
theorem backRead_2 (v : Value) (l : List UInt8) (w : World) (hv : IsBytes w v l) (hl : l.length ≤ 1000000000) (h : ¬ l.length < Pl.rdSize l) (h1 : (l.getD 0 0).toNat ≠ 1) :
    Calls Tryd.prog 14 #[v] w (ReadBE w.heap.size l w) := by
  have h2 : 2 ≤ l.length := by
    unfold Pl.rdSize at h
    by_cases q : l.length < 2
    · rw [if_pos q] at h; omega
    · omega
  obtain ⟨b, off, cap, rfl, hlc, hcm, _⟩ := bytes_long hv (by omega)
  unfold maxLen at hcm
  have kA : Below w.heap.size w (w.alloc (.cells #[.int .i64 0, .int .i64 0, .slice none 0 0, .int .i64 0] 25)) := (Below.refl _ _).alloc (Nat.le_refl _) _
  have SZ := Lib.hid (backSize_any _ l (w.alloc (.cells #[.int .i64 0, .int .i64 0, .slice none 0 0, .int .i64 0] 25)) (hv.below kA) hl)
  have HL := Lib.hid h
  have HV := Lib.hid hv
  obtain ⟨s, hs⟩ : ∃ s, Pl.rdSize l = s := ⟨_, rfl⟩
  have HS := Lib.hid hs
  rw [hs] at SZ h
  have e1 : ¬ (l.length : Int) < (s : Int) := by omega
  clear hv hs h
  go_enter Tryd.func14, Tryd.ntmps14
  go_upto_region 3 with (go_at_call 29; (with_reducible refine SZ.out.mono ?_); rintro e w1 ⟨rfl, rfl⟩)
  obtain ⟨N, hN⟩ : ∃ N, w.heap.size = N := ⟨_, rfl⟩
  have BX : Hid (BkBox (w.alloc (.cells #[.int .i64 0, .int .i64 0, .slice none 0 0, .int .i64 0] 25)) N 0 0 (.slice none 0 0) 0) := Lib.hid (by rw [← hN]; exact obj_new _ _)
  refine abs_b (fun y => Hid (BkBox y N 0 0 (.slice none 0 0) 0) ∧ Hid (Below N w y)) ⟨BX, Lib.hid (by rw [← hN]; exact kA)⟩ ?_
  try rw [hN]
  have HN := Lib.hid hN
  clear BX kA hN SZ e1
  rintro y ⟨BX, KY⟩
  have HVY := Lib.hid (HV.out.below (by rw [HN.out]; exact KY.out))
  have c0 := bytes_at HVY.out 0 (by omega)
  have c1 := bytes_at HVY.out 1 (by omega)
  rw [Nat.add_zero] at c0
  have i0 : (0 : Int) < (l.length : Int) := by omega
  have i1 : (1 : Int) < (l.length : Int) := by omega
  obtain ⟨x0, hx0⟩ : ∃ x, l.getD 0 0 = x := ⟨_, rfl⟩
  obtain ⟨x1, hx1⟩ : ∃ x, l.getD 1 0 = x := ⟨_, rfl⟩
  rw [hx0] at c0 h1
  rw [hx1] at c1
  have HX0 := Lib.hid hx0
  have HX1 := Lib.hid hx1
  have z0 : encB x0 = .int .u8 (x0.toNat : Int) := rfl
  have z1 : encB x1 = .int .u8 (x1.toNat : Int) := rfl
  rw [z0] at c0
  rw [z1] at c1
  clear hx0 hx1 z0 z1
  have n0 : 0 < l.length := by omega
  have n1 : 1 < l.length := by omega
  have hbl : b < y.heap.size := Sl.lt c0
  have kB : Below y.heap.size y (y.alloc (.cells #[.int .i64 0, .int .i64 0, .slice none 0 0, .int .i64 0] 25)) := (Below.refl _ _).alloc (Nat.le_refl _) _
  have d0 : (y.alloc (.cells #[.int .i64 0, .int .i64 0, .slice none 0 0, .int .i64 0] 25)).cell? ⟨b, off, none⟩ = some (.int .u8 (x0.toNat : Int)) := (kB.cell (p := ⟨b, off, none⟩) hbl).trans c0
  have d1 : (y.alloc (.cells #[.int .i64 0, .int .i64 0, .slice none 0 0, .int .i64 0] 25)).cell? ⟨b, off + 1, none⟩ = some (.int .u8 (x1.toNat : Int)) := (kB.cell (p := ⟨b, off + 1, none⟩) hbl).trans c1
  clear hbl kB
  have W0 : wrap64 (x0.toNat : Int) = (x0.toNat : Int) := by have := x0.toNat_lt; unfold wrap64; omega
  have W1 : wrap64 (x1.toNat : Int) = (x1.toNat : Int) := by have := x1.toNat_lt; unfold wrap64; omega
  go_region
  rw [W0, W1]
  clear W0 W1 d0 d1 c0 c1 n0 n1 i0 i1
  obtain ⟨N2, hN2⟩ : ∃ N2, y.heap.size = N2 := ⟨_, rfl⟩
  have hNN : N < N2 := by rw [← hN2]; exact lt_of_block BX.out
  have kB : Below y.heap.size y (y.alloc (.cells #[.int .i64 (x0.toNat : Int), .int .i64 (x1.toNat : Int), .slice none 0 0, .int .i64 0] 25)).drew := Below.drewN ((Below.refl _ _).alloc (Nat.le_refl _) _) 1
  have BX2 : Hid (BkBox (y.alloc (.cells #[.int .i64 (x0.toNat : Int), .int .i64 (x1.toNat : Int), .slice none 0 0, .int .i64 0] 25)).drew N2 x0.toNat x1.toNat (.slice none 0 0) 0) := Lib.hid (by rw [← hN2]; exact obj_new _ _)
  have BX3 : Hid (BkBox (y.alloc (.cells #[.int .i64 (x0.toNat : Int), .int .i64 (x1.toNat : Int), .slice none 0 0, .int .i64 0] 25)).drew N 0 0 (.slice none 0 0) 0) := Lib.hid (Below.heapAt kB BX.out (lt_of_block BX.out))
  have HV3 := Lib.hid (HVY.out.below kB)
  have KY3 := Lib.hid (KY.out.trans (kB.mono (by omega)))
  go_upto_region 4 with fail
  refine abs_b (fun z => Hid (BkBox z N2 x0.toNat x1.toNat (.slice none 0 0) 0) ∧ Hid (BkBox z N 0 0 (.slice none 0 0) 0) ∧ Hid (IsBytes z (.slice (some ⟨b, off, none⟩) l.length cap) l) ∧ Hid (Below N w z)) ⟨BX2, BX3, HV3, KY3⟩ ?_
  try rw [hN2]
  clear BX2 BX3 HV3 KY3 kB hN2 BX KY HVY
  rintro y ⟨BX, BZ, HVY, KY⟩
  obtain ⟨c0, c1, c2, c3⟩ := BX.out.cells
  obtain ⟨k, hk⟩ : ∃ k : Int, (x0.toNat : Int) = k := ⟨_, rfl⟩
  obtain ⟨t, ht⟩ : ∃ t : Int, (x1.toNat : Int) = t := ⟨_, rfl⟩
  rw [hk] at BX c0 ⊢
  rw [ht] at BX c1 ⊢
  have KK := Lib.hid hk
  have TT := Lib.hid ht
  have k1 : (k == 1) = false := by rw [beq_eq_false_iff_ne]; omega
  have hle : s ≤ l.length := by
    have := HL.out; rw [HS.out] at this; omega
  by_cases hk23 : k = 2 ∨ k = 3
  case' pos =>
    have hs36 : 3 ≤ s ∧ s - 2 ≤ 4 := by
      have := HS.out
      unfold Pl.rdSize at this
      rw [if_neg (by omega), HX0.out, if_neg h1] at this
      split at this
      · omega
      · split at this
        · omega
        · exfalso; rcases hk23 with h | h <;> omega
    obtain ⟨s3, s4⟩ := hs36
    have s2 : 2 ≤ s := by omega
    have hc2 : ¬ cap = 2 := by omega
    have VA := Lib.hid (show Pl.RdX l k t [] (Pl.getB ((l.take s).drop 2)) from ⟨by rw [HX0.out]; exact KK.out.symm, by rw [HX1.out]; exact TT.out.symm, by rw [if_neg (by omega)], by rw [if_pos hk23, HS.out]⟩)
    obtain ⟨val, hval⟩ : ∃ val, Pl.getB ((l.take s).drop 2) = val := ⟨_, rfl⟩
    have SZ := Lib.hid (show Calls Tryd.prog 29 #[.slice (some ⟨b, off, none⟩) l.length cap] y fun e w' => e = .returned (.int .i64 (s : Int)) ∧ y = w' from by
      have := backSize_any _ l y HVY.out hl
      rw [HS.out] at this; exact this)
    have GT := Lib.hid (show Calls Tryd.prog 31 #[.slice (some ⟨b, off + 2, none⟩) (s - 2) (cap - 2)] y fun e w' => e = .returned (.int .i64 val) ∧ y = w' from by
      rw [← hval]
      exact get_any _ _ y (bytes_part HVY.out 2 s s2 hle (cap - 2) (by omega) (by unfold maxLen; omega)) (by simp; omega))
    rw [hval] at VA
    have i2 : (2 : Int) ≤ (s : Int) := by omega
    have i3 : (s : Int) ≤ (cap : Int) := by omega
    have i4 : s ≤ cap := by omega
    obtain ⟨f0, f1, f2, f3⟩ := BX.out.free
    have BX2 := Lib.hid (show BkBox (y.setCell ⟨N2, 3, none⟩ (.int .i64 val)) N2 k t (.slice none 0 0) val from obj_set BX.out 3 _)
    have KS := Lib.hid (show Below N w (y.setCell ⟨N2, 3, none⟩ (.int .i64 val)) from Below.setCell KY.out (by show N ≤ N2; omega) _)
    have KS2 := Lib.hid (show Below N2 y (y.setCell ⟨N2, 3, none⟩ (.int .i64 val)) from Below.setCell (p := ⟨N2, 3, none⟩) (Below.refl N2 y) (Nat.le_refl N2) _)
    have BZ2 := Lib.hid (show BkBox (y.setCell ⟨N2, 3, none⟩ (.int .i64 val)) N 0 0 (.slice none 0 0) 0 from Below.heapAt KS2.out BZ.out hNN)
    rcases hk23 with rfl | rfl
    all_goals
      go_upto_region 14 with (first
        | (go_at_call 29; (with_reducible refine SZ.out.mono ?_); rintro e w1 ⟨rfl, rfl⟩)
        | (go_at_call 31; (with_reducible refine GT.out.mono ?_); rintro e w1 ⟨rfl, rfl⟩))
      refine abs_b (fun z => Hid (BkBox z N2 _ t (.slice none 0 0) val) ∧ Hid (BkBox z N 0 0 (.slice none 0 0) 0) ∧ Hid (Below N w z)) ⟨BX2, BZ2, KS⟩ ?_
      clear BX2 BZ2 KS KS2 SZ GT BX BZ KY HVY c0 c1 c2 c3 f0 f1 f2 f3 hval i2 i3 i4 k1
      rintro z ⟨BX, BZ, KZ⟩
  case' neg =>
    have k2 : (k == 2) = false := by rw [beq_eq_false_iff_ne]; omega
    have k3 : (k == 3) = false := by rw [beq_eq_false_iff_ne]; omega
    have VA := Lib.hid (show Pl.RdX l k t [] 0 from ⟨by rw [HX0.out]; exact KK.out.symm, by rw [HX1.out]; exact TT.out.symm, by rw [if_neg (by omega)], by rw [if_neg hk23]⟩)
    clear hk23
    go_upto_region 14 with fail
    obtain ⟨val, hval⟩ : ∃ val : Int, 0 = val := ⟨_, rfl⟩
    rw [hval] at VA
    refine abs_b (fun z => Hid (BkBox z N2 k t (.slice none 0 0) val) ∧ Hid (BkBox z N 0 0 (.slice none 0 0) 0) ∧ Hid (Below N w z)) ⟨by rw [← hval]; exact BX, BZ, KY⟩ ?_
    clear BX BZ KY HVY c0 c1 c2 c3 hval k1 k2 k3
    rintro z ⟨BX, BZ, KZ⟩
  all_goals
    obtain ⟨c0, c1, c2, c3⟩ := BX.out.cells
    have HNZ := Lib.hid (show N ≤ z.heap.size from by have q := KZ.out.size; rw [HN.out] at q; exact q)
    rcases RdX.cases VA.out with hF | hF
    case inl =>
      have EN := Lib.hid (enc_bad VA.out hF none 0 z (Sl.nil z))
      simp only [List.length_nil] at EN
      have HF := Lib.hid hF
      clear hF
      go_upto_region 16 with (go_at_call 12; (with_reducible refine EN.out.mono ?_); rintro e z2 ⟨rfl, k2⟩; have K2 := Lib.hid (KZ.out.trans (k2.mono HNZ.out)); have BZ2 := Lib.hid (show BkBox z2 N 0 0 (.slice none 0 0) 0 from Below.heapAt k2 BZ.out (lt_of_block BZ.out)); clear k2)
      obtain ⟨p0, p1, p2, p3⟩ := BZ2.out.cells
      obtain ⟨f0, f1, f2, f3⟩ := BZ2.out.free
      have BX2 := Lib.hid (bk_zero BZ2.out 0 0 (.slice none 0 0) 0)
      have KY2 := Lib.hid (bk_kb K2.out (Nat.le_refl N) (.int .i64 0) (.int .i64 0) (.slice none 0 0) (.int .i64 0))
      clear c0 c1 c2 c3 EN BX BZ KZ BZ2 K2
      go_cut [3] (fun s3 x => s3 = .iface 54 (.int .i64 2) ∧ Hid (BkBox x N 0 0 (.slice none 0 0) 0) ∧ Hid (Below N w x))
      case first =>
        go_wp2_with fail
        go_meet
        exact ⟨rfl, BX2, KY2⟩
      case rest =>
      clear p0 p1 p2 p3 f0 f1 f2 f3 BX2 KY2
      obtain ⟨rfl, BX, KY⟩ := hcut
      obtain ⟨p0, p1, p2, p3⟩ := BX.out.cells
      go_wp2_with fail
      refine bodyPost_ret (v := .tuple #[bkV 0 0 (.slice none 0 0) 0, .iface 54 (.int .i64 2)]) (by simp [results, Tryd.results14, go_sem, p0, p1, p2, p3]) rfl ?_
      have hb : Below w.heap.size w wc := by have q := KY.out; rw [← HN.out] at q; exact q
      exact ReadBE.bad HL.out VA.out hb (.inl HF.out)
    case inr =>
      have EN := Lib.hid (enc_good VA.out hF none 0 z (Sl.nil z))
      simp only [List.length_nil] at EN
      have HF := Lib.hid hF
      clear hF
      go_upto_region 15 with (go_at_call 12; (with_reducible refine EN.out.mono ?_); rintro e z2 ⟨o1, n1, c1', L, rfl, hL, hB, k2⟩; have K2 := Lib.hid (KZ.out.trans (k2.mono HNZ.out)); have BZ2 := Lib.hid (show BkBox z2 N 0 0 (.slice none 0 0) 0 from Below.heapAt k2 BZ.out (lt_of_block BZ.out)); have BX2 := Lib.hid (show BkBox z2 N2 _ t (.slice none 0 0) val from Below.heapAt k2 BX.out (lt_of_block BX.out)); have PO := Lib.hid hL; have EQ := Lib.hid (equal_any _ _ l _ z2 (HV.out.below (by rw [HN.out]; exact K2.out)) hB); have KZ2 := Lib.hid k2.size; clear k2 hL hB)
      clear EN c0 c1 c2 c3 BX BZ KZ
      rcases RdX.same VA.out L with heq | heq
      case inr =>
        rw [decide_eq_false heq] at EQ
        have HNE := Lib.hid heq
        clear heq
        go_upto_region 16 with (go_at_call 32; (with_reducible refine EQ.out.mono ?_); rintro e z3 ⟨rfl, k3⟩; have K3 := Lib.hid (K2.out.trans (k3.mono (Nat.le_trans HNZ.out KZ2.out))); have BZ3 := Lib.hid (show BkBox z3 N 0 0 (.slice none 0 0) 0 from Below.heapAt k3 BZ2.out (lt_of_block BZ2.out)); clear k3)
        obtain ⟨p0, p1, p2, p3⟩ := BZ3.out.cells
        obtain ⟨f0, f1, f2, f3⟩ := BZ3.out.free
        have BX3 := Lib.hid (bk_zero BZ3.out 0 0 (.slice none 0 0) 0)
        have KY3 := Lib.hid (bk_kb K3.out (Nat.le_refl N) (.int .i64 0) (.int .i64 0) (.slice none 0 0) (.int .i64 0))
        clear EQ BX2 BZ2 K2 BZ3 K3
        go_cut [3] (fun s3 x => s3 = .iface 54 (.int .i64 2) ∧ Hid (BkBox x N 0 0 (.slice none 0 0) 0) ∧ Hid (Below N w x))
        case first =>
          go_wp2_with fail
          go_meet
          exact ⟨rfl, BX3, KY3⟩
        case rest =>
        clear p0 p1 p2 p3 f0 f1 f2 f3 BX3 KY3
        obtain ⟨rfl, BX, KY⟩ := hcut
        obtain ⟨p0, p1, p2, p3⟩ := BX.out.cells
        go_wp2_with fail
        refine bodyPost_ret (v := .tuple #[bkV 0 0 (.slice none 0 0) 0, .iface 54 (.int .i64 2)]) (by simp [results, Tryd.results14, go_sem, p0, p1, p2, p3]) rfl ?_
        have hb : Below w.heap.size w wc := by have q := KY.out; rw [← HN.out] at q; exact q
        exact ReadBE.bad HL.out VA.out hb (.inr ⟨HF.out, L, PO.out, fun e => HNE.out e.symm⟩)
      case inl =>
        rw [decide_eq_true heq] at EQ
        have HEQ := Lib.hid heq
        clear heq
        go_upto_region 17 with (go_at_call 32; (with_reducible refine EQ.out.mono ?_); rintro e z3 ⟨rfl, k3⟩; have K3 := Lib.hid (K2.out.trans (k3.mono (Nat.le_trans HNZ.out KZ2.out))); have BZ3 := Lib.hid (show BkBox z3 N 0 0 (.slice none 0 0) 0 from Below.heapAt k3 BZ2.out (lt_of_block BZ2.out)); have BX3 := Lib.hid (show BkBox z3 N2 _ t (.slice none 0 0) val from Below.heapAt k3 BX2.out (lt_of_block BX2.out)); clear k3)
        obtain ⟨p0, p1, p2, p3⟩ := BZ3.out.cells
        obtain ⟨f0, f1, f2, f3⟩ := BZ3.out.free
        obtain ⟨r0, r1, r2, r3⟩ := BX3.out.cells
        have KF := Lib.hid (show ∀ (k' : Int) (x : World), Pl.RdX l k' t [] val → Pl.backF k' t val [] = 0 → l = Pl.backBytes k' t val L → Below N w x → ReadBE w.heap.size l w (.returned (.tuple #[bkV k' t (.slice none 0 0) val, .nilIface])) x from fun k' x q1 q2 q3 q4 => by
          have hb : Below w.heap.size w x := by rw [← HN.out] at q4; exact q4
          exact ReadBE.good HL.out q1 hb q2 PO.out q3 none 0 (Sl.nil x))
        have Z4 := Lib.hid (fun a => bk_zero BZ3.out a t (.slice none 0 0) val)
        have KY4 := Lib.hid (fun a => bk_kb K3.out (Nat.le_refl N) a (.int .i64 t) (.slice none 0 0) (.int .i64 val))
        clear EQ BX2 BZ2 K2 BZ3 K3
        go_cut [3] (fun s3 x => s3 = .nilIface ∧ ∃ k', Hid (Pl.RdX l k' t [] val ∧ Pl.backF k' t val [] = 0 ∧ l = Pl.backBytes k' t val L) ∧ Hid (BkBox x N k' t (.slice none 0 0) val) ∧ Hid (Below N w x))
        case first =>
          go_wp2_with fail
          go_meet
          exact ⟨rfl, _, Lib.hid ⟨VA.out, HF.out, HEQ.out⟩, Lib.hid (Z4.out _), Lib.hid (KY4.out _)⟩
        case rest =>
        clear p0 p1 p2 p3 f0 f1 f2 f3 r0 r1 r2 r3 Z4 KY4 BX3
        obtain ⟨rfl, k', HQ, BX, KY⟩ := hcut
        obtain ⟨p0, p1, p2, p3⟩ := BX.out.cells
        go_wp2_with fail
        refine bodyPost_ret (v := .tuple #[bkV k' t (.slice none 0 0) val, .nilIface]) (by simp [results, Tryd.results14, go_sem, p0, p1, p2, p3]) rfl ?_
        exact KF.out k' _ HQ.out.1 HQ.out.2.1 HQ.out.2.2 KY.out
end Go.Proofs.YthbcdpckckellaaDoor
