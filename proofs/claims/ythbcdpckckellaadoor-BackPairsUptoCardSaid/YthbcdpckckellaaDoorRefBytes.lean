import Derived.Test.YthbcdpckckellaaDoorRefCrc
/-! The reference's Bytes, Seal, Open. -/
namespace Go.Proofs.YthbcdpckckellaaDoor
open Go.RowKit
set_option linter.unusedVariables false
set_option linter.unusedSimpArgs false
theorem Pl.byte_div (n : Int) (i : Nat) (d : Int) (h : d = (256 : Int) ^ i) : n / d % 256 = ((Pl.byteAt n i).toNat : Int) := by
  subst h; rw [Pl.byteAt_toNat]
set_option maxRecDepth 100000 in
set_option maxHeartbeats 4000000 in
theorem refBytes_any (size : Nat) (hs : size = 2 ∨ size = 4) (n : Int) (h1 : 0 ≤ n) (h2 : n ≤ 4294967295) (base : Nat) (v : Value) (l : List UInt8) (hl : l.length ≤ 100000000) (w : World) (hv : OwnB w base v l) (hb : base ≤ w.heap.size) :
    Calls Tryd.prog 24 #[v, .int .i64 n, .int .i64 (size : Int)] w fun e w' => ∃ v', e = .returned v' ∧ OwnB w' base v' (l ++ Pl.putB n size) ∧ Below base w w' := by
  have HV := Lib.hid hv
  have HB := Lib.hid hb
  have HL := Lib.hid hl
  have E3 := Lib.hid (Pl.byte_div n 3 16777216 (by decide))
  have E2 := Lib.hid (Pl.byte_div n 2 65536 (by decide))
  have E1 := Lib.hid (Pl.byte_div n 1 256 (by decide))
  have E0 := Lib.hid (show n % 256 = ((Pl.byteAt n 0).toNat : Int) from by rw [Pl.byteAt_toNat, show (256 : Int) ^ 0 = 1 by decide]; omega)
  have hs4 : size ≤ 4 := by omega
  clear hv hb hl
  go_enter Tryd.func24, Tryd.ntmps24
  go_wp2
  go_loop [7, 8] (fun s7 s8 => ∃ (k : Nat) (z : Int), 1 ≤ k ∧ k ≤ size ∧ s8 = .int .i64 k ∧ s7 = .int .i64 z ∧ Hid ((k = 1 ∧ z = 1) ∨ (k = 2 ∧ z = 256) ∨ (k = 3 ∧ z = 65536) ∨ (k = 4 ∧ z = 16777216))) (fun _ s8 => size - (intOf s8).toNat)
  case atStart => exact ⟨1, 1, by omega, by omega, rfl, rfl, Lib.hid (.inl ⟨rfl, rfl⟩)⟩
  case round =>
    obtain ⟨k, z, hk1, hk, rfl, rfl, hz⟩ := hrel
    by_cases hlt : k < size
    · have hzb : 1 ≤ z ∧ z ≤ 65536 := by rcases hz.out with h | h | h | h <;> omega
      obtain ⟨z1, z2⟩ := hzb
      go_wp2
      go_round
      case rel =>
        refine ⟨k + 1, z * 256, by omega, by omega, by go_num, rfl, Lib.hid ?_⟩
        rcases hz.out with ⟨h, h'⟩ | ⟨h, h'⟩ | ⟨h, h'⟩ | ⟨h, h'⟩ <;> subst h' <;> omega
      case measure => simp [intOf]; omega
    · obtain rfl : k = size := by omega
      have HZ := hz
      clear hz
      go_wp2
      go_loopw [0, 7] (fun s0 s7 wr => ∃ (j : Nat) (X : List UInt8) (y : Int), s7 = .int .i64 y ∧ j ≤ k ∧ Hid ((j = 0 ∧ y = 0) ∨ (j = 1 ∧ y = 1) ∨ (j = 2 ∧ y = 256) ∨ (j = 3 ∧ y = 65536) ∨ (j = 4 ∧ y = 16777216)) ∧ Hid (OwnB wr base s0 (l ++ X)) ∧ Hid (X.length ≤ 4) ∧ Hid (X ++ Pl.putB n j = Pl.putB n k) ∧ Hid (Below base w wr)) (fun _ s7 _ => (intOf s7).toNat)
      case atStart => exact ⟨k, [], z, rfl, Nat.le_refl _, Lib.hid (by rcases HZ.out with h | h | h | h <;> omega), by simpa using HV, Lib.hid (by simp), Lib.hid (by simp), Lib.hid (Below.refl _ _)⟩
      case round =>
        obtain ⟨j, X, y, rfl, hj, hy, hown, hxl, hx, kb⟩ := hrel
        have HSZ := Lib.hid kb.out.size
        have RUN := fun (c : UInt8) (i : Int) (hc : i = (c.toNat : Int)) => run_append_bytes (base := base) (l1 := l ++ X) (l2 := [c]) (src := .slice (some ⟨wr.heap.size, 0, none⟩) 1 1) (wr.alloc (.cells #[.int .u8 i] 5)) (OwnB.alloc hown.out _) (Sl.own (obj_new _ _) (by simp) (Nat.le_refl _) (by unfold maxLen; omega) (fun j hj => by simp at hj; subst hj; simp [encB, hc])) (by have := HSZ.out; have := HB.out; simp; omega) (by have := HL.out; have := hxl.out; simp; omega)
        have R := Lib.hid RUN
        clear RUN
        rcases hy.out with ⟨rfl, rfl⟩ | ⟨rfl, rfl⟩ | ⟨rfl, rfl⟩ | ⟨rfl, rfl⟩ | ⟨rfl, rfl⟩
        · go_wp2
          go_ret
          exact ⟨_, rfl, by have h := hx.out; simp [Pl.putB] at h; rw [← h]; exact hown.out, kb.out⟩
        · go_wp2_with (at_builtin; obtain ⟨v', w', hr, ho, hg⟩ := R.out (Pl.byteAt n 0) _ E0.out; refine Lib.wpList_append_run _ rfl (.tmp 18) (.tmp 24) 26 26 rfl _ _ rfl rfl _ _ hr ?_)
          have Q := Lib.hid (put_step hown.out hx.out hs4 ho hg kb.out HB.out)
          clear hr ho hg R
          go_roundw
          case rel => exact ⟨0, X ++ [Pl.byteAt n 0], 0, rfl, by omega, Lib.hid (by omega), Q.out.1, Q.out.2.1, Q.out.2.2.1, Q.out.2.2.2⟩
          case measure => simp [intOf]
        · go_wp2_with (at_builtin; obtain ⟨v', w', hr, ho, hg⟩ := R.out (Pl.byteAt n 1) _ E1.out; refine Lib.wpList_append_run _ rfl (.tmp 18) (.tmp 24) 26 26 rfl _ _ rfl rfl _ _ hr ?_)
          have Q := Lib.hid (put_step hown.out hx.out hs4 ho hg kb.out HB.out)
          clear hr ho hg R
          go_roundw
          case rel => exact ⟨1, X ++ [Pl.byteAt n 1], 1, rfl, by omega, Lib.hid (by omega), Q.out.1, Q.out.2.1, Q.out.2.2.1, Q.out.2.2.2⟩
          case measure => simp [intOf]
        · go_wp2_with (at_builtin; obtain ⟨v', w', hr, ho, hg⟩ := R.out (Pl.byteAt n 2) _ E2.out; refine Lib.wpList_append_run _ rfl (.tmp 18) (.tmp 24) 26 26 rfl _ _ rfl rfl _ _ hr ?_)
          have Q := Lib.hid (put_step hown.out hx.out hs4 ho hg kb.out HB.out)
          clear hr ho hg R
          go_roundw
          case rel => exact ⟨2, X ++ [Pl.byteAt n 2], 256, rfl, by omega, Lib.hid (by omega), Q.out.1, Q.out.2.1, Q.out.2.2.1, Q.out.2.2.2⟩
          case measure => simp [intOf]
        · go_wp2_with (at_builtin; obtain ⟨v', w', hr, ho, hg⟩ := R.out (Pl.byteAt n 3) _ E3.out; refine Lib.wpList_append_run _ rfl (.tmp 18) (.tmp 24) 26 26 rfl _ _ rfl rfl _ _ hr ?_)
          have Q := Lib.hid (put_step hown.out hx.out hs4 ho hg kb.out HB.out)
          clear hr ho hg R
          go_roundw
          case rel => exact ⟨3, X ++ [Pl.byteAt n 3], 65536, rfl, by omega, Lib.hid (by omega), Q.out.1, Q.out.2.1, Q.out.2.2.1, Q.out.2.2.2⟩
          case measure => simp [intOf]
theorem refBytes_two (n : Int) (h1 : 0 ≤ n) (h2 : n ≤ 4294967295) (base : Nat) (v : Value) (l : List UInt8) (hl : l.length ≤ 100000000) (w : World) (hv : OwnB w base v l) (hb : base ≤ w.heap.size) :
    Calls Tryd.prog 24 #[v, .int .i64 n, .int .i64 2] w fun e w' => ∃ v', e = .returned v' ∧ OwnB w' base v' (l ++ Pl.putB n 2) ∧ Below base w w' := refBytes_any 2 (.inl rfl) n h1 h2 base v l hl w hv hb
theorem refBytes_four (n : Int) (h1 : 0 ≤ n) (h2 : n ≤ 4294967295) (base : Nat) (v : Value) (l : List UInt8) (hl : l.length ≤ 100000000) (w : World) (hv : OwnB w base v l) (hb : base ≤ w.heap.size) :
    Calls Tryd.prog 24 #[v, .int .i64 n, .int .i64 4] w fun e w' => ∃ v', e = .returned v' ∧ OwnB w' base v' (l ++ Pl.putB n 4) ∧ Below base w w' := refBytes_any 4 (.inr rfl) n h1 h2 base v l hl w hv hb
theorem Pl.open_num (l : List UInt8) (n : Nat) (h : l.length = n + 4) : (Pl.getB (l.drop n) = Pl.sumI (l.take n)) ↔ Pl.sealB (l.take n) = l := by
  have hd : (l.drop n).length = 4 := by rw [List.length_drop]; omega
  constructor
  · intro e
    have h2 := Pl.putB_getB (l.drop n)
    rw [hd, e] at h2
    show l.take n ++ Pl.putB (Pl.sumI (l.take n)) 4 = l
    rw [h2, List.take_append_drop]
  · intro e
    have h2 : l.take n ++ Pl.putB (Pl.sumI (l.take n)) 4 = l.take n ++ l.drop n := by rw [List.take_append_drop]; exact e
    have h3 := List.append_cancel_left h2
    rw [← h3]
    obtain ⟨b1, b2⟩ := Pl.sumI_bd (l.take n)
    exact Pl.getB_putB' 4 _ b1 (by rw [show (256 : Int) ^ 4 = 4294967296 by decide]; omega)
end Go.Proofs.YthbcdpckckellaaDoor
