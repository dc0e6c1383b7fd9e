import Derived.Test.YthbcdpckckellaaDoorClone
import Derived.Test.YthbcdpckckellaaDoorPBytes
import Derived.Laws.OwnMore
import Derived.Laws.Shifts
import Derived.Laws.BitsAllLaws
/-! Bytes of the call's own: append, slices.Clone, pack.Put, pack.Get. -/
namespace Go.Proofs.YthbcdpckckellaaDoor
open Go.RowKit
set_option linter.unusedVariables false
set_option linter.unusedSimpArgs false

/-- bytes of the call's own: their block lies from base on -/
def OwnB (w : World) (base : Nat) (v : Value) (l : List UInt8) : Prop := w.ownsRow base 5 1 v l.length (l.map encB)
namespace OwnB
theorem nil (w : World) (base : Nat) : OwnB w base (.slice none 0 0) [] := World.ownsRow_nil _ _ _ _
theorem reads {w : World} {base : Nat} {v : Value} {l : List UInt8} (h : OwnB w base v l) : IsBytes w v l := owned_bytes h
theorem mono {w : World} {base B : Nat} {v : Value} {l : List UInt8} (h : OwnB w base v l) (hB : B ≤ base) : OwnB w B v l := by
  obtain ⟨h1, h2⟩ := h
  refine ⟨h1, ?_⟩
  rcases h2 with h2 | ⟨g, cap, cur, q1, q2, q3⟩
  · exact .inl h2
  · exact .inr ⟨g, cap, cur, q1, by omega, q3⟩
theorem keep {w w' : World} {base : Nat} {v : Value} {l : List UInt8} (h : OwnB w base v l) (hk : ∀ g o, w.heap[g]? = some (.cells o 5 (0, 0)) → base ≤ g → w'.heap[g]? = w.heap[g]?) : OwnB w' base v l := by
  obtain ⟨h1, h2⟩ := h
  refine ⟨h1, ?_⟩
  rcases h2 with h2 | ⟨g, cap, cur, rfl, hb, hg, hc, hm, hs, ht⟩
  · exact .inl h2
  · exact .inr ⟨g, cap, cur, rfl, hb, by rw [hk g _ hg hb]; exact hg, hc, hm, hs, ht⟩
theorem below {w w' : World} {base : Nat} {v : Value} {l : List UInt8} (h : OwnB w base v l) (hb : Below w.heap.size w w') : OwnB w' base v l :=
  h.keep (fun g o hg _ => hb.block g (lt_of_block hg))
theorem alloc {w : World} {base : Nat} {v : Value} {l : List UInt8} (h : OwnB w base v l) (o : Obj) : OwnB (w.alloc o) base v l := h.below ((Below.refl _ _).alloc (Nat.le_refl _) _)
theorem drew {w : World} {base : Nat} {v : Value} {l : List UInt8} (h : OwnB w base v l) : OwnB w.drew base v l := h
theorem forms {w : World} {base : Nat} {v : Value} {l : List UInt8} (h : OwnB w base v l) : (v = .slice none 0 0 ∧ l = []) ∨ ∃ g cap, v = .slice (some ⟨g, 0, none⟩) l.length cap ∧ base ≤ g ∧ l.length ≤ cap ∧ cap ≤ maxLen ∧ g < w.heap.size ∧ ∀ i (h : i < l.length), w.cell? ⟨g, i, none⟩ = some (encB l[i]) := by
  have hr := h.reads
  obtain ⟨h1, h2⟩ := h
  rcases h2 with ⟨rfl, h0⟩ | ⟨g, cap, cur, rfl, hb, hg, hc, hm, hs, ht⟩
  · exact .inl ⟨rfl, List.eq_nil_of_length_eq_zero h0⟩
  · refine .inr ⟨g, cap, rfl, hb, hc, hm, lt_of_block hg, fun i hi => ?_⟩
    have e : cur[i]? = some (encB l[i]) := by
      have h3 : (cur.toList.take (l.length * 1))[i]? = (l.map encB)[i]? := by rw [ht]
      rw [List.getElem?_take, if_pos (by omega)] at h3
      simpa [hi] using h3
    exact obj_cell hg e
theorem lit (w : World) (l : List UInt8) (cs : Array Value) (n : Nat) (hn : l.length = n) (hcs : cs = (l.map encB).toArray) (hl : l.length ≤ 1000000) {base : Nat} (hb : base ≤ w.heap.size) : OwnB (w.alloc (.cells cs 5)) base (.slice (some ⟨w.heap.size, 0, none⟩) n n) l := by
  subst hn hcs
  refine ⟨by simp, .inr ⟨w.heap.size, l.length, _, rfl, hb, obj_new _ _, Nat.le_refl _, by unfold maxLen; omega, by simp, by simp; exact List.take_of_length_le (by simp)⟩⟩
end OwnB

theorem run_append_bytes {base : Nat} {v src : Value} {l1 l2 : List UInt8} (w : World) (h : OwnB w base v l1) (hs : IsBytes w src l2) (hb : base ≤ w.heap.size) (hl : l1.length + l2.length ≤ 140737488355328) :
    ∃ v' w', (Builtin.append_ #[26, 26] 26 #[v, src]).run Tryd.prog w = .ok v' w' ∧ OwnB w' base v' (l1 ++ l2) ∧ w.grownBy w' v.ownBlock := by
  obtain ⟨i0, hi, hz0, hz1, hz2⟩ := info_parts infoU8
  by_cases h0 : l2 = []
  · subst h0
    have hs' : ∃ oa cap, src = .slice oa 0 cap := by
      rcases hs with ⟨_, oa, cap, rfl, _⟩ | ⟨b, off, cap, rfl, _⟩
      · exact ⟨oa, cap, rfl⟩
      · exact ⟨_, cap, rfl⟩
    obtain ⟨oa, cap, rfl⟩ := hs'
    refine ⟨v, w, ?_, by simpa using h, ⟨rfl, rfl, rfl, Nat.le_refl _, fun _ _ _ => rfl⟩⟩
    rcases h.forms with ⟨rfl, rfl⟩ | ⟨g, c, rfl, _, hc, _⟩
    · cases oa <;> simp [Builtin.append_, run_underlying Tryd.underlying26, sizeOf, typeInfo, hi, Builtin.lenOf, Builtin.firstCells, loadCells, loadCellsFrom, storeCells]
    · cases oa <;> simp [Builtin.append_, run_underlying Tryd.underlying26, sizeOf, typeInfo, hi, Builtin.lenOf, Builtin.firstCells, loadCells, loadCellsFrom, storeCells, hc]
  · rcases hs with ⟨h0', _⟩ | ⟨b, off, cap, rfl, hlc, hm, hc⟩
    · exact absurd h0' h0
    · have hmax : l1.length + l2.length ≤ maxLen := by unfold maxLen; omega
      obtain ⟨v', w', hr, ho, hg, _⟩ := run_append_own (P := Tryd.prog) w base 26 26 5 i0 (.int .u8 0) 1 1 Tryd.underlying26 hi hz0 hz1 hz2 rfl (by decide) v l1.length (l1.map encB) h ⟨b, off, none⟩ l2.length cap (l2.map encB) (by simp)
        (fun j u hu => by
          have hj : j < l2.length := by have := (List.getElem?_eq_some_iff.1 hu).1; simpa using this
          rw [Addr.add_lit, hc j hj]
          simpa [hj] using hu)
        (by intro u hu; obtain ⟨x, _, rfl⟩ := List.mem_map.1 hu; rfl) hmax (by omega) hb
      refine ⟨v', w', hr, ?_, hg⟩
      unfold OwnB
      simpa using ho
/-- what an append leaves below its base -/
theorem below_row {B base : Nat} {w w' : World} {v : Value} {l : List UInt8} (h : OwnB w base v l) (hg : w.grownBy w' v.ownBlock) (hB : B ≤ base) (hw : B ≤ w.heap.size) : Below B w w' :=
  (Below.refl _ _).grown hg hw (fun k hk => by have := (World.ownsRow.lt h k hk).1; omega)

/-! pack.Put -/
theorem Pl.byte_wrap (n : Int) (i : Nat) (d : Int) (h : d = (256 : Int) ^ i) : IntKind.u8.wrap (n / d) = ((Pl.byteAt n i).toNat : Int) := by
  subst h
  rw [Pl.byteAt_toNat]
  simp [IntKind.wrap, IntKind.bits, IntKind.signed]
theorem Pl.byte_wrap0 (n : Int) : IntKind.u8.wrap n = ((Pl.byteAt n 0).toNat : Int) := by
  have h := Pl.byte_wrap n 0 1 (by decide)
  simpa using h
theorem put_step {n : Int} {size k : Nat} {X l : List UInt8} {base : Nat} {w wr w' : World} {o : Obj} {s v' : Value} (hown : OwnB wr base s (l ++ X)) (hx : X ++ Pl.putB n (k + 1) = Pl.putB n size) (hs : size ≤ 4) (ho : OwnB w' base v' ((l ++ X) ++ [Pl.byteAt n k])) (hg : (wr.alloc o).grownBy w' s.ownBlock) (kb : Below base w wr) (hb : base ≤ w.heap.size) :
    Hid (OwnB w' base v' (l ++ (X ++ [Pl.byteAt n k]))) ∧ Hid ((X ++ [Pl.byteAt n k]).length ≤ 4) ∧ Hid ((X ++ [Pl.byteAt n k]) ++ Pl.putB n k = Pl.putB n size) ∧ Hid (Below base w w') := by
  have hsz := kb.size
  refine ⟨Lib.hid (by simpa using ho), Lib.hid ?_, Lib.hid ?_, Lib.hid ?_⟩
  · have h := congrArg List.length hx
    rw [List.length_append, Pl.putB_length, Pl.putB_length] at h
    simp
    omega
  · rw [← hx, Pl.putB]; simp
  · exact (kb.trans ((Below.refl _ _).alloc (by omega) o)).trans (below_row (OwnB.alloc hown o) hg (Nat.le_refl _) (by simp; omega))
set_option maxRecDepth 100000 in
set_option maxHeartbeats 4000000 in
theorem put_any (size : Nat) (hs : size ≤ 4) (n : Int) (h1 : 0 ≤ n) (h2 : n ≤ 4294967295) (base : Nat) (v : Value) (l : List UInt8) (hl : l.length ≤ 1000000) (w : World) (hv : OwnB w base v l) (hb : base ≤ w.heap.size) :
    Calls Tryd.prog 27 #[v, .int .i64 n, .int .i64 (size : Int)] w fun e w' => ∃ v', e = .returned v' ∧ OwnB w' base v' (l ++ Pl.putB n size) ∧ Below base w w' := by
  have HV := Lib.hid hv
  have HB := Lib.hid hb
  have HL := Lib.hid hl
  have E3 := Lib.hid (show n / 16777216 = ((Pl.byteAt n 3).toNat : Int) by rw [Pl.byteAt_toNat, show (256 : Int) ^ 3 = 16777216 by decide]; omega)
  have E2 := Lib.hid (Pl.byte_wrap n 2 65536 (by decide))
  have E1 := Lib.hid (Pl.byte_wrap n 1 256 (by decide))
  have E0 := Lib.hid (Pl.byte_wrap0 n)
  clear hv hb hl
  go_enter Tryd.func27, Tryd.ntmps27
  go_wp2
  go_loopw [0, 7] (fun s0 s7 wr => ∃ (k : Nat) (X : List UInt8) (z : Int), s7 = .int .i64 z ∧ k ≤ size ∧ Hid (z = (k : Int) - 1) ∧ Hid (OwnB wr base s0 (l ++ X)) ∧ Hid (X.length ≤ 4) ∧ Hid (X ++ Pl.putB n k = Pl.putB n size) ∧ Hid (Below base w wr)) (fun _ s7 _ => (intOf s7 + 1).toNat)
  case atStart => exact ⟨size, [], _, rfl, Nat.le_refl _, Lib.hid rfl, by simpa using HV, Lib.hid (by simp), Lib.hid (by simp), Lib.hid (Below.refl _ _)⟩
  case round =>
    obtain ⟨k, X, z, rfl, hk, hz, hown, hxl, hx, kb⟩ := hrel
    have HSZ := Lib.hid kb.out.size
    have hk4 : k = 0 ∨ k = 1 ∨ k = 2 ∨ k = 3 ∨ k = 4 := by omega
    have RUN := fun (c : UInt8) (i : Int) (hc : i = (c.toNat : Int)) => run_append_bytes (base := base) (l1 := l ++ X) (l2 := [c]) (src := .slice (some ⟨wr.heap.size, 0, none⟩) 1 1) (wr.alloc (.cells #[.int .u8 i] 5)) (OwnB.alloc hown.out _) (Sl.own (obj_new _ _) (by simp) (Nat.le_refl _) (by unfold maxLen; omega) (fun j hj => by simp at hj; subst hj; simp [encB, hc])) (by have := HSZ.out; have := HB.out; simp; omega) (by have := HL.out; have := hxl.out; simp; omega)
    have R := Lib.hid RUN
    clear RUN
    rcases hk4 with rfl | rfl | rfl | rfl | rfl
    · obtain rfl : z = -1 := by have := hz.out; omega
      go_wp2
      go_ret
      exact ⟨_, rfl, by have h := hx.out; simp [Pl.putB] at h; rw [← h]; exact hown.out, kb.out⟩
    · obtain rfl : z = 0 := by have := hz.out; omega
      go_wp2_with (at_builtin; obtain ⟨v', w', hr, ho, hg⟩ := R.out (Pl.byteAt n 0) _ E0.out; refine Lib.wpList_append_run _ rfl (.tmp 14) (.tmp 20) 26 26 rfl _ _ rfl rfl _ _ hr ?_)
      have Q := Lib.hid (put_step hown.out hx.out hs ho hg kb.out HB.out)
      clear hr ho hg R
      go_roundw
      case rel => exact ⟨0, X ++ [Pl.byteAt n 0], -1, rfl, by omega, Lib.hid (by omega), Q.out.1, Q.out.2.1, Q.out.2.2.1, Q.out.2.2.2⟩
      case measure => simp [intOf]
    · obtain rfl : z = 1 := by have := hz.out; omega
      go_wp2_with (at_builtin; obtain ⟨v', w', hr, ho, hg⟩ := R.out (Pl.byteAt n 1) _ E1.out; refine Lib.wpList_append_run _ rfl (.tmp 14) (.tmp 20) 26 26 rfl _ _ rfl rfl _ _ hr ?_)
      have Q := Lib.hid (put_step hown.out hx.out hs ho hg kb.out HB.out)
      clear hr ho hg R
      go_roundw
      case rel => exact ⟨1, X ++ [Pl.byteAt n 1], 0, rfl, by omega, Lib.hid (by omega), Q.out.1, Q.out.2.1, Q.out.2.2.1, Q.out.2.2.2⟩
      case measure => simp [intOf]
    · obtain rfl : z = 2 := by have := hz.out; omega
      go_wp2_with (at_builtin; obtain ⟨v', w', hr, ho, hg⟩ := R.out (Pl.byteAt n 2) _ E2.out; refine Lib.wpList_append_run _ rfl (.tmp 14) (.tmp 20) 26 26 rfl _ _ rfl rfl _ _ hr ?_)
      have Q := Lib.hid (put_step hown.out hx.out hs ho hg kb.out HB.out)
      clear hr ho hg R
      go_roundw
      case rel => exact ⟨2, X ++ [Pl.byteAt n 2], 1, rfl, by omega, Lib.hid (by omega), Q.out.1, Q.out.2.1, Q.out.2.2.1, Q.out.2.2.2⟩
      case measure => simp [intOf]
    · obtain rfl : z = 3 := by have := hz.out; omega
      go_wp2_with (at_builtin; obtain ⟨v', w', hr, ho, hg⟩ := R.out (Pl.byteAt n 3) _ E3.out; refine Lib.wpList_append_run _ rfl (.tmp 14) (.tmp 20) 26 26 rfl _ _ rfl rfl _ _ hr ?_)
      have Q := Lib.hid (put_step hown.out hx.out hs ho hg kb.out HB.out)
      clear hr ho hg R
      go_roundw
      case rel => exact ⟨3, X ++ [Pl.byteAt n 3], 2, rfl, by omega, Lib.hid (by omega), Q.out.1, Q.out.2.1, Q.out.2.2.1, Q.out.2.2.2⟩
      case measure => simp [intOf]

/-! pack.Get -/
theorem byte_bound (c : UInt8) : (0 : Int) ≤ (c.toNat : Int) ∧ (c.toNat : Int) ≤ 255 := by have := c.toNat_lt; omega
theorem Pl.or_low (a : Int) (c : UInt8) (h1 : 0 ≤ a) (h2 : a < 1099511627776) : bits .or .i64 (a * 256) (c.toNat : Int) = a * 256 + (c.toNat : Int) := by
  have hc := c.toNat_lt
  obtain ⟨n, rfl⟩ := Int.eq_ofNat_of_zero_le h1
  have h2' : n < 1099511627776 := by omega
  unfold bits
  have h : (BitVec.ofInt 64 ((n : Int) * 256) ||| BitVec.ofInt 64 (c.toNat : Int)).toNat = n * 256 + c.toNat := by
    rw [show ((n : Int) * 256) = ((n * 256 : Nat) : Int) by simp, BitVec.toNat_or, BitVec.ofInt_natCast, BitVec.ofInt_natCast, BitVec.toNat_ofNat, BitVec.toNat_ofNat, Nat.mod_eq_of_lt (by omega), Nat.mod_eq_of_lt (by omega)]
    rw [Nat.mul_comm n 256]
    exact (Nat.two_pow_add_eq_or_of_lt (i := 8) (by omega) n).symm
  show IntKind.i64.wrap (((BitVec.ofInt 64 ((n : Int) * 256) ||| BitVec.ofInt 64 (c.toNat : Int)).toNat : Nat) : Int) = _
  rw [h, IntKind.wrap_i64]
  omega
theorem Pl.getB_take (l : List UInt8) (k : Nat) (hk : k < l.length) : Pl.getB (l.take (k + 1)) = Pl.getB (l.take k) * 256 + (l[k].toNat : Int) := by
  rw [List.take_succ_eq_append_getElem hk, Pl.getB_snoc]
theorem Pl.getB_take_bd (l : List UInt8) (k : Nat) (hk : k ≤ 4) : 0 ≤ Pl.getB (l.take k) ∧ Pl.getB (l.take k) < 4294967296 := by
  have h := Pl.getB_bd (l.take k)
  refine ⟨h.1, Int.lt_of_lt_of_le h.2 ?_⟩
  have h3 : (l.take k).length ≤ 4 := by have := List.length_take_le k l; omega
  generalize (l.take k).length = m at *
  have h4 : m = 0 ∨ m = 1 ∨ m = 2 ∨ m = 3 ∨ m = 4 := by omega
  rcases h4 with rfl | rfl | rfl | rfl | rfl <;> decide
set_option maxHeartbeats 1000000 in
theorem get_any (v : Value) (l : List UInt8) (w : World) (hv : IsBytes w v l) (hl : l.length ≤ 4) :
    Calls Tryd.prog 31 #[v] w fun e w' => e = .returned (.int .i64 (Pl.getB l)) ∧ w = w' := by
  rcases hv with ⟨rfl, oa, cap, rfl, hm, _⟩ | ⟨b, off, cap, rfl, hlc, hm, hc⟩
  · go_enter Tryd.func31, Tryd.ntmps31
    go_wp2
    refine wp_loop_once ?_
    go_wp2
    go_ret
    exact ⟨rfl, rfl⟩
  · unfold maxLen at hm
    go_enter Tryd.func31, Tryd.ntmps31
    go_wp2
    go_loop [3, 8] (fun t i => ∃ k : Nat, k ≤ l.length ∧ i = .int .i64 k ∧ t = .int .i64 (Pl.getB (l.take k))) (fun _ i => l.length - (intOf i).toNat)
    case atStart => exact ⟨0, by omega, rfl, by simp [Pl.getB]⟩
    case round =>
      obtain ⟨k, hk, rfl, rfl⟩ := hrel
      by_cases hlt : k < l.length
      · have HS := Lib.hid (Pl.getB_take l k hlt)
        obtain ⟨b1, b2⟩ := Pl.getB_take_bd l k (by omega)
        have hcell := hc k hlt
        clear hc
        have E := Lib.hid (Pl.or_low (Pl.getB (l.take k)) l[k] b1 (by omega))
        obtain ⟨c1, c2⟩ := byte_bound l[k]
        generalize Pl.getB (l.take k) = x at *
        generalize l[k] = c at *
        go_wp2
        go_round
        case rel => exact ⟨k + 1, by omega, by go_num, by rw [HS.out, E.out]⟩
        case measure => simp [intOf]; omega
      · have e : l.take k = l := List.take_of_length_le (by omega)
        rw [e]
        clear hc e
        go_wp2
        go_ret
        exact ⟨rfl, rfl⟩
end Go.Proofs.YthbcdpckckellaaDoor
