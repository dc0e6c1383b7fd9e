import Derived.Test.YthmfmnoblobcoaaBytes
/-! pack.Put: what is no bytes is as it was. -/
namespace Go.Proofs.Ythmfmnoblobcoaa
open Go.RowKit
set_option linter.unusedVariables false
set_option linter.unusedSimpArgs false
/-- what lies below, and what is no bytes, is as it was -/
structure KpT (base : Nat) (w w' : World) : Prop where
  below : Below base w w'
  keep : ∀ (j : Nat) (cs : Array Value) (T : TypeId), T ≠ 5 → w.heap[j]? = some (.cells cs T (0, 0)) → w'.heap[j]? = some (.cells cs T (0, 0))
theorem KpT.refl (base : Nat) (w : World) : KpT base w w := ⟨Below.refl _ _, fun _ _ _ _ h => h⟩
theorem KpT.trans {base : Nat} {a b c : World} (h : KpT base a b) (k : KpT base b c) : KpT base a c := ⟨h.below.trans k.below, fun j cs T hT e => k.keep j cs T hT (h.keep j cs T hT e)⟩
theorem KpT.of_below {base : Nat} {a b : World} (hb : base ≤ a.heap.size) (h : Below a.heap.size a b) : KpT base a b := ⟨h.mono hb, fun j cs T _ e => (h.block j (lt_of_block e)).trans e⟩
theorem KpT.drew {base : Nat} {a b : World} (h : KpT base a b) : KpT base a b.drew := ⟨Below.drewN h.below 1, h.keep⟩
theorem KpT.more {base : Nat} {wr w' : World} {o : Obj} {s : Value} {l : List UInt8} (hown : OwnB wr base s l) (hb : base ≤ wr.heap.size) (hg : (wr.alloc o).grownBy w' s.ownBlock) : KpT base wr w' := by
  have hrow : ∀ g, s.ownBlock = some g → ∃ cs, wr.heap[g]? = some (.cells cs 5 (0, 0)) := fun g e => by
    rcases hown.2 with ⟨rfl, _⟩ | ⟨g', cap, cur, rfl, _, hg', _⟩
    · cases e
    · simp [Value.ownBlock] at e; subst e; exact ⟨_, hg'⟩
  refine ⟨((Below.refl _ _).alloc (by omega) o).trans (below_row (OwnB.alloc hown o) hg (Nat.le_refl _) (by simp; omega)), fun j cs T hT e => ?_⟩
  have hl := lt_of_block e
  rw [hg.block j (by simp; omega) (fun e' => by
    obtain ⟨cs', q⟩ := hrow j e'.symm
    rw [e] at q; simp at q; exact hT q.2)]
  exact (Below.heap_alloc wr o j hl).trans e
theorem putk_step {n : Int} {size k : Nat} {X l : List UInt8} {base : Nat} {w wr w' : World} {o : Obj} {s v' : Value} (hown : OwnB wr base s (l ++ X)) (hx : X ++ Pl.putB n (k + 1) = Pl.putB n size) (hs : size ≤ 4) (ho : OwnB w' base v' ((l ++ X) ++ [Pl.byteAt n k])) (hg : (wr.alloc o).grownBy w' s.ownBlock) (kb : KpT base w wr) (hb : base ≤ w.heap.size) :
    Hid (OwnB w' base v' (l ++ (X ++ [Pl.byteAt n k]))) ∧ Hid ((X ++ [Pl.byteAt n k]).length ≤ 4) ∧ Hid ((X ++ [Pl.byteAt n k]) ++ Pl.putB n k = Pl.putB n size) ∧ Hid (KpT base w w') := by
  obtain ⟨h1, h2, h3, _⟩ := put_step hown hx hs ho hg kb.below hb
  exact ⟨h1, h2, h3, Lib.hid (kb.trans (KpT.more hown (Nat.le_trans hb kb.below.size) hg))⟩
set_option maxRecDepth 100000 in
set_option maxHeartbeats 4000000 in
theorem putk_any (size : Nat) (hs : size ≤ 4) (n : Int) (h1 : 0 ≤ n) (h2 : n ≤ 4294967295) (base : Nat) (v : Value) (l : List UInt8) (hl : l.length ≤ 1000000) (w : World) (hv : OwnB w base v l) (hb : base ≤ w.heap.size) :
    Calls Try.prog 18 #[v, .int .i64 n, .int .i64 (size : Int)] w fun e w' => ∃ v', e = .returned v' ∧ OwnB w' base v' (l ++ Pl.putB n size) ∧ KpT base w w' := by
  have HV := Lib.hid hv
  have HB := Lib.hid hb
  have HL := Lib.hid hl
  have E3 := Lib.hid (show n / 16777216 = ((Pl.byteAt n 3).toNat : Int) by rw [Pl.byteAt_toNat, show (256 : Int) ^ 3 = 16777216 by decide]; omega)
  have E2 := Lib.hid (Pl.byte_wrap n 2 65536 (by decide))
  have E1 := Lib.hid (Pl.byte_wrap n 1 256 (by decide))
  have E0 := Lib.hid (Pl.byte_wrap0 n)
  clear hv hb hl
  go_enter Try.func18, Try.ntmps18
  go_wp2
  go_loopw [0, 7] (fun s0 s7 wr => ∃ (k : Nat) (X : List UInt8) (z : Int), s7 = .int .i64 z ∧ k ≤ size ∧ Hid (z = (k : Int) - 1) ∧ Hid (OwnB wr base s0 (l ++ X)) ∧ Hid (X.length ≤ 4) ∧ Hid (X ++ Pl.putB n k = Pl.putB n size) ∧ Hid (KpT base w wr)) (fun _ s7 _ => (intOf s7 + 1).toNat)
  case atStart => exact ⟨size, [], _, rfl, Nat.le_refl _, Lib.hid rfl, by simpa using HV, Lib.hid (by simp), Lib.hid (by simp), Lib.hid (KpT.refl _ _)⟩
  case round =>
    obtain ⟨k, X, z, rfl, hk, hz, hown, hxl, hx, kb⟩ := hrel
    have HSZ := Lib.hid kb.out.below.size
    have hk4 : k = 0 ∨ k = 1 ∨ k = 2 ∨ k = 3 ∨ k = 4 := by omega
    have RUN := fun (c : UInt8) (i : Int) (hc : i = (c.toNat : Int)) => run_append_bytes (base := base) (l1 := l ++ X) (l2 := [c]) (src := .slice (some ⟨wr.heap.size, 0, none⟩) 1 1) (wr.alloc (.cells #[.int .u8 i] 5)) (OwnB.alloc hown.out _) (Sl.own (obj_new _ _) (by simp) (Nat.le_refl _) (by unfold maxLen; omega) (fun j hj => by simp at hj; subst hj; simp [encB, hc])) (by have := HSZ.out; have := HB.out; simp; omega) (by have := HL.out; have := hxl.out; simp; omega)
    have R := Lib.hid RUN
    clear RUN
    rcases hk4 with rfl | rfl | rfl | rfl | rfl
    · obtain rfl : z = -1 := by have := hz.out; omega
      go_wp2
      go_ret
      exact ⟨_, rfl, by have h := hx.out; simp [Pl.putB] at h; rw [← h]; exact hown.out, kb.out⟩
    · obtain rfl : z = 0 := by have := hz.out; omega
      go_wp2_with (at_builtin; obtain ⟨v', w', hr, ho, hg⟩ := R.out (Pl.byteAt n 0) _ E0.out; refine Lib.wpList_append_run _ rfl (.tmp 14) (.tmp 20) 25 25 rfl _ _ rfl rfl _ _ hr ?_)
      have Q := Lib.hid (putk_step hown.out hx.out hs ho hg kb.out HB.out)
      clear hr ho hg R
      go_roundw
      case rel => exact ⟨0, X ++ [Pl.byteAt n 0], -1, rfl, by omega, Lib.hid (by omega), Q.out.1, Q.out.2.1, Q.out.2.2.1, Q.out.2.2.2⟩
      case measure => simp [intOf]
    · obtain rfl : z = 1 := by have := hz.out; omega
      go_wp2_with (at_builtin; obtain ⟨v', w', hr, ho, hg⟩ := R.out (Pl.byteAt n 1) _ E1.out; refine Lib.wpList_append_run _ rfl (.tmp 14) (.tmp 20) 25 25 rfl _ _ rfl rfl _ _ hr ?_)
      have Q := Lib.hid (putk_step hown.out hx.out hs ho hg kb.out HB.out)
      clear hr ho hg R
      go_roundw
      case rel => exact ⟨1, X ++ [Pl.byteAt n 1], 0, rfl, by omega, Lib.hid (by omega), Q.out.1, Q.out.2.1, Q.out.2.2.1, Q.out.2.2.2⟩
      case measure => simp [intOf]
    · obtain rfl : z = 2 := by have := hz.out; omega
      go_wp2_with (at_builtin; obtain ⟨v', w', hr, ho, hg⟩ := R.out (Pl.byteAt n 2) _ E2.out; refine Lib.wpList_append_run _ rfl (.tmp 14) (.tmp 20) 25 25 rfl _ _ rfl rfl _ _ hr ?_)
      have Q := Lib.hid (putk_step hown.out hx.out hs ho hg kb.out HB.out)
      clear hr ho hg R
      go_roundw
      case rel => exact ⟨2, X ++ [Pl.byteAt n 2], 1, rfl, by omega, Lib.hid (by omega), Q.out.1, Q.out.2.1, Q.out.2.2.1, Q.out.2.2.2⟩
      case measure => simp [intOf]
    · obtain rfl : z = 3 := by have := hz.out; omega
      go_wp2_with (at_builtin; obtain ⟨v', w', hr, ho, hg⟩ := R.out (Pl.byteAt n 3) _ E3.out; refine Lib.wpList_append_run _ rfl (.tmp 14) (.tmp 20) 25 25 rfl _ _ rfl rfl _ _ hr ?_)
      have Q := Lib.hid (putk_step hown.out hx.out hs ho hg kb.out HB.out)
      clear hr ho hg R
      go_roundw
      case rel => exact ⟨3, X ++ [Pl.byteAt n 3], 2, rfl, by omega, Lib.hid (by omega), Q.out.1, Q.out.2.1, Q.out.2.2.1, Q.out.2.2.2⟩
      case measure => simp [intOf]

theorem putk_two (n : Int) (h1 : 0 ≤ n) (h2 : n ≤ 4294967295) (base : Nat) (v : Value) (l : List UInt8) (hl : l.length ≤ 1000000) (w : World) (hv : OwnB w base v l) (hb : base ≤ w.heap.size) :
    Calls Try.prog 18 #[v, .int .i64 n, .int .i64 2] w fun e w' => ∃ v', e = .returned v' ∧ OwnB w' base v' (l ++ Pl.putB n 2) ∧ KpT base w w' := putk_any 2 (by omega) n h1 h2 base v l hl w hv hb
theorem putk_four (n : Int) (h1 : 0 ≤ n) (h2 : n ≤ 4294967295) (base : Nat) (v : Value) (l : List UInt8) (hl : l.length ≤ 1000000) (w : World) (hv : OwnB w base v l) (hb : base ≤ w.heap.size) :
    Calls Try.prog 18 #[v, .int .i64 n, .int .i64 4] w fun e w' => ∃ v', e = .returned v' ∧ OwnB w' base v' (l ++ Pl.putB n 4) ∧ KpT base w w' := putk_any 4 (by omega) n h1 h2 base v l hl w hv hb
end Go.Proofs.Ythmfmnoblobcoaa
