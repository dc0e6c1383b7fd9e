import Derived.Test.YtmmfnalcdekkbaaDoorTreeCheck
import Derived.Test.YtmmfnalcdekkbaaDoorIntRow
/-! tree's up and check. -/
namespace Go.Proofs.YtmmfnalcdekkbaaDoor
open Go.RowKit
set_option linter.unusedVariables false
set_option linter.unusedSimpArgs false
def atL (ps : List Int) (i : Nat) : Int := ps.getD i (-1)
theorem atL_get (ps : List Int) (i : Nat) (h : i < ps.length) : atL ps i = ps[i] := by simp [atL, List.getD, h]
abbrev IsSl (w : World) (v : Value) (l : List Int) : Prop := Sl encI w v l
theorem isl_read {w : World} {v : Value} {l : List Int} (h : IsSl w v l) : ∃ (oa : Option Addr) (c : Nat), v = .slice oa l.length c ∧ l.length ≤ maxLen ∧ ∀ k, k < l.length → ∃ b f, oa = some ⟨b, f, none⟩ ∧ b < w.heap.size ∧ w.cell? ⟨b, f + k, none⟩ = some (.int .i64 (atL l k)) := by
  have hm := h.len
  rcases h with ⟨rfl, oa, cap, rfl, r1, _⟩ | ⟨b2, f2, c2, rfl, r1, r2, r3⟩
  · exact ⟨oa, cap, rfl, hm, fun k hk => by simp at hk⟩
  · refine ⟨_, c2, rfl, hm, fun k hk => ?_⟩
    have q0 := r3 k hk
    exact ⟨b2, f2, rfl, Sl.lt q0, by rw [atL_get l k hk]; exact q0⟩
def sliceLen : Value → Nat
  | .slice _ n _ => n
  | _ => 0
/-- parents that may be -/
def ParOk (ps : List Int) : Prop := ∀ i, i < ps.length → -1 ≤ atL ps i ∧ atL ps i < ps.length
/-- a row of ints that the call has made -/
abbrev ORow (w : World) (M : Nat) (v : Value) (A : List Int) : Prop := w.ownsRow M 3 1 v A.length (A.map encI)
theorem ORow.sl {w : World} {M : Nat} {v : Value} {A : List Int} (h : ORow w M v A) : IsSl w v A := by
  rcases h.2 with ⟨rfl, h0⟩ | ⟨g, cap, cur, rfl, hb, hg, hc, hm, hs, ht⟩
  · have : A = [] := by simpa using h0
    subst this
    exact .inl ⟨rfl, none, 0, rfl, by simp, fun _ => rfl⟩
  · refine .inr ⟨g, 0, cap, rfl, hc, hm, fun i hi => ?_⟩
    have := World.ownsRow.cells h (g := g) rfl i (encI A[i]) (by simp [hi])
    rw [Addr.add_lit, Nat.zero_add] at this
    rw [Nat.zero_add]; exact this
set_option maxRecDepth 100000 in
set_option maxHeartbeats 4000000 in
theorem treeUp_any (v : Value) (ps : List Int) (x : Int) (w : World) (hv0 : IsSl w v ps) (hl : ps.length ≤ 1000) (hp : ParOk ps) (hx : x < ps.length) :
    Calls Tryd.prog 22 #[v, .int .i64 x] w fun e w' => ∃ v', e = .returned v' ∧ ORow w' w.heap.size v' (Pl.upL (atL ps) (ps.length + 1) x) ∧ Below w.heap.size w w' := by
  obtain ⟨oa, cp, rfl, hm, -⟩ := isl_read hv0
  have HV := Lib.hid hv0
  have HP := Lib.hid hp
  clear hv0 hm hp
  go_enter Tryd.func22, Tryd.ntmps22
  go_upto_region 1 with fail
  go_loopw [1, 4] (fun s1 s4 wr => ∃ (y : Int) (A : List Int), s1 = .int .i64 y ∧ y < ps.length ∧ A.length ≤ ps.length + 1 ∧ sliceLen s4 = A.length ∧ Hid (ORow wr w.heap.size s4 A) ∧ Hid (Below w.heap.size w wr) ∧ Hid (Pl.upL (atL ps) (ps.length + 1) x = A ++ Pl.upL (atL ps) (ps.length + 1 - A.length) y)) (fun _ s4 _ => ps.length + 1 - sliceLen s4)
  case atStart => exact ⟨x, [], rfl, hx, by simp, rfl, Lib.hid (World.ownsRow_nil _ _ _ _), Lib.hid (Below.refl _ _), Lib.hid (by simp)⟩
  case round =>
    obtain ⟨y, A, rfl, hy, hA, hsl, RO, KB, EQ⟩ := hrel
    have hform : ∃ o4 c4, u4 = .slice o4 A.length c4 := by
      obtain ⟨o, c, e, _⟩ := isl_read RO.out.sl
      exact ⟨o, c, e⟩
    obtain ⟨o4, c4, rfl⟩ := hform
    by_cases hc : 0 ≤ y ∧ A.length ≤ ps.length
    · obtain ⟨h0, h1⟩ := hc
      obtain ⟨k, rfl⟩ : ∃ k : Nat, y = k := ⟨y.toNat, by omega⟩
      have hk : k < ps.length := by omega
      obtain ⟨_, _, e, -, rd⟩ := isl_read (HV.out.below KB.out)
      cases e
      obtain ⟨g, f, rfl, hg, q0⟩ := rd k hk
      clear rd
      have hpk := HP.out k hk
      have EQ2 := Lib.hid (show Pl.upL (atL ps) (ps.length + 1) x = (A ++ [(k : Int)]) ++ Pl.upL (atL ps) (ps.length + 1 - (A ++ [(k : Int)]).length) (atL ps k) by
        rw [EQ.out, show ps.length + 1 - A.length = (ps.length + 1 - (A.length + 1)) + 1 by omega]
        conv => lhs; rw [Pl.upL, if_neg (by omega)]
        simp)
      obtain ⟨z, hz⟩ : ∃ z, atL ps k = z := ⟨_, rfl⟩
      rw [hz] at q0 hpk EQ2
      clear hz EQ
      obtain ⟨hp1, hp2⟩ := hpk
      have roA : Hid ((wr.alloc (.cells #[.int .i64 (k : Int)] 3)).ownsRow w.heap.size 3 1 (.slice o4 A.length c4) A.length (A.map encI)) := Lib.hid (RO.out.alloc _)
      have kA : Hid (Below w.heap.size w (wr.alloc (.cells #[.int .i64 (k : Int)] 3))) := Lib.hid (KB.out.alloc KB.out.size _)
      have RUN := Lib.hid (run_moreInt2 _ w.heap.size (.slice o4 A.length c4) (k : Int) A.length (A.map encI) roA.out wr.heap.size (obj_new _ _) (by omega) (by have := KB.out.size; simp; omega))
      have hgb : Hid (∀ g, (Value.slice o4 A.length c4).ownBlock = some g → w.heap.size ≤ g) := Lib.hid (fun g e => (RO.out.lt g e).1)
      clear RO
      go_upto_region 3 with (at_builtin; obtain ⟨vN, wN, hr, ho, hgr, hbk⟩ := RUN.out; obtain ⟨gN, capN, rfl⟩ := Joins.ownsRow_form ho (by omega); refine Lib.wpList_append_run _ rfl (.tmp 14) (.tmp 16) 23 23 rfl _ _ rfl rfl _ _ hr ?_)
      have RO : Hid (ORow wN w.heap.size (.slice (some ⟨gN, 0, none⟩) (A.length + 1) capN) (A ++ [(k : Int)])) := Lib.hid (by unfold ORow; rw [List.map_append, List.length_append]; exact ho)
      have KN : Hid (Below w.heap.size w wN) := Lib.hid ⟨hgr.os.trans kA.out.os, hgr.tape.trans kA.out.tape, hgr.output.trans kA.out.output, Nat.le_trans kA.out.size hgr.size, fun j hj => (hgr.block j (Nat.lt_of_lt_of_le hj kA.out.size) (fun e => by have := hgb.out j e.symm; omega)).trans (kA.out.block j hj)⟩
      have q1 : wN.cell? ⟨g, f + k, none⟩ = some (.int .i64 z) := by
        have hgw : g < w.heap.size := by
          obtain ⟨_, _, e, -, rd⟩ := isl_read HV.out
          cases e
          obtain ⟨g', f', e2, hg', _⟩ := rd k hk
          cases e2; exact hg'
        exact (KN.out.cell (p := ⟨g, f + k, none⟩) hgw).trans (((KB.out.cell (p := ⟨g, f + k, none⟩) hgw).symm).trans q0)
      clear hr ho hgr hbk RUN roA kA hgb q0
      go_wp2_with fail
      go_roundw
      case measure => simp [sliceLen]; omega
      case rel => exact ⟨z, A ++ [(k : Int)], rfl, by omega, by simp; omega, by simp [sliceLen], RO, KN, EQ2⟩
    · have EQ2 := Lib.hid (show Pl.upL (atL ps) (ps.length + 1) x = A by
        rw [EQ.out]
        by_cases h0 : 0 ≤ y
        · rw [show ps.length + 1 - A.length = 0 by omega]; simp [Pl.upL]
        · rw [Pl.upL_neg _ _ _ (by omega)]; simp)
      clear EQ
      by_cases h0 : 0 ≤ y
      · have h1 : ¬ A.length ≤ ps.length := fun h => hc ⟨h0, h⟩
        clear hc
        go_wp2_with fail
        go_ret
        exact ⟨_, rfl, by rw [EQ2.out]; exact RO.out, KB.out⟩
      · clear hc
        go_wp2_with fail
        go_ret
        exact ⟨_, rfl, by rw [EQ2.out]; exact RO.out, KB.out⟩
end Go.Proofs.YtmmfnalcdekkbaaDoor
