import Derived.Test.YtfpmekphkippdaaFairC
import Derived.Test.YtfpmekphkippdaaCloneI
import Derived.Laws.MakeOwn
/-! Package rate: what stands ahead of Fair's loops, and the memory of them. -/
namespace Go.Proofs.Ytfpmekphkippdaa
open Go.RowKit Go.Sort
set_option linter.unusedVariables false
set_option linter.unusedSimpArgs false
set_option linter.unusedSectionVars false
def Pl.rate (n : Int) : Prop := 0 ≤ n ∧ n ≤ 1000000
instance (n : Int) : Decidable (Pl.rate n) := by unfold Pl.rate; infer_instance
theorem rateRate_any (n : Int) (w : World) : Calls Try.prog 5 #[.int .i64 n] w fun e w' => e = .returned (.bool (decide (Pl.rate n))) ∧ w = w' := by
  by_cases h1 : 0 ≤ n
  · by_cases h2 : n ≤ 1000000
    · have hd : decide (Pl.rate n) = true := decide_eq_true ⟨h1, h2⟩
      rw [hd]
      go_enter Try.func5, Try.ntmps5
      go_wp2
      go_ret
      exact ⟨by first | rfl | simp, rfl⟩
    · have hd : decide (Pl.rate n) = false := decide_eq_false fun h => h2 h.2
      rw [hd]
      go_enter Try.func5, Try.ntmps5
      go_wp2
      go_ret
      exact ⟨by first | rfl | (simp; omega), rfl⟩
  · have hd : decide (Pl.rate n) = false := decide_eq_false fun h => h1 h.1
    rw [hd]
    go_enter Try.func5, Try.ntmps5
    go_wp2
    go_ret
    exact ⟨by first | rfl | (simp; omega), rfl⟩
theorem wrong1_any (n : Int) (w : World) : Calls Try.prog 11 #[.int .i64 n] w fun e w' => e = .returned (.bool (!decide (Pl.rate n))) ∧ w = w' := by
  go_enter Try.func11, Try.ntmps11
  go_wp2_with (go_at_call 5; refine (rateRate_any n _).mono ?_; rintro e z ⟨rfl, rfl⟩)
  go_ret
  exact ⟨by first | rfl | simp, rfl⟩
def Pl.wrongs (A : List Int) : Prop := ∃ x ∈ A, ¬ Pl.rate x
set_option maxRecDepth 100000 in
set_option maxHeartbeats 2000000 in
theorem indexF_any (v : Value) (A : List Int) (w : World) (hv : Sl encI w v A) :
    Calls Try.prog 13 #[v, .func (.func 11) #[] #[]] w fun e w' => ∃ r : Int, e = .returned (.int .i64 r) ∧ (0 ≤ r ↔ Pl.wrongs A) ∧ w = w' := by
  have hlen := hv.len
  unfold maxLen at hlen
  obtain ⟨oa, c, rfl⟩ : ∃ oa c, v = .slice oa A.length c := by
    rcases hv with ⟨h1, oa, cap, rfl, _⟩ | ⟨b, off, cap, rfl, _⟩
    · subst h1; exact ⟨_, _, rfl⟩
    · exact ⟨_, _, rfl⟩
  have HV := Lib.hid hv
  clear hv
  go_enter Try.func13, Try.ntmps13
  go_upto_region 2 with fail
  go_loopw [8] (fun s wr => ∃ i : Nat, i ≤ A.length ∧ s = .int .i64 i ∧ Hid (wr = w) ∧ Hid (∀ x ∈ A.take i, Pl.rate x)) (fun s _ => A.length - (intOf s).toNat)
  case atStart => exact ⟨0, by omega, rfl, Lib.hid rfl, Lib.hid (by simp)⟩
  case round =>
    obtain ⟨i, hi, rfl, HW, HR⟩ := hrel
    by_cases hlt : i < A.length
    · have e1 : (i : Int) < (A.length : Int) := by omega
      have i0 : (0 : Int) ≤ (i : Int) := by omega
      obtain ⟨b, f, rfl, q1⟩ : ∃ b f, oa = some ⟨b, f, none⟩ ∧ wr.cell? ⟨b, f + i, none⟩ = some (.int .i64 A[i]) := by
        rw [HW.out]
        rcases HV.out with ⟨h1, _⟩ | ⟨b, off, cap, e, _, _, h2⟩
        · subst h1; simp at hlt
        · cases e; exact ⟨b, off, rfl, h2 i hlt⟩
      have T1 := Lib.hid (show A.take (i + 1) = A.take i ++ [A[i]] from by rw [List.take_add_one]; simp [hlt])
      have M1 := Lib.hid (show A[i] ∈ A from List.getElem_mem hlt)
      generalize A[i] = x at *
      by_cases hx : Pl.rate x
      · have dx : decide (Pl.rate x) = true := decide_eq_true hx
        have HR2 := Lib.hid (show ∀ y ∈ A.take (i + 1), Pl.rate y from fun y hy => by
          rw [T1.out] at hy
          rcases List.mem_append.1 hy with h | h
          · exact HR.out y h
          · obtain rfl : y = x := by simpa using h
            exact hx)
        clear T1 M1 HR hx
        go_wp2_with (go_at_call 11; refine (wrong1_any x _).mono ?_; rw [dx]; rintro e z ⟨rfl, rfl⟩)
        go_roundw
        case measure => simp only [intOf]; omega
        case rel => exact ⟨i + 1, by omega, by simp, HW, HR2⟩
      · have dx : decide (Pl.rate x) = false := decide_eq_false hx
        have WR := Lib.hid (show Pl.wrongs A from ⟨x, M1.out, hx⟩)
        clear T1 M1 HR hx
        go_wp2_with (go_at_call 11; refine (wrong1_any x _).mono ?_; rw [dx]; rintro e z ⟨rfl, rfl⟩)
        go_ret
        exact ⟨_, rfl, ⟨fun _ => WR.out, fun _ => i0⟩, HW.out.symm⟩
    · have e1 : ¬ (i : Int) < (A.length : Int) := by omega
      have NW := Lib.hid (show ¬ Pl.wrongs A from by
        rintro ⟨x, hx, h⟩
        have := HR.out
        rw [List.take_of_length_le (by omega)] at this
        exact h (this x hx))
      clear hlt HR
      go_wp2_with fail
      go_ret
      exact ⟨_, rfl, ⟨fun h => by omega, fun h => absurd h NW.out⟩, HW.out.symm⟩
theorem containsF_any (v : Value) (A : List Int) (w : World) (hv : Sl encI w v A) (b : Bool) (hb : b = true ↔ Pl.wrongs A) :
    Calls Try.prog 10 #[v, .func (.func 11) #[] #[]] w fun e w' => e = .returned (.bool b) ∧ w = w' := by
  have IX := Lib.hid (indexF_any v A w hv)
  have HB := Lib.hid hb
  clear hv hb
  go_enter Try.func10, Try.ntmps10
  go_wp2_with (go_at_call 13; (with_reducible refine IX.out.mono ?_); rintro e z ⟨r, rfl, q, rfl⟩; have HQ := Lib.hid q; clear q)
  go_ret
  refine ⟨?_, rfl⟩
  have hb := HB.out
  have hq := HQ.out
  by_cases h : 0 ≤ r
  · have : b = true := hb.2 (hq.1 h)
    subst this
    simp [h]
  · have : b = false := by
      cases b
      · rfl
      · exact absurd (hq.2 (hb.1 rfl)) h
    subst this
    simp; omega
theorem rateWrong_any (v : Value) (A : List Int) (w : World) (hv : Sl encI w v A) (b : Bool) (hb : b = true ↔ Pl.wrongs A) :
    Calls Try.prog 6 #[v] w fun e w' => e = .returned (.bool b) ∧ w = w' := by
  have CX := Lib.hid (containsF_any v A w hv b hb)
  clear hv hb
  go_enter Try.func6, Try.ntmps6
  go_wp2_with (go_at_call 10; (with_reducible refine CX.out.mono ?_); rintro e z ⟨rfl, rfl⟩)
  go_ret
  exact ⟨rfl, rfl⟩
theorem infoIntF : (Try.prog.info? 3).map (fun i => (i.zero, i.size, i.bytes)) = some (some (.int .i64 0), 1, 8) := by kernel_rfl
theorem madeOneF (z : Value) (n : Nat) (h : z.cells = #[z]) : madeCells z.cells (n * 1) = Array.replicate n z := by
  rw [Nat.mul_one, h]
  refine Array.ext (by simp [madeCells]) (fun i h1 h2 => ?_)
  simp [madeCells, Nat.mod_one]
theorem make_intsF (n : Nat) (hn : n ≤ 1000) (w : World) : (Instr.makeSlice 22 (.int .i64 (n : Int)) (.int .i64 (n : Int))).run Try.prog w = .ok (.slice (some ⟨w.heap.size, 0, none⟩) n n) (w.alloc (.cells (Array.replicate n (.int .i64 0)) 3)) := by
  obtain ⟨i0, hi, hz0, hz1, hz2⟩ := info_parts infoIntF
  have h := run_makeSlice (P := Try.prog) w 22 3 i0 _ Try.underlying22 hi hz0 .i64 .i64 (n : Int) (n : Int) (by omega) (by omega) (by rw [hz1]; simp; omega) (by rw [hz2]; omega) (by omega)
  rw [hz1] at h
  simp only [Int.toNat_natCast] at h
  rw [madeOneF _ _ rfl] at h
  exact h
/-- a row of the call's own, to be written -/
theorem owned_holds {w : World} {base : Nat} {v : Value} {l : List Int} (h : w.ownsRow base 3 1 v l.length (l.map encI)) (hl : 0 < l.length) : ∃ (g cap : Nat), v = .slice (some ⟨g, 0, none⟩) l.length cap ∧ base ≤ g ∧ l.length ≤ cap ∧ cap ≤ maxLen ∧ Holds (encF (fun x : Int => x)) w g 0 l.toArray := by
  obtain ⟨h1, h2⟩ := h
  rcases h2 with ⟨rfl, h0⟩ | ⟨g, cap, cur, rfl, hb, hg, hc, hm, hs, ht⟩
  · omega
  · refine ⟨g, cap, rfl, hb, hc, hm, fun i hi => ⟨?_, obj_free hg _⟩⟩
    have hi' : i < l.length := by simpa using hi
    have e : cur[i]? = some (encI l[i]) := by
      have h3 : (cur.toList.take (l.length * 1))[i]? = (l.map encI)[i]? := by rw [ht]
      rw [List.getElem?_take, if_pos (by omega)] at h3
      simpa [hi'] using h3
    have e2 : l.toArray[i]! = l[i] := by simp [hi']
    rw [e2, Nat.zero_add]
    exact obj_cell hg e
set_option maxHeartbeats 1000000 in
theorem cloneI_own (b off cap : Nat) (l : List Int) (w : World) (hv : Sl encI w (.slice (some ⟨b, off, none⟩) l.length cap) l) (hl : l.length ≤ 100000000000) (hp : 0 < l.length) :
    Calls Try.prog 9 #[.slice (some ⟨b, off, none⟩) l.length cap] w fun e w' => ∃ (g c : Nat), e = .returned (.slice (some ⟨g, 0, none⟩) l.length c) ∧ w.heap.size ≤ g ∧ l.length ≤ c ∧ c ≤ maxLen ∧ Holds (encF (fun x : Int => x)) w' g 0 l.toArray ∧ Below w.heap.size w w' := by
  obtain ⟨i0, hi, hz0, hz1, hz2⟩ := info_parts infoIntF
  have enil := nilInts
  rcases hv with ⟨h0, _⟩ | ⟨b', off', cap', e, hlc, hm, hc⟩
  · subst h0; simp at hp
  cases e
  have hb : b < w.heap.size := Sl.lt (hc 0 hp)
  have hcell : ∀ W : World, Below w.heap.size w W → ∀ (j : Nat) u, (l.map encI)[j]? = some u → W.cell? ((⟨b, off, none⟩ : Addr).add j) = some u := by
    intro W hW j u hu
    have hj : j < l.length := by have := (List.getElem?_eq_some_iff.1 hu).1; simpa using this
    rw [Addr.add_lit, hW.cell (p := ⟨b, off + j, none⟩) hb, hc j hj]
    simpa [hj] using hu
  have run := fun (W : World) (hW : Below w.heap.size w W) (base : Option Addr) => run_clone_own (P := Try.prog) W 22 22 3 i0 (.int .i64 0) 1 8 Try.underlying22 hi hz0 hz1 hz2 rfl (by decide) base ⟨b, off, none⟩ l.length cap (l.map encI) (by simp) (hcell W hW) (by intro u hu; obtain ⟨x, _, rfl⟩ := List.mem_map.1 hu; rfl) (by unfold maxLen; omega) (by omega) hp
  have Run := Lib.hid run
  have key : ∀ (W : World) (hW : Below w.heap.size w W) v' w', w'.ownsRow W.heap.size 3 1 v' l.length (l.map encI) → W.grownBy w' none → (∃ (g c : Nat), v' = .slice (some ⟨g, 0, none⟩) l.length c ∧ w.heap.size ≤ g ∧ l.length ≤ c ∧ c ≤ maxLen ∧ Holds (encF (fun x : Int => x)) w' g 0 l.toArray) ∧ Below w.heap.size w w' := fun W hW v' w' h1 h2 => by
    obtain ⟨g, c, q1, q2, q3, q4, q5⟩ := owned_holds h1 hp
    exact ⟨⟨g, c, q1, Nat.le_trans hW.size q2, q3, q4, q5⟩, hW.trans ((below_grown h2).mono hW.size)⟩
  have Key := Lib.hid key
  clear run key hcell hc
  go_enter Try.func9, Try.ntmps9
  go_wp2_with (at_builtin; obtain ⟨v', w', hr, ho, hg⟩ := Run.out (w.alloc (.cells #[] 3)) ((Below.refl _ _).alloc (Nat.le_refl _) _) (some ⟨w.heap.size, 0, none⟩); refine Lib.wpList_append_run _ rfl (.tmp 5) (.tmp 6) 22 22 rfl _ _ rfl rfl _ _ hr ?_)
  go_ret
  obtain ⟨⟨g, c, rfl, q2, q3, q4, q5⟩, q6⟩ := Key.out _ ((Below.refl _ _).alloc (Nat.le_refl _) _) _ _ ho hg
  exact ⟨g, c, rfl, q2, q3, q4, q5, q6⟩
end Go.Proofs.Ytfpmekphkippdaa
