import Derived.Test.YtefhbjkhmfmkaaaDoorVoiceA
/-! maps.Copy, maps.DeleteFunc as voice calls them. -/
namespace Go.Proofs.YtefhbjkhmfmkaaaDoor
open Go.RowKit
open Go.Maps (Keyed)
set_option linter.unusedVariables false
set_option linter.unusedSimpArgs false
/-- what there is, copied over -/
def Pl.over (f g : Pl.Sco) : Pl.Sco := fun i => match f i with | some s => some s | none => g i
/-- .. under way -/
def Cpd (f g : Pl.Sco) (left : Int → Bool) (h : Pl.Sco) : Prop := ∀ j, h j = if left j = true then g j else Pl.over f g j
theorem Cpd.start (f g : Pl.Sco) : Cpd f g (fun j => (SF f j).isSome) g := fun j => by
  unfold Pl.over SF
  cases e : f j with
  | none => simp [e]
  | some s => simp [e]
theorem Cpd.step {f g h : Pl.Sco} {left : Int → Bool} (H : Cpd f g left h) {x s : Int} (hx : f x = some s) : Cpd f g (fun j => left j && !decide (j = x)) (fun j => if j = x then some s else h j) := fun j => by
  by_cases e : j = x
  · subst e; simp [Pl.over, hx]
  · simp [e]; exact H j
theorem Cpd.done {f g h : Pl.Sco} {left : Int → Bool} (H : Cpd f g left h) (hl : ∀ j, left j = false) : h = Pl.over f g := by
  funext j
  rw [H j, hl j]; rfl
def Pl.Keyok (f : Pl.Sco) : Prop := ∀ i s, f i = some s → 0 ≤ i ∧ i ≤ 200 ∧ 0 ≤ s ∧ s ≤ 16256
theorem SF.back {f : Pl.Sco} {x : Int} {v : Value} (h : SF f x = some v) : ∃ s, f x = some s ∧ v = .int .i64 s := by
  unfold SF at h
  obtain ⟨s, hs, rfl⟩ := Option.map_eq_some_iff.1 h
  exact ⟨s, hs, rfl⟩
set_option maxRecDepth 100000 in
set_option maxHeartbeats 2000000 in
theorem voiceCopy_any (bd bs cd cs : Nat) (f g : Pl.Sco) (w : World) (hd : VM w bd cd g) (hs : VM w bs cs f) (hne : bd ≠ bs) (hf : Pl.Keyok f) (hc : cd + cs ≤ 1000) :
    Calls Tryd.prog 17 #[.map (some bd), .map (some bs)] w fun e w' => e = .returned (.tuple #[]) ∧ (∃ c', c' ≤ cd + cs ∧ VM w' bd c' (Pl.over f g)) ∧ KeepsBut bd w w' := by
  have hbd := hd.lt
  have hbs := hs.lt
  have HD := Lib.hid hd
  have HF := Lib.hid hf
  clear hd hf
  go_enter Tryd.func17, Tryd.ntmps17
  go_wp2_with (first
    | (at_range; refine wpList_mrange _ rfl _ 46 rfl 3 3 vlaw Tryd.underlying46 bs cs _ rfl hs ?_; intro w0 hrg0 hg0 hs0)
    | go_in)
  go_frame
  clear hs
  have K0 := Lib.hid (show KeepsBut bd w w0 from ⟨hg0.os, hg0.tape, hg0.output, hg0.size, fun k hk _ => hg0.block k hk (by simp)⟩)
  have M0 := Lib.hid (show VM w0 bd cd g from HD.out.kept hg0 (by simp))
  have ST := Lib.hid (Cpd.start f g)
  go_loopw [4, 5] (fun _ _ wr => ∃ (left : Int → Bool) (cnt c' : Nat) (h : Pl.Sco), RangesAt Tryd.prog 3 wr bs w.heap.size cs (SF f) left cnt ∧ Hid (Cpd f g left h) ∧ c' + cnt ≤ cd + cs ∧ Hid (VM wr bd c' h) ∧ Hid (KeepsBut bd w wr))
    (fun _ _ wr => wr.rangeLeft bs w.heap.size)
  case atStart => exact ⟨_, cs, cd, g, hrg0, ST, Nat.le_refl _, M0, K0⟩
  case round =>
    clear hrg0 hg0 hs0 ST M0 K0
    obtain ⟨left, cnt, c', h, hrg, hst, hcc, MR, KR⟩ := hrel
    have HLE := Lib.hid hrg.left_eq
    go_wp2_with (first
      | (at_next; refine wpList_mnext _ rfl _ rfl 3 vlaw Tryd.underlying3 bs w.heap.size cs _ left cnt rfl hrg ?_ ?_)
      | go_in)
    · intro h0 hl0
      have e := hst.out.done hl0
      subst e
      clear hrg hst
      go_wp2
      go_end0
      exact ⟨rfl, ⟨c', by omega, MR.out⟩, KR.out⟩
    · intro x v w1 cnt1 hw hlx hfx hrg1 hlt hg1 hs1 hen
      obtain ⟨s, hs, rfl⟩ := SF.back hfx
      have hrn : w.heap.size ≠ bd := by omega
      have M1 := Lib.hid (show VM w1 bd c' h from MR.out.kept hg1 (by simp; omega))
      have K1 := Lib.hid (show KeepsBut bd w w1 from ⟨hg1.os.trans KR.out.os, hg1.tape.trans KR.out.tape, hg1.output.trans KR.out.output, Nat.le_trans KR.out.size hg1.size, fun k hk hne => (hg1.block k (Nat.lt_of_lt_of_le hk KR.out.size) (by simp; omega)).trans (KR.out.block k hk hne)⟩)
      have HST := Lib.hid (hst.out.step hs)
      have HR1 := Lib.hid hrg1
      have hm := M1.out
      clear hrg hfx hst MR KR hg1 hs1 hrg1
      go_wp2_with (at_mapUpdate; refine wpList_mput _ rfl (.tmp 13) (.tmp 14) (.tmp 15) 46 rfl 3 3 vlaw Tryd.underlying3 Tryd.underlying46 bd c' _ rfl hm (by unfold maxLen; omega) x (.int .i64 s) rfl rfl hw ?_; intro w6 hm6 hgr; have M6 := Lib.hid hm6; have G6 := Lib.hid hgr; clear hm6 hgr)
      have M7 := Lib.hid (show VM w6 bd (if (SF h x).isSome then c' else c' + 1) (fun j => if j = x then some s else h j) from by
        have a := M6.out
        rw [SF.put] at a
        exact a)
      have K7 := Lib.hid (show KeepsBut bd w w6 from ⟨G6.out.os.trans K1.out.os, G6.out.tape.trans K1.out.tape, G6.out.output.trans K1.out.output, Nat.le_trans K1.out.size G6.out.size, fun j hj hn => (G6.out.block j (Nat.lt_of_lt_of_le hj K1.out.size) (fun e => hn (by cases e; rfl))).trans (K1.out.block j hj hn)⟩)
      have R7 := Lib.hid (show RangesAt Tryd.prog 3 w6 bs w.heap.size cs (SF f) _ cnt1 from HR1.out.kept G6.out (by simp; omega) (by simp; omega))
      have HL1 := Lib.hid R7.out.left_eq
      have hcz : (if (SF h x).isSome then c' else c' + 1) + cnt1 ≤ cd + cs := by split <;> omega
      have HCZ := Lib.hid hcz
      clear M6 G6 M1 K1 HR1 hm hcz
      go_wp2_with fail
      go_roundw
      case measure => rw [HLE.out, HL1.out]; omega
      case rel => first | exact ⟨_, cnt1, _, _, R7.out, HST, HCZ.out, M7, K7⟩ | ((repeat apply Exists.intro); exact ⟨⟨_, cnt1, _, _, R7.out, HST, HCZ.out, M7, K7⟩, rfl⟩)
theorem isNought_any (x s : Int) (w : World) : Calls Tryd.prog 19 #[.int .i64 x, .int .i64 s] w fun e w' => e = .returned (.bool (s == 0)) ∧ w = w' := by
  go_enter Tryd.func19, Tryd.ntmps19
  go_wp2
  go_ret
  exact ⟨rfl, rfl⟩
/-- without nought -/
def Pl.noN (f : Pl.Sco) : Pl.Sco := fun i => if f i = some 0 then none else f i
/-- .. under way -/
def Stk (f : Pl.Sco) (left : Int → Bool) (h : Pl.Sco) : Prop := ∀ j, h j = if left j = true then f j else Pl.noN f j
theorem Stk.start (f : Pl.Sco) : Stk f (fun j => (SF f j).isSome) f := fun j => by
  unfold Pl.noN SF
  cases e : f j with
  | none => simp [e]
  | some s => simp [e]
theorem Stk.drop {f h : Pl.Sco} {left : Int → Bool} (H : Stk f left h) {x : Int} (hx : f x = some 0) : Stk f (fun j => (left j && !decide (j = x)) && !decide (j = x)) (fun j => if j = x then none else h j) := fun j => by
  by_cases e : j = x
  · subst e; simp [Pl.noN, hx]
  · simp [e]; exact H j
theorem Stk.stay {f h : Pl.Sco} {left : Int → Bool} (H : Stk f left h) {x : Int} (hl : left x = true) (hx : f x ≠ some 0) : Stk f (fun j => left j && !decide (j = x)) h := fun j => by
  by_cases e : j = x
  · subst e; simp [Pl.noN, hx]; have := H j; rw [hl] at this; simpa using this
  · simp [e]; exact H j
theorem Stk.done {f h : Pl.Sco} {left : Int → Bool} (H : Stk f left h) (hl : ∀ j, left j = false) : h = Pl.noN f := by
  funext j
  rw [H j, hl j]; rfl
theorem SF.del (f : Pl.Sco) (i : Int) : (fun j => if j = i then none else SF f j) = SF (fun j => if j = i then none else f j) := by
  funext j
  unfold SF
  by_cases e : j = i
  · simp [e]
  · simp [e]
set_option maxRecDepth 100000 in
set_option maxHeartbeats 2000000 in
theorem voiceStrike_any (b c : Nat) (f : Pl.Sco) (w : World) (h : VM w b c f) :
    Calls Tryd.prog 18 #[.map (some b), .func (.func 19) #[] #[]] w fun e w' => e = .returned (.tuple #[]) ∧ (∃ c', c' ≤ c ∧ VM w' b c' (Pl.noN f)) ∧ KeepsBut b w w' := by
  have hb := h.lt
  have NA := Lib.hid (fun x s y => isNought_any x s y)
  go_enter Tryd.func18, Tryd.ntmps18
  go_wp2_with (first
    | (at_range; refine wpList_mrange _ rfl _ 46 rfl 3 3 vlaw Tryd.underlying46 b c _ rfl h ?_; intro w0 hrg0 hg0 hs0)
    | go_in)
  go_frame
  clear h
  have K0 := Lib.hid (show KeepsBut b w w0 from ⟨hg0.os, hg0.tape, hg0.output, hg0.size, fun k hk _ => hg0.block k hk (by simp)⟩)
  have ST := Lib.hid (Stk.start f)
  go_loopw [4, 5] (fun _ _ wr => ∃ (left : Int → Bool) (cnt c' : Nat) (h : Pl.Sco), RangesAt Tryd.prog 3 wr b w.heap.size c' (SF h) left cnt ∧ Hid (Stk f left h) ∧ c' ≤ c ∧ Hid (KeepsBut b w wr))
    (fun _ _ wr => wr.rangeLeft b w.heap.size)
  case atStart => exact ⟨_, c, c, f, hrg0, ST, Nat.le_refl _, K0⟩
  case round =>
    clear hrg0 hg0 hs0 ST K0
    obtain ⟨left, cnt, c', h, hrg, hst, hcc, KR⟩ := hrel
    have HLE := Lib.hid hrg.left_eq
    go_wp2_with (first
      | (at_next; refine wpList_mnext _ rfl _ rfl 3 vlaw Tryd.underlying3 b w.heap.size c' _ left cnt rfl hrg ?_ ?_)
      | go_in)
    · intro h0 hl0
      have e := hst.out.done hl0
      subst e
      have HM := Lib.hid hrg.map
      clear hrg hst
      go_wp2
      go_end0
      exact ⟨rfl, ⟨c', hcc, HM.out⟩, KR.out⟩
    · intro x v w1 cnt1 hw hlx hfx hrg1 hlt hg1 hs1 hen
      obtain ⟨s, hs, rfl⟩ := SF.back hfx
      have hfs : f x = some s := by
        have := hst.out x
        rw [hlx] at this
        rw [← hs, this]; rfl
      have K1 := Lib.hid (show KeepsBut b w w1 from ⟨hg1.os.trans KR.out.os, hg1.tape.trans KR.out.tape, hg1.output.trans KR.out.output, Nat.le_trans KR.out.size hg1.size, fun k hk hne => (hg1.block k (Nat.lt_of_lt_of_le hk KR.out.size) (by simp; omega)).trans (KR.out.block k hk hne)⟩)
      have HFS := Lib.hid hfs
      have HR := hrg1
      clear hrg hfx KR hg1 hs1 hs hfs hrg1
      by_cases h0 : s = 0
      · subst h0
        go_upto_region 4 with (go_at_call 19; (with_reducible refine (NA.out _ _ _).mono ?_); rintro e w2 ⟨rfl, rfl⟩)
        go_wp2_with (at_delete; refine wpList_mdrop _ rfl (.tmp 17) (.tmp 18) 46 3 rfl 3 vlaw Tryd.underlying3 Tryd.underlying46 b w.heap.size c' (SF h) _ cnt1 rfl HR x rfl hw ?_; intro w3 cnt3 hrg3 hle3 hturn; have R3 := Lib.hid hrg3; have T3 := Lib.hid hturn; clear hrg3 hturn)
        have R4 := Lib.hid (show RangesAt Tryd.prog 3 w3 b w.heap.size (if (SF h x).isSome then c' - 1 else c') (SF fun j => if j = x then none else h j) _ cnt3 from by
          have a := R3.out
          rw [SF.del] at a
          exact a)
        have HL1 := Lib.hid R4.out.left_eq
        have K3 := Lib.hid (show KeepsBut b w w3 from by
          have hgr := T3.out.grown
          exact Keeps.trans K1.out ⟨hgr.os, hgr.tape, hgr.output, hgr.size, fun k hk hne => hgr.block k hk (by simpa using hne)⟩)
        have HST := Lib.hid (hst.out.drop HFS.out)
        have hcz : (if (SF h x).isSome then c' - 1 else c') ≤ c := by split <;> omega
        have HCZ := Lib.hid hcz
        clear R3 T3 HR K1 hcz
        go_wp2_with fail
        go_roundw
        case measure => rw [HLE.out, HL1.out]; omega
        case rel => first | exact ⟨_, cnt3, _, _, R4.out, HST, HCZ.out, K3⟩ | ((repeat apply Exists.intro); exact ⟨⟨_, cnt3, _, _, R4.out, HST, HCZ.out, K3⟩, rfl⟩)
      · have d1 : (s == 0) = false := by rw [beq_eq_false_iff_ne]; exact h0
        have HST := Lib.hid (hst.out.stay hlx (by rw [HFS.out]; simpa using h0))
        have HL1 := Lib.hid HR.left_eq
        have R4 := Lib.hid HR
        clear h0 HR
        go_wp2_with (go_at_call 19; (with_reducible refine (NA.out _ _ _).mono ?_); rintro e w2 ⟨rfl, rfl⟩)
        go_roundw
        case measure => rw [HLE.out, HL1.out]; omega
        case rel => exact ⟨_, cnt1, _, _, R4.out, HST, hcc, K1⟩
end Go.Proofs.YtefhbjkhmfmkaaaDoor
