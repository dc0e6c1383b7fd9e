import Derived.Test.YtefhbjkhmfmkaaaDoorVc
import Derived.Test.YtefhbjkhmfmkaaaDoorMapU
import Derived.Test.YtefhbjkhmfmkaaaDoorMapCnt
import Derived.Test.YtefhbjkhmfmkaaaDoorErrE
import Derived.Deep.DeepCutAuto
import Derived.Carry
/-! voice.New, levels; maps.Copy, maps.DeleteFunc as voice calls them. -/
namespace Go.Proofs.YtefhbjkhmfmkaaaDoor
open Go.RowKit
open Go.Maps (Keyed)
set_option linter.unusedVariables false
set_option linter.unusedSimpArgs false
/-- the world is forgotten but for S -/
theorem abs_t {P : Program} {c : Code} {Q : Exit → Act → World → Prop} {a : Act} {W : World} (S : World → Prop) (h : S W) (k : ∀ wq, S wq → c.wp P Q a wq) : c.wp P Q a W := k W h
theorem wf_of (n : Int) (h1 : -1000000 ≤ n) (h2 : n ≤ 1000000) : (Lit.int .i64 n).wf = true := by simp [Lit.wf, IntKind.min, IntKind.max, IntKind.signed, IntKind.bits]; omega
theorem vlaw : Keyed Tryd.prog 3 := Maps.int_keyed Tryd.underlying3
theorem zeroIntV (w : World) : (zeroValue 3).run Tryd.prog w = .ok (.int .i64 0) w := by kernel_rfl
/-- scores as a map holds them -/
def SF (f : Pl.Sco) : Int → Option Value := fun i => (f i).map fun x => .int .i64 x
theorem SF.put (f : Pl.Sco) (i s : Int) : (fun j => if j = i then some (.int .i64 s) else SF f j) = SF (fun j => if j = i then some s else f j) := by
  funext j
  unfold SF
  by_cases e : j = i
  · simp [e]
  · simp [e]
theorem SF.at0 (f : Pl.Sco) (i : Int) (h : f i = none) : SF f i = none := by unfold SF; rw [h]; rfl
theorem SF.at1 (f : Pl.Sco) (i s : Int) (h : f i = some s) : SF f i = some (.int .i64 s) := by unfold SF; rw [h]; rfl
abbrev VM (w : World) (b c : Nat) (f : Pl.Sco) : Prop := MapAt Tryd.prog 3 w b c (SF f)
theorem VM.cnt {w : World} {b c : Nat} {f : Pl.Sco} (h : VM w b c f) : Pl.Cnt f c := by
  obtain ⟨ks, h1, h2, h3⟩ := h.keys vlaw Tryd.underlying3
  exact ⟨ks, h1, h2, fun i => by rw [← h3 i]; unfold SF; cases f i <;> simp⟩
/-- the object -/
def VoAt (w : World) (b : Nat) (many sp : Int) (bm : Nat) : Prop := w.heap[b]? = some (.cells #[.int .i64 many, .int .i64 sp, .map (some bm)] 48 (0, 0))
theorem voiceNew_bad (n : Int) (h : ¬ (1 ≤ n ∧ n ≤ 20)) (w : World) : Calls Tryd.prog 4 #[.int .i64 n] w fun e w' => e = .returned (.tuple #[.pointer none, errV 1]) ∧ w = w' := by
  have hc : n < 1 ∨ (¬ n < 1 ∧ 20 < n) := by omega
  clear h
  rcases hc with h | ⟨h, h2⟩
  all_goals
    go_enter Tryd.func4, Tryd.ntmps4
    go_wp2
    go_ret2
    exact ⟨rfl, rfl⟩
theorem voiceNew_ok (n : Int) (h : 1 ≤ n ∧ n ≤ 20) (w : World) : Calls Tryd.prog 4 #[.int .i64 n] w fun e w' => ∃ b bm, e = .returned (.tuple #[.pointer (some ⟨b, 0, none⟩), .nilIface]) ∧ w.heap.size ≤ b ∧ w.heap.size ≤ bm ∧ b ≠ bm ∧ VoAt w' b n (-1) bm ∧ VM w' bm 0 (fun _ => none) ∧ Below w.heap.size w w' := by
  obtain ⟨h1, h2⟩ := h
  have h3 : ¬ n < 1 := by omega
  have h4 : ¬ 20 < n := by omega
  have HM := Lib.hid (show VM (w.alloc (.map #[] 0)) w.heap.size 0 (fun _ => none) from by
    have := MapAt.made Tryd.prog 3 w
    unfold VM
    rw [show SF (fun _ => none) = fun _ => none from rfl]
    exact this)
  have k0 : ∀ o, Below (w.alloc (.map #[] 0)).heap.size (w.alloc (.map #[] 0)) ((w.alloc (.map #[] 0)).alloc o) := fun o => (Below.refl _ _).alloc (Nat.le_refl _) o
  have K0 := Lib.hid k0
  clear k0
  have hmm := @run_makeMap Tryd.prog
  go_enter Tryd.func4, Tryd.ntmps4
  go_wp2
  go_ret2
  refine ⟨w.heap.size + 1, rfl, Nat.le_succ _, w.heap.size, Nat.le_refl _, Nat.succ_ne_self _, ?_, MapAt.below HM.out (K0.out _) HM.out.lt, ((Below.refl _ _).alloc (Nat.le_refl _) _).alloc (by simp) _⟩
  unfold VoAt
  rw [show w.heap.size + 1 = (w.alloc (.map #[] 0)).heap.size by simp]
  exact obj_new _ _
set_option maxRecDepth 100000 in
set_option maxHeartbeats 2000000 in
theorem levels_any (v : Value) (L : List Vc) (w : World) (h : IsVs w v L) :
    Calls Tryd.prog 16 #[v] w fun e w' => ∃ (f : Int) (mv : Value), e = .returned (.tuple #[mv, errV f]) ∧ Pl.LevF L f ∧ (f = 0 → ∃ b c, mv = .map (some b) ∧ VM w' b c (Pl.lvAt L) ∧ w.heap.size ≤ b ∧ c ≤ 200) ∧ Below w.heap.size w w' := by
  obtain ⟨oa, cp, rfl, hlc, hcm, -, -⟩ := vs_read h
  have HL := Lib.hid (show IsVs w (.slice oa L.length cp) L from h)
  unfold maxLen at hcm
  clear h
  by_cases hl : 200 < L.length
  · have HF := Lib.hid (show Pl.LevF L 4 by unfold Pl.LevF; rw [if_pos hl])
    go_enter Tryd.func16, Tryd.ntmps16
    go_wp2_with fail
    go_ret2
    exact ⟨4, _, rfl, HF.out, (fun e => by cases e), Below.refl _ _⟩
  have HG := Lib.hid (show (∀ k (h : k < L.length), Pl.vcFault L k L[k] = 0) → Pl.LevF L 0 from fun h => by unfold Pl.LevF; rw [if_neg hl]; exact .inl ⟨rfl, h⟩)
  have HB := Lib.hid (show ∀ f : Int, f ≠ 0 → ∀ k (h : k < L.length), Pl.vcFault L k L[k] = f → (∀ j (hj : j < k), Pl.vcFault L j (L[j]'(Nat.lt_trans hj h)) = 0) → Pl.LevF L f from fun f hf k h h1 h2 => by unfold Pl.LevF; rw [if_neg hl]; exact .inr ⟨hf, k, h, h1, h2⟩)
  have hl2 : L.length ≤ 200 := by omega
  clear hl
  have hmm := @run_makeMap Tryd.prog
  go_enter Tryd.func16, Tryd.ntmps16
  go_upto_region 4 with fail
  clear hmm
  have M0 := Lib.hid (show VM (w.alloc (.map #[] 0)) w.heap.size 0 (Pl.lvAt (L.take 0)) from by
    have := MapAt.made Tryd.prog 3 w
    unfold VM
    rw [show SF (Pl.lvAt (L.take 0)) = fun _ => none from rfl]
    exact this)
  obtain ⟨bm, hbm⟩ : ∃ bm, w.heap.size = bm := ⟨_, rfl⟩
  refine abs_t (fun y => Hid (VM y w.heap.size 0 (Pl.lvAt (L.take 0))) ∧ Hid (Below w.heap.size w y)) ⟨M0, Lib.hid ((Below.refl _ _).alloc (Nat.le_refl _) _)⟩ ?_
  have HBM := Lib.hid hbm
  rw [hbm] at M0 ⊢
  clear hbm M0
  rintro y ⟨M0, K0⟩
  go_upto_region 5 with fail
  go_loopw [16] (fun s16 wr => ∃ i c : Nat, i ≤ L.length ∧ s16 = .int .i64 i ∧ c ≤ i ∧ Hid (∀ j (hj : j < L.length), j < i → Pl.vcFault L j L[j] = 0) ∧ Hid (VM wr bm c (Pl.lvAt (L.take i))) ∧ Hid (Below bm w wr)) (fun s16 _ => L.length - (intOf s16).toNat)
  case atStart => exact ⟨0, 0, by omega, rfl, by omega, Lib.hid (fun j _ h => by omega), M0, K0⟩
  case round =>
    clear M0 K0
    obtain ⟨i, c, hi, rfl, hci, HN, MR, KB⟩ := hrel
    by_cases hlt : i < L.length
    · obtain ⟨_, _, e, -, -, -, rd⟩ := vs_read (HL.out.below (KB.out.mono (by rw [HBM.out]; exact Nat.le_refl _)))
      cases e
      obtain ⟨g, f, rfl, hg, q0, q1, nn⟩ := rd i hlt
      have HX := Lib.hid (show ∀ f, Pl.vcFault L i ⟨L[i].who, L[i].lvl⟩ = f → Pl.vcFault L i L[i] = f from fun f h => h)
      have MM := Lib.hid (show Pl.lvAt (L.take i) L[i].who = none → Pl.lvAt (L.take (i + 1)) = fun j => if j = L[i].who then some L[i].lvl else Pl.lvAt (L.take i) j from fun h => by
        rw [List.take_add_one, List.getElem?_eq_getElem hlt]
        exact Pl.lvAt_more _ _ h)
      clear rd nn
      generalize L[i].who = xn at *
      generalize L[i].lvl = xv at *
      go_upto_region 7 with fail
      obtain ⟨B, hBz⟩ : ∃ B, wr.heap.size = B := ⟨_, rfl⟩
      have hbl := MR.out.lt
      have k1 : Below wr.heap.size wr (wr.alloc (.cells #[.int .i64 xn, .int .i64 xv] 38)) := (Below.refl _ _).alloc (Nat.le_refl _) _
      refine abs_t (fun y => Hid (VcIn y wr.heap.size xn xv) ∧ Hid (VM y bm c (Pl.lvAt (L.take i))) ∧ Hid (Below bm w y) ∧ Hid (wr.heap.size ≠ bm)) ⟨Lib.hid (obj_new _ _), Lib.hid (MapAt.below MR.out k1 hbl), Lib.hid (KB.out.alloc (by have := HBM.out; omega) _), Lib.hid (by omega)⟩ ?_
      rw [hBz]
      clear q0 q1 KB hBz MR k1 hbl
      rintro y ⟨PB, MR, KB, NE⟩
      obtain ⟨q0, q1⟩ := VcIn.cells PB.out
      have HOK := Lib.hid (Pl.vcOk_iff ⟨xn, xv⟩)
      by_cases hok : 0 ≤ xn ∧ xn ≤ 200 ∧ 0 ≤ xv ∧ xv ≤ 127
      case neg =>
        have HF := Lib.hid (HB.out 1 (by decide) i hlt (HX.out 1 (by
          unfold Pl.vcFault
          rw [if_neg (fun h => hok (HOK.out.1 h))])) (fun j hj => HN.out j (by omega) hj))
        have hcase : xn < 0 ∨ (0 ≤ xn ∧ 200 < xn) ∨ (0 ≤ xn ∧ xn ≤ 200 ∧ xv < 0) ∨ (0 ≤ xn ∧ xn ≤ 200 ∧ 0 ≤ xv ∧ 127 < xv) := by omega
        have KF := Lib.hid (show Below w.heap.size w y from by rw [HBM.out]; exact KB.out)
        clear HOK hok
        rcases hcase with h1 | ⟨h1, h2⟩ | ⟨h1, h2, h3⟩ | ⟨h1, h2, h3, h4⟩
        all_goals
          go_wp2_with fail
          go_ret2
          exact ⟨1, _, rfl, HF.out, (fun e => by cases e), KF.out⟩
      have HK := Lib.hid (HOK.out.2 hok)
      obtain ⟨h1, h2, h3, h4⟩ := hok
      clear HOK
      have hw : (Lit.int .i64 xn).wf = true := wf_of xn (by omega) (by omega)
      obtain ⟨ex, hex⟩ : ∃ ex, Pl.lvAt (L.take i) xn = ex := ⟨_, rfl⟩
      have HEX := Lib.hid hex
      have hm := MR.out
      cases ex with
      | some q =>
        have HS := Lib.hid (SF.at1 _ _ _ hex)
        have HF := Lib.hid (HB.out 7 (by decide) i hlt (HX.out 7 (by
          unfold Pl.vcFault
          rw [if_pos HK.out, if_pos (by rw [HEX.out]; rfl)])) (fun j hj => HN.out j (by omega) hj))
        have KF := Lib.hid (show Below w.heap.size w y from by rw [HBM.out]; exact KB.out)
        clear hex
        go_wp2_with (at_lookup; refine wpList_mlook _ rfl (.tmp 40) (.tmp 42) 46 rfl 3 3 vlaw Tryd.underlying3 Tryd.underlying46 (zeroIntV _) bm c _ rfl hm xn rfl hw ?_; rw [HS.out]; simp only [Option.getD_some, Option.isSome_some])
        go_ret2
        exact ⟨7, _, rfl, HF.out, (fun e => by cases e), KF.out⟩
      | none =>
        have HS := Lib.hid (SF.at0 _ _ hex)
        have HF := Lib.hid (HX.out 0 (by
          unfold Pl.vcFault
          rw [if_pos HK.out, if_neg (by rw [HEX.out]; simp)]))
        have MM2 := Lib.hid (MM.out hex)
        clear hex MM
        go_upto_region 12 with (at_lookup; refine wpList_mlook _ rfl (.tmp 40) (.tmp 42) 46 rfl 3 3 vlaw Tryd.underlying3 Tryd.underlying46 (zeroIntV _) bm c _ rfl hm xn rfl hw ?_; rw [HS.out]; simp only [Option.getD_none, Option.isSome_none])
        go_wp2_with (at_mapUpdate; refine wpList_mput _ rfl (.tmp 48) (.tmp 50) (.tmp 52) 46 rfl 3 3 vlaw Tryd.underlying3 Tryd.underlying46 bm c _ rfl hm (by unfold maxLen; omega) xn (.int .i64 xv) rfl rfl hw ?_; intro w6 hm6 hgr; have M6 := Lib.hid hm6; have G6 := Lib.hid hgr; clear hm6 hgr)
        have M7 := Lib.hid (show VM w6 bm (c + 1) (Pl.lvAt (L.take (i + 1))) from by
          have a := M6.out
          rw [HS.out, SF.put, ← MM2.out] at a
          exact a)
        have K7 := Lib.hid (show Below bm w w6 from ⟨G6.out.os.trans KB.out.os, G6.out.tape.trans KB.out.tape, G6.out.output.trans KB.out.output, Nat.le_trans KB.out.size G6.out.size, fun j hj => (G6.out.block j (by have := KB.out.size; have := HBM.out; omega) (fun e => by cases e; omega)).trans (KB.out.block j hj)⟩)
        clear M6 G6
        go_wp2_with fail
        go_roundw
        case measure => simp [intOf]; omega
        case rel => exact ⟨i + 1, c + 1, by omega, by go_num, by omega, Lib.hid (fun j hj hj1 => by
            by_cases e : j = i
            · subst e; exact HF.out
            · exact HN.out j hj (by omega)), M7, K7⟩
    · obtain rfl : i = L.length := by omega
      have MF := Lib.hid (show VM wr bm c (Pl.lvAt L) from by have := MR.out; rw [List.take_length] at this; exact this)
      have KF := Lib.hid (show Below w.heap.size w wr from by rw [HBM.out]; exact KB.out)
      have HF := Lib.hid (HG.out (fun k hk => HN.out k hk hk))
      go_wp2_with fail
      go_ret2
      exact ⟨0, _, rfl, HF.out, fun _ => ⟨bm, c, rfl, MF.out, by rw [HBM.out]; exact Nat.le_refl _, by omega⟩, KF.out⟩
end Go.Proofs.YtefhbjkhmfmkaaaDoor
