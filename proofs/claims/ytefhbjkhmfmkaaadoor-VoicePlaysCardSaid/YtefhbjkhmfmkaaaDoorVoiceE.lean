import Derived.Test.YtefhbjkhmfmkaaaDoorVoiceB
import Derived.Test.YtefhbjkhmfmkaaaDoorVoiceD
/-! voice.Hear. -/
namespace Go.Proofs.YtefhbjkhmfmkaaaDoor
open Go.RowKit
open Go.Maps (Keyed)
set_option linter.unusedVariables false
set_option linter.unusedSimpArgs false
/-- the object and its scores -/
structure Voi (w : World) (b : Nat) (many sp : Int) (bm c : Nat) (f : Pl.Sco) : Prop where
  at_ : VoAt w b many sp bm
  map : VM w bm c f
  ok : Pl.Sok f
  cnt : c ≤ 200
  ne : bm ≠ b
  sp_ : -1 ≤ sp ∧ sp ≤ 200
theorem Voi.below {w y : World} {b bm c : Nat} {many sp : Int} {f : Pl.Sco} (h : Voi w b many sp bm c f) (k : Below w.heap.size w y) : Voi y b many sp bm c f :=
  ⟨Below.heapAt k h.at_ (lt_of_block h.at_), MapAt.below h.map k h.map.lt, h.ok, h.cnt, h.ne, h.sp_⟩
/-- noughts, under way -/
def Zrd (g : Pl.Sco) (left : Int → Bool) (h : Pl.Sco) : Prop := ∀ j, h j = if left j = true then none else (g j).map fun _ => 0
theorem Zrd.start (g : Pl.Sco) : Zrd g (fun j => (SF g j).isSome) (fun _ => none) := fun j => by
  unfold SF
  cases e : g j with
  | none => simp [e]
  | some s => simp [e]
theorem Zrd.step {g h : Pl.Sco} {left : Int → Bool} (H : Zrd g left h) {x s : Int} (hx : g x = some s) : Zrd g (fun j => left j && !decide (j = x)) (fun j => if j = x then some 0 else h j) := fun j => by
  by_cases e : j = x
  · subst e; simp [hx]
  · simp [e]; exact H j
theorem Zrd.done {g h : Pl.Sco} {left : Int → Bool} (H : Zrd g left h) (hl : ∀ j, left j = false) : h = fun j => (g j).map fun _ => 0 := by
  funext j
  rw [H j, hl j]; rfl
/-- a round on, under way -/
def Upd (f0 f1 : Pl.Sco) (left : Int → Bool) (h : Pl.Sco) : Prop := ∀ j, h j = if left j = true then f0 j else f1 j
theorem Upd.start (f g : Pl.Sco) : Upd (Pl.sc0 f g) (Pl.sc1 f g) (fun j => (SF (Pl.sc0 f g) j).isSome) (Pl.sc0 f g) := fun j => by
  unfold SF
  cases e : Pl.sc0 f g j with
  | none => simp [e, Pl.sc1]
  | some s => simp [e]
theorem Upd.step {f0 f1 h : Pl.Sco} {left : Int → Bool} (H : Upd f0 f1 left h) {x s : Int} (hx : f1 x = some s) : Upd f0 f1 (fun j => left j && !decide (j = x)) (fun j => if j = x then some s else h j) := fun j => by
  by_cases e : j = x
  · subst e; simp [hx]
  · simp [e]; exact H j
theorem Upd.done {f0 f1 h : Pl.Sco} {left : Int → Bool} (H : Upd f0 f1 left h) (hl : ∀ j, left j = false) : h = f1 := by
  funext j
  rw [H j, hl j]; rfl
theorem Pl.LevF.gok {L : List Vc} (h : Pl.LevF L 0) : Pl.Gok (Pl.lvAt L) := fun i s hs => h.lv hs
set_option maxRecDepth 100000 in
set_option maxHeartbeats 2000000 in
theorem voiceHear_1 (b bm c : Nat) (many sp : Int) (f : Pl.Sco) (v : Value) (L : List Vc) (w : World) (hV : Voi w b many sp bm c f) (hL : IsVs w v L) :
    Calls Tryd.prog 6 #[.pointer (some ⟨b, 0, none⟩), v] w fun e w' => ∃ fe : Int, e = .returned (errV fe) ∧ KeepsBut b w w' ∧
      ((fe ≠ 0 ∧ (Pl.LevF L fe ∨ (Pl.LevF L 0 ∧ fe = 4 ∧ ∃ c2, 200 < c2 ∧ Pl.Cnt (Pl.sc2 f (Pl.lvAt L)) c2)) ∧ Below w.heap.size w w') ∨
       (Pl.LevF L 0 ∧ fe = 0 ∧ ∃ bm' c2 R, Pl.SortedOf (Pl.sc2 f (Pl.lvAt L)) R ∧ Voi w' b many (Pl.nextSp (Pl.sc2 f (Pl.lvAt L)) R sp) bm' c2 (Pl.sc2 f (Pl.lvAt L)))) := by
  have LV := Lib.hid (levels_any v L w hL)
  have HV := Lib.hid hV
  have hbl := lt_of_block hV.at_
  have hml := hV.map.lt
  clear hV hL
  have hmm := @run_makeMap Tryd.prog
  have HMM := Lib.hid hmm
  clear hmm
  go_enter Tryd.func6, Tryd.ntmps6
  go_upto_region 2 with (go_at_call 16; (with_reducible refine LV.out.mono ?_); rintro r z1 ⟨f1, mv, rfl, hf, hm, k⟩; have HF := Lib.hid hf; have HM := Lib.hid hm; have K1 := Lib.hid k; clear hf hm k)
  clear LV
  by_cases h0 : f1 = 0
  case neg =>
    have H0 := Lib.hid h0
    rw [errV_hit f1 h0]
    clear h0
    go_wp2_with fail
    go_ret
    exact ⟨f1, by rw [errV_hit f1 H0.out]; rfl, Below.toKeeps K1.out (Nat.le_refl _), .inl ⟨H0.out, .inl HF.out, K1.out⟩⟩
  subst h0
  rw [errV_nil]
  obtain ⟨bg, cg, rfl, hmg, hbg, hcg⟩ := HM.out rfl
  have MG := Lib.hid hmg
  have GOK := Lib.hid HF.out.gok
  clear hmg HM
  generalize hg : Pl.lvAt L = g at *
  have HGE := Lib.hid hg
  clear hg
  have hmm := HMM.out
  go_upto_region 5 with fail
  clear hmm HMM
  have M0 := Lib.hid (show VM (z1.alloc (.map #[] 0)) z1.heap.size 0 (fun _ => none) from by
    have := MapAt.made Tryd.prog 3 z1
    unfold VM
    rw [show SF (fun _ => none) = fun _ => none from rfl]
    exact this)
  have k2 : Below z1.heap.size z1 (z1.alloc (.map #[] 0)) := (Below.refl _ _).alloc (Nat.le_refl _) _
  have hgl := MG.out.lt
  obtain ⟨bn, hbn⟩ : ∃ bn, z1.heap.size = bn := ⟨_, rfl⟩
  have BN := Lib.hid (show w.heap.size ≤ bn ∧ bg < bn from by have := K1.out.size; omega)
  refine abs_t (fun y => Hid (VM y z1.heap.size 0 (fun _ => none)) ∧ Hid (VM y bg cg g) ∧ Hid (Below w.heap.size w y) ∧ Hid (z1.heap.size < y.heap.size)) ⟨M0, Lib.hid (MapAt.below MG.out k2 hgl), Lib.hid (K1.out.alloc K1.out.size _), Lib.hid (by simp)⟩ ?_
  rw [hbn]
  clear M0 k2 hgl hbn MG K1
  rintro y ⟨M0, MG, KY, ZY⟩
  have hm := MG.out
  go_wp2_with (first
    | (at_range; refine wpList_mrange _ rfl _ 46 rfl 3 3 vlaw Tryd.underlying46 bg cg _ rfl hm ?_; intro w0 hrg0 hg0 hs0)
    | go_in)
  go_frame
  clear hm
  obtain ⟨r1, hr1⟩ : ∃ r, y.heap.size = r := ⟨_, rfl⟩
  rw [hr1] at hrg0 hs0
  have R1 := Lib.hid (show bn < r1 from by have := ZY.out; omega)
  have K0 := Lib.hid (show Below w.heap.size w w0 from ⟨hg0.os.trans KY.out.os, hg0.tape.trans KY.out.tape, hg0.output.trans KY.out.output, Nat.le_trans KY.out.size hg0.size, fun k hk => (hg0.block k (Nat.lt_of_lt_of_le hk KY.out.size) (by simp)).trans (KY.out.block k hk)⟩)
  have N0 := Lib.hid (show VM w0 bn 0 (fun _ => none) from M0.out.kept hg0 (by simp))
  have ST := Lib.hid (Zrd.start g)
  clear M0 MG KY ZY
  rw [hr1]
  clear hr1 hg0 hs0
  go_loopw [8] (fun _ wr => ∃ (left : Int → Bool) (cnt c' : Nat) (h : Pl.Sco), RangesAt Tryd.prog 3 wr bg r1 cg (SF g) left cnt ∧ Hid (Zrd g left h) ∧ c' + cnt ≤ cg ∧ Hid (VM wr bn c' h) ∧ Hid (Below w.heap.size w wr))
    (fun _ wr => wr.rangeLeft bg r1)
  case atStart => exact ⟨_, cg, 0, _, hrg0, ST, by omega, N0, K0⟩
  case round =>
    clear hrg0 ST N0 K0
    obtain ⟨left, cnt, c', h, hrg, hst, hcc, MR, KR⟩ := hrel
    have HLE := Lib.hid hrg.left_eq
    go_wp2_with (first
      | (at_next; refine wpList_mnext _ rfl _ rfl 3 vlaw Tryd.underlying3 bg r1 cg _ left cnt rfl hrg ?_ ?_)
      | go_in)
    · intro h0 hl0
      have e := hst.out.done hl0
      subst e
      have MG := Lib.hid hrg.map
      clear hrg hst HLE
      have V2 := Lib.hid (HV.out.below KR.out)
      have c2c : wr.cell? ⟨b, 2, none⟩ = some (.map (some bm)) := obj_cell V2.out.at_ rfl
      have CP := Lib.hid (voiceCopy_any bn bm c' c f (fun j => (g j).map fun _ => 0) wr MR.out V2.out.map (by have := BN.out; omega) (fun i s hs => by have := V2.out.ok i s hs; omega) (by have := V2.out.cnt; omega))
      go_upto_region 10 with (go_at_call 17; (with_reducible refine CP.out.mono ?_); rintro r z2 ⟨rfl, ⟨c2, hc2, hm2⟩, k⟩; have M2 := Lib.hid (show VM z2 bn c2 (Pl.sc0 f g) from hm2); have KK := Lib.hid k; clear hm2 k)
      have MG2 := Lib.hid (show VM z2 bg cg g from MG.out.block (KK.out.block bg MG.out.lt (fun e => by have := BN.out; omega)))
      have K2 := Lib.hid (show Below w.heap.size w z2 from KR.out.trans (KK.out.below KR.out.size BN.out.1))
      have hc4 : c2 ≤ 400 := by have := V2.out.cnt; omega
      clear CP c2c V2 MR KR MG KK h0 hl0 hcc hc2
      have hm := M2.out
      go_wp2_with (first
        | (at_range; refine wpList_mrange _ rfl _ 46 rfl 3 3 vlaw Tryd.underlying46 bn c2 _ rfl hm ?_; intro w0 hrg0 hg0 hs0)
        | go_in)
      go_frame
      clear hm
      have ZZ := Lib.hid (show bn < z2.heap.size from M2.out.lt)
      obtain ⟨r2, hr2⟩ : ∃ r, z2.heap.size = r := ⟨_, rfl⟩
      have R2 := Lib.hid (show bn < r2 ∧ bg < r2 from by have := ZZ.out; have := BN.out; omega)
      have K0 := Lib.hid (show Below w.heap.size w w0 from ⟨hg0.os.trans K2.out.os, hg0.tape.trans K2.out.tape, hg0.output.trans K2.out.output, Nat.le_trans K2.out.size hg0.size, fun k hk => (hg0.block k (Nat.lt_of_lt_of_le hk K2.out.size) (by simp)).trans (K2.out.block k hk)⟩)
      have G0 := Lib.hid (show VM w0 bg cg g from MG2.out.kept hg0 (by simp))
      have ST := Lib.hid (Upd.start f g)
      have SB := Lib.hid (fun i s (h : Pl.sc0 f g i = some s) => Pl.sc0_bd HV.out.ok GOK.out h)
      have GB := Lib.hid (fun i => (show 0 ≤ (g i).getD 0 ∧ (g i).getD 0 ≤ 127 from by
        cases e : g i with
        | none => simp
        | some l => have := GOK.out i l e; simp; omega))
      rw [hr2] at hrg0 ⊢
      clear hr2 hg0 hs0 M2 MG2 K2 ZZ
      go_loopw [9, 10] (fun _ _ wr => ∃ (left : Int → Bool) (cnt : Nat) (h : Pl.Sco), RangesAt Tryd.prog 3 wr bn r2 c2 (SF h) left cnt ∧ Hid (Upd (Pl.sc0 f g) (Pl.sc1 f g) left h) ∧ Hid (VM wr bg cg g) ∧ Hid (Below w.heap.size w wr))
        (fun _ _ wr => wr.rangeLeft bn r2)
      case atStart => exact ⟨_, c2, _, hrg0, ST, G0, K0⟩
      case round =>
        clear hrg0 ST G0 K0
        obtain ⟨left, cnt, h, hrg, hst, MG, KR⟩ := hrel
        have HLE := Lib.hid hrg.left_eq
        go_wp2_with (first
          | (at_next; refine wpList_mnext _ rfl _ rfl 3 vlaw Tryd.underlying3 bn r2 c2 _ left cnt rfl hrg ?_ ?_)
          | go_in)
        · intro h0 hl0
          have e := hst.out.done hl0
          subst e
          have M3 := Lib.hid hrg.map
          clear hrg hst HLE MG SB GB
          have SK := Lib.hid (voiceStrike_any bn c2 (Pl.sc1 f g) wr M3.out)
          have S2 := Lib.hid (Pl.sc2_ok HV.out.ok GOK.out)
          go_upto_region 15 with (go_at_call 18; (with_reducible refine SK.out.mono ?_); rintro r z3 ⟨rfl, ⟨c3, hc3, hm3⟩, k⟩; have M4 := Lib.hid (show VM z3 bn c3 (Pl.sc2 f g) from hm3); have KK := Lib.hid k; clear hm3 k)
          have K4 := Lib.hid (show Below w.heap.size w z3 from KR.out.trans (KK.out.below KR.out.size BN.out.1))
          clear SK M3 KR KK
          generalize hf2 : Pl.sc2 f g = f2 at *
          have HF2 := Lib.hid hf2
          clear hf2
          have hm := M4.out
          by_cases hbig : 200 < c3
          · have CN := Lib.hid (show 200 < c3 ∧ Pl.Cnt (Pl.sc2 f (Pl.lvAt L)) c3 from ⟨hbig, by rw [HGE.out, HF2.out]; exact M4.out.cnt⟩)
            have hb' : (200 : Int) < (c3 : Int) := by omega
            go_wp2_with (at_len; refine wpList_mlen _ rfl _ 46 rfl 3 3 Tryd.underlying46 bn c3 _ rfl hm ?_)
            go_ret
            exact ⟨4, rfl, Below.toKeeps K4.out (Nat.le_refl _), .inl ⟨by decide, .inr ⟨HF.out, rfl, c3, CN.out⟩, K4.out⟩⟩
          have hc3' : c3 ≤ 200 := by omega
          have hb' : ¬ (200 : Int) < (c3 : Int) := by omega
          clear hc3 hbig
          have hc3 := hc3'
          go_upto_region 17 with (at_len; refine wpList_mlen _ rfl _ 46 rfl 3 3 Tryd.underlying46 bn c3 _ rfl hm ?_)
          clear hm hb' hc3'
          have V4 := Lib.hid (HV.out.below K4.out)
          have e2 := obj_cell V4.out.at_ (k := 2) rfl
          have fr2 := obj_free V4.out.at_ 2
          have PV := Lib.hid (show VoAt (z3.setCell ⟨b, 2, none⟩ (.map (some bn))) b many sp bn from obj_set V4.out.at_ 2 _)
          have PM := Lib.hid (show VM (z3.setCell ⟨b, 2, none⟩ (.map (some bn))) bn c3 f2 from M4.out.block ((KeepsBut.set (KeepsBut.refl b z3) _ _).block bn M4.out.lt (by have := BN.out; omega)))
          have PK := Lib.hid (show KeepsBut b w (z3.setCell ⟨b, 2, none⟩ (.map (some bn))) from KeepsBut.set (Below.toKeeps K4.out (Nat.le_refl _)) _ _)
          have hsp := V4.out.sp_
          go_upto_region 18 with fail
          refine abs_t (fun y => Hid (VoAt y b many sp bn) ∧ Hid (VM y bn c3 f2) ∧ Hid (KeepsBut b w y)) ⟨PV, PM, PK⟩ ?_
          clear e2 fr2 PV PM PK V4 M4 K4
          rintro y4 ⟨PV, PM, PK⟩
          have e1 := obj_cell PV.out (k := 1) rfl
          have hm := PM.out
          obtain ⟨hsp1, hsp2⟩ := hsp
          have hw := wf_of sp (by omega) (by omega)
          cases hs : f2 sp with
          | none =>
            have HSP := Lib.hid hs
            have HS := Lib.hid (SF.at0 _ _ hs)
            clear hs
            have fr1 := obj_free PV.out 1
            have PVm := Lib.hid (show VoAt (y4.setCell ⟨b, 1, none⟩ (.int .i64 (-1))) b many (-1) bn from obj_set PV.out 1 _)
            have PMm := Lib.hid (show VM (y4.setCell ⟨b, 1, none⟩ (.int .i64 (-1))) bn c3 f2 from PM.out.block ((KeepsBut.set (KeepsBut.refl b y4) _ _).block bn PM.out.lt (by have := BN.out; omega)))
            have PKm := Lib.hid (show KeepsBut b w (y4.setCell ⟨b, 1, none⟩ (.int .i64 (-1))) from KeepsBut.set PK.out _ _)
            go_upto_region 21 with (at_lookup; refine wpList_mlook _ rfl (.tmp 67) (.tmp 71) 46 rfl 3 3 vlaw Tryd.underlying3 Tryd.underlying46 (zeroIntV _) bn c3 _ rfl hm sp rfl hw ?_; rw [HS.out]; simp only [Option.getD_none, Option.isSome_none])
            refine abs_t (fun y => Hid (VoAt y b many (-1) bn) ∧ Hid (VM y bn c3 f2) ∧ Hid (KeepsBut b w y)) ⟨PVm, PMm, PKm⟩ ?_
            clear e1 fr1 hm PVm PMm PKm PV PM PK
            rintro y5 ⟨PV, PM, PK⟩
            have SR := Lib.hid (sorted_any b bn c3 many (-1) f2 y5 PV.out PM.out (by omega))
            go_upto_region 22 with (go_at_call 20; (with_reducible refine SR.out.mono ?_); rintro r y6 ⟨v13, R, rfl, hso, hRl, hro, k⟩; have SO := Lib.hid hso; have RO := Lib.hid hro; have PV6 := Lib.hid (show VoAt y6 b many (-1) bn from Below.heapAt k PV.out (lt_of_block PV.out)); have PM6 := Lib.hid (show VM y6 bn c3 f2 from MapAt.below PM.out k PM.out.lt); have PK6 := Lib.hid (show KeepsBut b w y6 from Keeps.trans PK.out (Below.toKeeps k (Nat.le_refl _))); clear hso hro k)
            clear SR PV PM PK
            have RV := Lib.hid (vcK_vs RO.out (fun x hx => by
              have := S2.out x.who x.lvl ((SO.out.2 x.who x.lvl).1 hx)
              exact ⟨⟨by omega, by omega⟩, by omega, by omega⟩))
            obtain ⟨o13, c13, rfl, hl13, hm13, -, rd⟩ := vs_read RV.out
            unfold maxLen at hm13
            by_cases hR : R.length = 0
            · have hRn : R = [] := List.length_eq_zero_iff.1 hR
              have hlen : ¬ (0 : Int) < (R.length : Int) := by omega
              have NX := Lib.hid (show Pl.nextSp f2 R sp = (-1) from by rw [hRn]; unfold Pl.nextSp; rw [HSP.out]; rfl)
              clear rd hR hRn
              go_wp2_with fail
              go_ret
              refine ⟨0, rfl, PK6.out, .inr ⟨HF.out, rfl, bn, c3, R, ?_⟩⟩; rw [HGE.out, HF2.out]; exact ⟨SO.out, by rw [NX.out]; exact ⟨PV6.out, PM6.out, S2.out, hc3, by have := BN.out; omega, by omega⟩⟩
            · have hlen : (0 : Int) < (R.length : Int) := by omega
              obtain ⟨g13, f13, rfl, -, q0, q1, -⟩ := rd 0 (by omega)
              obtain ⟨b0, hb0⟩ : ∃ x, R[0]'(by omega) = x := ⟨_, rfl⟩
              have HR0 := Lib.hid (show b0 ∈ R from by rw [← hb0]; exact List.getElem_mem _)
              have HRc := Lib.hid (show ∃ rest, R = b0 :: rest from by
                cases R with
                | nil => simp at hR
                | cons z r => exact ⟨r, by rw [← hb0]; rfl⟩)
              have HB0 := Lib.hid (S2.out b0.who b0.lvl ((SO.out.2 b0.who b0.lvl).1 HR0.out))
              rw [hb0] at q0 q1
              simp only [Nat.zero_mul, Nat.add_zero] at q0 q1
              have hcap : 1 ≤ c13 := by omega
              clear rd hb0
              obtain ⟨bw, hbw⟩ : ∃ x, b0.who = x := ⟨_, rfl⟩
              obtain ⟨bl, hbl2⟩ : ∃ x, b0.lvl = x := ⟨_, rfl⟩
              rw [hbw] at q0 HB0
              rw [hbl2] at q1 HB0
              have HBW := Lib.hid hbw
              have HBL := Lib.hid hbl2
              clear hbw hbl2 hR
              have HBB := HB0.out
              obtain ⟨hb1, hb2, hb3, hb4⟩ := HBB
              have f1' := obj_free PV6.out 1
              have e1' := obj_cell PV6.out (k := 1) rfl
              have PVs := Lib.hid (show VoAt (y6.setCell ⟨b, 1, none⟩ (.int .i64 bw)) b many bw bn from obj_set PV6.out 1 _)
              have PMs := Lib.hid (show VM (y6.setCell ⟨b, 1, none⟩ (.int .i64 bw)) bn c3 f2 from PM6.out.block ((KeepsBut.set (KeepsBut.refl b y6) _ _).block bn PM6.out.lt (by have := BN.out; omega)))
              have PKs := Lib.hid (show KeepsBut b w (y6.setCell ⟨b, 1, none⟩ (.int .i64 bw)) from KeepsBut.set PK6.out _ _)
              have NX := Lib.hid (show Pl.nextSp f2 R sp = bw from by obtain ⟨rest, e⟩ := HRc.out; rw [e]; unfold Pl.nextSp; rw [HSP.out]; exact HBW.out)
              go_wp2_with fail
              go_ret
              refine ⟨0, rfl, PKs.out, .inr ⟨HF.out, rfl, bn, c3, R, ?_⟩⟩; rw [HGE.out, HF2.out]; exact ⟨SO.out, by rw [NX.out]; exact ⟨PVs.out, PMs.out, S2.out, hc3, by have := BN.out; omega, by omega⟩⟩
          | some s =>
            have HSP := Lib.hid hs
            have HS := Lib.hid (SF.at1 _ _ _ hs)
            have hsb := S2.out sp s hs
            obtain ⟨hsb1, hsb2, hsb3, hsb4⟩ := hsb
            clear hs
            go_upto_region 21 with (at_lookup; refine wpList_mlook _ rfl (.tmp 67) (.tmp 71) 46 rfl 3 3 vlaw Tryd.underlying3 Tryd.underlying46 (zeroIntV _) bn c3 _ rfl hm sp rfl hw ?_; rw [HS.out]; simp only [Option.getD_some, Option.isSome_some])
            refine abs_t (fun y => Hid (VoAt y b many sp bn) ∧ Hid (VM y bn c3 f2) ∧ Hid (KeepsBut b w y)) ⟨PV, PM, PK⟩ ?_
            clear e1 hm PV PM PK
            rintro y5 ⟨PV, PM, PK⟩
            have w200 : IntKind.i64.wrap (s + 200) = s + 200 := by rw [IntKind.wrap_i64]; omega
            have SR := Lib.hid (sorted_any b bn c3 many sp f2 y5 PV.out PM.out (by omega))
            go_upto_region 22 with (go_at_call 20; (with_reducible refine SR.out.mono ?_); rintro r y6 ⟨v13, R, rfl, hso, hRl, hro, k⟩; have SO := Lib.hid hso; have RO := Lib.hid hro; have PV6 := Lib.hid (show VoAt y6 b many sp bn from Below.heapAt k PV.out (lt_of_block PV.out)); have PM6 := Lib.hid (show VM y6 bn c3 f2 from MapAt.below PM.out k PM.out.lt); have PK6 := Lib.hid (show KeepsBut b w y6 from Keeps.trans PK.out (Below.toKeeps k (Nat.le_refl _))); clear hso hro k)
            clear SR PV PM PK
            have RV := Lib.hid (vcK_vs RO.out (fun x hx => by
              have := S2.out x.who x.lvl ((SO.out.2 x.who x.lvl).1 hx)
              exact ⟨⟨by omega, by omega⟩, by omega, by omega⟩))
            obtain ⟨o13, c13, rfl, hl13, hm13, -, rd⟩ := vs_read RV.out
            unfold maxLen at hm13
            by_cases hR : R.length = 0
            · have hRn : R = [] := List.length_eq_zero_iff.1 hR
              have hlen : ¬ (0 : Int) < (R.length : Int) := by omega
              have NX := Lib.hid (show Pl.nextSp f2 R sp = sp from by rw [hRn]; unfold Pl.nextSp; rw [HSP.out]; rfl)
              clear rd hR hRn
              go_wp2_with fail
              go_ret
              refine ⟨0, rfl, PK6.out, .inr ⟨HF.out, rfl, bn, c3, R, ?_⟩⟩; rw [HGE.out, HF2.out]; exact ⟨SO.out, by rw [NX.out]; exact ⟨PV6.out, PM6.out, S2.out, hc3, by have := BN.out; omega, by omega⟩⟩
            · have hlen : (0 : Int) < (R.length : Int) := by omega
              obtain ⟨g13, f13, rfl, -, q0, q1, -⟩ := rd 0 (by omega)
              obtain ⟨b0, hb0⟩ : ∃ x, R[0]'(by omega) = x := ⟨_, rfl⟩
              have HR0 := Lib.hid (show b0 ∈ R from by rw [← hb0]; exact List.getElem_mem _)
              have HRc := Lib.hid (show ∃ rest, R = b0 :: rest from by
                cases R with
                | nil => simp at hR
                | cons z r => exact ⟨r, by rw [← hb0]; rfl⟩)
              have HB0 := Lib.hid (S2.out b0.who b0.lvl ((SO.out.2 b0.who b0.lvl).1 HR0.out))
              rw [hb0] at q0 q1
              simp only [Nat.zero_mul, Nat.add_zero] at q0 q1
              have hcap : 1 ≤ c13 := by omega
              clear rd hb0
              obtain ⟨bw, hbw⟩ : ∃ x, b0.who = x := ⟨_, rfl⟩
              obtain ⟨bl, hbl2⟩ : ∃ x, b0.lvl = x := ⟨_, rfl⟩
              rw [hbw] at q0 HB0
              rw [hbl2] at q1 HB0
              have HBW := Lib.hid hbw
              have HBL := Lib.hid hbl2
              clear hbw hbl2 hR
              have HBB := HB0.out
              obtain ⟨hb1, hb2, hb3, hb4⟩ := HBB
              have f1' := obj_free PV6.out 1
              have e1' := obj_cell PV6.out (k := 1) rfl
              have PVs := Lib.hid (show VoAt (y6.setCell ⟨b, 1, none⟩ (.int .i64 bw)) b many bw bn from obj_set PV6.out 1 _)
              have PMs := Lib.hid (show VM (y6.setCell ⟨b, 1, none⟩ (.int .i64 bw)) bn c3 f2 from PM6.out.block ((KeepsBut.set (KeepsBut.refl b y6) _ _).block bn PM6.out.lt (by have := BN.out; omega)))
              have PKs := Lib.hid (show KeepsBut b w (y6.setCell ⟨b, 1, none⟩ (.int .i64 bw)) from KeepsBut.set PK6.out _ _)
              by_cases hgt : s + 200 < bl
              · have NX := Lib.hid (show Pl.nextSp f2 R sp = bw from by obtain ⟨rest, e⟩ := HRc.out; rw [e]; unfold Pl.nextSp; rw [HSP.out]; show (if s + 200 < b0.lvl then b0.who else sp) = bw; rw [HBL.out, if_pos hgt]; exact HBW.out)
                go_wp2_with fail
                go_ret
                refine ⟨0, rfl, PKs.out, .inr ⟨HF.out, rfl, bn, c3, R, ?_⟩⟩; rw [HGE.out, HF2.out]; exact ⟨SO.out, by rw [NX.out]; exact ⟨PVs.out, PMs.out, S2.out, hc3, by have := BN.out; omega, by omega⟩⟩
              · have NX := Lib.hid (show Pl.nextSp f2 R sp = sp from by obtain ⟨rest, e⟩ := HRc.out; rw [e]; unfold Pl.nextSp; rw [HSP.out]; show (if s + 200 < b0.lvl then b0.who else sp) = sp; rw [HBL.out, if_neg hgt])
                go_wp2_with fail
                go_ret
                refine ⟨0, rfl, PK6.out, .inr ⟨HF.out, rfl, bn, c3, R, ?_⟩⟩; rw [HGE.out, HF2.out]; exact ⟨SO.out, by rw [NX.out]; exact ⟨PV6.out, PM6.out, S2.out, hc3, by have := BN.out; omega, by omega⟩⟩
        · intro x v w1 cnt1 hw hlx hfx hrg1 hlt hg1 hs1 hen
          obtain ⟨s, hs, rfl⟩ := SF.back hfx
          have hs0 : Pl.sc0 f g x = some s := by
            have := hst.out x
            rw [hlx] at this
            rw [← hs, this]; rfl
          have hb := SB.out x s hs0
          have hlb := GB.out x
          have EL := Lib.hid (show (SF g x).getD (.int .i64 0) = .int .i64 ((g x).getD 0) from by unfold SF; cases g x <;> rfl)
          have HN := Lib.hid (show Pl.sc1 f g x = some (Pl.nsc s ((g x).getD 0)) from by unfold Pl.sc1; rw [hs0]; rfl)
          obtain ⟨l, hl⟩ : ∃ l, (g x).getD 0 = l := ⟨_, rfl⟩
          rw [hl] at EL HN hlb
          have HST := Lib.hid (hst.out.step HN.out)
          have HSS := Lib.hid (show (SF h x).isSome = true from by rw [SF.at1 h x s hs]; rfl)
          have M1 := Lib.hid (show VM w1 bg cg g from MG.out.kept hg1 (by simp; have := R2.out; omega))
          have K1 := Lib.hid (show Below w.heap.size w w1 from ⟨hg1.os.trans KR.out.os, hg1.tape.trans KR.out.tape, hg1.output.trans KR.out.output, Nat.le_trans KR.out.size hg1.size, fun k hk => (hg1.block k (Nat.lt_of_lt_of_le hk KR.out.size) (by simp; have := R2.out; have := BN.out; omega)).trans (KR.out.block k hk)⟩)
          have NS := Lib.hid (show Pl.nsc s l = s - (s + 7) / 8 + 16 * l from rfl)
          have hm := M1.out
          have HR := hrg1
          obtain ⟨hb1, hb2, hb3, hb4⟩ := hb
          obtain ⟨hb5, hb6⟩ := hlb
          clear hrg hfx hst MG KR hg1 hs1 hs hs0 hl hrg1
          have q1 : (s + 7).tdiv 8 = (s + 7) / 8 := Int.tdiv_eq_ediv_of_nonneg (by omega)
          obtain ⟨d, hd⟩ : ∃ d, (s + 7) / 8 = d := ⟨_, rfl⟩
          have hd1 : 0 ≤ d := by omega
          have hd2 : d ≤ 3000 := by omega
          have NV := Lib.hid (show Pl.nsc s l = s - d + 16 * l from by rw [NS.out, hd])
          rw [hd] at q1
          clear hd
          have wr1 : IntKind.i64.wrap (s + 7) = s + 7 := by rw [IntKind.wrap_i64]; omega
          have wr2 : IntKind.i64.wrap d = d := by rw [IntKind.wrap_i64]; omega
          have wr3 : IntKind.i64.wrap (s - d) = s - d := by rw [IntKind.wrap_i64]; omega
          have wr4 : IntKind.i64.wrap (16 * l) = 16 * l := by rw [IntKind.wrap_i64]; omega
          have wr5 : IntKind.i64.wrap (s - d + 16 * l) = s - d + 16 * l := by rw [IntKind.wrap_i64]; omega
          go_wp2_with (first
            | (at_lookup; refine wpList_mlook0 _ rfl (.tmp 51) (.tmp 52) 46 rfl 3 3 vlaw Tryd.underlying3 Tryd.underlying46 (zeroIntV _) bg cg _ rfl hm x rfl hw ?_; rw [EL.out])
            | (at_mapUpdate; refine wpList_mputr _ rfl (.tmp 44) (.tmp 45) (.tmp 55) 46 rfl 3 3 vlaw Tryd.underlying3 Tryd.underlying46 bn r2 c2 _ _ cnt1 rfl HR (by omega) x (.int .i64 (s - d + 16 * l)) rfl rfl hw HSS.out ?_; intro w6 hrg6 hgr; have R6 := Lib.hid hrg6; have G6 := Lib.hid hgr; clear hrg6 hgr))
          have R7 := Lib.hid (show RangesAt Tryd.prog 3 w6 bn r2 c2 (SF (fun j => if j = x then some (Pl.nsc s l) else h j)) _ cnt1 from by
            have a := R6.out
            rw [SF.put, ← NV.out] at a
            exact a)
          have M7 := Lib.hid (show VM w6 bg cg g from M1.out.kept G6.out (by simp; have := BN.out; omega))
          have K7 := Lib.hid (show Below w.heap.size w w6 from ⟨G6.out.os.trans K1.out.os, G6.out.tape.trans K1.out.tape, G6.out.output.trans K1.out.output, Nat.le_trans K1.out.size G6.out.size, fun j hj => (G6.out.block j (Nat.lt_of_lt_of_le hj K1.out.size) (fun e => by cases e; have := BN.out; omega)).trans (K1.out.block j hj)⟩)
          have HL1 := Lib.hid R7.out.left_eq
          clear R6 G6 M1 K1 HR hm wr1 wr2 wr3 wr4 wr5 q1
          go_wp2_with fail
          go_roundw
          case measure => rw [HLE.out, HL1.out]; omega
          case rel => first | exact ⟨_, cnt1, _, R7.out, HST, M7, K7⟩ | ((repeat apply Exists.intro); exact ⟨⟨_, cnt1, _, R7.out, HST, M7, K7⟩, rfl⟩)
    · intro x v w1 cnt1 hw hlx hfx hrg1 hlt hg1 hs1 hen
      obtain ⟨s, hs, rfl⟩ := SF.back hfx
      have M1 := Lib.hid (show VM w1 bn c' h from MR.out.kept hg1 (by simp; have := R1.out; omega))
      have K1 := Lib.hid (show Below w.heap.size w w1 from ⟨hg1.os.trans KR.out.os, hg1.tape.trans KR.out.tape, hg1.output.trans KR.out.output, Nat.le_trans KR.out.size hg1.size, fun k hk => (hg1.block k (Nat.lt_of_lt_of_le hk KR.out.size) (by simp; have := R1.out; have := BN.out; omega)).trans (KR.out.block k hk)⟩)
      have HST := Lib.hid (hst.out.step hs)
      have HR1 := Lib.hid hrg1
      have hm := M1.out
      clear hrg hfx hst MR KR hg1 hs1 hrg1
      go_wp2_with (at_mapUpdate; refine wpList_mput _ rfl (.tmp 29) (.tmp 30) (.const (.int .i64 0)) 46 rfl 3 3 vlaw Tryd.underlying3 Tryd.underlying46 bn c' _ rfl hm (by unfold maxLen; omega) x (.int .i64 0) rfl rfl hw ?_; intro w6 hm6 hgr; have M6 := Lib.hid hm6; have G6 := Lib.hid hgr; clear hm6 hgr)
      have M7 := Lib.hid (show VM w6 bn (if (SF h x).isSome then c' else c' + 1) (fun j => if j = x then some 0 else h j) from by
        have a := M6.out
        rw [SF.put] at a
        exact a)
      have K7 := Lib.hid (show Below w.heap.size w w6 from ⟨G6.out.os.trans K1.out.os, G6.out.tape.trans K1.out.tape, G6.out.output.trans K1.out.output, Nat.le_trans K1.out.size G6.out.size, fun j hj => (G6.out.block j (Nat.lt_of_lt_of_le hj K1.out.size) (fun e => by cases e; have := BN.out; omega)).trans (K1.out.block j hj)⟩)
      have R7 := Lib.hid (show RangesAt Tryd.prog 3 w6 bg r1 cg (SF g) _ cnt1 from HR1.out.kept G6.out (by simp; have := BN.out; omega) (by simp; have := R1.out; omega))
      have HL1 := Lib.hid R7.out.left_eq
      have hcz : (if (SF h x).isSome then c' else c' + 1) + cnt1 ≤ cg := by split <;> omega
      have HCZ := Lib.hid hcz
      clear M6 G6 M1 K1 HR1 hm hcz
      go_wp2_with fail
      go_roundw
      case measure => rw [HLE.out, HL1.out]; omega
      case rel => first | exact ⟨_, cnt1, _, _, R7.out, HST, HCZ.out, M7, K7⟩ | ((repeat apply Exists.intro); exact ⟨⟨_, cnt1, _, _, R7.out, HST, HCZ.out, M7, K7⟩, rfl⟩)
end Go.Proofs.YtefhbjkhmfmkaaaDoor
