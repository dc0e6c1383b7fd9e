import Derived.Test.YtlmladaajhimbaaOut
import Derived.Test.YtlmladaajhimbaaSame
import Derived.Test.YtlmladaajhimbaaOutMore
/-! The walk of the law OutRow. -/
namespace Go.Proofs.Ytlmladaajhimbaa
open Go.RowKit
set_option linter.unusedVariables false
set_option linter.unusedSimpArgs false

/-- what the law has seen ahead: many went out; the last one's Seq; the row's own state -/
structure Pl.Seen (seq time many sq tq lt ll wt wl gt : Int) : Prop where
  n0 : 0 ≤ many
  s1 : Pl.seq sq = true
  t1 : Pl.word tq
  l1 : Pl.word lt
  first : many = 0 → sq = seq ∧ tq = time
  more : 0 < many → sq = (seq + many - 1) % 65536 ∧ gt = tq ∧ wt = lt ∧ wl = ll
theorem Pl.Seen.next {seq time many sq tq lt ll wt wl gt t l : Int} (h : Pl.Seen seq time many sq tq lt ll wt wl gt) (hs : 0 ≤ seq ∧ seq ≤ 65535) (ht : Pl.word t) :
    Pl.Seen seq time (many + 1) (Pl.outSeq many sq) (Pl.outTime many tq lt ll t l) t l t l (Pl.outTime many tq lt ll t l) ∧ Pl.outSeq many sq = (seq + many) % 65536 ∧ (many = 0 → Pl.outTime many tq lt ll t l = time) ∧
    (0 < many → l = wl → (Pl.outTime many tq lt ll t l - gt + 4294967296) % 4294967296 = (t - wt + 4294967296) % 4294967296) := by
  obtain ⟨n0, s1, t1, l1, f, m⟩ := h
  have e : Pl.outSeq many sq = (seq + many) % 65536 := by
    unfold Pl.outSeq
    split
    · have := m (by omega); omega
    · have := f (by omega); rw [Pl.seq_iff] at s1; omega
  refine ⟨⟨by omega, Pl.outSeq_bd _ _ s1, Pl.outTime_bd _ _ _ _ _ _ t1, ht, fun h => by omega, fun _ => ⟨by rw [e]; congr 1; omega, rfl, rfl, rfl⟩⟩, e, fun h => ?_, fun h hl => ?_⟩
  · unfold Pl.outTime; rw [if_neg (by omega)]; exact (f h).2
  · obtain ⟨_, rfl, rfl, rfl⟩ := m h
    unfold Pl.outTime; rw [if_pos h, if_pos hl]; omega

set_option maxRecDepth 100000 in
set_option maxHeartbeats 4000000 in
theorem walk_OutRow_bad (w : World) (a0 a1 : Int) (v : Value) (h : ¬ (0 ≤ a0 ∧ a0 ≤ 65535 ∧ 0 ≤ a1 ∧ a1 ≤ 4294967295)) :
    Calls Try.prog 4 #[.int .i64 a0, .int .i64 a1, v] w fun e w' => e = .returned (.bool true) ∧ Below w.heap.size w w' := by
  have G := Lib.hid h
  go_enter Try.func4, Try.ntmps4
  go_wp2_with fail
  refine (outNew_ok 65535 5 (by decide) (by decide) _).mono ?_
  rintro e w1 ⟨b0, rfl, hb0, g1, k1⟩
  go_wp2_with fail
  refine (outNext_ok b0 65535 5 0 0 0 3 100 0 0 false (.slice none 0 0) [] (by decide) (by decide) (by decide) (by omega) (by omega) (by decide) _ g1 (fun W _ => Sl.nil W)).mono ?_
  rw [show Pl.outSeq 0 65535 = 65535 from rfl, show Pl.outTime 0 5 0 0 100 0 = 5 from rfl]
  rintro e w2 ⟨v2, rfl, i2, g2, k2⟩
  obtain ⟨o2, c2, rfl, _⟩ := bytes_slice (i2 _ (Keeps.refl _ _))
  have kb2 : Below w.heap.size w w2 := k1.trans (k2.below k1.size hb0)
  clear i2 g1 k1 k2
  go_upto_region 5 with fail
  refine abs_world (fun x => OutAt x b0 65535 5 (0 + 1) 100 0 ∧ Below w.heap.size w x ∧ PkAt x w2.heap.size 65535 5 0 0 false (.slice o2 ([] : List UInt8).length c2) ∧ w2.heap.size < x.heap.size) ⟨OutAt.old g2 _, Below.alloc kb2 kb2.size _, PkAt.new _ _ _ _ _ _ _, by simp⟩ ?_
  have z2 := lt_of_block g2
  clear g2 kb2
  rintro w3 ⟨g3, kb3, p3, sz3⟩
  go_wp2_with fail
  refine (outNext_ok b0 65535 5 (0 + 1) 100 0 9 130 0 0 false (.slice none 0 0) [] (by decide) (by decide) (by decide) (by omega) (by omega) (by decide) _ g3 (fun W _ => Sl.nil W)).mono ?_
  rw [show Pl.outSeq (0 + 1) 65535 = 0 from rfl, show Pl.outTime (0 + 1) 5 100 0 130 0 = 35 from rfl]
  rintro e w4 ⟨v4, rfl, i4, g4, k4⟩
  obtain ⟨o4, c4, rfl, _⟩ := bytes_slice (i4 _ (Keeps.refl _ _))
  have kb4 : Below w.heap.size w w4 := kb3.trans (k4.below kb3.size hb0)
  have p4 := PkAt.other p3 k4 (by omega)
  have sz4 := k4.size
  clear i4 g3 kb3 p3 k4 g4
  go_upto_region 6 with fail
  refine abs_world (fun x => Below w.heap.size w x ∧ PkAt x w2.heap.size 65535 5 0 0 false (.slice o2 ([] : List UInt8).length c2) ∧ PkAt x w4.heap.size 0 35 0 0 false (.slice o4 ([] : List UInt8).length c4)) ⟨Below.alloc kb4 kb4.size _, PkAt.old p4 _, PkAt.new _ _ _ _ _ _ _⟩ ?_
  clear kb4 p4
  rintro w5 ⟨kb5, pa, pb⟩
  have a0' := obj_cell pa (k := 0) rfl
  have a1' := obj_cell pa (k := 1) rfl
  have b0' := obj_cell pb (k := 0) rfl
  have b1' := obj_cell pb (k := 1) rfl
  go_wp2_with fail
  clear pa pb a0' a1' b0' b1'
  refine (outNew_bad a0 a1 h _).mono ?_
  rintro e w6 ⟨rfl, rfl⟩
  clear h
  go_wp2
  all_goals first
    | (exfalso; have := G.out; omega)
    | (go_ret; exact ⟨by have := G.out; simp; try omega, kb5⟩)

set_option maxRecDepth 100000 in
set_option maxHeartbeats 4000000 in
theorem walk_OutRow_none (w : World) (a0 a1 : Int) (h0 : Pl.seq a0 = true) (h1 : Pl.word a1) (oa : Option Addr) (c : Nat) :
    Calls Try.prog 4 #[.int .i64 a0, .int .i64 a1, .slice oa 0 c] w fun e w' => e = .returned (.bool true) ∧ Below w.heap.size w w' := by
  go_enter Try.func4, Try.ntmps4
  go_wp2_with fail
  refine (outNew_ok 65535 5 (by decide) (by decide) _).mono ?_
  rintro e w1 ⟨b0, rfl, hb0, g1, k1⟩
  go_wp2_with fail
  refine (outNext_ok b0 65535 5 0 0 0 3 100 0 0 false (.slice none 0 0) [] (by decide) (by decide) (by decide) (by omega) (by omega) (by decide) _ g1 (fun W _ => Sl.nil W)).mono ?_
  rw [show Pl.outSeq 0 65535 = 65535 from rfl, show Pl.outTime 0 5 0 0 100 0 = 5 from rfl]
  rintro e w2 ⟨v2, rfl, i2, g2, k2⟩
  obtain ⟨o2, c2, rfl, _⟩ := bytes_slice (i2 _ (Keeps.refl _ _))
  have kb2 : Below w.heap.size w w2 := k1.trans (k2.below k1.size hb0)
  clear i2 g1 k1 k2
  go_upto_region 5 with fail
  refine abs_world (fun x => OutAt x b0 65535 5 (0 + 1) 100 0 ∧ Below w.heap.size w x ∧ PkAt x w2.heap.size 65535 5 0 0 false (.slice o2 ([] : List UInt8).length c2) ∧ w2.heap.size < x.heap.size) ⟨OutAt.old g2 _, Below.alloc kb2 kb2.size _, PkAt.new _ _ _ _ _ _ _, by simp⟩ ?_
  have z2 := lt_of_block g2
  clear g2 kb2
  rintro w3 ⟨g3, kb3, p3, sz3⟩
  go_wp2_with fail
  refine (outNext_ok b0 65535 5 (0 + 1) 100 0 9 130 0 0 false (.slice none 0 0) [] (by decide) (by decide) (by decide) (by omega) (by omega) (by decide) _ g3 (fun W _ => Sl.nil W)).mono ?_
  rw [show Pl.outSeq (0 + 1) 65535 = 0 from rfl, show Pl.outTime (0 + 1) 5 100 0 130 0 = 35 from rfl]
  rintro e w4 ⟨v4, rfl, i4, g4, k4⟩
  obtain ⟨o4, c4, rfl, _⟩ := bytes_slice (i4 _ (Keeps.refl _ _))
  have kb4 : Below w.heap.size w w4 := kb3.trans (k4.below kb3.size hb0)
  have p4 := PkAt.other p3 k4 (by omega)
  have sz4 := k4.size
  clear i4 g3 kb3 p3 k4 g4
  go_upto_region 6 with fail
  refine abs_world (fun x => Below w.heap.size w x ∧ PkAt x w2.heap.size 65535 5 0 0 false (.slice o2 ([] : List UInt8).length c2) ∧ PkAt x w4.heap.size 0 35 0 0 false (.slice o4 ([] : List UInt8).length c4)) ⟨Below.alloc kb4 kb4.size _, PkAt.old p4 _, PkAt.new _ _ _ _ _ _ _⟩ ?_
  clear kb4 p4
  rintro w5 ⟨kb5, pa, pb⟩
  have a0' := obj_cell pa (k := 0) rfl
  have a1' := obj_cell pa (k := 1) rfl
  have b0' := obj_cell pb (k := 0) rfl
  have b1' := obj_cell pb (k := 1) rfl
  go_wp2_with fail
  clear pa pb a0' a1' b0' b1'
  refine (outNew_ok a0 a1 h0 h1 _).mono ?_
  rintro e w6 ⟨b, rfl, hb, g6, k6⟩
  have kb6 := kb5.trans (k6.mono kb5.size)
  have g7 := fun o1 o2 => OutAt.old (OutAt.old g6 o1) o2
  clear kb5 k6
  go_wp2
  refine wp_loop_once ?_
  go_wp2_with fail
  refine (outSent_any b _ _ _ _ _ _ (g7 _ _)).mono ?_
  rintro e w' ⟨rfl, rfl⟩
  go_wp2
  go_ret
  exact ⟨rfl, Below.alloc (Below.alloc kb6 kb6.size _) (by have := kb6.size; simp; omega) _⟩

set_option maxRecDepth 100000 in
set_option maxHeartbeats 16000000 in
theorem walk_OutRow_run (w : World) (a0 a1 : Int) (h0 : Pl.seq a0 = true) (h1 : Pl.word a1) (b1 f1 c1 : Nat) (l1 : List Pk) (hc1 : l1.length ≤ c1) (hm1 : c1 ≤ maxLen)
    (hcell : ∀ i (h : i < l1.length) j u, (l1[i].cells)[j]? = some u → w.cell? ⟨b1, f1 + (i * 6 + j), none⟩ = some u) (hgood : ∀ x ∈ l1, x.Good w) (hlt : b1 < w.heap.size) :
    Calls Try.prog 4 #[.int .i64 a0, .int .i64 a1, .slice (some ⟨b1, f1, none⟩) l1.length c1] w fun e w' => e = .returned (.bool true) ∧ Below w.heap.size w w' := by
  have HC := Lib.hid hcell
  have HG := Lib.hid hgood
  clear hcell hgood
  unfold maxLen at hm1
  go_enter Try.func4, Try.ntmps4
  go_wp2_with fail
  refine (outNew_ok 65535 5 (by decide) (by decide) _).mono ?_
  rintro e w1 ⟨b0, rfl, hb0, g1, k1⟩
  go_wp2_with fail
  refine (outNext_ok b0 65535 5 0 0 0 3 100 0 0 false (.slice none 0 0) [] (by decide) (by decide) (by decide) (by omega) (by omega) (by decide) _ g1 (fun W _ => Sl.nil W)).mono ?_
  rw [show Pl.outSeq 0 65535 = 65535 from rfl, show Pl.outTime 0 5 0 0 100 0 = 5 from rfl]
  rintro e w2 ⟨v2, rfl, i2, g2, k2⟩
  obtain ⟨o2, c2, rfl, _⟩ := bytes_slice (i2 _ (Keeps.refl _ _))
  have kb2 : Below w.heap.size w w2 := k1.trans (k2.below k1.size hb0)
  clear i2 g1 k1 k2
  go_upto_region 5 with fail
  refine abs_world (fun x => OutAt x b0 65535 5 (0 + 1) 100 0 ∧ Below w.heap.size w x ∧ PkAt x w2.heap.size 65535 5 0 0 false (.slice o2 ([] : List UInt8).length c2) ∧ w2.heap.size < x.heap.size) ⟨OutAt.old g2 _, Below.alloc kb2 kb2.size _, PkAt.new _ _ _ _ _ _ _, by simp⟩ ?_
  have z2 := lt_of_block g2
  clear g2 kb2
  rintro w3 ⟨g3, kb3, p3, sz3⟩
  go_wp2_with fail
  refine (outNext_ok b0 65535 5 (0 + 1) 100 0 9 130 0 0 false (.slice none 0 0) [] (by decide) (by decide) (by decide) (by omega) (by omega) (by decide) _ g3 (fun W _ => Sl.nil W)).mono ?_
  rw [show Pl.outSeq (0 + 1) 65535 = 0 from rfl, show Pl.outTime (0 + 1) 5 100 0 130 0 = 35 from rfl]
  rintro e w4 ⟨v4, rfl, i4, g4, k4⟩
  obtain ⟨o4, c4, rfl, _⟩ := bytes_slice (i4 _ (Keeps.refl _ _))
  have kb4 : Below w.heap.size w w4 := kb3.trans (k4.below kb3.size hb0)
  have p4 := PkAt.other p3 k4 (by omega)
  have sz4 := k4.size
  clear i4 g3 kb3 p3 k4 g4
  go_upto_region 6 with fail
  refine abs_world (fun x => Below w.heap.size w x ∧ PkAt x w2.heap.size 65535 5 0 0 false (.slice o2 ([] : List UInt8).length c2) ∧ PkAt x w4.heap.size 0 35 0 0 false (.slice o4 ([] : List UInt8).length c4)) ⟨Below.alloc kb4 kb4.size _, PkAt.old p4 _, PkAt.new _ _ _ _ _ _ _⟩ ?_
  clear kb4 p4
  rintro w5 ⟨kb5, pa, pb⟩
  have a0' := obj_cell pa (k := 0) rfl
  have a1' := obj_cell pa (k := 1) rfl
  have b0' := obj_cell pb (k := 0) rfl
  have b1' := obj_cell pb (k := 1) rfl
  go_wp2_with fail
  clear pa pb a0' a1' b0' b1'
  refine (outNew_ok a0 a1 h0 h1 _).mono ?_
  rintro e w6 ⟨b, rfl, hb, g6, k6⟩
  have kb6 := kb5.trans (k6.mono kb5.size)
  have hb' : w.heap.size ≤ b := Nat.le_trans kb5.size hb
  have hb6 := lt_of_block g6
  clear kb5 k6 hb hb0 z2 sz3 sz4
  have INV0 : Pl.Seen a0 a1 0 a0 a1 0 0 0 0 0 := ⟨by omega, h0, h1, by decide, fun _ => ⟨rfl, rfl⟩, fun h => by omega⟩
  have H0 := (Pl.seq_iff _).1 h0
  have H1 := Lib.hid h1
  clear h0 h1
  go_upto_region 12 with fail
  refine abs_world (fun x => OutAt x b a0 a1 0 0 0 ∧ PkAt x w6.heap.size 0 0 0 0 false (.slice none 0 0) ∧ PkAt x (w6.heap.size + 1) 0 0 0 0 false (.slice none 0 0) ∧ Below w.heap.size w x) ⟨OutAt.old (OutAt.old g6 _) _, obj_old (obj_new _ _) _, obj_new2 _ _ _, Below.alloc (Below.alloc kb6 kb6.size _) (by have := kb6.size; simp; omega) _⟩ ?_
  have s6 := kb6.size
  clear g6 kb6
  rintro w7 ⟨g7, pw7, pg7, kb7⟩
  generalize hbw : w6.heap.size = bw at *
  clear hbw
  go_wp2
  go_loopw [17, 18] (fun m i wr => ∃ (k : Nat) (many sq tq lt ll ws wt wl wlv gs gt gl glv : Int) (wst gst : Bool) (wbv gbv : Value), k ≤ l1.length ∧ k ≤ 60 ∧ i = .int .i64 k ∧ m = .int .i64 many ∧ many ≤ k ∧ Pl.Seen a0 a1 many sq tq lt ll wt wl gt ∧ OutAt wr b sq tq many lt ll ∧
    PkAt wr bw ws wt wl wlv wst wbv ∧ PkAt wr (bw + 1) gs gt gl glv gst gbv ∧ Below w.heap.size w wr) (fun _ i _ => 60 - (intOf i).toNat)
  case atStart => exact ⟨0, 0, a0, a1, 0, 0, 0, 0, 0, 0, 0, 0, 0, 0, false, false, _, _, by omega, by omega, rfl, rfl, by omega, INV0, g7, pw7, pg7, kb7⟩
  case round =>
    clear g7 pw7 pg7 kb7 INV0
    obtain ⟨k, many, sq, tq, lt, ll, ws, wt, wl, wlv, gs, gt, gl, glv, wst, gst, wbv, gbv, hk, hk60, rfl, rfl, hmany, inv, ga, pw, pg, kb⟩ := hrel
    by_cases hlt1 : k < l1.length
    · by_cases hlt2 : k < 60
      · have cells := HC.out k hlt1
        have good := HG.out _ (List.getElem_mem hlt1)
        generalize l1[k] = x at *
        obtain ⟨s, t, l, lv, st, bv, bl⟩ := x
        obtain ⟨hs, ht, hl, hlv, hbv⟩ := good
        obtain ⟨boa, bc, hbv', hbn⟩ := bytes_slice hbv
        simp only [] at hbv' hbn
        subst hbv'
        have q0 := cells 0 _ rfl
        have q1 := cells 1 _ rfl
        have q2 := cells 2 _ rfl
        have q3 := cells 3 _ rfl
        have q4 := cells 4 _ rfl
        have q5 := cells 5 _ rfl
        clear cells
        simp only [] at *
        have Q : Hid (∀ W, Below w.heap.size w W → W.cell? ⟨b1, f1 + k * 6, none⟩ = some (.int .i64 s) ∧ W.cell? ⟨b1, f1 + k * 6 + 1, none⟩ = some (.int .i64 t) ∧ W.cell? ⟨b1, f1 + k * 6 + 2, none⟩ = some (.int .i64 l) ∧ W.cell? ⟨b1, f1 + k * 6 + 3, none⟩ = some (.int .i64 lv) ∧ W.cell? ⟨b1, f1 + k * 6 + 4, none⟩ = some (.bool st) ∧ W.cell? ⟨b1, f1 + k * 6 + 5, none⟩ = some (.slice boa bl.length bc)) := fun W hW =>
          ⟨(hW.cell (p := ⟨b1, f1 + k * 6, none⟩) hlt).trans q0, (hW.cell (p := ⟨b1, f1 + k * 6 + 1, none⟩) hlt).trans q1, (hW.cell (p := ⟨b1, f1 + k * 6 + 2, none⟩) hlt).trans q2, (hW.cell (p := ⟨b1, f1 + k * 6 + 3, none⟩) hlt).trans q3, (hW.cell (p := ⟨b1, f1 + k * 6 + 4, none⟩) hlt).trans q4, (hW.cell (p := ⟨b1, f1 + k * 6 + 5, none⟩) hlt).trans q5⟩
        clear q0 q1 q2 q3 q4 q5
        obtain ⟨q0, q1, q2, q3, q4, q5⟩ := Q.out wr kb
        have INV := Lib.hid inv
        clear inv
        have hla := lt_of_block ga
        have hlw := lt_of_block pw
        have hlg := lt_of_block pg
        by_cases hp : Pl.pkOk s t l lv bl.length
        · go_wp2_with fail
          refine (outNext_ok b sq tq many lt ll s t l lv st _ bl hp INV.out.s1 INV.out.t1 INV.out.n0 (by omega) INV.out.l1 wr ga (fun W hW => arg_bytes hbv kb hb' hW)).mono ?_
          rintro e w3 ⟨va, rfl, iva, ga3, ka⟩
          obtain ⟨oaa, caa, rfl, _⟩ := bytes_slice (iva _ (Keeps.refl _ _))
          have kb3 : Below w.heap.size w w3 := kb.trans (ka.below kb.size hb')
          have pw3 := PkAt.other pw ka (by omega)
          have pg3 := PkAt.other pg ka (by omega)
          have hsz := ka.size
          have NX := INV.out.next (l := l) H0 (t := t) ⟨hp.2.2.1, hp.2.2.2.1⟩
          have IVA := Lib.hid iva
          clear iva ka q0 q1 q2 q3 q4 q5 pw pg ga
          obtain ⟨X, hX⟩ : ∃ X, X = Pl.outSeq many sq := ⟨_, rfl⟩
          obtain ⟨Y, hY⟩ : ∃ Y, Y = Pl.outTime many tq lt ll t l := ⟨_, rfl⟩
          rw [← hX, ← hY] at ga3 NX ⊢
          clear hX hY
          obtain ⟨nx1, nx2, nx3, nx4⟩ := NX
          have N1 := Lib.hid nx1
          have N2 := Lib.hid nx2
          have N3 := Lib.hid nx3
          have N4 := Lib.hid nx4
          clear nx1 nx2 nx3 nx4
          have hY0 : 0 ≤ Y ∧ Y ≤ 4294967295 := N1.out.t1
          have hgt : Hid (0 < many → 0 ≤ gt ∧ gt ≤ 4294967295 ∧ 0 ≤ wt ∧ wt ≤ 4294967295) := fun h => by
            have h2 := INV.out.more h; have h3 := INV.out.t1; have h4 := INV.out.l1; unfold Pl.word at h3 h4; omega
          go_upto_region 17 with fail
          refine abs_world (fun x => OutAt x b X Y (many + 1) t l ∧ PkAt x bw ws wt wl wlv wst wbv ∧ PkAt x (bw + 1) gs gt gl glv gst gbv ∧ PkAt x w3.heap.size X Y l lv st (.slice oaa bl.length caa) ∧ Below w.heap.size w x ∧ (∀ W, KeepsBut (x.heap.size) x W → IsBytes W (.slice oaa bl.length caa) bl) ∧ w3.heap.size < x.heap.size)
            ⟨OutAt.old ga3 _, PkAt.old pw3 _, PkAt.old pg3 _, PkAt.new _ _ _ _ _ _ _, Below.alloc kb3 kb3.size _, fun W hW => IVA.out W (keeps_past (Keeps.alloc (Keeps.refl _ _) _) hW (.inr (by simp))), by simp⟩ ?_
          clear ga3 pw3 pg3 kb3
          rintro wx ⟨gx, pwx, pgx, ppx, kbx, ivx, szx⟩
          have IVX := Lib.hid ivx
          have sxw := kbx.size
          clear ivx
          have e0 := obj_cell ppx (k := 0) rfl
          have e1 := obj_cell ppx (k := 1) rfl
          have e2 := obj_cell ppx (k := 2) rfl
          have e3 := obj_cell ppx (k := 3) rfl
          have e4 := obj_cell ppx (k := 4) rfl
          have e5 := obj_cell ppx (k := 5) rfl
          go_upto_region 21 with fail
          -- q, a copy of p, gets Seq and Time of what came
          refine abs_world (fun x => OutAt x b X Y (many + 1) t l ∧ PkAt x bw ws wt wl wlv wst wbv ∧ PkAt x (bw + 1) gs gt gl glv gst gbv ∧ PkAt x w3.heap.size X Y l lv st (.slice oaa bl.length caa) ∧ PkAt x wx.heap.size X Y l lv st (.slice oaa bl.length caa) ∧ Below w.heap.size w x ∧ Keeps (fun k => k = wx.heap.size) wx x)
            ⟨OutAt.old gx _, PkAt.old pwx _, PkAt.old pgx _, PkAt.old ppx _, PkAt.new _ _ _ _ _ _ _, Below.alloc kbx kbx.size _, Keeps.alloc (Keeps.refl _ _) _⟩ ?_
          clear gx pwx pgx ppx kbx e0 e1 e2 e3 e4 e5
          rintro wy ⟨gy, pwy, pgy, ppy, pqy, kby, kxy⟩
          obtain ⟨q0, q1, q2, q3, q4, q5⟩ := Q.out wy kby
          have f0 := obj_free pqy 0
          have f1' := obj_free pqy 1
          have z0 := obj_cell pqy (k := 0) rfl
          have z1 := obj_cell pqy (k := 1) rfl
          go_upto_region 23 with fail
          have kq : KeepsBut wx.heap.size wy ((wy.setCell ⟨wx.heap.size, 0, none⟩ (.int .i64 s)).setCell ⟨wx.heap.size, 1, none⟩ (.int .i64 t)) := KeepsBut.set (KeepsBut.set (KeepsBut.refl _ _) _ _) _ _
          refine abs_world (fun x => OutAt x b X Y (many + 1) t l ∧ PkAt x bw ws wt wl wlv wst wbv ∧ PkAt x (bw + 1) gs gt gl glv gst gbv ∧ PkAt x w3.heap.size X Y l lv st (.slice oaa bl.length caa) ∧ PkAt x wx.heap.size s t l lv st (.slice oaa bl.length caa) ∧ Below w.heap.size w x ∧ IsBytes x (.slice oaa bl.length caa) bl)
            ⟨OutAt.other gy kq (by omega), PkAt.other pwy kq (by omega), PkAt.other pgy kq (by omega), PkAt.other ppy kq (by omega), obj_set (obj_set pqy 0 _) 1 _, kby.trans (Keeps.below kq kby.size (fun i hi e => by have := kb.size; omega)), IVX.out _ (keeps_past kxy kq (.inl rfl))⟩ ?_
          clear gy pwy pgy ppy pqy kby kxy q0 q1 q2 q3 q4 q5 f0 f1' z0 z1 kq
          rintro wz ⟨gz, pwz, pgz, ppz, pqz, kbz, ivz⟩
          obtain ⟨q0, q1, q2, q3, q4, q5⟩ := Q.out wz kbz
          have z0 := obj_cell pqz (k := 0) rfl
          have z1 := obj_cell pqz (k := 1) rfl
          have z2 := obj_cell pqz (k := 2) rfl
          have z3 := obj_cell pqz (k := 3) rfl
          have z4 := obj_cell pqz (k := 4) rfl
          have z5 := obj_cell pqz (k := 5) rfl
          have hbz := hbv.below kbz
          have hlt1' : (k : Int) < (l1.length : Int) := by omega
          have lg := lt_of_block gz
          have lw := lt_of_block pwz
          have lq := lt_of_block pgz
          have lp := lt_of_block ppz
          go_cut [22] (fun s22 x => s22 = .bool true ∧ OutAt x b X Y (many + 1) t l ∧ PkAt x bw ws wt wl wlv wst wbv ∧ PkAt x (bw + 1) gs gt gl glv gst gbv ∧ PkAt x w3.heap.size X Y l lv st (.slice oaa bl.length caa) ∧ Below w.heap.size w x)
          case first =>
            go_region_with (go_at_call 11; refine (samePk_any s t l lv s t l lv st st _ _ bl bl _ (by first | exact ivz | exact ivz.drew) (by first | exact hbz | exact hbz.drew)).mono ?_; rw [show Pl.samePk s t l lv st bl s t l lv st bl = true by simp [Pl.samePk]]; rintro e w9 ⟨rfl, k9⟩)
            all_goals
              rename_i k9
              have k8 : Below wz.heap.size wz _ := (by first | exact k9 | exact Below.trans (Below.drew (Below.refl _ _)) k9)
              go_wp2_with fail
              go_meet
              exact ⟨rfl, OutAt.below gz k8 lg, PkAt.below pwz k8 lw, PkAt.below pgz k8 lq, PkAt.below ppz k8 lp, kbz.trans (Below.mono k8 kbz.size)⟩
          case rest =>
          clear gz pwz pgz ppz pqz kbz ivz q0 q1 q2 q3 q4 q5 z0 z1 z2 z3 z4 z5 hbz lg lw lq lp
          obtain ⟨rfl, gz, pwz, pgz, ppz, kbz⟩ := hcut
          obtain ⟨q0, q1, q2, q3, q4, q5⟩ := Q.out _ kbz
          have z0 := obj_cell ppz (k := 0) rfl
          have z1 := obj_cell ppz (k := 1) rfl
          have u1 := obj_cell pwz (k := 1) rfl
          have u2 := obj_cell pwz (k := 2) rfl
          have g1 := obj_cell pgz (k := 1) rfl
          by_cases hm0 : many = 0
          · have dY : (Y == a1) = true := by simpa using N3.out hm0
            have dm : decide (0 < many) = false := by simp; omega
            have d0 : (many == 0) = true := by simpa using hm0
            have hm1 : 0 ≤ many := by omega
            clear hm0
            have hX2 := N2.out
            subst hX2
            go_upto_region 26 with fail
            go_quiet (fail)
            go_upto_region 28 with fail
            refine abs_world (fun x => OutAt x b ((a0 + many) % 65536) Y (many + 1) t l ∧ PkAt x bw ws wt wl wlv wst wbv ∧ PkAt x (bw + 1) gs gt gl glv gst gbv ∧ PkAt x w3.heap.size ((a0 + many) % 65536) Y l lv st (.slice oaa bl.length caa) ∧ Below w.heap.size w x) ⟨gz, pwz, pgz, ppz, (by first | exact kbz | exact Below.drewN kbz _)⟩ ?_
            clear gz pwz pgz ppz kbz q0 q1 q2 q3 q4 q5 z0 z1 u1 u2 g1
            rintro wd ⟨gz, pwz, pgz, ppz, kbz⟩
            obtain ⟨q0, q1, q2, q3, q4, q5⟩ := Q.out _ kbz
            have c0 := obj_cell pwz (k := 0) rfl
            have c1 := obj_cell pwz (k := 1) rfl
            have c2 := obj_cell pwz (k := 2) rfl
            have c3 := obj_cell pwz (k := 3) rfl
            have c4 := obj_cell pwz (k := 4) rfl
            have c5 := obj_cell pwz (k := 5) rfl
            have f0 := obj_free pwz 0
            have f1 := obj_free pwz 1
            have f2 := obj_free pwz 2
            have f3 := obj_free pwz 3
            have f4 := obj_free pwz 4
            have f5 := obj_free pwz 5
            go_upto_region 29 with fail
            have kw := keeps_sets wd bw (.int .i64 s) (.int .i64 t) (.int .i64 l) (.int .i64 lv) (.bool st) (.slice boa bl.length bc)
            refine abs_world (fun x => OutAt x b ((a0 + many) % 65536) Y (many + 1) t l ∧ PkAt x bw s t l lv st (.slice boa bl.length bc) ∧ PkAt x (bw + 1) gs gt gl glv gst gbv ∧ PkAt x w3.heap.size ((a0 + many) % 65536) Y l lv st (.slice oaa bl.length caa) ∧ Below w.heap.size w x) ⟨OutAt.other gz kw (by omega), PkAt.sets pwz, PkAt.other pgz kw (by omega), PkAt.other ppz kw (by omega), kbz.trans (Keeps.below kw kbz.size (fun i hi e => by omega))⟩ ?_
            clear gz pwz pgz ppz kbz q0 q1 q2 q3 q4 q5 c0 c1 c2 c3 c4 c5 f0 f1 f2 f3 f4 f5 kw wd
            rintro wd ⟨gz, pwz, pgz, ppz, kbz⟩
            have c0 := obj_cell pgz (k := 0) rfl
            have c1 := obj_cell pgz (k := 1) rfl
            have c2 := obj_cell pgz (k := 2) rfl
            have c3 := obj_cell pgz (k := 3) rfl
            have c4 := obj_cell pgz (k := 4) rfl
            have c5 := obj_cell pgz (k := 5) rfl
            have f0 := obj_free pgz 0
            have f1 := obj_free pgz 1
            have f2 := obj_free pgz 2
            have f3 := obj_free pgz 3
            have f4 := obj_free pgz 4
            have f5 := obj_free pgz 5
            have z0 := obj_cell ppz (k := 0) rfl
            have z1 := obj_cell ppz (k := 1) rfl
            have z2 := obj_cell ppz (k := 2) rfl
            have z3 := obj_cell ppz (k := 3) rfl
            have z4 := obj_cell ppz (k := 4) rfl
            have z5 := obj_cell ppz (k := 5) rfl
            go_upto_region 30 with fail
            have kg := keeps_sets wd (bw + 1) (.int .i64 ((a0 + many) % 65536)) (.int .i64 Y) (.int .i64 l) (.int .i64 lv) (.bool st) (.slice oaa bl.length caa)
            refine abs_world (fun x => OutAt x b ((a0 + many) % 65536) Y (many + 1) t l ∧ PkAt x bw s t l lv st (.slice boa bl.length bc) ∧ PkAt x (bw + 1) ((a0 + many) % 65536) Y l lv st (.slice oaa bl.length caa) ∧ PkAt x w3.heap.size ((a0 + many) % 65536) Y l lv st (.slice oaa bl.length caa) ∧ Below w.heap.size w x) ⟨OutAt.other gz kg (by omega), PkAt.other pwz kg (by omega), PkAt.sets pgz, PkAt.other ppz kg (by omega), kbz.trans (Keeps.below kg kbz.size (fun i hi e => by omega))⟩ ?_
            clear gz pwz pgz ppz kbz c0 c1 c2 c3 c4 c5 f0 f1 f2 f3 f4 f5 z0 z1 z2 z3 z4 z5 kg wd
            rintro wd ⟨gz, pwz, pgz, ppz, kbz⟩
            go_wp2
            go_roundw
            case measure => simp [intOf]; omega
            case rel => exact ⟨k + 1, many + 1, ((a0 + many) % 65536), Y, t, l, s, t, l, lv, ((a0 + many) % 65536), Y, l, lv, st, st, _, _, by omega, by omega, by go_num, by go_num, by omega, N1.out, gz, pwz, pgz, kbz⟩
          · have hmp : 0 < many := by have := INV.out.n0; omega
            have dm : decide (0 < many) = true := by simpa using hmp
            have d0 : (many == 0) = false := by simpa using hm0
            clear hm0
            have hX2 := N2.out
            subst hX2
            obtain ⟨hg1, hg2, hg3, hg4⟩ := hgt.out hmp
            by_cases hl2 : l = wl
            · have dl : (l == wl) = true := by simpa using hl2
              have dt : ((Y - gt) % 4294967296 == (t - wt) % 4294967296) = true := by have := N4.out hmp hl2; simp; omega
              have ht1 : 0 ≤ t := hp.2.2.1
              have ht2 : t ≤ 4294967295 := hp.2.2.2.1
              have HL2 := Lib.hid hl2
              clear hl2
              go_upto_region 26 with fail
              go_quiet (fail)
              go_upto_region 28 with fail
              refine abs_world (fun x => OutAt x b ((a0 + many) % 65536) Y (many + 1) t l ∧ PkAt x bw ws wt wl wlv wst wbv ∧ PkAt x (bw + 1) gs gt gl glv gst gbv ∧ PkAt x w3.heap.size ((a0 + many) % 65536) Y l lv st (.slice oaa bl.length caa) ∧ Below w.heap.size w x) ⟨gz, pwz, pgz, ppz, (by first | exact kbz | exact Below.drewN kbz _)⟩ ?_
              clear gz pwz pgz ppz kbz q0 q1 q2 q3 q4 q5 z0 z1 u1 u2 g1
              rintro wd ⟨gz, pwz, pgz, ppz, kbz⟩
              obtain ⟨q0, q1, q2, q3, q4, q5⟩ := Q.out _ kbz
              have c0 := obj_cell pwz (k := 0) rfl
              have c1 := obj_cell pwz (k := 1) rfl
              have c2 := obj_cell pwz (k := 2) rfl
              have c3 := obj_cell pwz (k := 3) rfl
              have c4 := obj_cell pwz (k := 4) rfl
              have c5 := obj_cell pwz (k := 5) rfl
              have f0 := obj_free pwz 0
              have f1 := obj_free pwz 1
              have f2 := obj_free pwz 2
              have f3 := obj_free pwz 3
              have f4 := obj_free pwz 4
              have f5 := obj_free pwz 5
              go_upto_region 29 with fail
              have kw := keeps_sets wd bw (.int .i64 s) (.int .i64 t) (.int .i64 l) (.int .i64 lv) (.bool st) (.slice boa bl.length bc)
              refine abs_world (fun x => OutAt x b ((a0 + many) % 65536) Y (many + 1) t l ∧ PkAt x bw s t l lv st (.slice boa bl.length bc) ∧ PkAt x (bw + 1) gs gt gl glv gst gbv ∧ PkAt x w3.heap.size ((a0 + many) % 65536) Y l lv st (.slice oaa bl.length caa) ∧ Below w.heap.size w x) ⟨OutAt.other gz kw (by omega), PkAt.sets pwz, PkAt.other pgz kw (by omega), PkAt.other ppz kw (by omega), kbz.trans (Keeps.below kw kbz.size (fun i hi e => by omega))⟩ ?_
              clear gz pwz pgz ppz kbz q0 q1 q2 q3 q4 q5 c0 c1 c2 c3 c4 c5 f0 f1 f2 f3 f4 f5 kw wd
              rintro wd ⟨gz, pwz, pgz, ppz, kbz⟩
              have c0 := obj_cell pgz (k := 0) rfl
              have c1 := obj_cell pgz (k := 1) rfl
              have c2 := obj_cell pgz (k := 2) rfl
              have c3 := obj_cell pgz (k := 3) rfl
              have c4 := obj_cell pgz (k := 4) rfl
              have c5 := obj_cell pgz (k := 5) rfl
              have f0 := obj_free pgz 0
              have f1 := obj_free pgz 1
              have f2 := obj_free pgz 2
              have f3 := obj_free pgz 3
              have f4 := obj_free pgz 4
              have f5 := obj_free pgz 5
              have z0 := obj_cell ppz (k := 0) rfl
              have z1 := obj_cell ppz (k := 1) rfl
              have z2 := obj_cell ppz (k := 2) rfl
              have z3 := obj_cell ppz (k := 3) rfl
              have z4 := obj_cell ppz (k := 4) rfl
              have z5 := obj_cell ppz (k := 5) rfl
              go_upto_region 30 with fail
              have kg := keeps_sets wd (bw + 1) (.int .i64 ((a0 + many) % 65536)) (.int .i64 Y) (.int .i64 l) (.int .i64 lv) (.bool st) (.slice oaa bl.length caa)
              refine abs_world (fun x => OutAt x b ((a0 + many) % 65536) Y (many + 1) t l ∧ PkAt x bw s t l lv st (.slice boa bl.length bc) ∧ PkAt x (bw + 1) ((a0 + many) % 65536) Y l lv st (.slice oaa bl.length caa) ∧ PkAt x w3.heap.size ((a0 + many) % 65536) Y l lv st (.slice oaa bl.length caa) ∧ Below w.heap.size w x) ⟨OutAt.other gz kg (by omega), PkAt.other pwz kg (by omega), PkAt.sets pgz, PkAt.other ppz kg (by omega), kbz.trans (Keeps.below kg kbz.size (fun i hi e => by omega))⟩ ?_
              clear gz pwz pgz ppz kbz c0 c1 c2 c3 c4 c5 f0 f1 f2 f3 f4 f5 z0 z1 z2 z3 z4 z5 kg wd
              rintro wd ⟨gz, pwz, pgz, ppz, kbz⟩
              go_wp2
              go_roundw
              case measure => simp [intOf]; omega
              case rel => exact ⟨k + 1, many + 1, ((a0 + many) % 65536), Y, t, l, s, t, l, lv, ((a0 + many) % 65536), Y, l, lv, st, st, _, _, by omega, by omega, by go_num, by go_num, by omega, N1.out, gz, pwz, pgz, kbz⟩
            · have dl : (l == wl) = false := by simpa using hl2
              clear hl2
              go_upto_region 26 with fail
              go_quiet (fail)
              go_upto_region 28 with fail
              refine abs_world (fun x => OutAt x b ((a0 + many) % 65536) Y (many + 1) t l ∧ PkAt x bw ws wt wl wlv wst wbv ∧ PkAt x (bw + 1) gs gt gl glv gst gbv ∧ PkAt x w3.heap.size ((a0 + many) % 65536) Y l lv st (.slice oaa bl.length caa) ∧ Below w.heap.size w x) ⟨gz, pwz, pgz, ppz, (by first | exact kbz | exact Below.drewN kbz _)⟩ ?_
              clear gz pwz pgz ppz kbz q0 q1 q2 q3 q4 q5 z0 z1 u1 u2 g1
              rintro wd ⟨gz, pwz, pgz, ppz, kbz⟩
              obtain ⟨q0, q1, q2, q3, q4, q5⟩ := Q.out _ kbz
              have c0 := obj_cell pwz (k := 0) rfl
              have c1 := obj_cell pwz (k := 1) rfl
              have c2 := obj_cell pwz (k := 2) rfl
              have c3 := obj_cell pwz (k := 3) rfl
              have c4 := obj_cell pwz (k := 4) rfl
              have c5 := obj_cell pwz (k := 5) rfl
              have f0 := obj_free pwz 0
              have f1 := obj_free pwz 1
              have f2 := obj_free pwz 2
              have f3 := obj_free pwz 3
              have f4 := obj_free pwz 4
              have f5 := obj_free pwz 5
              go_upto_region 29 with fail
              have kw := keeps_sets wd bw (.int .i64 s) (.int .i64 t) (.int .i64 l) (.int .i64 lv) (.bool st) (.slice boa bl.length bc)
              refine abs_world (fun x => OutAt x b ((a0 + many) % 65536) Y (many + 1) t l ∧ PkAt x bw s t l lv st (.slice boa bl.length bc) ∧ PkAt x (bw + 1) gs gt gl glv gst gbv ∧ PkAt x w3.heap.size ((a0 + many) % 65536) Y l lv st (.slice oaa bl.length caa) ∧ Below w.heap.size w x) ⟨OutAt.other gz kw (by omega), PkAt.sets pwz, PkAt.other pgz kw (by omega), PkAt.other ppz kw (by omega), kbz.trans (Keeps.below kw kbz.size (fun i hi e => by omega))⟩ ?_
              clear gz pwz pgz ppz kbz q0 q1 q2 q3 q4 q5 c0 c1 c2 c3 c4 c5 f0 f1 f2 f3 f4 f5 kw wd
              rintro wd ⟨gz, pwz, pgz, ppz, kbz⟩
              have c0 := obj_cell pgz (k := 0) rfl
              have c1 := obj_cell pgz (k := 1) rfl
              have c2 := obj_cell pgz (k := 2) rfl
              have c3 := obj_cell pgz (k := 3) rfl
              have c4 := obj_cell pgz (k := 4) rfl
              have c5 := obj_cell pgz (k := 5) rfl
              have f0 := obj_free pgz 0
              have f1 := obj_free pgz 1
              have f2 := obj_free pgz 2
              have f3 := obj_free pgz 3
              have f4 := obj_free pgz 4
              have f5 := obj_free pgz 5
              have z0 := obj_cell ppz (k := 0) rfl
              have z1 := obj_cell ppz (k := 1) rfl
              have z2 := obj_cell ppz (k := 2) rfl
              have z3 := obj_cell ppz (k := 3) rfl
              have z4 := obj_cell ppz (k := 4) rfl
              have z5 := obj_cell ppz (k := 5) rfl
              go_upto_region 30 with fail
              have kg := keeps_sets wd (bw + 1) (.int .i64 ((a0 + many) % 65536)) (.int .i64 Y) (.int .i64 l) (.int .i64 lv) (.bool st) (.slice oaa bl.length caa)
              refine abs_world (fun x => OutAt x b ((a0 + many) % 65536) Y (many + 1) t l ∧ PkAt x bw s t l lv st (.slice boa bl.length bc) ∧ PkAt x (bw + 1) ((a0 + many) % 65536) Y l lv st (.slice oaa bl.length caa) ∧ PkAt x w3.heap.size ((a0 + many) % 65536) Y l lv st (.slice oaa bl.length caa) ∧ Below w.heap.size w x) ⟨OutAt.other gz kg (by omega), PkAt.other pwz kg (by omega), PkAt.sets pgz, PkAt.other ppz kg (by omega), kbz.trans (Keeps.below kg kbz.size (fun i hi e => by omega))⟩ ?_
              clear gz pwz pgz ppz kbz c0 c1 c2 c3 c4 c5 f0 f1 f2 f3 f4 f5 z0 z1 z2 z3 z4 z5 kg wd
              rintro wd ⟨gz, pwz, pgz, ppz, kbz⟩
              go_wp2
              go_roundw
              case measure => simp [intOf]; omega
              case rel => exact ⟨k + 1, many + 1, ((a0 + many) % 65536), Y, t, l, s, t, l, lv, ((a0 + many) % 65536), Y, l, lv, st, st, _, _, by omega, by omega, by go_num, by go_num, by omega, N1.out, gz, pwz, pgz, kbz⟩
        · go_wp2_with fail
          refine (outNext_bad b s t l lv st _ bl hp wr (hbv.below kb)).mono ?_
          rintro e w3 ⟨rfl, k3⟩
          have kb3 : Below w.heap.size w w3 := kb.trans (k3.mono kb.size)
          have ga3 := OutAt.below ga k3 hla
          have pw3 := PkAt.below pw k3 hlw
          have pg3 := PkAt.below pg k3 hlg
          clear k3 ga pw pg kb q0 q1 q2 q3 q4 q5
          go_upto_region 17 with fail
          refine abs_world (fun x => OutAt x b sq tq many lt ll ∧ PkAt x bw ws wt wl wlv wst wbv ∧ PkAt x (bw + 1) gs gt gl glv gst gbv ∧ Below w.heap.size w x) ⟨OutAt.old ga3 _, PkAt.old pw3 _, PkAt.old pg3 _, Below.alloc kb3 kb3.size _⟩ ?_
          clear ga3 pw3 pg3 kb3
          rintro wx ⟨gx, pwx, pgx, kbx⟩
          obtain ⟨q0, q1, q2, q3, q4, q5⟩ := Q.out _ kbx
          have nf : ¬ Pl.pkFault s t l lv bl.length = 0 := by rcases Pl.pkFault_bad hp with h | h <;> rw [h] <;> decide
          have df : (Pl.pkFault s t l lv bl.length == 0) = false := by simpa using nf
          clear nf
          go_wp2_with fail
          refine (refPk_any s t l lv st boa bl.length bc hbn _).mono ?_
          rintro e w4 ⟨rfl, k4⟩
          have gx4 := OutAt.below gx k4 (lt_of_block gx)
          have pw4 := PkAt.below pwx k4 (lt_of_block pwx)
          have pg4 := PkAt.below pgx k4 (lt_of_block pgx)
          have kb4 := kbx.trans (k4.mono kbx.size)
          clear k4 gx pwx pgx kbx q0 q1 q2 q3 q4 q5
          go_wp2
          go_roundw
          case measure => simp [intOf]; omega
          case rel => exact ⟨k + 1, many, sq, tq, lt, ll, ws, wt, wl, wlv, gs, gt, gl, glv, wst, gst, _, _, by omega, by omega, by go_num, rfl, by omega, INV.out, gx4, pw4, pg4, kb4⟩
      · have : k = 60 := by omega
        subst this
        go_wp2_with fail
        refine (outSent_any b _ _ _ _ _ _ ga).mono ?_
        rintro e w' ⟨rfl, rfl⟩
        go_wp2
        go_ret
        exact ⟨by simp, kb⟩
    · go_wp2_with fail
      refine (outSent_any b _ _ _ _ _ _ ga).mono ?_
      rintro e w' ⟨rfl, rfl⟩
      go_wp2
      go_ret
      exact ⟨by simp, kb⟩

theorem walk_OutRow (w : World) (a0 : Int) (w0 : (Lit.int .i64 a0).wf = true) (a1 : Int) (w1 : (Lit.int .i64 a1).wf = true) (v : Value) (l1 : List Pk) (o1 : IsPks w v l1) :
    Calls Try.prog 4 #[.int .i64 a0, .int .i64 a1, v] w fun e w' => e = .returned (.bool true) ∧ Below w.heap.size w w' := by
  by_cases h : 0 ≤ a0 ∧ a0 ≤ 65535 ∧ 0 ≤ a1 ∧ a1 ≤ 4294967295
  · have h0 : Pl.seq a0 = true := (Pl.seq_iff _).2 ⟨h.1, h.2.1⟩
    have h1 : Pl.word a1 := h.2.2
    rcases o1 with ⟨⟨rfl, oa, cap, rfl, _, _⟩ | ⟨b1, f1, c1, rfl, q1, q2, q3⟩, hg⟩
    · exact walk_OutRow_none w a0 a1 h0 h1 oa cap
    · by_cases hn : l1 = []
      · subst hn
        exact walk_OutRow_none w a0 a1 h0 h1 _ c1
      · have hp : 0 < l1.length := List.length_pos_iff.2 hn
        exact walk_OutRow_run w a0 a1 h0 h1 b1 f1 c1 l1 q1 q2 q3 hg (Sl.lt (q3 0 hp 0 _ rfl))
  · exact walk_OutRow_bad w a0 a1 v h
end Go.Proofs.Ytlmladaajhimbaa
