import Derived.Test.YtcicfchpcbfdkaaGreatDoorClone
import Derived.Test.YtcicfchpcbfdkaaGreatDoorPk
import Derived.RegionTactic
import Derived.Deep.DeepCutAuto
import Derived.Deep.DeepCutAuto
import Derived.Deep.DeepCutAuto
import Derived.Deep.DeepCutAuto
import Derived.Deep.DeepCutAuto
import Derived.Deep.DeepCutAuto
import Derived.Deep.DeepCutAuto
import Derived.Deep.DeepCutAuto
import Derived.BigRegion
import Derived.Deep.RegionWith
import Derived.ChangeAlike
/-! Contracts of package out. -/
namespace Go.Proofs.YtcicfchpcbfdkaaGreatDoor
open Go.RowKit
set_option linter.unusedVariables false
set_option linter.unusedSimpArgs false

/-- a row in memory: the last packet's time and layer -/
def OutAt (w : World) (b : Nat) (seq time sent lt ll : Int) : Prop := w.heap[b]? = some (.cells #[.int .i64 seq, .int .i64 time, .int .i64 sent, .int .i64 0, .int .i64 lt, .int .i64 ll, .int .i64 0, .bool false, .slice none 0 0] 184 (0, 0))
namespace Pl
def outSeq (sent seq : Int) : Int := if 0 < sent then (seq + 1) % 65536 else seq
def outTime (sent time lt ll t l : Int) : Int := if 0 < sent then (time + (if l = ll then t - lt else 1)) % 4294967296 else time
def word (n : Int) : Prop := 0 ≤ n ∧ n ≤ 4294967295
instance (n : Int) : Decidable (word n) := by unfold word; infer_instance
theorem and_low32 (x : Int) : bits .and .i64 x 4294967295 = x % 4294967296 := by
  unfold bits
  have h : (BitVec.ofInt 64 x &&& BitVec.ofInt 64 4294967295).toNat = (x % 4294967296).toNat := by
    rw [BitVec.toNat_and, BitVec.toNat_ofInt, BitVec.toNat_ofInt]
    have e : ((4294967295 : Int) % (2 ^ 64 : Nat)).toNat = 2 ^ 32 - 1 := by decide
    rw [e, Nat.and_two_pow_sub_one_eq_mod]
    omega
  show IntKind.i64.wrap (((BitVec.ofInt 64 x &&& BitVec.ofInt 64 4294967295).toNat : Nat) : Int) = _
  rw [h, IntKind.wrap_i64]
  omega
end Pl

/-- a packet in memory, at the head of block g -/
def PkAt (w : World) (g : Nat) (s t l lv : Int) (st : Bool) (bv : Value) : Prop := w.heap[g]? = some (.cells #[.int .i64 s, .int .i64 t, .int .i64 l, .int .i64 lv, .bool st, bv] 31 (0, 0))
theorem abs_world {P : Program} {c : Code} {Q : Exit → Act → World → Prop} {a : Act} {W : World} (S : World → Prop) (h : S W) (k : ∀ wq, S wq → c.wp P Q a wq) : c.wp P Q a W := k W h

theorem outNew_ok (seq time : Int) (h1 : Pl.seq seq = true) (h2 : Pl.word time) (w : World) :
    Calls Tryz.prog 67 #[.int .i64 seq, .int .i64 time] w fun e w' => ∃ b, e = .returned (.tuple #[.pointer (some ⟨b, 0, none⟩), .nilIface]) ∧ w.heap.size ≤ b ∧ OutAt w' b seq time 0 0 0 ∧ Below w.heap.size w w' := by
  obtain ⟨h3, h4⟩ := h2
  go_enter Tryz.func67, Tryz.ntmps67
  go_wp2_with (go_at_call 56; refine (seq_any _ _).mono ?_; rw [h1]; rintro e w' ⟨rfl, rfl⟩)
  go_ret2
  exact ⟨_, rfl, Nat.le_refl _, obj_new _ _, (Below.refl _ _).alloc (Nat.le_refl _) _⟩
theorem outNew_bad (seq time : Int) (h : ¬ (0 ≤ seq ∧ seq ≤ 65535 ∧ 0 ≤ time ∧ time ≤ 4294967295)) (w : World) :
    Calls Tryz.prog 67 #[.int .i64 seq, .int .i64 time] w fun e w' => e = .returned (.tuple #[.pointer none, .iface 62 (.int .i64 1)]) ∧ w = w' := by
  have G := Lib.hid h
  clear h
  cases hs : Pl.seq seq
  · go_enter Tryz.func67, Tryz.ntmps67
    go_wp2_with (go_at_call 56; refine (seq_any _ _).mono ?_; rw [hs]; rintro e w' ⟨rfl, rfl⟩)
    go_ret2
    exact ⟨rfl, rfl⟩
  · go_enter Tryz.func67, Tryz.ntmps67
    go_wp2_with (go_at_call 56; refine (seq_any _ _).mono ?_; rw [hs]; rintro e w' ⟨rfl, rfl⟩)
    all_goals first
      | (go_ret2; exact ⟨rfl, rfl⟩)
      | (exfalso; have := (Pl.seq_iff _).1 hs; have := G.out; omega)
set_option maxRecDepth 100000 in
set_option maxHeartbeats 1000000 in
theorem outNext_bad (b : Nat) (s t l lv : Int) (st : Bool) (bv : Value) (body : List UInt8) (hp : ¬ Pl.pkOk s t l lv body.length) (w : World) (hv : IsBytes w bv body) :
    Calls Tryz.prog 92 #[.pointer (some ⟨b, 0, none⟩), pkV s t l lv st bv] w fun e w' => e = .returned (.tuple #[pkV 0 0 0 0 false (.slice none 0 0), .iface 62 (.int .i64 (Pl.pkFault s t l lv body.length))]) ∧ Below w.heap.size w w' := by
  obtain ⟨oa, c, rfl, hn⟩ := bytes_slice hv
  go_enter Tryz.func92, Tryz.ntmps92
  go_wp2_with fail
  refine (check_bad s t l lv st oa body.length c hn hp _).mono ?_
  rintro e w1 ⟨rfl, hb'⟩
  simp at hb'
  have q1 : PkAt w1 (w.heap.size + 1) 0 0 0 0 false (.slice none 0 0) := Below.heapAt hb' (obj_new2 _ _ _) (by omega)
  have kb : Below w.heap.size w w1 := (((Below.refl _ _).alloc (Nat.le_refl _) _).alloc (by simp) _).trans (hb'.mono (by omega))
  have e0 := obj_cell q1 (k := 0) rfl
  have e1 := obj_cell q1 (k := 1) rfl
  have e2 := obj_cell q1 (k := 2) rfl
  have e3 := obj_cell q1 (k := 3) rfl
  have e4 := obj_cell q1 (k := 4) rfl
  have e5 := obj_cell q1 (k := 5) rfl
  have fe := obj_free q1
  have f0 := obj_free q1 0
  have f1 := obj_free q1 1
  have f2 := obj_free q1 2
  have f3 := obj_free q1 3
  have f4 := obj_free q1 4
  have f5 := obj_free q1 5
  go_upto_region 3 with fail
  go_cut [5] (fun s5 x => s5 = .iface 62 (.int .i64 (Pl.pkFault s t l lv body.length)) ∧ Below w.heap.size w x ∧ PkAt x (w.heap.size + 1) 0 0 0 0 false (.slice none 0 0))
  case first =>
    go_wp2_with fail
    go_meet
    have hl : w.heap.size ≤ w.heap.size + 1 := by omega
    exact ⟨rfl, Below.setCell (Below.setCell (Below.setCell (Below.setCell (Below.setCell (Below.setCell kb hl _) hl _) hl _) hl _) hl _) hl _, obj_set (obj_set (obj_set (obj_set (obj_set (obj_set q1 0 _) 1 _) 2 _) 3 _) 4 _) 5 _⟩
  case rest =>
  clear kb q1 e0 e1 e2 e3 e4 e5 f0 f1 f2 f3 f4 f5
  obtain ⟨rfl, kb, q1⟩ := hcut
  have e0 := obj_cell q1 (k := 0) rfl
  have e1 := obj_cell q1 (k := 1) rfl
  have e2 := obj_cell q1 (k := 2) rfl
  have e3 := obj_cell q1 (k := 3) rfl
  have e4 := obj_cell q1 (k := 4) rfl
  have e5 := obj_cell q1 (k := 5) rfl
  go_wp2
  refine bodyPost_ret (v := .tuple #[pkV 0 0 0 0 false (.slice none 0 0), .iface 62 (.int .i64 (Pl.pkFault s t l lv body.length))]) (by simp [results, Tryz.results92, go_sem, e0, e1, e2, e3, e4, e5]) rfl ?_
  exact ⟨rfl, kb⟩

theorem keeps_step {b N : Nat} {w a c : World} (h : KeepsBut b w a) (k : Keeps (fun j => j = N) a c) (hN : w.heap.size ≤ N) : KeepsBut b w c :=
  ⟨k.os.trans h.os, k.tape.trans h.tape, k.output.trans h.output, Nat.le_trans h.size k.size, fun i hi hs => (k.block i (Nat.lt_of_lt_of_le hi h.size) (fun e => by omega)).trans (h.block i hi hs)⟩
theorem iv_step {n : Nat} {a c : World} {P : World → Prop} (h : ∀ W, Keeps (fun k => k < n + 2) a W → P W) (k : Keeps (fun j => j = n + 1) a c) : ∀ W, Keeps (fun k => k < n) c W → P W :=
  fun W hW => h W (Keeps.trans (Keeps.mono k (fun i _ hi => by omega)) (Keeps.mono hW (fun i _ hi => by omega)))
theorem OutAt.other {a c : World} {b N : Nat} {seq time sent lt ll : Int} (h : OutAt a b seq time sent lt ll) (k : Keeps (fun j => j = N) a c) (hn : b ≠ N) : OutAt c b seq time sent lt ll := Keeps.heap k h hn
theorem OutAt.set0 {w : World} {b : Nat} {seq time sent lt ll : Int} (h : OutAt w b seq time sent lt ll) (x : Int) : OutAt (w.setCell ⟨b, 0, none⟩ (.int .i64 x)) b x time sent lt ll := obj_set h 0 _
theorem OutAt.set1 {w : World} {b : Nat} {seq time sent lt ll : Int} (h : OutAt w b seq time sent lt ll) (x : Int) : OutAt (w.setCell ⟨b, 1, none⟩ (.int .i64 x)) b seq x sent lt ll := obj_set h 1 _
theorem OutAt.set2 {w : World} {b : Nat} {seq time sent lt ll : Int} (h : OutAt w b seq time sent lt ll) (x : Int) : OutAt (w.setCell ⟨b, 2, none⟩ (.int .i64 x)) b seq time x lt ll := obj_set h 2 _

set_option maxRecDepth 100000 in
set_option maxHeartbeats 4000000 in
/-- behind the check, and behind what is reckoned -/
theorem outNext_ok (b : Nat) (seq time sent lt ll s t l lv : Int) (st : Bool) (bv : Value) (body : List UInt8) (hp : Pl.pkOk s t l lv body.length) (h1 : Pl.seq seq = true) (h2 : Pl.word time) (h3 : 0 ≤ sent) (h4 : sent ≤ 1000000) (h5 : Pl.word lt) (w : World) (hg : OutAt w b seq time sent lt ll) (hv : ∀ W, KeepsBut b w W → IsBytes W bv body) :
    Calls Tryz.prog 92 #[.pointer (some ⟨b, 0, none⟩), pkV s t l lv st bv] w fun e w' => ∃ v', e = .returned (.tuple #[pkV (Pl.outSeq sent seq) (Pl.outTime sent time lt ll t l) l lv st v', .nilIface]) ∧ (∀ W, Keeps (fun k => k < w.heap.size) w' W → IsBytes W v' body) ∧ OutAt w' b (Pl.outSeq sent seq) (Pl.outTime sent time lt ll t l) (sent + 1) t l ∧ KeepsBut b w w' := by
  have hb := lt_of_block hg
  obtain ⟨oa, c, rfl, hn⟩ := bytes_slice (hv w (KeepsBut.refl _ _))
  go_enter Tryz.func92, Tryz.ntmps92
  go_wp2_with fail
  refine (check_ok s t l lv st oa body.length c hp _).mono ?_
  rintro e w1 ⟨rfl, hb'⟩
  simp at hb'
  have q0 : PkAt w1 w.heap.size s t l lv st (.slice oa body.length c) := Below.heapAt hb' (obj_old (obj_new _ _) _) (by omega)
  have q1 : PkAt w1 (w.heap.size + 1) 0 0 0 0 false (.slice none 0 0) := Below.heapAt hb' (obj_new2 _ _ _) (by omega)
  have kb : Below w.heap.size w w1 := (((Below.refl _ _).alloc (Nat.le_refl _) _).alloc (by simp) _).trans (hb'.mono (by omega))
  have gg : OutAt w1 b seq time sent lt ll := Below.heapAt kb hg hb
  have HV := Lib.hid hv
  clear hv
  have Fin := Lib.hid (show ∀ (x y : Int) v' w2, x = Pl.outSeq sent seq → y = Pl.outTime sent time lt ll t l → (∀ W, Keeps (fun k => k < w.heap.size) w2 W → IsBytes W v' body) → OutAt w2 b x y (sent + 1) t l → KeepsBut b w w2 →
      ∃ v'', Ending.returned (.tuple #[pkV x y l lv st v', .nilIface]) = .returned (.tuple #[pkV (Pl.outSeq sent seq) (Pl.outTime sent time lt ll t l) l lv st v'', .nilIface]) ∧ (∀ W, Keeps (fun k => k < w.heap.size) w2 W → IsBytes W v'' body) ∧ OutAt w2 b (Pl.outSeq sent seq) (Pl.outTime sent time lt ll t l) (sent + 1) t l ∧ KeepsBut b w w2 from by
    rintro x y v' w2 rfl rfl g1 g2 g3; exact ⟨v', rfl, g1, g2, g3⟩)
  have hle : body.length ≤ 100000000000 := by unfold Pl.pkOk at hp; omega
  have kk : KeepsBut b w w1 := Below.toKeeps kb (Nat.le_refl _)
  obtain ⟨h6, h7⟩ := (Pl.seq_iff _).1 h1
  obtain ⟨h8, h9⟩ := h2
  obtain ⟨h10, h11⟩ := h5
  obtain ⟨_, _, h12, h13, _⟩ := hp
  have c0 := obj_cell gg (k := 0) rfl
  have c1 := obj_cell gg (k := 1) rfl
  have c2 := obj_cell gg (k := 2) rfl
  have c4 := obj_cell gg (k := 4) rfl
  have c5 := obj_cell gg (k := 5) rfl
  have f0 := obj_free gg 0
  have f1 := obj_free gg 1
  have r1 := obj_cell q0 (k := 1) rfl
  have r2 := obj_cell q0 (k := 2) rfl
  have n1 : b ≠ w.heap.size := by omega
  have n2 : b ≠ w.heap.size + 1 := by omega
  clear h1 hb' kb
  go_upto_if 18 with fail
  go_cut [7] (fun _ x => OutAt x b (Pl.outSeq sent seq) (Pl.outTime sent time lt ll t l) sent lt ll ∧ KeepsBut b w x ∧ PkAt x w.heap.size s t l lv st (.slice oa body.length c) ∧ PkAt x (w.heap.size + 1) 0 0 0 0 false (.slice none 0 0))
  case first =>
    by_cases hs : 0 < sent
    · have ES := Lib.hid (show (seq + 1) % 65536 = Pl.outSeq sent seq by unfold Pl.outSeq; rw [if_pos hs])
      cases d1 : (l == ll)
      · have hne : ¬ l = ll := by simpa using d1
        have ET := Lib.hid (show (time + 1) % 4294967296 = Pl.outTime sent time lt ll t l by unfold Pl.outTime; rw [if_pos hs, if_neg hne])
        clear hne
        go_wp2_with fail
        go_region
        go_upto_region 9 with fail
        refine abs_world (fun x => OutAt x b ((seq + 1) % 65536) time sent lt ll ∧ KeepsBut b w x ∧ PkAt x w.heap.size s t l lv st (.slice oa body.length c) ∧ PkAt x (w.heap.size + 1) 0 0 0 0 false (.slice none 0 0)) ⟨?_, ?_, ?_, ?_⟩ ?_
        · rw [← Pl.and_low16]; exact OutAt.set0 gg _
        · exact Keeps.drew (KeepsBut.set kk _ _)
        · exact obj_other q0 n1 _
        · exact obj_other q1 n2 _
        clear gg kk q0 q1 c0 c1 c2 c4 c5 f0 f1 r1 r2
        rintro wq ⟨gq, kq, p0, p1⟩
        have c1 := obj_cell gq (k := 1) rfl
        have f1 := obj_free gq 1
        go_wp2_with fail
        go_meet
        refine ⟨?_, KeepsBut.set kq _ _, obj_other p0 n1 _, obj_other p1 n2 _⟩
        rw [← ES.out, ← ET.out, ← Pl.and_low32]; exact OutAt.set1 gq _
      · have heq : l = ll := by simpa using d1
        have ET := Lib.hid (show (time + (t - lt)) % 4294967296 = Pl.outTime sent time lt ll t l by unfold Pl.outTime; rw [if_pos hs, if_pos heq])
        go_wp2_with fail
        go_region
        go_wp2_with fail
        go_region
        go_upto_region 9 with fail
        refine abs_world (fun x => OutAt x b ((seq + 1) % 65536) time sent lt ll ∧ KeepsBut b w x ∧ PkAt x w.heap.size s t l lv st (.slice oa body.length c) ∧ PkAt x (w.heap.size + 1) 0 0 0 0 false (.slice none 0 0)) ⟨?_, ?_, ?_, ?_⟩ ?_
        · rw [← Pl.and_low16]; exact OutAt.set0 gg _
        · exact Keeps.drew (Keeps.drew (KeepsBut.set kk _ _))
        · exact obj_other q0 n1 _
        · exact obj_other q1 n2 _
        clear gg kk q0 q1 c0 c1 c2 c4 c5 f0 f1 r1 r2
        rintro wq ⟨gq, kq, p0, p1⟩
        have c1 := obj_cell gq (k := 1) rfl
        have f1 := obj_free gq 1
        go_wp2_with fail
        go_meet
        refine ⟨?_, KeepsBut.set kq _ _, obj_other p0 n1 _, obj_other p1 n2 _⟩
        rw [← ES.out, ← ET.out, ← Pl.and_low32]; exact OutAt.set1 gq _
    · go_wp2_with fail
      go_meet
      exact ⟨by unfold Pl.outSeq Pl.outTime; rw [if_neg (by omega), if_neg (by omega)]; exact gg, kk, q0, q1⟩
  case rest =>
  clear gg kk q0 q1 c0 c1 c2 c4 c5 f0 f1 r1 r2
  obtain ⟨gq, kq, p0, p1⟩ := hcut
  obtain ⟨X, hX⟩ : ∃ X, X = Pl.outSeq sent seq := ⟨_, rfl⟩
  obtain ⟨Y, hY⟩ : ∃ Y, Y = Pl.outTime sent time lt ll t l := ⟨_, rfl⟩
  rw [← hX, ← hY] at gq
  have HX := Lib.hid hX
  have HY := Lib.hid hY
  clear hX hY
  have c0 := obj_cell gq (k := 0) rfl
  have c1 := obj_cell gq (k := 1) rfl
  have c2 := obj_cell gq (k := 2) rfl
  have f2 := obj_free gq 2
  go_upto_region 11 with fail
  go_cut [] (fun x => OutAt x b X Y (sent + 1) t l ∧ KeepsBut b w x ∧ PkAt x w.heap.size s t l lv st (.slice oa body.length c) ∧ PkAt x (w.heap.size + 1) 0 0 0 0 false (.slice none 0 0))
  case first =>
    refine abs_world (fun x => OutAt x b X Y (sent + 1) lt ll ∧ KeepsBut b w x ∧ PkAt x w.heap.size s t l lv st (.slice oa body.length c) ∧ PkAt x (w.heap.size + 1) 0 0 0 0 false (.slice none 0 0)) ⟨OutAt.set2 gq _, KeepsBut.set kq _ _, obj_other p0 n1 _, obj_other p1 n2 _⟩ ?_
    clear gq kq p0 p1 c0 c1 c2 f2
    rintro wq ⟨gq, kq, p0, p1⟩
    have c3 := obj_cell gq (k := 3) rfl
    have c4 := obj_cell gq (k := 4) rfl
    have c5 := obj_cell gq (k := 5) rfl
    have c6 := obj_cell gq (k := 6) rfl
    have c7 := obj_cell gq (k := 7) rfl
    have c8 := obj_cell gq (k := 8) rfl
    have f3 := obj_free gq 3
    have f4 := obj_free gq 4
    have f5 := obj_free gq 5
    have f6 := obj_free gq 6
    have f7 := obj_free gq 7
    have f8 := obj_free gq 8
    have r1 := obj_cell p0 (k := 1) rfl
    have r2 := obj_cell p0 (k := 2) rfl
    go_wp2_with fail
    go_meet
    exact ⟨obj_set (obj_set (obj_set (obj_set (obj_set (obj_set gq 3 _) 4 _) 5 _) 6 _) 7 _) 8 _, KeepsBut.set (KeepsBut.set (KeepsBut.set (KeepsBut.set (KeepsBut.set (KeepsBut.set kq _ _) _ _) _ _) _ _) _ _) _ _,
      obj_other (obj_other (obj_other (obj_other (obj_other (obj_other p0 n1 _) n1 _) n1 _) n1 _) n1 _) n1 _, obj_other (obj_other (obj_other (obj_other (obj_other (obj_other p1 n2 _) n2 _) n2 _) n2 _) n2 _) n2 _⟩
  case rest =>
  clear gq kq p0 p1 c0 c1 c2 f2
  obtain ⟨gq, kq, p0, p1⟩ := hcut
  have c0 := obj_cell gq (k := 0) rfl
  have c1 := obj_cell gq (k := 1) rfl
  have r5 := obj_cell p0 (k := 5) rfl
  have lb := lt_of_block gq
  have l0 := lt_of_block p0
  have l1 := lt_of_block p1
  go_upto_region 12 with fail
  go_cut [] (fun x => ∃ oa9 c9, (∀ W, Keeps (fun k => k < w.heap.size + 2) x W → IsBytes W (.slice oa9 body.length c9) body) ∧ OutAt x b X Y (sent + 1) t l ∧ KeepsBut b w x ∧ PkAt x w.heap.size X Y l lv st (.slice oa9 body.length c9) ∧ PkAt x (w.heap.size + 1) 0 0 0 0 false (.slice none 0 0))
  case first =>
    have vq := HV.out _ kq
    go_region_with (go_at_call 49; refine (clone_any _ body _ (by first | exact vq | exact vq.drew) hle).mono ?_; rintro e w9 ⟨v9, rfl, iv9, kb9⟩; obtain ⟨oa9, c9, rfl, _⟩ := bytes_slice (iv9 _ (Keeps.refl _ _)); have k9 : Below wc.heap.size wc w9 := (by first | exact kb9 | exact Below.trans (Below.drew (Below.refl _ _)) kb9); clear kb9; have c0' := obj_cell (Below.heapAt k9 gq lb) (k := 0) rfl; have c1' := obj_cell (Below.heapAt k9 gq lb) (k := 1) rfl; have s0 := obj_cell (Below.heapAt k9 p0 l0) (k := 0) rfl; have s1 := obj_cell (Below.heapAt k9 p0 l0) (k := 1) rfl; have s5 := obj_cell (Below.heapAt k9 p0 l0) (k := 5) rfl; have t0 := obj_free (Below.heapAt k9 p0 l0) 0; have t1 := obj_free (Below.heapAt k9 p0 l0) 1; have t5 := obj_free (Below.heapAt k9 p0 l0) 5)
    all_goals
      rename_i oa9 c9 _ iv9 k9 _ _ _ _ _ _ _ _
      go_wp2_with fail
      go_meet
      have hn := Ne.symm n1
      have hn2 : (w.heap.size : Nat) ≠ w.heap.size + 1 := by omega
      have kq9 : KeepsBut b w w9 := Keeps.trans kq (Below.toKeeps k9 (Nat.le_refl _) |>.mono (fun _ _ h => h))
      have kk3 : Keeps (fun k => k < wc.heap.size) w9 (((w9.setCell ⟨w.heap.size, 0, none⟩ (.int .i64 X)).setCell ⟨w.heap.size, 1, none⟩ (.int .i64 Y)).setCell ⟨w.heap.size, 5, none⟩ (.slice oa9 body.length c9)) := Keeps.setCell (Keeps.setCell (Keeps.setCell (Keeps.refl _ _) (.inl l0) _) (.inl l0) _) (.inl l0) _
      refine ⟨oa9, c9, fun W hW => iv9 W (Keeps.trans kk3 (hW.mono (fun k _ hk => Nat.lt_of_lt_of_le hk l1))), ?_, ?_, ?_, ?_⟩
      · exact obj_other (obj_other (obj_other (Below.heapAt k9 gq lb) hn _) hn _) hn _
      · exact Keeps.setCell (Keeps.setCell (Keeps.setCell kq9 (.inr (Nat.le_refl _)) _) (.inr (Nat.le_refl _)) _) (.inr (Nat.le_refl _)) _
      · exact obj_set (obj_set (obj_set (Below.heapAt k9 p0 l0) 0 _) 1 _) 5 _
      · exact obj_other (obj_other (obj_other (Below.heapAt k9 p1 l1) hn2 _) hn2 _) hn2 _
  case rest =>
  clear gq kq p0 p1 c0 c1 r5 lb l0 l1
  obtain ⟨oa9, c9, iv9, gr, kr, p0, p1⟩ := hcut
  have IV := Lib.hid iv9
  clear iv9
  have s0 := obj_cell p0 (k := 0) rfl
  have s1 := obj_cell p0 (k := 1) rfl
  have s2 := obj_cell p0 (k := 2) rfl
  have s3 := obj_cell p0 (k := 3) rfl
  have s4 := obj_cell p0 (k := 4) rfl
  have s5 := obj_cell p0 (k := 5) rfl
  have e0 := obj_cell p1 (k := 0) rfl
  have e1 := obj_cell p1 (k := 1) rfl
  have e2 := obj_cell p1 (k := 2) rfl
  have e3 := obj_cell p1 (k := 3) rfl
  have e4 := obj_cell p1 (k := 4) rfl
  have e5 := obj_cell p1 (k := 5) rfl
  have f0 := obj_free p1 0
  have f1 := obj_free p1 1
  have f2 := obj_free p1 2
  have f3 := obj_free p1 3
  have f4 := obj_free p1 4
  have f5 := obj_free p1 5
  have hn := Ne.symm n2
  have hn0 : (w.heap.size + 1 : Nat) ≠ w.heap.size := by omega
  go_upto_region 13 with fail
  go_cut [5] (fun s5 x => s5 = .nilIface ∧ KeepsBut (w.heap.size + 1) wc x ∧ PkAt x (w.heap.size + 1) X Y l lv st (.slice oa9 body.length c9))
  case first =>
    go_wp2_with fail
    go_meet
    exact ⟨rfl, KeepsBut.set (KeepsBut.set (KeepsBut.set (KeepsBut.set (KeepsBut.set (KeepsBut.set (KeepsBut.refl _ _) _ _) _ _) _ _) _ _) _ _) _ _, obj_set (obj_set (obj_set (obj_set (obj_set (obj_set p1 0 _) 1 _) 2 _) 3 _) 4 _) 5 _⟩
  case rest =>
  clear s0 s1 s2 s3 s4 s5 e0 e1 e2 e3 e4 e5 f0 f1 f2 f3 f4 f5 p1
  obtain ⟨rfl, kx, p1⟩ := hcut
  have e0 := obj_cell p1 (k := 0) rfl
  have e1 := obj_cell p1 (k := 1) rfl
  have e2 := obj_cell p1 (k := 2) rfl
  have e3 := obj_cell p1 (k := 3) rfl
  have e4 := obj_cell p1 (k := 4) rfl
  have e5 := obj_cell p1 (k := 5) rfl
  go_wp2
  refine bodyPost_ret (v := .tuple #[pkV X Y l lv st (.slice oa9 body.length c9), .nilIface]) (by simp [results, Tryz.results92, go_sem, e0, e1, e2, e3, e4, e5]) rfl ?_
  exact Fin.out X Y _ _ HX.out HY.out (iv_step IV.out kx) (OutAt.other gr kx n2) (keeps_step kr kx (Nat.le_succ _))
end Go.Proofs.YtcicfchpcbfdkaaGreatDoor
