import Derived.Test.YticihmkgdabgiaaDoorBytes
import Derived.Test.YticihmkgdabgiaaDoorCrc
import Derived.Test.YticihmkgdabgiaaDoorPCrcTwo
/-! crc.Seal. -/
namespace Go.Proofs.YticihmkgdabgiaaDoor
open Go.RowKit
set_option linter.unusedVariables false
set_option linter.unusedSimpArgs false
set_option maxRecDepth 100000 in
set_option maxHeartbeats 4000000 in
theorem seal_any (v : Value) (l : List UInt8) (w : World) (hv : IsBytes w v l) (hl : l.length ≤ 140737488355324) :
    Calls Tryd.prog 34 #[v] w fun e w' => ∃ v', e = .returned v' ∧ OwnB w' w.heap.size v' (Pl.sealB l) ∧ Below w.heap.size w w' := by
  obtain ⟨s1, s2⟩ := Pl.sumI_bd l
  have HV := Lib.hid hv
  have HL := Lib.hid hl
  have SEAL := Lib.hid (show Pl.sealB l = l ++ Pl.putB (Pl.sumI l) 4 from rfl)
  clear hv hl
  generalize hn : Pl.sumI l = n at *
  have HN := Lib.hid hn
  clear hn
  have E3 : n / 16777216 = ((Pl.byteAt n 3).toNat : Int) := by rw [Pl.byteAt_toNat, show (256 : Int) ^ 3 = 16777216 by decide]; omega
  have E2 := Pl.byte_wrap n 2 65536 (by decide)
  have E1 := Pl.byte_wrap n 1 256 (by decide)
  have E0 := Pl.byte_wrap0 n
  have E := Lib.hid (And.intro E3 (And.intro E2 (And.intro E1 E0)))
  clear E3 E2 E1 E0
  go_enter Tryd.func34, Tryd.ntmps34
  go_wp2_with fail
  refine (crcSum_any v l w HV.out).mono ?_
  rintro e w' ⟨he, rfl⟩
  rw [HN.out] at he
  subst he
  go_wp2_with fail
  refine (clone_own v l w HV.out (by have := HL.out; omega)).mono ?_
  rintro e w1 ⟨v1, rfl, o1, k1⟩
  have O1 := Lib.hid o1
  have K1 := Lib.hid k1
  clear o1 k1
  have RUN := Lib.hid (fun (a b c d : Int) (ha : a = ((Pl.byteAt n 3).toNat : Int)) (hb : b = ((Pl.byteAt n 2).toNat : Int)) (hc : c = ((Pl.byteAt n 1).toNat : Int)) (hd : d = ((Pl.byteAt n 0).toNat : Int)) => run_append_bytes (base := w.heap.size) (l1 := l) (l2 := Pl.putB n 4) (src := .slice (some ⟨w1.heap.size, 0, none⟩) 4 4) (w1.alloc (.cells #[.int .u8 a, .int .u8 b, .int .u8 c, .int .u8 d] 5)) (OwnB.alloc O1.out _) (OwnB.lit w1 (Pl.putB n 4) _ 4 rfl (by subst ha hb hc hd; rfl) (by simp [Pl.putB]) (Nat.le_refl _)).reads (by have := K1.out.size; simp; omega) (by have := HL.out; simp [Pl.putB]; omega))
  go_wp2_with (at_builtin; obtain ⟨v', w', hr, ho, hg⟩ := RUN.out _ _ _ _ E.out.1 E.out.2.1 E.out.2.2.1 E.out.2.2.2; refine Lib.wpList_append_run _ rfl (.tmp 7) (.tmp 19) 22 22 rfl _ _ rfl rfl _ _ hr ?_)
  go_ret
  exact ⟨_, rfl, by rw [SEAL.out]; exact ho, (K1.out.trans ((Below.refl _ _).alloc (by have := K1.out.size; omega) _)).trans (below_row (OwnB.alloc O1.out _) hg (Nat.le_refl _) (by have := K1.out.size; simp; omega))⟩
end Go.Proofs.YticihmkgdabgiaaDoor
