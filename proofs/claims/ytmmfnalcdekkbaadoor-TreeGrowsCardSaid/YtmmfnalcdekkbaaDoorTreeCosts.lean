import Derived.Test.YtmmfnalcdekkbaaDoorTreeCheck
import Derived.Test.YtmmfnalcdekkbaaDoorArr
import Derived.Deep.MidRow
import Derived.RegionTactic
import Derived.BigRegion
/-! tree.costs. -/
namespace Go.Proofs.YtmmfnalcdekkbaaDoor
open Go.RowKit
set_option linter.unusedVariables false
set_option linter.unusedSimpArgs false
/-- the costs, as they lie -/
def costAt (L : List Ed) (p : Nat) : Int := Pl.costF L ((p / 16 : Nat) : Int) ((p % 16 : Nat) : Int)
abbrev MatAt (w : World) (G : Nat) (p : Nat → Int) : Prop := ArrAt encI 256 49 w G p
theorem zero256 (w : World) : (zeroValue 49).run Tryd.prog w = .ok (.agg (Array.replicate 256 (.int .i64 0))) w := by kernel_rfl
theorem results_cell_load {P : Program} {fn : Func} {p : Tmp} {ty : TypeId} (h : fn.results = #[.cell p ty]) (tmps : Array Value) (w : World) (a : Addr) (v : Value)
    (hp : tmps.getD p undef = .pointer (some a)) (hl : (loadVar ty a).run P w = .ok v w) : (results fn tmps).run P w = .ok v w := by
  have hp' : tmps[p]?.getD undef = .pointer (some a) := by simpa using hp
  simp [results, h, hp', asAddr, hl]
theorem info256 : (Tryd.prog.info? 49).map (·.size) = some 256 := by kernel_rfl
theorem Below.setCellsE {B : Nat} {a : World} (b : Nat) (hb : B ≤ b) : ∀ (vs : List Value) (o : Nat) (w : World), Below B a w → Below B a (w.setCells b o vs)
  | [], _, _, h => h
  | v :: r, o, w, h => Below.setCellsE b hb r (o + 1) _ (Below.setCell h hb v)
set_option maxRecDepth 100000 in
set_option maxHeartbeats 4000000 in
theorem costs_any (n : Int) (oa : Option Addr) (cp : Nat) (L : List Ed) (w : World) (hL : IsEds w (.slice oa L.length cp) L) (hg : Pl.GoodE n L) :
    Calls Tryd.prog 20 #[.slice oa L.length cp] w fun e w' => ∃ cs : Array Value, e = .returned (.agg cs) ∧ cs.size = 256 ∧ (∀ j, j < 256 → cs[j]? = some (encI (costAt L j))) ∧ Below w.heap.size w w' := by
  have HL := Lib.hid hL
  have HG := Lib.hid hg
  have hl2 := hg.len
  clear hL hg
  have hz := zero256
  go_enter Tryd.func20, Tryd.ntmps20
  go_upto_region 2 with fail
  obtain ⟨G, hG⟩ : ∃ G, w.heap.size = G := ⟨_, rfl⟩
  have HGs := Lib.hid hG
  refine abs_t (fun y => Hid (MatAt y w.heap.size (costAt [])) ∧ Hid (Below w.heap.size w y)) ⟨Lib.hid ((ArrAt.new (enc := encI) w 49 256 0).ext (fun j _ => rfl)), Lib.hid ((Below.refl _ _).alloc (Nat.le_refl _) _)⟩ ?_
  rw [hG]
  clear hG hz
  rintro y ⟨MA, KB⟩
  go_loopw [7] (fun s7 wr => ∃ i : Nat, i ≤ L.length ∧ s7 = .int .i64 i ∧ Hid (MatAt wr G (costAt (L.take i))) ∧ Hid (Below G w wr)) (fun s7 _ => L.length - (intOf s7).toNat)
  case atStart => exact ⟨0, by omega, rfl, MA, KB⟩
  case round =>
    clear MA KB
    obtain ⟨i, hi, rfl, MA, KB⟩ := hrel
    by_cases hlt : i < L.length
    · obtain ⟨_, _, e, -, -, rd⟩ := eds_read (HL.out.below (by rw [HGs.out]; exact KB.out))
      cases e
      obtain ⟨g, f, rfl, hg, q0, q1, q2, -⟩ := rd i hlt
      clear rd
      have hE := HG.out.edge i hlt
      have h16 := HG.out.n2
      have HC := Lib.hid (show ∀ (p : Nat), costAt (L.take (i + 1)) p = if Pl.edM ((p / 16 : Nat) : Int) ((p % 16 : Nat) : Int) L[i] = true then L[i].c else costAt (L.take i) p from fun p => by unfold costAt; rw [Pl.take_succ' L i hlt, Pl.costF_snoc])
      obtain ⟨⟨xa, xb, xc⟩, hx⟩ : ∃ x, L[i] = x := ⟨_, rfl⟩
      rw [hx] at q0 q1 q2 hE HC
      simp only at q0 q1 q2 hE
      obtain ⟨a, rfl⟩ : ∃ a : Nat, xa = a := ⟨xa.toNat, by omega⟩
      obtain ⟨b, rfl⟩ : ∃ b : Nat, xb = b := ⟨xb.toNat, by omega⟩
      have ha : a < 16 := by omega
      have hb : b < 16 := by omega
      have hab : a ≠ b := by omega
      obtain ⟨c1, c2⟩ : 1 ≤ xc ∧ xc ≤ 1000000 := by omega
      clear hx hE h16
      have hGl := MA.out.lt
      obtain ⟨B, hB⟩ : ∃ B, wr.heap.size = B := ⟨_, rfl⟩
      have hGB : G < B := by omega
      go_upto_region 4 with fail
      refine abs_t (fun y => Hid (EdIn y wr.heap.size a b xc) ∧ Hid (MatAt y G (costAt (L.take i))) ∧ Hid (Below G w y)) ⟨Lib.hid (obj_new _ _), Lib.hid (MA.out.block (Below.heap_alloc _ _ _ (by omega))), Lib.hid (KB.out.alloc (by omega) _)⟩ ?_
      rw [hB]
      clear q0 q1 q2 MA KB hB hGl
      rintro y ⟨EB, MA, KB⟩
      obtain ⟨q0, q1, q2⟩ := EB.out.cells
      obtain ⟨p0, hp0⟩ : ∃ p0, a * 16 + b = p0 := ⟨_, rfl⟩
      obtain ⟨p1, hp1⟩ : ∃ p1, b * 16 + a = p1 := ⟨_, rfl⟩
      have hpn : p0 ≠ p1 := by omega
      have hpn' : p1 ≠ p0 := by omega
      have hBG : B ≠ G := by omega
      have hBG' : G ≠ B := by omega
      have hp0l : p0 < 256 := by omega
      have hp1l : p1 < 256 := by omega
      have m0 := MA.out.cell p0 hp0l
      have m1 := MA.out.cell p1 hp1l
      have f0 := MA.out.free p0
      have f1 := MA.out.free p1
      generalize costAt (L.take i) p0 = v0 at *
      generalize costAt (L.take i) p1 = v1 at *
      have HN : Hid (MatAt ((y.setCell ⟨G, p0, none⟩ (.int .i64 xc)).setCell ⟨G, p1, none⟩ (.int .i64 xc)).drew G (costAt (L.take (i + 1)))) := Lib.hid (ArrAt.block (w := (y.setCell ⟨G, p0, none⟩ (encI xc)).setCell ⟨G, p1, none⟩ (encI xc)) (((MA.out.set p0 xc).set p1 xc).ext (fun j hj => by
        rw [HC.out j]
        have e : Pl.edM ((j / 16 : Nat) : Int) ((j % 16 : Nat) : Int) ⟨a, b, xc⟩ = decide (j = p1 ∨ j = p0) := by
          unfold Pl.edM
          rw [decide_eq_decide]
          simp only
          omega
        rw [e]
        by_cases e1 : j = p1
        · simp [e1]
        · by_cases e0 : j = p0
          · simp [e0]
          · simp [e0, e1])) rfl)
      have KN : Hid (Below G w ((y.setCell ⟨G, p0, none⟩ (.int .i64 xc)).setCell ⟨G, p1, none⟩ (.int .i64 xc)).drew) := Lib.hid (Below.drewN (Below.setCell (Below.setCell KB.out (Nat.le_refl _) _) (Nat.le_refl _) _) 1)
      clear HC MA KB
      go_region
      go_wp2_with fail
      go_roundw
      case measure => simp [intOf]; omega
      case rel => exact ⟨i + 1, by omega, by go_num, HN, KN⟩
    · obtain rfl : i = L.length := by omega
      rw [List.take_length] at MA
      obtain ⟨cs, h1, h2, h3⟩ := MA.out
      have TH : wr.there G 0 cs.size := fun j hj => ⟨by rw [Nat.zero_add, obj_cell h1 (Array.getElem?_eq_getElem hj)]; rfl, obj_free h1 _⟩
      have RA : wr.rangeAt G 0 cs.toList := fun j v hv => by rw [Nat.zero_add]; exact obj_cell h1 (by simpa using hv)
      have ONE : cs.all (·.oneCell') = true := by
        refine Array.all_eq_true_iff_forall_mem.2 (fun v hv => ?_)
        obtain ⟨j, hj, rfl⟩ := Array.getElem_of_mem hv
        have := h3 j (by omega)
        rw [Array.getElem?_eq_getElem hj] at this
        rw [Option.some.inj this]; rfl
      have TI : (Tryd.prog.info? 49).map (·.size) = some cs.size := by rw [h2]; exact info256
      have TI2 : (Tryd.prog.info? 49).map (·.size) = some cs.toList.length := by simpa using TI
      have H1 := Lib.hid h1
      have H3 := Lib.hid h3
      have THh := Lib.hid TH
      have RAh := Lib.hid RA
      have ONEh := Lib.hid ONE
      have TIh := Lib.hid TI
      have TI2h := Lib.hid TI2
      have RES := Lib.hid (run_loadVar_mid (P := Tryd.prog) (wr.setCells G 0 cs.toList) G 0 49 cs.toList _ (World.rangeAt_setCells_same wr G 0 _ (by simpa using TH)) Tryd.underlying49 rfl TI2)
      have KN : Hid (Below w.heap.size w (wr.setCells G 0 cs.toList)) := Lib.hid (by rw [HGs.out]; exact Below.setCellsE G (Nat.le_refl _) _ _ _ KB.out)
      have H2 := Lib.hid h2
      clear h1 h2 h3 TH RA ONE TI TI2 MA KB
      go_wp2_with (first
        | (refine wpList_load_mid rfl 49 (.tmp 2) rfl G 0 rfl cs.toList _ RAh.out Tryd.underlying49 rfl TI2h.out ?_)
        | (refine wpList_store_mid rfl 49 (.tmp 2) (.tmp 28) rfl G 0 cs rfl rfl THh.out TIh.out ONEh.out ?_))
      refine bodyPost_ret (v := .agg cs) ?_ rfl ⟨cs, rfl, H2.out, H3.out, KN.out⟩
      have RR := RES.out
      exact results_cell_load Tryd.results20 _ _ _ _ rfl (by simpa using RR)
end Go.Proofs.YtmmfnalcdekkbaaDoor
