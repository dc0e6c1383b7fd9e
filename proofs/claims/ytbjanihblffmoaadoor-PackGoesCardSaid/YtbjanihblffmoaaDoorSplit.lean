import Derived.Test.YtbjanihblffmoaaDoorSplitF
import Derived.Test.YtbjanihblffmoaaDoorCheck
import Derived.Sort.CutIn
/-! pack.Split: the walk. -/
namespace Go.Proofs.YtbjanihblffmoaaDoor
open Go.RowKit Go.Shelf
set_option linter.unusedVariables false
set_option linter.unusedSimpArgs false
attribute [local go_sem] Oper.semAt_some
theorem split_size (s t l lv : Int) (st : Bool) (oa : Option Addr) (bn bc : Nat) (k : Int) (hk : ¬ (1 ≤ k ∧ k ≤ 1000)) (w : World) :
    Calls Tryd.prog 7 #[pkV s t l lv st (.slice oa bn bc), .int .i64 k] w fun e w' => e = .returned (.tuple #[.slice none 0 0, .iface 48 (.int .i64 1)]) ∧ Below w.heap.size w w' := by
  have HK := Lib.hid hk
  clear hk
  refine (callsIn_wide (n := 6)).1 ?_
  have hfS : Fence.wide.fn 7 := trivial
  refine callsIn_of_wp Tryd.func7 rfl hfS ?_ rfl
  simp only [Tryd.ntmps7, List.size_toArray, List.length_cons, List.length_nil, Nat.reduceAdd, Nat.reduceSub, Array.replicate_succ, Array.replicate_zero, List.push_toArray, List.append_toArray, List.nil_append, List.cons_append]
  gi_wp2
  all_goals first
    | (exfalso; have := HK.out; omega)
    | (go_ret2; exact ⟨rfl, (Below.refl _ _).alloc (Nat.le_refl _) _⟩)
    | (go_ret; exact ⟨rfl, (Below.refl _ _).alloc (Nat.le_refl _) _⟩)
    | trace_state
theorem split_bad (s t l lv : Int) (st : Bool) (oa : Option Addr) (bn bc : Nat) (hbn : bn ≤ maxLen) (hp : ¬ Pl.pkOk s t l lv bn) (k : Int) (hk : 1 ≤ k ∧ k ≤ 1000) (w : World) :
    Calls Tryd.prog 7 #[pkV s t l lv st (.slice oa bn bc), .int .i64 k] w fun e w' => e = .returned (.tuple #[.slice none 0 0, .iface 48 (.int .i64 (Pl.pkFault s t l lv bn))]) ∧ Below w.heap.size w w' := by
  have HP := Lib.hid hp
  clear hp
  obtain ⟨k1, k2⟩ := hk
  refine (callsIn_wide (n := 6)).1 ?_
  have hfS : Fence.wide.fn 7 := trivial
  have hfC : Fence.wide.fn 6 := trivial
  refine callsIn_of_wp Tryd.func7 rfl hfS ?_ rfl
  simp only [Tryd.ntmps7, List.size_toArray, List.length_cons, List.length_nil, Nat.reduceAdd, Nat.reduceSub, Array.replicate_succ, Array.replicate_zero, List.push_toArray, List.append_toArray, List.nil_append, List.cons_append]
  gi_wp2_with (gi_at_call 6; refine (callsIn_wide.2 (check_bad s t l lv st oa bn bc hbn HP.out _)).mono ?_; rintro e w2 ⟨rfl, k2'⟩)
  go_ret2
  exact ⟨rfl, ((Below.refl _ _).alloc (Nat.le_refl _) _).trans (k2'.mono (by simp))⟩
theorem abs_toIn {F : Fence} {n : Nat} {P : Program} {c : Code} {Q : Exit → Act → World → Prop} {a : Act} {W : World} (S : World → Prop) (h : S W) (k : ∀ wq, S wq → c.wpIn F n P Q a wq) : c.wpIn F n P Q a W := k W h
theorem wpListIn_append_run {F : Fence} {n : Nat} {P : Program} (w : World) {ops : Array Oper} {rest : List Oper} {o : Oper} {a : Act} {Q : Exit → Act → World → Prop} (hgd : o.guard = none) (s x : Operand) (t tn : TypeId)
    (hop : o.op = .call { callee := .builtin .append, args := #[s, x], argTypes := #[t, tn] }) (vs vx : Value) (hs : a.eval s = vs) (hx : a.eval x = vx)
    (v' : Value) (w' : World) (hr : (Builtin.append_ #[t, tn] o.type #[vs, vx]).run P w = .ok v' w') (h : wpListIn F n P ops Q rest (a.put o.dst v') w') : wpListIn F n P ops Q (o :: rest) a w := by
  refine wpListIn_plain hgd fun K hK' => ?_
  unfold Oper.wpIn
  refine ⟨?_, ?_⟩
  · simp [Oper.about, hop, resolve, Target.leads, Sem.run_pure]
  · rw [Oper.semAt_plain F _ _ (by rw [hop]; intro c hc'; cases hc')]
    simp [execOp, hop, resolve, invoke, builtin, hs, hx, hr, Result.andThen]
    exact hK' _ _ h
theorem kpC_b {n₀ Bs Bn B : Nat} (h : n₀ ≤ B ∧ Bs < B ∧ Bn < B) (W : World) (l : Nat) (o o' : Obj) (hl : B ≤ l) (ho : W.heap[l]? = some o) (h1 : o.isCells = false) (h2 : o.isWalk = false) : KpC n₀ Bs Bn W (W.putObj l o') := by
  have hg := grownBy_putObj' W l o'
  have hlt : l < W.heap.size := lt_of_block ho
  refine ⟨(Below.refl _ _).grown hg (by omega) (fun k e => by cases e; omega), ?_, ?_⟩
  · exact hg.block Bs (by omega) (by simp; omega)
  · exact hg.block Bn (by omega) (by simp; omega)
/-- what Split hands out -/
def SplitE (n₀ : Nat) (s t l lv : Int) (st : Bool) (k : Nat) (bs : List UInt8) (w : World) (e : Ending) (w' : World) : Prop :=
  Below n₀ w w' ∧ if 200 < max 1 (chunkN k bs.length) then e = .returned (.tuple #[.slice none 0 0, .iface 48 (.int .i64 4)]) else
    ∃ (v : Value) (P : List PkR), e = .returned (.tuple #[v, .nilIface]) ∧ pktK.Own w' n₀ v P ∧ P.length = max 1 (chunkN k bs.length) ∧
      ∀ (i : Nat) (p : PkR), P[i]? = some p → p.s = (s + i) % 65536 ∧ p.t = t ∧ p.l = l ∧ p.lv = lv ∧ p.st = (st && decide (i = 0)) ∧ Sl encB w' (.slice p.oa p.bn p.bc) (chunkAt k bs i)
theorem chunkN_pos {k len : Nat} (hk : 0 < k) : chunkN k len = 0 ↔ len = 0 := by
  unfold chunkN
  constructor
  · intro h
    have := (Nat.div_eq_zero_iff.1 h)
    omega
  · rintro rfl; exact Nat.div_eq_of_lt (by omega)
set_option maxRecDepth 100000 in
set_option maxHeartbeats 4000000 in
theorem split_run (s t l lv : Int) (st : Bool) (oa : Option Addr) (bc : Nat) (bs : List UInt8) (hp : Pl.pkOk s t l lv bs.length) (k : Nat) (hk : 1 ≤ k ∧ k ≤ 1000) (w : World) (hv : Sl encB w (.slice oa bs.length bc) bs) :
    Calls Tryd.prog 7 #[pkV s t l lv st (.slice oa bs.length bc), .int .i64 k] w (SplitE w.heap.size s t l lv st k bs w) := by
  have HPO := Lib.hid hp
  have HV := Lib.hid hv
  obtain ⟨k1, k2⟩ := hk
  have hbl : bs.length ≤ 1000 := hp.2.2.2.2.2.2.2.2
  clear hp hv
  refine (callsIn_wide (n := 8)).1 ?_
  have hfS : Fence.wide.fn 7 := trivial
  have hfC : Fence.wide.fn 6 := trivial
  have hfK : Fence.wide.fn 18 := trivial
  have h1 : 1 ≤ 8 := by omega
  refine callsIn_of_wp_marks Tryd.func7 rfl hfS ?_ rfl
  simp only [Tryd.ntmps7, List.size_toArray, List.length_cons, List.length_nil, Nat.reduceAdd, Nat.reduceSub, Array.replicate_succ, Array.replicate_zero, List.push_toArray, List.append_toArray, List.nil_append, List.cons_append]
  gi_upto_region 6 with (gi_at_call 6; refine (callsIn_wide.2 (check_ok s t l lv st oa bs.length bc HPO.out _)).mono ?_; rintro e w2 ⟨rfl, k2'⟩)
  have BA : Below w.heap.size w (w.alloc (.cells #[.int .i64 s, .int .i64 t, .int .i64 l, .int .i64 lv, .bool st, .slice oa bs.length bc] 24)) := (Below.refl _ _).alloc (Nat.le_refl _) _
  refine abs_toIn (fun y => Hid (PkIn y w.heap.size s t l lv st (.slice oa bs.length bc)) ∧ Hid (Below w.heap.size w y)) ⟨Lib.hid (Below.heapAt k2' (obj_new _ _) (by simp)), Lib.hid (BA.trans (k2'.mono (by simp)))⟩ ?_
  clear k2' BA
  rintro y ⟨BX, KB⟩
  have BXL : PkIn (y.alloc (.cells #[.slice none 0 0] 30)) w.heap.size s t l lv st (.slice oa bs.length bc) := Below.heapAt ((Below.refl _ y).alloc (Nat.le_refl _) _) BX.out (lt_of_block BX.out)
  have p5 : (y.alloc (.cells #[.slice none 0 0] 30)).cell? ⟨w.heap.size, 5, none⟩ = some (.slice oa bs.length bc) := obj_cell BXL (k := 5) rfl
  gi_wp2_with (gi_at_call 18; refine (chunk_in Fence.wide _ hfK rfl oa bs.length bc k k1 _).mono ?_; rintro e w4 ⟨rfl, rfl⟩)
  clear p5
  have hsz : w.heap.size < y.heap.size := lt_of_block BX.out
  obtain ⟨Y, hY⟩ : ∃ Y, ((y.alloc (.cells #[.slice none 0 0] 30)).alloc (.cells #[.slice oa bs.length bc] 22)).alloc (.cells #[.int .i64 k] 3) = Y := ⟨_, rfl⟩
  have KBY : Hid (Below w.heap.size w Y) := Lib.hid (by
    rw [← hY]
    exact KB.out.trans ((((Below.refl _ y).alloc (by omega) _).alloc (by simp; omega) _).alloc (by simp; omega) _))
  have SI : SplitI w.heap.size Y y.heap.size w.heap.size (y.heap.size + 1) (y.heap.size + 2) k s t l lv st (.slice oa bs.length bc) [] Y := by
    have b1 : Below y.heap.size y (y.alloc (.cells #[.slice none 0 0] 30)) := (Below.refl _ _).alloc (Nat.le_refl _) _
    have b2 : Below (y.heap.size + 1) (y.alloc (.cells #[.slice none 0 0] 30)) ((y.alloc (.cells #[.slice none 0 0] 30)).alloc (.cells #[.slice oa bs.length bc] 22)) := (Below.refl _ _).alloc (by simp) _
    have b3 : Below (y.heap.size + 2) ((y.alloc (.cells #[.slice none 0 0] 30)).alloc (.cells #[.slice oa bs.length bc] 22)) Y := by rw [← hY]; exact (Below.refl _ _).alloc (by simp) _
    have o1 : (y.alloc (.cells #[.slice none 0 0] 30)).heap[y.heap.size]? = some (.cells #[.slice none 0 0] 30 (0, 0)) := obj_new _ _
    have o2 : ((y.alloc (.cells #[.slice none 0 0] 30)).alloc (.cells #[.slice oa bs.length bc] 22)).heap[y.heap.size + 1]? = some (.cells #[.slice oa bs.length bc] 22 (0, 0)) := by
      have := obj_new (y.alloc (.cells #[.slice none 0 0] 30)) (.cells #[.slice oa bs.length bc] 22)
      rw [World.size_alloc] at this; exact this
    have o3 : Y.heap[y.heap.size + 2]? = some (.cells #[.int .i64 k] 3 (0, 0)) := by
      have := obj_new ((y.alloc (.cells #[.slice none 0 0] 30)).alloc (.cells #[.slice oa bs.length bc] 22)) (.cells #[.int .i64 k] 3)
      rw [World.size_alloc, World.size_alloc] at this; rw [← hY]; exact this
    refine ⟨⟨.slice none 0 0, [], ?_, RecK.Own.nil _ _, rfl, by simp [Value.ownBlock], fun i b hb => by simp at hb⟩, ?_, Below.refl _ _, ⟨by omega, by omega⟩, ?_, o3⟩
    · exact (b3.block _ (by omega)).trans ((b2.block _ (by omega)).trans o1)
    · unfold PkIn at *
      exact (b3.block _ (by omega)).trans ((b2.block _ (by omega)).trans BXL)
    · exact (b3.block _ (by omega)).trans o2
  have hYs : Y.heap.size = y.heap.size + 3 := by rw [← hY]; simp
  have hVY : Sl encB Y (.slice oa bs.length bc) bs := HV.out.below KBY.out
  have hvb : ∀ b off cap, (Value.slice oa bs.length bc) = .slice (some ⟨b, off, none⟩) bs.length cap → bs ≠ [] → b < w.heap.size := fun b off cap e hne => by
    rcases HV.out with ⟨e', _⟩ | ⟨b', off', cap', e', _, _, h3⟩
    · exact absurd e' hne
    · cases e'
      cases e
      have hp : 0 < bs.length := List.length_pos_iff.2 hne
      exact Sl.lt (h3 0 hp)
  rw [hY]
  have ST := chunk_stops Fence.wide 7 trivial rfl (by omega) (y.heap.size + 1) (y.heap.size + 2) w.heap.size k (.slice oa bs.length bc) bs ⟨k1, k2⟩ (by omega) Y (by omega) hVY hvb SI.sb SI.nb
  have HSI := Lib.hid SI
  have HYS := Lib.hid hYs
  generalize hL0 : y.heap.size = L0 at *
  clear hY BXL SI BX KB hVY hvb
  apply wpIn_rangeFunc_ownG (F := Fence.wide) (n := 8) rfl h1 (gf := 26) (lb := #[.pointer (some ⟨L0 + 1, 0, none⟩), .pointer (some ⟨L0 + 2, 0, none⟩)]) rfl trivial (enters_of Tryd.func26 (by kernel_rfl) rfl) ST KpC.trans (kpC_b (by omega)) (Below.refl _ _) (fun _ => rfl)
    (fun pre W => SplitI w.heap.size Y L0 w.heap.size (L0 + 1) (L0 + 2) k s t l lv st (.slice oa bs.length bc) (pre.map (fun x => x.1.2)) W)
    (fun _ _ _ => False)
    (fun pre X Z row h hg hr => SplitI.own (by omega) (by omega) (pre.map (fun x => x.1.2)) X Z row h hg hr)
    (fun _ _ _ _ _ hs _ _ => hs)
    HSI.out
  case hassign =>
    intro l x W K hK
    gi_wp2
    exact hK
  case hbody =>
    rintro l1 pre x W h hlt
    have hYs : w.heap.size ≤ Y.heap.size := by have := HYS.out; omega
    have hn0 : w.heap.size ≤ W.heap.size := Nat.le_trans hYs h.kb.size
    have hd : 1 ≤ 8 - 1 - 1 := by omega
    have hfL : Fence.wide.fn 19 := trivial
    have hmx : Tryd.prog.follows .mixedOrders = true := by kernel_rfl
    have HXB := Lib.hid (fun V (kk : Below w.heap.size Y V) => x.2.2 V kk)
    have HXL := Lib.hid x.2.1
    obtain ⟨bss, hbss⟩ : ∃ bss, pre.map (fun x => x.1.2) = bss := ⟨_, rfl⟩
    have HGO := Lib.hid (show ∀ V, SplitI w.heap.size Y L0 w.heap.size (L0 + 1) (L0 + 2) k s t l lv st (.slice oa bs.length bc) (bss ++ [x.1.2]) V → SplitI w.heap.size Y L0 w.heap.size (L0 + 1) (L0 + 2) k s t l lv st (.slice oa bs.length bc) ((pre ++ [x]).map (fun x => x.1.2)) V from fun V q => by rw [List.map_append, hbss]; exact q)
    rw [hbss] at h
    have hpl : bss.length ≤ 100000 := by
      have := congrArg List.length hbss
      simp at this
      have h2 : chunkN k bs.length ≤ bs.length + k - 1 := Nat.div_le_self _ _
      omega
    obtain ⟨v, gN, capN, wN, c1, hr, c2, f2, ko, kw, MD⟩ := h.app hn0 hpl
    obtain ⟨p0, p1, p2, p3, p4, p5'⟩ : W.cell? ⟨w.heap.size, 0, none⟩ = some (.int .i64 s) ∧ W.cell? ⟨w.heap.size, 1, none⟩ = some (.int .i64 t) ∧ W.cell? ⟨w.heap.size, 2, none⟩ = some (.int .i64 l) ∧ W.cell? ⟨w.heap.size, 3, none⟩ = some (.int .i64 lv) ∧ W.cell? ⟨w.heap.size, 4, none⟩ = some (.bool st) ∧ W.cell? ⟨w.heap.size, 5, none⟩ = some (.slice oa bs.length bc) :=
      ⟨obj_cell h.box rfl, obj_cell h.box rfl, obj_cell h.box rfl, obj_cell h.box rfl, obj_cell h.box rfl, obj_cell h.box rfl⟩
    have HRN := Lib.hid hr
    have HKO := Lib.hid ko
    have HMD := Lib.hid MD
    have HKW := Lib.hid kw
    have HSB := Lib.hid (And.intro h.sb h.nb)
    clear hr ko kw MD hbss
    gi_upto_region 10 with (gi_at_builtin; refine wpListIn_append_run _ rfl (.tmp 27) (.tmp 29) 30 30 rfl _ _ rfl rfl _ _ HRN.out ?_)
    refine abs_toIn (fun y => Hid (SplitI.Mid w.heap.size Y L0 w.heap.size (L0 + 1) (L0 + 2) k s t l lv st (.slice oa bs.length bc) bss gN capN y) ∧ Hid (KeepsOthers W y) ∧ Hid (Below w.heap.size W y)) ⟨HMD, HKO, HKW⟩ ?_
    clear HRN HKO HMD HKW c1 c2 f2 p0 p1 p2 p3 p4 p5' h
    rintro z ⟨MD, KO, KW⟩
    have hzn : w.heap.size ≤ z.heap.size := Nat.le_trans hYs MD.out.kb.size
    obtain ⟨m, hm⟩ : ∃ m, bss.length = m := ⟨_, rfl⟩
    obtain ⟨N1, hN1⟩ : ∃ N1, m + 1 = N1 := ⟨_, rfl⟩
    have hmN : m < N1 := by omega
    have HCE := Lib.hid (show ∀ V, SplitI.Mid w.heap.size Y L0 w.heap.size (L0 + 1) (L0 + 2) k s t l lv st (.slice oa bs.length bc) bss gN capN V → V.cell? ⟨L0, 0, none⟩ = some (.slice (some ⟨gN, 0, none⟩) N1 capN) ∧ (∃ u, V.cell? ⟨gN, m * 6 + 5, none⟩ = some u) ∧ V.frozen? ⟨gN, m * 6 + 5, none⟩ = false from fun V q => by rw [← hN1, ← hm]; exact q.cells)
    have hm2 : m ≤ 100000 := by omega
    have W1 : IntKind.i64.wrap ((N1 : Int) - 1) = (m : Int) := by rw [IntKind.wrap_i64]; omega
    have HM := Lib.hid hm
    clear hm hN1 hpl
    have d1 : z.cell? ⟨L0, 0, none⟩ = some (.slice (some ⟨gN, 0, none⟩) N1 capN) := (HCE.out _ MD.out).1
    have d1d : z.drew.cell? ⟨L0, 0, none⟩ = some (.slice (some ⟨gN, 0, none⟩) N1 capN) := d1
    have HFIN := Lib.hid (show ∀ (z2 : World) (oa' : Option Addr) (c' : Nat), Below z.drew.heap.size z.drew z2 → (∀ V, Keeps (fun j => j < z.drew.heap.size) z2 V → Sl encB V (.slice oa' x.1.2.length c') x.1.2) → SplitI.Mid w.heap.size Y L0 w.heap.size (L0 + 1) (L0 + 2) k s t l lv st (.slice oa bs.length bc) bss gN capN z2 →
        KeepsFrom Y.heap.size W (z2.setCell ⟨gN, m * 6 + 5, none⟩ (.slice oa' x.1.2.length c')) ∧ KpC w.heap.size (L0 + 1) (L0 + 2) W (z2.setCell ⟨gN, m * 6 + 5, none⟩ (.slice oa' x.1.2.length c')) ∧ SplitI w.heap.size Y L0 w.heap.size (L0 + 1) (L0 + 2) k s t l lv st (.slice oa bs.length bc) ((pre ++ [x]).map (fun x => x.1.2)) (z2.setCell ⟨gN, m * 6 + 5, none⟩ (.slice oa' x.1.2.length c')) from fun z2 oa' c' kc hcl M2 => by
      have hL : L0 < z.heap.size := lt_of_block MD.out.cell
      have hg : gN < z.heap.size ∧ w.heap.size ≤ gN := by
        obtain ⟨P, p0, q1, _⟩ := MD.out.ex
        obtain ⟨cs, q, q2⟩ := SplitI.row_block q1 (g := gN) rfl
        exact ⟨lt_of_block q, q2⟩
      obtain ⟨F1, F2⟩ := SplitI.Mid.fin M2 (S := z.drew.heap.size) ⟨hL, hg.1, hzn⟩ hcl
      rw [HM.out] at F1 F2
      have kc2 : KeepsOthers z.drew z2 := ⟨kc.size, fun j o ho _ => (kc.block j (lt_of_block ho)).trans ho⟩
      exact ⟨(((KO.out.trans (KeepsOthers.drew z)).trans kc2).trans F1).from _, ⟨Below.setCell ((Below.drewN KW.out 1).trans (kc.mono hzn)) hg.2 _, F2.sb.trans HSB.out.1.symm, F2.nb.trans HSB.out.2.symm⟩, HGO.out _ F2⟩)
    have CL := Lib.hid (clone_any x.1.1 x.1.2 z.drew (HXB.out _ (Below.drewN MD.out.kb 1)) (by have := HXL.out; omega))
    gi_region_with_o (gi_at_call 19; refine (CallsIn.inRound l1 (callsIn_wide.2 CL.out)).mono ?_; rintro e z2 ⟨vc, rfl, hcl, kc⟩; obtain ⟨oa', c', rfl, _⟩ := bytes_slice (hcl _ (Keeps.refl _ _)); have M2 := Lib.hid (SplitI.Mid.below MD.out hzn (Below.trans (Below.drewN (Below.refl _ z) 1) kc)); obtain ⟨g1, ⟨u0, g2⟩, g3⟩ := HCE.out _ M2.out)
    all_goals exact HFIN.out _ _ _ kc hcl M2.out
  case hdone =>
    rintro D xs W hD hxs h hK
    rw [hxs] at h
    have hYs : w.heap.size ≤ Y.heap.size := by have := HYS.out; omega
    have hn0 : w.heap.size ≤ W.heap.size := Nat.le_trans hYs h.kb.size
    obtain ⟨Q, hQ⟩ : ∃ Q : Nat → List UInt8, Q = chunkAt k bs := ⟨_, rfl⟩
    have HSW := Lib.hid (HV.out.below (KBY.out.trans h.kb))
    obtain ⟨N1, hN1⟩ : ∃ N1, max 1 (chunkN k bs.length) = N1 := ⟨_, rfl⟩
    have hcn : chunkN k bs.length ≤ bs.length + k - 1 := Nat.div_le_self _ _
    have hN1b : N1 ≤ 3000 := by omega
    have HN1 := Lib.hid hN1
    have hc0 : W.cell? ⟨L0, 0, none⟩ = some (.slice none 0 0) ∨ True := .inr trivial
    clear hc0
    -- the parts, whether there were any or not
    obtain ⟨q0, q1, q2, q3, q4, q5⟩ : W.cell? ⟨w.heap.size, 0, none⟩ = some (.int .i64 s) ∧ W.cell? ⟨w.heap.size, 1, none⟩ = some (.int .i64 t) ∧ W.cell? ⟨w.heap.size, 2, none⟩ = some (.int .i64 l) ∧ W.cell? ⟨w.heap.size, 3, none⟩ = some (.int .i64 lv) ∧ W.cell? ⟨w.heap.size, 4, none⟩ = some (.bool st) ∧ W.cell? ⟨w.heap.size, 5, none⟩ = some (.slice oa bs.length bc) :=
      ⟨obj_cell h.box rfl, obj_cell h.box rfl, obj_cell h.box rfl, obj_cell h.box rfl, obj_cell h.box rfl, obj_cell h.box rfl⟩
    have fin : ∀ (gN capN : Nat) (z : World), SplitF w.heap.size Y L0 w.heap.size s t l lv st (.slice oa bs.length bc) gN capN N1 Q D 0 z → True := fun _ _ _ _ => trivial
    clear fin
    by_cases hb0 : bs.length = 0
    · have hbs : bs = [] := List.eq_nil_of_length_eq_zero hb0
      have e0 : chunkN k bs.length = 0 := (chunkN_pos (by omega)).2 hb0
      rw [e0] at h
      simp only [List.range_zero, List.map_nil] at h
      have hN : N1 = 1 := by rw [e0] at hN1; omega
      rw [hb0] at h HSW q5
      have hQ0 : Q 0 = [] := by rw [hQ, hbs]; simp [chunkAt]
      have SF := SplitF.of_none (Q := Q) (D := D) h hn0 hK hQ0 (by rw [← hbs]; exact HSW.out)
      obtain ⟨v, P, x1, x2, x3, x0, x4⟩ := h.ex
      have hv : ∃ oa' cap', v = .slice oa' 0 cap' := by
        rcases Joins.ownsRow_forms x2 with ⟨rfl, _⟩ | ⟨g, cap, rfl⟩
        · exact ⟨_, _, rfl⟩
        · rw [x3]; exact ⟨_, _, rfl⟩
      obtain ⟨oa', cap', rfl⟩ := hv
      have c1 : W.cell? ⟨L0, 0, none⟩ = some (.slice oa' 0 cap') := obj_cell x1 rfl
      have x1A : (W.alloc (.cells (PkR.cells ⟨s, t, l, lv, st, oa, 0, bc⟩).toArray 24)).heap[L0]? = some (.cells #[.slice oa' 0 cap'] 30 (0, 0)) := (Below.heap_alloc W _ L0 (lt_of_block x1)).trans x1
      have c2 : (W.alloc (.cells (PkR.cells ⟨s, t, l, lv, st, oa, 0, bc⟩).toArray 24)).cell? ⟨L0, 0, none⟩ = some (.slice oa' 0 cap') := obj_cell x1A rfl
      have f2 := obj_free x1A 0
      simp only [PkR.cells] at c2 f2
      have HQ := Lib.hid hQ
      rw [hN] at HN1
      have SF' := Lib.hid SF
      clear SF x2 x3 x4 x1A x1 h hQ hN1 hQ0 e0 hb0 hbs
      gi_upto_region 13 with fail
      refine abs_toIn (fun y => Hid (SplitF w.heap.size Y L0 w.heap.size s t l lv st (.slice oa 0 bc) W.heap.size 1 1 Q D 0 y)) SF' ?_
      generalize W.heap.size = gN at *
      clear SF' c1 c2 f2 q0 q1 q2 q3 q4 q5
      rintro W HSF
      have c1 : W.cell? ⟨L0, 0, none⟩ = some (.slice (some ⟨gN, 0, none⟩) 1 1) := obj_cell HSF.out.cell rfl
      have hfull : ¬ 200 < 1 := by omega
      gi_upto_region 16 with fail
      clear c1
      gi_loopw [50] (fun s50 wr => ∃ j : Nat, j ≤ 1 ∧ s50 = .int .i64 j ∧ Hid (SplitF w.heap.size Y L0 w.heap.size s t l lv st (.slice oa 0 bc) gN 1 1 Q D j wr)) (fun s50 _ => 1 - (intOf s50).toNat)
      case atStart => exact ⟨0, by omega, rfl, HSF⟩
      case round =>
        clear HSF
        obtain ⟨j, hj, rfl, SF⟩ := hrel
        have c1 : wr.cell? ⟨L0, 0, none⟩ = some (.slice (some ⟨gN, 0, none⟩) 1 1) := obj_cell SF.out.cell rfl
        by_cases hjl : j < 1
        · have b0 : wr.cell? ⟨w.heap.size, 0, none⟩ = some (.int .i64 s) := obj_cell SF.out.box rfl
          have b4 : wr.cell? ⟨w.heap.size, 4, none⟩ = some (.bool st) := obj_cell SF.out.box rfl
          obtain ⟨⟨u0, g0⟩, g1, _⟩ := SF.out.cells hjl
          obtain ⟨m1, m2, ⟨u4, m3⟩, m4⟩ := SF.out.mid hjl
          have ST := Lib.hid (SF.out.step hjl)
          obtain ⟨hs0, hs1⟩ : 0 ≤ s ∧ s ≤ 65535 := by have := HPO.out; unfold Pl.pkOk at this; omega
          have W1 : IntKind.i64.wrap (s + (j : Int)) = s + (j : Int) := by rw [IntKind.wrap_i64]; omega
          have W2 : bits .and .i64 (s + (j : Int)) 65535 = (s + (j : Int)) % 65536 := Pl.and_low16 _
          clear SF
          obtain ⟨jb, hjb⟩ : ∃ jb : Bool, decide (j = 0) = jb := ⟨_, rfl⟩
          have hjd : ((j : Int) == 0) = jb := by rw [← hjb]; by_cases e : j = 0 <;> simp [e]
          have hjd2 : decide ((j : Int) = 0) = jb := by rw [← hjb]; by_cases e : j = 0 <;> simp [e]
          rw [hjb] at ST
          clear hjb
          cases st
          all_goals
            cases jb
            all_goals
              gi_wp2
              go_roundw
              case measure => simp [intOf]; omega
              case rel => exact ⟨j + 1, by omega, by simp, ST⟩
        · obtain rfl : j = 1 := by omega
          have HD := Lib.hid SF.out.dK
          have FN := Lib.hid (SF.out.fin (by omega : w.heap.size ≤ D) (.deferred none))
          clear SF
          gi_wp2
          refine ⟨by simp, .inl ⟨_, _, rfl, run_takeDeferred HD.out, ?_⟩⟩
          refine ⟨_, results_tmp2 rfl _ _ _, ?_⟩
          unfold SplitE
          rw [HN1.out, if_neg hfull]
          obtain ⟨P, f1, f2, f3⟩ := FN.out.2 (Nat.le_refl _)
          exact ⟨KBY.out.trans FN.out.1, _, P, rfl, f1, f2, by rw [← HQ.out]; exact f3⟩
    · have hne : (List.range (chunkN k bs.length)).map (chunkAt k bs) ≠ [] := fun e => by
        have e2 := congrArg List.length e
        simp at e2
        exact hb0 ((chunkN_pos (by omega)).1 e2)
      have hnl : ((List.range (chunkN k bs.length)).map (chunkAt k bs)).length = N1 := by
        have e0 : chunkN k bs.length ≠ 0 := fun e => hb0 ((chunkN_pos (by omega)).1 e)
        simp; omega
      obtain ⟨gN, capN, SF⟩ := SplitF.of_parts (D := D) (Q := Q) h hne hK (fun i b hb => by
        rw [hQ]
        have hi : i < chunkN k bs.length := by have := (List.getElem?_eq_some_iff.1 hb).1; simpa using this
        rw [List.getElem?_map, List.getElem?_range hi] at hb
        exact Option.some.inj hb)
      rw [hnl] at SF
      have c1 : W.cell? ⟨L0, 0, none⟩ = some (.slice (some ⟨gN, 0, none⟩) N1 capN) := obj_cell SF.cell rfl
      have hN0 : 0 < N1 := by omega
      have hN0' : ((N1 : Int) == 0) = false := by simp; omega
      have HSF := Lib.hid SF
      have HQ := Lib.hid hQ
      clear SF h hne hnl hQ hN1 hb0 hcn
      by_cases hfull : 200 < N1
      · gi_wp2
        have FN := HSF.out.fin (by omega : w.heap.size ≤ D) (.deferred none)
        refine ⟨by simp, .inl ⟨_, _, rfl, run_takeDeferred HSF.out.dK, ?_⟩⟩
        refine ⟨_, results_tmp2 rfl _ _ _, ?_⟩
        unfold SplitE
        rw [HN1.out, if_pos hfull]
        exact ⟨KBY.out.trans FN.1, rfl⟩
      · gi_upto_region 16 with fail
        clear c1 hN0'
        gi_loopw [50] (fun s50 wr => ∃ j : Nat, j ≤ N1 ∧ s50 = .int .i64 j ∧ Hid (SplitF w.heap.size Y L0 w.heap.size s t l lv st (.slice oa bs.length bc) gN capN N1 Q D j wr)) (fun s50 _ => N1 - (intOf s50).toNat)
        case atStart => exact ⟨0, by omega, rfl, HSF⟩
        case round =>
          clear HSF
          obtain ⟨j, hj, rfl, SF⟩ := hrel
          have c1 : wr.cell? ⟨L0, 0, none⟩ = some (.slice (some ⟨gN, 0, none⟩) N1 capN) := obj_cell SF.out.cell rfl
          by_cases hjl : j < N1
          · have b0 : wr.cell? ⟨w.heap.size, 0, none⟩ = some (.int .i64 s) := obj_cell SF.out.box rfl
            have b4 : wr.cell? ⟨w.heap.size, 4, none⟩ = some (.bool st) := obj_cell SF.out.box rfl
            obtain ⟨⟨u0, g0⟩, g1, _⟩ := SF.out.cells hjl
            obtain ⟨m1, m2, ⟨u4, m3⟩, m4⟩ := SF.out.mid hjl
            have ST := Lib.hid (SF.out.step hjl)
            obtain ⟨hs0, hs1⟩ : 0 ≤ s ∧ s ≤ 65535 := by have := HPO.out; unfold Pl.pkOk at this; omega
            have W1 : IntKind.i64.wrap (s + (j : Int)) = s + (j : Int) := by rw [IntKind.wrap_i64]; omega
            have W2 : bits .and .i64 (s + (j : Int)) 65535 = (s + (j : Int)) % 65536 := Pl.and_low16 _
            clear SF
            obtain ⟨jb, hjb⟩ : ∃ jb : Bool, decide (j = 0) = jb := ⟨_, rfl⟩
            have hjd : ((j : Int) == 0) = jb := by rw [← hjb]; by_cases e : j = 0 <;> simp [e]
            have hjd2 : decide ((j : Int) = 0) = jb := by rw [← hjb]; by_cases e : j = 0 <;> simp [e]
            rw [hjb] at ST
            clear hjb
            cases st
            all_goals
              cases jb
              all_goals
                gi_wp2
                go_roundw
                case measure => simp [intOf]; omega
                case rel => exact ⟨j + 1, by omega, by simp, ST⟩
          · obtain rfl : j = N1 := by omega
            have HD := Lib.hid SF.out.dK
            have FN := Lib.hid (SF.out.fin (by omega : w.heap.size ≤ D) (.deferred none))
            clear SF
            gi_wp2
            refine ⟨by simp, .inl ⟨_, _, rfl, run_takeDeferred HD.out, ?_⟩⟩
            refine ⟨_, results_tmp2 rfl _ _ _, ?_⟩
            unfold SplitE
            rw [HN1.out, if_neg hfull]
            obtain ⟨P, f1, f2, f3⟩ := FN.out.2 (Nat.le_refl _)
            exact ⟨KBY.out.trans FN.out.1, _, P, rfl, f1, f2, by rw [← HQ.out]; exact f3⟩
  case hstop =>
    rintro D c pre W _ _ h _
    exact h.elim
end Go.Proofs.YtbjanihblffmoaaDoor
