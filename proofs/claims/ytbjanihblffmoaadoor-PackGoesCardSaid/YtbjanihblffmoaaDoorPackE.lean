import Derived.Test.YtbjanihblffmoaaDoorBytes
import Derived.Test.YtbjanihblffmoaaDoorPk
import Derived.RegionTactic
import Derived.ChangeAlike
import Derived.Deep.QuietTactic
import Derived.BigQuiet
import Derived.Deep.RegionHeld3
import Derived.Deep.DeepCutAuto
/-! pack.Encode. -/
namespace Go.Proofs.YtbjanihblffmoaaDoor
open Go.RowKit
set_option linter.unusedVariables false
set_option linter.unusedSimpArgs false
/-- append as one step of a region that draws its order -/
theorem step_append_run {P : Program} {ops : Array Oper} {o : Oper} {a : Act} {w : World} {K : Act → World → Prop} {Q : Exit → Act → World → Prop} {E : Prop} (hgd : o.guard = none) (s x : Operand) (t tn : TypeId)
    (ho : o.op = .call { callee := .builtin .append, args := #[s, x], argTypes := #[t, tn] }) (vs vx : Value) (hs : a.eval s = vs) (hx : a.eval x = vx)
    (v' : Value) (w' : World) (hr : (Builtin.append_ #[t, tn] o.type #[vs, vx]).run P w = .ok v' w') (h : K (a.put o.dst v') w') :
    if Region.wanted o (yielded ops a.tmps) = true then Oper.wp P o a w K Q else E := by
  have hw : Region.wanted o (yielded ops a.tmps) = true := by simp [Region.wanted, hgd]
  rw [if_pos hw]
  exact Lib.wp_append_run w s x t tn ho vs vx hs hx v' w' hr h
/-- a packet boxed -/
def PkBox (w : World) (g : Nat) (s t l lv : Int) (st : Bool) (bv : Value) : Prop := w.heap[g]? = some (.cells #[.int .i64 s, .int .i64 t, .int .i64 l, .int .i64 lv, .bool st, bv] 24 (0, 0))
theorem abs_e {P : Program} {c : Code} {Q : Exit → Act → World → Prop} {a : Act} {W : World} (S : World → Prop) (h : S W) (k : ∀ wq, S wq → c.wp P Q a wq) : c.wp P Q a W := k W h
namespace Pl
def pkHead (l : Int) (st : Bool) : Int := 128 + l + (if st then 32 else 0)
/-- a packet as bytes -/
def pkBytes (s t l lv : Int) (st : Bool) (b : List UInt8) : List UInt8 := ((([byteAt (pkHead l st) 0, byteAt lv 0] ++ putB s 2) ++ putB t 4) ++ b)
theorem pkBytes_length (s t l lv : Int) (st : Bool) (b : List UInt8) : (pkBytes s t l lv st b).length = 8 + b.length := by simp [pkBytes, putB]; omega
theorem head_false (l : Int) (h1 : 0 ≤ l) (h2 : l ≤ 3) : IntKind.u8.wrap (bits .or .i64 128 l) = ((byteAt (pkHead l false) 0).toNat : Int) := by
  have h : l = 0 ∨ l = 1 ∨ l = 2 ∨ l = 3 := by omega
  rcases h with rfl | rfl | rfl | rfl <;> decide +kernel
theorem head_true (l : Int) (h1 : 0 ≤ l) (h2 : l ≤ 3) : bits .or .u8 (bits .or .i64 128 l % 256) 32 = ((byteAt (pkHead l true) 0).toNat : Int) := by
  have h : l = 0 ∨ l = 1 ∨ l = 2 ∨ l = 3 := by omega
  rcases h with rfl | rfl | rfl | rfl <;> decide +kernel
theorem byte_lv (lv : Int) (h1 : 0 ≤ lv) (h2 : lv ≤ 127) : lv = ((byteAt lv 0).toNat : Int) := by
  rw [byteAt_toNat, show (256 : Int) ^ 0 = 1 by decide]; omega
end Pl
theorem lit2 {w : World} {N : Nat} (a b : Int) (x y : UInt8) (ha : a = (x.toNat : Int)) (hb : b = (y.toNat : Int)) (h : N + 1 ≤ w.heap.size) : OwnB (w.alloc (.cells #[.int .u8 a, .int .u8 b] 5)) (N + 1) (.slice (some ⟨w.heap.size, 0, none⟩) 2 2) [x, y] :=
  OwnB.lit w _ _ 2 rfl (by subst ha hb; rfl) (by simp) h
theorem lit2' {w : World} {N : Nat} (a b c : Int) (x y : UInt8) (ha : c = (x.toNat : Int)) (hb : b = (y.toNat : Int)) (h : N + 1 ≤ w.heap.size) : OwnB ((w.alloc (.cells #[.int .u8 a, .int .u8 b] 5)).setCell ⟨w.heap.size, 0, none⟩ (.int .u8 c)) (N + 1) (.slice (some ⟨w.heap.size, 0, none⟩) 2 2) [x, y] := by
  refine ⟨by simp, .inr ⟨w.heap.size, 2, _, rfl, h, obj_set (obj_new w _) 0 _, Nat.le_refl _, by unfold maxLen; omega, by simp, ?_⟩⟩
  subst ha hb
  rfl
theorem put_two (n : Int) (h1 : 0 ≤ n) (h2 : n ≤ 4294967295) (base : Nat) (v : Value) (l : List UInt8) (hl : l.length ≤ 1000000) (w : World) (hv : OwnB w base v l) (hb : base ≤ w.heap.size) :
    Calls Tryd.prog 16 #[v, .int .i64 n, .int .i64 2] w fun e w' => ∃ v', e = .returned v' ∧ OwnB w' base v' (l ++ Pl.putB n 2) ∧ Below base w w' := put_any 2 (by omega) n h1 h2 base v l hl w hv hb
theorem put_four (n : Int) (h1 : 0 ≤ n) (h2 : n ≤ 4294967295) (base : Nat) (v : Value) (l : List UInt8) (hl : l.length ≤ 1000000) (w : World) (hv : OwnB w base v l) (hb : base ≤ w.heap.size) :
    Calls Tryd.prog 16 #[v, .int .i64 n, .int .i64 4] w fun e w' => ∃ v', e = .returned v' ∧ OwnB w' base v' (l ++ Pl.putB n 4) ∧ Below base w w' := put_any 4 (by omega) n h1 h2 base v l hl w hv hb
set_option maxRecDepth 100000 in
set_option maxHeartbeats 2000000 in
theorem pencode_bad (s t l lv : Int) (st : Bool) (bv : Value) (b : List UInt8) (w : World) (hv : IsBytes w bv b) (h : ¬ Pl.pkOk s t l lv b.length) :
    Calls Tryd.prog 5 #[pkV s t l lv st bv] w fun e w' => e = .returned (.tuple #[.slice none 0 0, .iface 48 (.int .i64 (Pl.pkFault s t l lv b.length))]) ∧ Below w.heap.size w w' := by
  obtain ⟨oa, c, rfl, hm⟩ := bytes_slice hv
  have R := Lib.hid (fun w => check_bad s t l lv st oa b.length c hm h w)
  clear h hv
  generalize Pl.pkFault s t l lv b.length = k at *
  go_enter Tryd.func5, Tryd.ntmps5
  go_wp2_with (go_at_call 6; refine (R.out _).mono ?_; rintro e w' ⟨rfl, kb⟩)
  refine bodyPost_ret (v := .tuple #[.slice none 0 0, .iface 48 (.int .i64 k)]) (by simp [results, Tryd.results5, go_sem]) rfl ?_
  exact ⟨rfl, ((Below.refl _ _).alloc (Nat.le_refl _) _).trans (kb.mono (by simp))⟩
set_option maxRecDepth 100000 in
set_option maxHeartbeats 4000000 in
theorem pencode_false (s t l lv : Int) (bv : Value) (b : List UInt8) (w : World) (hv : IsBytes w bv b) (h : Pl.pkOk s t l lv b.length) :
    Calls Tryd.prog 5 #[pkV s t l lv false bv] w fun e w' => ∃ oa c, e = .returned (.tuple #[.slice oa (8 + b.length) c, .nilIface]) ∧ OwnB w' w.heap.size (.slice oa (8 + b.length) c) (Pl.pkBytes s t l lv false b) ∧ Below w.heap.size w w' := by
  obtain ⟨oa, c, rfl, hm⟩ := bytes_slice hv
  have R := Lib.hid (fun w => check_ok s t l lv false oa b.length c h w)
  obtain ⟨h1, h2, h3, h4, h5, h6, h7, h8, h9⟩ := h
  have E0 := Lib.hid (Pl.head_false l h5 h6)
  have E1 := Lib.hid (Pl.byte_lv lv h7 h8)
  have HV := Lib.hid hv
  have L2 := Lib.hid h9
  have HB := Lib.hid ((Below.refl w.heap.size w).alloc (Nat.le_refl _) (.cells #[.int .i64 s, .int .i64 t, .int .i64 l, .int .i64 lv, .bool false, .slice oa b.length c] 24))
  have HX := Lib.hid (obj_new w (.cells #[.int .i64 s, .int .i64 t, .int .i64 l, .int .i64 lv, .bool false, .slice oa b.length c] 24))
  clear hv
  go_enter Tryd.func5, Tryd.ntmps5
  go_upto_region 4 with (go_at_call 6; refine (R.out _).mono ?_; rintro e w1 ⟨rfl, kb⟩)
  have hp : PkBox w1 w.heap.size s t l lv false (.slice oa b.length c) := Below.heapAt kb HX.out (by simp)
  have K1 := Lib.hid (HB.out.trans (kb.mono (by simp)))
  have HN : ∃ N, N = w.heap.size := ⟨_, rfl⟩
  obtain ⟨N, HN⟩ := HN
  rw [← HN] at hp K1 ⊢
  have HN' := Lib.hid HN
  clear HN kb R HB HX
  have HS1 := Lib.hid (lt_of_block hp)
  have P := fun o : Obj => obj_old hp o
  have HP := Lib.hid hp
  have p2 := obj_cell hp (k := 2) rfl
  have p3 := obj_cell hp (k := 3) rfl
  have p4 := fun o : Obj => obj_cell (obj_old hp o) (k := 4) rfl
  clear hp P
  go_upto_region 7 with fail
  refine abs_e (fun y => PkBox y N s t l lv false (.slice oa b.length c) ∧ OwnB y (N + 1) (.slice (some ⟨w1.heap.size, 0, none⟩) 2 2) [Pl.byteAt (Pl.pkHead l false) 0, Pl.byteAt lv 0] ∧ Below N w y ∧ N + 1 ≤ y.heap.size) ?_ ?_
  · exact ⟨obj_old HP.out _, lit2 _ _ _ _ E0.out E1.out HS1.out, K1.out.alloc (Nat.le_of_lt HS1.out) _, by have := HS1.out; simp; omega⟩
  rintro y ⟨hp, ho, kb, hs⟩
  clear p2 p3 p4 E0 E1 HP K1 HS1
  generalize Value.slice (some ⟨w1.heap.size, 0, none⟩) 2 2 = v5 at *
  have pd0 : y.drew.cell? ⟨N, 0, none⟩ = some (.int .i64 s) := obj_cell hp rfl
  have pd1 : y.drew.cell? ⟨N, 1, none⟩ = some (.int .i64 t) := obj_cell hp rfl
  have pd5 : y.drew.cell? ⟨N, 5, none⟩ = some (.slice oa b.length c) := obj_cell hp rfl
  have PUT1 := Lib.hid ((put_two s h1 (by omega) (N + 1) v5 _ (by simp) y.drew ho.drew hs).mono (fun e w2 ⟨v2, he, o2, k2⟩ => (show ∃ v2, e = Ending.returned v2 ∧ Hid (OwnB w2 (N + 1) v2 ([Pl.byteAt (Pl.pkHead l false) 0, Pl.byteAt lv 0] ++ Pl.putB s 2)) ∧ Hid (Below N w w2) ∧ Hid (N + 1 ≤ w2.heap.size) ∧ Hid (PkBox w2 N s t l lv false (.slice oa b.length c)) from
    ⟨v2, he, Lib.hid o2, Lib.hid ((Below.drew kb).trans (k2.mono (Nat.le_succ N))), Lib.hid (Nat.le_trans hs k2.size), Lib.hid (Below.heapAt k2 (obj_drew hp) (Nat.lt_succ_self N))⟩)))
  have PUT2 := Lib.hid (fun (w2 : World) (v2 : Value) (o2 : Hid (OwnB w2 (N + 1) v2 ([Pl.byteAt (Pl.pkHead l false) 0, Pl.byteAt lv 0] ++ Pl.putB s 2))) (k2 : Hid (Below N w w2)) (hs2 : Hid (N + 1 ≤ w2.heap.size)) (hp2 : Hid (PkBox w2 N s t l lv false (.slice oa b.length c))) =>
    (put_four t h3 h4 (N + 1) v2 _ (by simp [Pl.putB]) w2 o2.out hs2.out).mono (fun e w3 ⟨v3, he, o3, k3⟩ => (show ∃ v3, e = Ending.returned v3 ∧ Hid (OwnB w3 (N + 1) v3 (([Pl.byteAt (Pl.pkHead l false) 0, Pl.byteAt lv 0] ++ Pl.putB s 2) ++ Pl.putB t 4)) ∧ Hid (Below N w w3) ∧ Hid (N + 1 ≤ w3.heap.size) ∧ Hid (PkBox w3 N s t l lv false (.slice oa b.length c)) from
    ⟨v3, he, Lib.hid o3, Lib.hid (k2.out.trans (k3.mono (Nat.le_succ N))), Lib.hid (Nat.le_trans hs2.out k3.size), Lib.hid (Below.heapAt k3 hp2.out (Nat.lt_succ_self N))⟩)))
  have RUN := Lib.hid (fun (w3 : World) (v3 : Value) (o3 : Hid (OwnB w3 (N + 1) v3 (([Pl.byteAt (Pl.pkHead l false) 0, Pl.byteAt lv 0] ++ Pl.putB s 2) ++ Pl.putB t 4))) (k3 : Hid (Below N w w3)) (hs3 : Hid (N + 1 ≤ w3.heap.size)) (hp3 : Hid (PkBox w3 N s t l lv false (.slice oa b.length c))) =>
    (show ∃ v' w', (Builtin.append_ #[22, 22] 22 #[v3, .slice oa b.length c]).run Tryd.prog w3 = .ok v' w' ∧ Hid (OwnB w' N v' (Pl.pkBytes s t l lv false b)) ∧ Hid (Below N w w') ∧ Hid (PkBox w' N s t l lv false (.slice oa b.length c)) from by
      obtain ⟨v', w', hr, ho, hg⟩ := run_append_bytes w3 o3.out (HV.out.below (by rw [← HN'.out]; exact k3.out)) hs3.out (by have := L2.out; simp [Pl.putB]; omega)
      have kk := below_row o3.out hg (Nat.le_refl _) hs3.out
      exact ⟨v', w', hr, Lib.hid (ho.mono (Nat.le_succ N)), Lib.hid (k3.out.trans (kk.mono (Nat.le_succ N))), Lib.hid (Below.heapAt kk hp3.out (Nat.lt_succ_self N))⟩))
  clear hp ho
  go_region_held3 (fun w' => w'.cell? ⟨N, 0, none⟩ = some (.int .i64 s) ∧ w'.cell? ⟨N, 1, none⟩ = some (.int .i64 t) ∧ w'.cell? ⟨N, 5, none⟩ = some (.slice oa b.length c))
    (first | (with_reducible assumption) | (refine And.intro ?_ (And.intro ?_ ?_) <;> with_reducible assumption))
    (first
    | (go_at_call 16; (with_reducible refine PUT1.out.mono ?_); rintro e w2 ⟨v2, rfl, o2, k2, hs2, hp2⟩; have q0 : w2.cell? ⟨N, 0, none⟩ = some (.int .i64 s) := obj_cell hp2.out rfl; have q1 : w2.cell? ⟨N, 1, none⟩ = some (.int .i64 t) := obj_cell hp2.out rfl; have q5 : w2.cell? ⟨N, 5, none⟩ = some (.slice oa b.length c) := obj_cell hp2.out rfl)
    | (go_at_call 16; (with_reducible refine (PUT2.out w2 v2 o2 k2 hs2 hp2).mono ?_); rintro e w3 ⟨v3, rfl, o3, k3, hs3, hp3⟩; have q0 : w3.cell? ⟨N, 0, none⟩ = some (.int .i64 s) := obj_cell hp3.out rfl; have q1 : w3.cell? ⟨N, 1, none⟩ = some (.int .i64 t) := obj_cell hp3.out rfl; have q5 : w3.cell? ⟨N, 5, none⟩ = some (.slice oa b.length c) := obj_cell hp3.out rfl)
    | (obtain ⟨v4, w4, hr, o4, k4, hp4⟩ := RUN.out w3 v3 o3 k3 hs3 hp3; refine step_append_run rfl (.tmp 32) (.tmp 34) 22 22 rfl _ _ rfl rfl _ _ hr ?_; have q0 : w4.cell? ⟨N, 0, none⟩ = some (.int .i64 s) := obj_cell hp4.out rfl; have q1 : w4.cell? ⟨N, 1, none⟩ = some (.int .i64 t) := obj_cell hp4.out rfl; have q5 : w4.cell? ⟨N, 5, none⟩ = some (.slice oa b.length c) := obj_cell hp4.out rfl)
    | fail)
  go_wp2
  have E := Pl.pkBytes_length s t l lv false b
  obtain ⟨ob, c4, rfl, -⟩ := bytes_slice o4.out.reads
  refine bodyPost_ret (v := .tuple #[.slice ob (Pl.pkBytes s t l lv false b).length c4, .nilIface]) (by simp [results, Tryd.results5, go_sem]) rfl ?_
  have q := o4.out
  have kq := k4.out
  rw [HN'.out] at q kq
  rw [E] at q ⊢
  exact ⟨ob, c4, rfl, q, kq⟩
set_option maxRecDepth 100000 in
set_option maxHeartbeats 4000000 in
theorem pencode_true (s t l lv : Int) (bv : Value) (b : List UInt8) (w : World) (hv : IsBytes w bv b) (h : Pl.pkOk s t l lv b.length) :
    Calls Tryd.prog 5 #[pkV s t l lv true bv] w fun e w' => ∃ oa c, e = .returned (.tuple #[.slice oa (8 + b.length) c, .nilIface]) ∧ OwnB w' w.heap.size (.slice oa (8 + b.length) c) (Pl.pkBytes s t l lv true b) ∧ Below w.heap.size w w' := by
  obtain ⟨oa, c, rfl, hm⟩ := bytes_slice hv
  have R := Lib.hid (fun w => check_ok s t l lv true oa b.length c h w)
  obtain ⟨h1, h2, h3, h4, h5, h6, h7, h8, h9⟩ := h
  have E0 := Lib.hid (Pl.head_true l h5 h6)
  have E1 := Lib.hid (Pl.byte_lv lv h7 h8)
  have HV := Lib.hid hv
  have L2 := Lib.hid h9
  have HB := Lib.hid ((Below.refl w.heap.size w).alloc (Nat.le_refl _) (.cells #[.int .i64 s, .int .i64 t, .int .i64 l, .int .i64 lv, .bool true, .slice oa b.length c] 24))
  have HX := Lib.hid (obj_new w (.cells #[.int .i64 s, .int .i64 t, .int .i64 l, .int .i64 lv, .bool true, .slice oa b.length c] 24))
  clear hv
  go_enter Tryd.func5, Tryd.ntmps5
  go_upto_region 4 with (go_at_call 6; refine (R.out _).mono ?_; rintro e w1 ⟨rfl, kb⟩)
  have hp : PkBox w1 w.heap.size s t l lv true (.slice oa b.length c) := Below.heapAt kb HX.out (by simp)
  have K1 := Lib.hid (HB.out.trans (kb.mono (by simp)))
  have HN : ∃ N, N = w.heap.size := ⟨_, rfl⟩
  obtain ⟨N, HN⟩ := HN
  rw [← HN] at hp K1 ⊢
  have HN' := Lib.hid HN
  clear HN kb R HB HX
  have HS1 := Lib.hid (lt_of_block hp)
  have P := fun o : Obj => obj_old hp o
  have HP := Lib.hid hp
  have p2 := obj_cell hp (k := 2) rfl
  have p3 := obj_cell hp (k := 3) rfl
  have p4 := fun o : Obj => obj_cell (obj_old hp o) (k := 4) rfl
  clear hp P
  go_upto_region 7 with fail
  refine abs_e (fun y => PkBox y N s t l lv true (.slice oa b.length c) ∧ OwnB y (N + 1) (.slice (some ⟨w1.heap.size, 0, none⟩) 2 2) [Pl.byteAt (Pl.pkHead l true) 0, Pl.byteAt lv 0] ∧ Below N w y ∧ N + 1 ≤ y.heap.size) ?_ ?_
  · exact ⟨obj_old HP.out _, lit2 _ _ _ _ E0.out E1.out HS1.out, K1.out.alloc (Nat.le_of_lt HS1.out) _, by have := HS1.out; simp; omega⟩
  rintro y ⟨hp, ho, kb, hs⟩
  clear p2 p3 p4 E0 E1 HP K1 HS1
  generalize Value.slice (some ⟨w1.heap.size, 0, none⟩) 2 2 = v5 at *
  have pd0 : y.drew.cell? ⟨N, 0, none⟩ = some (.int .i64 s) := obj_cell hp rfl
  have pd1 : y.drew.cell? ⟨N, 1, none⟩ = some (.int .i64 t) := obj_cell hp rfl
  have pd5 : y.drew.cell? ⟨N, 5, none⟩ = some (.slice oa b.length c) := obj_cell hp rfl
  have PUT1 := Lib.hid ((put_two s h1 (by omega) (N + 1) v5 _ (by simp) y.drew ho.drew hs).mono (fun e w2 ⟨v2, he, o2, k2⟩ => (show ∃ v2, e = Ending.returned v2 ∧ Hid (OwnB w2 (N + 1) v2 ([Pl.byteAt (Pl.pkHead l true) 0, Pl.byteAt lv 0] ++ Pl.putB s 2)) ∧ Hid (Below N w w2) ∧ Hid (N + 1 ≤ w2.heap.size) ∧ Hid (PkBox w2 N s t l lv true (.slice oa b.length c)) from
    ⟨v2, he, Lib.hid o2, Lib.hid ((Below.drew kb).trans (k2.mono (Nat.le_succ N))), Lib.hid (Nat.le_trans hs k2.size), Lib.hid (Below.heapAt k2 (obj_drew hp) (Nat.lt_succ_self N))⟩)))
  have PUT2 := Lib.hid (fun (w2 : World) (v2 : Value) (o2 : Hid (OwnB w2 (N + 1) v2 ([Pl.byteAt (Pl.pkHead l true) 0, Pl.byteAt lv 0] ++ Pl.putB s 2))) (k2 : Hid (Below N w w2)) (hs2 : Hid (N + 1 ≤ w2.heap.size)) (hp2 : Hid (PkBox w2 N s t l lv true (.slice oa b.length c))) =>
    (put_four t h3 h4 (N + 1) v2 _ (by simp [Pl.putB]) w2 o2.out hs2.out).mono (fun e w3 ⟨v3, he, o3, k3⟩ => (show ∃ v3, e = Ending.returned v3 ∧ Hid (OwnB w3 (N + 1) v3 (([Pl.byteAt (Pl.pkHead l true) 0, Pl.byteAt lv 0] ++ Pl.putB s 2) ++ Pl.putB t 4)) ∧ Hid (Below N w w3) ∧ Hid (N + 1 ≤ w3.heap.size) ∧ Hid (PkBox w3 N s t l lv true (.slice oa b.length c)) from
    ⟨v3, he, Lib.hid o3, Lib.hid (k2.out.trans (k3.mono (Nat.le_succ N))), Lib.hid (Nat.le_trans hs2.out k3.size), Lib.hid (Below.heapAt k3 hp2.out (Nat.lt_succ_self N))⟩)))
  have RUN := Lib.hid (fun (w3 : World) (v3 : Value) (o3 : Hid (OwnB w3 (N + 1) v3 (([Pl.byteAt (Pl.pkHead l true) 0, Pl.byteAt lv 0] ++ Pl.putB s 2) ++ Pl.putB t 4))) (k3 : Hid (Below N w w3)) (hs3 : Hid (N + 1 ≤ w3.heap.size)) (hp3 : Hid (PkBox w3 N s t l lv true (.slice oa b.length c))) =>
    (show ∃ v' w', (Builtin.append_ #[22, 22] 22 #[v3, .slice oa b.length c]).run Tryd.prog w3 = .ok v' w' ∧ Hid (OwnB w' N v' (Pl.pkBytes s t l lv true b)) ∧ Hid (Below N w w') ∧ Hid (PkBox w' N s t l lv true (.slice oa b.length c)) from by
      obtain ⟨v', w', hr, ho, hg⟩ := run_append_bytes w3 o3.out (HV.out.below (by rw [← HN'.out]; exact k3.out)) hs3.out (by have := L2.out; simp [Pl.putB]; omega)
      have kk := below_row o3.out hg (Nat.le_refl _) hs3.out
      exact ⟨v', w', hr, Lib.hid (ho.mono (Nat.le_succ N)), Lib.hid (k3.out.trans (kk.mono (Nat.le_succ N))), Lib.hid (Below.heapAt kk hp3.out (Nat.lt_succ_self N))⟩))
  clear hp ho
  go_region_held3 (fun w' => w'.cell? ⟨N, 0, none⟩ = some (.int .i64 s) ∧ w'.cell? ⟨N, 1, none⟩ = some (.int .i64 t) ∧ w'.cell? ⟨N, 5, none⟩ = some (.slice oa b.length c))
    (first | (with_reducible assumption) | (refine And.intro ?_ (And.intro ?_ ?_) <;> with_reducible assumption))
    (first
    | (go_at_call 16; (with_reducible refine PUT1.out.mono ?_); rintro e w2 ⟨v2, rfl, o2, k2, hs2, hp2⟩; have q0 : w2.cell? ⟨N, 0, none⟩ = some (.int .i64 s) := obj_cell hp2.out rfl; have q1 : w2.cell? ⟨N, 1, none⟩ = some (.int .i64 t) := obj_cell hp2.out rfl; have q5 : w2.cell? ⟨N, 5, none⟩ = some (.slice oa b.length c) := obj_cell hp2.out rfl)
    | (go_at_call 16; (with_reducible refine (PUT2.out w2 v2 o2 k2 hs2 hp2).mono ?_); rintro e w3 ⟨v3, rfl, o3, k3, hs3, hp3⟩; have q0 : w3.cell? ⟨N, 0, none⟩ = some (.int .i64 s) := obj_cell hp3.out rfl; have q1 : w3.cell? ⟨N, 1, none⟩ = some (.int .i64 t) := obj_cell hp3.out rfl; have q5 : w3.cell? ⟨N, 5, none⟩ = some (.slice oa b.length c) := obj_cell hp3.out rfl)
    | (obtain ⟨v4, w4, hr, o4, k4, hp4⟩ := RUN.out w3 v3 o3 k3 hs3 hp3; refine step_append_run rfl (.tmp 32) (.tmp 34) 22 22 rfl _ _ rfl rfl _ _ hr ?_; have q0 : w4.cell? ⟨N, 0, none⟩ = some (.int .i64 s) := obj_cell hp4.out rfl; have q1 : w4.cell? ⟨N, 1, none⟩ = some (.int .i64 t) := obj_cell hp4.out rfl; have q5 : w4.cell? ⟨N, 5, none⟩ = some (.slice oa b.length c) := obj_cell hp4.out rfl)
    | fail)
  go_wp2
  have E := Pl.pkBytes_length s t l lv true b
  obtain ⟨ob, c4, rfl, -⟩ := bytes_slice o4.out.reads
  refine bodyPost_ret (v := .tuple #[.slice ob (Pl.pkBytes s t l lv true b).length c4, .nilIface]) (by simp [results, Tryd.results5, go_sem]) rfl ?_
  have q := o4.out
  have kq := k4.out
  rw [HN'.out] at q kq
  rw [E] at q ⊢
  exact ⟨ob, c4, rfl, q, kq⟩
theorem pencode_ok (s t l lv : Int) (st : Bool) (bv : Value) (b : List UInt8) (w : World) (hv : IsBytes w bv b) (h : Pl.pkOk s t l lv b.length) :
    Calls Tryd.prog 5 #[pkV s t l lv st bv] w fun e w' => ∃ oa c, e = .returned (.tuple #[.slice oa (8 + b.length) c, .nilIface]) ∧ OwnB w' w.heap.size (.slice oa (8 + b.length) c) (Pl.pkBytes s t l lv st b) ∧ Below w.heap.size w w' := by
  cases st
  · exact pencode_false s t l lv bv b w hv h
  · exact pencode_true s t l lv bv b w hv h
end Go.Proofs.YtbjanihblffmoaaDoor
