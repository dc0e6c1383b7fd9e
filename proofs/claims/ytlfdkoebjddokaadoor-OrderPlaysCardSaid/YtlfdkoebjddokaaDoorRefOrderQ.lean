import Derived.Test.YtlfdkoebjddokaaDoorRefOrderG
/-! The reference's Order: Pop, the plain part. -/
namespace Go.Proofs.YtlfdkoebjddokaaDoor
open Go.RowKit
set_option linter.unusedVariables false
set_option linter.unusedSimpArgs false
def goneI (j : Int) : Itm := ⟨j, true, 0, 0, 0, 0, false, none, 0, 0⟩
/-- what is handed out for a number -/
def outI (L : List KI) (j : Int) : Itm := ((L.find? (fun x => decide (x.num = j))).map KI.it).getD (goneI j)
def popI (L : List KI) (n : Int) (k : Nat) : List Itm := (List.range k).map (fun i : Nat => outI L (n + i))
theorem popI_step (L : List KI) (n : Int) (k : Nat) : popI L n (k + 1) = popI L n k ++ [outI L (n + k)] := by simp [popI, List.range_succ]
theorem popI_len (L : List KI) (n : Int) (k : Nat) : (popI L n k).length = k := by simp [popI]
theorem popI_get (L : List KI) (n : Int) (k i : Nat) (hi : i < k) : (popI L n k)[i]? = some (outI L (n + i)) := by
  unfold popI; rw [List.getElem?_map, List.getElem?_range hi]; rfl
/-- nothing is handed out at a number -/
def StopK (L : List KI) (now wait m : Int) : Prop := (∀ x ∈ L, x.num ≠ m) ∧ ∀ x ∈ L, m ≤ x.num → now - x.at_ < wait
theorem outI_some {L : List KI} (hn : (L.map KI.num).Nodup) {x : KI} (hx : x ∈ L) : outI L x.num = x.it := by
  induction L with
  | nil => cases hx
  | cons y r ih =>
    rw [List.map_cons, List.nodup_cons] at hn
    unfold outI at *
    rw [List.find?_cons]
    rcases List.mem_cons.1 hx with rfl | hx
    · simp
    · have hne : y.num ≠ x.num := fun e => hn.1 (by rw [e]; exact List.mem_map.2 ⟨x, hx, rfl⟩)
      rw [show decide (y.num = x.num) = false from by simpa using hne]
      exact ih hn.2 hx
theorem outI_none {L : List KI} {j : Int} (h : ∀ x ∈ L, x.num ≠ j) : outI L j = goneI j := by
  unfold outI
  rw [List.find?_eq_none.2 (fun x hx => by simpa using h x hx)]; rfl
/-- what is left -/
def leftK (L : List KI) (m : Int) : List KI := L.filter (fun x => decide (m ≤ x.num))
theorem leftK_mem {L : List KI} {m : Int} {x : KI} : x ∈ leftK L m ↔ x ∈ L ∧ m ≤ x.num := by unfold leftK; rw [List.mem_filter]; simp
theorem leftK_all {L : List KI} {m : Int} (h : ∀ x ∈ L, m ≤ x.num) : leftK L m = L := by
  unfold leftK; rw [List.filter_eq_self]; intro x hx; simpa using h x hx
theorem leftK_len (L : List KI) (m : Int) : (leftK L m).length ≤ L.length := List.length_filter_le _ _
theorem leftK_next (L : List KI) (m : Int) : leftK L (m + 1) = (leftK L m).filter (fun x => decide (x.num ≠ m)) := by
  unfold leftK
  rw [List.filter_filter]
  refine List.filter_congr (fun x _ => ?_)
  by_cases h : m + 1 ≤ x.num
  · have h1 : m ≤ x.num := by omega
    have h2 : x.num ≠ m := by omega
    simp [h, h1, h2]
  · by_cases h2 : x.num = m
    · simp [h2]; omega
    · have h1 : ¬ m ≤ x.num := by omega
      simp [h, h1]
theorem leftK_skip {L : List KI} {m : Int} (h : ∀ x ∈ leftK L m, x.num ≠ m) : leftK L (m + 1) = leftK L m := by
  rw [leftK_next, List.filter_eq_self]
  intro x hx
  simpa using h x hx
theorem filter_one : ∀ (K : List KI) (j : Nat) (hj : j < K.length) (m : Int), (K.map KI.num).Nodup → K[j].num = m → K.filter (fun x => decide (x.num ≠ m)) = K.take j ++ K.drop (j + 1)
  | [], j, hj, _, _, _ => by simp at hj
  | x :: r, 0, _, m, hn, he => by
    rw [List.map_cons, List.nodup_cons] at hn
    have hx : x.num = m := he
    rw [List.filter_cons, if_neg (by simp [hx])]
    simp
    intro y hy e
    exact hn.1 (List.mem_map.2 ⟨y, hy, e.trans hx.symm⟩)
  | x :: r, j + 1, hj, m, hn, he => by
    rw [List.map_cons, List.nodup_cons] at hn
    have hj' : j < r.length := by simpa using hj
    have he' : r[j].num = m := he
    have hx : x.num ≠ m := fun e => hn.1 (List.mem_map.2 ⟨r[j], List.getElem_mem hj', he'.trans e.symm⟩)
    rw [List.filter_cons, if_pos (by simpa using hx), filter_one r j hj' m hn.2 he']
    simp
theorem leftK_drop {L : List KI} {m : Int} (hn : (L.map KI.num).Nodup) (j : Nat) (hj : j < (leftK L m).length) (he : (leftK L m)[j].num = m) : (leftK L m).take j ++ (leftK L m).drop (j + 1) = leftK L (m + 1) := by
  rw [leftK_next, filter_one _ j hj m ?_ he]
  exact hn.sublist (List.Sublist.map _ List.filter_sublist)
/-- what is left behind o.L[:k] .. -/
theorem rem_first {M : Nat} {y : World} {b : Nat} {wait now next : Int} {g c1 : Nat} {K : List KI} {n : Nat} (h : ROrd M y b wait now next (.slice (some ⟨g, 0, none⟩) n c1) K) (hK : K.length ≤ 100000) (j : Nat) (hj : j < K.length) :
    ∃ vN wN, (Builtin.append_ #[31, 31] 31 #[.slice none 0 0, .slice (some ⟨g, 0, none⟩) j c1]).run Tryd.prog y = .ok vN wN ∧ keptK.Own wN y.heap.size vN (K.take j) ∧ Below y.heap.size y wN := by
  have RUN1 := RecK.run_more keptK_ok y y.heap.size (.slice none 0 0) [] (K.take j) (RecK.Own.nil _ _) ⟨g, 0, none⟩ c1 (fun i u hu => by
    have hc := h.row.cells (g := g) rfl
    refine hc i u ?_
    conv => lhs; rw [← List.take_append_drop j K]
    rw [RecK.all_app, List.getElem?_append_left (List.getElem?_eq_some_iff.1 hu).1]; exact hu) (by simp; omega) (Nat.le_refl _)
  rw [show (K.take j).length = j by simp; omega] at RUN1
  obtain ⟨vN, wN, hr, ho, hgr, hbk⟩ := RUN1
  refine ⟨vN, wN, hr, ho, ⟨hgr.os, hgr.tape, hgr.output, hgr.size, fun k hk => hgr.block k hk (fun e => by simp [Value.ownBlock] at e)⟩⟩
/-- .. and o.L[k+1:] -/
theorem rem_second {M S : Nat} {y : World} {b : Nat} {wait now next : Int} {g c1 : Nat} {K : List KI} {n : Nat} (h : ROrd M y b wait now next (.slice (some ⟨g, 0, none⟩) n c1) K) (hK : K.length ≤ 100000) (j : Nat) (hj : j < K.length) (hS : S ≤ y.heap.size) {vN : Value} (ho : keptK.Own y S vN (K.take j)) :
    (c1 ≠ j + 1 → ∃ v9 w9, (Builtin.append_ #[31, 31] 31 #[vN, .slice (some ⟨g, (j + 1) * 9, none⟩) (K.length - (j + 1)) (c1 - (j + 1))]).run Tryd.prog y = .ok v9 w9 ∧ keptK.Own w9 S v9 (K.take j ++ K.drop (j + 1)) ∧ Below S y w9) ∧
    (c1 = j + 1 → ∃ v9 w9, (Builtin.append_ #[31, 31] 31 #[vN, .slice (some ⟨g, 0, none⟩) (K.length - (j + 1)) 0]).run Tryd.prog y = .ok v9 w9 ∧ keptK.Own w9 S v9 (K.take j ++ K.drop (j + 1)) ∧ Below S y w9) := by
  have fin : ∀ {w9 : World}, y.grownBy w9 vN.ownBlock → Below S y w9 := fun {w9} hgr =>
    ⟨hgr.os, hgr.tape, hgr.output, hgr.size, fun k hk => hgr.block k (by omega) (fun e => by have := (ho.lt k e.symm).1; omega)⟩
  have hcl : K.length ≤ c1 := by
    rcases h.row.2 with ⟨h0, _⟩ | ⟨g', cap, cur, h0, _, _, hc, _⟩
    · cases h0
    · cases h0; exact hc
  refine ⟨fun _ => ?_, fun e => ?_⟩
  · have RUN2 := RecK.run_more keptK_ok y S vN (K.take j) (K.drop (j + 1)) ho ⟨g, (j + 1) * 9, none⟩ (c1 - (j + 1)) (fun i u hu => by
      have hc := h.row.cells (g := g) rfl
      have e1 : (keptK.all (K.take (j + 1))).length = (j + 1) * 9 := by rw [keptK.all_len keptK_ok, List.length_take, Nat.min_eq_left (by omega)]; rfl
      have := hc ((j + 1) * 9 + i) u (by
        conv => lhs; rw [← List.take_append_drop (j + 1) K]
        rw [RecK.all_app, List.getElem?_append_right (by omega), e1, Nat.add_sub_cancel_left]; exact hu)
      rw [Addr.add_lit, Nat.zero_add] at this
      rw [Addr.add_lit]
      exact this) (by simp; omega) hS
    rw [show (K.drop (j + 1)).length = K.length - (j + 1) by simp] at RUN2
    obtain ⟨v9, w9, hr, ho9, hgr, _⟩ := RUN2
    exact ⟨v9, w9, hr, ho9, fin hgr⟩
  · have RUN3 := RecK.run_more keptK_ok y S vN (K.take j) (K.drop (j + 1)) ho ⟨g, 0, none⟩ 0 (fun i u hu => by
      rw [List.drop_eq_nil_of_le (by omega)] at hu
      simp [RecK.all_nil] at hu) (by simp; omega) hS
    rw [show (K.drop (j + 1)).length = K.length - (j + 1) by simp] at RUN3
    obtain ⟨v9, w9, hr, ho9, hgr, _⟩ := RUN3
    exact ⟨v9, w9, hr, ho9, fin hgr⟩
set_option maxRecDepth 100000 in
theorem rPop_bad (b : Nat) (wait cur next : Int) (v : Value) (now : Int) (hf : Pl.oTime cur now ≠ 0) (w : World) (h : ROrdAt w b wait cur next v) :
    Calls Tryd.prog 11 #[.pointer (some ⟨b, 0, none⟩), .int .i64 now] w fun e w' => e = .returned (.tuple #[.slice none 0 0, .int .i64 (Pl.oTime cur now)]) ∧ w = w' := by
  have T := Lib.hid (rOrdTime_any b wait cur next v now w h)
  clear h
  have d0 : (Pl.oTime cur now != 0) = true := by simpa using hf
  generalize Pl.oTime cur now = f at *
  clear hf
  go_enter Tryd.func11, Tryd.ntmps11
  go_wp2_with (go_at_call 26; (with_reducible refine T.out.mono ?_); rintro e w' ⟨rfl, rfl⟩)
  go_ret2
  exact ⟨rfl, rfl⟩
end Go.Proofs.YtlfdkoebjddokaaDoor
