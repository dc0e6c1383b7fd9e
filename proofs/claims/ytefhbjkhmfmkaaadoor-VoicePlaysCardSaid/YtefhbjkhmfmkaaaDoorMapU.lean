import Derived.Test.YtefhbjkhmfmkaaaDoorMapR
/-! A store at a key that is there, in a range over the map. Of whatever program. -/
namespace Go.Proofs.YtefhbjkhmfmkaaaDoor
open Go Go.RowKit Go.ChangeShapes Go.WideShapes Go.ChangeMaps Go.MapKept
open Go.WideElems (Fit rd rg pl rd_key rd_val rg_of other_key rd_mk)
open Go.Maps (Keyed)
set_option linter.unusedVariables false
set_option linter.unusedSimpArgs false
theorem setBlock_map_inj {w : World} {b : Nat} {es es' : Array MapEntry} {c c' : Nat} (hb : b < w.heap.size) (h : setBlock w b (.map es c) = setBlock w b (.map es' c')) : es = es' ∧ c = c' := by
  have q : (setBlock w b (.map es c)).heap[b]? = (setBlock w b (.map es' c')).heap[b]? := by rw [h]
  simp [setBlock, hb] at q
  exact q
theorem ranges_put {P : Program} {k t e : TypeId} {w : World} {b r n cnt : Nat} {D : DataW Value} {left : Lit → Bool} (h : w.ranges P k Rv b r n D left cnt) (K : Keyed P k) (ht : P.underlying t = some (.map k e)) (hn : n < maxLen) {key val : Value} {kl : Lit} (hkey : keyOf P k key = some kl) (hh : Maps.has D kl = true) :
    ∃ w', (Instr.mapUpdate t (.map (some b)) key val).run P w = .ok () w' ∧ w'.ranges P k Rv b r n (D.put kl (.held val)) left cnt ∧ w.grownBy w' (some b) := by
  have hne := h.ne
  obtain ⟨es, clock, since, seen, c0, hb, F, hs, rfl, hr, hold, rfl, hl1, hl2, hsc, hsk⟩ := h
  have hbl : b < w.heap.size := (Array.getElem?_eq_some_iff.1 hb).1
  have hv : Rv val = some (.held val, []) := rfl
  obtain ⟨es', clock', hrun, F', hput, _, _, hwho⟩ := Maps.fit_store (R' := Rv) K ht hb F (Nat.lt_of_le_of_lt hs hn) (fun _ _ _ _ hz => hz) hkey hv
  rcases K.find w hkey es.toList F.keys with ⟨h1, h2⟩ | ⟨j, e0, h1, h2, h3⟩
  · exfalso
    rw [Maps.has_eq, List.any_eq_true] at hh
    obtain ⟨p, hp, hsame⟩ := hh
    obtain ⟨x, hx, rfl⟩ := List.mem_map.1 (mem_sorted.1 hp)
    obtain ⟨y, hy⟩ := F.reads x hx
    have e1 := WideAt.sameKey_eq hsame
    rw [rg_of hy] at e1
    exact h2 x hx (K.inj (e1 ▸ rd_key hy) hkey)
  · have hj : es[j]? = some e0 := by simpa using h2
    have hjl : j < es.toList.length := (List.getElem?_eq_some_iff.1 h2).1
    have hrun2 : (Instr.mapUpdate t (.map (some b)) key val).run P w = .ok () (setBlock w b (.map (es.modify j (fun e' => { e' with key := key, val := val })) clock)) := by
      simp [Instr.mapUpdate, run_underlying ht, MapKept.run_getObj_map hb, K.check w false hkey, h1, hj, h3, K.stays w hkey, MapKept.run_setObj_map _ hb, Result.andThen, setBlock]
    rw [hrun] at hrun2
    have heq : setBlock w b (.map es' clock') = setBlock w b (.map (es.modify j (fun e' => { e' with key := key, val := val })) clock) := (Result.ok.inj hrun2).2
    obtain ⟨e1, e2⟩ := setBlock_map_inj hbl heq
    have hlist : es'.toList = es.toList.set j { e0 with key := key, val := val } := by rw [e1, Array.toList_modify, modify_eq_set _ _ _ _ h2]
    subst e2
    have hem : e0 ∈ es.toList := List.mem_of_getElem? h2
    have hk0 : (rg P k Rv e0).1 = kl := by
      obtain ⟨y, hy⟩ := F.reads e0 hem
      rw [rg_of hy]
      have := rd_key hy
      rw [h3, hkey] at this
      exact (Option.some.inj this).symm
    have hk1 : (rg P k Rv { e0 with key := key, val := val }).1 = kl := by
      rw [rg_of (rd_mk hkey hv)]
    have mem : ∀ x, x ∈ es'.toList → x = { e0 with key := key, val := val } ∨ (x ∈ es.toList) := fun x hx => by
      rw [hlist] at hx
      rcases List.mem_or_eq_of_mem_set hx with q | q
      · exact .inr q
      · exact .inl q
    refine ⟨_, hrun, ⟨es', clock', since, seen, c0, heap_setBlock_same hb _, F', ?_, by rw [DataW.put_eq, hput], (heap_setBlock_other hb _ hne).trans hr, fun x hx => ?_, ?_, fun x hx => ?_, fun x0 hx0 => ?_, hsc, hsk⟩, ⟨rfl, rfl, rfl, by simp [setBlock], fun i _ hi => heap_setBlock_other hb _ (fun e => hi (by rw [e]))⟩⟩
    · have : es'.size = es.size := by rw [e1]; simp
      omega
    · rcases mem x hx with rfl | q
      · exact hold e0 hem
      · exact hold x q
    · have e3 : ∀ a : Array MapEntry, (leftOf a seen).size = (a.toList.filter fun e => !seen.contains e.born).length := fun a => by
        unfold leftOf
        rw [← Array.toList_filter, Array.length_toList]
      have e4 : ∀ l : List MapEntry, (l.filter fun e => !seen.contains e.born).length = ((l.map (·.born)).filter fun c => !seen.contains c).length := fun l => by
        rw [List.filter_map, List.length_map]; rfl
      rw [e3, e3, e4, e4, hlist, List.map_set]
      congr 2
      refine List.ext_getElem? fun i => ?_
      rw [List.getElem?_set]
      split
      · rename_i q
        subst q
        rw [if_pos (by simpa using hjl), List.getElem?_map, h2]; rfl
      · rfl
    · rcases mem x hx with rfl | q
      · rw [hk1, ← hk0, hl1 e0 hem]
      · exact hl1 x q
    · obtain ⟨x, hx, rfl⟩ := hl2 x0 hx0
      by_cases q : x.key = key
      · refine ⟨{ e0 with key := key, val := val }, by rw [hlist]; exact List.mem_iff_getElem.2 ⟨j, by simpa using hjl, by simp⟩, ?_⟩
        rw [hk1]
        obtain ⟨y, hy⟩ := F.reads x hx
        rw [rg_of hy]
        have := rd_key hy
        rw [q, hkey] at this
        exact Option.some.inj this
      · obtain ⟨i, hi⟩ := List.getElem?_of_mem hx
        refine ⟨x, ?_, rfl⟩
        rw [hlist]
        refine List.mem_of_getElem? (i := i) ?_
        rw [List.getElem?_set, if_neg (fun e => q (by subst e; rw [h2] at hi; cases hi; exact h3))]
        exact hi
/-- 'm[k] = v' in the round, at a key that is there -/
theorem wpList_mputr {P : Program} (w : World) {ops : Array Oper} {rest : List Oper} {o : Oper} {a : Act} {Q : Exit → Act → World → Prop} (hg : o.guard = none) (m x v : Operand) (t : TypeId) (hop : o.op = Op.mapUpdate t m x v) (k e : TypeId) (K : Keyed P k) (hk : P.underlying k = some (.int .i64)) (ht : P.underlying t = some (.map k e)) (b r c : Nat) (f : Int → Option Value) (left : Int → Bool) (cnt : Nat)
    (hm : a.eval m = .map (some b)) (h : RangesAt P k w b r c f left cnt) (hc : c < 1000000) (i : Int) (val : Value) (hx : a.eval x = .int .i64 i) (hv : a.eval v = val) (hw : (Lit.int .i64 i).wf = true) (hf : (f i).isSome = true)
    (hK : ∀ w', RangesAt P k w' b r c (fun j => if j = i then some val else f j) left cnt → w.grownBy w' (some b) → wpList P ops Q rest (a.put o.dst undef) w') :
    wpList P ops Q (o :: rest) a w := by
  obtain ⟨n, D, lf, h1, h2, h3, h4⟩ := h
  have tidy := h1.owns.tidy K
  have e1 := MapAt.has (P := P) (k := k) (w := w) (b := b) (c := c) h3 i
  have hnn : ∃ n', n' < maxLen ∧ w.ranges P k Rv b r n' D lf cnt := by
    obtain ⟨es, clock, since, seen, c0, hb, F, hs, hD, rest⟩ := h1
    refine ⟨es.size, ?_, es, clock, since, seen, c0, hb, F, Nat.le_refl _, hD, rest⟩
    have : es.size = c := by
      rw [← h2, hD, Maps.size_eq, (sorted_perm _).length_eq]; simp
    unfold maxLen; omega
  obtain ⟨n', hn', h1'⟩ := hnn
  obtain ⟨w', hrun, hrg, hgr⟩ := ranges_put (val := val) h1' K ht hn' (Maps.keyOf_int_mk hk hw) (by rw [e1]; exact hf)
  refine wpList_plain hg fun K' hK' => ?_
  unfold Oper.wp
  simp [execOp, hop, hm, hx, hv, hrun, Result.andThen]
  refine hK' _ _ (hK w' ⟨n', _, lf, hrg, ?_, fun j z => ?_, h4⟩ hgr)
  · rw [Maps.size_put tidy, e1, hf, h2]; rfl
  · by_cases hj : j = i
    · subst hj
      rw [Maps.atKey_put_same tidy.isMap (isKey_int _)]
      simp [Rd]
    · rw [Maps.atKey_put_other (by simp [hj]), h3 j z]
      simp [hj]
section
variable {P : Program} (w : World) {ops : Array Oper} {rest : List Oper} {o : Oper} {a : Act} {Q : Exit → Act → World → Prop}
/-- 'm[k]' -/
theorem wpList_mlook0 (hg : o.guard = none) (m x : Operand) (t : TypeId) (hop : o.op = Op.lookup t m x false) (k e : TypeId) (K : Keyed P k) (hk : P.underlying k = some (.int .i64)) (ht : P.underlying t = some (.map k e)) {z : Value} (hz : (zeroValue e).run P w = .ok z w) (b c : Nat) (f : Int → Option Value)
    (hm : a.eval m = .map (some b)) (hown : MapAt P k w b c f) (i : Int) (hx : a.eval x = .int .i64 i) (hw : (Lit.int .i64 i).wf = true)
    (hK : wpList P ops Q rest (a.put o.dst ((f i).getD z)) w) : wpList P ops Q (o :: rest) a w := by
  obtain ⟨D, h1, h2, h3⟩ := hown
  obtain ⟨v, ps, hrun, hv⟩ := h1.lookup K ht hz (zd := .held z) (zp := []) rfl (Maps.keyOf_int_mk hk hw)
  have e2 : v = (f i).getD z := by
    rw [h3 i (.held z)] at hv
    simp only [Rv, Option.some.injEq, Prod.mk.injEq] at hv
    cases hf : f i with
    | none => rw [hf] at hv; simp [Rd] at hv; simp [hv.1]
    | some u => rw [hf] at hv; simp [Rd] at hv; simp [hv.1]
  refine wpList_plain hg fun K' hK' => ?_
  unfold Oper.wp
  simp [execOp, hop, hm, hx, hrun, Result.andThen]
  rw [e2]
  exact hK' _ _ hK
end
end Go.Proofs.YtefhbjkhmfmkaaaDoor
