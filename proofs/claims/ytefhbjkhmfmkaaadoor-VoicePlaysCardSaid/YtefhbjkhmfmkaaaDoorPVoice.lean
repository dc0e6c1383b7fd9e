import Derived.WalkKit
/-! Voices, the plain law: levels, scores, who is next. -/
namespace Go.Proofs.YtefhbjkhmfmkaaaDoor
set_option linter.unusedVariables false
set_option linter.unusedSimpArgs false
/-- a voice -/
structure Vc where
  who : Int
  lvl : Int
deriving DecidableEq
instance : Inhabited Vc := ⟨⟨0, 0⟩⟩
namespace Pl
abbrev Sco := Int → Option Int
def vcOk (v : Vc) : Bool := decide (0 ≤ v.who ∧ v.who ≤ 200 ∧ 0 ≤ v.lvl ∧ v.lvl ≤ 127)
theorem vcOk_iff (v : Vc) : vcOk v = true ↔ 0 ≤ v.who ∧ v.who ≤ 200 ∧ 0 ≤ v.lvl ∧ v.lvl ≤ 127 := by simp [vcOk]
/-- the level of somebody -/
def lvAt (L : List Vc) (i : Int) : Option Int := (L.find? fun v => decide (v.who = i)).map (·.lvl)
theorem lvAt_nil : lvAt [] = fun _ => none := rfl
theorem lvAt_more (L : List Vc) (v : Vc) (h : lvAt L v.who = none) : lvAt (L ++ [v]) = fun j => if j = v.who then some v.lvl else lvAt L j := by
  funext j
  unfold lvAt at *
  rw [List.find?_append]
  by_cases e : j = v.who
  · subst e
    have : L.find? (fun u => decide (u.who = v.who)) = none := by simpa using h
    simp [this]
  · have e2 : ¬ v.who = j := fun q => e q.symm
    simp [e, e2]
theorem lvAt_some {L : List Vc} {i s : Int} (h : lvAt L i = some s) : ∃ v ∈ L, v.who = i ∧ v.lvl = s := by
  unfold lvAt at h
  obtain ⟨v, hv, rfl⟩ := Option.map_eq_some_iff.1 h
  have := List.find?_some hv
  exact ⟨v, List.mem_of_find?_eq_some hv, by simpa using this, rfl⟩
/-- what is wrong with the k-th -/
def vcFault (L : List Vc) (k : Nat) (v : Vc) : Int := if vcOk v = true then (if (lvAt (L.take k) v.who).isSome = true then 7 else 0) else 1
/-- what is wrong with a round -/
def LevF (L : List Vc) (f : Int) : Prop := if 200 < L.length then f = 4 else (f = 0 ∧ ∀ k (h : k < L.length), vcFault L k L[k] = 0) ∨ (f ≠ 0 ∧ ∃ k, ∃ h : k < L.length, vcFault L k L[k] = f ∧ ∀ j (hj : j < k), vcFault L j (L[j]'(Nat.lt_trans hj h)) = 0)
theorem LevF.eq {L : List Vc} {f g : Int} (h : LevF L f) (h' : LevF L g) : f = g := by
  unfold LevF at h h'
  split at h
  · rw [if_pos (by assumption)] at h'; rw [h, h']
  · rw [if_neg (by assumption)] at h'
    rcases h with ⟨rfl, a⟩ | ⟨a, k, hk, b, c⟩ <;> rcases h' with ⟨rfl, a'⟩ | ⟨a', k', hk', b', c'⟩
    · rfl
    · exact absurd (b'.symm.trans (a k' hk')) a'
    · exact absurd (b.symm.trans (a' k hk)) a
    · rcases Nat.lt_trichotomy k k' with q | q | q
      · exact absurd (b.symm.trans (c' k q)) a
      · subst q; exact b.symm.trans b'
      · exact absurd (b'.symm.trans (c k' q)) a'
theorem LevF.ok {L : List Vc} (h : LevF L 0) : L.length ≤ 200 ∧ ∀ v ∈ L, vcOk v = true := by
  unfold LevF at h
  split at h
  · cases h
  rcases h with ⟨_, h⟩ | ⟨h, _⟩
  · refine ⟨by omega, fun x hx => ?_⟩
    obtain ⟨k, hk, rfl⟩ := List.getElem_of_mem hx
    have := h k hk
    unfold vcFault at this
    cases e : vcOk L[k] with
    | true => rfl
    | false => rw [e] at this; simp at this
  · exact absurd rfl h
theorem LevF.lv {L : List Vc} (h : LevF L 0) {i s : Int} (hs : lvAt L i = some s) : 0 ≤ i ∧ i ≤ 200 ∧ 0 ≤ s ∧ s ≤ 127 := by
  obtain ⟨v, hv, rfl, rfl⟩ := lvAt_some hs
  exact (vcOk_iff v).1 (h.ok.2 v hv)
/-- a score, a round on -/
def nsc (s l : Int) : Int := s - (s + 7) / 8 + 16 * l
theorem nsc_bd {s l : Int} (h : 0 ≤ s ∧ s ≤ 16256) (h' : 0 ≤ l ∧ l ≤ 127) : 0 ≤ nsc s l ∧ nsc s l ≤ 16256 := by unfold nsc; omega
/-- who is heard, at nought -/
def sc0 (f g : Sco) : Sco := fun i => match f i with | some s => some s | none => (g i).map fun _ => 0
def sc1 (f g : Sco) : Sco := fun i => (sc0 f g i).map fun s => nsc s ((g i).getD 0)
def sc2 (f g : Sco) : Sco := fun i => if sc1 f g i = some 0 then none else sc1 f g i
/-- scores that may be -/
def Sok (f : Sco) : Prop := ∀ i s, f i = some s → 0 ≤ i ∧ i ≤ 200 ∧ 1 ≤ s ∧ s ≤ 16256
def Gok (g : Sco) : Prop := ∀ i s, g i = some s → 0 ≤ i ∧ i ≤ 200 ∧ 0 ≤ s ∧ s ≤ 127
theorem sc0_bd {f g : Sco} (hf : Sok f) (hg : Gok g) {i s : Int} (h : sc0 f g i = some s) : 0 ≤ i ∧ i ≤ 200 ∧ 0 ≤ s ∧ s ≤ 16256 := by
  unfold sc0 at h
  cases e : f i with
  | some t => rw [e] at h; cases h; have := hf i s e; omega
  | none =>
    rw [e] at h
    obtain ⟨t, ht, rfl⟩ := Option.map_eq_some_iff.1 h
    have := hg i t ht; omega
theorem sc1_bd {f g : Sco} (hf : Sok f) (hg : Gok g) {i s : Int} (h : sc1 f g i = some s) : 0 ≤ i ∧ i ≤ 200 ∧ 0 ≤ s ∧ s ≤ 16256 := by
  unfold sc1 at h
  obtain ⟨t, ht, rfl⟩ := Option.map_eq_some_iff.1 h
  have a := sc0_bd hf hg ht
  have b : 0 ≤ (g i).getD 0 ∧ (g i).getD 0 ≤ 127 := by
    cases e : g i with
    | none => simp
    | some l => have := hg i l e; simp; omega
  have := nsc_bd (s := t) ⟨by omega, by omega⟩ b
  omega
theorem sc2_ok {f g : Sco} (hf : Sok f) (hg : Gok g) : Sok (sc2 f g) := fun i s h => by
  unfold sc2 at h
  split at h
  · cases h
  · rename_i q
    have := sc1_bd hf hg h
    have : s ≠ 0 := fun e => by subst e; exact q h
    omega
/-- so many there are -/
def Cnt (f : Sco) (c : Nat) : Prop := ∃ ks : List Int, ks.Nodup ∧ ks.length = c ∧ ∀ i, (f i).isSome = true ↔ i ∈ ks
theorem Cnt.eq {f : Sco} {c c' : Nat} (h : Cnt f c) (h' : Cnt f c') : c = c' := by
  obtain ⟨ks, h1, h2, h3⟩ := h
  obtain ⟨ks', h1', h2', h3'⟩ := h'
  rw [← h2, ← h2']
  exact ((List.perm_ext_iff_of_nodup h1 h1').2 fun i => by rw [← h3 i, h3' i]).length_eq
/-- who is ahead -/
def vBef (a b : Vc) : Prop := b.lvl < a.lvl ∨ (a.lvl = b.lvl ∧ a.who < b.who)
/-- the scores, the greatest first -/
def SortedOf (f : Sco) (R : List Vc) : Prop := R.Pairwise vBef ∧ ∀ who lv, (⟨who, lv⟩ : Vc) ∈ R ↔ f who = some lv
theorem vBef_anti {a b : Vc} (h : vBef a b) : ¬ vBef b a := by unfold vBef at *; omega
theorem SortedOf.eq {f : Sco} {R S : List Vc} (h : SortedOf f R) (h' : SortedOf f S) : R = S := by
  obtain ⟨h1, h2⟩ := h
  obtain ⟨h3, h4⟩ := h'
  have hm : ∀ x, x ∈ R ↔ x ∈ S := fun x => (h2 x.who x.lvl).trans (h4 x.who x.lvl).symm
  clear h2 h4
  induction R generalizing S with
  | nil =>
    cases S with
    | nil => rfl
    | cons y s => exact absurd ((hm y).2 (by simp)) (by simp)
  | cons x r ih =>
    cases S with
    | nil => exact absurd ((hm x).1 (by simp)) (by simp)
    | cons y s =>
      obtain ⟨a1, a2⟩ := List.pairwise_cons.1 h1
      obtain ⟨b1, b2⟩ := List.pairwise_cons.1 h3
      have e : x = y := by
        rcases List.mem_cons.1 ((hm x).1 (by simp)) with q | q
        · exact q
        · rcases List.mem_cons.1 ((hm y).2 (by simp)) with q' | q'
          · exact q'.symm
          · exact absurd (a1 y q') (vBef_anti (b1 x q))
      subst e
      congr 1
      refine ih a2 b2 fun z => ⟨fun hz => ?_, fun hz => ?_⟩
      · rcases List.mem_cons.1 ((hm z).1 (by simp [hz])) with q | q
        · subst q; exact absurd (a1 z hz) (fun k => vBef_anti k k)
        · exact q
      · rcases List.mem_cons.1 ((hm z).2 (by simp [hz])) with q | q
        · subst q; exact absurd (b1 z hz) (fun k => vBef_anti k k)
        · exact q
/-- who speaks, behind a round -/
def nextSp (f : Sco) (R : List Vc) (sp : Int) : Int :=
  match R with
  | [] => if (f sp).isSome = true then sp else -1
  | b :: _ => match f sp with
    | none => b.who
    | some s => if s + 200 < b.lvl then b.who else sp
end Pl
end Go.Proofs.YtefhbjkhmfmkaaaDoor
