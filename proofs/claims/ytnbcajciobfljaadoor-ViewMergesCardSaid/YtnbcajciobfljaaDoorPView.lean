import Derived.WalkKit
/-! Views, the plain law: who is later, what two come to. -/
namespace Go.Proofs.YtnbcajciobfljaaDoor
set_option linter.unusedVariables false
set_option linter.unusedSimpArgs false
/-- a member -/
structure Mb where
  n : Int
  v : Int
  up : Bool
deriving DecidableEq
namespace Pl
def mbOk (m : Mb) : Bool := decide (0 ≤ m.n ∧ m.n ≤ 15 ∧ 1 ≤ m.v ∧ m.v ≤ 1000000)
theorem mbOk_iff (m : Mb) : mbOk m = true ↔ 0 ≤ m.n ∧ m.n ≤ 15 ∧ 1 ≤ m.v ∧ m.v ≤ 1000000 := by simp [mbOk]
def prevN (L : List Mb) (k : Nat) : Int := match L[k - 1]? with | some p => p.n | none => 0
/-- what is wrong with the k-th -/
def mbFault (L : List Mb) (k : Nat) (m : Mb) : Int := if mbOk m = true then (if 0 < k ∧ m.n ≤ prevN L k then 3 else 0) else 1
/-- what is wrong with a view -/
def ViewF (L : List Mb) (f : Int) : Prop := if 16 < L.length then f = 4 else (f = 0 ∧ ∀ k (h : k < L.length), mbFault L k L[k] = 0) ∨ (f ≠ 0 ∧ ∃ k, ∃ h : k < L.length, mbFault L k L[k] = f ∧ ∀ j (hj : j < k), mbFault L j (L[j]'(Nat.lt_trans hj h)) = 0)
theorem ViewF.eq {L : List Mb} {f g : Int} (h : ViewF L f) (h' : ViewF L g) : f = g := by
  unfold ViewF at h h'
  split at h
  · rw [if_pos (by assumption)] at h'; rw [h, h']
  · rw [if_neg (by assumption)] at h'
    rcases h with ⟨rfl, a⟩ | ⟨a, k, hk, b, c⟩ <;> rcases h' with ⟨rfl, a'⟩ | ⟨a', k', hk', b', c'⟩
    · rfl
    · exact absurd (b'.symm.trans (a k' hk')) a'
    · exact absurd (b.symm.trans (a' k hk)) a
    · rcases Nat.lt_trichotomy k k' with q | q | q
      · exact absurd (b.symm.trans (c' k q)) a
      · subst q; exact b.symm.trans b'
      · exact absurd (b'.symm.trans (c k' q)) a'
/-- numbers rise -/
abbrev Ris (L : List Mb) : Prop := L.Pairwise fun x y => x.n < y.n
/-- a view that may be -/
structure GoodV (L : List Mb) : Prop where
  len : L.length ≤ 16
  ok : ∀ x ∈ L, mbOk x = true
  ris : Ris L
theorem ris_adj {L : List Mb} (h : ∀ i (h : i + 1 < L.length), L[i].n < L[i + 1].n) : Ris L := by
  refine List.pairwise_iff_getElem.2 ?_
  intro i j hi hj hij
  induction j with
  | zero => omega
  | succ j ih =>
    by_cases e : i = j
    · subst e; exact h i hj
    · have a := ih (by omega) (by omega)
      have b := h j hj
      omega
theorem ViewF.good {L : List Mb} (h : ViewF L 0) : GoodV L := by
  unfold ViewF at h
  split at h
  · cases h
  rcases h with ⟨_, h⟩ | ⟨h, _⟩
  · refine ⟨by omega, fun x hx => ?_, ris_adj fun i hi => ?_⟩
    · obtain ⟨k, hk, rfl⟩ := List.getElem_of_mem hx
      have := h k hk
      unfold mbFault at this
      cases e : mbOk L[k] with
      | true => rfl
      | false => rw [e] at this; simp at this
    · have := h (i + 1) hi
      unfold mbFault at this
      split at this
      · split at this
        · cases this
        · rename_i q
          have e : prevN L (i + 1) = L[i].n := by unfold prevN; simp [List.getElem?_eq_getElem (show i < L.length by omega)]
          rw [e] at q
          omega
      · cases this
  · exact absurd rfl h
theorem GoodV.view {L : List Mb} (h : GoodV L) : ViewF L 0 := by
  unfold ViewF
  rw [if_neg (by have := h.len; omega)]
  refine .inl ⟨rfl, fun k hk => ?_⟩
  unfold mbFault
  rw [if_pos (h.ok _ (List.getElem_mem hk))]
  split
  · rename_i q
    have e : prevN L k = (L[k - 1]'(by omega)).n := by unfold prevN; simp [List.getElem?_eq_getElem (show k - 1 < L.length by omega)]
    rw [e] at q
    have := (List.pairwise_iff_getElem.1 h.ris) (k - 1) k (by omega) hk (by omega)
    omega
  · rfl
theorem ris_low {L : List Mb} (h : Ris L) (h0 : ∀ x ∈ L, 0 ≤ x.n) : ∀ k (hk : k < L.length), (k : Int) ≤ L[k].n := by
  intro k
  induction k with
  | zero => intro hk; exact h0 _ (List.getElem_mem hk)
  | succ k ih =>
    intro hk
    have := ih (by omega)
    have := (List.pairwise_iff_getElem.1 h) k (k + 1) (by omega) hk (by omega)
    omega
theorem ris_len {L : List Mb} (h : Ris L) (h0 : ∀ x ∈ L, mbOk x = true) : L.length ≤ 16 := by
  by_cases e : L.length ≤ 16
  · exact e
  · have a := ris_low h (fun x hx => ((mbOk_iff x).1 (h0 x hx)).1) 16 (by omega)
    have b := ((mbOk_iff _).1 (h0 _ (List.getElem_mem (show 16 < L.length by omega)))).2.1
    omega
/-- how late -/
def key (m : Mb) : Int := 2 * m.v + if m.up = true then 0 else 1
theorem key_inj {a b : Mb} (h : a.n = b.n) (k : key a = key b) : a = b := by
  obtain ⟨n, v, u⟩ := a
  obtain ⟨n', v', u'⟩ := b
  simp only at h
  subst h
  unfold key at k
  cases u <;> cases u' <;> simp at k ⊢ <;> omega
/-- put into a view -/
def putV : List Mb → Mb → List Mb
  | [], m => [m]
  | x :: r, m => if x.n < m.n then x :: putV r m else if x.n = m.n then (if key x < key m then m else x) :: r else m :: x :: r
/-- that of a node -/
def vat (L : List Mb) (n : Int) : Option Mb := L.find? fun m => decide (m.n = n)
theorem vat_n {L : List Mb} {n : Int} {m : Mb} (h : vat L n = some m) : m.n = n := by
  have := List.find?_some h
  simpa using this
theorem vat_mem {L : List Mb} {n : Int} {m : Mb} (h : vat L n = some m) : m ∈ L := List.mem_of_find?_eq_some h
theorem vat_cons (x : Mb) (r : List Mb) (n : Int) : vat (x :: r) n = if x.n = n then some x else vat r n := by
  unfold vat
  rw [List.find?_cons]
  by_cases e : x.n = n
  · simp [e]
  · simp [e]
theorem vat_none {L : List Mb} {n : Int} (h : ∀ x ∈ L, x.n ≠ n) : vat L n = none := by
  unfold vat
  rw [List.find?_eq_none]
  intro x hx; simpa using h x hx
theorem vat_of {L : List Mb} (h : Ris L) {m : Mb} (hm : m ∈ L) : vat L m.n = some m := by
  induction L with
  | nil => cases hm
  | cons x r ih =>
    rw [vat_cons]
    obtain ⟨h1, h2⟩ := List.pairwise_cons.1 h
    rcases List.mem_cons.1 hm with rfl | hm
    · rw [if_pos rfl]
    · rw [if_neg (by have := h1 m hm; omega)]
      exact ih h2 hm
def jn (x : Option Mb) (m : Mb) : Mb := match x with | none => m | some x => if key x < key m then m else x
def jo (x y : Option Mb) : Option Mb := match y with | none => x | some m => some (jn x m)
theorem putV_mem {L : List Mb} {m x : Mb} (h : x ∈ putV L m) : x = m ∨ x ∈ L := by
  induction L with
  | nil => simp [putV] at h; exact .inl h
  | cons y r ih =>
    unfold putV at h
    split at h
    · rcases List.mem_cons.1 h with rfl | h
      · exact .inr (by simp)
      · rcases ih h with q | q
        · exact .inl q
        · exact .inr (by simp [q])
    · split at h
      · rcases List.mem_cons.1 h with h | h
        · split at h
          · exact .inl h
          · exact .inr (by simp [h])
        · exact .inr (by simp [h])
      · rcases List.mem_cons.1 h with h | h
        · exact .inl h
        · exact .inr h
theorem putV_ris {L : List Mb} {m : Mb} (h : Ris L) : Ris (putV L m) := by
  induction L with
  | nil => simp [putV, Ris]
  | cons y r ih =>
    obtain ⟨h1, h2⟩ := List.pairwise_cons.1 h
    unfold putV
    split
    · refine List.pairwise_cons.2 ⟨fun z hz => ?_, ih h2⟩
      rcases putV_mem hz with rfl | hz
      · assumption
      · exact h1 z hz
    · split
      · refine List.pairwise_cons.2 ⟨fun z hz => ?_, h2⟩
        have := h1 z hz
        split <;> omega
      · refine List.pairwise_cons.2 ⟨fun z hz => ?_, h⟩
        rcases List.mem_cons.1 hz with rfl | hz
        · omega
        · have := h1 z hz; omega
theorem putV_ok {L : List Mb} {m : Mb} (h : ∀ x ∈ L, mbOk x = true) (hm : mbOk m = true) : ∀ x ∈ putV L m, mbOk x = true := fun x hx => by
  rcases putV_mem hx with rfl | hx
  · exact hm
  · exact h x hx
theorem putV_good {L : List Mb} {m : Mb} (h : GoodV L) (hm : mbOk m = true) : GoodV (putV L m) := ⟨ris_len (putV_ris h.ris) (putV_ok h.ok hm), putV_ok h.ok hm, putV_ris h.ris⟩
theorem vat_put {L : List Mb} (h : Ris L) (m : Mb) (n : Int) : vat (putV L m) n = if n = m.n then some (jn (vat L n) m) else vat L n := by
  induction L with
  | nil =>
    unfold putV
    rw [vat_cons]
    by_cases e : n = m.n
    · rw [if_pos e, if_pos e.symm]; rfl
    · rw [if_neg e, if_neg (fun q => e q.symm)]
  | cons y r ih =>
    obtain ⟨h1, h2⟩ := List.pairwise_cons.1 h
    unfold putV
    split
    · rename_i q
      rw [vat_cons, vat_cons, ih h2]
      by_cases e : y.n = n
      · rw [if_pos e, if_pos e, if_neg (by omega)]
      · rw [if_neg e, if_neg e]
    · rename_i q
      split
      · rename_i q2
        rw [vat_cons, vat_cons]
        by_cases e : n = m.n
        · rw [if_pos e, if_pos (show y.n = n by omega)]
          have : (if key y < key m then m else y).n = n := by split <;> omega
          rw [if_pos this]
          rfl
        · rw [if_neg e]
          have : (if key y < key m then m else y).n ≠ n := by split <;> omega
          rw [if_neg this, if_neg (by omega)]
      · rename_i q2
        rw [vat_cons]
        by_cases e : n = m.n
        · rw [if_pos e, if_pos e.symm]
          rw [vat_none (L := y :: r) (fun x hx => by
            rcases List.mem_cons.1 hx with rfl | hx
            · omega
            · have := h1 x hx; omega)]
          rfl
        · rw [if_neg (fun k => e k.symm), if_neg e]
/-- merged -/
def mergeV (A B : List Mb) : List Mb := B.foldl putV A
theorem mergeV_good {A B : List Mb} (h : GoodV A) (hB : ∀ x ∈ B, mbOk x = true) : GoodV (mergeV A B) := by
  induction B generalizing A with
  | nil => exact h
  | cons m r ih => exact ih (putV_good h (hB m (by simp))) (fun x hx => hB x (by simp [hx]))
theorem vat_merge {A B : List Mb} (h : Ris A) (hB : Ris B) (n : Int) : vat (mergeV A B) n = jo (vat A n) (vat B n) := by
  induction B generalizing A with
  | nil => rfl
  | cons m r ih =>
    obtain ⟨h1, h2⟩ := List.pairwise_cons.1 hB
    have := ih (putV_ris (m := m) h) h2
    unfold mergeV at this ⊢
    rw [List.foldl_cons, this, vat_put h, vat_cons]
    by_cases e : n = m.n
    · have hv : vat r n = none := vat_none (fun x hx => by have := h1 x hx; omega)
      rw [if_pos e, if_pos e.symm, hv]
      rfl
    · rw [if_neg e, if_neg (fun k => e k.symm)]
theorem vat_ext {A B : List Mb} (h : Ris A) (h' : Ris B) (e : ∀ n, vat A n = vat B n) : A = B := by
  induction A generalizing B with
  | nil =>
    cases B with
    | nil => rfl
    | cons b r => have := e b.n; rw [vat_cons, if_pos rfl] at this; cases this
  | cons a ra ih =>
    cases B with
    | nil => have := e a.n; rw [vat_cons, if_pos rfl] at this; cases this
    | cons b rb =>
      obtain ⟨h1, h2⟩ := List.pairwise_cons.1 h
      obtain ⟨h3, h4⟩ := List.pairwise_cons.1 h'
      have ea := e a.n
      have eb := e b.n
      rw [vat_cons, if_pos rfl, vat_cons] at ea
      rw [vat_cons, vat_cons (n := b.n), if_pos rfl] at eb
      have hab : a = b := by
        by_cases q : b.n = a.n
        · rw [if_pos q] at ea; cases ea; rfl
        · rw [if_neg q] at ea
          rw [if_neg (fun k => q k.symm)] at eb
          have x1 := h3 _ (vat_mem ea.symm)
          have x2 := h1 _ (vat_mem eb)
          omega
      subst hab
      congr 1
      refine ih h2 h4 fun n => ?_
      have := e n
      rw [vat_cons, vat_cons] at this
      by_cases q : a.n = n
      · rw [vat_none (L := ra) (fun x hx => by have := h1 x hx; omega), vat_none (L := rb) (fun x hx => by have := h3 x hx; omega)]
      · rw [if_neg q, if_neg q] at this; exact this
theorem jo_comm {x y : Option Mb} {n : Int} (hx : ∀ m, x = some m → m.n = n) (hy : ∀ m, y = some m → m.n = n) : jo x y = jo y x := by
  cases x with
  | none => cases y <;> rfl
  | some a =>
    cases y with
    | none => rfl
    | some b =>
      have ea := hx a rfl
      have eb := hy b rfl
      unfold jo jn
      simp only [Option.some.injEq]
      by_cases q : key a < key b
      · rw [if_pos q, if_neg (by omega)]
      · rw [if_neg q]
        by_cases q2 : key b < key a
        · rw [if_pos q2]
        · rw [if_neg q2]; exact key_inj (by omega) (by omega)
theorem jo_assoc {x y z : Option Mb} : jo (jo x y) z = jo x (jo y z) := by
  cases x with
  | none => cases y <;> cases z <;> simp [jo, jn]
  | some a =>
    cases y with
    | none => cases z <;> simp [jo, jn]
    | some b =>
      cases z with
      | none => simp [jo, jn]
      | some c =>
        simp only [jo, jn, Option.some.injEq]
        by_cases q : key a < key b
        · rw [if_pos q]
          by_cases q2 : key b < key c
          · rw [if_pos q2, if_pos (by omega)]
          · rw [if_neg q2, if_pos q]
        · rw [if_neg q]
          by_cases q2 : key b < key c
          · rw [if_pos q2]
          · rw [if_neg q2, if_neg q, if_neg (by omega)]
theorem mergeV_comm {A B : List Mb} (h : GoodV A) (h' : GoodV B) : mergeV A B = mergeV B A := by
  refine vat_ext (mergeV_good h h'.ok).ris (mergeV_good h' h.ok).ris fun n => ?_
  rw [vat_merge h.ris h'.ris, vat_merge h'.ris h.ris]
  exact jo_comm (n := n) (fun m q => vat_n q) (fun m q => vat_n q)
theorem mergeV_assoc {A B C : List Mb} (h : GoodV A) (h' : GoodV B) (h2 : GoodV C) : mergeV (mergeV A B) C = mergeV A (mergeV B C) := by
  have g1 := mergeV_good h h'.ok
  have g2 := mergeV_good h' h2.ok
  refine vat_ext (mergeV_good g1 h2.ok).ris (mergeV_good h g2.ok).ris fun n => ?_
  rw [vat_merge g1.ris h2.ris, vat_merge h.ris h'.ris, vat_merge h.ris g2.ris, vat_merge h'.ris h2.ris]
  exact jo_assoc
theorem mergeV_again {A B : List Mb} (h : GoodV A) (h' : GoodV B) : mergeV (mergeV A B) A = mergeV A B := by
  have g1 := mergeV_good h h'.ok
  refine vat_ext (mergeV_good g1 h.ok).ris g1.ris fun n => ?_
  rw [vat_merge g1.ris h.ris, vat_merge h.ris h'.ris, jo_comm (x := vat A n) (n := n) (fun m q => vat_n q) (fun m q => vat_n q), jo_assoc]
  congr 1
  cases vat A n with
  | none => rfl
  | some a => simp [jo, jn]
/-- is it newer? -/
def isNew (A : List Mb) (m : Mb) : Bool := match vat A m.n with | none => true | some x => decide (key x < key m)
def newerV (A B : List Mb) : List Mb := B.filter (isNew A)
theorem newerV_good {A B : List Mb} (h : GoodV B) : GoodV (newerV A B) :=
  ⟨Nat.le_trans (List.length_filter_le _ _) h.len, fun x hx => h.ok x ((List.mem_filter.1 hx).1), h.ris.filter _⟩
theorem vat_filter {B : List Mb} (h : Ris B) (p : Mb → Bool) (n : Int) : vat (B.filter p) n = (vat B n).filter p := by
  induction B with
  | nil => rfl
  | cons m r ih =>
    obtain ⟨h1, h2⟩ := List.pairwise_cons.1 h
    rw [List.filter_cons, vat_cons]
    by_cases e : m.n = n
    · rw [if_pos e]
      split
      · rename_i q
        rw [vat_cons, if_pos e, Option.filter, if_pos q]
      · rename_i q
        rw [vat_none (fun x hx => by have := h1 x ((List.mem_filter.1 hx).1); omega), Option.filter, if_neg q]
    · rw [if_neg e]
      split
      · rw [vat_cons, if_neg e, ih h2]
      · exact ih h2
theorem mergeV_newer {A B : List Mb} (h : GoodV A) (h' : GoodV B) : mergeV A (newerV A B) = mergeV A B := by
  have g := newerV_good (A := A) h'
  refine vat_ext (mergeV_good h g.ok).ris (mergeV_good h h'.ok).ris fun n => ?_
  rw [vat_merge h.ris g.ris, vat_merge h.ris h'.ris]
  unfold newerV
  rw [vat_filter h'.ris]
  cases e : vat B n with
  | none => rfl
  | some b =>
    have hn := vat_n e
    have q : isNew A b = match vat A n with | none => true | some x => decide (key x < key b) := by unfold isNew; rw [hn]
    cases ea : vat A n with
    | none => rw [ea] at q; simp [Option.filter, q]
    | some a =>
      rw [ea] at q
      by_cases k : key a < key b
      · simp [Option.filter, q, k]
      · simp [Option.filter, q, k, jo, jn]
/-- the place of a node -/
structure Place (L : List Mb) (n : Int) (i : Nat) : Prop where
  le : i ≤ L.length
  lo : ∀ j (h : j < L.length), j < i → L[j].n < n
  hi : ∀ j (h : j < L.length), i ≤ j → n ≤ L[j].n
def has (L : List Mb) (n : Int) (i : Nat) : Bool := match L[i]? with | some x => decide (x.n = n) | none => false
theorem Place.vat {L : List Mb} {n : Int} {i : Nat} (h : Place L n i) (hr : Ris L) : Pl.vat L n = if has L n i = true then L[i]? else none := by
  unfold has
  by_cases hi : i < L.length
  · rw [List.getElem?_eq_getElem hi]
    by_cases e : L[i].n = n
    · simp only [e, decide_true, if_true]
      have := vat_of hr (List.getElem_mem hi)
      rw [e] at this; exact this
    · simp only [e, decide_false]
      rw [if_neg (by decide)]
      refine vat_none fun x hx => ?_
      obtain ⟨j, hj, rfl⟩ := List.getElem_of_mem hx
      rcases Nat.lt_trichotomy j i with q | q | q
      · have := h.lo j hj q; omega
      · subst q; exact e
      · have a := h.hi i hi (by omega)
        have := (List.pairwise_iff_getElem.1 hr) i j hi hj q
        omega
  · rw [List.getElem?_eq_none (by omega)]
    simp only
    rw [if_neg (by decide)]
    refine vat_none fun x hx => ?_
    obtain ⟨j, hj, rfl⟩ := List.getElem_of_mem hx
    have := h.lo j hj (by omega); omega
theorem put_no {L : List Mb} {m : Mb} {i : Nat} (h : Place L m.n i) (hn : has L m.n i = false) : putV L m = L.take i ++ m :: L.drop i := by
  induction L generalizing i with
  | nil => simp [putV]
  | cons x r ih =>
    unfold putV
    cases i with
    | zero =>
      have a := h.hi 0 (by simp) (by omega)
      simp [has] at hn
      simp at a
      rw [if_neg (by omega), if_neg hn]
      simp
    | succ i =>
      have a := h.lo 0 (by simp) (by omega)
      simp at a
      rw [if_pos a, ih ⟨by have := h.le; simpa using this, fun j hj k => by have := h.lo (j + 1) (by simpa using hj) (by omega); simpa using this, fun j hj k => by have := h.hi (j + 1) (by simpa using hj) (by omega); simpa using this⟩ (by simpa [has] using hn)]
      simp
theorem put_has {L : List Mb} {m x : Mb} {i : Nat} (h : Place L m.n i) (hx : L[i]? = some x) (hn : x.n = m.n) : putV L m = if key x < key m then L.set i m else L := by
  induction L generalizing i with
  | nil => simp at hx
  | cons y r ih =>
    unfold putV
    cases i with
    | zero =>
      simp at hx; subst hx
      rw [if_neg (by omega), if_pos hn]
      by_cases k : key y < key m
      · rw [if_pos k, if_pos k]; rfl
      · rw [if_neg k, if_neg k]
    | succ i =>
      have a := h.lo 0 (by simp) (by omega)
      simp at a
      rw [if_pos a, ih ⟨by have := h.le; simpa using this, fun j hj k => by have := h.lo (j + 1) (by simpa using hj) (by omega); simpa using this, fun j hj k => by have := h.hi (j + 1) (by simpa using hj) (by omega); simpa using this⟩ (by simpa using hx)]
      by_cases k : key x < key m
      · rw [if_pos k, if_pos k]; rfl
      · rw [if_neg k, if_neg k]
/-- who is there -/
def aliveV (L : List Mb) : List Int := (L.filter (·.up)).map (·.n)
/-- the member that is told anew -/
def bumpM (L : List Mb) (n : Int) (up : Bool) : Mb := ⟨n, match vat L n with | some x => x.v + 1 | none => 1, up⟩
theorem key_bump {L : List Mb} {n : Int} {up : Bool} {x : Mb} (h : vat L n = some x) : key x < key (bumpM L n up) := by
  unfold key bumpM
  rw [h]
  simp only
  split <;> split <;> omega
end Pl
end Go.Proofs.YtnbcajciobfljaaDoor
