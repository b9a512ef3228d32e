/-
  THE PLAIN LAWS of a union-find forest: no Go in sight.
-/
namespace Go.Proofs.Ymwhas

/-- A forest over 0 .. n-1: P the parents, Z the sizes, R the root of each element. -/
structure Forest (n : Nat) (P Z R : Nat → Nat) : Prop where
  plt : ∀ i, i < n → P i < n
  rlt : ∀ i, i < n → R i < n
  step : ∀ i, i < n → R (P i) = R i
  fixd : ∀ i, i < n → P (R i) = R i
  self : ∀ i, i < n → P i = i → R i = i
  up : ∀ i, i < n → P i ≠ i → Z i < Z (P i)
  zle : ∀ i, i < n → Z i ≤ n

theorem Forest.ne {n : Nat} {P Z R : Nat → Nat} (h : Forest n P Z R) {i : Nat} (hi : i < n) (hp : P i ≠ R i) : P i ≠ i := by
  intro e
  exact hp (by rw [e, h.self i hi e])

theorem Forest.rr {n : Nat} {P Z R : Nat → Nat} (h : Forest n P Z R) {i : Nat} (hi : i < n) : R (R i) = R i := h.self _ (h.rlt i hi) (h.fixd i hi)

/-- The size grows from an element to its root, strictly where it is none. -/
theorem Forest.zroot {n : Nat} {P Z R : Nat → Nat} (h : Forest n P Z R) : ∀ (g i : Nat), n - Z i ≤ g → i < n → R i ≠ i → Z i < Z (R i) := by
  intro g
  induction g with
  | zero =>
    intro i hg hi hr
    have hp : P i ≠ i := fun e => hr (h.self i hi e)
    have := h.up i hi hp
    have := h.zle _ (h.plt i hi)
    omega
  | succ g ih =>
    intro i hg hi hr
    have hp : P i ≠ i := fun e => hr (h.self i hi e)
    have hu := h.up i hi hp
    have hz := h.zle _ (h.plt i hi)
    by_cases e : R (P i) = P i
    · rw [← h.step i hi, e]; exact hu
    · have := ih (P i) (by omega) (h.plt i hi) e
      rw [h.step i hi] at this
      omega

/-! ### Counting -/

/-- How many i below n answer yes. -/
def cnt : Nat → (Nat → Bool) → Nat
  | 0, _ => 0
  | n + 1, p => cnt n p + (if p n then 1 else 0)

theorem cnt_le (p : Nat → Bool) : ∀ n, cnt n p ≤ n
  | 0 => Nat.le_refl _
  | n + 1 => by
    have := cnt_le p n
    unfold cnt
    split <;> omega

theorem cnt_congr {p q : Nat → Bool} : ∀ n, (∀ i, i < n → p i = q i) → cnt n p = cnt n q
  | 0, _ => rfl
  | n + 1, h => by
    unfold cnt
    rw [cnt_congr n (fun i hi => h i (by omega)), h n (by omega)]

theorem cnt_all {p : Nat → Bool} : ∀ n, (∀ i, i < n → p i = true) → cnt n p = n
  | 0, _ => rfl
  | n + 1, h => by
    unfold cnt
    rw [cnt_all n (fun i hi => h i (by omega)), h n (by omega)]
    rfl

theorem cnt_pos {p : Nat → Bool} : ∀ n i, i < n → p i = true → 1 ≤ cnt n p
  | 0, _, h, _ => absurd h (Nat.not_lt_zero _)
  | n + 1, i, h, hp => by
    unfold cnt
    by_cases e : i = n
    · subst e; rw [hp]; simp
    · have := cnt_pos n i (by omega) hp
      omega

/-- Two that exclude one another. -/
theorem cnt_add {p q r : Nat → Bool} : ∀ n, (∀ i, i < n → (p i = true → q i = false) ∧ r i = (p i || q i)) → cnt n r = cnt n p + cnt n q
  | 0, _ => rfl
  | n + 1, h => by
    have ih := cnt_add n (fun i hi => h i (by omega))
    have hn := h n (by omega)
    unfold cnt
    rw [ih, hn.2]
    cases hp : p n <;> cases hq : q n
    · simp
    · simp; omega
    · simp; omega
    · have := hn.1 hp; rw [hq] at this; exact absurd this (by simp)

/-- One alone has turned from yes to no. -/
theorem cnt_drop {p q : Nat → Bool} : ∀ n j, j < n → p j = true → q j = false → (∀ i, i < n → i ≠ j → p i = q i) → cnt n p = cnt n q + 1
  | 0, _, h, _, _, _ => absurd h (Nat.not_lt_zero _)
  | n + 1, j, h, hp, hq, he => by
    unfold cnt
    by_cases e : j = n
    · subst e
      rw [hp, hq, cnt_congr j (fun i hi => he i (by omega) (by omega))]
      simp
    · have := cnt_drop n j (by omega) hp hq (fun i hi hne => he i (by omega) hne)
      rw [this, he n (by omega) (fun x => e x.symm)]
      omega

/-! ### The state of a partition and what the operations make of it -/

structure St where
  P : Nat → Nat
  Z : Nat → Nat
  R : Nat → Nat
  c : Nat

structure Inv (n : Nat) (s : St) : Prop where
  forest : Forest n s.P s.Z s.R
  zpos : ∀ i, i < n → 1 ≤ s.Z i
  zcount : ∀ r, r < n → s.P r = r → s.Z r = cnt n (fun i => s.R i == r)
  ccount : s.c = cnt n (fun i => s.P i == i)

/-- n singletons. -/
def fresh (n : Nat) : St := { P := fun i => i, Z := fun _ => 1, R := fun i => i, c := n }

theorem cnt_one : ∀ n r, r < n → cnt n (fun i => i == r) = 1
  | 0, _, h => absurd h (Nat.not_lt_zero _)
  | n + 1, r, h => by
    unfold cnt
    by_cases e : r = n
    · subst e
      have : cnt r (fun i => i == r) = 0 := by
        rw [cnt_congr (q := fun _ => false) r (fun i hi => by simp; omega)]
        clear h
        induction r with
        | zero => rfl
        | succ k ih => unfold cnt; rw [ih]; rfl
      rw [this]; simp
    · rw [cnt_one n r (by omega)]
      have : (n == r) = false := by simp; omega
      simp only [this]; rfl

theorem inv_fresh (n : Nat) : Inv n (fresh n) := by
  refine ⟨⟨fun i h => h, fun i h => h, fun _ _ => rfl, fun _ _ => rfl, fun _ _ _ => rfl, fun i _ h => absurd rfl h, fun i hi => ?_⟩, fun _ _ => Nat.le_refl _, fun r hr _ => ?_, ?_⟩
  · show 1 ≤ n; omega
  · exact (cnt_one n r hr).symm
  · exact (cnt_all n (fun i _ => by simp [fresh])).symm

/-- The root ra takes the root rb for a child. -/
def St.link (s : St) (ra rb : Nat) : St :=
  { P := fun i => if i = rb then ra else s.P i, Z := fun i => if i = ra then s.Z ra + s.Z rb else s.Z i, R := fun i => if s.R i = rb then ra else s.R i, c := s.c - 1 }

/-- By size. -/
def St.merge (s : St) (ra rb : Nat) : St := if s.Z ra < s.Z rb then s.link rb ra else s.link ra rb

def St.union (s : St) (n : Nat) (a b : Int) : St :=
  if 0 ≤ a ∧ a < n ∧ 0 ≤ b ∧ b < n then (if s.R a.toNat = s.R b.toNat then s else s.merge (s.R a.toNat) (s.R b.toNat)) else s

def St.code (s : St) (n : Nat) (a b : Int) : Int :=
  if 0 ≤ a ∧ a < n ∧ 0 ≤ b ∧ b < n then (if s.R a.toNat = s.R b.toNat then 1 else 0) else 2

theorem Inv.sum_le {n : Nat} {s : St} (h : Inv n s) {ra rb : Nat} (ha : ra < n) (hb : rb < n) (pa : s.P ra = ra) (pb : s.P rb = rb) (hne : ra ≠ rb) : s.Z ra + s.Z rb ≤ n := by
  rw [h.zcount ra ha pa, h.zcount rb hb pb, ← cnt_add (r := fun i => s.R i == ra || s.R i == rb) n (fun i _ => ⟨?_, rfl⟩)]
  · exact cnt_le _ _
  · intro e
    simp at e ⊢
    omega

theorem Inv.c_pos {n : Nat} {s : St} (h : Inv n s) {i : Nat} (hi : i < n) : 1 ≤ s.c := by
  rw [h.ccount]
  exact cnt_pos n (s.R i) (h.forest.rlt i hi) (by simp [h.forest.fixd i hi])

theorem Inv.c_le {n : Nat} {s : St} (h : Inv n s) : s.c ≤ n := by
  rw [h.ccount]; exact cnt_le _ _

theorem inv_link {n : Nat} {s : St} (h : Inv n s) {ra rb : Nat} (ha : ra < n) (hb : rb < n) (pa : s.P ra = ra) (pb : s.P rb = rb) (hne : ra ≠ rb) (hz : s.Z rb ≤ s.Z ra) : Inv n (s.link ra rb) := by
  have hF := h.forest
  have qa : s.R ra = ra := hF.self ra ha pa
  have qb : s.R rb = rb := hF.self rb hb pb
  have hsum := h.sum_le ha hb pa pb hne
  have hza := h.zpos ra ha
  have hzb := h.zpos rb hb
  refine ⟨⟨fun i hi => ?_, fun i hi => ?_, fun i hi => ?_, fun i hi => ?_, fun i hi e => ?_, fun i hi e => ?_, fun i hi => ?_⟩, fun i hi => ?_, fun r hr e => ?_, ?_⟩
  · show (if i = rb then ra else s.P i) < n
    split
    · exact ha
    · exact hF.plt i hi
  · show (if s.R i = rb then ra else s.R i) < n
    split
    · exact ha
    · exact hF.rlt i hi
  · show (if s.R (if i = rb then ra else s.P i) = rb then ra else s.R (if i = rb then ra else s.P i)) = (if s.R i = rb then ra else s.R i)
    by_cases e : i = rb
    · rw [if_pos e, qa, if_neg hne, e, qb, if_pos rfl]
    · rw [if_neg e, hF.step i hi]
  · show (if (if s.R i = rb then ra else s.R i) = rb then ra else s.P (if s.R i = rb then ra else s.R i)) = (if s.R i = rb then ra else s.R i)
    by_cases e : s.R i = rb
    · rw [if_pos e, if_neg hne, pa]
    · rw [if_neg e, if_neg e, hF.fixd i hi]
  · have e' : (if i = rb then ra else s.P i) = i := e
    show (if s.R i = rb then ra else s.R i) = i
    by_cases e1 : i = rb
    · rw [if_pos e1] at e'; omega
    · rw [if_neg e1] at e'
      rw [hF.self i hi e', if_neg e1]
  · have e' : (if i = rb then ra else s.P i) ≠ i := e
    show (if i = ra then s.Z ra + s.Z rb else s.Z i) < (if (if i = rb then ra else s.P i) = ra then s.Z ra + s.Z rb else s.Z (if i = rb then ra else s.P i))
    by_cases e1 : i = rb
    · subst e1
      rw [if_neg (fun x => hne x.symm), if_pos rfl, if_pos rfl]; omega
    · rw [if_neg e1] at e' ⊢
      have hu := hF.up i hi e'
      by_cases e2 : i = ra
      · subst e2; exact absurd pa e'
      · rw [if_neg e2]
        by_cases e3 : s.P i = ra
        · rw [if_pos e3]; rw [e3] at hu; omega
        · rw [if_neg e3]; exact hu
  · show (if i = ra then s.Z ra + s.Z rb else s.Z i) ≤ n
    split
    · exact hsum
    · exact hF.zle i hi
  · show 1 ≤ (if i = ra then s.Z ra + s.Z rb else s.Z i)
    split
    · omega
    · exact h.zpos i hi
  · have e' : (if r = rb then ra else s.P r) = r := e
    show (if r = ra then s.Z ra + s.Z rb else s.Z r) = cnt n (fun i => (if s.R i = rb then ra else s.R i) == r)
    by_cases e1 : r = rb
    · rw [if_pos e1] at e'; omega
    · rw [if_neg e1] at e'
      by_cases e2 : r = ra
      · subst e2
        rw [if_pos rfl, h.zcount r ha pa, h.zcount rb hb pb]
        refine (cnt_add n (fun i _ => ⟨fun x => ?_, ?_⟩)).symm
        · simp at x ⊢; omega
        · by_cases e3 : s.R i = rb
          · simp [e3]
          · simp [e3]
      · rw [if_neg e2, h.zcount r hr e']
        refine cnt_congr n (fun i _ => ?_)
        by_cases e3 : s.R i = rb
        · rw [e3, if_pos rfl]
          have x1 : (rb == r) = false := by simp; omega
          have x2 : (ra == r) = false := by simp; omega
          rw [x1, x2]
        · rw [if_neg e3]
  · show s.c - 1 = cnt n (fun i => (if i = rb then ra else s.P i) == i)
    rw [h.ccount, cnt_drop (p := fun i => s.P i == i) (q := fun i => (if i = rb then ra else s.P i) == i) n rb hb (by simp [pb]) (by simp [hne]) (fun i _ hi => by simp [hi])]
    rfl

theorem inv_merge {n : Nat} {s : St} (h : Inv n s) {ra rb : Nat} (ha : ra < n) (hb : rb < n) (pa : s.P ra = ra) (pb : s.P rb = rb) (hne : ra ≠ rb) : Inv n (s.merge ra rb) := by
  unfold St.merge
  split
  · exact inv_link h hb ha pb pa (fun e => hne e.symm) (by omega)
  · exact inv_link h ha hb pa pb hne (by omega)

theorem inv_union {n : Nat} {s : St} (h : Inv n s) (a b : Int) : Inv n (s.union n a b) := by
  unfold St.union
  split
  · rename_i hr
    split
    · exact h
    · rename_i hne
      have h1 : a.toNat < n := by omega
      have h2 : b.toNat < n := by omega
      exact inv_merge h (h.forest.rlt _ h1) (h.forest.rlt _ h2) (h.forest.fixd _ h1) (h.forest.fixd _ h2) hne
  · exact h

/-- The parent of an element that lies below the root is made the root. -/
def St.lift (s : St) (x : Nat) : St := { s with P := fun i => if i = x then s.R x else s.P i }

theorem inv_lift {n : Nat} {s : St} (h : Inv n s) {x : Nat} (hx : x < n) (hp : s.P x ≠ s.R x) : Inv n (s.lift x) := by
  have hF := h.forest
  have hpx := hF.ne hx hp
  have hrx : s.R x ≠ x := fun e => hpx (by have := hF.fixd x hx; rw [e] at this; exact this)
  refine ⟨⟨fun i hi => ?_, hF.rlt, fun i hi => ?_, fun i hi => ?_, fun i hi e => ?_, fun i hi e => ?_, hF.zle⟩, h.zpos, fun r hr e => ?_, ?_⟩
  · show (if i = x then s.R x else s.P i) < n
    split
    · exact hF.rlt x hx
    · exact hF.plt i hi
  · show s.R (if i = x then s.R x else s.P i) = s.R i
    split
    · rename_i e; rw [e, hF.rr hx]
    · exact hF.step i hi
  · show (if s.R i = x then s.R x else s.P (s.R i)) = s.R i
    split
    · rename_i e; rw [← e, hF.rr hi]
    · exact hF.fixd i hi
  · have e' : (if i = x then s.R x else s.P i) = i := e
    show s.R i = i
    split at e'
    · rename_i e1; rw [e1] at e' ⊢; exact e'
    · exact hF.self i hi e'
  · have e' : (if i = x then s.R x else s.P i) ≠ i := e
    show s.Z i < s.Z (if i = x then s.R x else s.P i)
    by_cases e1 : i = x
    · subst e1; rw [if_pos rfl]; exact hF.zroot _ i (Nat.le_refl _) hx hrx
    · rw [if_neg e1] at e' ⊢; exact hF.up i hi e'
  · have e' : (if r = x then s.R x else s.P r) = r := e
    refine h.zcount r hr ?_
    split at e'
    · rename_i e1; rw [e1] at e'; exact absurd e' hrx
    · exact e'
  · show s.c = cnt n (fun i => (if i = x then s.R x else s.P i) == i)
    rw [h.ccount]
    refine cnt_congr n (fun i hi => ?_)
    by_cases e : i = x
    · subst e
      have x1 : (s.P i == i) = false := by simp [hpx]
      have x2 : (s.R i == i) = false := by simp [hrx]
      rw [if_pos rfl, x1, x2]
    · rw [if_neg e]

end Go.Proofs.Ymwhas
