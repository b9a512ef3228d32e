/-
  THE PLAIN LAWS of a labelling beside the forest: no Go in sight.
-/
import Derived.Test.YmwhasPlain
namespace Go.Proofs.Ymwhas

/-- f' is f with the classes of x and y made one. -/
def Joined (m : Nat) (f f' : Nat → Nat) (x y : Nat) : Prop :=
  ∀ i j, i < m → j < m → (f' i = f' j ↔ (f i = f j ∨ (f i = f x ∧ f j = f y) ∨ (f i = f y ∧ f j = f x)))

/-- Two labellings part the elements alike. -/
def LabOk (m : Nat) (f R : Nat → Nat) : Prop := ∀ i j, i < m → j < m → (f i = f j ↔ R i = R j)

theorem LabOk.joined {m : Nat} {f f' R R' : Nat → Nat} {x y : Nat} (h : LabOk m f R) (hx : x < m) (hy : y < m) (hf : Joined m f f' x y) (hR : Joined m R R' x y) : LabOk m f' R' := by
  intro i j hi hj
  rw [hf i j hi hj, hR i j hi hj, h i j hi hj, h i x hi hx, h j y hj hy, h i y hi hy, h j x hj hx]

theorem labOk_fresh (m : Nat) : LabOk m (fun i => i) (fresh m).R := fun _ _ _ _ => Iff.rfl

/-- Every label 'hi' is turned to 'lo'. -/
def relab (f : Nat → Nat) (lo hi : Nat) : Nat → Nat := fun i => if f i = hi then lo else f i

theorem joined_relab (m : Nat) (f : Nat → Nat) (x y : Nat) : Joined m f (relab f (f x) (f y)) x y := by
  intro i j _ _
  unfold relab
  by_cases h1 : f i = f y
  · by_cases h2 : f j = f y
    · simp [h1, h2]
    · simp only [h1, if_true, h2, if_false]
      constructor
      · intro e; exact .inr (.inr ⟨trivial, e.symm⟩)
      · rintro (e | ⟨e, h⟩ | ⟨_, e⟩)
        · exact absurd e.symm h2
        · exact h.elim
        · exact e.symm
  · by_cases h2 : f j = f y
    · simp only [h1, if_false, h2, if_true]
      constructor
      · intro e; exact .inr (.inl ⟨e, trivial⟩)
      · rintro (e | ⟨e, _⟩ | ⟨h, _⟩)
        · exact e.elim
        · exact e
        · exact h.elim
    · simp [h1, h2]

theorem Joined.symm {m : Nat} {f f' : Nat → Nat} {x y : Nat} (h : Joined m f f' x y) : Joined m f f' y x := by
  intro i j hi hj
  rw [h i j hi hj]
  constructor
  · rintro (e | e | e)
    · exact .inl e
    · exact .inr (.inr e)
    · exact .inr (.inl e)
  · rintro (e | e | e)
    · exact .inl e
    · exact .inr (.inr e)
    · exact .inr (.inl e)

/-- One label already: nothing to do. -/
theorem joined_same {m : Nat} {f : Nat → Nat} {x y : Nat} (e : f x = f y) : Joined m f f x y := by
  intro i j _ _
  rw [e]
  constructor
  · exact .inl
  · rintro (h | ⟨h1, h2⟩ | ⟨h1, h2⟩)
    · exact h
    · rw [h1, h2]
    · rw [h1, h2]

theorem joined_link {m : Nat} {s : St} (x y : Nat) : Joined m s.R (s.link (s.R x) (s.R y)).R x y := joined_relab m s.R x y

theorem joined_merge {m : Nat} {s : St} (x y : Nat) : Joined m s.R (s.merge (s.R x) (s.R y)).R x y := by
  unfold St.merge
  split
  · exact (joined_link y x).symm
  · exact joined_link x y

theorem union_in {m : Nat} {s : St} {x y : Nat} (hx : x < m) (hy : y < m) : s.union m (x : Int) (y : Int) = if s.R x = s.R y then s else s.merge (s.R x) (s.R y) := by
  unfold St.union
  rw [if_pos ⟨by omega, by omega, by omega, by omega⟩, Int.toNat_natCast, Int.toNat_natCast]

theorem union_outr {m : Nat} {s : St} {a b : Int} (h : ¬ (0 ≤ a ∧ a < m ∧ 0 ≤ b ∧ b < m)) : s.union m a b = s := by
  unfold St.union
  rw [if_neg h]

theorem joined_union {m : Nat} {s : St} {x y : Nat} (hx : x < m) (hy : y < m) : Joined m s.R (s.union m (x : Int) (y : Int)).R x y := by
  rw [union_in hx hy]
  by_cases e : s.R x = s.R y
  · rw [if_pos e]; exact joined_same e
  · rw [if_neg e]; exact joined_merge x y

theorem union_c {m : Nat} {s : St} {x y : Nat} (hx : x < m) (hy : y < m) : (s.union m (x : Int) (y : Int)).c = if s.R x = s.R y then s.c else s.c - 1 := by
  rw [union_in hx hy]
  by_cases e : s.R x = s.R y
  · rw [if_pos e, if_pos e]
  · rw [if_neg e, if_neg e]
    unfold St.merge
    split <;> rfl

/-- The count is nought where there is no element, and only there. -/
theorem c_zero {m : Nat} {s : St} (h : Inv m s) : s.c = 0 ↔ m = 0 := by
  constructor
  · intro e
    by_cases hm : m = 0
    · exact hm
    · have := h.c_pos (i := 0) (by omega)
      omega
  · intro e
    have := h.c_le
    omega

end Go.Proofs.Ymwhas
