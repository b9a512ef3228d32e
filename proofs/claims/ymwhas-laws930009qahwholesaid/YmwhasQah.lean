/-
  QAH: what the walks of LawS930009QAHWhole share.
-/
import Derived.Test.YmwhasQahAux2
namespace Go.Proofs.Ymwhas.Qah
open Go.RowKit
set_option linter.unusedVariables false

theorem row_below {B : Nat} {W W' : World} (k : Below B W W') {b : Nat} {t : TypeId} {n : Nat} {f : Nat → Value} (h : W.rowIs b t n f) (hb : b < B) : W'.rowIs b t n f := h.of_block (k.block b hb)

theorem sets_below {B : Nat} {W W' : World} (k : Below B W W') {ps pb zb n : Nat} {s : St} (h : SetsAt W ps pb zb n s) (h1 : ps < B) (h2 : pb < B) (h3 : zb < B) : SetsAt W' ps pb zb n s :=
  ⟨row_below k h.st h1, row_below k h.pr h2, row_below k h.zr h3, h.n1, h.n2, h.n3⟩

theorem cells_below {B : Nat} {W W' : World} (k : Below B W W') {b n : Nat} {f : Nat → Int} (h : Cells W b n f) (hb : b < B) : Cells W' b n f :=
  ⟨Nat.lt_of_lt_of_le h.1 k.size, fun i hi => (k.cell (p := ⟨b, i, none⟩) hb).trans (h.2 i hi)⟩

/-- The two partitions and the copies of their parents and sizes, all below block B. -/
structure All (w W : World) (B n n2 ps pb zb qs qb yb g1 g2 g3 g4 : Nat) (s t : St) : Prop where
  hs : SetsAt W ps pb zb n s
  ht : SetsAt W qs qb yb n2 t
  c1 : Cells W g1 n (fun i => (s.P i : Int))
  c2 : Cells W g2 n (fun i => (s.Z i : Int))
  c3 : Cells W g3 n2 (fun i => (t.P i : Int))
  c4 : Cells W g4 n2 (fun i => (t.Z i : Int))
  bl : Below w.heap.size w W
  l1 : ps < B ∧ pb < B ∧ zb < B
  l2 : qs < B ∧ qb < B ∧ yb < B
  l3 : g1 < B ∧ g2 < B ∧ g3 < B ∧ g4 < B
  l4 : w.heap.size ≤ B

theorem All.next {w W W' : World} {B n n2 ps pb zb qs qb yb g1 g2 g3 g4 : Nat} {s t : St} (h : All w W B n n2 ps pb zb qs qb yb g1 g2 g3 g4 s t) (k : Below B W W') : All w W' B n n2 ps pb zb qs qb yb g1 g2 g3 g4 s t :=
  ⟨sets_below k h.hs h.l1.1 h.l1.2.1 h.l1.2.2, sets_below k h.ht h.l2.1 h.l2.2.1 h.l2.2.2, cells_below k h.c1 h.l3.1, cells_below k h.c2 h.l3.2.1, cells_below k h.c3 h.l3.2.2.1, cells_below k h.c4 h.l3.2.2.2, h.bl.trans (k.mono h.l4), h.l1, h.l2, h.l3, h.l4⟩

theorem takes_lt (n len : Nat) (A : Nat → Nat) : ∀ a b, Plus NoPair n A (takes n len) a b → a < n ∧ b < n := by
  rcases Nat.lt_or_ge 0 n with h | h
  · exact plus_lt h (noPair_lt n)
  · intro a b hab
    rcases hab with hab | ⟨j, hj, _⟩
    · exact hab.elim
    · unfold takes at hj
      rw [if_neg (by omega)] at hj
      omega

/-- How often the root r has been met among the first k. -/
def tallyTo (R : Nat → Nat) (k r : Nat) : Nat := cnt k (fun j => R j == r)

theorem tally_le (R : Nat → Nat) (k r : Nat) : tallyTo R k r ≤ k := cnt_le _ _

theorem tally_hit (R : Nat → Nat) (k : Nat) : tallyTo R (k + 1) (R k) = tallyTo R k (R k) + 1 := by
  show cnt k _ + (if (R k == R k) = true then 1 else 0) = _
  simp [tallyTo]

theorem tally_miss {R : Nat → Nat} {k r : Nat} (h : r ≠ R k) : tallyTo R (k + 1) r = tallyTo R k r := by
  show cnt k _ + (if (R k == r) = true then 1 else 0) = _
  have : (R k == r) = false := by simp; exact fun e => h e.symm
  rw [this]
  rfl

/-- Roots, classes among the first k. -/
def rootsTo (P : Nat → Nat) (k : Nat) : Nat := cnt k (fun j => P j == j)

theorem roots_le (P : Nat → Nat) (k : Nat) : rootsTo P k ≤ k := cnt_le _ _

theorem roots_yes {P : Nat → Nat} {k : Nat} (h : P k = k) : rootsTo P (k + 1) = rootsTo P k + 1 := by
  show cnt k _ + (if (P k == k) = true then 1 else 0) = _
  rw [if_pos (by simp [h])]
  rfl

theorem roots_no {P : Nat → Nat} {k : Nat} (h : P k ≠ k) : rootsTo P (k + 1) = rootsTo P k := by
  show cnt k _ + (if (P k == k) = true then 1 else 0) = _
  rw [if_neg (by simp [h])]
  rfl

/-- As many roots as classes. -/
theorem roots_classes {n : Nat} {o : St} {f : Nat → Nat} (hI : Inv n o) (hLab : LabOk n f o.R) (hC : Canon n f) : rootsTo o.P n = rootsTo f n := by
  refine Nat.le_antisymm ?_ ?_
  · refine cnt_inj f n _ _ (fun i hi hp => ?_) (fun i j hi hj hp hq e => ?_)
    · exact ⟨by have := (hC i hi).1; omega, by simp [(hC i hi).2]⟩
    · simp at hp hq
      have h1 := (hLab i j hi hj).1 e
      rw [hI.forest.self i hi hp, hI.forest.self j hj hq] at h1
      exact h1
  · refine cnt_inj o.R n _ _ (fun i hi hp => ?_) (fun i j hi hj hp hq e => ?_)
    · exact ⟨hI.forest.rlt i hi, by simp [hI.forest.fixd i hi]⟩
    · simp at hp hq
      have h1 := (hLab i j hi hj).2 e
      rw [hp, hq] at h1
      exact h1

set_option maxRecDepth 100000 in
set_option maxHeartbeats 1000000 in
theorem walk_long (N1 N2 : Nat) (b : Bool) (ao1 ao2 : Option Addr) (len1 cap1 len2 cap2 : Nat) (w : World) (hl : 1024 < len1 ∨ 1024 < len2) (hm1 : len1 ≤ 9223372036854775807) (hm2 : len2 ≤ 9223372036854775807) :
    Calls Yasv.prog 10 #[.int .u8 (N1 : Nat), .int .u8 (N2 : Nat), .bool b, .slice ao1 len1 cap1, .slice ao2 len2 cap2] w fun e w' => e = .returned (.bool true) ∧ Below w.heap.size w w' := by
  by_cases h1 : 1024 < len1
  · go_enter Yasv.func10, Yasv.ntmps10
    go_wp2
    go_ret
    exact ⟨rfl, Below.refl _ _⟩
  · have h2 : 1024 < len2 := by omega
    go_enter Yasv.func10, Yasv.ntmps10
    go_wp2
    go_ret
    exact ⟨rfl, Below.refl _ _⟩

end Go.Proofs.Ymwhas.Qah
