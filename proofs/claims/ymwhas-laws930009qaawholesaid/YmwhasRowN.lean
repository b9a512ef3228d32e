/-
  A ROW of natural numbers: the labels beside a Sets; how it is filled and turned.
-/
import Derived.Test.YmwhasSlices
import Derived.Test.YmwhasLab
namespace Go.Proofs.Ymwhas
open Go.RowKit
set_option linter.unusedVariables false

/-- Block b is a row of m ints, the numbers f. -/
def RowN (w : World) (b m : Nat) (f : Nat → Nat) : Prop := w.rowIs b 3 m (fun i => .int .i64 (f i : Nat))

namespace RowN
variable {w w' : World} {b m : Nat} {f g : Nat → Nat}

theorem cell (h : RowN w b m f) {i : Nat} (hi : i < m) : w.cell? ⟨b, i, none⟩ = some (.int .i64 (f i : Nat)) := World.rowIs.cell h hi
theorem frozen (h : RowN w b m f) (i : Nat) : w.frozen? ⟨b, i, none⟩ = false := World.rowIs.frozen h i
theorem lt (h : RowN w b m f) : b < w.heap.size := World.rowIs.lt h
theorem congr (h : RowN w b m f) (e : ∀ i, i < m → f i = g i) : RowN w b m g := World.rowIs.congr h (fun i hi => by rw [e i hi])
theorem within {S : Nat → Prop} (h : RowN w b m f) (k : Within S w w') (hS : ¬ S b) : RowN w' b m f := k.row h hS
theorem drewN (h : RowN w b m f) (q : Nat) : RowN (w.drewN q) b m f := h
theorem alloc (h : RowN w b m f) (o : Obj) : RowN (w.alloc o) b m f := World.rowIs.alloc h o
theorem set (h : RowN w b m f) (i v : Nat) : RowN (w.setCell ⟨b, i, none⟩ (.int .i64 (v : Nat))) b m (fun j => if j = i then v else f j) :=
  World.rowIs.congr (World.rowIs.set h i (.int .i64 (v : Nat))) (fun j hj => by
    show (if j = i then _ else _) = Value.int .i64 (((if j = i then v else f j : Nat)) : Int)
    split <;> rfl)
theorem cells (h : RowN w b m f) : Cells w b m (fun i => (f i : Int)) := Cells.of_row h

end RowN

theorem rowN_made (w : World) (m : Nat) : RowN (w.alloc (.cells (madeCells #[.int .i64 0] m) 3)) w.heap.size m (fun _ => 0) := World.rowIs_made w (.int .i64 0) m 3

/-- Another block of the heap is written: a Sets stays. -/
theorem SetsAt.setOther {w : World} {ps pb zb n : Nat} {s : St} (h : SetsAt w ps pb zb n s) {a : Addr} (ha : ¬ three ps pb zb a.block) (v : Value) : SetsAt (w.setCell a v) ps pb zb n s :=
  h.within (S := fun b => b = a.block) (Within.setCell (Within.refl (fun b => b = a.block) w) (p := a) rfl v) (fun b hb e => ha (by rw [← e]; exact hb))

theorem SetsAt.alloc {w : World} {ps pb zb n : Nat} {s : St} (h : SetsAt w ps pb zb n s) (o : Obj) : SetsAt (w.alloc o) ps pb zb n s :=
  h.within (S := fun _ => False) ((Within.refl _ w).alloc o) (fun _ _ e => e)

/-- Filled as far as k. -/
def fillTo (k : Nat) : Nat → Nat := fun i => if i < k then i else 0

theorem fill_start {w : World} {b m : Nat} (h : RowN w b m (fun _ => 0)) : RowN w b m (fillTo 0) := h.congr (fun i _ => by simp [fillTo])

theorem fill_step {w : World} {b m k : Nat} (h : RowN w b m (fillTo k)) (hk : k < m) : RowN (w.setCell ⟨b, k, none⟩ (.int .i64 (k : Nat))) b m (fillTo (k + 1)) :=
  (h.set k k).congr (fun i _ => by
    show (if i = k then k else if i < k then i else 0) = if i < k + 1 then i else 0
    by_cases e : i = k
    · subst e; simp
    · rw [if_neg e]
      by_cases e2 : i < k
      · rw [if_pos e2, if_pos (by omega)]
      · rw [if_neg e2, if_neg (by omega)])

theorem fill_end {w : World} {b m k : Nat} (h : RowN w b m (fillTo k)) (hk : m ≤ k) : RowN w b m (fun i => i) := h.congr (fun i hi => by simp [fillTo]; omega)

/-- Turned as far as k: every 'hi' among the first k is 'lo' now. -/
def turnTo (f : Nat → Nat) (lo hi k : Nat) : Nat → Nat := fun i => if i < k then relab f lo hi i else f i

theorem turn_start {w : World} {b m : Nat} {f : Nat → Nat} {lo hi : Nat} (h : RowN w b m f) : RowN w b m (turnTo f lo hi 0) := h.congr (fun i _ => by simp [turnTo])

theorem turn_at {f : Nat → Nat} {lo hi k : Nat} : turnTo f lo hi k k = f k := by simp [turnTo]

theorem turn_hit {w : World} {b m k : Nat} {f : Nat → Nat} {lo hi : Nat} (h : RowN w b m (turnTo f lo hi k)) (e : f k = hi) : RowN (w.setCell ⟨b, k, none⟩ (.int .i64 (lo : Nat))) b m (turnTo f lo hi (k + 1)) :=
  (h.set k lo).congr (fun i _ => by
    show (if i = k then lo else if i < k then relab f lo hi i else f i) = if i < k + 1 then relab f lo hi i else f i
    by_cases e1 : i = k
    · subst e1; simp [relab, e]
    · rw [if_neg e1]
      by_cases e2 : i < k
      · rw [if_pos e2, if_pos (by omega)]
      · rw [if_neg e2, if_neg (by omega)])

theorem turn_miss {w : World} {b m k : Nat} {f : Nat → Nat} {lo hi : Nat} (h : RowN w b m (turnTo f lo hi k)) (e : f k ≠ hi) : RowN w b m (turnTo f lo hi (k + 1)) :=
  h.congr (fun i _ => by
    show (if i < k then relab f lo hi i else f i) = if i < k + 1 then relab f lo hi i else f i
    by_cases e1 : i = k
    · subst e1; simp [relab, e]
    · by_cases e2 : i < k
      · rw [if_pos e2, if_pos (by omega)]
      · rw [if_neg e2, if_neg (by omega)])

theorem turn_end {w : World} {b m k : Nat} {f : Nat → Nat} {lo hi : Nat} (h : RowN w b m (turnTo f lo hi k)) (hk : m ≤ k) : RowN w b m (relab f lo hi) := h.congr (fun i hi' => by simp [turnTo]; omega)

end Go.Proofs.Ymwhas
