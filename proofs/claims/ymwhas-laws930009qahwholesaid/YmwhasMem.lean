/-
  MEMORY: which blocks a call has touched; where a Sets lies.
-/
import Derived.Test.YmwhasFind
namespace Go.Proofs.Ymwhas
open Go.RowKit
set_option linter.unusedVariables false

/-- w' is w but for the blocks of S and for new ones. -/
structure Within (S : Nat → Prop) (w w' : World) : Prop where
  os : w'.os = w.os
  tape : w'.tape = w.tape
  output : w'.output = w.output
  size : w.heap.size ≤ w'.heap.size
  block : ∀ k, k < w.heap.size → ¬ S k → w'.heap[k]? = w.heap[k]?

namespace Within
variable {S T : Nat → Prop} {a b c : World}

theorem refl (S : Nat → Prop) (w : World) : Within S w w := ⟨rfl, rfl, rfl, Nat.le_refl _, fun _ _ _ => rfl⟩

theorem trans (h : Within S a b) (k : Within S b c) : Within S a c :=
  ⟨k.os.trans h.os, k.tape.trans h.tape, k.output.trans h.output, Nat.le_trans h.size k.size, fun i hi hS => (k.block i (Nat.lt_of_lt_of_le hi h.size) hS).trans (h.block i hi hS)⟩

theorem mono (h : Within S a b) (hST : ∀ k, S k → T k) : Within T a b := ⟨h.os, h.tape, h.output, h.size, fun k hk hT => h.block k hk (fun hS => hT (hST k hS))⟩

theorem drew (h : Within S a b) : Within S a b.drew := ⟨h.os, h.tape, h.output, h.size, h.block⟩

theorem drewN (h : Within S a b) (n : Nat) : Within S a (b.drewN n) := ⟨h.os, h.tape, h.output, h.size, h.block⟩

theorem alloc (h : Within S a b) (o : Obj) : Within S a (b.alloc o) :=
  h.trans ⟨rfl, rfl, rfl, by simp, fun k hk _ => Below.heap_alloc _ _ _ hk⟩

theorem setCell (h : Within S a b) {p : Addr} (hp : S p.block) (u : Value) : Within S a (b.setCell p u) :=
  h.trans ⟨rfl, rfl, rfl, by simp [World.setCell], fun k _ hk => Below.heap_setCell _ _ _ _ (fun e => hk (by rw [e]; exact hp))⟩

theorem below (h : Within S a b) {B : Nat} (hB : B ≤ a.heap.size) (hS : ∀ k, S k → B ≤ k) : Below B a b :=
  ⟨h.os, h.tape, h.output, h.size, fun k hk => h.block k (by omega) (fun s => by have := hS k s; omega)⟩

theorem row (h : Within S a b) {r : Nat} {t : TypeId} {n : Nat} {f : Nat → Value} (hr : a.rowIs r t n f) (hS : ¬ S r) : b.rowIs r t n f := hr.of_block (h.block r hr.lt hS)

end Within

theorem below_draws {B : Nat} {w w' : World} (h : Below B w w') (q : Nat) : Below B w (w'.drewN q) := ⟨h.os, h.tape, h.output, h.size, h.block⟩

/-- The three cells of a Sets. -/
def setsCell (pb zb n c : Nat) (i : Nat) : Value :=
  if i = 0 then .slice (some ⟨pb, 0, none⟩) n n else if i = 1 then .slice (some ⟨zb, 0, none⟩) n n else .int .i64 (c : Nat)

/-- A Sets lies at block ps, its parents at block pb, its sizes at zb. -/
structure SetsAt (w : World) (ps pb zb n : Nat) (s : St) : Prop where
  st : w.rowIs ps 32 3 (setsCell pb zb n s.c)
  pr : w.rowIs pb 3 n (fun i => .int .i64 (s.P i : Nat))
  zr : w.rowIs zb 3 n (fun i => .int .i64 (s.Z i : Nat))
  n1 : ps ≠ pb
  n2 : ps ≠ zb
  n3 : pb ≠ zb

/-- Its own three blocks. -/
def three (ps pb zb : Nat) (k : Nat) : Prop := k = ps ∨ k = pb ∨ k = zb

namespace SetsAt
variable {w w' : World} {ps pb zb n : Nat} {s : St}

theorem c0 (h : SetsAt w ps pb zb n s) : w.cell? ⟨ps, 0, none⟩ = some (.slice (some ⟨pb, 0, none⟩) n n) := h.st.cell (i := 0) (by omega)
theorem c1 (h : SetsAt w ps pb zb n s) : w.cell? ⟨ps, 1, none⟩ = some (.slice (some ⟨zb, 0, none⟩) n n) := h.st.cell (i := 1) (by omega)
theorem c2 (h : SetsAt w ps pb zb n s) : w.cell? ⟨ps, 2, none⟩ = some (.int .i64 (s.c : Nat)) := h.st.cell (i := 2) (by omega)
theorem cp (h : SetsAt w ps pb zb n s) : ∀ i, i < n → w.cell? ⟨pb, i, none⟩ = some (.int .i64 (s.P i : Nat)) := fun i hi => h.pr.cell hi
theorem cz (h : SetsAt w ps pb zb n s) : ∀ i, i < n → w.cell? ⟨zb, i, none⟩ = some (.int .i64 (s.Z i : Nat)) := fun i hi => h.zr.cell hi

theorem within {S : Nat → Prop} (h : SetsAt w ps pb zb n s) (k : Within S w w') (hS : ∀ b, three ps pb zb b → ¬ S b) : SetsAt w' ps pb zb n s :=
  ⟨k.row h.st (hS _ (.inl rfl)), k.row h.pr (hS _ (.inr (.inl rfl))), k.row h.zr (hS _ (.inr (.inr rfl))), h.n1, h.n2, h.n3⟩

theorem same {s' : St} (h : SetsAt w ps pb zb n s) (e1 : s'.P = s.P) (e2 : s'.Z = s.Z) (e3 : s'.c = s.c) : SetsAt w ps pb zb n s' :=
  ⟨by rw [e3]; exact h.st, by rw [e1]; exact h.pr, by rw [e2]; exact h.zr, h.n1, h.n2, h.n3⟩

theorem drewN (h : SetsAt w ps pb zb n s) (k : Nat) : SetsAt (w.drewN k) ps pb zb n s := ⟨h.st, h.pr, h.zr, h.n1, h.n2, h.n3⟩

/-- A parent is written. -/
theorem setP (h : SetsAt w ps pb zb n s) (i v : Nat) : SetsAt (w.setCell ⟨pb, i, none⟩ (.int .i64 (v : Nat))) ps pb zb n { s with P := fun j => if j = i then v else s.P j } := by
  refine ⟨h.st.setOther h.n1 _, (h.pr.set i _).congr (fun j hj => ?_), h.zr.setOther (fun e => h.n3 e.symm) _, h.n1, h.n2, h.n3⟩
  show (if j = i then _ else _) = Value.int .i64 (((if j = i then v else s.P j : Nat)) : Int)
  split <;> rfl

/-- A size is written. -/
theorem setZ (h : SetsAt w ps pb zb n s) (i v : Nat) : SetsAt (w.setCell ⟨zb, i, none⟩ (.int .i64 (v : Nat))) ps pb zb n { s with Z := fun j => if j = i then v else s.Z j } := by
  refine ⟨h.st.setOther h.n2 _, h.pr.setOther h.n3 _, (h.zr.set i _).congr (fun j hj => ?_), h.n1, h.n2, h.n3⟩
  show (if j = i then _ else _) = Value.int .i64 (((if j = i then v else s.Z j : Nat)) : Int)
  split <;> rfl

/-- The count is written. -/
theorem setC (h : SetsAt w ps pb zb n s) (v : Nat) : SetsAt (w.setCell ⟨ps, 2, none⟩ (.int .i64 (v : Nat))) ps pb zb n { s with c := v } := by
  refine ⟨(h.st.set 2 _).congr (fun j hj => ?_), h.pr.setOther (fun e => h.n1 e.symm) _, h.zr.setOther (fun e => h.n2 e.symm) _, h.n1, h.n2, h.n3⟩
  match j, hj with
  | 0, _ => rfl
  | 1, _ => rfl
  | 2, _ => rfl

end SetsAt

end Go.Proofs.Ymwhas
