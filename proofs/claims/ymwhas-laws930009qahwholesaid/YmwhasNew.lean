/-
  THE WALK of New.
-/
import Derived.Test.YmwhasMem
namespace Go.Proofs.Ymwhas
open Go.RowKit
set_option linter.unusedVariables false

theorem Yasv.info3 : (Yasv.prog.info? 3).map (fun i => (i.zero, i.size, i.bytes)) = some (some (.int .i64 0), 1, 8) := by kernel_rfl

/-- Half made: k elements are laid. -/
def mid (n k : Nat) : St := { P := fun i => if i < k then i else 0, Z := fun i => if i < k then 1 else 0, R := fun i => i, c := n }

theorem made_at (w : World) (n pb zb : Nat) (h : (pb = w.heap.size ∧ zb = w.heap.size + 1) ∨ (pb = w.heap.size + 1 ∧ zb = w.heap.size)) :
    SetsAt (((w.alloc (.cells (madeCells #[.int .i64 0] n) 3)).alloc (.cells (madeCells #[.int .i64 0] n) 3)).alloc (.cells #[.slice (some ⟨pb, 0, none⟩) n n, .slice (some ⟨zb, 0, none⟩) n n, .int .i64 (n : Nat)] 32)) (w.heap.size + 1 + 1) pb zb n (mid n 0) := by
  have r1 := ((World.rowIs_made w (.int .i64 0) n 3).alloc (.cells (madeCells #[.int .i64 0] n) 3)).alloc (.cells #[.slice (some ⟨pb, 0, none⟩) n n, .slice (some ⟨zb, 0, none⟩) n n, .int .i64 (n : Nat)] 32)
  have r2 := (World.rowIs_made (w.alloc (.cells (madeCells #[.int .i64 0] n) 3)) (.int .i64 0) n 3).alloc (.cells #[.slice (some ⟨pb, 0, none⟩) n n, .slice (some ⟨zb, 0, none⟩) n n, .int .i64 (n : Nat)] 32)
  have r3 := World.rowIs_alloc ((w.alloc (.cells (madeCells #[.int .i64 0] n) 3)).alloc (.cells (madeCells #[.int .i64 0] n) 3)) #[.slice (some ⟨pb, 0, none⟩) n n, .slice (some ⟨zb, 0, none⟩) n n, .int .i64 (n : Nat)] 32 (setsCell pb zb n n) (by
    intro i hi
    simp at hi
    match i, hi with
    | 0, _ => rfl
    | 1, _ => rfl
    | 2, _ => rfl)
  have e2 : (w.alloc (.cells (madeCells #[.int .i64 0] n) 3)).heap.size = w.heap.size + 1 := by simp
  have e3 : ((w.alloc (.cells (madeCells #[.int .i64 0] n) 3)).alloc (.cells (madeCells #[.int .i64 0] n) 3)).heap.size = w.heap.size + 1 + 1 := by simp
  rw [e2] at r2
  rw [e3] at r3
  have e4 : ∀ i, i < n → (Value.int .i64 0) = Value.int .i64 (((mid n 0).P i : Nat) : Int) := fun i _ => by simp [mid]
  have e5 : ∀ i, i < n → (Value.int .i64 0) = Value.int .i64 (((mid n 0).Z i : Nat) : Int) := fun i _ => by simp [mid]
  rcases h with ⟨rfl, rfl⟩ | ⟨rfl, rfl⟩
  · exact ⟨r3, r1.congr e4, r2.congr e5, by omega, by omega, by omega⟩
  · exact ⟨r3, r2.congr e4, r1.congr e5, by omega, by omega, by omega⟩

theorem mid_step {w : World} {ps pb zb n k : Nat} (h : SetsAt w ps pb zb n (mid n k)) (hk : k < n) :
    SetsAt ((w.setCell ⟨pb, k, none⟩ (.int .i64 (k : Nat))).setCell ⟨zb, k, none⟩ (.int .i64 1)) ps pb zb n (mid n (k + 1)) := by
  refine ((h.setP k k).setZ k 1).same ?_ ?_ rfl
  · funext i
    show (if i < k + 1 then i else 0) = if i = k then k else if i < k then i else 0
    by_cases e : i = k
    · subst e; simp
    · rw [if_neg e]
      by_cases e2 : i < k
      · rw [if_pos e2, if_pos (by omega)]
      · rw [if_neg e2, if_neg (by omega)]
  · funext i
    show (if i < k + 1 then 1 else 0) = if i = k then 1 else if i < k then 1 else 0
    by_cases e : i = k
    · subst e; simp
    · rw [if_neg e]
      by_cases e2 : i < k
      · rw [if_pos e2, if_pos (by omega)]
      · rw [if_neg e2, if_neg (by omega)]

theorem mid_end {w : World} {ps pb zb n k : Nat} (h : SetsAt w ps pb zb n (mid n k)) (hk : n ≤ k) : SetsAt w ps pb zb n (fresh n) := by
  refine ⟨h.st, h.pr.congr (fun i hi => ?_), h.zr.congr (fun i hi => ?_), h.n1, h.n2, h.n3⟩
  · show Value.int .i64 (((if i < k then i else 0 : Nat)) : Int) = Value.int .i64 ((i : Nat) : Int)
    rw [if_pos (by omega)]
  · show Value.int .i64 (((if i < k then 1 else 0 : Nat)) : Int) = Value.int .i64 ((1 : Nat) : Int)
    rw [if_pos (by omega)]

set_option maxHeartbeats 800000 in
theorem new_any (n : Nat) (w : World) (hn : n ≤ 1048576) :
    Calls Yasv.prog 11 #[.int .i64 (n : Nat)] w fun e w' => ∃ ps pb zb : Nat, e = .returned (.tuple #[.pointer (some ⟨ps, 0, none⟩), .bool true]) ∧ w.heap.size ≤ ps ∧ w.heap.size ≤ pb ∧ w.heap.size ≤ zb ∧ SetsAt w' ps pb zb n (fresh n) ∧ Within (fun _ => False) w w' := by
  have hmk := run_make_row' (P := Yasv.prog) 26 3 (.int .i64 0) 8 Yasv.underlying26 Yasv.info3 rfl .i64 .i64 n (by omega) (by omega)
  have hd1 : decide ((n : Int) < 0) = false := decide_eq_false (by omega)
  have hd2 : decide (1048576 < (n : Int)) = false := decide_eq_false (by omega)
  go_enter Yasv.func11, Yasv.ntmps11
  go_wp2
  go_region
  · go_wp2
    go_loopg [5] n (fun g v wr => ∃ k : Nat, k ≤ n ∧ n - k ≤ g ∧ v = .int .i64 (k : Nat) ∧ SetsAt wr (w.heap.size + 1 + 1) w.heap.size (w.heap.size + 1) n (mid n k) ∧ Within (fun b => w.heap.size ≤ b) w wr)
    case atStart => exact ⟨0, Nat.zero_le _, Nat.le_refl _, rfl, (made_at w n w.heap.size (w.heap.size + 1) (.inl ⟨rfl, rfl⟩)).drewN 1, ((((Within.refl _ w).alloc _).alloc _).alloc _).drewN 1⟩
    case round =>
      obtain ⟨k, hk, hg, rfl, hT, hW⟩ := hrel
      have B : Aside (SetsAt wr (w.heap.size + 1 + 1) w.heap.size (w.heap.size + 1) n (mid n k) ∧ Within (fun b => w.heap.size ≤ b) w wr) := ⟨hT, hW⟩
      have k0 := hT.c0
      have k1 := hT.c1
      have f1 := hT.pr.frozen k
      have f2 := hT.zr.frozen k
      have kp : k < n → wr.cell? ⟨w.heap.size, k, none⟩ = some (.int .i64 ((mid n k).P k : Nat)) := fun h => hT.cp k h
      have kz : k < n → wr.cell? ⟨(w.heap.size + 1), k, none⟩ = some (.int .i64 ((mid n k).Z k : Nat)) := fun h => hT.cz k h
      clear hT hW
      by_cases hlt : k < n
      · have kp := kp hlt
        have kz := kz hlt
        go_wp2
        go_roundg (n - (k + 1))
        case measure => omega
        case rel => exact ⟨k + 1, by omega, by omega, by go_num, mid_step B.out.1 hlt, (B.out.2.setCell (Nat.le_refl _) _).setCell (by simp) _⟩
      · clear kp kz
        go_wp2
        go_ret2
        refine ⟨_, _, _, rfl, ?_, ?_, ?_, mid_end B.out.1 (by omega), ?_⟩
        · omega
        · omega
        · omega
        · exact ⟨B.out.2.os, B.out.2.tape, B.out.2.output, B.out.2.size, fun b hb _ => B.out.2.block b hb (by omega)⟩
  · go_wp2
    go_loopg [5] n (fun g v wr => ∃ k : Nat, k ≤ n ∧ n - k ≤ g ∧ v = .int .i64 (k : Nat) ∧ SetsAt wr (w.heap.size + 1 + 1) (w.heap.size + 1) w.heap.size n (mid n k) ∧ Within (fun b => w.heap.size ≤ b) w wr)
    case atStart => exact ⟨0, Nat.zero_le _, Nat.le_refl _, rfl, (made_at w n (w.heap.size + 1) w.heap.size (.inr ⟨rfl, rfl⟩)).drewN 1, ((((Within.refl _ w).alloc _).alloc _).alloc _).drewN 1⟩
    case round =>
      obtain ⟨k, hk, hg, rfl, hT, hW⟩ := hrel
      have B : Aside (SetsAt wr (w.heap.size + 1 + 1) (w.heap.size + 1) w.heap.size n (mid n k) ∧ Within (fun b => w.heap.size ≤ b) w wr) := ⟨hT, hW⟩
      have k0 := hT.c0
      have k1 := hT.c1
      have f1 := hT.pr.frozen k
      have f2 := hT.zr.frozen k
      have kp : k < n → wr.cell? ⟨(w.heap.size + 1), k, none⟩ = some (.int .i64 ((mid n k).P k : Nat)) := fun h => hT.cp k h
      have kz : k < n → wr.cell? ⟨w.heap.size, k, none⟩ = some (.int .i64 ((mid n k).Z k : Nat)) := fun h => hT.cz k h
      clear hT hW
      by_cases hlt : k < n
      · have kp := kp hlt
        have kz := kz hlt
        go_wp2
        go_roundg (n - (k + 1))
        case measure => omega
        case rel => exact ⟨k + 1, by omega, by omega, by go_num, mid_step B.out.1 hlt, (B.out.2.setCell (by simp) _).setCell (Nat.le_refl _) _⟩
      · clear kp kz
        go_wp2
        go_ret2
        refine ⟨_, _, _, rfl, ?_, ?_, ?_, mid_end B.out.1 (by omega), ?_⟩
        · omega
        · omega
        · omega
        · exact ⟨B.out.2.os, B.out.2.tape, B.out.2.output, B.out.2.size, fun b hb _ => B.out.2.block b hb (by omega)⟩

end Go.Proofs.Ymwhas
