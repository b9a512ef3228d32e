/-
  THE WALKS of QAD's copy and eq, of SizeOf.
-/
import Derived.Test.YmwhasSlices
import Derived.Test.YmwhasLab
namespace Go.Proofs.Ymwhas
open Go.RowKit
set_option linter.unusedVariables false

set_option maxHeartbeats 1000000 in
/-- The copy of a slice. -/
theorem qad_copy (b n : Nat) (f : Nat → Int) (w : World) (hn : n ≤ 1048576) (hc : Cells w b n f) :
    Calls Yasv.prog 23 #[.slice (some ⟨b, 0, none⟩) n n] w fun e w' => ∃ g, e = .returned (.slice (some ⟨g, 0, none⟩) n n) ∧ w.heap.size ≤ g ∧ w'.rowIs g 3 n (fun i => .int .i64 (f i)) ∧ Within (fun _ => False) w w' := by
  have hmk := run_make_row' (P := Yasv.prog) 26 3 (.int .i64 0) 8 Yasv.underlying26 Yasv.inf3 rfl .i64 .i64 n (by omega) (by omega)
  have A : Aside (Cells w b n f) := hc
  have hb : b < w.heap.size := hc.1
  clear hc
  go_enter Yasv.func23, Yasv.ntmps23
  go_wp2
  go_loopg [4] n (fun g v wr => ∃ k : Nat, k ≤ n ∧ n - k ≤ g ∧ v = .int .i64 (k : Nat) ∧ wr.rowIs w.heap.size 3 n (fun i => .int .i64 (if i < k then f i else 0)) ∧ Within (fun q => q = w.heap.size) w wr)
  case atStart => exact ⟨0, Nat.zero_le _, Nat.le_refl _, rfl, (World.rowIs_made w (.int .i64 0) n 3).congr (fun i _ => by simp), (Within.refl _ w).alloc _⟩
  case round =>
    obtain ⟨k, hk, hg, rfl, hR, hW⟩ := hrel
    have Bd : Aside (wr.rowIs w.heap.size 3 n (fun i => .int .i64 (if i < k then f i else 0)) ∧ Within (fun q => q = w.heap.size) w wr) := ⟨hR, hW⟩
    by_cases hlt : k < n
    · have c1 : wr.cell? ⟨b, k, none⟩ = some (.int .i64 (f k)) := ((A.out.within hW (by omega)).2 k hlt)
      have c2 := hR.cell hlt
      have c3 := hR.frozen k
      clear hR hW
      go_wp2
      go_roundg (n - (k + 1))
      case measure => omega
      case rel =>
        refine ⟨k + 1, by omega, by omega, by go_num, (Bd.out.1.set k _).congr (fun i hi => ?_), Bd.out.2.setCell rfl _⟩
        by_cases e : i = k
        · subst e
          rw [if_pos rfl, if_pos (by omega)]
        · rw [if_neg e]
          by_cases e2 : i < k
          · rw [if_pos e2, if_pos (by omega)]
          · rw [if_neg e2, if_neg (by omega)]
    · clear hR hW
      go_wp2
      go_ret
      refine ⟨w.heap.size, rfl, Nat.le_refl _, Bd.out.1.congr (fun i hi => by rw [if_pos (by omega)]), ?_⟩
      exact ⟨Bd.out.2.os, Bd.out.2.tape, Bd.out.2.output, Bd.out.2.size, fun q hq _ => Bd.out.2.block q hq (by omega)⟩

set_option maxHeartbeats 1000000 in
/-- Two slices of the same numbers are found equal. -/
theorem qad_eq (b1 b2 n c d : Nat) (f : Nat → Int) (w : World) (hn : n ≤ 1048576) (h1 : Cells w b1 n f) (h2 : Cells w b2 n f) :
    Calls Yasv.prog 25 #[.slice (some ⟨b1, 0, none⟩) n c, .slice (some ⟨b2, 0, none⟩) n d] w fun e w' => e = .returned (.bool true) ∧ ∃ q, w' = w.drewN q := by
  have A : Aside (Cells w b1 n f ∧ Cells w b2 n f) := ⟨h1, h2⟩
  clear h1 h2
  go_enter Yasv.func25, Yasv.ntmps25
  go_wp2
  go_loopg [5] n (fun g s wr => ∃ k q : Nat, k ≤ n ∧ n - k ≤ g ∧ s = .int .i64 (k : Nat) ∧ wr = w.drewN q)
  case atStart => exact ⟨0, 0, Nat.zero_le _, by omega, rfl, rfl⟩
  case round =>
    obtain ⟨k, q, hk, hg, rfl, rfl⟩ := hrel
    by_cases hlt : k < n
    · have g1 := A.out.1.2 k hlt
      have g2 := A.out.2.2 k hlt
      generalize f k = x at g1 g2
      go_wp2_with fail
      go_region
      go_wp2
      go_roundg (n - (k + 1))
      case measure => omega
      case rel => exact ⟨k + 1, q + 1, by omega, by omega, by go_num, rfl⟩
    · go_wp2
      go_ret
      exact ⟨rfl, q, rfl⟩

set_option maxHeartbeats 400000 in
/-- (*Sets).SizeOf of an element. -/
theorem sizeOf_in (ps pb zb n : Nat) (s : St) (x : Nat) (w : World) (hI : Inv n s) (hn : n ≤ 1048576) (hS : SetsAt w ps pb zb n s) (hx : x < n) :
    Calls Yasv.prog 24 #[.pointer (some ⟨ps, 0, none⟩), .int .i64 (x : Nat)] w fun e w' => e = .returned (.tuple #[.int .i64 (s.Z (s.R x) : Nat), .bool true]) ∧ w' = w := by
  have h0 := hS.c0
  have h1 := hS.c1
  have AI := hI.forest
  have hr := AI.rlt x hx
  have hz := hS.cz _ hr
  have AP : Aside (∀ i, i < n → w.cell? ⟨pb, i, none⟩ = some (.int .i64 (s.P i : Nat))) := hS.cp
  clear hI hS
  go_enter Yasv.func24, Yasv.ntmps24
  go_wp2_with fail
  refine (find_in ps pb n x s.P s.Z s.R _ AI hx hn h0 AP.out).mono ?_
  rintro e w' ⟨rfl, rfl⟩
  go_wp2
  go_ret2
  exact ⟨rfl, rfl⟩

set_option maxHeartbeats 400000 in
/-- Of what is no element. -/
theorem sizeOf_out (ps pb zb n : Nat) (s : St) (a : Int) (w : World) (hn : n ≤ 1048576) (hS : SetsAt w ps pb zb n s) (ha : a < 0 ∨ (n : Int) ≤ a) :
    Calls Yasv.prog 24 #[.pointer (some ⟨ps, 0, none⟩), .int .i64 a] w fun e w' => e = .returned (.tuple #[.int .i64 0, .bool false]) ∧ w' = w := by
  have h0 := hS.c0
  clear hS
  go_enter Yasv.func24, Yasv.ntmps24
  go_wp2_with fail
  refine (find_out ps pb n a _ ha hn h0).mono ?_
  rintro e w' ⟨rfl, rfl⟩
  go_wp2
  go_ret2
  exact ⟨rfl, rfl⟩

end Go.Proofs.Ymwhas
