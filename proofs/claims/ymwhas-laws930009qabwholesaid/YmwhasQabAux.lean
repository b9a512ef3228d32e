/-
  THE WALKS of QAB's clone, eq, clamp and root.
-/
import Derived.Test.YmwhasSlices
import Derived.Test.YmwhasLab
namespace Go.Proofs.Ymwhas
open Go.RowKit
set_option linter.unusedVariables false

set_option maxHeartbeats 1000000 in
/-- The copy of a slice. -/
theorem qab_clone (b n : Nat) (f : Nat → Int) (w : World) (hn : n ≤ 1048576) (hc : Cells w b n f) :
    Calls Yasv.prog 20 #[.slice (some ⟨b, 0, none⟩) n n] w fun e w' => ∃ g, e = .returned (.slice (some ⟨g, 0, none⟩) n n) ∧ w.heap.size ≤ g ∧ w'.rowIs g 3 n (fun i => .int .i64 (f i)) ∧ Within (fun _ => False) w w' := by
  have hmk := run_make_row' (P := Yasv.prog) 26 3 (.int .i64 0) 8 Yasv.underlying26 Yasv.inf3 rfl .i64 .i64 n (by omega) (by omega)
  have A : Aside (Cells w b n f) := hc
  have hb : b < w.heap.size := hc.1
  clear hc
  go_enter Yasv.func20, Yasv.ntmps20
  go_wp2
  go_loopg [4] n (fun g v wr => ∃ k : Nat, k ≤ n ∧ n - k ≤ g ∧ v = .int .i64 (k : Nat) ∧ wr.rowIs w.heap.size 3 n (fun i => .int .i64 (if i < k then f i else 0)) ∧ Within (fun q => q = w.heap.size) w wr)
  case atStart => exact ⟨0, Nat.zero_le _, Nat.le_refl _, rfl, (World.rowIs_made w (.int .i64 0) n 3).congr (fun i _ => by simp), (Within.refl _ w).alloc _⟩
  case round =>
    obtain ⟨k, hk, hg, rfl, hR, hW⟩ := hrel
    have Bd : Aside (wr.rowIs w.heap.size 3 n (fun i => .int .i64 (if i < k then f i else 0)) ∧ Within (fun q => q = w.heap.size) w wr) := ⟨hR, hW⟩
    by_cases hlt : k < n
    · have c1 : wr.cell? ⟨b, k, none⟩ = some (.int .i64 (f k)) := ((A.out.within hW (by omega)).2 k hlt)
      have c2 := hR.cell hlt
      have c3 := hR.frozen k
      clear hR hW
      go_wp2
      go_roundg (n - (k + 1))
      case measure => omega
      case rel =>
        refine ⟨k + 1, by omega, by omega, by go_num, (Bd.out.1.set k _).congr (fun i hi => ?_), Bd.out.2.setCell rfl _⟩
        by_cases e : i = k
        · subst e
          rw [if_pos rfl, if_pos (by omega)]
        · rw [if_neg e]
          by_cases e2 : i < k
          · rw [if_pos e2, if_pos (by omega)]
          · rw [if_neg e2, if_neg (by omega)]
    · clear hR hW
      go_wp2
      go_ret
      refine ⟨w.heap.size, rfl, Nat.le_refl _, Bd.out.1.congr (fun i hi => by rw [if_pos (by omega)]), ?_⟩
      exact ⟨Bd.out.2.os, Bd.out.2.tape, Bd.out.2.output, Bd.out.2.size, fun q hq _ => Bd.out.2.block q hq (by omega)⟩

set_option maxHeartbeats 1000000 in
/-- Two slices of the same numbers are found equal. -/
theorem qab_eq (b1 b2 n c d : Nat) (f : Nat → Int) (w : World) (hn : n ≤ 1048576) (h1 : Cells w b1 n f) (h2 : Cells w b2 n f) :
    Calls Yasv.prog 22 #[.slice (some ⟨b1, 0, none⟩) n c, .slice (some ⟨b2, 0, none⟩) n d] w fun e w' => e = .returned (.bool true) ∧ ∃ q, w' = w.drewN q := by
  have A : Aside (Cells w b1 n f ∧ Cells w b2 n f) := ⟨h1, h2⟩
  clear h1 h2
  go_enter Yasv.func22, Yasv.ntmps22
  go_wp2
  go_loopg [5] n (fun g s wr => ∃ k q : Nat, k ≤ n ∧ n - k ≤ g ∧ s = .int .i64 (k : Nat) ∧ wr = w.drewN q)
  case atStart => exact ⟨0, 0, Nat.zero_le _, by omega, rfl, rfl⟩
  case round =>
    obtain ⟨k, q, hk, hg, rfl, rfl⟩ := hrel
    by_cases hlt : k < n
    · have g1 := A.out.1.2 k hlt
      have g2 := A.out.2.2 k hlt
      generalize f k = x at g1 g2
      go_wp2_with fail
      go_region
      go_wp2
      go_roundg (n - (k + 1))
      case measure => omega
      case rel => exact ⟨k + 1, q + 1, by omega, by omega, by go_num, rfl⟩
    · go_wp2
      go_ret
      exact ⟨rfl, q, rfl⟩

/-- Where QAB's clamp leads. -/
def clampTo (x : Int) (n : Nat) : Nat := (IntKind.u64.wrap x).toNat % n

theorem clampTo_lt (x : Int) {n : Nat} (hn : 0 < n) : clampTo x n < n := Nat.mod_lt _ hn

theorem wrap_nonneg (N : Int) : 0 ≤ IntKind.u64.wrap N := by
  simp [IntKind.wrap, IntKind.signed, IntKind.bits]
  omega

set_option maxHeartbeats 400000 in
theorem qab_clamp (x : Int) (n : Nat) (w : World) (h0 : 0 < n) (hn : n ≤ 1048576) :
    Calls Yasv.prog 19 #[.int .i64 x, .int .i64 (n : Nat)] w fun e w' => e = .returned (.int .i64 (clampTo x n : Nat)) ∧ w' = w := by
  have hU := wrap_nonneg x
  have x0 : (0 : Int) ≤ (IntKind.u64.wrap x) % (n : Int) := Int.emod_nonneg _ (by omega)
  have x1 : (IntKind.u64.wrap x) % (n : Int) < (n : Int) := Int.emod_lt_of_pos _ (by omega)
  have e1 : ((clampTo x n : Nat) : Int) = (IntKind.u64.wrap x) % (n : Int) := by
    unfold clampTo
    rw [Int.natCast_emod, Int.toNat_of_nonneg hU]
  have E : Aside (((clampTo x n : Nat) : Int) = (IntKind.u64.wrap x) % (n : Int)) := e1
  clear e1
  go_enter Yasv.func19, Yasv.ntmps19
  go_wp2
  go_ret
  refine ⟨?_, rfl⟩
  rw [E.out]
  rfl

set_option maxHeartbeats 400000 in
/-- QAB's walk up the copied forest. -/
theorem qab_root (g n x : Nat) (P Z R : Nat → Nat) (w : World) (hF : Forest n P Z R) (hz : ∀ i, i < n → 1 ≤ Z i) (hx : x < n) (hn : n ≤ 1048576) (hC : Cells w g n (fun i => (P i : Int))) :
    Calls Yasv.prog 21 #[.slice (some ⟨g, 0, none⟩) n n, .int .i64 (x : Nat)] w fun e w' => e = .returned (.int .i64 (R x : Nat)) ∧ w' = w := by
  have AP : Aside (Cells w g n (fun i => (P i : Int))) := hC
  clear hC
  go_enter Yasv.func21, Yasv.ntmps21
  go_wp2
  go_loopg [1, 5] (n - Z x) (fun k s v wr => ∃ y j : Nat, y < n ∧ j + 1 ≤ Z y ∧ s = .int .i64 (y : Nat) ∧ v = .int .i64 (j : Nat) ∧ n - Z y ≤ k ∧ R y = R x ∧ wr = w)
  case atStart => exact ⟨x, 0, hx, hz x hx, rfl, rfl, Nat.le_refl _, rfl, rfl⟩
  case round =>
    obtain ⟨y, j, hy, hj, rfl, rfl, hg, hR, rfl⟩ := hrel
    have hc : wr.cell? ⟨g, y, none⟩ = some (.int .i64 (P y : Nat)) := AP.out.2 y hy
    have hp := hF.plt y hy
    have hzy := hF.zle y hy
    have HR : Aside (R y = R x) := hR
    clear hR
    have hjn : j ≤ n := by omega
    by_cases e : P y = y
    · have e1 : wr.cell? ⟨g, y, none⟩ = some (.int .i64 (y : Nat)) := by rw [hc, e]
      clear hc
      go_wp2
      go_ret
      refine ⟨?_, rfl⟩
      rw [← HR.out, hF.self y hy e]
      rfl
    · have hu := hF.up y hy e
      have hz := hF.zle _ hp
      have e' : ((P y : Int) != (y : Int)) = true := by rw [bne_iff_ne]; omega
      go_wp2
      go_roundg (n - Z (P y))
      case measure => omega
      case rel => exact ⟨P y, j + 1, hp, by omega, rfl, by go_num, Nat.le_refl _, by rw [hF.step y hy, HR.out], rfl⟩

end Go.Proofs.Ymwhas
