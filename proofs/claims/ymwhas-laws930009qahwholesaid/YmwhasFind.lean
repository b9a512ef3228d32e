/-
  THE WALKS of (*Sets).root, Find: they only read.
-/
import Derived.Test.YmwhasRows
import Derived.Test.YmwhasPlain
import Derived.WalkKit
import Derived.WalkSpells
import Derived.WalkLawsBesides
import Derived.Deep.LoopGhost
import Derived.Deep.Draws
import Derived.Deep.OwnRows
namespace Go.Proofs.Ymwhas
open Go.RowKit
set_option linter.unusedVariables false

set_option maxHeartbeats 400000 in
theorem root_any (ps pb n x : Nat) (P Z R : Nat → Nat) (w : World) (hF : Forest n P Z R) (hx : x < n) (hn : n ≤ 1048576)
    (h0 : w.cell? ⟨ps, 0, none⟩ = some (.slice (some ⟨pb, 0, none⟩) n n)) (hP : ∀ i, i < n → w.cell? ⟨pb, i, none⟩ = some (.int .i64 (P i : Nat))) :
    Calls Yasv.prog 38 #[.pointer (some ⟨ps, 0, none⟩), .int .i64 (x : Nat)] w fun e w' => e = .returned (.int .i64 (R x : Nat)) ∧ w' = w := by
  have AP : Aside (∀ i, i < n → w.cell? ⟨pb, i, none⟩ = some (.int .i64 (P i : Nat))) := hP
  clear hP
  go_enter Yasv.func38, Yasv.ntmps38
  go_wp2
  go_loopg [1] (n - Z x) (fun g s wr => ∃ y : Nat, y < n ∧ s = .int .i64 (y : Nat) ∧ n - Z y ≤ g ∧ R y = R x ∧ wr = w)
  case atStart => exact ⟨x, hx, rfl, Nat.le_refl _, rfl, rfl⟩
  case round =>
    obtain ⟨y, hy, rfl, hg, hR, rfl⟩ := hrel
    have hc := AP.out y hy
    have hp := hF.plt y hy
    have HR : Aside (R y = R x) := hR
    clear hR
    by_cases e : P y = y
    · rw [e] at hc
      go_wp2
      go_ret
      refine ⟨?_, rfl⟩
      rw [← HR.out, hF.self y hy e]
      rfl
    · have hu := hF.up y hy e
      have hz := hF.zle _ hp
      have e' : ((P y : Int) != (y : Int)) = true := by rw [bne_iff_ne]; omega
      go_wp2
      go_roundg (n - Z (P y))
      case measure => omega
      case rel => exact ⟨P y, hp, rfl, Nat.le_refl _, by rw [hF.step y hy, HR.out], rfl⟩

set_option maxHeartbeats 400000 in
theorem find_in (ps pb n x : Nat) (P Z R : Nat → Nat) (w : World) (hF : Forest n P Z R) (hx : x < n) (hn : n ≤ 1048576)
    (h0 : w.cell? ⟨ps, 0, none⟩ = some (.slice (some ⟨pb, 0, none⟩) n n)) (hP : ∀ i, i < n → w.cell? ⟨pb, i, none⟩ = some (.int .i64 (P i : Nat))) :
    Calls Yasv.prog 37 #[.pointer (some ⟨ps, 0, none⟩), .int .i64 (x : Nat)] w fun e w' => e = .returned (.tuple #[.int .i64 (R x : Nat), .bool true]) ∧ w' = w := by
  have AP : Aside (∀ i, i < n → w.cell? ⟨pb, i, none⟩ = some (.int .i64 (P i : Nat))) := hP
  clear hP
  go_enter Yasv.func37, Yasv.ntmps37
  go_wp2_with (go_at_call 38; refine (root_any ps pb n x P Z R _ hF hx hn h0 AP.out).mono ?_; rintro e w' ⟨rfl, rfl⟩)
  go_ret2
  exact ⟨rfl, rfl⟩

set_option maxHeartbeats 400000 in
theorem find_out (ps pb n : Nat) (x : Int) (w : World) (hx : x < 0 ∨ (n : Int) ≤ x) (hn : n ≤ 1048576)
    (h0 : w.cell? ⟨ps, 0, none⟩ = some (.slice (some ⟨pb, 0, none⟩) n n)) :
    Calls Yasv.prog 37 #[.pointer (some ⟨ps, 0, none⟩), .int .i64 x] w fun e w' => e = .returned (.tuple #[.int .i64 0, .bool false]) ∧ w' = w := by
  by_cases h1 : x < 0
  · go_enter Yasv.func37, Yasv.ntmps37
    go_wp2
    go_ret2
    exact ⟨rfl, rfl⟩
  · have h2 : (n : Int) ≤ x := by omega
    go_enter Yasv.func37, Yasv.ntmps37
    go_wp2
    go_ret2
    exact ⟨rfl, rfl⟩

end Go.Proofs.Ymwhas
