/-
  THE WALKS of (*Sets).Compress and of New.
-/
import Derived.Test.YmwhasMem
namespace Go.Proofs.Ymwhas
open Go.RowKit
set_option linter.unusedVariables false

theorem comp_out (ps pb zb n : Nat) (s : St) (a : Int) (w : World) (hn : n ≤ 1048576) (hS : SetsAt w ps pb zb n s) (ha : a < 0 ∨ (n : Int) ≤ a) :
    Calls Yasv.prog 17 #[.pointer (some ⟨ps, 0, none⟩), .int .i64 a] w fun e w' => e = .returned (.bool false) ∧ w' = w := by
  have h0 := hS.c0
  clear hS
  go_enter Yasv.func17, Yasv.ntmps17
  go_wp2_with fail
  refine (find_out ps pb n a _ ha hn h0).mono ?_
  rintro e w' ⟨rfl, rfl⟩
  go_wp2
  go_ret
  exact ⟨rfl, rfl⟩

set_option maxHeartbeats 800000 in
theorem comp_in (ps pb zb n : Nat) (s : St) (x : Nat) (w : World) (hI : Inv n s) (hn : n ≤ 1048576) (hS : SetsAt w ps pb zb n s) (hx : x < n) :
    Calls Yasv.prog 17 #[.pointer (some ⟨ps, 0, none⟩), .int .i64 (x : Nat)] w fun e w' => e = .returned (.bool true) ∧ ∃ s' : St, s'.R = s.R ∧ s'.c = s.c ∧ Inv n s' ∧ SetsAt w' ps pb zb n s' ∧ Within (three ps pb zb) w w' := by
  have h0 := hS.c0
  have AI := hI.forest
  have AP : Aside (∀ i, i < n → w.cell? ⟨pb, i, none⟩ = some (.int .i64 (s.P i : Nat))) := hS.cp
  have HS : Aside (SetsAt w ps pb zb n s) := hS
  have HI : Aside (Inv n s) := hI
  have hrx := AI.rlt x hx
  clear hS hI
  go_enter Yasv.func17, Yasv.ntmps17
  go_wp2_with fail
  refine (find_in ps pb n x s.P s.Z s.R _ AI hx hn h0 AP.out).mono ?_
  rintro e w' ⟨rfl, rfl⟩
  clear AP AI
  go_wp2_with fail
  go_loopg [1] (n - s.Z x) (fun g v wr => ∃ (y : Nat) (t : St), y < n ∧ v = .int .i64 (y : Nat) ∧ n - t.Z y ≤ g ∧ t.R y = s.R x ∧ t.R = s.R ∧ t.c = s.c ∧ Inv n t ∧ SetsAt wr ps pb zb n t ∧ Within (three ps pb zb) w' wr)
  case atStart => exact ⟨x, s, hx, rfl, Nat.le_refl _, rfl, rfl, rfl, HI.out, HS.out, Within.refl _ _⟩
  case round =>
    obtain ⟨y, t, hy, rfl, hg, hR, hTR, hTc, hTI, hTS, hTW⟩ := hrel
    have k0 := hTS.c0
    have kp := hTS.cp y hy
    have kf := hTS.pr.frozen y
    have m1 := hTS.n1
    have TF := hTI.forest
    have B : Aside (t.R y = s.R x ∧ t.R = s.R ∧ t.c = s.c ∧ Inv n t ∧ SetsAt wr ps pb zb n t ∧ Within (three ps pb zb) w' wr) := ⟨hR, hTR, hTc, hTI, hTS, hTW⟩
    have hp := TF.plt y hy
    clear hR hTR hTc hTI hTS hTW h0 HS HI
    by_cases e : t.P y = s.R x
    · have e' : ((t.P y : Int) != (s.R x : Int)) = false := by rw [bne_eq_false_iff_eq]; omega
      have E : Aside (t.P y = s.R x) := e
      clear e
      go_wp2
      go_ret
      obtain ⟨hR, hTR, hTc, hTI, hTS, hTW⟩ := B.out
      exact ⟨rfl, t, hTR, hTc, hTI, hTS, hTW⟩
    · have e' : ((t.P y : Int) != (s.R x : Int)) = true := by rw [bne_iff_ne]; omega
      go_wp2
      obtain ⟨hR, hTR, hTc, hTI, hTS, hTW⟩ := B.out
      have hpy : t.P y ≠ t.R y := by rw [hR]; exact e
      have hu := TF.up y hy (TF.ne hy hpy)
      have hz := TF.zle _ hp
      go_roundg (n - t.Z (t.P y))
      case measure => omega
      case rel =>
        refine ⟨t.P y, t.lift y, hp, rfl, Nat.le_refl _, ?_, hTR, hTc, inv_lift hTI hy hpy, ?_, hTW.setCell (.inr (.inl rfl)) _⟩
        · show t.R (t.P y) = s.R x
          rw [TF.step y hy, hR]
        · have := hTS.setP y (s.R x)
          refine this.same ?_ rfl rfl
          show (fun i => if i = y then t.R y else t.P i) = fun j => if j = y then s.R x else t.P j
          rw [hR]

end Go.Proofs.Ymwhas
