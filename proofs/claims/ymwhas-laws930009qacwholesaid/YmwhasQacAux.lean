/-
  THE WALKS of QAC's join, of (*Sets).Same.
-/
import Derived.Test.YmwhasRowN
namespace Go.Proofs.Ymwhas
open Go.RowKit
set_option linter.unusedVariables false

set_option maxHeartbeats 1000000 in
theorem qac_join (lb m x y : Nat) (f : Nat → Nat) (w : World) (hm : m ≤ 1048576) (hx : x < m) (hy : y < m) (hL : RowN w lb m f) :
    Calls Yasv.prog 16 #[.slice (some ⟨lb, 0, none⟩) m m, .int .i64 (x : Nat), .int .i64 (y : Nat)] w fun e w' => e = .returned (.tuple #[]) ∧ RowN w' lb m (relab f (f x) (f y)) ∧ Within (fun q => q = lb) w w' := by
  have cx := hL.cell hx
  have cy := hL.cell hy
  have HL : Aside (RowN w lb m f) := hL
  clear hL
  by_cases e : f x = f y
  · have E : Aside (f x = f y) := e
    rw [e] at cx
    clear e
    go_enter Yasv.func16, Yasv.ntmps16
    go_wp2
    refine bodyPost_ret (results_none rfl _ _ _) rfl ?_
    refine ⟨rfl, HL.out.congr (fun i _ => ?_), Within.refl _ _⟩
    unfold relab
    split
    · rename_i h; rw [h, E.out]
    · rfl
  · have hfne : ((f x : Int) == (f y : Int)) = false := by rw [beq_eq_false_iff_ne]; omega
    clear e
    go_enter Yasv.func16, Yasv.ntmps16
    go_wp2
    go_loopg [8] m (fun g v wy => ∃ i : Nat, i ≤ m ∧ m - i ≤ g ∧ v = .int .i64 (i : Nat) ∧ RowN wy lb m (turnTo f (f x) (f y) i) ∧ Within (fun q => q = lb) w wy)
    case atStart => exact ⟨0, Nat.zero_le _, Nat.le_refl _, rfl, turn_start HL.out, Within.refl _ _⟩
    case round =>
      obtain ⟨i, hi, hgi, rfl, hL, hW⟩ := hrel
      have Bi : Aside (RowN wr lb m (turnTo f (f x) (f y) i) ∧ Within (fun q => q = lb) w wr) := ⟨hL, hW⟩
      clear hW cx cy
      by_cases hil : i < m
      · have kc := hL.cell hil
        rw [turn_at] at kc
        have kf := hL.frozen i
        clear hL
        by_cases e : f i = f y
        · have e' : ((f i : Int) == (f y : Int)) = true := by rw [beq_iff_eq]; omega
          have E : Aside (f i = f y) := e
          clear e
          go_wp2
          go_roundg (m - (i + 1))
          case measure => omega
          case rel => exact ⟨i + 1, by omega, by omega, by go_num, turn_hit Bi.out.1 E.out, Bi.out.2.setCell rfl _⟩
        · have e' : ((f i : Int) == (f y : Int)) = false := by rw [beq_eq_false_iff_ne]; omega
          have E : Aside (f i ≠ f y) := e
          clear e
          go_wp2
          go_roundg (m - (i + 1))
          case measure => omega
          case rel => exact ⟨i + 1, by omega, by omega, by go_num, turn_miss Bi.out.1 E.out, Bi.out.2⟩
      · clear hL
        go_wp2
        go_end0
        exact ⟨rfl, turn_end Bi.out.1 (by omega), Bi.out.2⟩

set_option maxHeartbeats 400000 in
theorem same_in (ps pb zb n : Nat) (s : St) (x y : Nat) (w : World) (hI : Inv n s) (hn : n ≤ 1048576) (hS : SetsAt w ps pb zb n s) (hx : x < n) (hy : y < n) :
    Calls Yasv.prog 18 #[.pointer (some ⟨ps, 0, none⟩), .int .i64 (x : Nat), .int .i64 (y : Nat)] w fun e w' => e = .returned (.tuple #[.bool ((s.R x : Int) == (s.R y : Int)), .bool true]) ∧ w' = w := by
  have h0 := hS.c0
  have AI := hI.forest
  have AP : Aside (∀ i, i < n → w.cell? ⟨pb, i, none⟩ = some (.int .i64 (s.P i : Nat))) := hS.cp
  clear hI hS
  go_enter Yasv.func18, Yasv.ntmps18
  go_wp2_with fail
  refine (find_in ps pb n x s.P s.Z s.R _ AI hx hn h0 AP.out).mono ?_
  rintro e w' ⟨rfl, rfl⟩
  go_wp2_with fail
  refine (find_in ps pb n y s.P s.Z s.R _ AI hy hn h0 AP.out).mono ?_
  rintro e w' ⟨rfl, rfl⟩
  go_wp2
  go_ret2
  exact ⟨rfl, rfl⟩

set_option maxHeartbeats 400000 in
theorem same_out (ps pb zb n : Nat) (s : St) (a b : Int) (w : World) (hI : Inv n s) (hn : n ≤ 1048576) (hS : SetsAt w ps pb zb n s) (hab : ¬ (0 ≤ a ∧ a < n ∧ 0 ≤ b ∧ b < n)) :
    Calls Yasv.prog 18 #[.pointer (some ⟨ps, 0, none⟩), .int .i64 a, .int .i64 b] w fun e w' => e = .returned (.tuple #[.bool false, .bool false]) ∧ w' = w := by
  have h0 := hS.c0
  have AI := hI.forest
  have AP : Aside (∀ i, i < n → w.cell? ⟨pb, i, none⟩ = some (.int .i64 (s.P i : Nat))) := hS.cp
  by_cases ha : 0 ≤ a ∧ a < n
  · have hb : b < 0 ∨ (n : Int) ≤ b := by omega
    obtain ⟨x, rfl⟩ := Int.eq_ofNat_of_zero_le ha.1
    have hx : x < n := by omega
    clear hab ha hI hS
    go_enter Yasv.func18, Yasv.ntmps18
    go_wp2_with fail
    refine (find_in ps pb n x s.P s.Z s.R _ AI hx hn h0 AP.out).mono ?_
    rintro e w' ⟨rfl, rfl⟩
    go_wp2_with fail
    refine (find_out ps pb n b _ hb hn h0).mono ?_
    rintro e w' ⟨rfl, rfl⟩
    go_wp2
    go_ret2
    exact ⟨rfl, rfl⟩
  · have ha' : a < 0 ∨ (n : Int) ≤ a := by omega
    by_cases hb : 0 ≤ b ∧ b < n
    · obtain ⟨y, rfl⟩ := Int.eq_ofNat_of_zero_le hb.1
      have hy : y < n := by omega
      clear hab ha hI hS
      go_enter Yasv.func18, Yasv.ntmps18
      go_wp2_with fail
      refine (find_out ps pb n a _ ha' hn h0).mono ?_
      rintro e w' ⟨rfl, rfl⟩
      go_wp2_with fail
      refine (find_in ps pb n y s.P s.Z s.R _ AI hy hn h0 AP.out).mono ?_
      rintro e w' ⟨rfl, rfl⟩
      go_wp2
      go_ret2
      exact ⟨rfl, rfl⟩
    · have hb' : b < 0 ∨ (n : Int) ≤ b := by omega
      clear hab ha hI hS hb
      go_enter Yasv.func18, Yasv.ntmps18
      go_wp2_with fail
      refine (find_out ps pb n a _ ha' hn h0).mono ?_
      rintro e w' ⟨rfl, rfl⟩
      go_wp2_with fail
      refine (find_out ps pb n b _ hb' hn h0).mono ?_
      rintro e w' ⟨rfl, rfl⟩
      go_wp2
      go_ret2
      exact ⟨rfl, rfl⟩

end Go.Proofs.Ymwhas
