/-
  THE WALK of (*Sets).Union.
-/
import Derived.Test.YmwhasMem
import Derived.Deep.QuietTactic
import Derived.BigQuiet
namespace Go.Proofs.Ymwhas
open Go.RowKit
set_option linter.unusedVariables false

/-- An argument is no element: nothing happens. -/
theorem union_out (ps pb zb n : Nat) (s : St) (a b : Int) (w : World) (hI : Inv n s) (hn : n ≤ 1048576) (hS : SetsAt w ps pb zb n s) (hab : ¬ (0 ≤ a ∧ a < n ∧ 0 ≤ b ∧ b < n)) :
    Calls Yasv.prog 12 #[.pointer (some ⟨ps, 0, none⟩), .int .i64 a, .int .i64 b] w fun e w' => e = .returned (.int .i64 2) ∧ w' = w := by
  have h0 := hS.c0
  have AI := hI.forest
  have AP : Aside (∀ i, i < n → w.cell? ⟨pb, i, none⟩ = some (.int .i64 (s.P i : Nat))) := hS.cp
  by_cases ha : 0 ≤ a ∧ a < n
  · have hb : b < 0 ∨ (n : Int) ≤ b := by omega
    obtain ⟨x, rfl⟩ := Int.eq_ofNat_of_zero_le ha.1
    have hx : x < n := by omega
    clear hab ha hI hS
    go_enter Yasv.func12, Yasv.ntmps12
    go_wp2_with fail
    refine (find_in ps pb n x s.P s.Z s.R _ AI hx hn h0 AP.out).mono ?_
    rintro e w' ⟨rfl, rfl⟩
    go_wp2_with fail
    refine (find_out ps pb n b _ hb hn h0).mono ?_
    rintro e w' ⟨rfl, rfl⟩
    go_wp2
    go_ret
    exact ⟨rfl, rfl⟩
  · have ha' : a < 0 ∨ (n : Int) ≤ a := by omega
    by_cases hb : 0 ≤ b ∧ b < n
    · obtain ⟨y, rfl⟩ := Int.eq_ofNat_of_zero_le hb.1
      have hy : y < n := by omega
      clear hab ha hI hS
      go_enter Yasv.func12, Yasv.ntmps12
      go_wp2_with fail
      refine (find_out ps pb n a _ ha' hn h0).mono ?_
      rintro e w' ⟨rfl, rfl⟩
      go_wp2_with fail
      refine (find_in ps pb n y s.P s.Z s.R _ AI hy hn h0 AP.out).mono ?_
      rintro e w' ⟨rfl, rfl⟩
      go_wp2
      go_ret
      exact ⟨rfl, rfl⟩
    · have hb' : b < 0 ∨ (n : Int) ≤ b := by omega
      clear hab ha hI hS hb
      go_enter Yasv.func12, Yasv.ntmps12
      go_wp2_with fail
      refine (find_out ps pb n a _ ha' hn h0).mono ?_
      rintro e w' ⟨rfl, rfl⟩
      go_wp2_with fail
      refine (find_out ps pb n b _ hb' hn h0).mono ?_
      rintro e w' ⟨rfl, rfl⟩
      go_wp2
      go_ret
      exact ⟨rfl, rfl⟩

/-- Joined already: nothing happens. -/
theorem union_same (ps pb zb n : Nat) (s : St) (x y : Nat) (w : World) (hI : Inv n s) (hn : n ≤ 1048576) (hS : SetsAt w ps pb zb n s) (hx : x < n) (hy : y < n) (hR : s.R x = s.R y) :
    Calls Yasv.prog 12 #[.pointer (some ⟨ps, 0, none⟩), .int .i64 (x : Nat), .int .i64 (y : Nat)] w fun e w' => e = .returned (.int .i64 1) ∧ w' = w := by
  have h0 := hS.c0
  have AI := hI.forest
  have AP : Aside (∀ i, i < n → w.cell? ⟨pb, i, none⟩ = some (.int .i64 (s.P i : Nat))) := hS.cp
  have AR : Aside (s.R x = s.R y) := hR
  clear hI hS hR
  go_enter Yasv.func12, Yasv.ntmps12
  go_wp2_with fail
  refine (find_in ps pb n x s.P s.Z s.R _ AI hx hn h0 AP.out).mono ?_
  rintro e w' ⟨rfl, rfl⟩
  go_wp2_with fail
  refine (find_in ps pb n y s.P s.Z s.R _ AI hy hn h0 AP.out).mono ?_
  rintro e w' ⟨rfl, rfl⟩
  rw [AR.out]
  go_wp2
  go_ret
  exact ⟨rfl, rfl⟩

/-- What the three stores leave. -/
theorem link_at {w : World} {ps pb zb n : Nat} {s : St} (h : SetsAt w ps pb zb n s) (ra rb k : Nat) (hc : 1 ≤ s.c) :
    SetsAt (((w.setCell ⟨pb, rb, none⟩ (.int .i64 (ra : Nat))).setCell ⟨zb, ra, none⟩ (.int .i64 ((s.Z ra : Int) + (s.Z rb : Int)))).setCell ⟨ps, 2, none⟩ (.int .i64 ((s.c : Int) - 1)) |>.drewN k) ps pb zb n (s.link ra rb) := by
  have e1 : ((s.Z ra : Int) + (s.Z rb : Int)) = ((s.Z ra + s.Z rb : Nat) : Int) := by omega
  have e2 : ((s.c : Int) - 1) = ((s.c - 1 : Nat) : Int) := by omega
  rw [e1, e2]
  exact ((((h.setP rb ra).setZ ra (s.Z ra + s.Z rb)).setC (s.c - 1)).drewN k).same rfl rfl rfl

set_option maxHeartbeats 800000 in
theorem union_keep (ps pb zb n : Nat) (s : St) (x y ra rb : Nat) (w : World) (hI : Inv n s) (hn : n ≤ 1048576) (hS : SetsAt w ps pb zb n s) (hx : x < n) (hy : y < n) (hRx : s.R x = ra) (hRy : s.R y = rb) (hR : ra ≠ rb) (hz : ¬ s.Z ra < s.Z rb) :
    Calls Yasv.prog 12 #[.pointer (some ⟨ps, 0, none⟩), .int .i64 (x : Nat), .int .i64 (y : Nat)] w fun e w' => e = .returned (.int .i64 0) ∧ SetsAt w' ps pb zb n (s.link ra rb) ∧ Within (three ps pb zb) w w' := by
  have h0 := hS.c0
  have h1 := hS.c1
  have h2 := hS.c2
  have AI := hI.forest
  have AP : Aside (∀ i, i < n → w.cell? ⟨pb, i, none⟩ = some (.int .i64 (s.P i : Nat))) := hS.cp
  have hc1 := hI.c_pos hx
  have hc2 := hI.c_le
  have hra : ra < n := by rw [← hRx]; exact AI.rlt x hx
  have hrb : rb < n := by rw [← hRy]; exact AI.rlt y hy
  have z1 := hS.cz _ hra
  have z2 := hS.cz _ hrb
  have p2 := hS.cp _ hrb
  have f1 := hS.pr.frozen rb
  have f2 := hS.zr.frozen ra
  have f3 := hS.st.frozen 2
  have m1 := hS.n1
  have m2 := hS.n2
  have m3 := hS.n3
  have hsum := hI.sum_le hra hrb (by rw [← hRx]; exact AI.fixd x hx) (by rw [← hRy]; exact AI.fixd y hy) hR
  have HS : Aside (SetsAt w ps pb zb n s) := hS
  have EX : Aside (s.R x = ra) := hRx
  have EY : Aside (s.R y = rb) := hRy
  have hne : ((ra : Int) == (rb : Int)) = false := by rw [beq_eq_false_iff_ne]; omega
  clear hI hS hRx hRy
  go_enter Yasv.func12, Yasv.ntmps12
  go_wp2_with fail
  refine (find_in ps pb n x s.P s.Z s.R _ AI hx hn h0 AP.out).mono ?_
  rintro e w' ⟨rfl, rfl⟩
  rw [EX.out]
  go_wp2_with fail
  refine (find_in ps pb n y s.P s.Z s.R _ AI hy hn h0 AP.out).mono ?_
  rintro e w' ⟨rfl, rfl⟩
  rw [EY.out]
  clear AP AI EX EY
  go_wp2
  go_region
  go_wp2
  go_region
  go_wp2
  go_ret
  exact ⟨rfl, link_at HS.out ra rb 2 hc1, ((((Within.refl _ _).setCell (.inr (.inl rfl)) _).setCell (.inr (.inr rfl)) _).setCell (.inl rfl) _).drew.drew⟩

set_option maxHeartbeats 800000 in
theorem union_swap (ps pb zb n : Nat) (s : St) (x y ra rb : Nat) (w : World) (hI : Inv n s) (hn : n ≤ 1048576) (hS : SetsAt w ps pb zb n s) (hx : x < n) (hy : y < n) (hRx : s.R x = ra) (hRy : s.R y = rb) (hR : ra ≠ rb) (hz : s.Z ra < s.Z rb) :
    Calls Yasv.prog 12 #[.pointer (some ⟨ps, 0, none⟩), .int .i64 (x : Nat), .int .i64 (y : Nat)] w fun e w' => e = .returned (.int .i64 0) ∧ SetsAt w' ps pb zb n (s.link rb ra) ∧ Within (three ps pb zb) w w' := by
  have h0 := hS.c0
  have h1 := hS.c1
  have h2 := hS.c2
  have AI := hI.forest
  have AP : Aside (∀ i, i < n → w.cell? ⟨pb, i, none⟩ = some (.int .i64 (s.P i : Nat))) := hS.cp
  have hc1 := hI.c_pos hx
  have hc2 := hI.c_le
  have hra : ra < n := by rw [← hRx]; exact AI.rlt x hx
  have hrb : rb < n := by rw [← hRy]; exact AI.rlt y hy
  have z1 := hS.cz _ hra
  have z2 := hS.cz _ hrb
  have p2 := hS.cp _ hra
  have f1 := hS.pr.frozen ra
  have f2 := hS.zr.frozen rb
  have f3 := hS.st.frozen 2
  have m1 := hS.n1
  have m2 := hS.n2
  have m3 := hS.n3
  have hsum := hI.sum_le hra hrb (by rw [← hRx]; exact AI.fixd x hx) (by rw [← hRy]; exact AI.fixd y hy) hR
  have HS : Aside (SetsAt w ps pb zb n s) := hS
  have EX : Aside (s.R x = ra) := hRx
  have EY : Aside (s.R y = rb) := hRy
  have hne : ((ra : Int) == (rb : Int)) = false := by rw [beq_eq_false_iff_ne]; omega
  clear hI hS hRx hRy
  go_enter Yasv.func12, Yasv.ntmps12
  go_wp2_with fail
  refine (find_in ps pb n x s.P s.Z s.R _ AI hx hn h0 AP.out).mono ?_
  rintro e w' ⟨rfl, rfl⟩
  rw [EX.out]
  go_wp2_with fail
  refine (find_in ps pb n y s.P s.Z s.R _ AI hy hn h0 AP.out).mono ?_
  rintro e w' ⟨rfl, rfl⟩
  rw [EY.out]
  clear AP AI EX EY
  go_wp2
  go_region
  go_wp2
  go_region
  go_wp2
  go_ret
  exact ⟨rfl, link_at HS.out rb ra 2 hc1, ((((Within.refl _ _).setCell (.inr (.inl rfl)) _).setCell (.inr (.inr rfl)) _).setCell (.inl rfl) _).drew.drew⟩

/-- UNION, at every two integers. -/
theorem union_any (ps pb zb n : Nat) (s : St) (a b : Int) (w : World) (hI : Inv n s) (hn : n ≤ 1048576) (hS : SetsAt w ps pb zb n s) :
    Calls Yasv.prog 12 #[.pointer (some ⟨ps, 0, none⟩), .int .i64 a, .int .i64 b] w fun e w' => e = .returned (.int .i64 (s.code n a b)) ∧ SetsAt w' ps pb zb n (s.union n a b) ∧ Within (three ps pb zb) w w' := by
  by_cases hab : 0 ≤ a ∧ a < n ∧ 0 ≤ b ∧ b < n
  · obtain ⟨ha0, ha, hb0, hb⟩ := hab
    obtain ⟨x, rfl⟩ := Int.eq_ofNat_of_zero_le ha0
    obtain ⟨y, rfl⟩ := Int.eq_ofNat_of_zero_le hb0
    have hx : x < n := by omega
    have hy : y < n := by omega
    have e1 : s.code n (x : Int) (y : Int) = if s.R x = s.R y then 1 else 0 := by unfold St.code; rw [if_pos ⟨ha0, ha, hb0, hb⟩, Int.toNat_natCast, Int.toNat_natCast]
    have e2 : s.union n (x : Int) (y : Int) = if s.R x = s.R y then s else s.merge (s.R x) (s.R y) := by unfold St.union; rw [if_pos ⟨ha0, ha, hb0, hb⟩, Int.toNat_natCast, Int.toNat_natCast]
    rw [e1, e2]
    by_cases hR : s.R x = s.R y
    · rw [if_pos hR, if_pos hR]
      refine (union_same ps pb zb n s x y w hI hn hS hx hy hR).mono ?_
      rintro e w' ⟨he, hw⟩
      subst hw
      exact ⟨he, hS, Within.refl _ _⟩
    · rw [if_neg hR, if_neg hR]
      unfold St.merge
      by_cases hz : s.Z (s.R x) < s.Z (s.R y)
      · rw [if_pos hz]
        exact union_swap ps pb zb n s x y _ _ w hI hn hS hx hy rfl rfl hR hz
      · rw [if_neg hz]
        exact union_keep ps pb zb n s x y _ _ w hI hn hS hx hy rfl rfl hR hz
  · have e1 : s.code n a b = 2 := by unfold St.code; rw [if_neg hab]
    have e2 : s.union n a b = s := by unfold St.union; rw [if_neg hab]
    rw [e1, e2]
    refine (union_out ps pb zb n s a b w hI hn hS hab).mono ?_
    rintro e w' ⟨he, hw⟩
    subst hw
    exact ⟨he, hS, Within.refl _ _⟩

end Go.Proofs.Ymwhas
