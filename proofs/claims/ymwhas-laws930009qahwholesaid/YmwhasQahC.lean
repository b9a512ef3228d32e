/-
  THE WALK of LawS930009QAHWhole, sameU false, two sizes.
-/
import Derived.Test.YmwhasQah
namespace Go.Proofs.Ymwhas.Qah
open Go.RowKit
set_option linter.unusedVariables false

set_option maxRecDepth 100000 in
set_option maxHeartbeats 8000000 in
theorem walkC (n m : Nat) (ao1 ao2 : Option Addr) (len1 cap1 len2 cap2 b1 off1 b2 off2 : Nat) (A1 A2 : Nat → Nat) (w : World) (hn : n ≤ 255) (hm : m ≤ 255) (hnm : n ≠ m) (hl1 : len1 ≤ 1024) (hl2 : len2 ≤ 1024)
    (hU1 : Ops1 w w.heap.size ao1 len1 b1 off1 A1) (hU2 : Ops1 w w.heap.size ao2 len2 b2 off2 A2) :
    Calls Yasv.prog 10 #[.int .u8 (n : Nat), .int .u8 (m : Nat), .bool false, .slice ao1 len1 cap1, .slice ao2 len2 cap2] w fun e w' => e = .returned (.bool true) ∧ Below w.heap.size w w' := by
  have hd1 : decide (1024 < (len1 : Int)) = false := decide_eq_false (by omega)
  have hd2 : decide (1024 < (len2 : Int)) = false := decide_eq_false (by omega)
  have HU : Aside (Ops1 w w.heap.size ao1 len1 b1 off1 A1 ∧ Ops1 w w.heap.size ao2 len2 b2 off2 A2) := ⟨hU1, hU2⟩
  clear hU1 hU2
  go_enter Yasv.func10, Yasv.ntmps10
  go_wp2_with fail
  refine (build_any n len1 cap1 w.heap.size b1 off1 ao1 A1 _ (by omega) hl1 (Nat.le_refl _) HU.out.1).mono ?_
  rintro e w1 ⟨ps, pb, zb, s, rfl, hps, hpb, hzb, hIs, hGs, hS, hW⟩
  have z1 := hW.size
  have u1 := hS.st.lt
  have u2 := hS.pr.lt
  have u3 := hS.zr.lt
  have H1 : Aside (Inv n s ∧ Gen n (Plus NoPair n A1 (takes n len1)) s.R ∧ SetsAt w1 ps pb zb n s ∧ Within (fun _ => False) w w1) := ⟨hIs, hGs, hS, hW⟩
  clear hIs hGs hS hW
  go_wp2_with fail
  refine (build_any m len2 cap2 w.heap.size b2 off2 ao2 A2 _ (by omega) hl2 (by omega) (HU.out.2.below (H1.out.2.2.2.below (Nat.le_refl _) (fun _ e => e.elim)))).mono ?_
  rintro e w2 ⟨qs, qb, yb, t, rfl, hqs, hqb, hyb, hIt, hGt, hT, hW⟩
  have z2 := hW.size
  have v1 := hT.st.lt
  have v2 := hT.pr.lt
  have v3 := hT.zr.lt
  have H2 : Aside (Inv n s ∧ Gen n (Plus NoPair n A1 (takes n len1)) s.R ∧ Inv m t ∧ Gen m (Plus NoPair m A2 (takes m len2)) t.R) := ⟨H1.out.1, H1.out.2.1, hIt, hGt⟩
  have B0 : Aside (SetsAt w2 ps pb zb n s ∧ SetsAt w2 qs qb yb m t ∧ Within (fun _ => False) w w2) := ⟨H1.out.2.2.1.within hW (fun _ _ e => e), hT, H1.out.2.2.2.trans hW⟩
  have k0 := B0.out.1.c0
  clear hIt hGt hT hW H1
  go_wp2_with fail
  refine (clone_any pb n n (fun i => (s.P i : Int)) _ (by omega) (Cells.of_row B0.out.1.pr)).mono ?_
  rintro e wa ⟨g1, cp1, rfl, hg1, hC1, hWa⟩
  have za := hWa.size
  have x1 := hC1.1
  have Ba : Aside (SetsAt wa ps pb zb n s ∧ SetsAt wa qs qb yb m t ∧ Within (fun _ => False) w wa ∧ Cells wa g1 n (fun i => (s.P i : Int))) := ⟨B0.out.1.within hWa (fun _ _ e => e), B0.out.2.1.within hWa (fun _ _ e => e), B0.out.2.2.trans hWa, hC1⟩
  have k1 := Ba.out.1.c1
  clear hC1 hWa B0 k0
  go_wp2_with fail
  refine (clone_any zb n n (fun i => (s.Z i : Int)) _ (by omega) (Cells.of_row Ba.out.1.zr)).mono ?_
  rintro e wb ⟨g2, cp2, rfl, hg2, hC2, hWb⟩
  have zb' := hWb.size
  have x2 := hC2.1
  have Bb : Aside (SetsAt wb ps pb zb n s ∧ SetsAt wb qs qb yb m t ∧ Within (fun _ => False) w wb ∧ Cells wb g1 n (fun i => (s.P i : Int)) ∧ Cells wb g2 n (fun i => (s.Z i : Int))) := ⟨Ba.out.1.within hWb (fun _ _ e => e), Ba.out.2.1.within hWb (fun _ _ e => e), Ba.out.2.2.1.trans hWb, Ba.out.2.2.2.within hWb (fun e => e), hC2⟩
  have k2 := Bb.out.1.c2
  have j0 := Bb.out.2.1.c0
  clear hC2 hWb Ba k1
  go_wp2_with fail
  refine (clone_any qb m m (fun i => (t.P i : Int)) _ (by omega) (Cells.of_row Bb.out.2.1.pr)).mono ?_
  rintro e wc ⟨g3, cp3, rfl, hg3, hC3, hWc⟩
  have zc := hWc.size
  have x3 := hC3.1
  have Bc : Aside (SetsAt wc ps pb zb n s ∧ SetsAt wc qs qb yb m t ∧ Within (fun _ => False) w wc ∧ Cells wc g1 n (fun i => (s.P i : Int)) ∧ Cells wc g2 n (fun i => (s.Z i : Int)) ∧ Cells wc g3 m (fun i => (t.P i : Int))) := ⟨Bb.out.1.within hWc (fun _ _ e => e), Bb.out.2.1.within hWc (fun _ _ e => e), Bb.out.2.2.1.trans hWc, Bb.out.2.2.2.1.within hWc (fun e => e), Bb.out.2.2.2.2.within hWc (fun e => e), hC3⟩
  have j1 := Bc.out.2.1.c1
  clear hC3 hWc Bb k2 j0
  go_wp2_with fail
  refine (clone_any yb m m (fun i => (t.Z i : Int)) _ (by omega) (Cells.of_row Bc.out.2.1.zr)).mono ?_
  rintro e wd ⟨g4, cp4, rfl, hg4, hC4, hWd⟩
  have zd := hWd.size
  have x4 := hC4.1
  obtain ⟨BB, EB⟩ : ∃ BB, Aside (wd.heap.size = BB) := ⟨_, rfl⟩
  have eB : wd.heap.size ≤ BB ∧ BB ≤ wd.heap.size := by rw [EB.out]; exact ⟨Nat.le_refl _, Nat.le_refl _⟩
  have Bd : Aside (All w wd BB n m ps pb zb qs qb yb g1 g2 g3 g4 s t) := ⟨Bc.out.1.within hWd (fun _ _ e => e), Bc.out.2.1.within hWd (fun _ _ e => e), Bc.out.2.2.2.1.within hWd (fun e => e), Bc.out.2.2.2.2.1.within hWd (fun e => e), Bc.out.2.2.2.2.2.within hWd (fun e => e), hC4, (Bc.out.2.2.1.trans hWd).below (Nat.le_refl _) (fun _ e => e.elim), ⟨by omega, by omega, by omega⟩, ⟨by omega, by omega, by omega⟩, ⟨by omega, by omega, by omega, by omega⟩, by omega⟩
  have j2 := Bd.out.ht.c2
  clear hC4 hWd Bc j1
  go_wp2_with fail
  refine (join_ne ps pb zb qs qb yb n m s t _ (by omega) (by omega) hnm Bd.out.hs Bd.out.ht).mono ?_
  rintro e we ⟨rfl, qj, rfl⟩
  have k0 := Bd.out.hs.c0
  have k1 := Bd.out.hs.c1
  have k2 := Bd.out.hs.c2
  have j0 := Bd.out.ht.c0
  have j1 := Bd.out.ht.c1
  have j2 := Bd.out.ht.c2
  have hnb : ((n : Int) != (m : Int)) = true := by rw [bne_iff_ne]; omega
  go_wp2_with fail
  refine (equal_true pb g1 n n cp1 (fun i => (s.P i : Int)) _ (by omega) ((Cells.of_row Bd.out.hs.pr).drewN _) (Bd.out.c1.drewN _)).mono ?_
  rintro e wf ⟨rfl, q1, rfl⟩
  go_wp2_with fail
  refine (equal_true zb g2 n n cp2 (fun i => (s.Z i : Int)) _ (by omega) ((Cells.of_row Bd.out.hs.zr).drewN _) (Bd.out.c2.drewN _)).mono ?_
  rintro e wf ⟨rfl, q2, rfl⟩
  go_wp2_with fail
  refine (equal_true qb g3 m m cp3 (fun i => (t.P i : Int)) _ (by omega) ((Cells.of_row Bd.out.ht.pr).drewN _) (Bd.out.c3.drewN _)).mono ?_
  rintro e wf ⟨rfl, q3, rfl⟩
  go_wp2_with fail
  refine (equal_true yb g4 m m cp4 (fun i => (t.Z i : Int)) _ (by omega) ((Cells.of_row Bd.out.ht.zr).drewN _) (Bd.out.c4.drewN _)).mono ?_
  rintro e wf ⟨rfl, q4, rfl⟩
  go_wp2
  go_ret
  exact ⟨rfl, below_draws Bd.out.bl _⟩

end Go.Proofs.Ymwhas.Qah
