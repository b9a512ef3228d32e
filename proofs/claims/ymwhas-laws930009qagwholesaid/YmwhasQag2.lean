/-
  THE WALK of LawS930009QAGWhole, mode 2.
-/
import Derived.Test.YmwhasQag
namespace Go.Proofs.Ymwhas.Qag
open Go.RowKit
set_option linter.unusedVariables false

set_option maxRecDepth 100000 in
set_option maxHeartbeats 4000000 in
theorem walk2 (N M : Nat) (ao1 ao2 : Option Addr) (len1 cap1 len2 cap2 b1 off1 b2 off2 : Nat) (A1 B1 A2 B2 : Nat → Nat) (w : World) (hN : N ≤ 65535) (hM : M ≤ 255) (hmode : (M : Int) % 4 = 2) (hl1 : len1 ≤ 1024) (hl2 : len2 ≤ 1024)
    (hU1 : Ops2 w w.heap.size .u16 .u16 ao1 len1 b1 off1 A1 B1) (hU2 : Ops2 w w.heap.size .u16 .u16 ao2 len2 b2 off2 A2 B2) :
    Calls Yasv.prog 9 #[.int .u16 (N : Nat), .int .u8 (M : Nat), .slice ao1 len1 cap1, .slice ao2 len2 cap2] w fun e w' => e = .returned (.bool true) ∧ Below w.heap.size w w' := by
  have hd1 : decide (1024 < (len1 : Int)) = false := decide_eq_false (by omega)
  have hd2 : decide (1024 < (len2 : Int)) = false := decide_eq_false (by omega)
  have HU : Aside (Ops2 w w.heap.size .u16 .u16 ao1 len1 b1 off1 A1 B1 ∧ Ops2 w w.heap.size .u16 .u16 ao2 len2 b2 off2 A2 B2) := ⟨hU1, hU2⟩
  clear hU1 hU2
  go_enter Yasv.func9, Yasv.ntmps9
  go_wp2_with fail
  rw [show ((N : Int) % 400) = ((N % 400 : Nat) : Int) from by omega]
  have hn : N % 400 < 400 := Nat.mod_lt _ (by omega)
  generalize N % 400 = n at hn ⊢
  refine (new_any n _ (by omega)).mono ?_
  rintro e w1 ⟨ps, pb, zb, rfl, hps, hpb, hzb, hS, hW⟩
  have z1 := hW.size
  have u1 := hS.st.lt
  have u2 := hS.pr.lt
  have u3 := hS.zr.lt
  have H1 : Aside (SetsAt w1 ps pb zb n (fresh n) ∧ Within (fun _ => False) w w1) := ⟨hS, hW⟩
  clear hS hW
  go_wp2_with fail
  refine (qag_fresh n _ (by omega)).mono ?_
  rintro e w2 ⟨lb, rfl, hlb, hL, hW⟩
  have z2 := hW.size
  have u4 := hL.lt
  have H2 : Aside (SetsAt w2 ps pb zb n (fresh n) ∧ RowN w2 lb n (fun i => i) ∧ Within (fun _ => False) w w2) := ⟨H1.out.1.within hW (fun _ _ e => e), hL, H1.out.2.trans hW⟩
  clear hL hW H1
  have hn3 : ¬ three ps pb zb lb := by rintro (e | e | e) <;> omega
  go_wp2_with fail
  refine (apply_any ps pb zb lb n len1 cap1 w.heap.size ao1 b1 off1 A1 B1 (fresh n) (fun i => i) _ (by omega) hl1 (by omega) (by omega) (by omega) (by omega) (by omega) hn3 (HU.out.1.below (H2.out.2.2.below (Nat.le_refl _) (fun _ e => e.elim))) (inv_fresh n) (labOk_fresh n) H2.out.2.1 H2.out.1).mono ?_
  rintro e w3 ⟨rfl, s1, f1, hI1, hLab1, hL1, hT1, hW1⟩
  have z3 := hW1.size
  have hbl3 : Below w.heap.size w w3 := (H2.out.2.2.below (Nat.le_refl _) (fun _ e => e.elim)).trans (hW1.below (by omega) (by rintro q ((e | e | e) | e) <;> omega))
  have H3 : Aside (Inv n s1 ∧ LabOk n f1 s1.R ∧ RowN w3 lb n f1 ∧ SetsAt w3 ps pb zb n s1 ∧ Below w.heap.size w w3) := ⟨hI1, hLab1, hL1, hT1, hbl3⟩
  clear H2 hI1 hLab1 hL1 hT1 hW1 hbl3
  go_wp2_with fail
  rw [show ((n : Int) + 1) = ((n + 1 : Nat) : Int) from by omega]
  refine (new_any (n + 1) _ (by omega)).mono ?_
  rintro e w4 ⟨qs, qb, yb, rfl, hqs, hqb, hyb, hS, hW⟩
  have z4 := hW.size
  have v1 := hS.st.lt
  have v2 := hS.pr.lt
  have v3 := hS.zr.lt
  have H4 : Aside (SetsAt w4 qs qb yb (n + 1) (fresh (n + 1)) ∧ Within (fun _ => False) w3 w4) := ⟨hS, hW⟩
  clear hS hW
  go_wp2_with fail
  refine (qag_fresh (n + 1) _ (by omega)).mono ?_
  rintro e w5 ⟨mb, rfl, hmb, hL, hW⟩
  have z5 := hW.size
  have v4 := hL.lt
  have hm3 : ¬ three qs qb yb mb := by rintro (e | e | e) <;> omega
  have H5 : Aside (SetsAt w5 qs qb yb (n + 1) (fresh (n + 1)) ∧ RowN w5 mb (n + 1) (fun i => i) ∧ Within (four qs qb yb mb) w3 w5 ∧ Below w.heap.size w w5) := ⟨H4.out.1.within hW (fun _ _ e => e), hL, (H4.out.2.trans hW).mono (fun _ e => e.elim), H3.out.2.2.2.2.trans ((H4.out.2.trans hW).below (by have := H3.out.2.2.2.2.size; omega) (fun _ e => e.elim))⟩
  clear hL hW H4
  go_wp2_with fail
  refine (apply_any qs qb yb mb (n + 1) len2 cap2 w.heap.size ao2 b2 off2 A2 B2 (fresh (n + 1)) (fun i => i) _ (by omega) hl2 (by omega) (by omega) (by omega) (by omega) (by omega) hm3 (HU.out.2.below H5.out.2.2.2) (inv_fresh (n + 1)) (labOk_fresh (n + 1)) H5.out.2.1 H5.out.1).mono ?_
  rintro e w7 ⟨rfl, s2, f2, hI2, hLab2, hL2, hT2, hW2⟩
  have hWW : Within (four qs qb yb mb) w3 w7 := H5.out.2.2.1.trans hW2
  have hS1 : SetsAt w7 ps pb zb n s1 := H3.out.2.2.2.1.within hWW (by rintro q (e | e | e) ((e2 | e2 | e2) | e2) <;> omega)
  have hR1 : RowN w7 lb n f1 := H3.out.2.2.1.within hWW (by rintro ((e2 | e2 | e2) | e2) <;> omega)
  have B0 : Aside (Two w w7 w.heap.size n (n + 1) ps pb zb lb qs qb yb mb s1 s2 f1 f2) := ⟨H3.out.1, H3.out.2.1, hR1, hS1, hI2, hLab2, hL2, hT2, H5.out.2.2.2.trans (hW2.below (by have := H5.out.2.2.2.size; omega) (by rintro q ((e | e | e) | e) <;> omega))⟩
  have k0 := hS1.c0
  clear hI2 hLab2 hL2 hT2 hW2 hWW hS1 hR1 H3 H5 HU
  go_wp2_with fail
  refine (clone_any pb n n (fun i => (s1.P i : Int)) _ (by omega) (Cells.of_row B0.out.s1.pr)).mono ?_
  rintro e wa ⟨g1, cp1, rfl, hg1, hC1, hWa⟩
  have Ba : Aside (Two w wa w.heap.size n (n + 1) ps pb zb lb qs qb yb mb s1 s2 f1 f2 ∧ Cells wa g1 n (fun i => (s1.P i : Int))) := ⟨B0.out.next hWa (Nat.le_refl _), hC1⟩
  have k1 := Ba.out.1.s1.c1
  clear hC1 hWa B0 k0
  go_wp2_with fail
  refine (clone_any zb n n (fun i => (s1.Z i : Int)) _ (by omega) (Cells.of_row Ba.out.1.s1.zr)).mono ?_
  rintro e wb ⟨g2, cp2, rfl, hg2, hC2, hWb⟩
  have Bb : Aside (Two w wb w.heap.size n (n + 1) ps pb zb lb qs qb yb mb s1 s2 f1 f2 ∧ Cells wb g1 n (fun i => (s1.P i : Int)) ∧ Cells wb g2 n (fun i => (s1.Z i : Int))) := ⟨Ba.out.1.next hWb (Nat.le_refl _), Ba.out.2.within hWb (fun e => e), hC2⟩
  have k2 := Bb.out.1.s1.c2
  have j0 := Bb.out.1.s2.c0
  clear hC2 hWb Ba k1
  go_wp2_with fail
  refine (clone_any qb (n + 1) (n + 1) (fun i => (s2.P i : Int)) _ (by omega) (Cells.of_row Bb.out.1.s2.pr)).mono ?_
  rintro e wc ⟨g3, cp3, rfl, hg3, hC3, hWc⟩
  have Bc : Aside (Two w wc w.heap.size n (n + 1) ps pb zb lb qs qb yb mb s1 s2 f1 f2 ∧ Cells wc g1 n (fun i => (s1.P i : Int)) ∧ Cells wc g2 n (fun i => (s1.Z i : Int)) ∧ Cells wc g3 (n + 1) (fun i => (s2.P i : Int))) := ⟨Bb.out.1.next hWc (Nat.le_refl _), Bb.out.2.1.within hWc (fun e => e), Bb.out.2.2.within hWc (fun e => e), hC3⟩
  have j1 := Bc.out.1.s2.c1
  clear hC3 hWc Bb k2 j0
  go_wp2_with fail
  refine (clone_any yb (n + 1) (n + 1) (fun i => (s2.Z i : Int)) _ (by omega) (Cells.of_row Bc.out.1.s2.zr)).mono ?_
  rintro e wd ⟨g4, cp4, rfl, hg4, hC4, hWd⟩
  have Bd : Aside (Two w wd w.heap.size n (n + 1) ps pb zb lb qs qb yb mb s1 s2 f1 f2 ∧ Cells wd g1 n (fun i => (s1.P i : Int)) ∧ Cells wd g2 n (fun i => (s1.Z i : Int)) ∧ Cells wd g3 (n + 1) (fun i => (s2.P i : Int)) ∧ Cells wd g4 (n + 1) (fun i => (s2.Z i : Int))) := ⟨Bc.out.1.next hWd (Nat.le_refl _), Bc.out.2.1.within hWd (fun e => e), Bc.out.2.2.1.within hWd (fun e => e), Bc.out.2.2.2.within hWd (fun e => e), hC4⟩
  have k0 := Bd.out.1.s1.c0
  have k1 := Bd.out.1.s1.c1
  have k2 := Bd.out.1.s1.c2
  have j0 := Bd.out.1.s2.c0
  have j1 := Bd.out.1.s2.c1
  have j2 := Bd.out.1.s2.c2
  clear hC4 hWd Bc
  go_wp2_with fail
  refine (refines_ne ps pb zb qs qb yb n (n + 1) s1 s2 _ (by omega) (by omega) (by omega) Bd.out.1.s1 Bd.out.1.s2).mono ?_
  rintro e we ⟨rfl, qr, rfl⟩
  have hnn : ((n : Int) == ((n + 1 : Nat) : Int)) = false := by rw [beq_eq_false_iff_ne]; omega
  go_wp2_with fail
  refine (equal_true g1 pb n cp1 n (fun i => (s1.P i : Int)) _ (by omega) (Bd.out.2.1.drewN _) ((Cells.of_row Bd.out.1.s1.pr).drewN _)).mono ?_
  rintro e we ⟨rfl, q1, rfl⟩
  go_wp2_with fail
  refine (equal_true g2 zb n cp2 n (fun i => (s1.Z i : Int)) _ (by omega) (Bd.out.2.2.1.drewN _) ((Cells.of_row Bd.out.1.s1.zr).drewN _)).mono ?_
  rintro e we ⟨rfl, q2, rfl⟩
  go_wp2_with fail
  refine (equal_true g3 qb (n + 1) cp3 (n + 1) (fun i => (s2.P i : Int)) _ (by omega) (Bd.out.2.2.2.1.drewN _) ((Cells.of_row Bd.out.1.s2.pr).drewN _)).mono ?_
  rintro e we ⟨rfl, q3, rfl⟩
  go_wp2_with fail
  refine (equal_true g4 yb (n + 1) cp4 (n + 1) (fun i => (s2.Z i : Int)) _ (by omega) (Bd.out.2.2.2.2.drewN _) ((Cells.of_row Bd.out.1.s2.zr).drewN _)).mono ?_
  rintro e we ⟨rfl, q4, rfl⟩
  go_wp2
  go_ret
  exact ⟨rfl, below_draws Bd.out.1.bl _⟩

end Go.Proofs.Ymwhas.Qag
