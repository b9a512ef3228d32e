/-
  THE WALK of LawS930009QAAWhole.
-/
import Derived.Test.YmwhasUnion
import Derived.Test.YmwhasNew
import Derived.Test.YmwhasSlices
import Derived.Test.YmwhasRowN
namespace Go.Proofs.Ymwhas.Qaa
open Go.RowKit
set_option linter.unusedVariables false

set_option maxRecDepth 100000 in
set_option maxHeartbeats 1000000 in
theorem walk_long (N : Nat) (ao : Option Addr) (len cap : Nat) (w : World) (hl : 1024 < len) (hm : len ≤ 9223372036854775807) :
    Calls Yasv.prog 3 #[.int .u8 (N : Nat), .slice ao len cap] w fun e w' => e = .returned (.bool true) ∧ Below w.heap.size w w' := by
  go_enter Yasv.func3, Yasv.ntmps3
  go_wp2
  go_ret
  exact ⟨rfl, Below.refl _ _⟩

set_option maxRecDepth 100000 in
set_option maxHeartbeats 1000000 in
theorem walk_core (N b off len cap : Nat) (A B : Nat → Nat) (w : World) (hN : N ≤ 255) (hl : len ≤ 1024) (hb : b < w.heap.size)
    (hA : ∀ i, i < len → w.cell? ⟨b, off + i * 2, none⟩ = some (.int .u8 (A i : Nat)) ∧ A i ≤ 255) (hB : ∀ i, i < len → w.cell? ⟨b, off + i * 2 + 1, none⟩ = some (.int .u8 (B i : Nat)) ∧ B i ≤ 255) :
    Calls Yasv.prog 3 #[.int .u8 (N : Nat), .slice (some ⟨b, off, none⟩) len cap] w fun e w' => e = .returned (.bool true) ∧ Below w.heap.size w w' := by
  have HA : Aside (∀ i, i < len → w.cell? ⟨b, off + i * 2, none⟩ = some (.int .u8 (A i : Nat)) ∧ A i ≤ 255) := hA
  have HB : Aside (∀ i, i < len → w.cell? ⟨b, off + i * 2 + 1, none⟩ = some (.int .u8 (B i : Nat)) ∧ B i ≤ 255) := hB
  clear hA hB
  have hd : decide (1024 < (len : Int)) = false := decide_eq_false (by omega)
  go_enter Yasv.func3, Yasv.ntmps3
  go_wp2_with fail
  rw [show ((N : Int) % 64) = ((N % 64 : Nat) : Int) from by omega]
  have hm : N % 64 < 64 := Nat.mod_lt _ (by omega)
  generalize N % 64 = m at hm ⊢
  refine (new_any m _ (by omega)).mono ?_
  rintro e w1 ⟨ps, pb, zb, rfl, hps, hpb, hzb, hS, hW⟩
  have hmk := run_make_row' (P := Yasv.prog) 26 3 (.int .i64 0) 8 Yasv.underlying26 Yasv.info3 rfl .i64 .i64 m (by omega) (by omega)
  have HS : Aside (SetsAt w1 ps pb zb m (fresh m) ∧ Within (fun _ => False) w w1) := ⟨hS, hW⟩
  clear hS hW
  go_wp2
  have hlp : w1.heap.size ≠ ps := by have := HS.out.1.st.lt; omega
  have hlq : w1.heap.size ≠ pb := by have := HS.out.1.pr.lt; omega
  have hlz : w1.heap.size ≠ zb := by have := HS.out.1.zr.lt; omega
  have hl1 : w.heap.size ≤ w1.heap.size := HS.out.2.size
  have hn3 : ¬ three ps pb zb w1.heap.size := by rintro (e | e | e) <;> omega
  go_loopg [9] m (fun g v wr => ∃ k : Nat, k ≤ m ∧ m - k ≤ g ∧ v = .int .i64 (k : Nat) ∧ RowN wr w1.heap.size m (fillTo k) ∧ SetsAt wr ps pb zb m (fresh m) ∧ Below w.heap.size w wr)
  case atStart => exact ⟨0, Nat.zero_le _, Nat.le_refl _, rfl, fill_start (rowN_made w1 m), HS.out.1.alloc _, (HS.out.2.below (Nat.le_refl _) (fun _ h => h.elim)).alloc hl1 _⟩
  case round =>
    obtain ⟨k, hk, hg, rfl, hL, hT, hBl⟩ := hrel
    have Bd : Aside (RowN wr w1.heap.size m (fillTo k) ∧ SetsAt wr ps pb zb m (fresh m) ∧ Below w.heap.size w wr) := ⟨hL, hT, hBl⟩
    clear hT hBl
    by_cases hlt : k < m
    · have kc := hL.cell hlt
      have kf := hL.frozen k
      clear hL
      go_wp2
      go_roundg (m - (k + 1))
      case measure => omega
      case rel => exact ⟨k + 1, by omega, by omega, by go_num, fill_step Bd.out.1 hlt, Bd.out.2.1.setOther hn3 _, Bd.out.2.2.setCell hl1 _⟩
    · obtain ⟨hL, hT, hBl⟩ := Bd.out
      have hL := fill_end hL (by omega)
      have Bd2 : Aside (RowN wr w1.heap.size m (fun i => i) ∧ SetsAt wr ps pb zb m (fresh m) ∧ Below w.heap.size w wr) := ⟨hL, hT, hBl⟩
      clear hL hT hBl Bd HS
      go_wp2
      go_loopg [10, 11] len (fun g vc vk wx => ∃ (k : Nat) (t : St) (f : Nat → Nat), k ≤ len ∧ len - k ≤ g ∧ vk = .int .i64 (k : Nat) ∧ vc = .int .i64 (t.c : Nat) ∧ Inv m t ∧ LabOk m f t.R ∧ RowN wx w1.heap.size m f ∧ SetsAt wx ps pb zb m t ∧ Below w.heap.size w wx)
      case atStart => exact ⟨0, fresh m, fun i => i, Nat.zero_le _, Nat.le_refl _, rfl, rfl, inv_fresh m, labOk_fresh m, Bd2.out⟩
      case round =>
        clear Bd2
        obtain ⟨k, t, f, hk, hg, rfl, rfl, hI, hLab, hL, hT, hBl⟩ := hrel
        by_cases hlt : k < len
        · have ca : wr.cell? ⟨b, off + k * 2, none⟩ = some (.int .u8 (A k : Nat)) := (hBl.cell (p := ⟨b, off + k * 2, none⟩) hb).trans (HA.out k hlt).1
          have cb : wr.cell? ⟨b, off + k * 2 + 1, none⟩ = some (.int .u8 (B k : Nat)) := (hBl.cell (p := ⟨b, off + k * 2 + 1, none⟩) hb).trans (HB.out k hlt).1
          have ba := (HA.out k hlt).2
          have bb := (HB.out k hlt).2
          have Bd : Aside (Inv m t ∧ LabOk m f t.R ∧ RowN wr w1.heap.size m f ∧ SetsAt wr ps pb zb m t ∧ Below w.heap.size w wr) := ⟨hI, hLab, hL, hT, hBl⟩
          clear hI hLab hL hT hBl
          generalize A k = av at ca ba
          generalize B k = bv at cb bb
          have x1 : (-1 : Int) ≤ (av : Int) % ((m : Int) + 2) - 1 := by have := Int.emod_nonneg (av : Int) (b := (m : Int) + 2) (by omega); omega
          have x2 : (av : Int) % ((m : Int) + 2) - 1 ≤ (m : Int) := by have := Int.emod_lt_of_pos (av : Int) (b := (m : Int) + 2) (by omega); omega
          have y1 : (-1 : Int) ≤ (bv : Int) % ((m : Int) + 2) - 1 := by have := Int.emod_nonneg (bv : Int) (b := (m : Int) + 2) (by omega); omega
          have y2 : (bv : Int) % ((m : Int) + 2) - 1 ≤ (m : Int) := by have := Int.emod_lt_of_pos (bv : Int) (b := (m : Int) + 2) (by omega); omega
          go_wp2_with fail
          generalize (av : Int) % ((m : Int) + 2) - 1 = X at x1 x2 ⊢
          generalize (bv : Int) % ((m : Int) + 2) - 1 = Y at y1 y2 ⊢
          refine (union_any ps pb zb m t X Y _ Bd.out.1 (by omega) Bd.out.2.2.2.1).mono ?_
          rintro e w2 ⟨rfl, hT2, hW2⟩
          have hL2 : RowN w2 w1.heap.size m f := Bd.out.2.2.1.within hW2 hn3
          have hB2 : Below w.heap.size w w2 := Bd.out.2.2.2.2.trans (hW2.below (by have := Bd.out.2.2.2.2.size; omega) (by rintro q (e | e | e) <;> omega))
          have hLab := Bd.out.2.1
          have hI2 := inv_union Bd.out.1 X Y
          have hc2 := Bd.out.1.c_le
          have hc1 : ∀ x, x < m → 1 ≤ t.c := fun x hx => Bd.out.1.c_pos hx
          clear ca cb Bd hW2
          by_cases hin : 0 ≤ X ∧ X < (m : Int) ∧ 0 ≤ Y ∧ Y < (m : Int)
          · obtain ⟨hx0, hx1, hy0, hy1⟩ := hin
            obtain ⟨x, rfl⟩ := Int.eq_ofNat_of_zero_le hx0
            obtain ⟨y, rfl⟩ := Int.eq_ofNat_of_zero_le hy0
            have hx : x < m := by omega
            have hy : y < m := by omega
            have hc1 := hc1 x hx
            have cx := hL2.cell hx
            have cy := hL2.cell hy
            have hJ := joined_union (s := t) hx hy
            have hC := union_c (s := t) hx hy
            have hxy := hLab x y hx hy
            by_cases e : f x = f y
            · have e2 : t.R x = t.R y := hxy.1 e
              rw [union_in hx hy, if_pos e2] at hT2 hI2
              have Bd : Aside (Inv m t ∧ LabOk m f t.R ∧ RowN w2 w1.heap.size m f ∧ SetsAt w2 ps pb zb m t ∧ Below w.heap.size w w2) := ⟨hI2, hLab, hL2, hT2, hB2⟩
              clear hT2 hI2 hLab hL2 hB2 hJ hC hxy e2
              rw [e] at cx
              clear e
              go_wp2
              go_roundg (len - (k + 1))
              case measure => omega
              case rel => exact ⟨k + 1, t, f, by omega, by omega, by go_num, rfl, Bd.out⟩
            · have e2 : t.R x ≠ t.R y := fun h => e (hxy.2 h)
              rw [if_neg e2] at hC
              have hJf := joined_relab m f x y
              have hLab2 := hLab.joined hx hy hJf hJ
              have hfne : ((f x : Int) == (f y : Int)) = false := by rw [beq_eq_false_iff_ne]; omega
              have Bd : Aside (Inv m (t.union m x y) ∧ LabOk m (relab f (f x) (f y)) (t.union m x y).R ∧ RowN w2 w1.heap.size m f ∧ SetsAt w2 ps pb zb m (t.union m x y) ∧ Below w.heap.size w w2 ∧ (t.union m x y).c = t.c - 1) := ⟨hI2, hLab2, hL2, hT2, hB2, hC⟩
              clear hT2 hI2 hLab hL2 hB2 hJ hC hxy e2 hJf hLab2 e
              go_wp2
              go_loopg [16] m (fun g v wy => ∃ i : Nat, i ≤ m ∧ m - i ≤ g ∧ v = .int .i64 (i : Nat) ∧ RowN wy w1.heap.size m (turnTo f (f x) (f y) i) ∧ SetsAt wy ps pb zb m (t.union m x y) ∧ Below w.heap.size w wy)
              case atStart => exact ⟨0, Nat.zero_le _, Nat.le_refl _, rfl, turn_start Bd.out.2.2.1, Bd.out.2.2.2.1, Bd.out.2.2.2.2.1⟩
              case round =>
                obtain ⟨i, hi, hgi, rfl, hL, hT, hBl⟩ := hrel
                have Bi : Aside (RowN wr w1.heap.size m (turnTo f (f x) (f y) i) ∧ SetsAt wr ps pb zb m (t.union m x y) ∧ Below w.heap.size w wr) := ⟨hL, hT, hBl⟩
                clear hT hBl cx cy
                by_cases hil : i < m
                · have kc := hL.cell hil
                  rw [turn_at] at kc
                  have kf := hL.frozen i
                  clear hL
                  by_cases e : f i = f y
                  · have e' : ((f i : Int) == (f y : Int)) = true := by rw [beq_iff_eq]; omega
                    have E : Aside (f i = f y) := e
                    clear e
                    go_wp2
                    go_roundg (m - (i + 1))
                    case measure => omega
                    case rel => exact ⟨i + 1, by omega, by omega, by go_num, turn_hit Bi.out.1 E.out, Bi.out.2.1.setOther hn3 _, Bi.out.2.2.setCell hl1 _⟩
                  · have e' : ((f i : Int) == (f y : Int)) = false := by rw [beq_eq_false_iff_ne]; omega
                    have E : Aside (f i ≠ f y) := e
                    clear e
                    go_wp2
                    go_roundg (m - (i + 1))
                    case measure => omega
                    case rel => exact ⟨i + 1, by omega, by omega, by go_num, turn_miss Bi.out.1 E.out, Bi.out.2⟩
                · clear hL
                  go_wp2
                  go_roundg (len - (k + 1))
                  case measure => omega
                  case rel => exact ⟨k + 1, t.union m x y, relab f (f x) (f y), by omega, by omega, by go_num, by rw [Bd.out.2.2.2.2.2]; go_num, Bd.out.1, Bd.out.2.1, turn_end Bi.out.1 (by omega), Bi.out.2⟩
          · rw [union_outr hin] at hT2 hI2
            have Bd : Aside (Inv m t ∧ LabOk m f t.R ∧ RowN w2 w1.heap.size m f ∧ SetsAt w2 ps pb zb m t ∧ Below w.heap.size w w2) := ⟨hI2, hLab, hL2, hT2, hB2⟩
            have hcase : X < 0 ∨ (0 ≤ X ∧ (m : Int) ≤ X) ∨ (0 ≤ X ∧ X < (m : Int) ∧ Y < 0) ∨ (0 ≤ X ∧ X < (m : Int) ∧ 0 ≤ Y ∧ (m : Int) ≤ Y) := by omega
            clear hT2 hI2 hLab hL2 hB2 hin
            clear hc1
            rcases hcase with h | h | h | h
            all_goals
              go_wp2
              go_roundg (len - (k + 1))
              case measure => omega
              case rel => exact ⟨k + 1, t, f, by omega, by omega, by go_num, rfl, Bd.out⟩
        · have k0 := hT.c0
          have hz := c_zero hI
          have hcl := hI.c_le
          have Bd : Aside (SetsAt wr ps pb zb m t ∧ Below w.heap.size w wr) := ⟨hT, hBl⟩
          clear hI hLab hL hT hBl HA HB hmk
          go_wp2_with fail
          refine (clone_any pb m m (fun i => (t.P i : Int)) _ (by omega) (Cells.of_row Bd.out.1.pr)).mono ?_
          rintro e wa ⟨g1, cp1, rfl, hg1, hC1, hWa⟩
          have hTa := Bd.out.1.within hWa (fun _ _ e => e)
          have k1 := hTa.c1
          have Ba : Aside (SetsAt wa ps pb zb m t ∧ Below w.heap.size w wa ∧ Cells wa g1 m (fun i => (t.P i : Int))) := ⟨hTa, Bd.out.2.trans (hWa.below (by have := Bd.out.2.size; omega) (fun _ e => e.elim)), hC1⟩
          clear hTa hC1 hWa Bd k0
          go_wp2_with fail
          refine (clone_any zb m m (fun i => (t.Z i : Int)) _ (by omega) (Cells.of_row Ba.out.1.zr)).mono ?_
          rintro e wb ⟨g2, cp2, rfl, hg2, hC2, hWb⟩
          have hTb := Ba.out.1.within hWb (fun _ _ e => e)
          have k0 := hTb.c0
          have k1 := hTb.c1
          have k2 := hTb.c2
          have Bb : Aside (SetsAt wb ps pb zb m t ∧ Below w.heap.size w wb ∧ Cells wb g1 m (fun i => (t.P i : Int)) ∧ Cells wb g2 m (fun i => (t.Z i : Int))) :=
            ⟨hTb, Ba.out.2.1.trans (hWb.below (by have := Ba.out.2.1.size; omega) (fun _ e => e.elim)), Ba.out.2.2.within hWb (fun e => e), hC2⟩
          clear hTb hC2 hWb Ba
          have hbool : ((t.c : Int) == 0) = ((m : Int) == 0) := by
            rw [Bool.eq_iff_iff]; simp only [beq_iff_eq]; omega
          clear hz
          go_wp2_with fail
          refine (count_any ps t.c _ k2).mono ?_
          rintro e wc ⟨rfl, rfl⟩
          go_wp2_with fail
          refine (equal_true g1 pb m cp1 m (fun i => (t.P i : Int)) _ (by omega) Bb.out.2.2.1 (Cells.of_row Bb.out.1.pr)).mono ?_
          rintro e wd ⟨rfl, q1, rfl⟩
          go_wp2_with fail
          refine (equal_true g2 zb m cp2 m (fun i => (t.Z i : Int)) _ (by omega) (Bb.out.2.2.2.drewN q1) ((Cells.of_row Bb.out.1.zr).drewN q1)).mono ?_
          rintro e wd ⟨rfl, q2, rfl⟩
          go_wp2
          go_ret
          exact ⟨rfl, below_draws Bb.out.2.1 _⟩

set_option maxRecDepth 100000 in
set_option maxHeartbeats 1000000 in
theorem walk_empty (N : Nat) (ao : Option Addr) (len cap : Nat) (w : World) (hN : N ≤ 255) (hl0 : len ≤ 0) :
    Calls Yasv.prog 3 #[.int .u8 (N : Nat), (.slice ao len cap)] w fun e w' => e = .returned (.bool true) ∧ Below w.heap.size w w' := by
  have hl : len ≤ 1024 := by omega
  have hd : decide (1024 < (len : Int)) = false := decide_eq_false (by omega)
  go_enter Yasv.func3, Yasv.ntmps3
  go_wp2_with fail
  rw [show ((N : Int) % 64) = ((N % 64 : Nat) : Int) from by omega]
  have hm : N % 64 < 64 := Nat.mod_lt _ (by omega)
  generalize N % 64 = m at hm ⊢
  refine (new_any m _ (by omega)).mono ?_
  rintro e w1 ⟨ps, pb, zb, rfl, hps, hpb, hzb, hS, hW⟩
  have hmk := run_make_row' (P := Yasv.prog) 26 3 (.int .i64 0) 8 Yasv.underlying26 Yasv.info3 rfl .i64 .i64 m (by omega) (by omega)
  have HS : Aside (SetsAt w1 ps pb zb m (fresh m) ∧ Within (fun _ => False) w w1) := ⟨hS, hW⟩
  clear hS hW
  go_wp2
  have hlp : w1.heap.size ≠ ps := by have := HS.out.1.st.lt; omega
  have hlq : w1.heap.size ≠ pb := by have := HS.out.1.pr.lt; omega
  have hlz : w1.heap.size ≠ zb := by have := HS.out.1.zr.lt; omega
  have hl1 : w.heap.size ≤ w1.heap.size := HS.out.2.size
  have hn3 : ¬ three ps pb zb w1.heap.size := by rintro (e | e | e) <;> omega
  go_loopg [9] m (fun g v wr => ∃ k : Nat, k ≤ m ∧ m - k ≤ g ∧ v = .int .i64 (k : Nat) ∧ RowN wr w1.heap.size m (fillTo k) ∧ SetsAt wr ps pb zb m (fresh m) ∧ Below w.heap.size w wr)
  case atStart => exact ⟨0, Nat.zero_le _, Nat.le_refl _, rfl, fill_start (rowN_made w1 m), HS.out.1.alloc _, (HS.out.2.below (Nat.le_refl _) (fun _ h => h.elim)).alloc hl1 _⟩
  case round =>
    obtain ⟨k, hk, hg, rfl, hL, hT, hBl⟩ := hrel
    have Bd : Aside (RowN wr w1.heap.size m (fillTo k) ∧ SetsAt wr ps pb zb m (fresh m) ∧ Below w.heap.size w wr) := ⟨hL, hT, hBl⟩
    clear hT hBl
    by_cases hlt : k < m
    · have kc := hL.cell hlt
      have kf := hL.frozen k
      clear hL
      go_wp2
      go_roundg (m - (k + 1))
      case measure => omega
      case rel => exact ⟨k + 1, by omega, by omega, by go_num, fill_step Bd.out.1 hlt, Bd.out.2.1.setOther hn3 _, Bd.out.2.2.setCell hl1 _⟩
    · obtain ⟨hL, hT, hBl⟩ := Bd.out
      have hL := fill_end hL (by omega)
      have Bd2 : Aside (RowN wr w1.heap.size m (fun i => i) ∧ SetsAt wr ps pb zb m (fresh m) ∧ Below w.heap.size w wr) := ⟨hL, hT, hBl⟩
      clear hL hT hBl Bd HS
      go_wp2
      go_loopg [10, 11] len (fun g vc vk wx => ∃ (k : Nat) (t : St) (f : Nat → Nat), k ≤ len ∧ len - k ≤ g ∧ vk = .int .i64 (k : Nat) ∧ vc = .int .i64 (t.c : Nat) ∧ Inv m t ∧ LabOk m f t.R ∧ RowN wx w1.heap.size m f ∧ SetsAt wx ps pb zb m t ∧ Below w.heap.size w wx)
      case atStart => exact ⟨0, fresh m, fun i => i, Nat.zero_le _, Nat.le_refl _, rfl, rfl, inv_fresh m, labOk_fresh m, Bd2.out⟩
      case round =>
        clear Bd2
        obtain ⟨k, t, f, hk, hg, rfl, rfl, hI, hLab, hL, hT, hBl⟩ := hrel
        by_cases hlt : k < len
        · exfalso; omega
        · have k0 := hT.c0
          have hz := c_zero hI
          have hcl := hI.c_le
          have Bd : Aside (SetsAt wr ps pb zb m t ∧ Below w.heap.size w wr) := ⟨hT, hBl⟩
          clear hI hLab hL hT hBl hmk
          go_wp2_with fail
          refine (clone_any pb m m (fun i => (t.P i : Int)) _ (by omega) (Cells.of_row Bd.out.1.pr)).mono ?_
          rintro e wa ⟨g1, cp1, rfl, hg1, hC1, hWa⟩
          have hTa := Bd.out.1.within hWa (fun _ _ e => e)
          have k1 := hTa.c1
          have Ba : Aside (SetsAt wa ps pb zb m t ∧ Below w.heap.size w wa ∧ Cells wa g1 m (fun i => (t.P i : Int))) := ⟨hTa, Bd.out.2.trans (hWa.below (by have := Bd.out.2.size; omega) (fun _ e => e.elim)), hC1⟩
          clear hTa hC1 hWa Bd k0
          go_wp2_with fail
          refine (clone_any zb m m (fun i => (t.Z i : Int)) _ (by omega) (Cells.of_row Ba.out.1.zr)).mono ?_
          rintro e wb ⟨g2, cp2, rfl, hg2, hC2, hWb⟩
          have hTb := Ba.out.1.within hWb (fun _ _ e => e)
          have k0 := hTb.c0
          have k1 := hTb.c1
          have k2 := hTb.c2
          have Bb : Aside (SetsAt wb ps pb zb m t ∧ Below w.heap.size w wb ∧ Cells wb g1 m (fun i => (t.P i : Int)) ∧ Cells wb g2 m (fun i => (t.Z i : Int))) :=
            ⟨hTb, Ba.out.2.1.trans (hWb.below (by have := Ba.out.2.1.size; omega) (fun _ e => e.elim)), Ba.out.2.2.within hWb (fun e => e), hC2⟩
          clear hTb hC2 hWb Ba
          have hbool : ((t.c : Int) == 0) = ((m : Int) == 0) := by
            rw [Bool.eq_iff_iff]; simp only [beq_iff_eq]; omega
          clear hz
          go_wp2_with fail
          refine (count_any ps t.c _ k2).mono ?_
          rintro e wc ⟨rfl, rfl⟩
          go_wp2_with fail
          refine (equal_true g1 pb m cp1 m (fun i => (t.P i : Int)) _ (by omega) Bb.out.2.2.1 (Cells.of_row Bb.out.1.pr)).mono ?_
          rintro e wd ⟨rfl, q1, rfl⟩
          go_wp2_with fail
          refine (equal_true g2 zb m cp2 m (fun i => (t.Z i : Int)) _ (by omega) (Bb.out.2.2.2.drewN q1) ((Cells.of_row Bb.out.1.zr).drewN q1)).mono ?_
          rintro e wd ⟨rfl, q2, rfl⟩
          go_wp2
          go_ret
          exact ⟨rfl, below_draws Bb.out.2.1 _⟩

end Go.Proofs.Ymwhas.Qaa
