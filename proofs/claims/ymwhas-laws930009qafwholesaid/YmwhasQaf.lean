/-
  THE WALK of LawS930009QAFWhole.
-/
import Derived.Test.YmwhasUnion
import Derived.Test.YmwhasNew
import Derived.Test.YmwhasQafAux
namespace Go.Proofs.Ymwhas.Qaf
open Go.RowKit
set_option linter.unusedVariables false

set_option maxRecDepth 100000 in
set_option maxHeartbeats 1000000 in
theorem walk_long (N : Nat) (ao : Option Addr) (len cap : Nat) (w : World) (hl : 1024 < len) (hm : len ≤ 9223372036854775807) :
    Calls Yasv.prog 8 #[.int .u16 (N : Nat), .slice ao len cap] w fun e w' => e = .returned (.bool true) ∧ Below w.heap.size w w' := by
  go_enter Yasv.func8, Yasv.ntmps8
  go_wp2
  go_ret
  exact ⟨rfl, Below.refl _ _⟩

set_option maxRecDepth 100000 in
set_option maxHeartbeats 4000000 in
theorem walk_core (N b off len cap : Nat) (O : Nat → Nat) (A B : Nat → Int) (w : World) (hN : N ≤ 65535) (hl : len ≤ 1024) (hb : b < w.heap.size)
    (hO : ∀ i, i < len → w.cell? ⟨b, off + i * 3, none⟩ = some (.int .u8 (O i : Nat)) ∧ w.cell? ⟨b, off + i * 3 + 1, none⟩ = some (.int .i64 (A i)) ∧ w.cell? ⟨b, off + i * 3 + 2, none⟩ = some (.int .i64 (B i)) ∧ O i ≤ 255) :
    Calls Yasv.prog 8 #[.int .u16 (N : Nat), .slice (some ⟨b, off, none⟩) len cap] w fun e w' => e = .returned (.bool true) ∧ Below w.heap.size w w' := by
  have HO : Aside (∀ i, i < len → w.cell? ⟨b, off + i * 3, none⟩ = some (.int .u8 (O i : Nat)) ∧ w.cell? ⟨b, off + i * 3 + 1, none⟩ = some (.int .i64 (A i)) ∧ w.cell? ⟨b, off + i * 3 + 2, none⟩ = some (.int .i64 (B i)) ∧ O i ≤ 255) := hO
  clear hO
  have hd : decide (1024 < (len : Int)) = false := decide_eq_false (by omega)
  go_enter Yasv.func8, Yasv.ntmps8
  go_wp2_with fail
  rw [show ((N : Int) % 512) = ((N % 512 : Nat) : Int) from by omega]
  have hm : N % 512 < 512 := Nat.mod_lt _ (by omega)
  generalize N % 512 = m at hm ⊢
  refine (new_any m _ (by omega)).mono ?_
  rintro e w1 ⟨ps, pb, zb, rfl, hps, hpb, hzb, hS, hW⟩
  have hmk := run_make_row' (P := Yasv.prog) 26 3 (.int .i64 0) 8 Yasv.underlying26 Yasv.info3 rfl .i64 .i64 m (by omega) (by omega)
  have HS : Aside (SetsAt w1 ps pb zb m (fresh m) ∧ Within (fun _ => False) w w1) := ⟨hS, hW⟩
  clear hS hW
  go_wp2
  have hlp : w1.heap.size ≠ ps := by have := HS.out.1.st.lt; omega
  have hlq : w1.heap.size ≠ pb := by have := HS.out.1.pr.lt; omega
  have hlz : w1.heap.size ≠ zb := by have := HS.out.1.zr.lt; omega
  have hl1 : w.heap.size ≤ w1.heap.size := HS.out.2.size
  have hn3 : ¬ three ps pb zb w1.heap.size := by rintro (e | e | e) <;> omega
  go_loopg [39] m (fun g v wr => ∃ k : Nat, k ≤ m ∧ m - k ≤ g ∧ v = .int .i64 (k : Nat) ∧ RowN wr w1.heap.size m (fillTo k) ∧ SetsAt wr ps pb zb m (fresh m) ∧ Below w.heap.size w wr)
  case atStart => exact ⟨0, Nat.zero_le _, Nat.le_refl _, rfl, fill_start (rowN_made w1 m), HS.out.1.alloc _, (HS.out.2.below (Nat.le_refl _) (fun _ h => h.elim)).alloc hl1 _⟩
  case round =>
    obtain ⟨k, hk, hg, rfl, hL, hT, hBl⟩ := hrel
    have Bd : Aside (RowN wr w1.heap.size m (fillTo k) ∧ SetsAt wr ps pb zb m (fresh m) ∧ Below w.heap.size w wr) := ⟨hL, hT, hBl⟩
    clear hT hBl
    by_cases hlt : k < m
    · have kc := hL.cell hlt
      have kf := hL.frozen k
      clear hL
      go_wp2
      go_roundg (m - (k + 1))
      case measure => omega
      case rel => exact ⟨k + 1, by omega, by omega, by go_num, fill_step Bd.out.1 hlt, Bd.out.2.1.setOther hn3 _, Bd.out.2.2.setCell hl1 _⟩
    · clear hL
      have Bd2 : Aside (RowN wr w1.heap.size m (fun i => i) ∧ SetsAt wr ps pb zb m (fresh m) ∧ Below w.heap.size w wr) := ⟨fill_end Bd.out.1 (by omega), Bd.out.2⟩
      clear Bd HS
      go_wp2
      go_loopg [49] len (fun g vk wx => ∃ (k : Nat) (t : St) (f : Nat → Nat), k ≤ len ∧ len - k ≤ g ∧ vk = .int .i64 (k : Nat) ∧ Inv m t ∧ LabOk m f t.R ∧ Canon m f ∧ RowN wx w1.heap.size m f ∧ SetsAt wx ps pb zb m t ∧ Below w.heap.size w wx)
      case atStart => exact ⟨0, fresh m, fun i => i, Nat.zero_le _, Nat.le_refl _, rfl, inv_fresh m, labOk_fresh m, canon_id m, Bd2.out⟩
      case round =>
        clear Bd2
        obtain ⟨k, t, f, hk, hg, rfl, hI, hLab, hCan, hL, hT, hBl⟩ := hrel
        by_cases hlt : k < len
        · have co : wr.cell? ⟨b, off + k * 3, none⟩ = some (.int .u8 (O k : Nat)) := (hBl.cell (p := ⟨b, off + k * 3, none⟩) hb).trans (HO.out k hlt).1
          have ca : wr.cell? ⟨b, off + k * 3 + 1, none⟩ = some (.int .i64 (A k)) := (hBl.cell (p := ⟨b, off + k * 3 + 1, none⟩) hb).trans (HO.out k hlt).2.1
          have cb : wr.cell? ⟨b, off + k * 3 + 2, none⟩ = some (.int .i64 (B k)) := (hBl.cell (p := ⟨b, off + k * 3 + 2, none⟩) hb).trans (HO.out k hlt).2.2.1
          have bo := (HO.out k hlt).2.2.2
          have Bd : Aside (Inv m t ∧ LabOk m f t.R ∧ Canon m f ∧ RowN wr w1.heap.size m f ∧ SetsAt wr ps pb zb m t ∧ Below w.heap.size w wr) := ⟨hI, hLab, hCan, hL, hT, hBl⟩
          clear hI hLab hCan hL hT hBl
          generalize A k = av at ca
          generalize B k = bv at cb
          generalize O k = ov at co bo
          go_wp2_with fail
          refine (qaf_map av m _ (by omega)).mono ?_
          rintro e w2 ⟨X, rfl, X1, X2, rfl⟩
          go_wp2_with fail
          refine (qaf_map bv m _ (by omega)).mono ?_
          rintro e w2 ⟨Y, rfl, Y1, Y2, rfl⟩
          by_cases hpar : ov % 2 = 0
          · go_wp2_with fail
            refine (union_any ps pb zb m t X Y _ Bd.out.1 (by omega) (Bd.out.2.2.2.2.1.alloc _)).mono ?_
            rintro e w2 ⟨rfl, hT2, hW2⟩
            have hL2 : RowN w2 w1.heap.size m f := (Bd.out.2.2.2.1.alloc _).within hW2 hn3
            have hB2 : Below w.heap.size w w2 := (Bd.out.2.2.2.2.2.alloc (by have := Bd.out.2.2.2.2.2.size; omega) _).trans (hW2.below (by have := Bd.out.2.2.2.2.2.size; simp; omega) (by rintro q (e | e | e) <;> omega))
            have hLab := Bd.out.2.1
            have hCan := Bd.out.2.2.1
            have hI2 := inv_union Bd.out.1 X Y
            clear co ca cb Bd hW2
            by_cases hin : 0 ≤ X ∧ X < (m : Int) ∧ 0 ≤ Y ∧ Y < (m : Int)
            · obtain ⟨hx0, hx1, hy0, hy1⟩ := hin
              obtain ⟨x, rfl⟩ := Int.eq_ofNat_of_zero_le hx0
              obtain ⟨y, rfl⟩ := Int.eq_ofNat_of_zero_le hy0
              have hx : x < m := by omega
              have hy : y < m := by omega
              have hJ := joined_union (s := t) hx hy
              have cx := hL2.cell hx
              have cy := hL2.cell hy
              rcases (show f x = f y ∨ f y < f x ∨ f x < f y from by omega) with e | hsw | hsw
              · have Bd : Aside (Inv m (t.union m x y) ∧ LabOk m f (t.union m x y).R ∧ Canon m f ∧ RowN w2 w1.heap.size m f ∧ SetsAt w2 ps pb zb m (t.union m x y) ∧ Below w.heap.size w w2) := ⟨hI2, hLab.joined hx hy (joined_same e) hJ, hCan, hL2, hT2, hB2⟩
                clear hT2 hI2 hLab hCan hL2 hB2 hJ
                rw [e] at cx
                clear e
                go_wp2
                go_roundg (len - (k + 1))
                case measure => omega
                case rel => exact ⟨k + 1, t.union m x y, f, by omega, by omega, by go_num, Bd.out⟩
              · have Bd : Aside (Inv m (t.union m x y) ∧ LabOk m (relab f (f y) (f x)) (t.union m x y).R ∧ Canon m (relab f (f y) (f x)) ∧ RowN w2 w1.heap.size m f ∧ SetsAt w2 ps pb zb m (t.union m x y) ∧ Below w.heap.size w w2) := ⟨hI2, hLab.joined hx hy (joined_relab m f y x).symm hJ, canon_relab hCan hy hx hsw, hL2, hT2, hB2⟩
                have hne : ((f y : Int) != (f x : Int)) = true := by rw [bne_iff_ne]; omega
                clear hT2 hI2 hLab hCan hL2 hB2 hJ
                go_wp2
                go_loopg [103] m (fun g v wy => ∃ i : Nat, i ≤ m ∧ m - i ≤ g ∧ v = .int .i64 (i : Nat) ∧ RowN wy w1.heap.size m (turnTo f (f y) (f x) i) ∧ SetsAt wy ps pb zb m (t.union m x y) ∧ Below w.heap.size w wy)
                case atStart => exact ⟨0, Nat.zero_le _, Nat.le_refl _, rfl, turn_start Bd.out.2.2.2.1, Bd.out.2.2.2.2.1, Bd.out.2.2.2.2.2⟩
                case round =>
                  obtain ⟨i, hi, hgi, rfl, hL, hT, hBl⟩ := hrel
                  have Bi : Aside (RowN wr w1.heap.size m (turnTo f (f y) (f x) i) ∧ SetsAt wr ps pb zb m (t.union m x y) ∧ Below w.heap.size w wr) := ⟨hL, hT, hBl⟩
                  clear hT hBl cx cy
                  by_cases hil : i < m
                  · have kc := hL.cell hil
                    rw [turn_at] at kc
                    have kf := hL.frozen i
                    clear hL
                    by_cases e : f i = (f x)
                    · have e' : ((f i : Int) == ((f x) : Int)) = true := by rw [beq_iff_eq]; omega
                      have E : Aside (f i = (f x)) := e
                      clear e
                      go_wp2
                      go_roundg (m - (i + 1))
                      case measure => omega
                      case rel => exact ⟨i + 1, by omega, by omega, by go_num, turn_hit Bi.out.1 E.out, Bi.out.2.1.setOther hn3 _, Bi.out.2.2.setCell hl1 _⟩
                    · have e' : ((f i : Int) == ((f x) : Int)) = false := by rw [beq_eq_false_iff_ne]; omega
                      have E : Aside (f i ≠ (f x)) := e
                      clear e
                      go_wp2
                      go_roundg (m - (i + 1))
                      case measure => omega
                      case rel => exact ⟨i + 1, by omega, by omega, by go_num, turn_miss Bi.out.1 E.out, Bi.out.2⟩
                  · clear hL
                    go_wp2
                    go_roundg (len - (k + 1))
                    case measure => omega
                    case rel => exact ⟨k + 1, t.union m x y, relab f (f y) (f x), by omega, by omega, by go_num, Bd.out.1, Bd.out.2.1, Bd.out.2.2.1, turn_end Bi.out.1 (by omega), Bi.out.2⟩
              · have Bd : Aside (Inv m (t.union m x y) ∧ LabOk m (relab f (f x) (f y)) (t.union m x y).R ∧ Canon m (relab f (f x) (f y)) ∧ RowN w2 w1.heap.size m f ∧ SetsAt w2 ps pb zb m (t.union m x y) ∧ Below w.heap.size w w2) := ⟨hI2, hLab.joined hx hy (joined_relab m f x y) hJ, canon_relab hCan hx hy hsw, hL2, hT2, hB2⟩
                have hne : ((f x : Int) != (f y : Int)) = true := by rw [bne_iff_ne]; omega
                clear hT2 hI2 hLab hCan hL2 hB2 hJ
                go_wp2
                go_loopg [103] m (fun g v wy => ∃ i : Nat, i ≤ m ∧ m - i ≤ g ∧ v = .int .i64 (i : Nat) ∧ RowN wy w1.heap.size m (turnTo f (f x) (f y) i) ∧ SetsAt wy ps pb zb m (t.union m x y) ∧ Below w.heap.size w wy)
                case atStart => exact ⟨0, Nat.zero_le _, Nat.le_refl _, rfl, turn_start Bd.out.2.2.2.1, Bd.out.2.2.2.2.1, Bd.out.2.2.2.2.2⟩
                case round =>
                  obtain ⟨i, hi, hgi, rfl, hL, hT, hBl⟩ := hrel
                  have Bi : Aside (RowN wr w1.heap.size m (turnTo f (f x) (f y) i) ∧ SetsAt wr ps pb zb m (t.union m x y) ∧ Below w.heap.size w wr) := ⟨hL, hT, hBl⟩
                  clear hT hBl cx cy
                  by_cases hil : i < m
                  · have kc := hL.cell hil
                    rw [turn_at] at kc
                    have kf := hL.frozen i
                    clear hL
                    by_cases e : f i = (f y)
                    · have e' : ((f i : Int) == ((f y) : Int)) = true := by rw [beq_iff_eq]; omega
                      have E : Aside (f i = (f y)) := e
                      clear e
                      go_wp2
                      go_roundg (m - (i + 1))
                      case measure => omega
                      case rel => exact ⟨i + 1, by omega, by omega, by go_num, turn_hit Bi.out.1 E.out, Bi.out.2.1.setOther hn3 _, Bi.out.2.2.setCell hl1 _⟩
                    · have e' : ((f i : Int) == ((f y) : Int)) = false := by rw [beq_eq_false_iff_ne]; omega
                      have E : Aside (f i ≠ (f y)) := e
                      clear e
                      go_wp2
                      go_roundg (m - (i + 1))
                      case measure => omega
                      case rel => exact ⟨i + 1, by omega, by omega, by go_num, turn_miss Bi.out.1 E.out, Bi.out.2⟩
                  · clear hL
                    go_wp2
                    go_roundg (len - (k + 1))
                    case measure => omega
                    case rel => exact ⟨k + 1, t.union m x y, relab f (f x) (f y), by omega, by omega, by go_num, Bd.out.1, Bd.out.2.1, Bd.out.2.2.1, turn_end Bi.out.1 (by omega), Bi.out.2⟩
            · rw [union_outr hin] at hT2 hI2
              have Bd : Aside (Inv m t ∧ LabOk m f t.R ∧ Canon m f ∧ RowN w2 w1.heap.size m f ∧ SetsAt w2 ps pb zb m t ∧ Below w.heap.size w w2) := ⟨hI2, hLab, hCan, hL2, hT2, hB2⟩
              have hcase : X < 0 ∨ (0 ≤ X ∧ (m : Int) ≤ X) ∨ (0 ≤ X ∧ X < (m : Int) ∧ Y < 0) ∨ (0 ≤ X ∧ X < (m : Int) ∧ 0 ≤ Y ∧ (m : Int) ≤ Y) := by omega
              clear hT2 hI2 hLab hCan hL2 hB2 hin
              rcases hcase with h | h | h | h
              all_goals
                go_wp2
                go_roundg (len - (k + 1))
                case measure => omega
                case rel => exact ⟨k + 1, t, f, by omega, by omega, by go_num, Bd.out⟩
          · go_wp2_with fail
            refine (comp_all ps pb zb m t X _ Bd.out.1 (by omega) (Bd.out.2.2.2.2.1.alloc _)).mono ?_
            rintro e w2 ⟨bb, t2, rfl, hR2, hc2, hI2, hT2, hW2⟩
            have Bd2 : Aside (Inv m t2 ∧ LabOk m f t2.R ∧ Canon m f ∧ RowN w2 w1.heap.size m f ∧ SetsAt w2 ps pb zb m t2 ∧ Below w.heap.size w w2) := ⟨hI2, by rw [hR2]; exact Bd.out.2.1, Bd.out.2.2.1, (Bd.out.2.2.2.1.alloc _).within hW2 hn3, hT2, (Bd.out.2.2.2.2.2.alloc (by have := Bd.out.2.2.2.2.2.size; omega) _).trans (hW2.below (by have := Bd.out.2.2.2.2.2.size; simp; omega) (by rintro q (e | e | e) <;> omega))⟩
            clear hR2 hc2 hI2 hT2 hW2 Bd co ca cb
            go_wp2
            go_roundg (len - (k + 1))
            case measure => omega
            case rel => exact ⟨k + 1, t2, f, by omega, by omega, by go_num, Bd2.out⟩
        · clear HO
          have k0 := hT.c0
          have p1 := hT.st.lt
          have p2 := hT.pr.lt
          have p3 := hT.zr.lt
          have p4 := hL.lt
          have Bd : Aside (Inv m t ∧ LabOk m f t.R ∧ Canon m f ∧ RowN wr w1.heap.size m f ∧ SetsAt wr ps pb zb m t ∧ Below w.heap.size w wr) := ⟨hI, hLab, hCan, hL, hT, hBl⟩
          have q26 : ∀ (w : World) (a : Option Addr) (n c n' c' : Nat), (binOp .eql 26 (.slice a n c) (.slice none n' c')).run Yasv.prog w = .ok (.bool a.isNone) w := fun w a n c n' c' => Lib.run_eql_slice_nil w _ _ a n c n' c' Yasv.underlying26
          clear hI hLab hCan hL hT hBl hmk
          go_wp2_with fail
          refine (clone_any pb m m (fun i => (t.P i : Int)) _ (by omega) (Cells.of_row Bd.out.2.2.2.2.1.pr)).mono ?_
          rintro e wa ⟨g1, cp1, rfl, hg1, hC1, hWa⟩
          have s1 := hWa.size
          have t1 := hC1.1
          have k1 := (Bd.out.2.2.2.2.1.within hWa (fun _ _ e => e)).c1
          have Ba : Aside ((Inv m t ∧ LabOk m f t.R ∧ Canon m f ∧ RowN wa w1.heap.size m f ∧ SetsAt wa ps pb zb m t ∧ Below w.heap.size w wa) ∧ Cells wa g1 m (fun i => (t.P i : Int))) := ⟨⟨Bd.out.1, Bd.out.2.1, Bd.out.2.2.1, Bd.out.2.2.2.1.within hWa (fun e => e), Bd.out.2.2.2.2.1.within hWa (fun _ _ e => e), Bd.out.2.2.2.2.2.trans (hWa.below (by have := Bd.out.2.2.2.2.2.size; omega) (fun _ e => e.elim))⟩, hC1⟩
          clear hC1 hWa Bd k0
          go_wp2_with fail
          refine (clone_any zb m m (fun i => (t.Z i : Int)) _ (by omega) (Cells.of_row Ba.out.1.2.2.2.2.1.zr)).mono ?_
          rintro e wb ⟨g2, cp2, rfl, hg2, hC2, hWb⟩
          have s2 := hWb.size
          have t2 := hC2.1
          have k2 := (Ba.out.1.2.2.2.2.1.within hWb (fun _ _ e => e)).c2
          have Bb : Aside ((Inv m t ∧ LabOk m f t.R ∧ Canon m f ∧ RowN wb w1.heap.size m f ∧ SetsAt wb ps pb zb m t ∧ Below w.heap.size w wb) ∧ Cells wb g1 m (fun i => (t.P i : Int)) ∧ Cells wb g2 m (fun i => (t.Z i : Int))) := ⟨⟨Ba.out.1.1, Ba.out.1.2.1, Ba.out.1.2.2.1, Ba.out.1.2.2.2.1.within hWb (fun e => e), Ba.out.1.2.2.2.2.1.within hWb (fun _ _ e => e), Ba.out.1.2.2.2.2.2.trans (hWb.below (by have := Ba.out.1.2.2.2.2.2.size; omega) (fun _ e => e.elim))⟩, Ba.out.2.within hWb (fun e => e), hC2⟩
          clear hC2 hWb Ba k1
          go_wp2_with fail
          refine (labels_any ps pb zb m t f _ Bb.out.1.1 (by omega) Bb.out.1.2.2.2.2.1 Bb.out.1.2.1 Bb.out.1.2.2.1).mono ?_
          rintro e wc ⟨g3, rfl, hg3, hR3, hWc⟩
          have s3 := hWc.size
          have t3 := hR3.lt
          have hTc := Bb.out.1.2.2.2.2.1.within hWc (fun _ _ e => e)
          have k0 := hTc.c0
          have k1 := hTc.c1
          have k2 := hTc.c2
          have Bc : Aside ((Inv m t ∧ LabOk m f t.R ∧ Canon m f ∧ RowN wc w1.heap.size m f ∧ SetsAt wc ps pb zb m t ∧ Below w.heap.size w wc) ∧ Cells wc g1 m (fun i => (t.P i : Int)) ∧ Cells wc g2 m (fun i => (t.Z i : Int)) ∧ RowN wc g3 m f) := ⟨⟨Bb.out.1.1, Bb.out.1.2.1, Bb.out.1.2.2.1, Bb.out.1.2.2.2.1.within hWc (fun e => e), hTc, Bb.out.1.2.2.2.2.2.trans (hWc.below (by have := Bb.out.1.2.2.2.2.2.size; omega) (fun _ e => e.elim))⟩, Bb.out.2.1.within hWc (fun e => e), Bb.out.2.2.within hWc (fun e => e), hR3⟩
          clear hTc hR3 hWc Bb
          go_wp2
          go_loopg [21] m (fun g vi wy => ∃ i q : Nat, i ≤ m ∧ m - i ≤ g ∧ vi = .int .i64 (i : Nat) ∧ wy = wc.drewN q)
          case atStart => exact ⟨0, 0, Nat.zero_le _, Nat.le_refl _, rfl, rfl⟩
          case round =>
            obtain ⟨i, q, hi, hgi, rfl, rfl⟩ := hrel
            by_cases hil : i < m
            · have ci := Bc.out.1.2.2.2.1.cell hil
              have cg := Bc.out.2.2.2.cell hil
              go_wp2_with fail
              go_region
              go_wp2
              go_roundg (m - (i + 1))
              case measure => omega
              case rel => exact ⟨i + 1, q + 1, by omega, by omega, by go_num, rfl⟩
            · go_wp2_with fail
              refine (equal_true g1 pb m cp1 m (fun i => (t.P i : Int)) _ (by omega) (Bc.out.2.1.drewN q) ((Cells.of_row Bc.out.1.2.2.2.2.1.pr).drewN q)).mono ?_
              rintro e wd ⟨rfl, q1, rfl⟩
              go_wp2_with fail
              refine (equal_true g2 zb m cp2 m (fun i => (t.Z i : Int)) _ (by omega) (Bc.out.2.2.1.drewN _) ((Cells.of_row Bc.out.1.2.2.2.2.1.zr).drewN _)).mono ?_
              rintro e wd ⟨rfl, q2, rfl⟩
              rcases Nat.lt_or_ge 0 m with hm0 | hm0
              · have c0 := Bc.out.2.2.2.cell hm0
                have f0 := Bc.out.2.2.2.frozen 0
                have d1 : wc.cell? ⟨g1, 0, none⟩ = some (.int .i64 (t.P 0 : Nat)) := Bc.out.2.1.2 0 hm0
                have d2 : wc.cell? ⟨g2, 0, none⟩ = some (.int .i64 (t.Z 0 : Nat)) := Bc.out.2.2.1.2 0 hm0
                have d3 := Bc.out.1.2.2.2.2.1.cp 0 hm0
                have d4 := Bc.out.1.2.2.2.2.1.cz 0 hm0
                have n1 : ps ≠ g3 := by omega
                have n2 : pb ≠ g3 := by omega
                have n3 : zb ≠ g3 := by omega
                have n4 : g1 ≠ g3 := by omega
                have n5 : g2 ≠ g3 := by omega
                go_wp2_with fail
                go_region
                go_wp2
                go_ret
                refine ⟨rfl, ?_⟩
                have hsz := Bc.out.1.2.2.2.2.2.size
                have hb0 := Bc.out.1.2.2.2.2.2.setCell (p := ⟨g3, 0, none⟩) (by show w.heap.size ≤ g3; omega) (.int .i64 (-1))
                exact ⟨hb0.os, hb0.tape, hb0.output, hb0.size, hb0.block⟩
              · go_wp2
                go_ret
                exact ⟨rfl, below_draws Bc.out.1.2.2.2.2.2 _⟩

set_option maxRecDepth 100000 in
set_option maxHeartbeats 4000000 in
theorem walk_empty (N : Nat) (ao : Option Addr) (len cap : Nat) (w : World) (hN : N ≤ 65535) (hl0 : len ≤ 0) :
    Calls Yasv.prog 8 #[.int .u16 (N : Nat), .slice ao len cap] w fun e w' => e = .returned (.bool true) ∧ Below w.heap.size w w' := by
  have hl : len ≤ 1024 := by omega
  have hd : decide (1024 < (len : Int)) = false := decide_eq_false (by omega)
  go_enter Yasv.func8, Yasv.ntmps8
  go_wp2_with fail
  rw [show ((N : Int) % 512) = ((N % 512 : Nat) : Int) from by omega]
  have hm : N % 512 < 512 := Nat.mod_lt _ (by omega)
  generalize N % 512 = m at hm ⊢
  refine (new_any m _ (by omega)).mono ?_
  rintro e w1 ⟨ps, pb, zb, rfl, hps, hpb, hzb, hS, hW⟩
  have hmk := run_make_row' (P := Yasv.prog) 26 3 (.int .i64 0) 8 Yasv.underlying26 Yasv.info3 rfl .i64 .i64 m (by omega) (by omega)
  have HS : Aside (SetsAt w1 ps pb zb m (fresh m) ∧ Within (fun _ => False) w w1) := ⟨hS, hW⟩
  clear hS hW
  go_wp2
  have hlp : w1.heap.size ≠ ps := by have := HS.out.1.st.lt; omega
  have hlq : w1.heap.size ≠ pb := by have := HS.out.1.pr.lt; omega
  have hlz : w1.heap.size ≠ zb := by have := HS.out.1.zr.lt; omega
  have hl1 : w.heap.size ≤ w1.heap.size := HS.out.2.size
  have hn3 : ¬ three ps pb zb w1.heap.size := by rintro (e | e | e) <;> omega
  go_loopg [39] m (fun g v wr => ∃ k : Nat, k ≤ m ∧ m - k ≤ g ∧ v = .int .i64 (k : Nat) ∧ RowN wr w1.heap.size m (fillTo k) ∧ SetsAt wr ps pb zb m (fresh m) ∧ Below w.heap.size w wr)
  case atStart => exact ⟨0, Nat.zero_le _, Nat.le_refl _, rfl, fill_start (rowN_made w1 m), HS.out.1.alloc _, (HS.out.2.below (Nat.le_refl _) (fun _ h => h.elim)).alloc hl1 _⟩
  case round =>
    obtain ⟨k, hk, hg, rfl, hL, hT, hBl⟩ := hrel
    have Bd : Aside (RowN wr w1.heap.size m (fillTo k) ∧ SetsAt wr ps pb zb m (fresh m) ∧ Below w.heap.size w wr) := ⟨hL, hT, hBl⟩
    clear hT hBl
    by_cases hlt : k < m
    · have kc := hL.cell hlt
      have kf := hL.frozen k
      clear hL
      go_wp2
      go_roundg (m - (k + 1))
      case measure => omega
      case rel => exact ⟨k + 1, by omega, by omega, by go_num, fill_step Bd.out.1 hlt, Bd.out.2.1.setOther hn3 _, Bd.out.2.2.setCell hl1 _⟩
    · clear hL
      have Bd2 : Aside (RowN wr w1.heap.size m (fun i => i) ∧ SetsAt wr ps pb zb m (fresh m) ∧ Below w.heap.size w wr) := ⟨fill_end Bd.out.1 (by omega), Bd.out.2⟩
      clear Bd HS
      go_wp2
      go_loopg [49] len (fun g vk wx => ∃ (k : Nat) (t : St) (f : Nat → Nat), k ≤ len ∧ len - k ≤ g ∧ vk = .int .i64 (k : Nat) ∧ Inv m t ∧ LabOk m f t.R ∧ Canon m f ∧ RowN wx w1.heap.size m f ∧ SetsAt wx ps pb zb m t ∧ Below w.heap.size w wx)
      case atStart => exact ⟨0, fresh m, fun i => i, Nat.zero_le _, Nat.le_refl _, rfl, inv_fresh m, labOk_fresh m, canon_id m, Bd2.out⟩
      case round =>
        clear Bd2
        obtain ⟨k, t, f, hk, hg, rfl, hI, hLab, hCan, hL, hT, hBl⟩ := hrel
        by_cases hlt : k < len
        · exfalso; omega
        · skip
          have k0 := hT.c0
          have p1 := hT.st.lt
          have p2 := hT.pr.lt
          have p3 := hT.zr.lt
          have p4 := hL.lt
          have Bd : Aside (Inv m t ∧ LabOk m f t.R ∧ Canon m f ∧ RowN wr w1.heap.size m f ∧ SetsAt wr ps pb zb m t ∧ Below w.heap.size w wr) := ⟨hI, hLab, hCan, hL, hT, hBl⟩
          have q26 : ∀ (w : World) (a : Option Addr) (n c n' c' : Nat), (binOp .eql 26 (.slice a n c) (.slice none n' c')).run Yasv.prog w = .ok (.bool a.isNone) w := fun w a n c n' c' => Lib.run_eql_slice_nil w _ _ a n c n' c' Yasv.underlying26
          clear hI hLab hCan hL hT hBl hmk
          go_wp2_with fail
          refine (clone_any pb m m (fun i => (t.P i : Int)) _ (by omega) (Cells.of_row Bd.out.2.2.2.2.1.pr)).mono ?_
          rintro e wa ⟨g1, cp1, rfl, hg1, hC1, hWa⟩
          have s1 := hWa.size
          have t1 := hC1.1
          have k1 := (Bd.out.2.2.2.2.1.within hWa (fun _ _ e => e)).c1
          have Ba : Aside ((Inv m t ∧ LabOk m f t.R ∧ Canon m f ∧ RowN wa w1.heap.size m f ∧ SetsAt wa ps pb zb m t ∧ Below w.heap.size w wa) ∧ Cells wa g1 m (fun i => (t.P i : Int))) := ⟨⟨Bd.out.1, Bd.out.2.1, Bd.out.2.2.1, Bd.out.2.2.2.1.within hWa (fun e => e), Bd.out.2.2.2.2.1.within hWa (fun _ _ e => e), Bd.out.2.2.2.2.2.trans (hWa.below (by have := Bd.out.2.2.2.2.2.size; omega) (fun _ e => e.elim))⟩, hC1⟩
          clear hC1 hWa Bd k0
          go_wp2_with fail
          refine (clone_any zb m m (fun i => (t.Z i : Int)) _ (by omega) (Cells.of_row Ba.out.1.2.2.2.2.1.zr)).mono ?_
          rintro e wb ⟨g2, cp2, rfl, hg2, hC2, hWb⟩
          have s2 := hWb.size
          have t2 := hC2.1
          have k2 := (Ba.out.1.2.2.2.2.1.within hWb (fun _ _ e => e)).c2
          have Bb : Aside ((Inv m t ∧ LabOk m f t.R ∧ Canon m f ∧ RowN wb w1.heap.size m f ∧ SetsAt wb ps pb zb m t ∧ Below w.heap.size w wb) ∧ Cells wb g1 m (fun i => (t.P i : Int)) ∧ Cells wb g2 m (fun i => (t.Z i : Int))) := ⟨⟨Ba.out.1.1, Ba.out.1.2.1, Ba.out.1.2.2.1, Ba.out.1.2.2.2.1.within hWb (fun e => e), Ba.out.1.2.2.2.2.1.within hWb (fun _ _ e => e), Ba.out.1.2.2.2.2.2.trans (hWb.below (by have := Ba.out.1.2.2.2.2.2.size; omega) (fun _ e => e.elim))⟩, Ba.out.2.within hWb (fun e => e), hC2⟩
          clear hC2 hWb Ba k1
          go_wp2_with fail
          refine (labels_any ps pb zb m t f _ Bb.out.1.1 (by omega) Bb.out.1.2.2.2.2.1 Bb.out.1.2.1 Bb.out.1.2.2.1).mono ?_
          rintro e wc ⟨g3, rfl, hg3, hR3, hWc⟩
          have s3 := hWc.size
          have t3 := hR3.lt
          have hTc := Bb.out.1.2.2.2.2.1.within hWc (fun _ _ e => e)
          have k0 := hTc.c0
          have k1 := hTc.c1
          have k2 := hTc.c2
          have Bc : Aside ((Inv m t ∧ LabOk m f t.R ∧ Canon m f ∧ RowN wc w1.heap.size m f ∧ SetsAt wc ps pb zb m t ∧ Below w.heap.size w wc) ∧ Cells wc g1 m (fun i => (t.P i : Int)) ∧ Cells wc g2 m (fun i => (t.Z i : Int)) ∧ RowN wc g3 m f) := ⟨⟨Bb.out.1.1, Bb.out.1.2.1, Bb.out.1.2.2.1, Bb.out.1.2.2.2.1.within hWc (fun e => e), hTc, Bb.out.1.2.2.2.2.2.trans (hWc.below (by have := Bb.out.1.2.2.2.2.2.size; omega) (fun _ e => e.elim))⟩, Bb.out.2.1.within hWc (fun e => e), Bb.out.2.2.within hWc (fun e => e), hR3⟩
          clear hTc hR3 hWc Bb
          go_wp2
          go_loopg [21] m (fun g vi wy => ∃ i q : Nat, i ≤ m ∧ m - i ≤ g ∧ vi = .int .i64 (i : Nat) ∧ wy = wc.drewN q)
          case atStart => exact ⟨0, 0, Nat.zero_le _, Nat.le_refl _, rfl, rfl⟩
          case round =>
            obtain ⟨i, q, hi, hgi, rfl, rfl⟩ := hrel
            by_cases hil : i < m
            · have ci := Bc.out.1.2.2.2.1.cell hil
              have cg := Bc.out.2.2.2.cell hil
              go_wp2_with fail
              go_region
              go_wp2
              go_roundg (m - (i + 1))
              case measure => omega
              case rel => exact ⟨i + 1, q + 1, by omega, by omega, by go_num, rfl⟩
            · go_wp2_with fail
              refine (equal_true g1 pb m cp1 m (fun i => (t.P i : Int)) _ (by omega) (Bc.out.2.1.drewN q) ((Cells.of_row Bc.out.1.2.2.2.2.1.pr).drewN q)).mono ?_
              rintro e wd ⟨rfl, q1, rfl⟩
              go_wp2_with fail
              refine (equal_true g2 zb m cp2 m (fun i => (t.Z i : Int)) _ (by omega) (Bc.out.2.2.1.drewN _) ((Cells.of_row Bc.out.1.2.2.2.2.1.zr).drewN _)).mono ?_
              rintro e wd ⟨rfl, q2, rfl⟩
              rcases Nat.lt_or_ge 0 m with hm0 | hm0
              · have c0 := Bc.out.2.2.2.cell hm0
                have f0 := Bc.out.2.2.2.frozen 0
                have d1 : wc.cell? ⟨g1, 0, none⟩ = some (.int .i64 (t.P 0 : Nat)) := Bc.out.2.1.2 0 hm0
                have d2 : wc.cell? ⟨g2, 0, none⟩ = some (.int .i64 (t.Z 0 : Nat)) := Bc.out.2.2.1.2 0 hm0
                have d3 := Bc.out.1.2.2.2.2.1.cp 0 hm0
                have d4 := Bc.out.1.2.2.2.2.1.cz 0 hm0
                have n1 : ps ≠ g3 := by omega
                have n2 : pb ≠ g3 := by omega
                have n3 : zb ≠ g3 := by omega
                have n4 : g1 ≠ g3 := by omega
                have n5 : g2 ≠ g3 := by omega
                go_wp2_with fail
                go_region
                go_wp2
                go_ret
                refine ⟨rfl, ?_⟩
                have hsz := Bc.out.1.2.2.2.2.2.size
                have hb0 := Bc.out.1.2.2.2.2.2.setCell (p := ⟨g3, 0, none⟩) (by show w.heap.size ≤ g3; omega) (.int .i64 (-1))
                exact ⟨hb0.os, hb0.tape, hb0.output, hb0.size, hb0.block⟩
              · go_wp2
                go_ret
                exact ⟨rfl, below_draws Bc.out.1.2.2.2.2.2 _⟩

end Go.Proofs.Ymwhas.Qaf
