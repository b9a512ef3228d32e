/-
  THE WALK of LawS930009QADWhole.
-/
import Derived.Test.YmwhasUnion
import Derived.Test.YmwhasComp
import Derived.Test.YmwhasNew
import Derived.Test.YmwhasQadAux
import Derived.Test.YmwhasRowN
namespace Go.Proofs.Ymwhas.Qad
open Go.RowKit
set_option linter.unusedVariables false

/-- The size of a part, counted by its label. -/
theorem size_count {m : Nat} {t : St} {f : Nat → Nat} {x : Nat} (hI : Inv m t) (hLab : LabOk m f t.R) (hx : x < m) : t.Z (t.R x) = cnt m (fun j => f j == f x) := by
  rw [hI.zcount _ (hI.forest.rlt x hx) (hI.forest.fixd x hx)]
  refine cnt_congr m (fun i hi => ?_)
  rw [Bool.eq_iff_iff]
  simp only [beq_iff_eq]
  exact (hLab i x hi hx).symm

set_option maxRecDepth 100000 in
set_option maxHeartbeats 1000000 in
theorem walk_long (N : Nat) (ao : Option Addr) (len cap : Nat) (X : Int) (w : World) (hl : 1024 < len) (hm : len ≤ 9223372036854775807) :
    Calls Yasv.prog 6 #[.int .u16 (N : Nat), .slice ao len cap, .int .i64 X] w fun e w' => e = .returned (.bool true) ∧ Below w.heap.size w w' := by
  go_enter Yasv.func6, Yasv.ntmps6
  go_wp2
  go_ret
  exact ⟨rfl, Below.refl _ _⟩

set_option maxRecDepth 100000 in
set_option maxHeartbeats 4000000 in
theorem walk_core (N b off len cap : Nat) (O A B : Nat → Nat) (X : Int) (w : World) (hN : N ≤ 65535) (hl : len ≤ 1024) (hb : b < w.heap.size)
    (hO : ∀ i, i < len → w.cell? ⟨b, off + i * 3, none⟩ = some (.int .u8 (O i : Nat)) ∧ w.cell? ⟨b, off + i * 3 + 1, none⟩ = some (.int .u32 (A i : Nat)) ∧ w.cell? ⟨b, off + i * 3 + 2, none⟩ = some (.int .u32 (B i : Nat)) ∧ O i ≤ 255 ∧ A i ≤ 4294967295 ∧ B i ≤ 4294967295) :
    Calls Yasv.prog 6 #[.int .u16 (N : Nat), .slice (some ⟨b, off, none⟩) len cap, .int .i64 X] w fun e w' => e = .returned (.bool true) ∧ Below w.heap.size w w' := by
  have HO : Aside (∀ i, i < len → w.cell? ⟨b, off + i * 3, none⟩ = some (.int .u8 (O i : Nat)) ∧ w.cell? ⟨b, off + i * 3 + 1, none⟩ = some (.int .u32 (A i : Nat)) ∧ w.cell? ⟨b, off + i * 3 + 2, none⟩ = some (.int .u32 (B i : Nat)) ∧ O i ≤ 255 ∧ A i ≤ 4294967295 ∧ B i ≤ 4294967295) := hO
  clear hO
  have hd : decide (1024 < (len : Int)) = false := decide_eq_false (by omega)
  go_enter Yasv.func6, Yasv.ntmps6
  go_wp2_with fail
  rw [show ((N : Int) % 301) = ((N % 301 : Nat) : Int) from by omega]
  have hm : N % 301 < 301 := Nat.mod_lt _ (by omega)
  generalize N % 301 = m at hm ⊢
  refine (new_any m _ (by omega)).mono ?_
  rintro e w1 ⟨ps, pb, zb, rfl, hps, hpb, hzb, hS, hW⟩
  have hmk := run_make_row' (P := Yasv.prog) 26 3 (.int .i64 0) 8 Yasv.underlying26 Yasv.info3 rfl .i64 .i64 m (by omega) (by omega)
  have HS : Aside (SetsAt w1 ps pb zb m (fresh m) ∧ Within (fun _ => False) w w1) := ⟨hS, hW⟩
  clear hS hW
  go_wp2
  have hlp : w1.heap.size ≠ ps := by have := HS.out.1.st.lt; omega
  have hlq : w1.heap.size ≠ pb := by have := HS.out.1.pr.lt; omega
  have hlz : w1.heap.size ≠ zb := by have := HS.out.1.zr.lt; omega
  have hl1 : w.heap.size ≤ w1.heap.size := HS.out.2.size
  have hn3 : ¬ three ps pb zb w1.heap.size := by rintro (e | e | e) <;> omega
  go_loopg [11] m (fun g v wr => ∃ k : Nat, k ≤ m ∧ m - k ≤ g ∧ v = .int .i64 (k : Nat) ∧ RowN wr w1.heap.size m (fillTo k) ∧ SetsAt wr ps pb zb m (fresh m) ∧ Below w.heap.size w wr)
  case atStart => exact ⟨0, Nat.zero_le _, Nat.le_refl _, rfl, fill_start (rowN_made w1 m), HS.out.1.alloc _, (HS.out.2.below (Nat.le_refl _) (fun _ h => h.elim)).alloc hl1 _⟩
  case round =>
    obtain ⟨k, hk, hg, rfl, hL, hT, hBl⟩ := hrel
    have Bd : Aside (RowN wr w1.heap.size m (fillTo k) ∧ SetsAt wr ps pb zb m (fresh m) ∧ Below w.heap.size w wr) := ⟨hL, hT, hBl⟩
    clear hT hBl
    by_cases hlt : k < m
    · have kc := hL.cell hlt
      have kf := hL.frozen k
      clear hL
      go_wp2
      go_roundg (m - (k + 1))
      case measure => omega
      case rel => exact ⟨k + 1, by omega, by omega, by go_num, fill_step Bd.out.1 hlt, Bd.out.2.1.setOther hn3 _, Bd.out.2.2.setCell hl1 _⟩
    · clear hL
      rcases Nat.lt_or_ge 0 m with hm0 | hm0
      · have Bd2 : Aside (RowN wr w1.heap.size m (fun i => i) ∧ SetsAt wr ps pb zb m (fresh m) ∧ Below w.heap.size w wr) := ⟨fill_end Bd.out.1 (by omega), Bd.out.2⟩
        clear Bd HS
        go_wp2
        go_loopg [12] len (fun g vk wx => ∃ (k : Nat) (t : St) (f : Nat → Nat), k ≤ len ∧ len - k ≤ g ∧ vk = .int .i64 (k : Nat) ∧ Inv m t ∧ LabOk m f t.R ∧ RowN wx w1.heap.size m f ∧ SetsAt wx ps pb zb m t ∧ Below w.heap.size w wx)
        case atStart => exact ⟨0, fresh m, fun i => i, Nat.zero_le _, Nat.le_refl _, rfl, inv_fresh m, labOk_fresh m, Bd2.out⟩
        case round =>
          clear Bd2
          obtain ⟨k, t, f, hk, hg, rfl, hI, hLab, hL, hT, hBl⟩ := hrel
          by_cases hlt : k < len
          · have co : wr.cell? ⟨b, off + k * 3, none⟩ = some (.int .u8 (O k : Nat)) := (hBl.cell (p := ⟨b, off + k * 3, none⟩) hb).trans (HO.out k hlt).1
            have ca : wr.cell? ⟨b, off + k * 3 + 1, none⟩ = some (.int .u32 (A k : Nat)) := (hBl.cell (p := ⟨b, off + k * 3 + 1, none⟩) hb).trans (HO.out k hlt).2.1
            have cb : wr.cell? ⟨b, off + k * 3 + 2, none⟩ = some (.int .u32 (B k : Nat)) := (hBl.cell (p := ⟨b, off + k * 3 + 2, none⟩) hb).trans (HO.out k hlt).2.2.1
            obtain ⟨_, _, _, bo, ba, bb⟩ := HO.out k hlt
            have Bd : Aside (Inv m t ∧ LabOk m f t.R ∧ RowN wr w1.heap.size m f ∧ SetsAt wr ps pb zb m t ∧ Below w.heap.size w wr) := ⟨hI, hLab, hL, hT, hBl⟩
            clear hI hLab hL hT hBl
            generalize A k = av at ca ba
            generalize B k = bv at cb bb
            generalize O k = ov at co bo
            have x0 : (0 : Int) ≤ (av : Int) % (m : Int) := Int.emod_nonneg _ (by omega)
            have x1 : (av : Int) % (m : Int) < (m : Int) := Int.emod_lt_of_pos _ (by omega)
            have y0 : (0 : Int) ≤ (bv : Int) % (m : Int) := Int.emod_nonneg _ (by omega)
            have y1 : (bv : Int) % (m : Int) < (m : Int) := Int.emod_lt_of_pos _ (by omega)
            by_cases hpar : ov % 2 = 0
            · go_wp2_with fail
              rw [← Int.natCast_emod, ← Int.natCast_emod]
              have hx : av % m < m := Nat.mod_lt _ hm0
              have hy : bv % m < m := Nat.mod_lt _ hm0
              clear x0 x1 y0 y1
              generalize av % m = x at hx ⊢
              generalize bv % m = y at hy ⊢
              refine (union_any ps pb zb m t x y _ Bd.out.1 (by omega) (Bd.out.2.2.2.1.alloc _)).mono ?_
              rintro e w2 ⟨rfl, hT2, hW2⟩
              have hL2 : RowN w2 w1.heap.size m f := (Bd.out.2.2.1.alloc _).within hW2 hn3
              have hB2 : Below w.heap.size w w2 := (Bd.out.2.2.2.2.alloc (by have := Bd.out.2.2.2.2.size; omega) _).trans (hW2.below (by have := Bd.out.2.2.2.2.size; simp; omega) (by rintro q (e | e | e) <;> omega))
              have hLab := Bd.out.2.1
              have hI2 := inv_union Bd.out.1 (x : Int) (y : Int)
              have hJ := joined_union (s := t) hx hy
              have cx := hL2.cell hx
              have cy := hL2.cell hy
              clear co ca cb Bd hW2
              by_cases e : f x = f y
              · have hLab2 := hLab.joined hx hy (joined_same e) hJ
                have Bd : Aside (Inv m (t.union m x y) ∧ LabOk m f (t.union m x y).R ∧ RowN w2 w1.heap.size m f ∧ SetsAt w2 ps pb zb m (t.union m x y) ∧ Below w.heap.size w w2) := ⟨hI2, hLab2, hL2, hT2, hB2⟩
                clear hT2 hI2 hLab hLab2 hL2 hB2 hJ
                rw [e] at cx
                clear e
                go_wp2
                go_roundg (len - (k + 1))
                case measure => omega
                case rel => exact ⟨k + 1, t.union m x y, f, by omega, by omega, by go_num, Bd.out⟩
              · have hfne : ((f x : Int) != (f y : Int)) = true := by rw [bne_iff_ne]; omega
                by_cases hsw : f y < f x
                · have hLab2 := hLab.joined hx hy (joined_relab m f y x).symm hJ
                  have Bd : Aside (Inv m (t.union m x y) ∧ LabOk m (relab f (f y) (f x)) (t.union m x y).R ∧ RowN w2 w1.heap.size m f ∧ SetsAt w2 ps pb zb m (t.union m x y) ∧ Below w.heap.size w w2) := ⟨hI2, hLab2, hL2, hT2, hB2⟩
                  clear hT2 hI2 hLab hLab2 hL2 hB2 hJ e
                  go_wp2
                  go_loopg [20] m (fun g v wy => ∃ i : Nat, i ≤ m ∧ m - i ≤ g ∧ v = .int .i64 (i : Nat) ∧ RowN wy w1.heap.size m (turnTo f (f y) (f x) i) ∧ SetsAt wy ps pb zb m (t.union m x y) ∧ Below w.heap.size w wy)
                  case atStart => exact ⟨0, Nat.zero_le _, Nat.le_refl _, rfl, turn_start Bd.out.2.2.1, Bd.out.2.2.2.1, Bd.out.2.2.2.2⟩
                  case round =>
                    obtain ⟨i, hi, hgi, rfl, hL, hT, hBl⟩ := hrel
                    have Bi : Aside (RowN wr w1.heap.size m (turnTo f (f y) (f x) i) ∧ SetsAt wr ps pb zb m (t.union m x y) ∧ Below w.heap.size w wr) := ⟨hL, hT, hBl⟩
                    clear hT hBl cx cy
                    by_cases hil : i < m
                    · have kc := hL.cell hil
                      rw [turn_at] at kc
                      have kf := hL.frozen i
                      clear hL
                      by_cases e : f i = (f x)
                      · have e' : ((f i : Int) == ((f x) : Int)) = true := by rw [beq_iff_eq]; omega
                        have E : Aside (f i = (f x)) := e
                        clear e
                        go_wp2
                        go_roundg (m - (i + 1))
                        case measure => omega
                        case rel => exact ⟨i + 1, by omega, by omega, by go_num, turn_hit Bi.out.1 E.out, Bi.out.2.1.setOther hn3 _, Bi.out.2.2.setCell hl1 _⟩
                      · have e' : ((f i : Int) == ((f x) : Int)) = false := by rw [beq_eq_false_iff_ne]; omega
                        have E : Aside (f i ≠ (f x)) := e
                        clear e
                        go_wp2
                        go_roundg (m - (i + 1))
                        case measure => omega
                        case rel => exact ⟨i + 1, by omega, by omega, by go_num, turn_miss Bi.out.1 E.out, Bi.out.2⟩
                    · clear hL
                      go_wp2
                      go_roundg (len - (k + 1))
                      case measure => omega
                      case rel => exact ⟨k + 1, t.union m x y, relab f (f y) (f x), by omega, by omega, by go_num, Bd.out.1, Bd.out.2.1, turn_end Bi.out.1 (by omega), Bi.out.2⟩
                · have hLab2 := hLab.joined hx hy (joined_relab m f x y) hJ
                  have Bd : Aside (Inv m (t.union m x y) ∧ LabOk m (relab f (f x) (f y)) (t.union m x y).R ∧ RowN w2 w1.heap.size m f ∧ SetsAt w2 ps pb zb m (t.union m x y) ∧ Below w.heap.size w w2) := ⟨hI2, hLab2, hL2, hT2, hB2⟩
                  clear hT2 hI2 hLab hLab2 hL2 hB2 hJ e
                  go_wp2
                  go_loopg [20] m (fun g v wy => ∃ i : Nat, i ≤ m ∧ m - i ≤ g ∧ v = .int .i64 (i : Nat) ∧ RowN wy w1.heap.size m (turnTo f (f x) (f y) i) ∧ SetsAt wy ps pb zb m (t.union m x y) ∧ Below w.heap.size w wy)
                  case atStart => exact ⟨0, Nat.zero_le _, Nat.le_refl _, rfl, turn_start Bd.out.2.2.1, Bd.out.2.2.2.1, Bd.out.2.2.2.2⟩
                  case round =>
                    obtain ⟨i, hi, hgi, rfl, hL, hT, hBl⟩ := hrel
                    have Bi : Aside (RowN wr w1.heap.size m (turnTo f (f x) (f y) i) ∧ SetsAt wr ps pb zb m (t.union m x y) ∧ Below w.heap.size w wr) := ⟨hL, hT, hBl⟩
                    clear hT hBl cx cy
                    by_cases hil : i < m
                    · have kc := hL.cell hil
                      rw [turn_at] at kc
                      have kf := hL.frozen i
                      clear hL
                      by_cases e : f i = (f y)
                      · have e' : ((f i : Int) == ((f y) : Int)) = true := by rw [beq_iff_eq]; omega
                        have E : Aside (f i = (f y)) := e
                        clear e
                        go_wp2
                        go_roundg (m - (i + 1))
                        case measure => omega
                        case rel => exact ⟨i + 1, by omega, by omega, by go_num, turn_hit Bi.out.1 E.out, Bi.out.2.1.setOther hn3 _, Bi.out.2.2.setCell hl1 _⟩
                      · have e' : ((f i : Int) == ((f y) : Int)) = false := by rw [beq_eq_false_iff_ne]; omega
                        have E : Aside (f i ≠ (f y)) := e
                        clear e
                        go_wp2
                        go_roundg (m - (i + 1))
                        case measure => omega
                        case rel => exact ⟨i + 1, by omega, by omega, by go_num, turn_miss Bi.out.1 E.out, Bi.out.2⟩
                    · clear hL
                      go_wp2
                      go_roundg (len - (k + 1))
                      case measure => omega
                      case rel => exact ⟨k + 1, t.union m x y, relab f (f x) (f y), by omega, by omega, by go_num, Bd.out.1, Bd.out.2.1, turn_end Bi.out.1 (by omega), Bi.out.2⟩
            · go_wp2_with fail
              rw [← Int.natCast_emod]
              have hx : av % m < m := Nat.mod_lt _ hm0
              clear x0 x1 y0 y1
              generalize av % m = x at hx ⊢
              refine (comp_in ps pb zb m t x _ Bd.out.1 (by omega) (Bd.out.2.2.2.1.alloc _)  hx).mono ?_
              rintro e w2 ⟨rfl, t2, hR2, hc2, hI2, hT2, hW2⟩
              have Bd2 : Aside (Inv m t2 ∧ LabOk m f t2.R ∧ RowN w2 w1.heap.size m f ∧ SetsAt w2 ps pb zb m t2 ∧ Below w.heap.size w w2) := ⟨hI2, by rw [hR2]; exact Bd.out.2.1, (Bd.out.2.2.1.alloc _).within hW2 hn3, hT2, (Bd.out.2.2.2.2.alloc (by have := Bd.out.2.2.2.2.size; omega) _).trans (hW2.below (by have := Bd.out.2.2.2.2.size; simp; omega) (by rintro q (e | e | e) <;> omega))⟩
              clear hR2 hc2 hI2 hT2 hW2 Bd co ca cb
              go_wp2
              go_roundg (len - (k + 1))
              case measure => omega
              case rel => exact ⟨k + 1, t2, f, by omega, by omega, by go_num, Bd2.out⟩

          · clear HO
            have k0 := hT.c0
            have Bd : Aside (Inv m t ∧ LabOk m f t.R ∧ RowN wr w1.heap.size m f ∧ SetsAt wr ps pb zb m t ∧ Below w.heap.size w wr) := ⟨hI, hLab, hL, hT, hBl⟩
            clear hI hLab hL hT hBl hmk
            go_wp2_with fail
            refine (qad_copy pb m (fun i => (t.P i : Int)) _ (by omega) (Cells.of_row Bd.out.2.2.2.1.pr)).mono ?_
            rintro e wa ⟨g1, rfl, hg1, hC1, hWa⟩
            have hTa := Bd.out.2.2.2.1.within hWa (fun _ _ e => e)
            have k1 := hTa.c1
            have Ba : Aside (Inv m t ∧ LabOk m f t.R ∧ RowN wa w1.heap.size m f ∧ SetsAt wa ps pb zb m t ∧ Below w.heap.size w wa ∧ Cells wa g1 m (fun i => (t.P i : Int))) := ⟨Bd.out.1, Bd.out.2.1, Bd.out.2.2.1.within hWa (fun e => e), hTa, Bd.out.2.2.2.2.trans (hWa.below (by have := Bd.out.2.2.2.2.size; omega) (fun _ e => e.elim)), Cells.of_row hC1⟩
            clear hTa hC1 hWa Bd k0
            go_wp2_with fail
            refine (qad_copy zb m (fun i => (t.Z i : Int)) _ (by omega) (Cells.of_row Ba.out.2.2.2.1.zr)).mono ?_
            rintro e wb ⟨g2, rfl, hg2, hC2, hWb⟩
            have hTb := Ba.out.2.2.2.1.within hWb (fun _ _ e => e)
            have k0 := hTb.c0
            have k1 := hTb.c1
            have k2 := hTb.c2
            have Bb : Aside (Inv m t ∧ LabOk m f t.R ∧ RowN wb w1.heap.size m f ∧ SetsAt wb ps pb zb m t ∧ Below w.heap.size w wb ∧ Cells wb g1 m (fun i => (t.P i : Int)) ∧ Cells wb g2 m (fun i => (t.Z i : Int))) :=
              ⟨Ba.out.1, Ba.out.2.1, Ba.out.2.2.1.within hWb (fun e => e), hTb, Ba.out.2.2.2.2.1.trans (hWb.below (by have := Ba.out.2.2.2.2.1.size; omega) (fun _ e => e.elim)), Ba.out.2.2.2.2.2.within hWb (fun e => e), Cells.of_row hC2⟩
            clear hTb hC2 hWb Ba
            go_wp2_with fail
            by_cases hXin : 0 ≤ X ∧ X < (m : Int)
            · obtain ⟨x, rfl⟩ := Int.eq_ofNat_of_zero_le hXin.1
              have hx : x < m := by omega
              refine (sizeOf_in ps pb zb m t x _ Bb.out.1 (by omega) Bb.out.2.2.2.1 hx).mono ?_
              rintro e wc ⟨rfl, rfl⟩
              rw [size_count Bb.out.1 Bb.out.2.1 hx]
              go_wp2_with fail
              refine (qad_eq g1 pb m m m (fun i => (t.P i : Int)) _ (by omega) Bb.out.2.2.2.2.2.1 (Cells.of_row Bb.out.2.2.2.1.pr)).mono ?_
              rintro e wd ⟨rfl, q1, rfl⟩
              go_wp2_with fail
              refine (qad_eq g2 zb m m m (fun i => (t.Z i : Int)) _ (by omega) (Bb.out.2.2.2.2.2.2.drewN q1) ((Cells.of_row Bb.out.2.2.2.1.zr).drewN q1)).mono ?_
              rintro e wd ⟨rfl, q2, rfl⟩
              have cx := Bb.out.2.2.1.cell hx
              go_wp2
              go_loopg [26, 27] m (fun g vw vi wy => ∃ i q : Nat, i ≤ m ∧ m - i ≤ g ∧ vi = .int .i64 (i : Nat) ∧ vw = .int .i64 (cnt i (fun j => f j == f x) : Nat) ∧ wy = wc.drewN q)
              case atStart => exact ⟨0, q1 + q2, Nat.zero_le _, Nat.le_refl _, rfl, rfl, rfl⟩
              case round =>
                obtain ⟨i, q, hi, hgi, rfl, rfl, rfl⟩ := hrel
                have hcb := cnt_le (fun j => f j == f x) i
                by_cases hil : i < m
                · have ci := Bb.out.2.2.1.cell hil
                  by_cases e : f i = f x
                  · have e' : ((f i : Int) == (f x : Int)) = true := by rw [beq_iff_eq]; omega
                    have E : Aside (cnt (i + 1) (fun j => f j == f x) = cnt i (fun j => f j == f x) + 1) := by
                      show cnt i _ + (if (f i == f x) = true then 1 else 0) = _
                      rw [if_pos (by simp [e])]
                    clear e
                    go_wp2_with fail
                    go_region
                    go_wp2
                    go_roundg (m - (i + 1))
                    case measure => omega
                    case rel => exact ⟨i + 1, q + 1, by omega, by omega, by go_num, by rw [E.out]; go_num, rfl⟩
                  · have e' : ((f i : Int) == (f x : Int)) = false := by rw [beq_eq_false_iff_ne]; omega
                    have E : Aside (cnt (i + 1) (fun j => f j == f x) = cnt i (fun j => f j == f x)) := by
                      show cnt i _ + (if (f i == f x) = true then 1 else 0) = _
                      rw [if_neg (by simp [e])]
                      rfl
                    clear e
                    go_wp2_with fail
                    go_region
                    go_wp2
                    go_roundg (m - (i + 1))
                    case measure => omega
                    case rel => exact ⟨i + 1, q + 1, by omega, by omega, by go_num, by rw [E.out], rfl⟩
                · have hie : i = m := by omega
                  subst hie
                  go_wp2
                  go_ret
                  exact ⟨rfl, below_draws Bb.out.2.2.2.2.1 _⟩
            · have hXout : X < 0 ∨ (m : Int) ≤ X := by omega
              refine (sizeOf_out ps pb zb m t X _ (by omega) Bb.out.2.2.2.1 hXout).mono ?_
              rintro e wc ⟨rfl, rfl⟩
              go_wp2_with fail
              refine (qad_eq g1 pb m m m (fun i => (t.P i : Int)) _ (by omega) Bb.out.2.2.2.2.2.1 (Cells.of_row Bb.out.2.2.2.1.pr)).mono ?_
              rintro e wd ⟨rfl, q1, rfl⟩
              go_wp2_with fail
              refine (qad_eq g2 zb m m m (fun i => (t.Z i : Int)) _ (by omega) (Bb.out.2.2.2.2.2.2.drewN q1) ((Cells.of_row Bb.out.2.2.2.1.zr).drewN q1)).mono ?_
              rintro e wd ⟨rfl, q2, rfl⟩
              rcases (show X < 0 ∨ (0 ≤ X ∧ (m : Int) ≤ X) from by omega) with hX1 | hX1
              all_goals
                go_wp2
                go_ret
                exact ⟨rfl, below_draws Bb.out.2.2.2.2.1 _⟩
      · obtain ⟨t, f, hI, hLab, hL, hT, hBl⟩ : ∃ (t : St) (f : Nat → Nat), Inv m t ∧ LabOk m f t.R ∧ RowN wr w1.heap.size m f ∧ SetsAt wr ps pb zb m t ∧ Below w.heap.size w wr := ⟨fresh m, fun i => i, inv_fresh m, labOk_fresh m, fill_end Bd.out.1 (by omega), Bd.out.2⟩
        clear Bd HS HO
        have k0 := hT.c0
        have Bd : Aside (Inv m t ∧ LabOk m f t.R ∧ RowN wr w1.heap.size m f ∧ SetsAt wr ps pb zb m t ∧ Below w.heap.size w wr) := ⟨hI, hLab, hL, hT, hBl⟩
        clear hI hLab hL hT hBl hmk
        go_wp2_with fail
        refine (qad_copy pb m (fun i => (t.P i : Int)) _ (by omega) (Cells.of_row Bd.out.2.2.2.1.pr)).mono ?_
        rintro e wa ⟨g1, rfl, hg1, hC1, hWa⟩
        have hTa := Bd.out.2.2.2.1.within hWa (fun _ _ e => e)
        have k1 := hTa.c1
        have Ba : Aside (Inv m t ∧ LabOk m f t.R ∧ RowN wa w1.heap.size m f ∧ SetsAt wa ps pb zb m t ∧ Below w.heap.size w wa ∧ Cells wa g1 m (fun i => (t.P i : Int))) := ⟨Bd.out.1, Bd.out.2.1, Bd.out.2.2.1.within hWa (fun e => e), hTa, Bd.out.2.2.2.2.trans (hWa.below (by have := Bd.out.2.2.2.2.size; omega) (fun _ e => e.elim)), Cells.of_row hC1⟩
        clear hTa hC1 hWa Bd k0
        go_wp2_with fail
        refine (qad_copy zb m (fun i => (t.Z i : Int)) _ (by omega) (Cells.of_row Ba.out.2.2.2.1.zr)).mono ?_
        rintro e wb ⟨g2, rfl, hg2, hC2, hWb⟩
        have hTb := Ba.out.2.2.2.1.within hWb (fun _ _ e => e)
        have k0 := hTb.c0
        have k1 := hTb.c1
        have k2 := hTb.c2
        have Bb : Aside (Inv m t ∧ LabOk m f t.R ∧ RowN wb w1.heap.size m f ∧ SetsAt wb ps pb zb m t ∧ Below w.heap.size w wb ∧ Cells wb g1 m (fun i => (t.P i : Int)) ∧ Cells wb g2 m (fun i => (t.Z i : Int))) :=
          ⟨Ba.out.1, Ba.out.2.1, Ba.out.2.2.1.within hWb (fun e => e), hTb, Ba.out.2.2.2.2.1.trans (hWb.below (by have := Ba.out.2.2.2.2.1.size; omega) (fun _ e => e.elim)), Ba.out.2.2.2.2.2.within hWb (fun e => e), Cells.of_row hC2⟩
        clear hTb hC2 hWb Ba
        go_wp2_with fail
        have hXout : X < 0 ∨ (m : Int) ≤ X := by omega
        refine (sizeOf_out ps pb zb m t X _ (by omega) Bb.out.2.2.2.1 hXout).mono ?_
        rintro e wc ⟨rfl, rfl⟩
        go_wp2_with fail
        refine (qad_eq g1 pb m m m (fun i => (t.P i : Int)) _ (by omega) Bb.out.2.2.2.2.2.1 (Cells.of_row Bb.out.2.2.2.1.pr)).mono ?_
        rintro e wd ⟨rfl, q1, rfl⟩
        go_wp2_with fail
        refine (qad_eq g2 zb m m m (fun i => (t.Z i : Int)) _ (by omega) (Bb.out.2.2.2.2.2.2.drewN q1) ((Cells.of_row Bb.out.2.2.2.1.zr).drewN q1)).mono ?_
        rintro e wd ⟨rfl, q2, rfl⟩
        rcases (show X < 0 ∨ (0 ≤ X ∧ (m : Int) ≤ X) from by omega) with hX1 | hX1
        all_goals
          go_wp2
          go_ret
          exact ⟨rfl, below_draws Bb.out.2.2.2.2.1 _⟩

set_option maxRecDepth 100000 in
set_option maxHeartbeats 4000000 in
theorem walk_empty (N : Nat) (ao : Option Addr) (len cap : Nat) (X : Int) (w : World) (hN : N ≤ 65535) (hl0 : len ≤ 0) :
    Calls Yasv.prog 6 #[.int .u16 (N : Nat), .slice ao len cap, .int .i64 X] w fun e w' => e = .returned (.bool true) ∧ Below w.heap.size w w' := by
  have hl : len ≤ 1024 := by omega
  have hd : decide (1024 < (len : Int)) = false := decide_eq_false (by omega)
  go_enter Yasv.func6, Yasv.ntmps6
  go_wp2_with fail
  rw [show ((N : Int) % 301) = ((N % 301 : Nat) : Int) from by omega]
  have hm : N % 301 < 301 := Nat.mod_lt _ (by omega)
  generalize N % 301 = m at hm ⊢
  refine (new_any m _ (by omega)).mono ?_
  rintro e w1 ⟨ps, pb, zb, rfl, hps, hpb, hzb, hS, hW⟩
  have hmk := run_make_row' (P := Yasv.prog) 26 3 (.int .i64 0) 8 Yasv.underlying26 Yasv.info3 rfl .i64 .i64 m (by omega) (by omega)
  have HS : Aside (SetsAt w1 ps pb zb m (fresh m) ∧ Within (fun _ => False) w w1) := ⟨hS, hW⟩
  clear hS hW
  go_wp2
  have hlp : w1.heap.size ≠ ps := by have := HS.out.1.st.lt; omega
  have hlq : w1.heap.size ≠ pb := by have := HS.out.1.pr.lt; omega
  have hlz : w1.heap.size ≠ zb := by have := HS.out.1.zr.lt; omega
  have hl1 : w.heap.size ≤ w1.heap.size := HS.out.2.size
  have hn3 : ¬ three ps pb zb w1.heap.size := by rintro (e | e | e) <;> omega
  go_loopg [11] m (fun g v wr => ∃ k : Nat, k ≤ m ∧ m - k ≤ g ∧ v = .int .i64 (k : Nat) ∧ RowN wr w1.heap.size m (fillTo k) ∧ SetsAt wr ps pb zb m (fresh m) ∧ Below w.heap.size w wr)
  case atStart => exact ⟨0, Nat.zero_le _, Nat.le_refl _, rfl, fill_start (rowN_made w1 m), HS.out.1.alloc _, (HS.out.2.below (Nat.le_refl _) (fun _ h => h.elim)).alloc hl1 _⟩
  case round =>
    obtain ⟨k, hk, hg, rfl, hL, hT, hBl⟩ := hrel
    have Bd : Aside (RowN wr w1.heap.size m (fillTo k) ∧ SetsAt wr ps pb zb m (fresh m) ∧ Below w.heap.size w wr) := ⟨hL, hT, hBl⟩
    clear hT hBl
    by_cases hlt : k < m
    · have kc := hL.cell hlt
      have kf := hL.frozen k
      clear hL
      go_wp2
      go_roundg (m - (k + 1))
      case measure => omega
      case rel => exact ⟨k + 1, by omega, by omega, by go_num, fill_step Bd.out.1 hlt, Bd.out.2.1.setOther hn3 _, Bd.out.2.2.setCell hl1 _⟩
    · clear hL
      rcases Nat.lt_or_ge 0 m with hm0 | hm0
      · have Bd2 : Aside (RowN wr w1.heap.size m (fun i => i) ∧ SetsAt wr ps pb zb m (fresh m) ∧ Below w.heap.size w wr) := ⟨fill_end Bd.out.1 (by omega), Bd.out.2⟩
        clear Bd HS
        go_wp2
        go_loopg [12] len (fun g vk wx => ∃ (k : Nat) (t : St) (f : Nat → Nat), k ≤ len ∧ len - k ≤ g ∧ vk = .int .i64 (k : Nat) ∧ Inv m t ∧ LabOk m f t.R ∧ RowN wx w1.heap.size m f ∧ SetsAt wx ps pb zb m t ∧ Below w.heap.size w wx)
        case atStart => exact ⟨0, fresh m, fun i => i, Nat.zero_le _, Nat.le_refl _, rfl, inv_fresh m, labOk_fresh m, Bd2.out⟩
        case round =>
          clear Bd2
          obtain ⟨k, t, f, hk, hg, rfl, hI, hLab, hL, hT, hBl⟩ := hrel
          by_cases hlt : k < len
          · exfalso; omega
          · skip
            have k0 := hT.c0
            have Bd : Aside (Inv m t ∧ LabOk m f t.R ∧ RowN wr w1.heap.size m f ∧ SetsAt wr ps pb zb m t ∧ Below w.heap.size w wr) := ⟨hI, hLab, hL, hT, hBl⟩
            clear hI hLab hL hT hBl hmk
            go_wp2_with fail
            refine (qad_copy pb m (fun i => (t.P i : Int)) _ (by omega) (Cells.of_row Bd.out.2.2.2.1.pr)).mono ?_
            rintro e wa ⟨g1, rfl, hg1, hC1, hWa⟩
            have hTa := Bd.out.2.2.2.1.within hWa (fun _ _ e => e)
            have k1 := hTa.c1
            have Ba : Aside (Inv m t ∧ LabOk m f t.R ∧ RowN wa w1.heap.size m f ∧ SetsAt wa ps pb zb m t ∧ Below w.heap.size w wa ∧ Cells wa g1 m (fun i => (t.P i : Int))) := ⟨Bd.out.1, Bd.out.2.1, Bd.out.2.2.1.within hWa (fun e => e), hTa, Bd.out.2.2.2.2.trans (hWa.below (by have := Bd.out.2.2.2.2.size; omega) (fun _ e => e.elim)), Cells.of_row hC1⟩
            clear hTa hC1 hWa Bd k0
            go_wp2_with fail
            refine (qad_copy zb m (fun i => (t.Z i : Int)) _ (by omega) (Cells.of_row Ba.out.2.2.2.1.zr)).mono ?_
            rintro e wb ⟨g2, rfl, hg2, hC2, hWb⟩
            have hTb := Ba.out.2.2.2.1.within hWb (fun _ _ e => e)
            have k0 := hTb.c0
            have k1 := hTb.c1
            have k2 := hTb.c2
            have Bb : Aside (Inv m t ∧ LabOk m f t.R ∧ RowN wb w1.heap.size m f ∧ SetsAt wb ps pb zb m t ∧ Below w.heap.size w wb ∧ Cells wb g1 m (fun i => (t.P i : Int)) ∧ Cells wb g2 m (fun i => (t.Z i : Int))) :=
              ⟨Ba.out.1, Ba.out.2.1, Ba.out.2.2.1.within hWb (fun e => e), hTb, Ba.out.2.2.2.2.1.trans (hWb.below (by have := Ba.out.2.2.2.2.1.size; omega) (fun _ e => e.elim)), Ba.out.2.2.2.2.2.within hWb (fun e => e), Cells.of_row hC2⟩
            clear hTb hC2 hWb Ba
            go_wp2_with fail
            by_cases hXin : 0 ≤ X ∧ X < (m : Int)
            · obtain ⟨x, rfl⟩ := Int.eq_ofNat_of_zero_le hXin.1
              have hx : x < m := by omega
              refine (sizeOf_in ps pb zb m t x _ Bb.out.1 (by omega) Bb.out.2.2.2.1 hx).mono ?_
              rintro e wc ⟨rfl, rfl⟩
              rw [size_count Bb.out.1 Bb.out.2.1 hx]
              go_wp2_with fail
              refine (qad_eq g1 pb m m m (fun i => (t.P i : Int)) _ (by omega) Bb.out.2.2.2.2.2.1 (Cells.of_row Bb.out.2.2.2.1.pr)).mono ?_
              rintro e wd ⟨rfl, q1, rfl⟩
              go_wp2_with fail
              refine (qad_eq g2 zb m m m (fun i => (t.Z i : Int)) _ (by omega) (Bb.out.2.2.2.2.2.2.drewN q1) ((Cells.of_row Bb.out.2.2.2.1.zr).drewN q1)).mono ?_
              rintro e wd ⟨rfl, q2, rfl⟩
              have cx := Bb.out.2.2.1.cell hx
              go_wp2
              go_loopg [26, 27] m (fun g vw vi wy => ∃ i q : Nat, i ≤ m ∧ m - i ≤ g ∧ vi = .int .i64 (i : Nat) ∧ vw = .int .i64 (cnt i (fun j => f j == f x) : Nat) ∧ wy = wc.drewN q)
              case atStart => exact ⟨0, q1 + q2, Nat.zero_le _, Nat.le_refl _, rfl, rfl, rfl⟩
              case round =>
                obtain ⟨i, q, hi, hgi, rfl, rfl, rfl⟩ := hrel
                have hcb := cnt_le (fun j => f j == f x) i
                by_cases hil : i < m
                · have ci := Bb.out.2.2.1.cell hil
                  by_cases e : f i = f x
                  · have e' : ((f i : Int) == (f x : Int)) = true := by rw [beq_iff_eq]; omega
                    have E : Aside (cnt (i + 1) (fun j => f j == f x) = cnt i (fun j => f j == f x) + 1) := by
                      show cnt i _ + (if (f i == f x) = true then 1 else 0) = _
                      rw [if_pos (by simp [e])]
                    clear e
                    go_wp2_with fail
                    go_region
                    go_wp2
                    go_roundg (m - (i + 1))
                    case measure => omega
                    case rel => exact ⟨i + 1, q + 1, by omega, by omega, by go_num, by rw [E.out]; go_num, rfl⟩
                  · have e' : ((f i : Int) == (f x : Int)) = false := by rw [beq_eq_false_iff_ne]; omega
                    have E : Aside (cnt (i + 1) (fun j => f j == f x) = cnt i (fun j => f j == f x)) := by
                      show cnt i _ + (if (f i == f x) = true then 1 else 0) = _
                      rw [if_neg (by simp [e])]
                      rfl
                    clear e
                    go_wp2_with fail
                    go_region
                    go_wp2
                    go_roundg (m - (i + 1))
                    case measure => omega
                    case rel => exact ⟨i + 1, q + 1, by omega, by omega, by go_num, by rw [E.out], rfl⟩
                · have hie : i = m := by omega
                  subst hie
                  go_wp2
                  go_ret
                  exact ⟨rfl, below_draws Bb.out.2.2.2.2.1 _⟩
            · have hXout : X < 0 ∨ (m : Int) ≤ X := by omega
              refine (sizeOf_out ps pb zb m t X _ (by omega) Bb.out.2.2.2.1 hXout).mono ?_
              rintro e wc ⟨rfl, rfl⟩
              go_wp2_with fail
              refine (qad_eq g1 pb m m m (fun i => (t.P i : Int)) _ (by omega) Bb.out.2.2.2.2.2.1 (Cells.of_row Bb.out.2.2.2.1.pr)).mono ?_
              rintro e wd ⟨rfl, q1, rfl⟩
              go_wp2_with fail
              refine (qad_eq g2 zb m m m (fun i => (t.Z i : Int)) _ (by omega) (Bb.out.2.2.2.2.2.2.drewN q1) ((Cells.of_row Bb.out.2.2.2.1.zr).drewN q1)).mono ?_
              rintro e wd ⟨rfl, q2, rfl⟩
              rcases (show X < 0 ∨ (0 ≤ X ∧ (m : Int) ≤ X) from by omega) with hX1 | hX1
              all_goals
                go_wp2
                go_ret
                exact ⟨rfl, below_draws Bb.out.2.2.2.2.1 _⟩
      · obtain ⟨t, f, hI, hLab, hL, hT, hBl⟩ : ∃ (t : St) (f : Nat → Nat), Inv m t ∧ LabOk m f t.R ∧ RowN wr w1.heap.size m f ∧ SetsAt wr ps pb zb m t ∧ Below w.heap.size w wr := ⟨fresh m, fun i => i, inv_fresh m, labOk_fresh m, fill_end Bd.out.1 (by omega), Bd.out.2⟩
        clear Bd HS
        have k0 := hT.c0
        have Bd : Aside (Inv m t ∧ LabOk m f t.R ∧ RowN wr w1.heap.size m f ∧ SetsAt wr ps pb zb m t ∧ Below w.heap.size w wr) := ⟨hI, hLab, hL, hT, hBl⟩
        clear hI hLab hL hT hBl hmk
        go_wp2_with fail
        refine (qad_copy pb m (fun i => (t.P i : Int)) _ (by omega) (Cells.of_row Bd.out.2.2.2.1.pr)).mono ?_
        rintro e wa ⟨g1, rfl, hg1, hC1, hWa⟩
        have hTa := Bd.out.2.2.2.1.within hWa (fun _ _ e => e)
        have k1 := hTa.c1
        have Ba : Aside (Inv m t ∧ LabOk m f t.R ∧ RowN wa w1.heap.size m f ∧ SetsAt wa ps pb zb m t ∧ Below w.heap.size w wa ∧ Cells wa g1 m (fun i => (t.P i : Int))) := ⟨Bd.out.1, Bd.out.2.1, Bd.out.2.2.1.within hWa (fun e => e), hTa, Bd.out.2.2.2.2.trans (hWa.below (by have := Bd.out.2.2.2.2.size; omega) (fun _ e => e.elim)), Cells.of_row hC1⟩
        clear hTa hC1 hWa Bd k0
        go_wp2_with fail
        refine (qad_copy zb m (fun i => (t.Z i : Int)) _ (by omega) (Cells.of_row Ba.out.2.2.2.1.zr)).mono ?_
        rintro e wb ⟨g2, rfl, hg2, hC2, hWb⟩
        have hTb := Ba.out.2.2.2.1.within hWb (fun _ _ e => e)
        have k0 := hTb.c0
        have k1 := hTb.c1
        have k2 := hTb.c2
        have Bb : Aside (Inv m t ∧ LabOk m f t.R ∧ RowN wb w1.heap.size m f ∧ SetsAt wb ps pb zb m t ∧ Below w.heap.size w wb ∧ Cells wb g1 m (fun i => (t.P i : Int)) ∧ Cells wb g2 m (fun i => (t.Z i : Int))) :=
          ⟨Ba.out.1, Ba.out.2.1, Ba.out.2.2.1.within hWb (fun e => e), hTb, Ba.out.2.2.2.2.1.trans (hWb.below (by have := Ba.out.2.2.2.2.1.size; omega) (fun _ e => e.elim)), Ba.out.2.2.2.2.2.within hWb (fun e => e), Cells.of_row hC2⟩
        clear hTb hC2 hWb Ba
        go_wp2_with fail
        have hXout : X < 0 ∨ (m : Int) ≤ X := by omega
        refine (sizeOf_out ps pb zb m t X _ (by omega) Bb.out.2.2.2.1 hXout).mono ?_
        rintro e wc ⟨rfl, rfl⟩
        go_wp2_with fail
        refine (qad_eq g1 pb m m m (fun i => (t.P i : Int)) _ (by omega) Bb.out.2.2.2.2.2.1 (Cells.of_row Bb.out.2.2.2.1.pr)).mono ?_
        rintro e wd ⟨rfl, q1, rfl⟩
        go_wp2_with fail
        refine (qad_eq g2 zb m m m (fun i => (t.Z i : Int)) _ (by omega) (Bb.out.2.2.2.2.2.2.drewN q1) ((Cells.of_row Bb.out.2.2.2.1.zr).drewN q1)).mono ?_
        rintro e wd ⟨rfl, q2, rfl⟩
        rcases (show X < 0 ∨ (0 ≤ X ∧ (m : Int) ≤ X) from by omega) with hX1 | hX1
        all_goals
          go_wp2
          go_ret
          exact ⟨rfl, below_draws Bb.out.2.2.2.2.1 _⟩

end Go.Proofs.Ymwhas.Qad
