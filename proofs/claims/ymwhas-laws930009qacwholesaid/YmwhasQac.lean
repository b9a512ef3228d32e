/-
  THE WALK of LawS930009QACWhole.
-/
import Derived.Test.YmwhasUnion
import Derived.Test.YmwhasComp
import Derived.Test.YmwhasNew
import Derived.Test.YmwhasQacAux
namespace Go.Proofs.Ymwhas.Qac
open Go.RowKit
set_option linter.unusedVariables false

set_option maxRecDepth 100000 in
set_option maxHeartbeats 1000000 in
theorem walk_long (N : Int) (ao : Option Addr) (len cap : Nat) (X Y : Int) (w : World) (hl : 1024 < len) (hm : len ≤ 9223372036854775807) :
    Calls Yasv.prog 4 #[.int .i64 N, .slice ao len cap, .int .i64 X, .int .i64 Y] w fun e w' => e = .returned (.bool true) ∧ Below w.heap.size w w' := by
  go_enter Yasv.func4, Yasv.ntmps4
  go_wp2
  go_ret
  exact ⟨rfl, Below.refl _ _⟩

theorem wrap_pos (N : Int) : 0 ≤ IntKind.u64.wrap N := by
  simp [IntKind.wrap, IntKind.signed, IntKind.bits]
  omega

set_option maxRecDepth 100000 in
set_option maxHeartbeats 4000000 in
theorem walk_core (N : Int) (b off len cap : Nat) (O A B : Nat → Nat) (X Y : Int) (w : World) (hl : len ≤ 1024) (hb : b < w.heap.size)
    (hO : ∀ i, i < len → w.cell? ⟨b, off + i * 3, none⟩ = some (.int .u8 (O i : Nat)) ∧ w.cell? ⟨b, off + i * 3 + 1, none⟩ = some (.int .u64 (A i : Nat)) ∧ w.cell? ⟨b, off + i * 3 + 2, none⟩ = some (.int .u64 (B i : Nat)) ∧ O i ≤ 255) :
    Calls Yasv.prog 4 #[.int .i64 N, .slice (some ⟨b, off, none⟩) len cap, .int .i64 X, .int .i64 Y] w fun e w' => e = .returned (.bool true) ∧ Below w.heap.size w w' := by
  have HO : Aside (∀ i, i < len → w.cell? ⟨b, off + i * 3, none⟩ = some (.int .u8 (O i : Nat)) ∧ w.cell? ⟨b, off + i * 3 + 1, none⟩ = some (.int .u64 (A i : Nat)) ∧ w.cell? ⟨b, off + i * 3 + 2, none⟩ = some (.int .u64 (B i : Nat)) ∧ O i ≤ 255) := hO
  clear hO
  have hd : decide (1024 < (len : Int)) = false := decide_eq_false (by omega)
  have hU := wrap_pos N
  go_enter Yasv.func4, Yasv.ntmps4
  go_wp2_with fail
  generalize IntKind.u64.wrap N = U at hU ⊢
  obtain ⟨V, rfl⟩ := Int.eq_ofNat_of_zero_le hU
  rw [show ((V : Int) % 300) = ((V % 300 : Nat) : Int) from by omega]
  have hm : V % 300 < 300 := Nat.mod_lt _ (by omega)
  generalize V % 300 = m at hm ⊢
  refine (new_any m _ (by omega)).mono ?_
  rintro e w1 ⟨ps, pb, zb, rfl, hps, hpb, hzb, hS, hW⟩
  have hmk := run_make_row' (P := Yasv.prog) 26 3 (.int .i64 0) 8 Yasv.underlying26 Yasv.info3 rfl .i64 .i64 m (by omega) (by omega)
  have HS : Aside (SetsAt w1 ps pb zb m (fresh m) ∧ Within (fun _ => False) w w1) := ⟨hS, hW⟩
  clear hS hW
  go_wp2
  have hlp : w1.heap.size ≠ ps := by have := HS.out.1.st.lt; omega
  have hlq : w1.heap.size ≠ pb := by have := HS.out.1.pr.lt; omega
  have hlz : w1.heap.size ≠ zb := by have := HS.out.1.zr.lt; omega
  have hl1 : w.heap.size ≤ w1.heap.size := HS.out.2.size
  have hn3 : ¬ three ps pb zb w1.heap.size := by rintro (e | e | e) <;> omega
  go_loopg [13] m (fun g v wr => ∃ k : Nat, k ≤ m ∧ m - k ≤ g ∧ v = .int .i64 (k : Nat) ∧ RowN wr w1.heap.size m (fillTo k) ∧ SetsAt wr ps pb zb m (fresh m) ∧ Below w.heap.size w wr)
  case atStart => exact ⟨0, Nat.zero_le _, Nat.le_refl _, rfl, fill_start (rowN_made w1 m), HS.out.1.alloc _, (HS.out.2.below (Nat.le_refl _) (fun _ h => h.elim)).alloc hl1 _⟩
  case round =>
    obtain ⟨k, hk, hg, rfl, hL, hT, hBl⟩ := hrel
    have Bd : Aside (RowN wr w1.heap.size m (fillTo k) ∧ SetsAt wr ps pb zb m (fresh m) ∧ Below w.heap.size w wr) := ⟨hL, hT, hBl⟩
    clear hT hBl
    by_cases hlt : k < m
    · have kc := hL.cell hlt
      have kf := hL.frozen k
      clear hL
      go_wp2
      go_roundg (m - (k + 1))
      case measure => omega
      case rel => exact ⟨k + 1, by omega, by omega, by go_num, fill_step Bd.out.1 hlt, Bd.out.2.1.setOther hn3 _, Bd.out.2.2.setCell hl1 _⟩
    · clear hL
      rcases Nat.lt_or_ge 0 m with hm0 | hm0
      · have Bd2 : Aside (RowN wr w1.heap.size m (fun i => i) ∧ SetsAt wr ps pb zb m (fresh m) ∧ Below w.heap.size w wr) := ⟨fill_end Bd.out.1 (by omega), Bd.out.2⟩
        clear Bd HS
        go_wp2
        go_loopg [56] len (fun g vk wx => ∃ (k : Nat) (t : St) (f : Nat → Nat), k ≤ len ∧ len - k ≤ g ∧ vk = .int .i64 (k : Nat) ∧ Inv m t ∧ LabOk m f t.R ∧ RowN wx w1.heap.size m f ∧ SetsAt wx ps pb zb m t ∧ Below w.heap.size w wx)
        case atStart => exact ⟨0, fresh m, fun i => i, Nat.zero_le _, Nat.le_refl _, rfl, inv_fresh m, labOk_fresh m, Bd2.out⟩
        case round =>
          clear Bd2
          obtain ⟨k, t, f, hk, hg, rfl, hI, hLab, hL, hT, hBl⟩ := hrel
          by_cases hlt : k < len
          · have co : wr.cell? ⟨b, off + k * 3, none⟩ = some (.int .u8 (O k : Nat)) := (hBl.cell (p := ⟨b, off + k * 3, none⟩) hb).trans (HO.out k hlt).1
            have ca : wr.cell? ⟨b, off + k * 3 + 1, none⟩ = some (.int .u64 (A k : Nat)) := (hBl.cell (p := ⟨b, off + k * 3 + 1, none⟩) hb).trans (HO.out k hlt).2.1
            have cb : wr.cell? ⟨b, off + k * 3 + 2, none⟩ = some (.int .u64 (B k : Nat)) := (hBl.cell (p := ⟨b, off + k * 3 + 2, none⟩) hb).trans (HO.out k hlt).2.2.1
            have bo := (HO.out k hlt).2.2.2
            have Bd : Aside (Inv m t ∧ LabOk m f t.R ∧ RowN wr w1.heap.size m f ∧ SetsAt wr ps pb zb m t ∧ Below w.heap.size w wr) := ⟨hI, hLab, hL, hT, hBl⟩
            clear hI hLab hL hT hBl
            generalize A k = av at ca
            generalize B k = bv at cb
            generalize O k = ov at co bo
            have x0 : (0 : Int) ≤ (av : Int) % (m : Int) := Int.emod_nonneg _ (by omega)
            have x1 : (av : Int) % (m : Int) < (m : Int) := Int.emod_lt_of_pos _ (by omega)
            have y0 : (0 : Int) ≤ (bv : Int) % (m : Int) := Int.emod_nonneg _ (by omega)
            have y1 : (bv : Int) % (m : Int) < (m : Int) := Int.emod_lt_of_pos _ (by omega)
            by_cases hpar : ov % 2 = 0
            · go_wp2_with fail
              rw [← Int.natCast_emod, ← Int.natCast_emod]
              have hx : av % m < m := Nat.mod_lt _ hm0
              have hy : bv % m < m := Nat.mod_lt _ hm0
              clear x0 x1 y0 y1
              generalize av % m = x at hx ⊢
              generalize bv % m = y at hy ⊢
              refine (union_any ps pb zb m t x y _ Bd.out.1 (by omega) (Bd.out.2.2.2.1.alloc _)).mono ?_
              rintro e w2 ⟨rfl, hT2, hW2⟩
              have hB2 : Below w.heap.size w w2 := (Bd.out.2.2.2.2.alloc (by have := Bd.out.2.2.2.2.size; omega) _).trans (hW2.below (by have := Bd.out.2.2.2.2.size; simp; omega) (by rintro q (e | e | e) <;> omega))
              have Bd2 : Aside (Inv m (t.union m x y) ∧ LabOk m (relab f (f x) (f y)) (t.union m x y).R ∧ RowN w2 w1.heap.size m f ∧ SetsAt w2 ps pb zb m (t.union m x y) ∧ Below w.heap.size w w2) :=
                ⟨inv_union Bd.out.1 (x : Int) (y : Int), Bd.out.2.1.joined hx hy (joined_relab m f x y) (joined_union (s := t) hx hy), (Bd.out.2.2.1.alloc _).within hW2 hn3, hT2, hB2⟩
              clear hT2 hW2 hB2 Bd co ca cb
              go_wp2_with fail
              refine (qac_join w1.heap.size m x y f _ (by omega) hx hy Bd2.out.2.2.1).mono ?_
              rintro e w3 ⟨rfl, hL3, hW3⟩
              have Bd3 : Aside (Inv m (t.union m x y) ∧ LabOk m (relab f (f x) (f y)) (t.union m x y).R ∧ RowN w3 w1.heap.size m (relab f (f x) (f y)) ∧ SetsAt w3 ps pb zb m (t.union m x y) ∧ Below w.heap.size w w3) :=
                ⟨Bd2.out.1, Bd2.out.2.1, hL3, Bd2.out.2.2.2.1.within hW3 (fun q hq e => hn3 (by rw [← e]; exact hq)), Bd2.out.2.2.2.2.trans (hW3.below (by have := Bd2.out.2.2.2.2.size; omega) (fun q e => by omega))⟩
              clear hL3 hW3 Bd2
              go_wp2
              go_roundg (len - (k + 1))
              case measure => omega
              case rel => exact ⟨k + 1, t.union m x y, relab f (f x) (f y), by omega, by omega, by go_num, Bd3.out⟩
            · go_wp2_with fail
              rw [← Int.natCast_emod]
              have hx : av % m < m := Nat.mod_lt _ hm0
              clear x0 x1 y0 y1
              generalize av % m = x at hx ⊢
              refine (comp_in ps pb zb m t x _ Bd.out.1 (by omega) (Bd.out.2.2.2.1.alloc _)  hx).mono ?_
              rintro e w2 ⟨rfl, t2, hR2, hc2, hI2, hT2, hW2⟩
              have Bd2 : Aside (Inv m t2 ∧ LabOk m f t2.R ∧ RowN w2 w1.heap.size m f ∧ SetsAt w2 ps pb zb m t2 ∧ Below w.heap.size w w2) := ⟨hI2, by rw [hR2]; exact Bd.out.2.1, (Bd.out.2.2.1.alloc _).within hW2 hn3, hT2, (Bd.out.2.2.2.2.alloc (by have := Bd.out.2.2.2.2.size; omega) _).trans (hW2.below (by have := Bd.out.2.2.2.2.size; simp; omega) (by rintro q (e | e | e) <;> omega))⟩
              clear hR2 hc2 hI2 hT2 hW2 Bd co ca cb
              go_wp2
              go_roundg (len - (k + 1))
              case measure => omega
              case rel => exact ⟨k + 1, t2, f, by omega, by omega, by go_num, Bd2.out⟩
          · clear HO
            have k0 := hT.c0
            have Bd : Aside (Inv m t ∧ LabOk m f t.R ∧ RowN wr w1.heap.size m f ∧ SetsAt wr ps pb zb m t ∧ Below w.heap.size w wr) := ⟨hI, hLab, hL, hT, hBl⟩
            clear hI hLab hL hT hBl hmk
            go_wp2_with fail
            refine (clone_any pb m m (fun i => (t.P i : Int)) _ (by omega) (Cells.of_row Bd.out.2.2.2.1.pr)).mono ?_
            rintro e wa ⟨g1, cp1, rfl, hg1, hC1, hWa⟩
            have hTa := Bd.out.2.2.2.1.within hWa (fun _ _ e => e)
            have k1 := hTa.c1
            have Ba : Aside (Inv m t ∧ LabOk m f t.R ∧ RowN wa w1.heap.size m f ∧ SetsAt wa ps pb zb m t ∧ Below w.heap.size w wa ∧ Cells wa g1 m (fun i => (t.P i : Int))) := ⟨Bd.out.1, Bd.out.2.1, Bd.out.2.2.1.within hWa (fun e => e), hTa, Bd.out.2.2.2.2.trans (hWa.below (by have := Bd.out.2.2.2.2.size; omega) (fun _ e => e.elim)), hC1⟩
            clear hTa hC1 hWa Bd k0
            go_wp2_with fail
            refine (clone_any zb m m (fun i => (t.Z i : Int)) _ (by omega) (Cells.of_row Ba.out.2.2.2.1.zr)).mono ?_
            rintro e wb ⟨g2, cp2, rfl, hg2, hC2, hWb⟩
            have hTb := Ba.out.2.2.2.1.within hWb (fun _ _ e => e)
            have k0 := hTb.c0
            have k1 := hTb.c1
            have k2 := hTb.c2
            have Bb : Aside (Inv m t ∧ LabOk m f t.R ∧ RowN wb w1.heap.size m f ∧ SetsAt wb ps pb zb m t ∧ Below w.heap.size w wb ∧ Cells wb g1 m (fun i => (t.P i : Int)) ∧ Cells wb g2 m (fun i => (t.Z i : Int))) :=
              ⟨Ba.out.1, Ba.out.2.1, Ba.out.2.2.1.within hWb (fun e => e), hTb, Ba.out.2.2.2.2.1.trans (hWb.below (by have := Ba.out.2.2.2.2.1.size; omega) (fun _ e => e.elim)), Ba.out.2.2.2.2.2.within hWb (fun e => e), hC2⟩
            clear hTb hC2 hWb Ba
            go_wp2_with fail
            by_cases hin : 0 ≤ X ∧ X < (m : Int) ∧ 0 ≤ Y ∧ Y < (m : Int)
            · obtain ⟨h0, h1, h2, h3⟩ := hin
              obtain ⟨x, rfl⟩ := Int.eq_ofNat_of_zero_le h0
              obtain ⟨y, rfl⟩ := Int.eq_ofNat_of_zero_le h2
              have hx : x < m := by omega
              have hy : y < m := by omega
              refine (same_in ps pb zb m t x y _ Bb.out.1 (by omega) Bb.out.2.2.2.1 hx hy).mono ?_
              rintro e wc ⟨rfl, rfl⟩
              have cx := Bb.out.2.2.1.cell hx
              have cy := Bb.out.2.2.1.cell hy
              rw [show ((t.R x : Int) == (t.R y : Int)) = ((f x : Int) == (f y : Int)) from by
                rw [Bool.eq_iff_iff]; simp only [beq_iff_eq]; have := Bb.out.2.1 x y hx hy; omega]
              go_wp2_with fail
              go_region
              go_wp2_with fail
              refine (equal_true g1 pb m cp1 m (fun i => (t.P i : Int)) _ (by omega) (Bb.out.2.2.2.2.2.1.drewN 1) ((Cells.of_row Bb.out.2.2.2.1.pr).drewN 1)).mono ?_
              rintro e wd ⟨rfl, q1, rfl⟩
              go_wp2_with fail
              refine (equal_true g2 zb m cp2 m (fun i => (t.Z i : Int)) _ (by omega) (Bb.out.2.2.2.2.2.2.drewN _) ((Cells.of_row Bb.out.2.2.2.1.zr).drewN _)).mono ?_
              rintro e wd ⟨rfl, q2, rfl⟩
              go_wp2
              go_ret
              exact ⟨rfl, below_draws Bb.out.2.2.2.2.1 _⟩
            · have hout : ¬ (0 ≤ X ∧ X < (m : Int) ∧ 0 ≤ Y ∧ Y < (m : Int)) := hin
              clear hin
              refine (same_out ps pb zb m t X Y _ Bb.out.1 (by omega) Bb.out.2.2.2.1 hout).mono ?_
              rintro e wc ⟨rfl, rfl⟩
              rcases (show (X < 0 ∨ (0 ≤ X ∧ (m : Int) ≤ X)) ∨ (0 ≤ X ∧ X < (m : Int) ∧ (Y < 0 ∨ (0 ≤ Y ∧ (m : Int) ≤ Y))) from by omega) with hX | ⟨hX1, hX2, hY⟩
              · clear hout
                rcases (show Y < 0 ∨ (0 ≤ Y ∧ (m : Int) ≤ Y) ∨ (0 ≤ Y ∧ Y < (m : Int)) from by omega) with hY | hY | hY
                all_goals
                  rcases hX with hX | hX
                  all_goals
                    go_wp2_with fail
                    refine (equal_true g1 pb m cp1 m (fun i => (t.P i : Int)) _ (by omega) Bb.out.2.2.2.2.2.1 (Cells.of_row Bb.out.2.2.2.1.pr)).mono ?_
                    rintro e wd ⟨rfl, q1, rfl⟩
                    go_wp2_with fail
                    refine (equal_true g2 zb m cp2 m (fun i => (t.Z i : Int)) _ (by omega) (Bb.out.2.2.2.2.2.2.drewN _) ((Cells.of_row Bb.out.2.2.2.1.zr).drewN _)).mono ?_
                    rintro e wd ⟨rfl, q2, rfl⟩
                    go_wp2
                    go_ret
                    exact ⟨rfl, below_draws Bb.out.2.2.2.2.1 _⟩
              · clear hout
                rcases hY with hY | hY
                all_goals
                  go_wp2_with fail
                  refine (equal_true g1 pb m cp1 m (fun i => (t.P i : Int)) _ (by omega) Bb.out.2.2.2.2.2.1 (Cells.of_row Bb.out.2.2.2.1.pr)).mono ?_
                  rintro e wd ⟨rfl, q1, rfl⟩
                  go_wp2_with fail
                  refine (equal_true g2 zb m cp2 m (fun i => (t.Z i : Int)) _ (by omega) (Bb.out.2.2.2.2.2.2.drewN _) ((Cells.of_row Bb.out.2.2.2.1.zr).drewN _)).mono ?_
                  rintro e wd ⟨rfl, q2, rfl⟩
                  go_wp2
                  go_ret
                  exact ⟨rfl, below_draws Bb.out.2.2.2.2.1 _⟩
      · obtain ⟨t, f, hI, hLab, hL, hT, hBl⟩ : ∃ (t : St) (f : Nat → Nat), Inv m t ∧ LabOk m f t.R ∧ RowN wr w1.heap.size m f ∧ SetsAt wr ps pb zb m t ∧ Below w.heap.size w wr := ⟨fresh m, fun i => i, inv_fresh m, labOk_fresh m, fill_end Bd.out.1 (by omega), Bd.out.2⟩
        clear Bd HS HO
        have k0 := hT.c0
        have Bd : Aside (Inv m t ∧ LabOk m f t.R ∧ RowN wr w1.heap.size m f ∧ SetsAt wr ps pb zb m t ∧ Below w.heap.size w wr) := ⟨hI, hLab, hL, hT, hBl⟩
        clear hI hLab hL hT hBl hmk
        go_wp2_with fail
        refine (clone_any pb m m (fun i => (t.P i : Int)) _ (by omega) (Cells.of_row Bd.out.2.2.2.1.pr)).mono ?_
        rintro e wa ⟨g1, cp1, rfl, hg1, hC1, hWa⟩
        have hTa := Bd.out.2.2.2.1.within hWa (fun _ _ e => e)
        have k1 := hTa.c1
        have Ba : Aside (Inv m t ∧ LabOk m f t.R ∧ RowN wa w1.heap.size m f ∧ SetsAt wa ps pb zb m t ∧ Below w.heap.size w wa ∧ Cells wa g1 m (fun i => (t.P i : Int))) := ⟨Bd.out.1, Bd.out.2.1, Bd.out.2.2.1.within hWa (fun e => e), hTa, Bd.out.2.2.2.2.trans (hWa.below (by have := Bd.out.2.2.2.2.size; omega) (fun _ e => e.elim)), hC1⟩
        clear hTa hC1 hWa Bd k0
        go_wp2_with fail
        refine (clone_any zb m m (fun i => (t.Z i : Int)) _ (by omega) (Cells.of_row Ba.out.2.2.2.1.zr)).mono ?_
        rintro e wb ⟨g2, cp2, rfl, hg2, hC2, hWb⟩
        have hTb := Ba.out.2.2.2.1.within hWb (fun _ _ e => e)
        have k0 := hTb.c0
        have k1 := hTb.c1
        have k2 := hTb.c2
        have Bb : Aside (Inv m t ∧ LabOk m f t.R ∧ RowN wb w1.heap.size m f ∧ SetsAt wb ps pb zb m t ∧ Below w.heap.size w wb ∧ Cells wb g1 m (fun i => (t.P i : Int)) ∧ Cells wb g2 m (fun i => (t.Z i : Int))) :=
          ⟨Ba.out.1, Ba.out.2.1, Ba.out.2.2.1.within hWb (fun e => e), hTb, Ba.out.2.2.2.2.1.trans (hWb.below (by have := Ba.out.2.2.2.2.1.size; omega) (fun _ e => e.elim)), Ba.out.2.2.2.2.2.within hWb (fun e => e), hC2⟩
        clear hTb hC2 hWb Ba
        go_wp2_with fail
        have hout : ¬ (0 ≤ X ∧ X < (m : Int) ∧ 0 ≤ Y ∧ Y < (m : Int)) := by omega
        refine (same_out ps pb zb m t X Y _ Bb.out.1 (by omega) Bb.out.2.2.2.1 hout).mono ?_
        rintro e wc ⟨rfl, rfl⟩
        clear hout
        rcases (show X < 0 ∨ (0 ≤ X ∧ (m : Int) ≤ X) from by omega) with hX | hX
        all_goals
          rcases (show Y < 0 ∨ (0 ≤ Y ∧ (m : Int) ≤ Y) from by omega) with hY | hY
          all_goals
            go_wp2_with fail
            refine (equal_true g1 pb m cp1 m (fun i => (t.P i : Int)) _ (by omega) Bb.out.2.2.2.2.2.1 (Cells.of_row Bb.out.2.2.2.1.pr)).mono ?_
            rintro e wd ⟨rfl, q1, rfl⟩
            go_wp2_with fail
            refine (equal_true g2 zb m cp2 m (fun i => (t.Z i : Int)) _ (by omega) (Bb.out.2.2.2.2.2.2.drewN _) ((Cells.of_row Bb.out.2.2.2.1.zr).drewN _)).mono ?_
            rintro e wd ⟨rfl, q2, rfl⟩
            go_wp2
            go_ret
            exact ⟨rfl, below_draws Bb.out.2.2.2.2.1 _⟩

set_option maxRecDepth 100000 in
set_option maxHeartbeats 4000000 in
theorem walk_empty (N : Int) (ao : Option Addr) (len cap : Nat) (X Y : Int) (w : World) (hl0 : len ≤ 0) :
    Calls Yasv.prog 4 #[.int .i64 N, .slice ao len cap, .int .i64 X, .int .i64 Y] w fun e w' => e = .returned (.bool true) ∧ Below w.heap.size w w' := by
  have hl : len ≤ 1024 := by omega
  have hd : decide (1024 < (len : Int)) = false := decide_eq_false (by omega)
  have hU := wrap_pos N
  go_enter Yasv.func4, Yasv.ntmps4
  go_wp2_with fail
  generalize IntKind.u64.wrap N = U at hU ⊢
  obtain ⟨V, rfl⟩ := Int.eq_ofNat_of_zero_le hU
  rw [show ((V : Int) % 300) = ((V % 300 : Nat) : Int) from by omega]
  have hm : V % 300 < 300 := Nat.mod_lt _ (by omega)
  generalize V % 300 = m at hm ⊢
  refine (new_any m _ (by omega)).mono ?_
  rintro e w1 ⟨ps, pb, zb, rfl, hps, hpb, hzb, hS, hW⟩
  have hmk := run_make_row' (P := Yasv.prog) 26 3 (.int .i64 0) 8 Yasv.underlying26 Yasv.info3 rfl .i64 .i64 m (by omega) (by omega)
  have HS : Aside (SetsAt w1 ps pb zb m (fresh m) ∧ Within (fun _ => False) w w1) := ⟨hS, hW⟩
  clear hS hW
  go_wp2
  have hlp : w1.heap.size ≠ ps := by have := HS.out.1.st.lt; omega
  have hlq : w1.heap.size ≠ pb := by have := HS.out.1.pr.lt; omega
  have hlz : w1.heap.size ≠ zb := by have := HS.out.1.zr.lt; omega
  have hl1 : w.heap.size ≤ w1.heap.size := HS.out.2.size
  have hn3 : ¬ three ps pb zb w1.heap.size := by rintro (e | e | e) <;> omega
  go_loopg [13] m (fun g v wr => ∃ k : Nat, k ≤ m ∧ m - k ≤ g ∧ v = .int .i64 (k : Nat) ∧ RowN wr w1.heap.size m (fillTo k) ∧ SetsAt wr ps pb zb m (fresh m) ∧ Below w.heap.size w wr)
  case atStart => exact ⟨0, Nat.zero_le _, Nat.le_refl _, rfl, fill_start (rowN_made w1 m), HS.out.1.alloc _, (HS.out.2.below (Nat.le_refl _) (fun _ h => h.elim)).alloc hl1 _⟩
  case round =>
    obtain ⟨k, hk, hg, rfl, hL, hT, hBl⟩ := hrel
    have Bd : Aside (RowN wr w1.heap.size m (fillTo k) ∧ SetsAt wr ps pb zb m (fresh m) ∧ Below w.heap.size w wr) := ⟨hL, hT, hBl⟩
    clear hT hBl
    by_cases hlt : k < m
    · have kc := hL.cell hlt
      have kf := hL.frozen k
      clear hL
      go_wp2
      go_roundg (m - (k + 1))
      case measure => omega
      case rel => exact ⟨k + 1, by omega, by omega, by go_num, fill_step Bd.out.1 hlt, Bd.out.2.1.setOther hn3 _, Bd.out.2.2.setCell hl1 _⟩
    · clear hL
      rcases Nat.lt_or_ge 0 m with hm0 | hm0
      · have Bd2 : Aside (RowN wr w1.heap.size m (fun i => i) ∧ SetsAt wr ps pb zb m (fresh m) ∧ Below w.heap.size w wr) := ⟨fill_end Bd.out.1 (by omega), Bd.out.2⟩
        clear Bd HS
        go_wp2
        go_loopg [56] len (fun g vk wx => ∃ (k : Nat) (t : St) (f : Nat → Nat), k ≤ len ∧ len - k ≤ g ∧ vk = .int .i64 (k : Nat) ∧ Inv m t ∧ LabOk m f t.R ∧ RowN wx w1.heap.size m f ∧ SetsAt wx ps pb zb m t ∧ Below w.heap.size w wx)
        case atStart => exact ⟨0, fresh m, fun i => i, Nat.zero_le _, Nat.le_refl _, rfl, inv_fresh m, labOk_fresh m, Bd2.out⟩
        case round =>
          clear Bd2
          obtain ⟨k, t, f, hk, hg, rfl, hI, hLab, hL, hT, hBl⟩ := hrel
          by_cases hlt : k < len
          · exfalso; omega
          · skip
            have k0 := hT.c0
            have Bd : Aside (Inv m t ∧ LabOk m f t.R ∧ RowN wr w1.heap.size m f ∧ SetsAt wr ps pb zb m t ∧ Below w.heap.size w wr) := ⟨hI, hLab, hL, hT, hBl⟩
            clear hI hLab hL hT hBl hmk
            go_wp2_with fail
            refine (clone_any pb m m (fun i => (t.P i : Int)) _ (by omega) (Cells.of_row Bd.out.2.2.2.1.pr)).mono ?_
            rintro e wa ⟨g1, cp1, rfl, hg1, hC1, hWa⟩
            have hTa := Bd.out.2.2.2.1.within hWa (fun _ _ e => e)
            have k1 := hTa.c1
            have Ba : Aside (Inv m t ∧ LabOk m f t.R ∧ RowN wa w1.heap.size m f ∧ SetsAt wa ps pb zb m t ∧ Below w.heap.size w wa ∧ Cells wa g1 m (fun i => (t.P i : Int))) := ⟨Bd.out.1, Bd.out.2.1, Bd.out.2.2.1.within hWa (fun e => e), hTa, Bd.out.2.2.2.2.trans (hWa.below (by have := Bd.out.2.2.2.2.size; omega) (fun _ e => e.elim)), hC1⟩
            clear hTa hC1 hWa Bd k0
            go_wp2_with fail
            refine (clone_any zb m m (fun i => (t.Z i : Int)) _ (by omega) (Cells.of_row Ba.out.2.2.2.1.zr)).mono ?_
            rintro e wb ⟨g2, cp2, rfl, hg2, hC2, hWb⟩
            have hTb := Ba.out.2.2.2.1.within hWb (fun _ _ e => e)
            have k0 := hTb.c0
            have k1 := hTb.c1
            have k2 := hTb.c2
            have Bb : Aside (Inv m t ∧ LabOk m f t.R ∧ RowN wb w1.heap.size m f ∧ SetsAt wb ps pb zb m t ∧ Below w.heap.size w wb ∧ Cells wb g1 m (fun i => (t.P i : Int)) ∧ Cells wb g2 m (fun i => (t.Z i : Int))) :=
              ⟨Ba.out.1, Ba.out.2.1, Ba.out.2.2.1.within hWb (fun e => e), hTb, Ba.out.2.2.2.2.1.trans (hWb.below (by have := Ba.out.2.2.2.2.1.size; omega) (fun _ e => e.elim)), Ba.out.2.2.2.2.2.within hWb (fun e => e), hC2⟩
            clear hTb hC2 hWb Ba
            go_wp2_with fail
            by_cases hin : 0 ≤ X ∧ X < (m : Int) ∧ 0 ≤ Y ∧ Y < (m : Int)
            · obtain ⟨h0, h1, h2, h3⟩ := hin
              obtain ⟨x, rfl⟩ := Int.eq_ofNat_of_zero_le h0
              obtain ⟨y, rfl⟩ := Int.eq_ofNat_of_zero_le h2
              have hx : x < m := by omega
              have hy : y < m := by omega
              refine (same_in ps pb zb m t x y _ Bb.out.1 (by omega) Bb.out.2.2.2.1 hx hy).mono ?_
              rintro e wc ⟨rfl, rfl⟩
              have cx := Bb.out.2.2.1.cell hx
              have cy := Bb.out.2.2.1.cell hy
              rw [show ((t.R x : Int) == (t.R y : Int)) = ((f x : Int) == (f y : Int)) from by
                rw [Bool.eq_iff_iff]; simp only [beq_iff_eq]; have := Bb.out.2.1 x y hx hy; omega]
              go_wp2_with fail
              go_region
              go_wp2_with fail
              refine (equal_true g1 pb m cp1 m (fun i => (t.P i : Int)) _ (by omega) (Bb.out.2.2.2.2.2.1.drewN 1) ((Cells.of_row Bb.out.2.2.2.1.pr).drewN 1)).mono ?_
              rintro e wd ⟨rfl, q1, rfl⟩
              go_wp2_with fail
              refine (equal_true g2 zb m cp2 m (fun i => (t.Z i : Int)) _ (by omega) (Bb.out.2.2.2.2.2.2.drewN _) ((Cells.of_row Bb.out.2.2.2.1.zr).drewN _)).mono ?_
              rintro e wd ⟨rfl, q2, rfl⟩
              go_wp2
              go_ret
              exact ⟨rfl, below_draws Bb.out.2.2.2.2.1 _⟩
            · have hout : ¬ (0 ≤ X ∧ X < (m : Int) ∧ 0 ≤ Y ∧ Y < (m : Int)) := hin
              clear hin
              refine (same_out ps pb zb m t X Y _ Bb.out.1 (by omega) Bb.out.2.2.2.1 hout).mono ?_
              rintro e wc ⟨rfl, rfl⟩
              rcases (show (X < 0 ∨ (0 ≤ X ∧ (m : Int) ≤ X)) ∨ (0 ≤ X ∧ X < (m : Int) ∧ (Y < 0 ∨ (0 ≤ Y ∧ (m : Int) ≤ Y))) from by omega) with hX | ⟨hX1, hX2, hY⟩
              · clear hout
                rcases (show Y < 0 ∨ (0 ≤ Y ∧ (m : Int) ≤ Y) ∨ (0 ≤ Y ∧ Y < (m : Int)) from by omega) with hY | hY | hY
                all_goals
                  rcases hX with hX | hX
                  all_goals
                    go_wp2_with fail
                    refine (equal_true g1 pb m cp1 m (fun i => (t.P i : Int)) _ (by omega) Bb.out.2.2.2.2.2.1 (Cells.of_row Bb.out.2.2.2.1.pr)).mono ?_
                    rintro e wd ⟨rfl, q1, rfl⟩
                    go_wp2_with fail
                    refine (equal_true g2 zb m cp2 m (fun i => (t.Z i : Int)) _ (by omega) (Bb.out.2.2.2.2.2.2.drewN _) ((Cells.of_row Bb.out.2.2.2.1.zr).drewN _)).mono ?_
                    rintro e wd ⟨rfl, q2, rfl⟩
                    go_wp2
                    go_ret
                    exact ⟨rfl, below_draws Bb.out.2.2.2.2.1 _⟩
              · clear hout
                rcases hY with hY | hY
                all_goals
                  go_wp2_with fail
                  refine (equal_true g1 pb m cp1 m (fun i => (t.P i : Int)) _ (by omega) Bb.out.2.2.2.2.2.1 (Cells.of_row Bb.out.2.2.2.1.pr)).mono ?_
                  rintro e wd ⟨rfl, q1, rfl⟩
                  go_wp2_with fail
                  refine (equal_true g2 zb m cp2 m (fun i => (t.Z i : Int)) _ (by omega) (Bb.out.2.2.2.2.2.2.drewN _) ((Cells.of_row Bb.out.2.2.2.1.zr).drewN _)).mono ?_
                  rintro e wd ⟨rfl, q2, rfl⟩
                  go_wp2
                  go_ret
                  exact ⟨rfl, below_draws Bb.out.2.2.2.2.1 _⟩
      · obtain ⟨t, f, hI, hLab, hL, hT, hBl⟩ : ∃ (t : St) (f : Nat → Nat), Inv m t ∧ LabOk m f t.R ∧ RowN wr w1.heap.size m f ∧ SetsAt wr ps pb zb m t ∧ Below w.heap.size w wr := ⟨fresh m, fun i => i, inv_fresh m, labOk_fresh m, fill_end Bd.out.1 (by omega), Bd.out.2⟩
        clear Bd HS
        have k0 := hT.c0
        have Bd : Aside (Inv m t ∧ LabOk m f t.R ∧ RowN wr w1.heap.size m f ∧ SetsAt wr ps pb zb m t ∧ Below w.heap.size w wr) := ⟨hI, hLab, hL, hT, hBl⟩
        clear hI hLab hL hT hBl hmk
        go_wp2_with fail
        refine (clone_any pb m m (fun i => (t.P i : Int)) _ (by omega) (Cells.of_row Bd.out.2.2.2.1.pr)).mono ?_
        rintro e wa ⟨g1, cp1, rfl, hg1, hC1, hWa⟩
        have hTa := Bd.out.2.2.2.1.within hWa (fun _ _ e => e)
        have k1 := hTa.c1
        have Ba : Aside (Inv m t ∧ LabOk m f t.R ∧ RowN wa w1.heap.size m f ∧ SetsAt wa ps pb zb m t ∧ Below w.heap.size w wa ∧ Cells wa g1 m (fun i => (t.P i : Int))) := ⟨Bd.out.1, Bd.out.2.1, Bd.out.2.2.1.within hWa (fun e => e), hTa, Bd.out.2.2.2.2.trans (hWa.below (by have := Bd.out.2.2.2.2.size; omega) (fun _ e => e.elim)), hC1⟩
        clear hTa hC1 hWa Bd k0
        go_wp2_with fail
        refine (clone_any zb m m (fun i => (t.Z i : Int)) _ (by omega) (Cells.of_row Ba.out.2.2.2.1.zr)).mono ?_
        rintro e wb ⟨g2, cp2, rfl, hg2, hC2, hWb⟩
        have hTb := Ba.out.2.2.2.1.within hWb (fun _ _ e => e)
        have k0 := hTb.c0
        have k1 := hTb.c1
        have k2 := hTb.c2
        have Bb : Aside (Inv m t ∧ LabOk m f t.R ∧ RowN wb w1.heap.size m f ∧ SetsAt wb ps pb zb m t ∧ Below w.heap.size w wb ∧ Cells wb g1 m (fun i => (t.P i : Int)) ∧ Cells wb g2 m (fun i => (t.Z i : Int))) :=
          ⟨Ba.out.1, Ba.out.2.1, Ba.out.2.2.1.within hWb (fun e => e), hTb, Ba.out.2.2.2.2.1.trans (hWb.below (by have := Ba.out.2.2.2.2.1.size; omega) (fun _ e => e.elim)), Ba.out.2.2.2.2.2.within hWb (fun e => e), hC2⟩
        clear hTb hC2 hWb Ba
        go_wp2_with fail
        have hout : ¬ (0 ≤ X ∧ X < (m : Int) ∧ 0 ≤ Y ∧ Y < (m : Int)) := by omega
        refine (same_out ps pb zb m t X Y _ Bb.out.1 (by omega) Bb.out.2.2.2.1 hout).mono ?_
        rintro e wc ⟨rfl, rfl⟩
        clear hout
        rcases (show X < 0 ∨ (0 ≤ X ∧ (m : Int) ≤ X) from by omega) with hX | hX
        all_goals
          rcases (show Y < 0 ∨ (0 ≤ Y ∧ (m : Int) ≤ Y) from by omega) with hY | hY
          all_goals
            go_wp2_with fail
            refine (equal_true g1 pb m cp1 m (fun i => (t.P i : Int)) _ (by omega) Bb.out.2.2.2.2.2.1 (Cells.of_row Bb.out.2.2.2.1.pr)).mono ?_
            rintro e wd ⟨rfl, q1, rfl⟩
            go_wp2_with fail
            refine (equal_true g2 zb m cp2 m (fun i => (t.Z i : Int)) _ (by omega) (Bb.out.2.2.2.2.2.2.drewN _) ((Cells.of_row Bb.out.2.2.2.1.zr).drewN _)).mono ?_
            rintro e wd ⟨rfl, q2, rfl⟩
            go_wp2
            go_ret
            exact ⟨rfl, below_draws Bb.out.2.2.2.2.1 _⟩

end Go.Proofs.Ymwhas.Qac
