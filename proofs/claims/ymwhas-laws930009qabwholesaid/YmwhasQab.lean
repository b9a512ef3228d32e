/-
  THE WALK of LawS930009QABWhole.
-/
import Derived.Test.YmwhasUnion
import Derived.Test.YmwhasComp
import Derived.Test.YmwhasNew
import Derived.Test.YmwhasQabAux
import Derived.Test.YmwhasRowN
import Derived.Deep.RegionWith
namespace Go.Proofs.Ymwhas.Qab
open Go.RowKit
set_option linter.unusedVariables false

set_option maxRecDepth 100000 in
set_option maxHeartbeats 1000000 in
theorem walk_long (N : Nat) (ao : Option Addr) (len cap : Nat) (X Y : Int) (w : World) (hl : 1024 < len) (hm : len ≤ 9223372036854775807) :
    Calls Yasv.prog 5 #[.int .u16 (N : Nat), .slice ao len cap, .int .i64 X, .int .i64 Y] w fun e w' => e = .returned (.bool true) ∧ Below w.heap.size w w' := by
  go_enter Yasv.func5, Yasv.ntmps5
  go_wp2
  go_ret
  exact ⟨rfl, Below.refl _ _⟩

set_option maxRecDepth 100000 in
set_option maxHeartbeats 4000000 in
theorem walk_core (N b off len cap : Nat) (O : Nat → Nat) (A B : Nat → Int) (X Y : Int) (w : World) (hN : N ≤ 65535) (hl : len ≤ 1024) (hb : b < w.heap.size)
    (hO : ∀ i, i < len → w.cell? ⟨b, off + i * 3, none⟩ = some (.int .u8 (O i : Nat)) ∧ w.cell? ⟨b, off + i * 3 + 1, none⟩ = some (.int .i64 (A i)) ∧ w.cell? ⟨b, off + i * 3 + 2, none⟩ = some (.int .i64 (B i)) ∧ O i ≤ 255) :
    Calls Yasv.prog 5 #[.int .u16 (N : Nat), .slice (some ⟨b, off, none⟩) len cap, .int .i64 X, .int .i64 Y] w fun e w' => e = .returned (.bool true) ∧ Below w.heap.size w w' := by
  have HO : Aside (∀ i, i < len → w.cell? ⟨b, off + i * 3, none⟩ = some (.int .u8 (O i : Nat)) ∧ w.cell? ⟨b, off + i * 3 + 1, none⟩ = some (.int .i64 (A i)) ∧ w.cell? ⟨b, off + i * 3 + 2, none⟩ = some (.int .i64 (B i)) ∧ O i ≤ 255) := hO
  clear hO
  have hd : decide (1024 < (len : Int)) = false := decide_eq_false (by omega)
  go_enter Yasv.func5, Yasv.ntmps5
  go_wp2_with fail
  rw [show ((N : Int) % 4097) = ((N % 4097 : Nat) : Int) from by omega]
  have hm : N % 4097 < 4097 := Nat.mod_lt _ (by omega)
  generalize N % 4097 = m at hm ⊢
  refine (new_any m _ (by omega)).mono ?_
  rintro e w1 ⟨ps, pb, zb, rfl, hps, hpb, hzb, hS, hW⟩
  have hB1 : Below w.heap.size w w1 := hW.below (Nat.le_refl _) (fun _ h => h.elim)
  rcases Nat.lt_or_ge 0 m with hm0 | hm0
  · have Bd2 : Aside (SetsAt w1 ps pb zb m (fresh m) ∧ Below w.heap.size w w1) := ⟨hS, hB1⟩
    clear hS hW hB1
    go_wp2
    go_loopg [12] len (fun g vk wx => ∃ (k : Nat) (t : St), k ≤ len ∧ len - k ≤ g ∧ vk = .int .i64 (k : Nat) ∧ Inv m t ∧ SetsAt wx ps pb zb m t ∧ Below w.heap.size w wx)
    case atStart => exact ⟨0, fresh m, Nat.zero_le _, Nat.le_refl _, rfl, inv_fresh m, Bd2.out⟩
    case round =>
      clear Bd2
      obtain ⟨k, t, hk, hg, rfl, hI, hT, hBl⟩ := hrel
      by_cases hlt : k < len
      · have co : wr.cell? ⟨b, off + k * 3, none⟩ = some (.int .u8 (O k : Nat)) := (hBl.cell (p := ⟨b, off + k * 3, none⟩) hb).trans (HO.out k hlt).1
        have ca : wr.cell? ⟨b, off + k * 3 + 1, none⟩ = some (.int .i64 (A k)) := (hBl.cell (p := ⟨b, off + k * 3 + 1, none⟩) hb).trans (HO.out k hlt).2.1
        have cb : wr.cell? ⟨b, off + k * 3 + 2, none⟩ = some (.int .i64 (B k)) := (hBl.cell (p := ⟨b, off + k * 3 + 2, none⟩) hb).trans (HO.out k hlt).2.2.1
        have bo := (HO.out k hlt).2.2.2
        have Bd : Aside (Inv m t ∧ SetsAt wr ps pb zb m t ∧ Below w.heap.size w wr) := ⟨hI, hT, hBl⟩
        clear hI hT hBl
        generalize A k = av at ca
        generalize B k = bv at cb
        generalize O k = ov at co bo
        by_cases hpar : ov % 2 = 0
        · go_wp2_with fail
          go_region_with (first | (go_at_call 19; refine (qab_clamp _ m _ hm0 (by omega)).mono ?_; rintro e w' ⟨rfl, rfl⟩) | (go_at_call 12; refine (union_any ps pb zb m t _ _ _ Bd.out.1 (by omega) ((Bd.out.2.1.alloc _).drewN 1)).mono ?_; rintro e w2 ⟨rfl, hT2, hW2⟩))
          all_goals
            have Bd2 : Aside (Inv m (t.union m (clampTo av m : Nat) (clampTo bv m : Nat)) ∧ SetsAt w2 ps pb zb m (t.union m (clampTo av m : Nat) (clampTo bv m : Nat)) ∧ Below w.heap.size w w2) :=
              ⟨inv_union Bd.out.1 _ _, hT2, ((Bd.out.2.2.alloc (by have := Bd.out.2.2.size; omega) _).drew).trans (hW2.below (by have := Bd.out.2.2.size; simp; omega) (by rintro q (e | e | e) <;> omega))⟩
            clear hT2 hW2 Bd co ca cb
            go_wp2
            go_roundg (len - (k + 1))
            case measure => omega
            case rel => exact ⟨k + 1, _, by omega, by omega, by go_num, Bd2.out⟩
        · go_wp2_with fail
          refine (qab_clamp _ m _ hm0 (by omega)).mono ?_
          rintro e w2 ⟨rfl, rfl⟩
          have hx := clampTo_lt av hm0
          generalize clampTo av m = x at hx ⊢
          go_wp2_with fail
          refine (comp_in ps pb zb m t x _ Bd.out.1 (by omega) (Bd.out.2.1.alloc _) hx).mono ?_
          rintro e w2 ⟨rfl, t2, hR2, hc2, hI2, hT2, hW2⟩
          have Bd2 : Aside (Inv m t2 ∧ SetsAt w2 ps pb zb m t2 ∧ Below w.heap.size w w2) := ⟨hI2, hT2, (Bd.out.2.2.alloc (by have := Bd.out.2.2.size; omega) _).trans (hW2.below (by have := Bd.out.2.2.size; simp; omega) (by rintro q (e | e | e) <;> omega))⟩
          clear hR2 hc2 hI2 hT2 hW2 Bd co ca cb
          go_wp2
          go_roundg (len - (k + 1))
          case measure => omega
          case rel => exact ⟨k + 1, t2, by omega, by omega, by go_num, Bd2.out⟩
      · clear HO
        have k0 := hT.c0
        have p1 := hT.st.lt
        have p2 := hT.pr.lt
        have p3 := hT.zr.lt
        have Bd : Aside (Inv m t ∧ SetsAt wr ps pb zb m t ∧ Below w.heap.size w wr) := ⟨hI, hT, hBl⟩
        have hc2 := hI.c_le
        clear hI hT hBl
        go_wp2_with fail
        refine (qab_clone pb m (fun i => (t.P i : Int)) _ (by omega) (Cells.of_row Bd.out.2.1.pr)).mono ?_
        rintro e wa ⟨g1, rfl, hg1, hR1, hWa⟩
        have s1 := hWa.size
        have t1 : g1 < wa.heap.size := hR1.lt
        have k1 := (Bd.out.2.1.within hWa (fun _ _ e => e)).c1
        have Ba : Aside (Inv m t ∧ SetsAt wa ps pb zb m t ∧ Below w.heap.size w wa ∧ RowN wa g1 m t.P) := ⟨Bd.out.1, Bd.out.2.1.within hWa (fun _ _ e => e), Bd.out.2.2.trans (hWa.below (by have := Bd.out.2.2.size; omega) (fun _ e => e.elim)), hR1⟩
        clear hR1 hWa Bd k0
        go_wp2_with fail
        refine (qab_clone zb m (fun i => (t.Z i : Int)) _ (by omega) (Cells.of_row Ba.out.2.1.zr)).mono ?_
        rintro e wb ⟨g2, rfl, hg2, hR2, hWb⟩
        have s2 := hWb.size
        have t2 : g2 < wb.heap.size := hR2.lt
        have k2 := (Ba.out.2.1.within hWb (fun _ _ e => e)).c2
        have Bb : Aside (Inv m t ∧ SetsAt wb ps pb zb m t ∧ Below w.heap.size w wb ∧ RowN wb g1 m t.P ∧ RowN wb g2 m t.Z) := ⟨Ba.out.1, Ba.out.2.1.within hWb (fun _ _ e => e), Ba.out.2.2.1.trans (hWb.below (by have := Ba.out.2.2.1.size; omega) (fun _ e => e.elim)), Ba.out.2.2.2.within hWb (fun e => e), hR2⟩
        clear hR2 hWb Ba k1
        go_wp2_with fail
        refine (qab_clone g1 m (fun i => (t.P i : Int)) _ (by omega) (Cells.of_row Bb.out.2.2.2.1)).mono ?_
        rintro e wc ⟨g3, rfl, hg3, hR3, hWc⟩
        have s3 := hWc.size
        have t3 : g3 < wc.heap.size := hR3.lt
        have Bc : Aside (Inv m t ∧ SetsAt wc ps pb zb m t ∧ Below w.heap.size w wc ∧ RowN wc g1 m t.P ∧ RowN wc g2 m t.Z ∧ RowN wc g3 m t.P) := ⟨Bb.out.1, Bb.out.2.1.within hWc (fun _ _ e => e), Bb.out.2.2.1.trans (hWc.below (by have := Bb.out.2.2.1.size; omega) (fun _ e => e.elim)), Bb.out.2.2.2.1.within hWc (fun e => e), Bb.out.2.2.2.2.within hWc (fun e => e), hR3⟩
        clear hR3 hWc Bb k2
        go_wp2_with fail
        refine (qab_clone g2 m (fun i => (t.Z i : Int)) _ (by omega) (Cells.of_row Bc.out.2.2.2.2.1)).mono ?_
        rintro e wd ⟨g4, rfl, hg4, hR4, hWd⟩
        have s4 := hWd.size
        have t4 : g4 < wd.heap.size := hR4.lt
        have Bd : Aside (Inv m t ∧ SetsAt wd ps pb zb m t ∧ Below w.heap.size w wd ∧ RowN wd g1 m t.P ∧ RowN wd g2 m t.Z ∧ RowN wd g3 m t.P ∧ RowN wd g4 m t.Z) := ⟨Bc.out.1, Bc.out.2.1.within hWd (fun _ _ e => e), Bc.out.2.2.1.trans (hWd.below (by have := Bc.out.2.2.1.size; omega) (fun _ e => e.elim)), Bc.out.2.2.2.1.within hWd (fun e => e), Bc.out.2.2.2.2.1.within hWd (fun e => e), Bc.out.2.2.2.2.2.within hWd (fun e => e), hR4⟩
        clear hR4 hWd Bc
        have n3 : ¬ three ps pb zb g3 := by rintro (e | e | e) <;> omega
        have n4 : ¬ three ps pb zb g4 := by rintro (e | e | e) <;> omega
        by_cases hab : 0 ≤ X ∧ X < (m : Int) ∧ 0 ≤ Y ∧ Y < (m : Int)
        · obtain ⟨hx0, hx1, hy0, hy1⟩ := hab
          obtain ⟨x, rfl⟩ := Int.eq_ofNat_of_zero_le hx0
          obtain ⟨y, rfl⟩ := Int.eq_ofNat_of_zero_le hy0
          have hx : x < m := by omega
          have hy : y < m := by omega
          have hc1 := Bd.out.1.c_pos hx
          obtain ⟨ra, EX⟩ : ∃ ra, Aside (t.R x = ra) := ⟨_, rfl⟩
          obtain ⟨rb, EY⟩ : ∃ rb, Aside (t.R y = rb) := ⟨_, rfl⟩
          have hra : ra < m := by rw [← EX.out]; exact Bd.out.1.forest.rlt x hx
          have hrb : rb < m := by rw [← EY.out]; exact Bd.out.1.forest.rlt y hy
          have pra : t.P ra = ra := by rw [← EX.out]; exact Bd.out.1.forest.fixd x hx
          have prb : t.P rb = rb := by rw [← EY.out]; exact Bd.out.1.forest.fixd y hy
          have PR : Aside (t.P ra = ra ∧ t.P rb = rb) := ⟨pra, prb⟩
          clear pra prb
          go_wp2_with fail
          refine (qab_root g1 m x t.P t.Z t.R _ Bd.out.1.forest Bd.out.1.zpos hx (by omega) (Cells.of_row Bd.out.2.2.2.1)).mono ?_
          rintro e wd ⟨rfl, rfl⟩
          rw [EX.out]
          go_wp2_with fail
          refine (qab_root g1 m y t.P t.Z t.R _ Bd.out.1.forest Bd.out.1.zpos hy (by omega) (Cells.of_row Bd.out.2.2.2.1)).mono ?_
          rintro e wd ⟨rfl, rfl⟩
          rw [EY.out]
          by_cases hR : ra = rb
          · subst hR
            go_wp2_with fail
            refine (union_any ps pb zb m t _ _ _ Bd.out.1 (by omega) Bd.out.2.1).mono ?_
            rintro e we ⟨rfl, hT2, hW2⟩
            rw [show t.union m (x : Int) (y : Int) = t from by rw [union_in hx hy, if_pos (by rw [EX.out, EY.out])]] at hT2
            rw [show t.code m (x : Int) (y : Int) = 1 from by unfold St.code; rw [if_pos ⟨by omega, by omega, by omega, by omega⟩, Int.toNat_natCast, Int.toNat_natCast, if_pos (by rw [EX.out, EY.out])]]
            have k0 := hT2.c0
            have k1 := hT2.c1
            have k2 := hT2.c2
            have Be : Aside (SetsAt we ps pb zb m t ∧ Below w.heap.size w we ∧ RowN we g3 m t.P ∧ RowN we g4 m t.Z) :=
              ⟨hT2, Bd.out.2.2.1.trans (hW2.below (by have := Bd.out.2.2.1.size; omega) (by rintro q (e | e | e) <;> omega)), Bd.out.2.2.2.2.2.1.within hW2 n3, Bd.out.2.2.2.2.2.2.within hW2 n4⟩
            clear hT2 hW2 Bd
            go_wp2_with fail
            refine (qab_eq pb g3 m m m (fun i => (t.P i : Int)) _ (by omega) (Cells.of_row Be.out.1.pr) (Cells.of_row Be.out.2.2.1)).mono ?_
            rintro e wf ⟨rfl, q1, rfl⟩
            go_wp2_with fail
            refine (qab_eq zb g4 m m m (fun i => (t.Z i : Int)) _ (by omega) ((Cells.of_row Be.out.1.zr).drewN q1) ((Cells.of_row Be.out.2.2.2).drewN q1)).mono ?_
            rintro e wf ⟨rfl, q2, rfl⟩
            go_wp2
            go_ret
            exact ⟨rfl, below_draws Be.out.2.1 _⟩
          · have hne : ((ra : Int) == (rb : Int)) = false := by rw [beq_eq_false_iff_ne]; omega
            have z1 := Bd.out.2.2.2.2.1.cell hra
            have z2 := Bd.out.2.2.2.2.1.cell hrb
            by_cases hz : t.Z ra < t.Z rb
            · have c3 := Bd.out.2.2.2.2.2.1.cell (i := ra) (by omega)
              have f3 := Bd.out.2.2.2.2.2.1.frozen ra
              have c4 := Bd.out.2.2.2.2.2.2.cell (i := rb) (by omega)
              have f4 := Bd.out.2.2.2.2.2.2.frozen rb
              have hzz := Bd.out.1.sum_le hra hrb PR.out.1 PR.out.2 hR
              go_wp2_with fail
              go_region
              go_wp2_with fail
              go_region
              go_wp2_with fail
              refine (union_any ps pb zb m t _ _ _ Bd.out.1 (by omega) (((Bd.out.2.1.setOther (a := ⟨g3, ra, none⟩) n3 _).setOther (a := ⟨g4, rb, none⟩) n4 _).drewN 2)).mono ?_
              rintro e we ⟨rfl, hT2, hW2⟩
              rw [show t.union m (x : Int) (y : Int) = t.link rb ra from by rw [union_in hx hy, EX.out, EY.out, if_neg hR]; unfold St.merge; rw [if_pos hz]] at hT2
              rw [show t.code m (x : Int) (y : Int) = 0 from by unfold St.code; rw [if_pos ⟨by omega, by omega, by omega, by omega⟩, Int.toNat_natCast, Int.toNat_natCast, EX.out, EY.out, if_neg hR]]
              have e2 : ((t.c - 1 : Nat) : Int) = (t.c : Int) - 1 := by omega
              have k0 := hT2.c0
              have k1 := hT2.c1
              have k2 : we.cell? ⟨ps, 2, none⟩ = some (.int .i64 ((t.c : Int) - 1)) := by rw [← e2]; exact hT2.c2
              have e3 : ((t.Z rb : Int) + (t.Z ra : Int)) = ((t.Z rb + t.Z ra : Nat) : Int) := by omega
              have r3 : RowN we g3 m (t.link rb ra).P := by
                refine RowN.within ?_ hW2 n3
                exact (World.rowIs.setOther (Bd.out.2.2.2.2.2.1.set ra rb) (a := ⟨g4, rb, none⟩) (by show g3 ≠ g4; omega) _)
              have r4 : RowN we g4 m (t.link rb ra).Z := by
                refine RowN.within ?_ hW2 n4
                rw [e3]
                have r := RowN.within Bd.out.2.2.2.2.2.2 (Within.setCell (Within.refl (fun q => q = g3) wd) (p := ⟨g3, ra, none⟩) rfl (.int .i64 (rb : Nat))) (by omega)
                exact r.set rb (t.Z rb + t.Z ra)
              have hBe : Below w.heap.size w we := by
                have hsz := Bd.out.2.2.1.size
                exact (((Bd.out.2.2.1.setCell (p := ⟨g3, ra, none⟩) (by show w.heap.size ≤ g3; omega) _).setCell (p := ⟨g4, rb, none⟩) (by show w.heap.size ≤ g4; omega) _).drew.drew).trans (hW2.below (by simp [World.setCell]; omega) (by rintro q (e | e | e) <;> omega))
              have Be : Aside (SetsAt we ps pb zb m (t.link rb ra) ∧ Below w.heap.size w we ∧ RowN we g3 m (t.link rb ra).P ∧ RowN we g4 m (t.link rb ra).Z) := ⟨hT2, hBe, r3, r4⟩
              clear hT2 hW2 Bd r3 r4 hBe e2 e3 c3 f3 c4 f4 z1 z2
              go_wp2_with fail
              refine (qab_eq pb g3 m m m (fun i => ((t.link rb ra).P i : Int)) _ (by omega) (Cells.of_row Be.out.1.pr) (Cells.of_row Be.out.2.2.1)).mono ?_
              rintro e wf ⟨rfl, q1, rfl⟩
              go_wp2_with fail
              refine (qab_eq zb g4 m m m (fun i => ((t.link rb ra).Z i : Int)) _ (by omega) ((Cells.of_row Be.out.1.zr).drewN q1) ((Cells.of_row Be.out.2.2.2).drewN q1)).mono ?_
              rintro e wf ⟨rfl, q2, rfl⟩
              go_wp2
              go_ret
              exact ⟨rfl, below_draws Be.out.2.1 _⟩
            · have c3 := Bd.out.2.2.2.2.2.1.cell (i := rb) (by omega)
              have f3 := Bd.out.2.2.2.2.2.1.frozen rb
              have c4 := Bd.out.2.2.2.2.2.2.cell (i := ra) (by omega)
              have f4 := Bd.out.2.2.2.2.2.2.frozen ra
              have hzz := Bd.out.1.sum_le hra hrb PR.out.1 PR.out.2 hR
              go_wp2_with fail
              go_region
              go_wp2_with fail
              go_region
              go_wp2_with fail
              refine (union_any ps pb zb m t _ _ _ Bd.out.1 (by omega) (((Bd.out.2.1.setOther (a := ⟨g3, rb, none⟩) n3 _).setOther (a := ⟨g4, ra, none⟩) n4 _).drewN 2)).mono ?_
              rintro e we ⟨rfl, hT2, hW2⟩
              rw [show t.union m (x : Int) (y : Int) = t.link ra rb from by rw [union_in hx hy, EX.out, EY.out, if_neg hR]; unfold St.merge; rw [if_neg hz]] at hT2
              rw [show t.code m (x : Int) (y : Int) = 0 from by unfold St.code; rw [if_pos ⟨by omega, by omega, by omega, by omega⟩, Int.toNat_natCast, Int.toNat_natCast, EX.out, EY.out, if_neg hR]]
              have e2 : ((t.c - 1 : Nat) : Int) = (t.c : Int) - 1 := by omega
              have k0 := hT2.c0
              have k1 := hT2.c1
              have k2 : we.cell? ⟨ps, 2, none⟩ = some (.int .i64 ((t.c : Int) - 1)) := by rw [← e2]; exact hT2.c2
              have e3 : ((t.Z ra : Int) + (t.Z rb : Int)) = ((t.Z ra + t.Z rb : Nat) : Int) := by omega
              have r3 : RowN we g3 m (t.link ra rb).P := by
                refine RowN.within ?_ hW2 n3
                exact (World.rowIs.setOther (Bd.out.2.2.2.2.2.1.set rb ra) (a := ⟨g4, ra, none⟩) (by show g3 ≠ g4; omega) _)
              have r4 : RowN we g4 m (t.link ra rb).Z := by
                refine RowN.within ?_ hW2 n4
                rw [e3]
                have r := RowN.within Bd.out.2.2.2.2.2.2 (Within.setCell (Within.refl (fun q => q = g3) wd) (p := ⟨g3, rb, none⟩) rfl (.int .i64 (ra : Nat))) (by omega)
                exact r.set ra (t.Z ra + t.Z rb)
              have hBe : Below w.heap.size w we := by
                have hsz := Bd.out.2.2.1.size
                exact (((Bd.out.2.2.1.setCell (p := ⟨g3, rb, none⟩) (by show w.heap.size ≤ g3; omega) _).setCell (p := ⟨g4, ra, none⟩) (by show w.heap.size ≤ g4; omega) _).drew.drew).trans (hW2.below (by simp [World.setCell]; omega) (by rintro q (e | e | e) <;> omega))
              have Be : Aside (SetsAt we ps pb zb m (t.link ra rb) ∧ Below w.heap.size w we ∧ RowN we g3 m (t.link ra rb).P ∧ RowN we g4 m (t.link ra rb).Z) := ⟨hT2, hBe, r3, r4⟩
              clear hT2 hW2 Bd r3 r4 hBe e2 e3 c3 f3 c4 f4 z1 z2
              go_wp2_with fail
              refine (qab_eq pb g3 m m m (fun i => ((t.link ra rb).P i : Int)) _ (by omega) (Cells.of_row Be.out.1.pr) (Cells.of_row Be.out.2.2.1)).mono ?_
              rintro e wf ⟨rfl, q1, rfl⟩
              go_wp2_with fail
              refine (qab_eq zb g4 m m m (fun i => ((t.link ra rb).Z i : Int)) _ (by omega) ((Cells.of_row Be.out.1.zr).drewN q1) ((Cells.of_row Be.out.2.2.2).drewN q1)).mono ?_
              rintro e wf ⟨rfl, q2, rfl⟩
              go_wp2
              go_ret
              exact ⟨rfl, below_draws Be.out.2.1 _⟩
        · have HO : Aside (¬ (0 ≤ X ∧ X < (m : Int) ∧ 0 ≤ Y ∧ Y < (m : Int))) := hab
          clear hab
          rcases (show X < 0 ∨ (0 ≤ X ∧ (m : Int) ≤ X) ∨ (0 ≤ X ∧ X < (m : Int) ∧ Y < 0) ∨ (0 ≤ X ∧ X < (m : Int) ∧ 0 ≤ Y ∧ (m : Int) ≤ Y) from by have := HO.out; omega) with hX | hX | hX | hX
          all_goals
            go_wp2_with fail
            refine (union_any ps pb zb m t _ _ _ Bd.out.1 (by omega) Bd.out.2.1).mono ?_
            rintro e we ⟨rfl, hT2, hW2⟩
            rw [union_outr HO.out] at hT2
            rw [show t.code m X Y = 2 from by unfold St.code; rw [if_neg HO.out]]
            have k0 := hT2.c0
            have k1 := hT2.c1
            have k2 := hT2.c2
            have Be : Aside (SetsAt we ps pb zb m t ∧ Below w.heap.size w we ∧ RowN we g3 m t.P ∧ RowN we g4 m t.Z) :=
              ⟨hT2, Bd.out.2.2.1.trans (hW2.below (by have := Bd.out.2.2.1.size; omega) (by rintro q (e | e | e) <;> omega)), Bd.out.2.2.2.2.2.1.within hW2 n3, Bd.out.2.2.2.2.2.2.within hW2 n4⟩
            clear hT2 hW2 Bd
            go_wp2_with fail
            refine (qab_eq pb g3 m m m (fun i => (t.P i : Int)) _ (by omega) (Cells.of_row Be.out.1.pr) (Cells.of_row Be.out.2.2.1)).mono ?_
            rintro e wf ⟨rfl, q1, rfl⟩
            go_wp2_with fail
            refine (qab_eq zb g4 m m m (fun i => (t.Z i : Int)) _ (by omega) ((Cells.of_row Be.out.1.zr).drewN q1) ((Cells.of_row Be.out.2.2.2).drewN q1)).mono ?_
            rintro e wf ⟨rfl, q2, rfl⟩
            go_wp2
            go_ret
            exact ⟨rfl, below_draws Be.out.2.1 _⟩
  · obtain ⟨wr, t, hI, hT, hBl, E⟩ : ∃ (wr : World) (t : St), Inv m t ∧ SetsAt wr ps pb zb m t ∧ Below w.heap.size w wr ∧ Aside (w1 = wr) := ⟨w1, fresh m, inv_fresh m, hS, hB1, rfl⟩
    rw [E.out]
    clear hS hW hB1 HO E
    have k0 := hT.c0
    have p1 := hT.st.lt
    have p2 := hT.pr.lt
    have p3 := hT.zr.lt
    have Bd : Aside (Inv m t ∧ SetsAt wr ps pb zb m t ∧ Below w.heap.size w wr) := ⟨hI, hT, hBl⟩
    have hc2 := hI.c_le
    clear hI hT hBl
    go_wp2_with fail
    refine (qab_clone pb m (fun i => (t.P i : Int)) _ (by omega) (Cells.of_row Bd.out.2.1.pr)).mono ?_
    rintro e wa ⟨g1, rfl, hg1, hR1, hWa⟩
    have s1 := hWa.size
    have t1 : g1 < wa.heap.size := hR1.lt
    have k1 := (Bd.out.2.1.within hWa (fun _ _ e => e)).c1
    have Ba : Aside (Inv m t ∧ SetsAt wa ps pb zb m t ∧ Below w.heap.size w wa ∧ RowN wa g1 m t.P) := ⟨Bd.out.1, Bd.out.2.1.within hWa (fun _ _ e => e), Bd.out.2.2.trans (hWa.below (by have := Bd.out.2.2.size; omega) (fun _ e => e.elim)), hR1⟩
    clear hR1 hWa Bd k0
    go_wp2_with fail
    refine (qab_clone zb m (fun i => (t.Z i : Int)) _ (by omega) (Cells.of_row Ba.out.2.1.zr)).mono ?_
    rintro e wb ⟨g2, rfl, hg2, hR2, hWb⟩
    have s2 := hWb.size
    have t2 : g2 < wb.heap.size := hR2.lt
    have k2 := (Ba.out.2.1.within hWb (fun _ _ e => e)).c2
    have Bb : Aside (Inv m t ∧ SetsAt wb ps pb zb m t ∧ Below w.heap.size w wb ∧ RowN wb g1 m t.P ∧ RowN wb g2 m t.Z) := ⟨Ba.out.1, Ba.out.2.1.within hWb (fun _ _ e => e), Ba.out.2.2.1.trans (hWb.below (by have := Ba.out.2.2.1.size; omega) (fun _ e => e.elim)), Ba.out.2.2.2.within hWb (fun e => e), hR2⟩
    clear hR2 hWb Ba k1
    go_wp2_with fail
    refine (qab_clone g1 m (fun i => (t.P i : Int)) _ (by omega) (Cells.of_row Bb.out.2.2.2.1)).mono ?_
    rintro e wc ⟨g3, rfl, hg3, hR3, hWc⟩
    have s3 := hWc.size
    have t3 : g3 < wc.heap.size := hR3.lt
    have Bc : Aside (Inv m t ∧ SetsAt wc ps pb zb m t ∧ Below w.heap.size w wc ∧ RowN wc g1 m t.P ∧ RowN wc g2 m t.Z ∧ RowN wc g3 m t.P) := ⟨Bb.out.1, Bb.out.2.1.within hWc (fun _ _ e => e), Bb.out.2.2.1.trans (hWc.below (by have := Bb.out.2.2.1.size; omega) (fun _ e => e.elim)), Bb.out.2.2.2.1.within hWc (fun e => e), Bb.out.2.2.2.2.within hWc (fun e => e), hR3⟩
    clear hR3 hWc Bb k2
    go_wp2_with fail
    refine (qab_clone g2 m (fun i => (t.Z i : Int)) _ (by omega) (Cells.of_row Bc.out.2.2.2.2.1)).mono ?_
    rintro e wd ⟨g4, rfl, hg4, hR4, hWd⟩
    have s4 := hWd.size
    have t4 : g4 < wd.heap.size := hR4.lt
    have Bd : Aside (Inv m t ∧ SetsAt wd ps pb zb m t ∧ Below w.heap.size w wd ∧ RowN wd g1 m t.P ∧ RowN wd g2 m t.Z ∧ RowN wd g3 m t.P ∧ RowN wd g4 m t.Z) := ⟨Bc.out.1, Bc.out.2.1.within hWd (fun _ _ e => e), Bc.out.2.2.1.trans (hWd.below (by have := Bc.out.2.2.1.size; omega) (fun _ e => e.elim)), Bc.out.2.2.2.1.within hWd (fun e => e), Bc.out.2.2.2.2.1.within hWd (fun e => e), Bc.out.2.2.2.2.2.within hWd (fun e => e), hR4⟩
    clear hR4 hWd Bc
    have n3 : ¬ three ps pb zb g3 := by rintro (e | e | e) <;> omega
    have n4 : ¬ three ps pb zb g4 := by rintro (e | e | e) <;> omega
    have HO : Aside (¬ (0 ≤ X ∧ X < (m : Int) ∧ 0 ≤ Y ∧ Y < (m : Int))) := by show ¬ _; omega
    rcases (show X < 0 ∨ (0 ≤ X ∧ (m : Int) ≤ X) from by omega) with hX | hX
    all_goals
      go_wp2_with fail
      refine (union_any ps pb zb m t _ _ _ Bd.out.1 (by omega) Bd.out.2.1).mono ?_
      rintro e we ⟨rfl, hT2, hW2⟩
      rw [union_outr HO.out] at hT2
      rw [show t.code m X Y = 2 from by unfold St.code; rw [if_neg HO.out]]
      have k0 := hT2.c0
      have k1 := hT2.c1
      have k2 := hT2.c2
      have Be : Aside (SetsAt we ps pb zb m t ∧ Below w.heap.size w we ∧ RowN we g3 m t.P ∧ RowN we g4 m t.Z) :=
        ⟨hT2, Bd.out.2.2.1.trans (hW2.below (by have := Bd.out.2.2.1.size; omega) (by rintro q (e | e | e) <;> omega)), Bd.out.2.2.2.2.2.1.within hW2 n3, Bd.out.2.2.2.2.2.2.within hW2 n4⟩
      clear hT2 hW2 Bd
      go_wp2_with fail
      refine (qab_eq pb g3 m m m (fun i => (t.P i : Int)) _ (by omega) (Cells.of_row Be.out.1.pr) (Cells.of_row Be.out.2.2.1)).mono ?_
      rintro e wf ⟨rfl, q1, rfl⟩
      go_wp2_with fail
      refine (qab_eq zb g4 m m m (fun i => (t.Z i : Int)) _ (by omega) ((Cells.of_row Be.out.1.zr).drewN q1) ((Cells.of_row Be.out.2.2.2).drewN q1)).mono ?_
      rintro e wf ⟨rfl, q2, rfl⟩
      go_wp2
      go_ret
      exact ⟨rfl, below_draws Be.out.2.1 _⟩

set_option maxRecDepth 100000 in
set_option maxHeartbeats 4000000 in
theorem walk_empty (N : Nat) (ao : Option Addr) (len cap : Nat) (X Y : Int) (w : World) (hN : N ≤ 65535) (hl0 : len ≤ 0) :
    Calls Yasv.prog 5 #[.int .u16 (N : Nat), .slice ao len cap, .int .i64 X, .int .i64 Y] w fun e w' => e = .returned (.bool true) ∧ Below w.heap.size w w' := by
  have hl : len ≤ 1024 := by omega
  have hd : decide (1024 < (len : Int)) = false := decide_eq_false (by omega)
  go_enter Yasv.func5, Yasv.ntmps5
  go_wp2_with fail
  rw [show ((N : Int) % 4097) = ((N % 4097 : Nat) : Int) from by omega]
  have hm : N % 4097 < 4097 := Nat.mod_lt _ (by omega)
  generalize N % 4097 = m at hm ⊢
  refine (new_any m _ (by omega)).mono ?_
  rintro e w1 ⟨ps, pb, zb, rfl, hps, hpb, hzb, hS, hW⟩
  have hB1 : Below w.heap.size w w1 := hW.below (Nat.le_refl _) (fun _ h => h.elim)
  rcases Nat.lt_or_ge 0 m with hm0 | hm0
  · have Bd2 : Aside (SetsAt w1 ps pb zb m (fresh m) ∧ Below w.heap.size w w1) := ⟨hS, hB1⟩
    clear hS hW hB1
    go_wp2
    go_loopg [12] len (fun g vk wx => ∃ (k : Nat) (t : St), k ≤ len ∧ len - k ≤ g ∧ vk = .int .i64 (k : Nat) ∧ Inv m t ∧ SetsAt wx ps pb zb m t ∧ Below w.heap.size w wx)
    case atStart => exact ⟨0, fresh m, Nat.zero_le _, Nat.le_refl _, rfl, inv_fresh m, Bd2.out⟩
    case round =>
      clear Bd2
      obtain ⟨k, t, hk, hg, rfl, hI, hT, hBl⟩ := hrel
      by_cases hlt : k < len
      · exfalso; omega
      · skip
        have k0 := hT.c0
        have p1 := hT.st.lt
        have p2 := hT.pr.lt
        have p3 := hT.zr.lt
        have Bd : Aside (Inv m t ∧ SetsAt wr ps pb zb m t ∧ Below w.heap.size w wr) := ⟨hI, hT, hBl⟩
        have hc2 := hI.c_le
        clear hI hT hBl
        go_wp2_with fail
        refine (qab_clone pb m (fun i => (t.P i : Int)) _ (by omega) (Cells.of_row Bd.out.2.1.pr)).mono ?_
        rintro e wa ⟨g1, rfl, hg1, hR1, hWa⟩
        have s1 := hWa.size
        have t1 : g1 < wa.heap.size := hR1.lt
        have k1 := (Bd.out.2.1.within hWa (fun _ _ e => e)).c1
        have Ba : Aside (Inv m t ∧ SetsAt wa ps pb zb m t ∧ Below w.heap.size w wa ∧ RowN wa g1 m t.P) := ⟨Bd.out.1, Bd.out.2.1.within hWa (fun _ _ e => e), Bd.out.2.2.trans (hWa.below (by have := Bd.out.2.2.size; omega) (fun _ e => e.elim)), hR1⟩
        clear hR1 hWa Bd k0
        go_wp2_with fail
        refine (qab_clone zb m (fun i => (t.Z i : Int)) _ (by omega) (Cells.of_row Ba.out.2.1.zr)).mono ?_
        rintro e wb ⟨g2, rfl, hg2, hR2, hWb⟩
        have s2 := hWb.size
        have t2 : g2 < wb.heap.size := hR2.lt
        have k2 := (Ba.out.2.1.within hWb (fun _ _ e => e)).c2
        have Bb : Aside (Inv m t ∧ SetsAt wb ps pb zb m t ∧ Below w.heap.size w wb ∧ RowN wb g1 m t.P ∧ RowN wb g2 m t.Z) := ⟨Ba.out.1, Ba.out.2.1.within hWb (fun _ _ e => e), Ba.out.2.2.1.trans (hWb.below (by have := Ba.out.2.2.1.size; omega) (fun _ e => e.elim)), Ba.out.2.2.2.within hWb (fun e => e), hR2⟩
        clear hR2 hWb Ba k1
        go_wp2_with fail
        refine (qab_clone g1 m (fun i => (t.P i : Int)) _ (by omega) (Cells.of_row Bb.out.2.2.2.1)).mono ?_
        rintro e wc ⟨g3, rfl, hg3, hR3, hWc⟩
        have s3 := hWc.size
        have t3 : g3 < wc.heap.size := hR3.lt
        have Bc : Aside (Inv m t ∧ SetsAt wc ps pb zb m t ∧ Below w.heap.size w wc ∧ RowN wc g1 m t.P ∧ RowN wc g2 m t.Z ∧ RowN wc g3 m t.P) := ⟨Bb.out.1, Bb.out.2.1.within hWc (fun _ _ e => e), Bb.out.2.2.1.trans (hWc.below (by have := Bb.out.2.2.1.size; omega) (fun _ e => e.elim)), Bb.out.2.2.2.1.within hWc (fun e => e), Bb.out.2.2.2.2.within hWc (fun e => e), hR3⟩
        clear hR3 hWc Bb k2
        go_wp2_with fail
        refine (qab_clone g2 m (fun i => (t.Z i : Int)) _ (by omega) (Cells.of_row Bc.out.2.2.2.2.1)).mono ?_
        rintro e wd ⟨g4, rfl, hg4, hR4, hWd⟩
        have s4 := hWd.size
        have t4 : g4 < wd.heap.size := hR4.lt
        have Bd : Aside (Inv m t ∧ SetsAt wd ps pb zb m t ∧ Below w.heap.size w wd ∧ RowN wd g1 m t.P ∧ RowN wd g2 m t.Z ∧ RowN wd g3 m t.P ∧ RowN wd g4 m t.Z) := ⟨Bc.out.1, Bc.out.2.1.within hWd (fun _ _ e => e), Bc.out.2.2.1.trans (hWd.below (by have := Bc.out.2.2.1.size; omega) (fun _ e => e.elim)), Bc.out.2.2.2.1.within hWd (fun e => e), Bc.out.2.2.2.2.1.within hWd (fun e => e), Bc.out.2.2.2.2.2.within hWd (fun e => e), hR4⟩
        clear hR4 hWd Bc
        have n3 : ¬ three ps pb zb g3 := by rintro (e | e | e) <;> omega
        have n4 : ¬ three ps pb zb g4 := by rintro (e | e | e) <;> omega
        by_cases hab : 0 ≤ X ∧ X < (m : Int) ∧ 0 ≤ Y ∧ Y < (m : Int)
        · obtain ⟨hx0, hx1, hy0, hy1⟩ := hab
          obtain ⟨x, rfl⟩ := Int.eq_ofNat_of_zero_le hx0
          obtain ⟨y, rfl⟩ := Int.eq_ofNat_of_zero_le hy0
          have hx : x < m := by omega
          have hy : y < m := by omega
          have hc1 := Bd.out.1.c_pos hx
          obtain ⟨ra, EX⟩ : ∃ ra, Aside (t.R x = ra) := ⟨_, rfl⟩
          obtain ⟨rb, EY⟩ : ∃ rb, Aside (t.R y = rb) := ⟨_, rfl⟩
          have hra : ra < m := by rw [← EX.out]; exact Bd.out.1.forest.rlt x hx
          have hrb : rb < m := by rw [← EY.out]; exact Bd.out.1.forest.rlt y hy
          have pra : t.P ra = ra := by rw [← EX.out]; exact Bd.out.1.forest.fixd x hx
          have prb : t.P rb = rb := by rw [← EY.out]; exact Bd.out.1.forest.fixd y hy
          have PR : Aside (t.P ra = ra ∧ t.P rb = rb) := ⟨pra, prb⟩
          clear pra prb
          go_wp2_with fail
          refine (qab_root g1 m x t.P t.Z t.R _ Bd.out.1.forest Bd.out.1.zpos hx (by omega) (Cells.of_row Bd.out.2.2.2.1)).mono ?_
          rintro e wd ⟨rfl, rfl⟩
          rw [EX.out]
          go_wp2_with fail
          refine (qab_root g1 m y t.P t.Z t.R _ Bd.out.1.forest Bd.out.1.zpos hy (by omega) (Cells.of_row Bd.out.2.2.2.1)).mono ?_
          rintro e wd ⟨rfl, rfl⟩
          rw [EY.out]
          by_cases hR : ra = rb
          · subst hR
            go_wp2_with fail
            refine (union_any ps pb zb m t _ _ _ Bd.out.1 (by omega) Bd.out.2.1).mono ?_
            rintro e we ⟨rfl, hT2, hW2⟩
            rw [show t.union m (x : Int) (y : Int) = t from by rw [union_in hx hy, if_pos (by rw [EX.out, EY.out])]] at hT2
            rw [show t.code m (x : Int) (y : Int) = 1 from by unfold St.code; rw [if_pos ⟨by omega, by omega, by omega, by omega⟩, Int.toNat_natCast, Int.toNat_natCast, if_pos (by rw [EX.out, EY.out])]]
            have k0 := hT2.c0
            have k1 := hT2.c1
            have k2 := hT2.c2
            have Be : Aside (SetsAt we ps pb zb m t ∧ Below w.heap.size w we ∧ RowN we g3 m t.P ∧ RowN we g4 m t.Z) :=
              ⟨hT2, Bd.out.2.2.1.trans (hW2.below (by have := Bd.out.2.2.1.size; omega) (by rintro q (e | e | e) <;> omega)), Bd.out.2.2.2.2.2.1.within hW2 n3, Bd.out.2.2.2.2.2.2.within hW2 n4⟩
            clear hT2 hW2 Bd
            go_wp2_with fail
            refine (qab_eq pb g3 m m m (fun i => (t.P i : Int)) _ (by omega) (Cells.of_row Be.out.1.pr) (Cells.of_row Be.out.2.2.1)).mono ?_
            rintro e wf ⟨rfl, q1, rfl⟩
            go_wp2_with fail
            refine (qab_eq zb g4 m m m (fun i => (t.Z i : Int)) _ (by omega) ((Cells.of_row Be.out.1.zr).drewN q1) ((Cells.of_row Be.out.2.2.2).drewN q1)).mono ?_
            rintro e wf ⟨rfl, q2, rfl⟩
            go_wp2
            go_ret
            exact ⟨rfl, below_draws Be.out.2.1 _⟩
          · have hne : ((ra : Int) == (rb : Int)) = false := by rw [beq_eq_false_iff_ne]; omega
            have z1 := Bd.out.2.2.2.2.1.cell hra
            have z2 := Bd.out.2.2.2.2.1.cell hrb
            by_cases hz : t.Z ra < t.Z rb
            · have c3 := Bd.out.2.2.2.2.2.1.cell (i := ra) (by omega)
              have f3 := Bd.out.2.2.2.2.2.1.frozen ra
              have c4 := Bd.out.2.2.2.2.2.2.cell (i := rb) (by omega)
              have f4 := Bd.out.2.2.2.2.2.2.frozen rb
              have hzz := Bd.out.1.sum_le hra hrb PR.out.1 PR.out.2 hR
              go_wp2_with fail
              go_region
              go_wp2_with fail
              go_region
              go_wp2_with fail
              refine (union_any ps pb zb m t _ _ _ Bd.out.1 (by omega) (((Bd.out.2.1.setOther (a := ⟨g3, ra, none⟩) n3 _).setOther (a := ⟨g4, rb, none⟩) n4 _).drewN 2)).mono ?_
              rintro e we ⟨rfl, hT2, hW2⟩
              rw [show t.union m (x : Int) (y : Int) = t.link rb ra from by rw [union_in hx hy, EX.out, EY.out, if_neg hR]; unfold St.merge; rw [if_pos hz]] at hT2
              rw [show t.code m (x : Int) (y : Int) = 0 from by unfold St.code; rw [if_pos ⟨by omega, by omega, by omega, by omega⟩, Int.toNat_natCast, Int.toNat_natCast, EX.out, EY.out, if_neg hR]]
              have e2 : ((t.c - 1 : Nat) : Int) = (t.c : Int) - 1 := by omega
              have k0 := hT2.c0
              have k1 := hT2.c1
              have k2 : we.cell? ⟨ps, 2, none⟩ = some (.int .i64 ((t.c : Int) - 1)) := by rw [← e2]; exact hT2.c2
              have e3 : ((t.Z rb : Int) + (t.Z ra : Int)) = ((t.Z rb + t.Z ra : Nat) : Int) := by omega
              have r3 : RowN we g3 m (t.link rb ra).P := by
                refine RowN.within ?_ hW2 n3
                exact (World.rowIs.setOther (Bd.out.2.2.2.2.2.1.set ra rb) (a := ⟨g4, rb, none⟩) (by show g3 ≠ g4; omega) _)
              have r4 : RowN we g4 m (t.link rb ra).Z := by
                refine RowN.within ?_ hW2 n4
                rw [e3]
                have r := RowN.within Bd.out.2.2.2.2.2.2 (Within.setCell (Within.refl (fun q => q = g3) wd) (p := ⟨g3, ra, none⟩) rfl (.int .i64 (rb : Nat))) (by omega)
                exact r.set rb (t.Z rb + t.Z ra)
              have hBe : Below w.heap.size w we := by
                have hsz := Bd.out.2.2.1.size
                exact (((Bd.out.2.2.1.setCell (p := ⟨g3, ra, none⟩) (by show w.heap.size ≤ g3; omega) _).setCell (p := ⟨g4, rb, none⟩) (by show w.heap.size ≤ g4; omega) _).drew.drew).trans (hW2.below (by simp [World.setCell]; omega) (by rintro q (e | e | e) <;> omega))
              have Be : Aside (SetsAt we ps pb zb m (t.link rb ra) ∧ Below w.heap.size w we ∧ RowN we g3 m (t.link rb ra).P ∧ RowN we g4 m (t.link rb ra).Z) := ⟨hT2, hBe, r3, r4⟩
              clear hT2 hW2 Bd r3 r4 hBe e2 e3 c3 f3 c4 f4 z1 z2
              go_wp2_with fail
              refine (qab_eq pb g3 m m m (fun i => ((t.link rb ra).P i : Int)) _ (by omega) (Cells.of_row Be.out.1.pr) (Cells.of_row Be.out.2.2.1)).mono ?_
              rintro e wf ⟨rfl, q1, rfl⟩
              go_wp2_with fail
              refine (qab_eq zb g4 m m m (fun i => ((t.link rb ra).Z i : Int)) _ (by omega) ((Cells.of_row Be.out.1.zr).drewN q1) ((Cells.of_row Be.out.2.2.2).drewN q1)).mono ?_
              rintro e wf ⟨rfl, q2, rfl⟩
              go_wp2
              go_ret
              exact ⟨rfl, below_draws Be.out.2.1 _⟩
            · have c3 := Bd.out.2.2.2.2.2.1.cell (i := rb) (by omega)
              have f3 := Bd.out.2.2.2.2.2.1.frozen rb
              have c4 := Bd.out.2.2.2.2.2.2.cell (i := ra) (by omega)
              have f4 := Bd.out.2.2.2.2.2.2.frozen ra
              have hzz := Bd.out.1.sum_le hra hrb PR.out.1 PR.out.2 hR
              go_wp2_with fail
              go_region
              go_wp2_with fail
              go_region
              go_wp2_with fail
              refine (union_any ps pb zb m t _ _ _ Bd.out.1 (by omega) (((Bd.out.2.1.setOther (a := ⟨g3, rb, none⟩) n3 _).setOther (a := ⟨g4, ra, none⟩) n4 _).drewN 2)).mono ?_
              rintro e we ⟨rfl, hT2, hW2⟩
              rw [show t.union m (x : Int) (y : Int) = t.link ra rb from by rw [union_in hx hy, EX.out, EY.out, if_neg hR]; unfold St.merge; rw [if_neg hz]] at hT2
              rw [show t.code m (x : Int) (y : Int) = 0 from by unfold St.code; rw [if_pos ⟨by omega, by omega, by omega, by omega⟩, Int.toNat_natCast, Int.toNat_natCast, EX.out, EY.out, if_neg hR]]
              have e2 : ((t.c - 1 : Nat) : Int) = (t.c : Int) - 1 := by omega
              have k0 := hT2.c0
              have k1 := hT2.c1
              have k2 : we.cell? ⟨ps, 2, none⟩ = some (.int .i64 ((t.c : Int) - 1)) := by rw [← e2]; exact hT2.c2
              have e3 : ((t.Z ra : Int) + (t.Z rb : Int)) = ((t.Z ra + t.Z rb : Nat) : Int) := by omega
              have r3 : RowN we g3 m (t.link ra rb).P := by
                refine RowN.within ?_ hW2 n3
                exact (World.rowIs.setOther (Bd.out.2.2.2.2.2.1.set rb ra) (a := ⟨g4, ra, none⟩) (by show g3 ≠ g4; omega) _)
              have r4 : RowN we g4 m (t.link ra rb).Z := by
                refine RowN.within ?_ hW2 n4
                rw [e3]
                have r := RowN.within Bd.out.2.2.2.2.2.2 (Within.setCell (Within.refl (fun q => q = g3) wd) (p := ⟨g3, rb, none⟩) rfl (.int .i64 (ra : Nat))) (by omega)
                exact r.set ra (t.Z ra + t.Z rb)
              have hBe : Below w.heap.size w we := by
                have hsz := Bd.out.2.2.1.size
                exact (((Bd.out.2.2.1.setCell (p := ⟨g3, rb, none⟩) (by show w.heap.size ≤ g3; omega) _).setCell (p := ⟨g4, ra, none⟩) (by show w.heap.size ≤ g4; omega) _).drew.drew).trans (hW2.below (by simp [World.setCell]; omega) (by rintro q (e | e | e) <;> omega))
              have Be : Aside (SetsAt we ps pb zb m (t.link ra rb) ∧ Below w.heap.size w we ∧ RowN we g3 m (t.link ra rb).P ∧ RowN we g4 m (t.link ra rb).Z) := ⟨hT2, hBe, r3, r4⟩
              clear hT2 hW2 Bd r3 r4 hBe e2 e3 c3 f3 c4 f4 z1 z2
              go_wp2_with fail
              refine (qab_eq pb g3 m m m (fun i => ((t.link ra rb).P i : Int)) _ (by omega) (Cells.of_row Be.out.1.pr) (Cells.of_row Be.out.2.2.1)).mono ?_
              rintro e wf ⟨rfl, q1, rfl⟩
              go_wp2_with fail
              refine (qab_eq zb g4 m m m (fun i => ((t.link ra rb).Z i : Int)) _ (by omega) ((Cells.of_row Be.out.1.zr).drewN q1) ((Cells.of_row Be.out.2.2.2).drewN q1)).mono ?_
              rintro e wf ⟨rfl, q2, rfl⟩
              go_wp2
              go_ret
              exact ⟨rfl, below_draws Be.out.2.1 _⟩
        · have HO : Aside (¬ (0 ≤ X ∧ X < (m : Int) ∧ 0 ≤ Y ∧ Y < (m : Int))) := hab
          clear hab
          rcases (show X < 0 ∨ (0 ≤ X ∧ (m : Int) ≤ X) ∨ (0 ≤ X ∧ X < (m : Int) ∧ Y < 0) ∨ (0 ≤ X ∧ X < (m : Int) ∧ 0 ≤ Y ∧ (m : Int) ≤ Y) from by have := HO.out; omega) with hX | hX | hX | hX
          all_goals
            go_wp2_with fail
            refine (union_any ps pb zb m t _ _ _ Bd.out.1 (by omega) Bd.out.2.1).mono ?_
            rintro e we ⟨rfl, hT2, hW2⟩
            rw [union_outr HO.out] at hT2
            rw [show t.code m X Y = 2 from by unfold St.code; rw [if_neg HO.out]]
            have k0 := hT2.c0
            have k1 := hT2.c1
            have k2 := hT2.c2
            have Be : Aside (SetsAt we ps pb zb m t ∧ Below w.heap.size w we ∧ RowN we g3 m t.P ∧ RowN we g4 m t.Z) :=
              ⟨hT2, Bd.out.2.2.1.trans (hW2.below (by have := Bd.out.2.2.1.size; omega) (by rintro q (e | e | e) <;> omega)), Bd.out.2.2.2.2.2.1.within hW2 n3, Bd.out.2.2.2.2.2.2.within hW2 n4⟩
            clear hT2 hW2 Bd
            go_wp2_with fail
            refine (qab_eq pb g3 m m m (fun i => (t.P i : Int)) _ (by omega) (Cells.of_row Be.out.1.pr) (Cells.of_row Be.out.2.2.1)).mono ?_
            rintro e wf ⟨rfl, q1, rfl⟩
            go_wp2_with fail
            refine (qab_eq zb g4 m m m (fun i => (t.Z i : Int)) _ (by omega) ((Cells.of_row Be.out.1.zr).drewN q1) ((Cells.of_row Be.out.2.2.2).drewN q1)).mono ?_
            rintro e wf ⟨rfl, q2, rfl⟩
            go_wp2
            go_ret
            exact ⟨rfl, below_draws Be.out.2.1 _⟩
  · obtain ⟨wr, t, hI, hT, hBl, E⟩ : ∃ (wr : World) (t : St), Inv m t ∧ SetsAt wr ps pb zb m t ∧ Below w.heap.size w wr ∧ Aside (w1 = wr) := ⟨w1, fresh m, inv_fresh m, hS, hB1, rfl⟩
    rw [E.out]
    clear hS hW hB1 E
    have k0 := hT.c0
    have p1 := hT.st.lt
    have p2 := hT.pr.lt
    have p3 := hT.zr.lt
    have Bd : Aside (Inv m t ∧ SetsAt wr ps pb zb m t ∧ Below w.heap.size w wr) := ⟨hI, hT, hBl⟩
    have hc2 := hI.c_le
    clear hI hT hBl
    go_wp2_with fail
    refine (qab_clone pb m (fun i => (t.P i : Int)) _ (by omega) (Cells.of_row Bd.out.2.1.pr)).mono ?_
    rintro e wa ⟨g1, rfl, hg1, hR1, hWa⟩
    have s1 := hWa.size
    have t1 : g1 < wa.heap.size := hR1.lt
    have k1 := (Bd.out.2.1.within hWa (fun _ _ e => e)).c1
    have Ba : Aside (Inv m t ∧ SetsAt wa ps pb zb m t ∧ Below w.heap.size w wa ∧ RowN wa g1 m t.P) := ⟨Bd.out.1, Bd.out.2.1.within hWa (fun _ _ e => e), Bd.out.2.2.trans (hWa.below (by have := Bd.out.2.2.size; omega) (fun _ e => e.elim)), hR1⟩
    clear hR1 hWa Bd k0
    go_wp2_with fail
    refine (qab_clone zb m (fun i => (t.Z i : Int)) _ (by omega) (Cells.of_row Ba.out.2.1.zr)).mono ?_
    rintro e wb ⟨g2, rfl, hg2, hR2, hWb⟩
    have s2 := hWb.size
    have t2 : g2 < wb.heap.size := hR2.lt
    have k2 := (Ba.out.2.1.within hWb (fun _ _ e => e)).c2
    have Bb : Aside (Inv m t ∧ SetsAt wb ps pb zb m t ∧ Below w.heap.size w wb ∧ RowN wb g1 m t.P ∧ RowN wb g2 m t.Z) := ⟨Ba.out.1, Ba.out.2.1.within hWb (fun _ _ e => e), Ba.out.2.2.1.trans (hWb.below (by have := Ba.out.2.2.1.size; omega) (fun _ e => e.elim)), Ba.out.2.2.2.within hWb (fun e => e), hR2⟩
    clear hR2 hWb Ba k1
    go_wp2_with fail
    refine (qab_clone g1 m (fun i => (t.P i : Int)) _ (by omega) (Cells.of_row Bb.out.2.2.2.1)).mono ?_
    rintro e wc ⟨g3, rfl, hg3, hR3, hWc⟩
    have s3 := hWc.size
    have t3 : g3 < wc.heap.size := hR3.lt
    have Bc : Aside (Inv m t ∧ SetsAt wc ps pb zb m t ∧ Below w.heap.size w wc ∧ RowN wc g1 m t.P ∧ RowN wc g2 m t.Z ∧ RowN wc g3 m t.P) := ⟨Bb.out.1, Bb.out.2.1.within hWc (fun _ _ e => e), Bb.out.2.2.1.trans (hWc.below (by have := Bb.out.2.2.1.size; omega) (fun _ e => e.elim)), Bb.out.2.2.2.1.within hWc (fun e => e), Bb.out.2.2.2.2.within hWc (fun e => e), hR3⟩
    clear hR3 hWc Bb k2
    go_wp2_with fail
    refine (qab_clone g2 m (fun i => (t.Z i : Int)) _ (by omega) (Cells.of_row Bc.out.2.2.2.2.1)).mono ?_
    rintro e wd ⟨g4, rfl, hg4, hR4, hWd⟩
    have s4 := hWd.size
    have t4 : g4 < wd.heap.size := hR4.lt
    have Bd : Aside (Inv m t ∧ SetsAt wd ps pb zb m t ∧ Below w.heap.size w wd ∧ RowN wd g1 m t.P ∧ RowN wd g2 m t.Z ∧ RowN wd g3 m t.P ∧ RowN wd g4 m t.Z) := ⟨Bc.out.1, Bc.out.2.1.within hWd (fun _ _ e => e), Bc.out.2.2.1.trans (hWd.below (by have := Bc.out.2.2.1.size; omega) (fun _ e => e.elim)), Bc.out.2.2.2.1.within hWd (fun e => e), Bc.out.2.2.2.2.1.within hWd (fun e => e), Bc.out.2.2.2.2.2.within hWd (fun e => e), hR4⟩
    clear hR4 hWd Bc
    have n3 : ¬ three ps pb zb g3 := by rintro (e | e | e) <;> omega
    have n4 : ¬ three ps pb zb g4 := by rintro (e | e | e) <;> omega
    have HO : Aside (¬ (0 ≤ X ∧ X < (m : Int) ∧ 0 ≤ Y ∧ Y < (m : Int))) := by show ¬ _; omega
    rcases (show X < 0 ∨ (0 ≤ X ∧ (m : Int) ≤ X) from by omega) with hX | hX
    all_goals
      go_wp2_with fail
      refine (union_any ps pb zb m t _ _ _ Bd.out.1 (by omega) Bd.out.2.1).mono ?_
      rintro e we ⟨rfl, hT2, hW2⟩
      rw [union_outr HO.out] at hT2
      rw [show t.code m X Y = 2 from by unfold St.code; rw [if_neg HO.out]]
      have k0 := hT2.c0
      have k1 := hT2.c1
      have k2 := hT2.c2
      have Be : Aside (SetsAt we ps pb zb m t ∧ Below w.heap.size w we ∧ RowN we g3 m t.P ∧ RowN we g4 m t.Z) :=
        ⟨hT2, Bd.out.2.2.1.trans (hW2.below (by have := Bd.out.2.2.1.size; omega) (by rintro q (e | e | e) <;> omega)), Bd.out.2.2.2.2.2.1.within hW2 n3, Bd.out.2.2.2.2.2.2.within hW2 n4⟩
      clear hT2 hW2 Bd
      go_wp2_with fail
      refine (qab_eq pb g3 m m m (fun i => (t.P i : Int)) _ (by omega) (Cells.of_row Be.out.1.pr) (Cells.of_row Be.out.2.2.1)).mono ?_
      rintro e wf ⟨rfl, q1, rfl⟩
      go_wp2_with fail
      refine (qab_eq zb g4 m m m (fun i => (t.Z i : Int)) _ (by omega) ((Cells.of_row Be.out.1.zr).drewN q1) ((Cells.of_row Be.out.2.2.2).drewN q1)).mono ?_
      rintro e wf ⟨rfl, q2, rfl⟩
      go_wp2
      go_ret
      exact ⟨rfl, below_draws Be.out.2.1 _⟩

end Go.Proofs.Ymwhas.Qab
