/-
  THE WALK of LawS930009QAHWhole, sameU false, one size.
-/
import Derived.Test.YmwhasQah
namespace Go.Proofs.Ymwhas.Qah
open Go.RowKit
set_option linter.unusedVariables false

set_option maxRecDepth 100000 in
set_option maxHeartbeats 8000000 in
theorem walkB (n : Nat) (ao1 ao2 : Option Addr) (len1 cap1 len2 cap2 b1 off1 b2 off2 : Nat) (A1 A2 : Nat → Nat) (w : World) (hn : n ≤ 255) (hl1 : len1 ≤ 1024) (hl2 : len2 ≤ 1024)
    (hU1 : Ops1 w w.heap.size ao1 len1 b1 off1 A1) (hU2 : Ops1 w w.heap.size ao2 len2 b2 off2 A2) :
    Calls Yasv.prog 10 #[.int .u8 (n : Nat), .int .u8 (n : Nat), .bool false, .slice ao1 len1 cap1, .slice ao2 len2 cap2] w fun e w' => e = .returned (.bool true) ∧ Below w.heap.size w w' := by
  have hd1 : decide (1024 < (len1 : Int)) = false := decide_eq_false (by omega)
  have hd2 : decide (1024 < (len2 : Int)) = false := decide_eq_false (by omega)
  have HU : Aside (Ops1 w w.heap.size ao1 len1 b1 off1 A1 ∧ Ops1 w w.heap.size ao2 len2 b2 off2 A2) := ⟨hU1, hU2⟩
  clear hU1 hU2
  go_enter Yasv.func10, Yasv.ntmps10
  go_wp2_with fail
  refine (build_any n len1 cap1 w.heap.size b1 off1 ao1 A1 _ (by omega) hl1 (Nat.le_refl _) HU.out.1).mono ?_
  rintro e w1 ⟨ps, pb, zb, s, rfl, hps, hpb, hzb, hIs, hGs, hS, hW⟩
  have z1 := hW.size
  have u1 := hS.st.lt
  have u2 := hS.pr.lt
  have u3 := hS.zr.lt
  have H1 : Aside (Inv n s ∧ Gen n (Plus NoPair n A1 (takes n len1)) s.R ∧ SetsAt w1 ps pb zb n s ∧ Within (fun _ => False) w w1) := ⟨hIs, hGs, hS, hW⟩
  clear hIs hGs hS hW
  go_wp2_with fail
  refine (build_any n len2 cap2 w.heap.size b2 off2 ao2 A2 _ (by omega) hl2 (by omega) (HU.out.2.below (H1.out.2.2.2.below (Nat.le_refl _) (fun _ e => e.elim)))).mono ?_
  rintro e w2 ⟨qs, qb, yb, t, rfl, hqs, hqb, hyb, hIt, hGt, hT, hW⟩
  have z2 := hW.size
  have v1 := hT.st.lt
  have v2 := hT.pr.lt
  have v3 := hT.zr.lt
  have H2 : Aside (Inv n s ∧ Gen n (Plus NoPair n A1 (takes n len1)) s.R ∧ Inv n t ∧ Gen n (Plus NoPair n A2 (takes n len2)) t.R) := ⟨H1.out.1, H1.out.2.1, hIt, hGt⟩
  have B0 : Aside (SetsAt w2 ps pb zb n s ∧ SetsAt w2 qs qb yb n t ∧ Within (fun _ => False) w w2) := ⟨H1.out.2.2.1.within hW (fun _ _ e => e), hT, H1.out.2.2.2.trans hW⟩
  have k0 := B0.out.1.c0
  clear hIt hGt hT hW H1
  go_wp2_with fail
  refine (clone_any pb n n (fun i => (s.P i : Int)) _ (by omega) (Cells.of_row B0.out.1.pr)).mono ?_
  rintro e wa ⟨g1, cp1, rfl, hg1, hC1, hWa⟩
  have za := hWa.size
  have x1 := hC1.1
  have Ba : Aside (SetsAt wa ps pb zb n s ∧ SetsAt wa qs qb yb n t ∧ Within (fun _ => False) w wa ∧ Cells wa g1 n (fun i => (s.P i : Int))) := ⟨B0.out.1.within hWa (fun _ _ e => e), B0.out.2.1.within hWa (fun _ _ e => e), B0.out.2.2.trans hWa, hC1⟩
  have k1 := Ba.out.1.c1
  clear hC1 hWa B0 k0
  go_wp2_with fail
  refine (clone_any zb n n (fun i => (s.Z i : Int)) _ (by omega) (Cells.of_row Ba.out.1.zr)).mono ?_
  rintro e wb ⟨g2, cp2, rfl, hg2, hC2, hWb⟩
  have zb' := hWb.size
  have x2 := hC2.1
  have Bb : Aside (SetsAt wb ps pb zb n s ∧ SetsAt wb qs qb yb n t ∧ Within (fun _ => False) w wb ∧ Cells wb g1 n (fun i => (s.P i : Int)) ∧ Cells wb g2 n (fun i => (s.Z i : Int))) := ⟨Ba.out.1.within hWb (fun _ _ e => e), Ba.out.2.1.within hWb (fun _ _ e => e), Ba.out.2.2.1.trans hWb, Ba.out.2.2.2.within hWb (fun e => e), hC2⟩
  have k2 := Bb.out.1.c2
  have j0 := Bb.out.2.1.c0
  clear hC2 hWb Ba k1
  go_wp2_with fail
  refine (clone_any qb n n (fun i => (t.P i : Int)) _ (by omega) (Cells.of_row Bb.out.2.1.pr)).mono ?_
  rintro e wc ⟨g3, cp3, rfl, hg3, hC3, hWc⟩
  have zc := hWc.size
  have x3 := hC3.1
  have Bc : Aside (SetsAt wc ps pb zb n s ∧ SetsAt wc qs qb yb n t ∧ Within (fun _ => False) w wc ∧ Cells wc g1 n (fun i => (s.P i : Int)) ∧ Cells wc g2 n (fun i => (s.Z i : Int)) ∧ Cells wc g3 n (fun i => (t.P i : Int))) := ⟨Bb.out.1.within hWc (fun _ _ e => e), Bb.out.2.1.within hWc (fun _ _ e => e), Bb.out.2.2.1.trans hWc, Bb.out.2.2.2.1.within hWc (fun e => e), Bb.out.2.2.2.2.within hWc (fun e => e), hC3⟩
  have j1 := Bc.out.2.1.c1
  clear hC3 hWc Bb k2 j0
  go_wp2_with fail
  refine (clone_any yb n n (fun i => (t.Z i : Int)) _ (by omega) (Cells.of_row Bc.out.2.1.zr)).mono ?_
  rintro e wd ⟨g4, cp4, rfl, hg4, hC4, hWd⟩
  have zd := hWd.size
  have x4 := hC4.1
  obtain ⟨BB, EB⟩ : ∃ BB, Aside (wd.heap.size = BB) := ⟨_, rfl⟩
  have eB : wd.heap.size ≤ BB ∧ BB ≤ wd.heap.size := by rw [EB.out]; exact ⟨Nat.le_refl _, Nat.le_refl _⟩
  have Bd : Aside (All w wd BB n n ps pb zb qs qb yb g1 g2 g3 g4 s t) := ⟨Bc.out.1.within hWd (fun _ _ e => e), Bc.out.2.1.within hWd (fun _ _ e => e), Bc.out.2.2.2.1.within hWd (fun e => e), Bc.out.2.2.2.2.1.within hWd (fun e => e), Bc.out.2.2.2.2.2.within hWd (fun e => e), hC4, (Bc.out.2.2.1.trans hWd).below (Nat.le_refl _) (fun _ e => e.elim), ⟨by omega, by omega, by omega⟩, ⟨by omega, by omega, by omega⟩, ⟨by omega, by omega, by omega, by omega⟩, by omega⟩
  have j2 := Bd.out.ht.c2
  clear hC4 hWd Bc j1
  go_wp2_with fail
  refine (join_eq ps pb zb qs qb yb n s t _ (by omega) H2.out.1 H2.out.2.2.1 Bd.out.hs Bd.out.ht).mono ?_
  rintro e we ⟨os, ob, oz, o, rfl, hos, hob, hoz, hIo, hGo, hO, hWe⟩
  have ze := hWe.size
  have y1 := hO.st.lt
  have y2 := hO.pr.lt
  have y3 := hO.zr.lt
  have BX : Aside (All w we BB n n ps pb zb qs qb yb g1 g2 g3 g4 s t) := Bd.out.next (hWe.below (by omega) (fun _ e => e.elim))
  have H3 : Aside (Inv n o ∧ Gen n (fun x y => Plus NoPair n A1 (takes n len1) x y ∨ Plus NoPair n A2 (takes n len2) x y) o.R) :=
    ⟨hIo, hGo.same (fun g => resp_edges H2.out.1 H2.out.2.2.1 H2.out.2.1 H2.out.2.2.2 (takes_lt n len1 A1) (takes_lt n len2 A2) g)⟩
  have HO : Aside (SetsAt we os ob oz n o) := hO
  have k0 := BX.out.hs.c0
  have k1 := BX.out.hs.c1
  have k2 := BX.out.hs.c2
  have j0 := BX.out.ht.c0
  have j1 := BX.out.ht.c1
  have j2 := BX.out.ht.c2
  clear hIo hGo hO hWe H2 Bd
  go_wp2_with fail
  refine (equal_true pb g1 n n cp1 (fun i => (s.P i : Int)) _ (by omega) (Cells.of_row BX.out.hs.pr) BX.out.c1).mono ?_
  rintro e wf ⟨rfl, q1, rfl⟩
  go_wp2_with fail
  refine (equal_true zb g2 n n cp2 (fun i => (s.Z i : Int)) _ (by omega) ((Cells.of_row BX.out.hs.zr).drewN _) (BX.out.c2.drewN _)).mono ?_
  rintro e wf ⟨rfl, q2, rfl⟩
  go_wp2_with fail
  refine (equal_true qb g3 n n cp3 (fun i => (t.P i : Int)) _ (by omega) ((Cells.of_row BX.out.ht.pr).drewN _) (BX.out.c3.drewN _)).mono ?_
  rintro e wf ⟨rfl, q3, rfl⟩
  go_wp2_with fail
  refine (equal_true yb g4 n n cp4 (fun i => (t.Z i : Int)) _ (by omega) ((Cells.of_row BX.out.ht.zr).drewN _) (BX.out.c4.drewN _)).mono ?_
  rintro e wf ⟨rfl, q4, rfl⟩
  have hmk := run_make_row' (P := Yasv.prog) 26 3 (.int .i64 0) 8 Yasv.underlying26 Yasv.info3 rfl .i64 .i64 n (by omega) (by omega)
  go_wp2
  clear k0 k1 k2 j0 j1 j2
  go_loopg [25] n (fun g v wr => ∃ k : Nat, k ≤ n ∧ n - k ≤ g ∧ v = .int .i64 (k : Nat) ∧ RowN wr we.heap.size n (fillTo k) ∧ Below we.heap.size we wr)
  case atStart => exact ⟨0, Nat.zero_le _, Nat.le_refl _, rfl, (fill_start (rowN_made we n)).drewN _, below_draws ((Below.refl _ we).alloc (Nat.le_refl _) _) _⟩
  case round =>
    obtain ⟨k, hk, hg, rfl, hL, hBl⟩ := hrel
    have Bf : Aside (RowN wr we.heap.size n (fillTo k) ∧ Below we.heap.size we wr) := ⟨hL, hBl⟩
    clear hBl
    by_cases hlt : k < n
    · have kc := hL.cell hlt
      have kf := hL.frozen k
      clear hL
      go_wp2
      go_roundg (n - (k + 1))
      case measure => omega
      case rel => exact ⟨k + 1, by omega, by omega, by go_num, fill_step Bf.out.1 hlt, Bf.out.2.setCell (p := ⟨we.heap.size, k, none⟩) (Nat.le_refl _) _⟩
    · clear hL
      obtain ⟨wf, EW⟩ : ∃ wf, Aside (wr = wf) := ⟨_, rfl⟩
      have zf : we.heap.size < wr.heap.size := Bf.out.1.lt
      have Bg : Aside (RowN wr we.heap.size n (fun i => i) ∧ Below we.heap.size we wr ∧ Below w.heap.size w wr) := ⟨fill_end Bf.out.1 (by omega), Bf.out.2, BX.out.bl.trans (Bf.out.2.mono (by have := BX.out.bl.size; omega))⟩
      clear Bf EW
      go_wp2_with fail
      refine (merge_any we.heap.size n len1 cap1 w.heap.size b1 off1 ao1 A1 NoPair (fun i => i) _ (by omega) (noPair_lt n) hl1 (by have := BX.out.bl.size; omega) (by have := BX.out.bl.size; omega) (HU.out.1.below Bg.out.2.2) (gen_none n) (canon_id n) Bg.out.1).mono ?_
      rintro e wh ⟨rfl, f1, hG1, hC1, hL1, hW1⟩
      have zh := hW1.size
      have Bh : Aside (Gen n (Plus NoPair n A1 (takes n len1)) f1 ∧ Canon n f1 ∧ RowN wh we.heap.size n f1 ∧ Below we.heap.size we wh ∧ Below w.heap.size w wh) := ⟨hG1, hC1, hL1, Bg.out.2.1.trans (hW1.below (by omega) (fun q e => by omega)), Bg.out.2.2.trans (hW1.below (by omega) (fun q e => by have := BX.out.bl.size; omega))⟩
      clear hG1 hC1 hL1 hW1 Bg
      go_wp2_with fail
      refine (merge_any we.heap.size n len2 cap2 w.heap.size b2 off2 ao2 A2 (Plus NoPair n A1 (takes n len1)) f1 _ (by omega) (takes_lt n len1 A1) hl2 (by have := BX.out.bl.size; omega) (by have := BX.out.bl.size; omega) (HU.out.2.below Bh.out.2.2.2.2) Bh.out.1 Bh.out.2.1 Bh.out.2.2.1).mono ?_
      rintro e wi ⟨rfl, f, hG2, hC2, hL2, hW2⟩
      have zi := hW2.size
      have hBe : Below we.heap.size we wi := Bh.out.2.2.2.1.trans (hW2.below (by omega) (fun q e => by omega))
      have hLab : LabOk n f o.R := gen_labOk (hG2.same (fun g => ⟨fun hg x y hxy => by
        rcases hxy with h | h
        · exact hg x y (.inl h)
        · rcases h with h | h
          · exact h.elim
          · exact hg x y (.inr h), fun hg x y hxy => by
        rcases hxy with h | h
        · exact hg x y (.inl h)
        · exact hg x y (.inr (.inr h))⟩)) H3.out.2
      have HF : Aside (Inv n o ∧ LabOk n f o.R ∧ Canon n f) := ⟨H3.out.1, hLab, hC2⟩
      have Bi : Aside (All w wi BB n n ps pb zb qs qb yb g1 g2 g3 g4 s t ∧ SetsAt wi os ob oz n o ∧ RowN wi we.heap.size n f ∧ Below w.heap.size w wi) := ⟨BX.out.next (hBe.mono (by omega)), sets_below hBe HO.out y1 y2 y3, hL2, BX.out.bl.trans (hBe.mono (by have := BX.out.bl.size; omega))⟩
      have k0 := Bi.out.2.1.c0
      have k1 := Bi.out.2.1.c1
      clear hG2 hC2 hL2 hW2 hBe hLab Bh BX HO H3 HU
      have k0a : ∀ o1, (wi.alloc o1).cell? ⟨os, 0, none⟩ = some (.slice (some ⟨ob, 0, none⟩) n n) := fun o1 => (Bi.out.2.1.alloc o1).c0
      have zj : we.heap.size < wi.heap.size := by omega
      go_wp2
      have eT : (wi.alloc (.cells (madeCells #[.int .i64 0] n) 3)).heap.size = wi.heap.size + 1 := by simp
      have hT0 := rowN_made (wi.alloc (.cells (madeCells #[.int .i64 0] n) 3)) n
      rw [eT] at hT0
      have BT : Aside (RowN ((wi.alloc (.cells (madeCells #[.int .i64 0] n) 3)).alloc (.cells (madeCells #[.int .i64 0] n) 3)) (wi.heap.size + 1) n (fun _ => 0)) := hT0
      clear eT hT0 hmk k0 k1 k0a
      go_loopg [28] n (fun g v wr => ∃ k : Nat, k ≤ n ∧ n - k ≤ g ∧ v = .int .i64 (k : Nat) ∧ wr.rowIs wi.heap.size 3 n (fun i => .int .i64 (if i < k then -1 else 0)) ∧ RowN wr (wi.heap.size + 1) n (fun _ => 0) ∧ Below wi.heap.size wi wr)
      case atStart => exact ⟨0, Nat.zero_le _, Nat.le_refl _, rfl, (World.rowIs.alloc (World.rowIs_made wi (.int .i64 0) n 3) _).congr (fun i _ => by simp), BT.out, ((Below.refl _ wi).alloc (Nat.le_refl _) _).alloc (by simp) _⟩
      case round =>
        obtain ⟨k, hk, hg, rfl, hR, hTa, hBl⟩ := hrel
        have Bj : Aside (wr.rowIs wi.heap.size 3 n (fun i => .int .i64 (if i < k then -1 else 0)) ∧ RowN wr (wi.heap.size + 1) n (fun _ => 0) ∧ Below wi.heap.size wi wr) := ⟨hR, hTa, hBl⟩
        clear hTa hBl
        by_cases hlt : k < n
        · have c2 := hR.cell hlt
          have c3 := hR.frozen k
          clear hR
          go_wp2
          go_roundg (n - (k + 1))
          case measure => omega
          case rel =>
            refine ⟨k + 1, by omega, by omega, by go_num, (Bj.out.1.set k _).congr (fun i hi => ?_), World.rowIs.setOther Bj.out.2.1 (by show wi.heap.size + 1 ≠ wi.heap.size; omega) _, Bj.out.2.2.setCell (p := ⟨wi.heap.size, k, none⟩) (Nat.le_refl _) _⟩
            by_cases e : i = k
            · subst e
              rw [if_pos rfl, if_pos (by omega)]
            · rw [if_neg e]
              by_cases e2 : i < k
              · rw [if_pos e2, if_pos (by omega)]
              · rw [if_neg e2, if_neg (by omega)]
        · clear hR
          have B2 : Aside (wr.rowIs wi.heap.size 3 n (fun r => .int .i64 (firstTo o.R f 0 r)) ∧ RowN wr (wi.heap.size + 1) n (tallyTo o.R 0) ∧ Below wi.heap.size wi wr) :=
            ⟨Bj.out.1.congr (fun i hi => by rw [if_pos (by omega)]; unfold firstTo; rw [if_neg (by omega)]), Bj.out.2.1.congr (fun i hi => rfl), Bj.out.2.2⟩
          clear Bj BT
          go_wp2
          go_loopg [29] n (fun g v wx => ∃ k : Nat, k ≤ n ∧ n - k ≤ g ∧ v = .int .i64 (k : Nat) ∧ wx.rowIs wi.heap.size 3 n (fun r => .int .i64 (firstTo o.R f k r)) ∧ RowN wx (wi.heap.size + 1) n (tallyTo o.R k) ∧ Below wi.heap.size wi wx)
          case atStart => exact ⟨0, Nat.zero_le _, Nat.le_refl _, rfl, B2.out⟩
          case round =>
            clear B2
            obtain ⟨k, hk, hg, rfl, hR, hTa, hBl⟩ := hrel
            have hOw : SetsAt wr os ob oz n o := sets_below hBl Bi.out.2.1 (by omega) (by omega) (by omega)
            have k0 := hOw.c0
            have Bk : Aside (wr.rowIs wi.heap.size 3 n (fun r => .int .i64 (firstTo o.R f k r)) ∧ RowN wr (wi.heap.size + 1) n (tallyTo o.R k) ∧ Below wi.heap.size wi wr) := ⟨hR, hTa, hBl⟩
            by_cases hlt : k < n
            · obtain ⟨r, ER⟩ : ∃ r, Aside (o.R k = r) := ⟨_, rfl⟩
              have AI := HF.out.1.forest
              have hr : r < n := by rw [← ER.out]; exact AI.rlt k hlt
              have hrr : o.R r = r := by rw [← ER.out]; exact AI.rr hlt
              have hfr : f r = f k := (HF.out.2.1 r k hr hlt).2 (by rw [hrr, ER.out])
              have hck := (HF.out.2.2 k hlt).1
              have c1 := hR.cell hr
              have c2 := hR.frozen r
              have c3 := hTa.cell hr
              have c4 := hTa.frozen r
              have c5 := World.rowIs.cell (row_below hBl Bi.out.2.2.1 (by omega)) hlt
              have hta := tally_le o.R k r
              have HOw : Aside (SetsAt wr os ob oz n o) := hOw
              have E7 : Aside (∀ r', tallyTo o.R (k + 1) r' = if r' = r then tallyTo o.R k r + 1 else tallyTo o.R k r') := by
                intro r'
                rw [← ER.out]
                by_cases e : r' = o.R k
                · rw [if_pos e, e]; exact tally_hit o.R k
                · rw [if_neg e]; exact tally_miss e
              have e8 : ((tallyTo o.R k r : Int) + 1) = ((tallyTo o.R k r + 1 : Nat) : Int) := by omega
              have E8 : Aside (((tallyTo o.R k r : Int) + 1) = ((tallyTo o.R k r + 1 : Nat) : Int)) := e8
              clear hR hTa hBl hOw e8
              by_cases hfk : f k < k
              · have e1 : firstTo o.R f k r = ((f k : Nat) : Int) := by unfold firstTo; rw [if_pos ⟨hrr, by omega⟩, hfr]
                rw [e1] at c1
                have A : Aside (o.R r = r ∧ f r = f k) := ⟨hrr, hfr⟩
                clear e1 hrr hfr
                go_wp2_with fail
                refine (qah_root ob n k o.P o.Z o.R _ AI HF.out.1.zpos hlt (by omega) (Cells.of_row HOw.out.pr)).mono ?_
                rintro e wy ⟨rfl, rfl⟩
                rw [ER.out]
                go_wp2_with fail
                go_region
                go_wp2
                go_roundg (n - (k + 1))
                case measure => omega
                case rel =>
                  refine ⟨k + 1, by omega, by omega, by go_num, ?_, ?_, ?_⟩
                  · refine (World.rowIs.setOther Bk.out.1 (a := ⟨wi.heap.size + 1, r, none⟩) (by show wi.heap.size ≠ wi.heap.size + 1; omega) _).congr (fun i hi => ?_)
                    rw [first_same HF.out.2.1 HF.out.2.2 hi hlt (.inr hfk) (fun e => by rw [e, ER.out]; exact A.out.2)]
                  · rw [E8.out]
                    exact (Bk.out.2.1.set r (tallyTo o.R k r + 1)).congr (fun i hi => (E7.out i).symm)
                  · exact (Bk.out.2.2.setCell (p := ⟨wi.heap.size + 1, r, none⟩) (by show wi.heap.size ≤ wi.heap.size + 1; omega) _).drew
              · have hfk2 : f k = k := by omega
                have e1 : firstTo o.R f k r = -1 := by unfold firstTo; rw [if_neg (by omega)]
                rw [e1] at c1
                have c5' : wr.cell? ⟨we.heap.size, k, none⟩ = some (.int .i64 (k : Nat)) := by rw [c5, hfk2]
                have A : Aside (o.R r = r ∧ f r = f k ∧ f k = k) := ⟨hrr, hfr, hfk2⟩
                clear e1 hrr hfr hfk2 hfk hck c5
                go_wp2_with fail
                refine (qah_root ob n k o.P o.Z o.R _ AI HF.out.1.zpos hlt (by omega) (Cells.of_row HOw.out.pr)).mono ?_
                rintro e wy ⟨rfl, rfl⟩
                rw [ER.out]
                go_wp2_with fail
                go_region
                go_wp2
                go_roundg (n - (k + 1))
                case measure => omega
                case rel =>
                  refine ⟨k + 1, by omega, by omega, by go_num, ?_, ?_, ?_⟩
                  · refine (World.rowIs.setOther (Bk.out.1.set r _) (a := ⟨wi.heap.size + 1, r, none⟩) (by show wi.heap.size ≠ wi.heap.size + 1; omega) _).congr (fun i hi => ?_)
                    by_cases e : i = r
                    · subst e
                      rw [if_pos rfl]
                      unfold firstTo
                      rw [if_pos ⟨A.out.1, by have := A.out.2; omega⟩, A.out.2.1, A.out.2.2]
                    · rw [if_neg e, first_same HF.out.2.1 HF.out.2.2 hi hlt (.inl (by rw [ER.out]; exact e)) (fun e' => by rw [ER.out] at e'; exact absurd e' e)]
                  · rw [E8.out]
                    have hL1 : RowN (wy.setCell ⟨wi.heap.size, r, none⟩ (.int .i64 (k : Nat))) (wi.heap.size + 1) n (tallyTo o.R k) := World.rowIs.setOther Bk.out.2.1 (by show wi.heap.size + 1 ≠ wi.heap.size; omega) _
                    exact (hL1.set r (tallyTo o.R k r + 1)).congr (fun i hi => (E7.out i).symm)
                  · exact ((Bk.out.2.2.setCell (p := ⟨wi.heap.size, r, none⟩) (Nat.le_refl _) _).setCell (p := ⟨wi.heap.size + 1, r, none⟩) (by show wi.heap.size ≤ wi.heap.size + 1; omega) _).drew
            · clear hR hTa hBl hOw k0
              rename World => wx
              have hrc : rootsTo o.P n = o.c := HF.out.1.ccount.symm
              have hfc : rootsTo f n = o.c := by rw [← roots_classes HF.out.1 HF.out.2.1 HF.out.2.2]; exact hrc
              have hcle := HF.out.1.c_le
              have HC : Aside (rootsTo o.P n = o.c ∧ rootsTo f n = o.c) := ⟨hrc, hfc⟩
              clear hrc hfc
              have hAll : All w wx BB n n ps pb zb qs qb yb g1 g2 g3 g4 s t := Bi.out.1.next (Bk.out.2.2.mono (by omega))
              have hOx : SetsAt wx os ob oz n o := sets_below Bk.out.2.2 Bi.out.2.1 (by omega) (by omega) (by omega)
              have hLx : RowN wx we.heap.size n f := row_below Bk.out.2.2 Bi.out.2.2.1 (by omega)
              have k0 := hOx.c0
              have k1 := hOx.c1
              have k2 := hOx.c2
              have Bl : Aside (All w wx BB n n ps pb zb qs qb yb g1 g2 g3 g4 s t ∧ SetsAt wx os ob oz n o ∧ RowN wx we.heap.size n f ∧ RowN wx (wi.heap.size + 1) n (tallyTo o.R n)) := ⟨hAll, hOx, hLx, Bk.out.2.1.congr (fun i hi => by rw [show k = n from by omega])⟩
              clear hAll hOx hLx Bk
              go_wp2
              go_loopg [31, 32, 33] n (fun g vr vc vi wy => ∃ i q : Nat, i ≤ n ∧ n - i ≤ g ∧ vi = .int .i64 (i : Nat) ∧ vr = .int .i64 (rootsTo o.P i : Nat) ∧ vc = .int .i64 (rootsTo f i : Nat) ∧ wy = wx.drewN q)
              case atStart => exact ⟨0, 0, Nat.zero_le _, Nat.le_refl _, rfl, rfl, rfl, rfl⟩
              case round =>
                obtain ⟨i, q, hi, hgi, rfl, rfl, rfl, rfl⟩ := hrel
                have hr1 := roots_le o.P i
                have hr2 := roots_le f i
                by_cases hil : i < n
                · have d1 := Bl.out.2.1.cp i hil
                  have d2 := Bl.out.2.1.cz i hil
                  have d3 := Bl.out.2.2.1.cell hil
                  have d4 := Bl.out.2.2.2.cell hil
                  by_cases e : o.P i = i
                  · have ez : o.Z i = tallyTo o.R n i := HF.out.1.zcount i hil e
                    have E : Aside (rootsTo o.P (i + 1) = rootsTo o.P i + 1) := roots_yes e
                    rw [e] at d1
                    rw [ez] at d2
                    clear e ez
                    by_cases e2 : f i = i
                    · have E2 : Aside (rootsTo f (i + 1) = rootsTo f i + 1) := roots_yes e2
                      rw [e2] at d3
                      clear e2
                      go_wp2_with fail
                      go_region
                      go_wp2
                      go_roundg (n - (i + 1))
                      case measure => omega
                      case rel => exact ⟨i + 1, q + 1, by omega, by omega, by go_num, by rw [E.out]; go_num, by rw [E2.out]; go_num, rfl⟩
                    · have E2 : Aside (rootsTo f (i + 1) = rootsTo f i) := roots_no e2
                      have e3 : ((f i : Int) == (i : Int)) = false := by rw [beq_eq_false_iff_ne]; omega
                      clear e2
                      go_wp2_with fail
                      go_region
                      go_wp2
                      go_roundg (n - (i + 1))
                      case measure => omega
                      case rel => exact ⟨i + 1, q + 1, by omega, by omega, by go_num, by rw [E.out]; go_num, by rw [E2.out], rfl⟩
                  · have E : Aside (rootsTo o.P (i + 1) = rootsTo o.P i) := roots_no e
                    have e4 : ((o.P i : Int) == (i : Int)) = false := by rw [beq_eq_false_iff_ne]; omega
                    clear e
                    by_cases e2 : f i = i
                    · have E2 : Aside (rootsTo f (i + 1) = rootsTo f i + 1) := roots_yes e2
                      rw [e2] at d3
                      clear e2
                      go_wp2
                      go_roundg (n - (i + 1))
                      case measure => omega
                      case rel => exact ⟨i + 1, q, by omega, by omega, by go_num, by rw [E.out], by rw [E2.out]; go_num, rfl⟩
                    · have E2 : Aside (rootsTo f (i + 1) = rootsTo f i) := roots_no e2
                      have e3 : ((f i : Int) == (i : Int)) = false := by rw [beq_eq_false_iff_ne]; omega
                      clear e2
                      go_wp2
                      go_roundg (n - (i + 1))
                      case measure => omega
                      case rel => exact ⟨i + 1, q, by omega, by omega, by go_num, by rw [E.out], by rw [E2.out], rfl⟩
                · obtain rfl : i = n := by omega
                  clear hr1 hr2
                  rw [HC.out.1, HC.out.2]
                  rcases Nat.lt_or_ge 0 i with hn0 | hn0
                  · have d1 := Bl.out.2.1.cp 0 hn0
                    have d2 := Bl.out.2.1.cz 0 hn0
                    have d3 := Bl.out.2.1.pr.frozen 0
                    have d4 := Bl.out.2.1.zr.frozen 0
                    have b1 := Bl.out.1.hs.c0
                    have b2 := Bl.out.1.hs.c1
                    have b3 := Bl.out.1.ht.c0
                    have b4 := Bl.out.1.ht.c1
                    have b5 := Bl.out.1.hs.cp 0 hn0
                    have b6 := Bl.out.1.hs.cz 0 hn0
                    have b7 := Bl.out.1.ht.cp 0 hn0
                    have b8 := Bl.out.1.ht.cz 0 hn0
                    have a1 : wx.cell? ⟨g1, 0, none⟩ = some (.int .i64 (s.P 0 : Nat)) := Bl.out.1.c1.2 0 hn0
                    have a2 : wx.cell? ⟨g2, 0, none⟩ = some (.int .i64 (s.Z 0 : Nat)) := Bl.out.1.c2.2 0 hn0
                    have a3 : wx.cell? ⟨g3, 0, none⟩ = some (.int .i64 (t.P 0 : Nat)) := Bl.out.1.c3.2 0 hn0
                    have a4 : wx.cell? ⟨g4, 0, none⟩ = some (.int .i64 (t.Z 0 : Nat)) := Bl.out.1.c4.2 0 hn0
                    have m1 := Bl.out.2.1.n1
                    have m2 := Bl.out.2.1.n2
                    have m3 := Bl.out.2.1.n3
                    have r1 : ps ≠ ob ∧ ps ≠ oz := by omega
                    have r2 : pb ≠ ob ∧ pb ≠ oz := by omega
                    have r3 : zb ≠ ob ∧ zb ≠ oz := by omega
                    have r4 : qs ≠ ob ∧ qs ≠ oz := by omega
                    have r5 : qb ≠ ob ∧ qb ≠ oz := by omega
                    have r6 : yb ≠ ob ∧ yb ≠ oz := by omega
                    have r7 : g1 ≠ ob ∧ g1 ≠ oz := by omega
                    have r8 : g2 ≠ ob ∧ g2 ≠ oz := by omega
                    have r9 : g3 ≠ ob ∧ g3 ≠ oz := by omega
                    have r10 : g4 ≠ ob ∧ g4 ≠ oz := by omega
                    obtain ⟨r1a, r1b⟩ := r1
                    obtain ⟨r2a, r2b⟩ := r2
                    obtain ⟨r3a, r3b⟩ := r3
                    obtain ⟨r4a, r4b⟩ := r4
                    obtain ⟨r5a, r5b⟩ := r5
                    obtain ⟨r6a, r6b⟩ := r6
                    obtain ⟨r7a, r7b⟩ := r7
                    obtain ⟨r8a, r8b⟩ := r8
                    obtain ⟨r9a, r9b⟩ := r9
                    obtain ⟨r10a, r10b⟩ := r10
                    go_wp2_with fail
                    go_region
                    go_wp2
                    go_ret
                    refine ⟨rfl, ?_⟩
                    have hsz := Bl.out.1.bl.size
                    have hb0 := (Bl.out.1.bl.setCell (p := ⟨ob, 0, none⟩) (by show w.heap.size ≤ ob; omega) (.int .i64 (-7))).setCell (p := ⟨oz, 0, none⟩) (by show w.heap.size ≤ oz; omega) (.int .i64 (-7))
                    exact ⟨hb0.os, hb0.tape, hb0.output, hb0.size, hb0.block⟩
                  · go_wp2
                    go_ret
                    exact ⟨rfl, below_draws Bl.out.1.bl _⟩

end Go.Proofs.Ymwhas.Qah
