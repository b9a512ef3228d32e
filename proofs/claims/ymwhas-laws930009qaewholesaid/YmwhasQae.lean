/-
  THE WALK of LawS930009QAEWhole.
-/
import Derived.Test.YmwhasUnion
import Derived.Test.YmwhasComp
import Derived.Test.YmwhasNew
import Derived.Test.YmwhasQaeAux
namespace Go.Proofs.Ymwhas.Qae
open Go.RowKit
set_option linter.unusedVariables false

/-- The members of a part, told by their label. -/
theorem memb_lab {m : Nat} {t : St} {f : Nat → Nat} {x : Nat} (hLab : LabOk m f t.R) (hx : x < m) : memb (fun i => t.R i == t.R x) m = memb (fun i => f i == f x) m := by
  refine memb_congr m (fun i hi => ?_)
  rw [Bool.eq_iff_iff]
  simp only [beq_iff_eq]
  exact (hLab i x hi hx).symm

/-- How many below i bear x's label. -/
def mlen (f : Nat → Nat) (x i : Nat) : Nat := (memb (fun j => f j == f x) i).length

theorem mlen_le (f : Nat → Nat) (x i : Nat) : mlen f x i ≤ i := by
  unfold mlen
  rw [memb_length]
  exact cnt_le _ _

theorem mlen_yes {f : Nat → Nat} {x i : Nat} (e : f i = f x) : mlen f x (i + 1) = mlen f x i + 1 := by
  unfold mlen
  rw [memb_yes (by simp [e]), List.length_append]
  rfl

theorem mlen_no {f : Nat → Nat} {x i : Nat} (e : f i ≠ f x) : mlen f x (i + 1) = mlen f x i := by
  unfold mlen
  rw [memb_no (by simp [e])]

theorem mlen_at {f : Nat → Nat} {x i m : Nat} (e : f i = f x) (hi : i < m) : (memb (fun j => f j == f x) m)[mlen f x i]? = some i := memb_at (p := fun j => f j == f x) (i := i) (by simp [e]) m hi

set_option maxRecDepth 100000 in
set_option maxHeartbeats 1000000 in
theorem walk_long (N : Nat) (ao : Option Addr) (len cap : Nat) (X : Int) (w : World) (hl : 1024 < len) (hm : len ≤ 9223372036854775807) :
    Calls Yasv.prog 7 #[.int .u16 (N : Nat), .slice ao len cap, .int .i64 X] w fun e w' => e = .returned (.bool true) ∧ Below w.heap.size w w' := by
  go_enter Yasv.func7, Yasv.ntmps7
  go_wp2
  go_ret
  exact ⟨rfl, Below.refl _ _⟩

set_option maxRecDepth 100000 in
set_option maxHeartbeats 4000000 in
theorem walk_core (N b off len cap : Nat) (O : Nat → Nat) (A B : Nat → Int) (X : Int) (w : World) (hN : N ≤ 65535) (hl : len ≤ 1024) (hb : b < w.heap.size)
    (hO : ∀ i, i < len → w.cell? ⟨b, off + i * 3, none⟩ = some (.int .u8 (O i : Nat)) ∧ w.cell? ⟨b, off + i * 3 + 1, none⟩ = some (.int .i64 (A i)) ∧ w.cell? ⟨b, off + i * 3 + 2, none⟩ = some (.int .i64 (B i)) ∧ O i ≤ 255 ∧ (-9223372036854775808 ≤ A i ∧ A i ≤ 9223372036854775807) ∧ (-9223372036854775808 ≤ B i ∧ B i ≤ 9223372036854775807)) :
    Calls Yasv.prog 7 #[.int .u16 (N : Nat), .slice (some ⟨b, off, none⟩) len cap, .int .i64 X] w fun e w' => e = .returned (.bool true) ∧ Below w.heap.size w w' := by
  have HO : Aside (∀ i, i < len → w.cell? ⟨b, off + i * 3, none⟩ = some (.int .u8 (O i : Nat)) ∧ w.cell? ⟨b, off + i * 3 + 1, none⟩ = some (.int .i64 (A i)) ∧ w.cell? ⟨b, off + i * 3 + 2, none⟩ = some (.int .i64 (B i)) ∧ O i ≤ 255 ∧ (-9223372036854775808 ≤ A i ∧ A i ≤ 9223372036854775807) ∧ (-9223372036854775808 ≤ B i ∧ B i ≤ 9223372036854775807)) := hO
  clear hO
  have hd : decide (1024 < (len : Int)) = false := decide_eq_false (by omega)
  go_enter Yasv.func7, Yasv.ntmps7
  go_wp2_with fail
  rw [show ((N : Int) % 600) = ((N % 600 : Nat) : Int) from by omega]
  have hm : N % 600 < 600 := Nat.mod_lt _ (by omega)
  generalize N % 600 = m at hm ⊢
  refine (new_any m _ (by omega)).mono ?_
  rintro e w1 ⟨ps, pb, zb, rfl, hps, hpb, hzb, hS, hW⟩
  have hmk := run_make_row' (P := Yasv.prog) 26 3 (.int .i64 0) 8 Yasv.underlying26 Yasv.info3 rfl .i64 .i64 m (by omega) (by omega)
  have HS : Aside (SetsAt w1 ps pb zb m (fresh m) ∧ Within (fun _ => False) w w1) := ⟨hS, hW⟩
  clear hS hW
  go_wp2
  have hlp : w1.heap.size ≠ ps := by have := HS.out.1.st.lt; omega
  have hlq : w1.heap.size ≠ pb := by have := HS.out.1.pr.lt; omega
  have hlz : w1.heap.size ≠ zb := by have := HS.out.1.zr.lt; omega
  have hl1 : w.heap.size ≤ w1.heap.size := HS.out.2.size
  have hn3 : ¬ three ps pb zb w1.heap.size := by rintro (e | e | e) <;> omega
  go_loopg [44] m (fun g v wr => ∃ k : Nat, k ≤ m ∧ m - k ≤ g ∧ v = .int .i64 (k : Nat) ∧ RowN wr w1.heap.size m (fillTo k) ∧ SetsAt wr ps pb zb m (fresh m) ∧ Below w.heap.size w wr)
  case atStart => exact ⟨0, Nat.zero_le _, Nat.le_refl _, rfl, fill_start (rowN_made w1 m), HS.out.1.alloc _, (HS.out.2.below (Nat.le_refl _) (fun _ h => h.elim)).alloc hl1 _⟩
  case round =>
    obtain ⟨k, hk, hg, rfl, hL, hT, hBl⟩ := hrel
    have Bd : Aside (RowN wr w1.heap.size m (fillTo k) ∧ SetsAt wr ps pb zb m (fresh m) ∧ Below w.heap.size w wr) := ⟨hL, hT, hBl⟩
    clear hT hBl
    by_cases hlt : k < m
    · have kc := hL.cell hlt
      have kf := hL.frozen k
      clear hL
      go_wp2
      go_roundg (m - (k + 1))
      case measure => omega
      case rel => exact ⟨k + 1, by omega, by omega, by go_num, fill_step Bd.out.1 hlt, Bd.out.2.1.setOther hn3 _, Bd.out.2.2.setCell hl1 _⟩
    · clear hL
      have Bd2 : Aside (RowN wr w1.heap.size m (fun i => i) ∧ SetsAt wr ps pb zb m (fresh m) ∧ Below w.heap.size w wr) := ⟨fill_end Bd.out.1 (by omega), Bd.out.2⟩
      clear Bd HS
      go_wp2
      go_loopg [54] len (fun g vk wx => ∃ (k : Nat) (t : St) (f : Nat → Nat), k ≤ len ∧ len - k ≤ g ∧ vk = .int .i64 (k : Nat) ∧ Inv m t ∧ LabOk m f t.R ∧ RowN wx w1.heap.size m f ∧ SetsAt wx ps pb zb m t ∧ Below w.heap.size w wx)
      case atStart => exact ⟨0, fresh m, fun i => i, Nat.zero_le _, Nat.le_refl _, rfl, inv_fresh m, labOk_fresh m, Bd2.out⟩
      case round =>
        clear Bd2
        obtain ⟨k, t, f, hk, hg, rfl, hI, hLab, hL, hT, hBl⟩ := hrel
        by_cases hlt : k < len
        · have co : wr.cell? ⟨b, off + k * 3, none⟩ = some (.int .u8 (O k : Nat)) := (hBl.cell (p := ⟨b, off + k * 3, none⟩) hb).trans (HO.out k hlt).1
          have ca : wr.cell? ⟨b, off + k * 3 + 1, none⟩ = some (.int .i64 (A k)) := (hBl.cell (p := ⟨b, off + k * 3 + 1, none⟩) hb).trans (HO.out k hlt).2.1
          have cb : wr.cell? ⟨b, off + k * 3 + 2, none⟩ = some (.int .i64 (B k)) := (hBl.cell (p := ⟨b, off + k * 3 + 2, none⟩) hb).trans (HO.out k hlt).2.2.1
          obtain ⟨_, _, _, bo, ba, bb⟩ := HO.out k hlt
          have Bd : Aside (Inv m t ∧ LabOk m f t.R ∧ RowN wr w1.heap.size m f ∧ SetsAt wr ps pb zb m t ∧ Below w.heap.size w wr) := ⟨hI, hLab, hL, hT, hBl⟩
          clear hI hLab hL hT hBl
          generalize A k = av at ca ba
          generalize B k = bv at cb bb
          generalize O k = ov at co bo
          rcases Nat.lt_or_ge 0 m with hm0 | hm0
          · go_wp2_with fail
            refine (qae_mod av m _ hm0 (by omega) ba).mono ?_
            rintro e w2 ⟨x, rfl, hx, rfl⟩
            go_wp2_with fail
            refine (qae_mod bv m _ hm0 (by omega) bb).mono ?_
            rintro e w2 ⟨y, rfl, hy, rfl⟩
            by_cases hpar : ov % 2 = 0
            · go_wp2_with fail
              refine (union_any ps pb zb m t x y _ Bd.out.1 (by omega) (Bd.out.2.2.2.1.alloc _)).mono ?_
              rintro e w2 ⟨rfl, hT2, hW2⟩
              have hL2 : RowN w2 w1.heap.size m f := (Bd.out.2.2.1.alloc _).within hW2 hn3
              have hB2 : Below w.heap.size w w2 := (Bd.out.2.2.2.2.alloc (by have := Bd.out.2.2.2.2.size; omega) _).trans (hW2.below (by have := Bd.out.2.2.2.2.size; simp; omega) (by rintro q (e | e | e) <;> omega))
              have hLab := Bd.out.2.1
              have hI2 := inv_union Bd.out.1 (x : Int) (y : Int)
              have hJ := joined_union (s := t) hx hy
              have cx := hL2.cell hx
              have cy := hL2.cell hy
              clear co ca cb Bd hW2
              by_cases e : f x = f y
              · have hLab2 := hLab.joined hx hy (joined_same e) hJ
                have Bd : Aside (Inv m (t.union m x y) ∧ LabOk m f (t.union m x y).R ∧ RowN w2 w1.heap.size m f ∧ SetsAt w2 ps pb zb m (t.union m x y) ∧ Below w.heap.size w w2) := ⟨hI2, hLab2, hL2, hT2, hB2⟩
                clear hT2 hI2 hLab hLab2 hL2 hB2 hJ
                rw [e] at cx
                clear e
                go_wp2
                go_roundg (len - (k + 1))
                case measure => omega
                case rel => exact ⟨k + 1, t.union m x y, f, by omega, by omega, by go_num, Bd.out⟩
              · have hfne : ((f x : Int) != (f y : Int)) = true := by rw [bne_iff_ne]; omega
                by_cases hsw : f y < f x
                · have hLab2 := hLab.joined hx hy (joined_relab m f y x).symm hJ
                  have Bd : Aside (Inv m (t.union m x y) ∧ LabOk m (relab f (f y) (f x)) (t.union m x y).R ∧ RowN w2 w1.heap.size m f ∧ SetsAt w2 ps pb zb m (t.union m x y) ∧ Below w.heap.size w w2) := ⟨hI2, hLab2, hL2, hT2, hB2⟩
                  clear hT2 hI2 hLab hLab2 hL2 hB2 hJ e
                  go_wp2
                  go_loopg [94] m (fun g v wy => ∃ i : Nat, i ≤ m ∧ m - i ≤ g ∧ v = .int .i64 (i : Nat) ∧ RowN wy w1.heap.size m (turnTo f (f y) (f x) i) ∧ SetsAt wy ps pb zb m (t.union m x y) ∧ Below w.heap.size w wy)
                  case atStart => exact ⟨0, Nat.zero_le _, Nat.le_refl _, rfl, turn_start Bd.out.2.2.1, Bd.out.2.2.2.1, Bd.out.2.2.2.2⟩
                  case round =>
                    obtain ⟨i, hi, hgi, rfl, hL, hT, hBl⟩ := hrel
                    have Bi : Aside (RowN wr w1.heap.size m (turnTo f (f y) (f x) i) ∧ SetsAt wr ps pb zb m (t.union m x y) ∧ Below w.heap.size w wr) := ⟨hL, hT, hBl⟩
                    clear hT hBl cx cy
                    by_cases hil : i < m
                    · have kc := hL.cell hil
                      rw [turn_at] at kc
                      have kf := hL.frozen i
                      clear hL
                      rcases (show f i = f x ∨ (f i ≠ f x ∧ f i = f y) ∨ (f i ≠ f x ∧ f i ≠ f y) from by omega) with e | ⟨e, e2⟩ | ⟨e, e2⟩
                      · have e' : ((f i : Int) == (f x : Int)) = true := by rw [beq_iff_eq]; omega
                        have E : Aside (f i = f x) := e
                        clear e
                        go_wp2
                        go_roundg (m - (i + 1))
                        case measure => omega
                        case rel => exact ⟨i + 1, by omega, by omega, by go_num, turn_hit Bi.out.1 E.out, Bi.out.2.1.setOther hn3 _, Bi.out.2.2.setCell hl1 _⟩
                      · have e' : ((f i : Int) == (f x : Int)) = false := by rw [beq_eq_false_iff_ne]; omega
                        have e3 : ((f i : Int) == (f y : Int)) = true := by rw [beq_iff_eq]; omega
                        have E : Aside (f i = f y) := e2
                        clear e e2
                        go_wp2
                        go_roundg (m - (i + 1))
                        case measure => omega
                        case rel => exact ⟨i + 1, by omega, by omega, by go_num, turn_keep Bi.out.1 E.out (by omega), Bi.out.2.1.setOther hn3 _, Bi.out.2.2.setCell hl1 _⟩
                      · have e' : ((f i : Int) == (f x : Int)) = false := by rw [beq_eq_false_iff_ne]; omega
                        have e3 : ((f i : Int) == (f y : Int)) = false := by rw [beq_eq_false_iff_ne]; omega
                        have E : Aside (f i ≠ f x ∧ f i ≠ f y) := ⟨e, e2⟩
                        clear e e2
                        go_wp2
                        go_roundg (m - (i + 1))
                        case measure => omega
                        case rel => exact ⟨i + 1, by omega, by omega, by go_num, turn_miss Bi.out.1 E.out.1, Bi.out.2⟩
                    · clear hL
                      go_wp2
                      go_roundg (len - (k + 1))
                      case measure => omega
                      case rel => exact ⟨k + 1, t.union m x y, relab f (f y) (f x), by omega, by omega, by go_num, Bd.out.1, Bd.out.2.1, turn_end Bi.out.1 (by omega), Bi.out.2⟩
                · have hLab2 := hLab.joined hx hy (joined_relab m f x y) hJ
                  have Bd : Aside (Inv m (t.union m x y) ∧ LabOk m (relab f (f x) (f y)) (t.union m x y).R ∧ RowN w2 w1.heap.size m f ∧ SetsAt w2 ps pb zb m (t.union m x y) ∧ Below w.heap.size w w2) := ⟨hI2, hLab2, hL2, hT2, hB2⟩
                  have hsw2 : f x < f y := by omega
                  clear hT2 hI2 hLab hLab2 hL2 hB2 hJ e hsw
                  go_wp2
                  go_loopg [94] m (fun g v wy => ∃ i : Nat, i ≤ m ∧ m - i ≤ g ∧ v = .int .i64 (i : Nat) ∧ RowN wy w1.heap.size m (turnTo f (f x) (f y) i) ∧ SetsAt wy ps pb zb m (t.union m x y) ∧ Below w.heap.size w wy)
                  case atStart => exact ⟨0, Nat.zero_le _, Nat.le_refl _, rfl, turn_start Bd.out.2.2.1, Bd.out.2.2.2.1, Bd.out.2.2.2.2⟩
                  case round =>
                    obtain ⟨i, hi, hgi, rfl, hL, hT, hBl⟩ := hrel
                    have Bi : Aside (RowN wr w1.heap.size m (turnTo f (f x) (f y) i) ∧ SetsAt wr ps pb zb m (t.union m x y) ∧ Below w.heap.size w wr) := ⟨hL, hT, hBl⟩
                    clear hT hBl cx cy
                    by_cases hil : i < m
                    · have kc := hL.cell hil
                      rw [turn_at] at kc
                      have kf := hL.frozen i
                      clear hL
                      rcases (show f i = f x ∨ (f i ≠ f x ∧ f i = f y) ∨ (f i ≠ f x ∧ f i ≠ f y) from by omega) with e | ⟨e, e2⟩ | ⟨e, e2⟩
                      · have e' : ((f i : Int) == (f x : Int)) = true := by rw [beq_iff_eq]; omega
                        have E : Aside (f i = f x) := e
                        clear e
                        go_wp2
                        go_roundg (m - (i + 1))
                        case measure => omega
                        case rel => exact ⟨i + 1, by omega, by omega, by go_num, turn_keep Bi.out.1 E.out (by omega), Bi.out.2.1.setOther hn3 _, Bi.out.2.2.setCell hl1 _⟩
                      · have e' : ((f i : Int) == (f x : Int)) = false := by rw [beq_eq_false_iff_ne]; omega
                        have e3 : ((f i : Int) == (f y : Int)) = true := by rw [beq_iff_eq]; omega
                        have E : Aside (f i = f y) := e2
                        clear e e2
                        go_wp2
                        go_roundg (m - (i + 1))
                        case measure => omega
                        case rel => exact ⟨i + 1, by omega, by omega, by go_num, turn_hit Bi.out.1 E.out, Bi.out.2.1.setOther hn3 _, Bi.out.2.2.setCell hl1 _⟩
                      · have e' : ((f i : Int) == (f x : Int)) = false := by rw [beq_eq_false_iff_ne]; omega
                        have e3 : ((f i : Int) == (f y : Int)) = false := by rw [beq_eq_false_iff_ne]; omega
                        have E : Aside (f i ≠ f x ∧ f i ≠ f y) := ⟨e, e2⟩
                        clear e e2
                        go_wp2
                        go_roundg (m - (i + 1))
                        case measure => omega
                        case rel => exact ⟨i + 1, by omega, by omega, by go_num, turn_miss Bi.out.1 E.out.2, Bi.out.2⟩
                    · clear hL
                      go_wp2
                      go_roundg (len - (k + 1))
                      case measure => omega
                      case rel => exact ⟨k + 1, t.union m x y, relab f (f x) (f y), by omega, by omega, by go_num, Bd.out.1, Bd.out.2.1, turn_end Bi.out.1 (by omega), Bi.out.2⟩
            · go_wp2_with fail
              refine (comp_in ps pb zb m t x _ Bd.out.1 (by omega) (Bd.out.2.2.2.1.alloc _)  hx).mono ?_
              rintro e w2 ⟨rfl, t2, hR2, hc2, hI2, hT2, hW2⟩
              have Bd2 : Aside (Inv m t2 ∧ LabOk m f t2.R ∧ RowN w2 w1.heap.size m f ∧ SetsAt w2 ps pb zb m t2 ∧ Below w.heap.size w w2) := ⟨hI2, by rw [hR2]; exact Bd.out.2.1, (Bd.out.2.2.1.alloc _).within hW2 hn3, hT2, (Bd.out.2.2.2.2.alloc (by have := Bd.out.2.2.2.2.size; omega) _).trans (hW2.below (by have := Bd.out.2.2.2.2.size; simp; omega) (by rintro q (e | e | e) <;> omega))⟩
              clear hR2 hc2 hI2 hT2 hW2 Bd co ca cb
              go_wp2
              go_roundg (len - (k + 1))
              case measure => omega
              case rel => exact ⟨k + 1, t2, f, by omega, by omega, by go_num, Bd2.out⟩
          · obtain ⟨hI, hLab, hL, hT, hBl⟩ := Bd.out
            have hL := hL.alloc (.cells #[.int .u8 (ov : Nat), .int .i64 av, .int .i64 bv] 59)
            have hT := hT.alloc (.cells #[.int .u8 (ov : Nat), .int .i64 av, .int .i64 bv] 59)
            have hBl := hBl.alloc (by have := hBl.size; omega) (.cells #[.int .u8 (ov : Nat), .int .i64 av, .int .i64 bv] 59)
            clear Bd HO
            have hXout : X < 0 ∨ (m : Int) ≤ X := by omega
            have k0 := hT.c0
            have Bd : Aside (Inv m t ∧ LabOk m f t.R ∧ RowN (wr.alloc (.cells #[.int .u8 (ov : Nat), .int .i64 av, .int .i64 bv] 59)) w1.heap.size m f ∧ SetsAt (wr.alloc (.cells #[.int .u8 (ov : Nat), .int .i64 av, .int .i64 bv] 59)) ps pb zb m t ∧ Below w.heap.size w (wr.alloc (.cells #[.int .u8 (ov : Nat), .int .i64 av, .int .i64 bv] 59))) := ⟨hI, hLab, hL, hT, hBl⟩
            have q26 : ∀ (w : World) (a : Option Addr) (n c n' c' : Nat), (binOp .eql 26 (.slice a n c) (.slice none n' c')).run Yasv.prog w = .ok (.bool a.isNone) w := fun w a n c n' c' => Lib.run_eql_slice_nil w _ _ a n c n' c' Yasv.underlying26
            clear hI hLab hL hT hBl hmk
            go_wp2_with fail
            refine (clone_any pb m m (fun i => (t.P i : Int)) _ (by omega) (Cells.of_row Bd.out.2.2.2.1.pr)).mono ?_
            rintro e wa ⟨g1, cp1, rfl, hg1, hC1, hWa⟩
            have hTa := Bd.out.2.2.2.1.within hWa (fun _ _ e => e)
            have k1 := hTa.c1
            have Ba : Aside (Inv m t ∧ LabOk m f t.R ∧ RowN wa w1.heap.size m f ∧ SetsAt wa ps pb zb m t ∧ Below w.heap.size w wa ∧ Cells wa g1 m (fun i => (t.P i : Int))) := ⟨Bd.out.1, Bd.out.2.1, Bd.out.2.2.1.within hWa (fun e => e), hTa, Bd.out.2.2.2.2.trans (hWa.below (by have := Bd.out.2.2.2.2.size; omega) (fun _ e => e.elim)), hC1⟩
            clear hTa hC1 hWa Bd k0
            go_wp2_with fail
            refine (clone_any zb m m (fun i => (t.Z i : Int)) _ (by omega) (Cells.of_row Ba.out.2.2.2.1.zr)).mono ?_
            rintro e wb ⟨g2, cp2, rfl, hg2, hC2, hWb⟩
            have hTb := Ba.out.2.2.2.1.within hWb (fun _ _ e => e)
            have k0 := hTb.c0
            have k1 := hTb.c1
            have k2 := hTb.c2
            have Bb : Aside (Inv m t ∧ LabOk m f t.R ∧ RowN wb w1.heap.size m f ∧ SetsAt wb ps pb zb m t ∧ Below w.heap.size w wb ∧ Cells wb g1 m (fun i => (t.P i : Int)) ∧ Cells wb g2 m (fun i => (t.Z i : Int))) :=
              ⟨Ba.out.1, Ba.out.2.1, Ba.out.2.2.1.within hWb (fun e => e), hTb, Ba.out.2.2.2.2.1.trans (hWb.below (by have := Ba.out.2.2.2.2.1.size; omega) (fun _ e => e.elim)), Ba.out.2.2.2.2.2.within hWb (fun e => e), hC2⟩
            clear hTb hC2 hWb Ba
            go_wp2_with fail
            refine (members_out ps pb zb m t X _ (by omega) Bb.out.2.2.2.1 hXout).mono ?_
            rintro e wc ⟨rfl, rfl⟩
            go_wp2_with fail
            refine (equal_true g1 pb m cp1 m (fun i => (t.P i : Int)) _ (by omega) Bb.out.2.2.2.2.2.1 (Cells.of_row Bb.out.2.2.2.1.pr)).mono ?_
            rintro e wd ⟨rfl, q1, rfl⟩
            go_wp2_with fail
            refine (equal_true g2 zb m cp2 m (fun i => (t.Z i : Int)) _ (by omega) (Bb.out.2.2.2.2.2.2.drewN q1) ((Cells.of_row Bb.out.2.2.2.1.zr).drewN q1)).mono ?_
            rintro e wd ⟨rfl, q2, rfl⟩
            rcases (show X < 0 ∨ (0 ≤ X ∧ (m : Int) ≤ X) from by omega) with hX1 | hX1
            all_goals
              go_wp2
              go_ret
              exact ⟨rfl, below_draws Bb.out.2.2.2.2.1 _⟩
        · clear HO
          have k0 := hT.c0
          have Bd : Aside (Inv m t ∧ LabOk m f t.R ∧ RowN wr w1.heap.size m f ∧ SetsAt wr ps pb zb m t ∧ Below w.heap.size w wr) := ⟨hI, hLab, hL, hT, hBl⟩
          have q26 : ∀ (w : World) (a : Option Addr) (n c n' c' : Nat), (binOp .eql 26 (.slice a n c) (.slice none n' c')).run Yasv.prog w = .ok (.bool a.isNone) w := fun w a n c n' c' => Lib.run_eql_slice_nil w _ _ a n c n' c' Yasv.underlying26
          clear hI hLab hL hT hBl hmk
          go_wp2_with fail
          refine (clone_any pb m m (fun i => (t.P i : Int)) _ (by omega) (Cells.of_row Bd.out.2.2.2.1.pr)).mono ?_
          rintro e wa ⟨g1, cp1, rfl, hg1, hC1, hWa⟩
          have hTa := Bd.out.2.2.2.1.within hWa (fun _ _ e => e)
          have k1 := hTa.c1
          have Ba : Aside (Inv m t ∧ LabOk m f t.R ∧ RowN wa w1.heap.size m f ∧ SetsAt wa ps pb zb m t ∧ Below w.heap.size w wa ∧ Cells wa g1 m (fun i => (t.P i : Int))) := ⟨Bd.out.1, Bd.out.2.1, Bd.out.2.2.1.within hWa (fun e => e), hTa, Bd.out.2.2.2.2.trans (hWa.below (by have := Bd.out.2.2.2.2.size; omega) (fun _ e => e.elim)), hC1⟩
          clear hTa hC1 hWa Bd k0
          go_wp2_with fail
          refine (clone_any zb m m (fun i => (t.Z i : Int)) _ (by omega) (Cells.of_row Ba.out.2.2.2.1.zr)).mono ?_
          rintro e wb ⟨g2, cp2, rfl, hg2, hC2, hWb⟩
          have hTb := Ba.out.2.2.2.1.within hWb (fun _ _ e => e)
          have k0 := hTb.c0
          have k1 := hTb.c1
          have k2 := hTb.c2
          have Bb : Aside (Inv m t ∧ LabOk m f t.R ∧ RowN wb w1.heap.size m f ∧ SetsAt wb ps pb zb m t ∧ Below w.heap.size w wb ∧ Cells wb g1 m (fun i => (t.P i : Int)) ∧ Cells wb g2 m (fun i => (t.Z i : Int))) :=
            ⟨Ba.out.1, Ba.out.2.1, Ba.out.2.2.1.within hWb (fun e => e), hTb, Ba.out.2.2.2.2.1.trans (hWb.below (by have := Ba.out.2.2.2.2.1.size; omega) (fun _ e => e.elim)), Ba.out.2.2.2.2.2.within hWb (fun e => e), hC2⟩
          clear hTb hC2 hWb Ba
          go_wp2_with fail
          by_cases hXin : 0 ≤ X ∧ X < (m : Int)
          · obtain ⟨x, rfl⟩ := Int.eq_ofNat_of_zero_le hXin.1
            have hx : x < m := by omega
            have hd1 : decide ((x : Int) < 0) = false := decide_eq_false (by omega)
            have hd2 : decide (m ≤ x) = false := decide_eq_false (by omega)
            refine (members_in ps pb zb m t x _ Bb.out.1 (by omega) Bb.out.2.2.2.1 hx).mono ?_
            rintro e wc ⟨gm, cm, rfl, hgm, hCm, hlm, hWm⟩
            rw [memb_lab Bb.out.2.1 hx] at hCm
            rw [memb_lab Bb.out.2.1 hx]
            have hTc := Bb.out.2.2.2.1.within hWm (fun _ _ e => e)
            have k0 := hTc.c0
            have k1 := hTc.c1
            have k2 := hTc.c2
            rw [show (memb (fun j => f j == f x) m).length = mlen f x m from rfl]
            have hlen := mlen_le f x m
            have Bc : Aside (Inv m t ∧ LabOk m f t.R ∧ RowN wc w1.heap.size m f ∧ SetsAt wc ps pb zb m t ∧ Below w.heap.size w wc ∧ Cells wc g1 m (fun i => (t.P i : Int)) ∧ Cells wc g2 m (fun i => (t.Z i : Int)) ∧ (∀ k v, (memb (fun j => f j == f x) m)[k]? = some v → wc.cell? ⟨gm, k, none⟩ = some (.int .i64 (v : Nat)))) :=
              ⟨Bb.out.1, Bb.out.2.1, Bb.out.2.2.1.within hWm (fun e => e), hTc, Bb.out.2.2.2.2.1.trans (hWm.below (by have := Bb.out.2.2.2.2.1.size; omega) (fun _ e => e.elim)), Bb.out.2.2.2.2.2.1.within hWm (fun e => e), Bb.out.2.2.2.2.2.2.within hWm (fun e => e), hCm⟩
            clear hTc hCm hWm Bb
            go_wp2_with fail
            refine (equal_true g1 pb m cp1 m (fun i => (t.P i : Int)) _ (by omega) Bc.out.2.2.2.2.2.1 (Cells.of_row Bc.out.2.2.2.1.pr)).mono ?_
            rintro e wd ⟨rfl, q1, rfl⟩
            go_wp2_with fail
            refine (equal_true g2 zb m cp2 m (fun i => (t.Z i : Int)) _ (by omega) (Bc.out.2.2.2.2.2.2.1.drewN q1) ((Cells.of_row Bc.out.2.2.2.1.zr).drewN q1)).mono ?_
            rintro e wd ⟨rfl, q2, rfl⟩
            have cx := Bc.out.2.2.1.cell hx
            go_wp2
            go_loopg [25, 26] m (fun g vk vi wy => ∃ i q : Nat, i ≤ m ∧ m - i ≤ g ∧ vi = .int .i64 (i : Nat) ∧ vk = .int .i64 (mlen f x i : Nat) ∧ wy = wc.drewN q)
            case atStart => exact ⟨0, q1 + q2, Nat.zero_le _, Nat.le_refl _, rfl, rfl, rfl⟩
            case round =>
              obtain ⟨i, q, hi, hgi, rfl, rfl, rfl⟩ := hrel
              have hcb := mlen_le f x i
              by_cases hil : i < m
              · have ci := Bc.out.2.2.1.cell hil
                by_cases e : f i = f x
                · have e' : ((f i : Int) == (f x : Int)) = true := by rw [beq_iff_eq]; omega
                  have hat := mlen_at e hil
                  have hll : mlen f x i < mlen f x m := (List.getElem?_eq_some_iff.1 hat).1
                  have cg := Bc.out.2.2.2.2.2.2.2 _ _ hat
                  have E : Aside (mlen f x (i + 1) = mlen f x i + 1) := mlen_yes e
                  clear e hat
                  go_wp2_with fail
                  go_region
                  go_wp2
                  go_roundg (m - (i + 1))
                  case measure => omega
                  case rel => exact ⟨i + 1, q + 1, by omega, by omega, by go_num, by rw [E.out]; go_num, rfl⟩
                · have e' : ((f i : Int) == (f x : Int)) = false := by rw [beq_eq_false_iff_ne]; omega
                  have E : Aside (mlen f x (i + 1) = mlen f x i) := mlen_no e
                  clear e
                  go_wp2_with fail
                  go_region
                  go_wp2
                  go_roundg (m - (i + 1))
                  case measure => omega
                  case rel => exact ⟨i + 1, q + 1, by omega, by omega, by go_num, by rw [E.out], rfl⟩
              · have hie : i = m := by omega
                subst hie
                go_wp2
                go_ret
                exact ⟨rfl, below_draws Bc.out.2.2.2.2.1 _⟩
          · have hXout : X < 0 ∨ (m : Int) ≤ X := by omega
            refine (members_out ps pb zb m t X _ (by omega) Bb.out.2.2.2.1 hXout).mono ?_
            rintro e wc ⟨rfl, rfl⟩
            go_wp2_with fail
            refine (equal_true g1 pb m cp1 m (fun i => (t.P i : Int)) _ (by omega) Bb.out.2.2.2.2.2.1 (Cells.of_row Bb.out.2.2.2.1.pr)).mono ?_
            rintro e wd ⟨rfl, q1, rfl⟩
            go_wp2_with fail
            refine (equal_true g2 zb m cp2 m (fun i => (t.Z i : Int)) _ (by omega) (Bb.out.2.2.2.2.2.2.drewN q1) ((Cells.of_row Bb.out.2.2.2.1.zr).drewN q1)).mono ?_
            rintro e wd ⟨rfl, q2, rfl⟩
            rcases (show X < 0 ∨ (0 ≤ X ∧ (m : Int) ≤ X) from by omega) with hX1 | hX1
            all_goals
              go_wp2
              go_ret
              exact ⟨rfl, below_draws Bb.out.2.2.2.2.1 _⟩

set_option maxRecDepth 100000 in
set_option maxHeartbeats 4000000 in
theorem walk_empty (N : Nat) (ao : Option Addr) (len cap : Nat) (X : Int) (w : World) (hN : N ≤ 65535) (hl0 : len ≤ 0) :
    Calls Yasv.prog 7 #[.int .u16 (N : Nat), .slice ao len cap, .int .i64 X] w fun e w' => e = .returned (.bool true) ∧ Below w.heap.size w w' := by
  have hl : len ≤ 1024 := by omega
  have hd : decide (1024 < (len : Int)) = false := decide_eq_false (by omega)
  go_enter Yasv.func7, Yasv.ntmps7
  go_wp2_with fail
  rw [show ((N : Int) % 600) = ((N % 600 : Nat) : Int) from by omega]
  have hm : N % 600 < 600 := Nat.mod_lt _ (by omega)
  generalize N % 600 = m at hm ⊢
  refine (new_any m _ (by omega)).mono ?_
  rintro e w1 ⟨ps, pb, zb, rfl, hps, hpb, hzb, hS, hW⟩
  have hmk := run_make_row' (P := Yasv.prog) 26 3 (.int .i64 0) 8 Yasv.underlying26 Yasv.info3 rfl .i64 .i64 m (by omega) (by omega)
  have HS : Aside (SetsAt w1 ps pb zb m (fresh m) ∧ Within (fun _ => False) w w1) := ⟨hS, hW⟩
  clear hS hW
  go_wp2
  have hlp : w1.heap.size ≠ ps := by have := HS.out.1.st.lt; omega
  have hlq : w1.heap.size ≠ pb := by have := HS.out.1.pr.lt; omega
  have hlz : w1.heap.size ≠ zb := by have := HS.out.1.zr.lt; omega
  have hl1 : w.heap.size ≤ w1.heap.size := HS.out.2.size
  have hn3 : ¬ three ps pb zb w1.heap.size := by rintro (e | e | e) <;> omega
  go_loopg [44] m (fun g v wr => ∃ k : Nat, k ≤ m ∧ m - k ≤ g ∧ v = .int .i64 (k : Nat) ∧ RowN wr w1.heap.size m (fillTo k) ∧ SetsAt wr ps pb zb m (fresh m) ∧ Below w.heap.size w wr)
  case atStart => exact ⟨0, Nat.zero_le _, Nat.le_refl _, rfl, fill_start (rowN_made w1 m), HS.out.1.alloc _, (HS.out.2.below (Nat.le_refl _) (fun _ h => h.elim)).alloc hl1 _⟩
  case round =>
    obtain ⟨k, hk, hg, rfl, hL, hT, hBl⟩ := hrel
    have Bd : Aside (RowN wr w1.heap.size m (fillTo k) ∧ SetsAt wr ps pb zb m (fresh m) ∧ Below w.heap.size w wr) := ⟨hL, hT, hBl⟩
    clear hT hBl
    by_cases hlt : k < m
    · have kc := hL.cell hlt
      have kf := hL.frozen k
      clear hL
      go_wp2
      go_roundg (m - (k + 1))
      case measure => omega
      case rel => exact ⟨k + 1, by omega, by omega, by go_num, fill_step Bd.out.1 hlt, Bd.out.2.1.setOther hn3 _, Bd.out.2.2.setCell hl1 _⟩
    · clear hL
      have Bd2 : Aside (RowN wr w1.heap.size m (fun i => i) ∧ SetsAt wr ps pb zb m (fresh m) ∧ Below w.heap.size w wr) := ⟨fill_end Bd.out.1 (by omega), Bd.out.2⟩
      clear Bd HS
      go_wp2
      go_loopg [54] len (fun g vk wx => ∃ (k : Nat) (t : St) (f : Nat → Nat), k ≤ len ∧ len - k ≤ g ∧ vk = .int .i64 (k : Nat) ∧ Inv m t ∧ LabOk m f t.R ∧ RowN wx w1.heap.size m f ∧ SetsAt wx ps pb zb m t ∧ Below w.heap.size w wx)
      case atStart => exact ⟨0, fresh m, fun i => i, Nat.zero_le _, Nat.le_refl _, rfl, inv_fresh m, labOk_fresh m, Bd2.out⟩
      case round =>
        clear Bd2
        obtain ⟨k, t, f, hk, hg, rfl, hI, hLab, hL, hT, hBl⟩ := hrel
        by_cases hlt : k < len
        · exfalso; omega
        · skip
          have k0 := hT.c0
          have Bd : Aside (Inv m t ∧ LabOk m f t.R ∧ RowN wr w1.heap.size m f ∧ SetsAt wr ps pb zb m t ∧ Below w.heap.size w wr) := ⟨hI, hLab, hL, hT, hBl⟩
          have q26 : ∀ (w : World) (a : Option Addr) (n c n' c' : Nat), (binOp .eql 26 (.slice a n c) (.slice none n' c')).run Yasv.prog w = .ok (.bool a.isNone) w := fun w a n c n' c' => Lib.run_eql_slice_nil w _ _ a n c n' c' Yasv.underlying26
          clear hI hLab hL hT hBl hmk
          go_wp2_with fail
          refine (clone_any pb m m (fun i => (t.P i : Int)) _ (by omega) (Cells.of_row Bd.out.2.2.2.1.pr)).mono ?_
          rintro e wa ⟨g1, cp1, rfl, hg1, hC1, hWa⟩
          have hTa := Bd.out.2.2.2.1.within hWa (fun _ _ e => e)
          have k1 := hTa.c1
          have Ba : Aside (Inv m t ∧ LabOk m f t.R ∧ RowN wa w1.heap.size m f ∧ SetsAt wa ps pb zb m t ∧ Below w.heap.size w wa ∧ Cells wa g1 m (fun i => (t.P i : Int))) := ⟨Bd.out.1, Bd.out.2.1, Bd.out.2.2.1.within hWa (fun e => e), hTa, Bd.out.2.2.2.2.trans (hWa.below (by have := Bd.out.2.2.2.2.size; omega) (fun _ e => e.elim)), hC1⟩
          clear hTa hC1 hWa Bd k0
          go_wp2_with fail
          refine (clone_any zb m m (fun i => (t.Z i : Int)) _ (by omega) (Cells.of_row Ba.out.2.2.2.1.zr)).mono ?_
          rintro e wb ⟨g2, cp2, rfl, hg2, hC2, hWb⟩
          have hTb := Ba.out.2.2.2.1.within hWb (fun _ _ e => e)
          have k0 := hTb.c0
          have k1 := hTb.c1
          have k2 := hTb.c2
          have Bb : Aside (Inv m t ∧ LabOk m f t.R ∧ RowN wb w1.heap.size m f ∧ SetsAt wb ps pb zb m t ∧ Below w.heap.size w wb ∧ Cells wb g1 m (fun i => (t.P i : Int)) ∧ Cells wb g2 m (fun i => (t.Z i : Int))) :=
            ⟨Ba.out.1, Ba.out.2.1, Ba.out.2.2.1.within hWb (fun e => e), hTb, Ba.out.2.2.2.2.1.trans (hWb.below (by have := Ba.out.2.2.2.2.1.size; omega) (fun _ e => e.elim)), Ba.out.2.2.2.2.2.within hWb (fun e => e), hC2⟩
          clear hTb hC2 hWb Ba
          go_wp2_with fail
          by_cases hXin : 0 ≤ X ∧ X < (m : Int)
          · obtain ⟨x, rfl⟩ := Int.eq_ofNat_of_zero_le hXin.1
            have hx : x < m := by omega
            have hd1 : decide ((x : Int) < 0) = false := decide_eq_false (by omega)
            have hd2 : decide (m ≤ x) = false := decide_eq_false (by omega)
            refine (members_in ps pb zb m t x _ Bb.out.1 (by omega) Bb.out.2.2.2.1 hx).mono ?_
            rintro e wc ⟨gm, cm, rfl, hgm, hCm, hlm, hWm⟩
            rw [memb_lab Bb.out.2.1 hx] at hCm
            rw [memb_lab Bb.out.2.1 hx]
            have hTc := Bb.out.2.2.2.1.within hWm (fun _ _ e => e)
            have k0 := hTc.c0
            have k1 := hTc.c1
            have k2 := hTc.c2
            rw [show (memb (fun j => f j == f x) m).length = mlen f x m from rfl]
            have hlen := mlen_le f x m
            have Bc : Aside (Inv m t ∧ LabOk m f t.R ∧ RowN wc w1.heap.size m f ∧ SetsAt wc ps pb zb m t ∧ Below w.heap.size w wc ∧ Cells wc g1 m (fun i => (t.P i : Int)) ∧ Cells wc g2 m (fun i => (t.Z i : Int)) ∧ (∀ k v, (memb (fun j => f j == f x) m)[k]? = some v → wc.cell? ⟨gm, k, none⟩ = some (.int .i64 (v : Nat)))) :=
              ⟨Bb.out.1, Bb.out.2.1, Bb.out.2.2.1.within hWm (fun e => e), hTc, Bb.out.2.2.2.2.1.trans (hWm.below (by have := Bb.out.2.2.2.2.1.size; omega) (fun _ e => e.elim)), Bb.out.2.2.2.2.2.1.within hWm (fun e => e), Bb.out.2.2.2.2.2.2.within hWm (fun e => e), hCm⟩
            clear hTc hCm hWm Bb
            go_wp2_with fail
            refine (equal_true g1 pb m cp1 m (fun i => (t.P i : Int)) _ (by omega) Bc.out.2.2.2.2.2.1 (Cells.of_row Bc.out.2.2.2.1.pr)).mono ?_
            rintro e wd ⟨rfl, q1, rfl⟩
            go_wp2_with fail
            refine (equal_true g2 zb m cp2 m (fun i => (t.Z i : Int)) _ (by omega) (Bc.out.2.2.2.2.2.2.1.drewN q1) ((Cells.of_row Bc.out.2.2.2.1.zr).drewN q1)).mono ?_
            rintro e wd ⟨rfl, q2, rfl⟩
            have cx := Bc.out.2.2.1.cell hx
            go_wp2
            go_loopg [25, 26] m (fun g vk vi wy => ∃ i q : Nat, i ≤ m ∧ m - i ≤ g ∧ vi = .int .i64 (i : Nat) ∧ vk = .int .i64 (mlen f x i : Nat) ∧ wy = wc.drewN q)
            case atStart => exact ⟨0, q1 + q2, Nat.zero_le _, Nat.le_refl _, rfl, rfl, rfl⟩
            case round =>
              obtain ⟨i, q, hi, hgi, rfl, rfl, rfl⟩ := hrel
              have hcb := mlen_le f x i
              by_cases hil : i < m
              · have ci := Bc.out.2.2.1.cell hil
                by_cases e : f i = f x
                · have e' : ((f i : Int) == (f x : Int)) = true := by rw [beq_iff_eq]; omega
                  have hat := mlen_at e hil
                  have hll : mlen f x i < mlen f x m := (List.getElem?_eq_some_iff.1 hat).1
                  have cg := Bc.out.2.2.2.2.2.2.2 _ _ hat
                  have E : Aside (mlen f x (i + 1) = mlen f x i + 1) := mlen_yes e
                  clear e hat
                  go_wp2_with fail
                  go_region
                  go_wp2
                  go_roundg (m - (i + 1))
                  case measure => omega
                  case rel => exact ⟨i + 1, q + 1, by omega, by omega, by go_num, by rw [E.out]; go_num, rfl⟩
                · have e' : ((f i : Int) == (f x : Int)) = false := by rw [beq_eq_false_iff_ne]; omega
                  have E : Aside (mlen f x (i + 1) = mlen f x i) := mlen_no e
                  clear e
                  go_wp2_with fail
                  go_region
                  go_wp2
                  go_roundg (m - (i + 1))
                  case measure => omega
                  case rel => exact ⟨i + 1, q + 1, by omega, by omega, by go_num, by rw [E.out], rfl⟩
              · have hie : i = m := by omega
                subst hie
                go_wp2
                go_ret
                exact ⟨rfl, below_draws Bc.out.2.2.2.2.1 _⟩
          · have hXout : X < 0 ∨ (m : Int) ≤ X := by omega
            refine (members_out ps pb zb m t X _ (by omega) Bb.out.2.2.2.1 hXout).mono ?_
            rintro e wc ⟨rfl, rfl⟩
            go_wp2_with fail
            refine (equal_true g1 pb m cp1 m (fun i => (t.P i : Int)) _ (by omega) Bb.out.2.2.2.2.2.1 (Cells.of_row Bb.out.2.2.2.1.pr)).mono ?_
            rintro e wd ⟨rfl, q1, rfl⟩
            go_wp2_with fail
            refine (equal_true g2 zb m cp2 m (fun i => (t.Z i : Int)) _ (by omega) (Bb.out.2.2.2.2.2.2.drewN q1) ((Cells.of_row Bb.out.2.2.2.1.zr).drewN q1)).mono ?_
            rintro e wd ⟨rfl, q2, rfl⟩
            rcases (show X < 0 ∨ (0 ≤ X ∧ (m : Int) ≤ X) from by omega) with hX1 | hX1
            all_goals
              go_wp2
              go_ret
              exact ⟨rfl, below_draws Bb.out.2.2.2.2.1 _⟩

end Go.Proofs.Ymwhas.Qae
