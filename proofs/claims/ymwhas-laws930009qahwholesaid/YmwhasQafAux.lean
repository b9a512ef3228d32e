/-
  THE WALKS of QAF's map, of (*Sets).Labels; Compress at every integer.
-/
import Derived.Test.YmwhasRowN
import Derived.Test.YmwhasComp
namespace Go.Proofs.Ymwhas
open Go.RowKit
set_option linter.unusedVariables false

/-- Each label is the least element that bears it. -/
def Canon (m : Nat) (f : Nat → Nat) : Prop := ∀ i, i < m → f i ≤ i ∧ f (f i) = f i

theorem canon_id (m : Nat) : Canon m (fun i => i) := fun _ _ => ⟨Nat.le_refl _, rfl⟩

theorem canon_relab {m : Nat} {f : Nat → Nat} {x y : Nat} (h : Canon m f) (hx : x < m) (hy : y < m) (hlt : f x < f y) : Canon m (relab f (f x) (f y)) := by
  intro i hi
  have h1 := h i hi
  unfold relab
  by_cases e : f i = f y
  · rw [if_pos e]
    refine ⟨by omega, ?_⟩
    rw [(h x hx).2, if_neg (by omega)]
  · rw [if_neg e]
    refine ⟨h1.1, ?_⟩
    rw [h1.2, if_neg e]

/-- What Labels' 'first' holds when k elements have been seen. -/
def firstTo (R f : Nat → Nat) (k : Nat) (r : Nat) : Int := if R r = r ∧ f r < k then (f r : Int) else -1

theorem first_eq {m : Nat} {R f : Nat → Nat} {k r : Nat} (hLab : LabOk m f R) (hC : Canon m f) (hr : r < m) (hk : k < m) (hR : R r = r) : f r < k + 1 → ¬ f r < k → r = R k := by
  intro h1 h2
  have e : f r = k := by omega
  have h3 := (hLab (f r) r (by omega) hr).1 (hC r hr).2
  rw [e, hR] at h3
  exact h3.symm

theorem first_same {m : Nat} {R f : Nat → Nat} {k r : Nat} (hLab : LabOk m f R) (hC : Canon m f) (hr : r < m) (hk : k < m) (hne : r ≠ R k ∨ f k < k) (hfr : r = R k → f r = f k) : firstTo R f (k + 1) r = firstTo R f k r := by
  unfold firstTo
  by_cases hR : R r = r
  · by_cases h2 : f r < k
    · rw [if_pos ⟨hR, by omega⟩, if_pos ⟨hR, h2⟩]
    · by_cases h1 : f r < k + 1
      · have e := first_eq hLab hC hr hk hR h1 h2
        have := hfr e
        rcases hne with h | h
        · exact absurd e h
        · omega
      · rw [if_neg (fun h => h1 h.2), if_neg (fun h => h2 h.2)]
  · rw [if_neg (fun h => hR h.1), if_neg (fun h => hR h.1)]

theorem within_of_below' {w w' : World} (h : Below w.heap.size w w') : Within (fun _ => False) w w' := ⟨h.os, h.tape, h.output, h.size, fun k hk _ => h.block k hk⟩

theorem map_nonneg (N : Int) : 0 ≤ IntKind.u64.wrap N := by
  simp [IntKind.wrap, IntKind.signed, IntKind.bits]
  omega

set_option maxHeartbeats 400000 in
theorem qaf_map (x : Int) (n : Nat) (w : World) (hn : n ≤ 1048576) :
    Calls Yasv.prog 28 #[.int .i64 x, .int .i64 (n : Nat)] w fun e w' => ∃ r : Int, e = .returned (.int .i64 r) ∧ -1 ≤ r ∧ r ≤ n ∧ w' = w := by
  have hU := map_nonneg x
  have x0 : (0 : Int) ≤ (IntKind.u64.wrap x) % ((n : Int) + 2) := Int.emod_nonneg _ (by omega)
  have x1 : (IntKind.u64.wrap x) % ((n : Int) + 2) < (n : Int) + 2 := Int.emod_lt_of_pos _ (by omega)
  go_enter Yasv.func28, Yasv.ntmps28
  go_wp2
  go_ret
  exact ⟨(IntKind.u64.wrap x) % ((n : Int) + 2) - 1, rfl, by omega, by omega, rfl⟩

theorem comp_all (ps pb zb n : Nat) (s : St) (a : Int) (w : World) (hI : Inv n s) (hn : n ≤ 1048576) (hS : SetsAt w ps pb zb n s) :
    Calls Yasv.prog 17 #[.pointer (some ⟨ps, 0, none⟩), .int .i64 a] w fun e w' => ∃ (b : Bool) (s' : St), e = .returned (.bool b) ∧ s'.R = s.R ∧ s'.c = s.c ∧ Inv n s' ∧ SetsAt w' ps pb zb n s' ∧ Within (three ps pb zb) w w' := by
  by_cases ha : 0 ≤ a ∧ a < n
  · obtain ⟨x, rfl⟩ := Int.eq_ofNat_of_zero_le ha.1
    refine (comp_in ps pb zb n s x w hI hn hS (by omega)).mono ?_
    rintro e w' ⟨he, s', r⟩
    exact ⟨true, s', he, r⟩
  · refine (comp_out ps pb zb n s a w hn hS (by omega)).mono ?_
    rintro e w' ⟨he, hw⟩
    subst hw
    exact ⟨false, s, he, rfl, rfl, hI, hS, Within.refl _ _⟩

set_option maxHeartbeats 1000000 in
theorem labels_any (ps pb zb m : Nat) (s : St) (f : Nat → Nat) (w : World) (hI : Inv m s) (hm : m ≤ 1048576) (hS : SetsAt w ps pb zb m s) (hLab : LabOk m f s.R) (hC : Canon m f) :
    Calls Yasv.prog 29 #[.pointer (some ⟨ps, 0, none⟩)] w fun e w' => ∃ g, e = .returned (.slice (some ⟨g, 0, none⟩) m m) ∧ w.heap.size ≤ g ∧ RowN w' g m f ∧ Within (fun _ => False) w w' := by
  have h0 := hS.c0
  have AI := hI.forest
  have hmk := run_make_row' (P := Yasv.prog) 26 3 (.int .i64 0) 8 Yasv.underlying26 Yasv.inf3 rfl .i64 .i64 m (by omega) (by omega)
  have HS : Aside (SetsAt w ps pb zb m s ∧ LabOk m f s.R ∧ Canon m f) := ⟨hS, hLab, hC⟩
  clear hS hI hLab hC
  go_enter Yasv.func29, Yasv.ntmps29
  go_wp2
  go_loopg [18] m (fun g v wr => ∃ k : Nat, k ≤ m ∧ m - k ≤ g ∧ v = .int .i64 (k : Nat) ∧ wr.rowIs w.heap.size 3 m (fun i => .int .i64 (if i < k then -1 else 0)) ∧ Within (fun q => q = w.heap.size) w wr)
  case atStart => exact ⟨0, Nat.zero_le _, Nat.le_refl _, rfl, (World.rowIs_made w (.int .i64 0) m 3).congr (fun i _ => by simp), (Within.refl _ w).alloc _⟩
  case round =>
    obtain ⟨k, hk, hg, rfl, hR, hW⟩ := hrel
    have Bd : Aside (wr.rowIs w.heap.size 3 m (fun i => .int .i64 (if i < k then -1 else 0)) ∧ Within (fun q => q = w.heap.size) w wr) := ⟨hR, hW⟩
    by_cases hlt : k < m
    · have c2 := hR.cell hlt
      have c3 := hR.frozen k
      clear hR hW
      go_wp2
      go_roundg (m - (k + 1))
      case measure => omega
      case rel =>
        refine ⟨k + 1, by omega, by omega, by go_num, (Bd.out.1.set k _).congr (fun i hi => ?_), Bd.out.2.setCell rfl _⟩
        by_cases e : i = k
        · subst e
          rw [if_pos rfl, if_pos (by omega)]
        · rw [if_neg e]
          by_cases e2 : i < k
          · rw [if_pos e2, if_pos (by omega)]
          · rw [if_neg e2, if_neg (by omega)]
    · clear hR hW
      have hsz : w.heap.size < wr.heap.size := Bd.out.1.lt
      have B2 : Aside (wr.rowIs w.heap.size 3 m (fun r => .int .i64 (firstTo s.R f 0 r)) ∧ Within (fun q => q = w.heap.size) w wr) :=
        ⟨Bd.out.1.congr (fun i hi => by rw [if_pos (by omega)]; unfold firstTo; rw [if_neg (by omega)]), Bd.out.2⟩
      clear Bd
      go_wp2
      have B3 : Aside (Below w.heap.size w wr) := (B2.out.2.below (Nat.le_refl _) (fun q e => by omega))
      have hlb1 : w.heap.size ≠ wr.heap.size := by omega
      have hlb2 : w.heap.size ≤ wr.heap.size := by omega
      go_loopg [29] m (fun g v wx => ∃ k : Nat, k ≤ m ∧ m - k ≤ g ∧ v = .int .i64 (k : Nat) ∧ wx.rowIs w.heap.size 3 m (fun r => .int .i64 (firstTo s.R f k r)) ∧ RowN wx wr.heap.size m (fun j => if j < k then f j else 0) ∧ Below w.heap.size w wx)
      case atStart => exact ⟨0, Nat.zero_le _, Nat.le_refl _, rfl, B2.out.1.alloc _, (rowN_made wr m).congr (fun i _ => by simp), B3.out.alloc hlb2 _⟩
      case round =>
        rename World => wo
        obtain ⟨k, hk, hg, rfl, hR, hL, hBl⟩ := hrel
        have hTr : SetsAt wo ps pb zb m s := HS.out.1.within (within_of_below' hBl) (fun _ _ e => e)
        have k0 := hTr.c0
        have Bd : Aside (wo.rowIs w.heap.size 3 m (fun r => .int .i64 (firstTo s.R f k r)) ∧ RowN wo wr.heap.size m (fun j => if j < k then f j else 0) ∧ Below w.heap.size w wo ∧ SetsAt wo ps pb zb m s) := ⟨hR, hL, hBl, hTr⟩
        clear hTr hBl h0 hmk B2 B3
        by_cases hlt : k < m
        · obtain ⟨r, ER⟩ : ∃ r, Aside (s.R k = r) := ⟨_, rfl⟩
          have hr : r < m := by rw [← ER.out]; exact AI.rlt k hlt
          have hrr : s.R r = r := by rw [← ER.out]; exact AI.rr hlt
          have hfr : f r = f k := (HS.out.2.1 r k hr hlt).2 (by rw [hrr, ER.out])
          have hck := (HS.out.2.2 k hlt).1
          have c1 := hR.cell hr
          have c2 := hR.frozen r
          have c3 := hL.cell hlt
          have c4 := hL.frozen k
          clear hR hL
          by_cases hfk : f k < k
          · have e1 : firstTo s.R f k r = ((f k : Nat) : Int) := by unfold firstTo; rw [if_pos ⟨hrr, by omega⟩, hfr]
            rw [e1] at c1
            have A : Aside (s.R r = r ∧ f r = f k) := ⟨hrr, hfr⟩
            clear e1 hrr hfr
            go_wp2_with fail
            refine (root_any ps pb m k s.P s.Z s.R _ AI hlt hm k0 Bd.out.2.2.2.cp).mono ?_
            rintro e w2 ⟨rfl, rfl⟩
            rw [ER.out]
            go_wp2
            go_roundg (m - (k + 1))
            case measure => omega
            case rel =>
              refine ⟨k + 1, by omega, by omega, by go_num, (World.rowIs.setOther Bd.out.1 (a := ⟨wr.heap.size, k, none⟩) hlb1 _).congr (fun i hi => ?_), (Bd.out.2.1.set k (f k)).congr (fun i hi => ?_), Bd.out.2.2.1.setCell (p := ⟨wr.heap.size, k, none⟩) hlb2 _⟩
              · rw [first_same HS.out.2.1 HS.out.2.2 hi hlt (.inr hfk) (fun e => by rw [e, ER.out]; exact A.out.2)]
              · by_cases e : i = k
                · subst e
                  rw [if_pos rfl, if_pos (by omega)]
                · rw [if_neg e]
                  by_cases e2 : i < k
                  · rw [if_pos e2, if_pos (by omega)]
                  · rw [if_neg e2, if_neg (by omega)]
          · have hfk2 : f k = k := by omega
            have e1 : firstTo s.R f k r = -1 := by unfold firstTo; rw [if_neg (by omega)]
            rw [e1] at c1
            have A : Aside (s.R r = r ∧ f r = f k ∧ f k = k) := ⟨hrr, hfr, hfk2⟩
            clear e1 hrr hfr hfk2 hfk hck
            go_wp2_with fail
            refine (root_any ps pb m k s.P s.Z s.R _ AI hlt hm k0 Bd.out.2.2.2.cp).mono ?_
            rintro e w2 ⟨rfl, rfl⟩
            rw [ER.out]
            go_wp2
            go_roundg (m - (k + 1))
            case measure => omega
            case rel =>
              refine ⟨k + 1, by omega, by omega, by go_num, (World.rowIs.setOther (Bd.out.1.set r _) (a := ⟨wr.heap.size, k, none⟩) hlb1 _).congr (fun i hi => ?_), ?_, (Bd.out.2.2.1.setCell (p := ⟨w.heap.size, r, none⟩) (Nat.le_refl _) _).setCell (p := ⟨wr.heap.size, k, none⟩) hlb2 _⟩
              · by_cases e : i = r
                · subst e
                  rw [if_pos rfl]
                  unfold firstTo
                  rw [if_pos ⟨A.out.1, by have := A.out.2; omega⟩, A.out.2.1, A.out.2.2]
                · rw [if_neg e, first_same HS.out.2.1 HS.out.2.2 hi hlt (.inl (by rw [ER.out]; exact e)) (fun e' => by rw [ER.out] at e'; exact absurd e' e)]
              · have hL1 : RowN (w2.setCell ⟨w.heap.size, r, none⟩ (.int .i64 (k : Nat))) wr.heap.size m (fun j => if j < k then f j else 0) := World.rowIs.setOther Bd.out.2.1 (fun e => hlb1 e.symm) _
                refine (hL1.set k k).congr (fun i hi => ?_)
                by_cases e : i = k
                · subst e
                  rw [if_pos rfl, if_pos (by omega), A.out.2.2]
                · rw [if_neg e]
                  by_cases e2 : i < k
                  · rw [if_pos e2, if_pos (by omega)]
                  · rw [if_neg e2, if_neg (by omega)]
        · clear hR hL
          go_wp2
          go_ret
          exact ⟨wr.heap.size, rfl, hlb2, Bd.out.2.1.congr (fun i hi => by rw [if_pos (by omega)]), within_of_below' Bd.out.2.2.1⟩

end Go.Proofs.Ymwhas
