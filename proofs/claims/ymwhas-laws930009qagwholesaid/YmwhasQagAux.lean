/-
  THE WALKS of QAG's fresh and apply, of Refines.
-/
import Derived.Test.YmwhasUnion
import Derived.Test.YmwhasRowN
namespace Go.Proofs.Ymwhas
open Go.RowKit
set_option linter.unusedVariables false

/-- A slice of pairs that lies below block B0 (or is empty): what is read of it. -/
def Ops2 (w : World) (B0 : Nat) (ka kb : IntKind) (ao : Option Addr) (len b off : Nat) (A B : Nat → Nat) : Prop :=
  (len ≤ 0 ∨ (ao = some ⟨b, off, none⟩ ∧ b < B0)) ∧ ∀ i, i < len → w.cell? ⟨b, off + i * 2, none⟩ = some (.int ka (A i : Nat)) ∧ w.cell? ⟨b, off + i * 2 + 1, none⟩ = some (.int kb (B i : Nat)) ∧ A i ≤ 65535 ∧ B i ≤ 65535

theorem Ops2.below {w w' : World} {B0 : Nat} {ka kb : IntKind} {ao : Option Addr} {len b off : Nat} {A B : Nat → Nat} (h : Ops2 w B0 ka kb ao len b off A B) (k : Below B0 w w') : Ops2 w' B0 ka kb ao len b off A B := by
  refine ⟨h.1, fun i hi => ?_⟩
  rcases h.1 with h0 | ⟨_, hb⟩
  · omega
  · exact ⟨(k.cell (p := ⟨b, off + i * 2, none⟩) hb).trans (h.2 i hi).1, (k.cell (p := ⟨b, off + i * 2 + 1, none⟩) hb).trans (h.2 i hi).2.1, (h.2 i hi).2.2⟩

set_option maxHeartbeats 400000 in
theorem qag_fresh (m : Nat) (w : World) (hm : m ≤ 1048576) :
    Calls Yasv.prog 30 #[.int .i64 (m : Nat)] w fun e w' => ∃ g, e = .returned (.slice (some ⟨g, 0, none⟩) m m) ∧ w.heap.size ≤ g ∧ RowN w' g m (fun i => i) ∧ Within (fun _ => False) w w' := by
  have hmk := run_make_row' (P := Yasv.prog) 26 3 (.int .i64 0) 8 Yasv.underlying26 Yasv.inf3 rfl .i64 .i64 m (by omega) (by omega)
  go_enter Yasv.func30, Yasv.ntmps30
  go_wp2
  go_loopg [9] m (fun g v wr => ∃ k : Nat, k ≤ m ∧ m - k ≤ g ∧ v = .int .i64 (k : Nat) ∧ RowN wr w.heap.size m (fillTo k) ∧ Within (fun q => q = w.heap.size) w wr)
  case atStart => exact ⟨0, Nat.zero_le _, Nat.le_refl _, rfl, fill_start (rowN_made w m), (Within.refl _ w).alloc _⟩
  case round =>
    obtain ⟨k, hk, hg, rfl, hL, hW⟩ := hrel
    have Bd : Aside (RowN wr w.heap.size m (fillTo k) ∧ Within (fun q => q = w.heap.size) w wr) := ⟨hL, hW⟩
    clear hW
    by_cases hlt : k < m
    · have kc := hL.cell hlt
      have kf := hL.frozen k
      clear hL
      go_wp2
      go_roundg (m - (k + 1))
      case measure => omega
      case rel => exact ⟨k + 1, by omega, by omega, by go_num, fill_step Bd.out.1 hlt, Bd.out.2.setCell rfl _⟩
    · clear hL
      go_wp2
      go_ret
      exact ⟨w.heap.size, rfl, Nat.le_refl _, fill_end Bd.out.1 (by omega), ⟨Bd.out.2.os, Bd.out.2.tape, Bd.out.2.output, Bd.out.2.size, fun q hq _ => Bd.out.2.block q hq (by omega)⟩⟩

/-- The blocks of a Sets and of its labels. -/
def four (ps pb zb lb : Nat) (k : Nat) : Prop := three ps pb zb k ∨ k = lb

set_option maxRecDepth 100000 in
set_option maxHeartbeats 2000000 in
theorem apply_core (ps pb zb lb m len cap B0 : Nat) (b off : Nat) (A B : Nat → Nat) (s : St) (f0 : Nat → Nat) (w : World) (hm : m ≤ 1048576) (hl : len ≤ 1024) (hB0 : B0 ≤ w.heap.size) (hps : B0 ≤ ps) (hpb : B0 ≤ pb) (hzb : B0 ≤ zb) (hlb : B0 ≤ lb) (hn3 : ¬ three ps pb zb lb)
    (hb : b < B0) (hO : ∀ i, i < len → w.cell? ⟨b, off + i * 2, none⟩ = some (.int .u16 (A i : Nat)) ∧ w.cell? ⟨b, off + i * 2 + 1, none⟩ = some (.int .u16 (B i : Nat)) ∧ A i ≤ 65535 ∧ B i ≤ 65535)
    (hI0 : Inv m s) (hLab0 : LabOk m f0 s.R) (hL0 : RowN w lb m f0) (hT0 : SetsAt w ps pb zb m s) :
    Calls Yasv.prog 31 #[.pointer (some ⟨ps, 0, none⟩), .slice (some ⟨lb, 0, none⟩) m m, .slice (some ⟨b, off, none⟩) len cap] w fun e w' => e = .returned (.tuple #[]) ∧ ∃ (t : St) (f : Nat → Nat), Inv m t ∧ LabOk m f t.R ∧ RowN w' lb m f ∧ SetsAt w' ps pb zb m t ∧ Within (four ps pb zb lb) w w' := by
  have H0 : Aside (Inv m s ∧ LabOk m f0 s.R ∧ RowN w lb m f0 ∧ SetsAt w ps pb zb m s ∧ Within (four ps pb zb lb) w w) := ⟨hI0, hLab0, hL0, hT0, Within.refl _ _⟩
  clear hI0 hLab0 hL0 hT0
  have HO : Aside (∀ i, i < len → w.cell? ⟨b, off + i * 2, none⟩ = some (.int .u16 (A i : Nat)) ∧ w.cell? ⟨b, off + i * 2 + 1, none⟩ = some (.int .u16 (B i : Nat)) ∧ A i ≤ 65535 ∧ B i ≤ 65535) := hO
  clear hO
  rcases Nat.lt_or_ge 0 m with hm0 | hm0
  · have hmz : ((m : Int) == 0) = false := by rw [beq_eq_false_iff_ne]; omega
    go_enter Yasv.func31, Yasv.ntmps31
    go_wp2
    go_loopg [20] len (fun g vk wx => ∃ (k : Nat) (t : St) (f : Nat → Nat), k ≤ len ∧ len - k ≤ g ∧ vk = .int .i64 (k : Nat) ∧ Inv m t ∧ LabOk m f t.R ∧ RowN wx lb m f ∧ SetsAt wx ps pb zb m t ∧ Within (four ps pb zb lb) w wx)
    case atStart => exact ⟨0, s, f0, Nat.zero_le _, Nat.le_refl _, rfl, H0.out⟩
    case round =>
      obtain ⟨k, t, f, hk, hg, rfl, hI, hLab, hL, hT, hW⟩ := hrel
      by_cases hlt : k < len
      · have hBl : Below B0 w wr := hW.below hB0 (by rintro q ((e | e | e) | e) <;> omega)
        have ca : wr.cell? ⟨b, off + k * 2, none⟩ = some (.int .u16 (A k : Nat)) := (hBl.cell (p := ⟨b, off + k * 2, none⟩) hb).trans (HO.out k hlt).1
        have cb : wr.cell? ⟨b, off + k * 2 + 1, none⟩ = some (.int .u16 (B k : Nat)) := (hBl.cell (p := ⟨b, off + k * 2 + 1, none⟩) hb).trans (HO.out k hlt).2.1
        obtain ⟨_, _, ba, bb⟩ := HO.out k hlt
        have Bd : Aside (Inv m t ∧ LabOk m f t.R ∧ RowN wr lb m f ∧ SetsAt wr ps pb zb m t ∧ Within (four ps pb zb lb) w wr) := ⟨hI, hLab, hL, hT, hW⟩
        clear hI hLab hL hT hW hBl
        generalize A k = av at ca ba
        generalize B k = bv at cb bb
        have x0 : (0 : Int) ≤ (av : Int) % (m : Int) := Int.emod_nonneg _ (by omega)
        have x1 : (av : Int) % (m : Int) < (m : Int) := Int.emod_lt_of_pos _ (by omega)
        have y0 : (0 : Int) ≤ (bv : Int) % (m : Int) := Int.emod_nonneg _ (by omega)
        have y1 : (bv : Int) % (m : Int) < (m : Int) := Int.emod_lt_of_pos _ (by omega)
        go_wp2_with fail
        rw [← Int.natCast_emod, ← Int.natCast_emod]
        have hx : av % m < m := Nat.mod_lt _ hm0
        have hy : bv % m < m := Nat.mod_lt _ hm0
        clear x0 x1 y0 y1
        generalize av % m = x at hx ⊢
        generalize bv % m = y at hy ⊢
        refine (union_any ps pb zb m t x y _ Bd.out.1 (by omega) (Bd.out.2.2.2.1.alloc _)).mono ?_
        rintro e w2 ⟨rfl, hT2, hW2⟩
        have hL2 : RowN w2 lb m f := (Bd.out.2.2.1.alloc _).within hW2 hn3
        have hW3 : Within (four ps pb zb lb) w w2 := (Bd.out.2.2.2.2.alloc _).trans (hW2.mono (fun q hq => .inl hq))
        have hLab := Bd.out.2.1
        have hI2 := inv_union Bd.out.1 (x : Int) (y : Int)
        have hJ := joined_union (s := t) hx hy
        have cx := hL2.cell hx
        have cy := hL2.cell hy
        clear ca cb Bd hW2
        by_cases e : f x = f y
        · have hLab2 := hLab.joined hx hy (joined_same e) hJ
          have Bd : Aside (Inv m (t.union m x y) ∧ LabOk m f (t.union m x y).R ∧ RowN w2 lb m f ∧ SetsAt w2 ps pb zb m (t.union m x y) ∧ Within (four ps pb zb lb) w w2) := ⟨hI2, hLab2, hL2, hT2, hW3⟩
          clear hT2 hI2 hLab hLab2 hL2 hW3 hJ
          rw [e] at cx
          clear e
          go_wp2
          go_roundg (len - (k + 1))
          case measure => omega
          case rel => exact ⟨k + 1, t.union m x y, f, by omega, by omega, by go_num, Bd.out⟩
        · have hfne : ((f x : Int) != (f y : Int)) = true := by rw [bne_iff_ne]; omega
          have hLab2 := hLab.joined hx hy (joined_relab m f x y) hJ
          have Bd : Aside (Inv m (t.union m x y) ∧ LabOk m (relab f (f x) (f y)) (t.union m x y).R ∧ RowN w2 lb m f ∧ SetsAt w2 ps pb zb m (t.union m x y) ∧ Within (four ps pb zb lb) w w2) := ⟨hI2, hLab2, hL2, hT2, hW3⟩
          clear hT2 hI2 hLab hLab2 hL2 hW3 hJ e
          go_wp2
          go_loopg [51] m (fun g v wy => ∃ i : Nat, i ≤ m ∧ m - i ≤ g ∧ v = .int .i64 (i : Nat) ∧ RowN wy lb m (turnTo f (f x) (f y) i) ∧ SetsAt wy ps pb zb m (t.union m x y) ∧ Within (four ps pb zb lb) w wy)
          case atStart => exact ⟨0, Nat.zero_le _, Nat.le_refl _, rfl, turn_start Bd.out.2.2.1, Bd.out.2.2.2.1, Bd.out.2.2.2.2⟩
          case round =>
            obtain ⟨i, hi, hgi, rfl, hL, hT, hWi⟩ := hrel
            have Bi : Aside (RowN wr lb m (turnTo f (f x) (f y) i) ∧ SetsAt wr ps pb zb m (t.union m x y) ∧ Within (four ps pb zb lb) w wr) := ⟨hL, hT, hWi⟩
            clear hT hWi cx cy
            by_cases hil : i < m
            · have kc := hL.cell hil
              rw [turn_at] at kc
              have kf := hL.frozen i
              clear hL
              by_cases e : f i = f y
              · have e' : ((f i : Int) == (f y : Int)) = true := by rw [beq_iff_eq]; omega
                have E : Aside (f i = f y) := e
                clear e
                go_wp2
                go_roundg (m - (i + 1))
                case measure => omega
                case rel => exact ⟨i + 1, by omega, by omega, by go_num, turn_hit Bi.out.1 E.out, Bi.out.2.1.setOther hn3 _, Bi.out.2.2.setCell (.inr rfl) _⟩
              · have e' : ((f i : Int) == (f y : Int)) = false := by rw [beq_eq_false_iff_ne]; omega
                have E : Aside (f i ≠ f y) := e
                clear e
                go_wp2
                go_roundg (m - (i + 1))
                case measure => omega
                case rel => exact ⟨i + 1, by omega, by omega, by go_num, turn_miss Bi.out.1 E.out, Bi.out.2⟩
            · clear hL
              go_wp2
              go_roundg (len - (k + 1))
              case measure => omega
              case rel => exact ⟨k + 1, t.union m x y, relab f (f x) (f y), by omega, by omega, by go_num, Bd.out.1, Bd.out.2.1, turn_end Bi.out.1 (by omega), Bi.out.2⟩
      · have Bd : Aside (Inv m t ∧ LabOk m f t.R ∧ RowN wr lb m f ∧ SetsAt wr ps pb zb m t ∧ Within (four ps pb zb lb) w wr) := ⟨hI, hLab, hL, hT, hW⟩
        clear hI hLab hL hT hW H0
        go_wp2
        go_end0
        exact ⟨rfl, t, f, Bd.out⟩
  · go_enter Yasv.func31, Yasv.ntmps31
    go_wp2
    refine bodyPost_ret (results_none rfl _ _ _) rfl ?_
    exact ⟨rfl, s, f0, H0.out⟩

set_option maxRecDepth 100000 in
set_option maxHeartbeats 2000000 in
theorem apply_empty (ps pb zb lb m len cap B0 : Nat) (ao : Option Addr) (s : St) (f0 : Nat → Nat) (w : World) (hm : m ≤ 1048576) (hl : len ≤ 1024) (hB0 : B0 ≤ w.heap.size) (hps : B0 ≤ ps) (hpb : B0 ≤ pb) (hzb : B0 ≤ zb) (hlb : B0 ≤ lb) (hn3 : ¬ three ps pb zb lb)
    (hl0 : len ≤ 0)
    (hI0 : Inv m s) (hLab0 : LabOk m f0 s.R) (hL0 : RowN w lb m f0) (hT0 : SetsAt w ps pb zb m s) :
    Calls Yasv.prog 31 #[.pointer (some ⟨ps, 0, none⟩), .slice (some ⟨lb, 0, none⟩) m m, .slice ao len cap] w fun e w' => e = .returned (.tuple #[]) ∧ ∃ (t : St) (f : Nat → Nat), Inv m t ∧ LabOk m f t.R ∧ RowN w' lb m f ∧ SetsAt w' ps pb zb m t ∧ Within (four ps pb zb lb) w w' := by
  have H0 : Aside (Inv m s ∧ LabOk m f0 s.R ∧ RowN w lb m f0 ∧ SetsAt w ps pb zb m s ∧ Within (four ps pb zb lb) w w) := ⟨hI0, hLab0, hL0, hT0, Within.refl _ _⟩
  clear hI0 hLab0 hL0 hT0
  rcases Nat.lt_or_ge 0 m with hm0 | hm0
  · have hmz : ((m : Int) == 0) = false := by rw [beq_eq_false_iff_ne]; omega
    go_enter Yasv.func31, Yasv.ntmps31
    go_wp2
    go_loopg [20] len (fun g vk wx => ∃ (k : Nat) (t : St) (f : Nat → Nat), k ≤ len ∧ len - k ≤ g ∧ vk = .int .i64 (k : Nat) ∧ Inv m t ∧ LabOk m f t.R ∧ RowN wx lb m f ∧ SetsAt wx ps pb zb m t ∧ Within (four ps pb zb lb) w wx)
    case atStart => exact ⟨0, s, f0, Nat.zero_le _, Nat.le_refl _, rfl, H0.out⟩
    case round =>
      obtain ⟨k, t, f, hk, hg, rfl, hI, hLab, hL, hT, hW⟩ := hrel
      by_cases hlt : k < len
      · exfalso; omega
      · have Bd : Aside (Inv m t ∧ LabOk m f t.R ∧ RowN wr lb m f ∧ SetsAt wr ps pb zb m t ∧ Within (four ps pb zb lb) w wr) := ⟨hI, hLab, hL, hT, hW⟩
        clear hI hLab hL hT hW H0
        go_wp2
        go_end0
        exact ⟨rfl, t, f, Bd.out⟩
  · go_enter Yasv.func31, Yasv.ntmps31
    go_wp2
    refine bodyPost_ret (results_none rfl _ _ _) rfl ?_
    exact ⟨rfl, s, f0, H0.out⟩

/-- What Refines asks: each element and its parent in s share a part of t. -/
def Steps (n : Nat) (s t : St) : Prop := ∀ j, j < n → t.R j = t.R (s.P j)

set_option maxHeartbeats 1000000 in
theorem refines_eq (ps pb zb qs qb yb n : Nat) (s t : St) (w : World) (hn : n ≤ 1048576) (hIs : Inv n s) (hIt : Inv n t) (hS : SetsAt w ps pb zb n s) (hT : SetsAt w qs qb yb n t) :
    Calls Yasv.prog 32 #[.pointer (some ⟨ps, 0, none⟩), .pointer (some ⟨qs, 0, none⟩)] w fun e w' => ∃ b : Bool, e = .returned (.bool b) ∧ (b = true ↔ Steps n s t) ∧ ∃ q, w' = w.drewN q := by
  have h0 := hS.c0
  have h1 := hT.c0
  have AS := hIs.forest
  have AT := hIt.forest
  have HS : Aside (SetsAt w ps pb zb n s ∧ SetsAt w qs qb yb n t) := ⟨hS, hT⟩
  clear hS hT hIs hIt
  go_enter Yasv.func32, Yasv.ntmps32
  go_wp2_with fail
  go_region
  go_wp2
  go_loopg [23] n (fun g v wr => ∃ k q : Nat, k ≤ n ∧ n - k ≤ g ∧ v = .int .i64 (k : Nat) ∧ (∀ j, j < k → t.R j = t.R (s.P j)) ∧ wr = w.drewN q)
  case atStart => exact ⟨0, 1, Nat.zero_le _, Nat.le_refl _, rfl, fun j hj => absurd hj (Nat.not_lt_zero _), rfl⟩
  case round =>
    obtain ⟨k, q, hk, hg, rfl, hall, rfl⟩ := hrel
    have A : Aside (∀ j, j < k → t.R j = t.R (s.P j)) := hall
    clear hall
    by_cases hlt : k < n
    · have hp := AS.plt k hlt
      have cp := HS.out.1.cp k hlt
      by_cases e : t.R k = t.R (s.P k)
      · have E : Aside (t.R k = t.R (s.P k)) := e
        clear e
        go_wp2_with fail
        refine (root_any qs qb n k t.P t.Z t.R (w.drewN q) AT hlt hn (HS.out.2.drewN q).c0 (HS.out.2.drewN q).cp).mono ?_
        rintro e w2 ⟨rfl, rfl⟩
        go_wp2_with fail
        refine (root_any qs qb n (s.P k) t.P t.Z t.R (w.drewN q) AT hp hn (HS.out.2.drewN q).c0 (HS.out.2.drewN q).cp).mono ?_
        rintro e w2 ⟨rfl, rfl⟩
        rw [← E.out]
        go_wp2
        go_roundg (n - (k + 1))
        case measure => omega
        case rel =>
          refine ⟨k + 1, q, by omega, by omega, by go_num, fun j hj => ?_, rfl⟩
          by_cases e : j = k
          · subst e; exact E.out
          · exact A.out j (by omega)
      · have e' : ((t.R k : Int) != (t.R (s.P k) : Int)) = true := by rw [bne_iff_ne]; omega
        have E : Aside (¬ t.R k = t.R (s.P k)) := e
        clear e
        go_wp2_with fail
        refine (root_any qs qb n k t.P t.Z t.R (w.drewN q) AT hlt hn (HS.out.2.drewN q).c0 (HS.out.2.drewN q).cp).mono ?_
        rintro e w2 ⟨rfl, rfl⟩
        go_wp2_with fail
        refine (root_any qs qb n (s.P k) t.P t.Z t.R (w.drewN q) AT hp hn (HS.out.2.drewN q).c0 (HS.out.2.drewN q).cp).mono ?_
        rintro e w2 ⟨rfl, rfl⟩
        go_wp2
        go_ret
        exact ⟨false, rfl, ⟨fun h => absurd h (by simp), fun h => absurd (h k hlt) E.out⟩, q, rfl⟩
    · go_wp2
      go_ret
      exact ⟨true, rfl, ⟨fun _ j hj => A.out j (by omega), fun _ => rfl⟩, q, rfl⟩

set_option maxHeartbeats 1000000 in
theorem refines_ne (ps pb zb qs qb yb n n2 : Nat) (s t : St) (w : World) (hn : n ≤ 1048576) (hn2 : n2 ≤ 1048576) (hne : n ≠ n2) (hS : SetsAt w ps pb zb n s) (hT : SetsAt w qs qb yb n2 t) :
    Calls Yasv.prog 32 #[.pointer (some ⟨ps, 0, none⟩), .pointer (some ⟨qs, 0, none⟩)] w fun e w' => e = .returned (.bool false) ∧ ∃ q, w' = w.drewN q := by
  have h0 := hS.c0
  have h1 := hT.c0
  have hb : ((n : Int) != (n2 : Int)) = true := by rw [bne_iff_ne]; omega
  clear hS hT
  go_enter Yasv.func32, Yasv.ntmps32
  go_wp2_with fail
  go_region
  go_wp2
  go_ret
  exact ⟨rfl, 1, rfl⟩

/-- The same, by way of the root. -/
theorem steps_root {n : Nat} {s t : St} (hI : Inv n s) (h : Steps n s t) : ∀ (g i : Nat), n - s.Z i ≤ g → i < n → t.R i = t.R (s.R i) := by
  intro g
  induction g with
  | zero =>
    intro i hg hi
    by_cases hp : s.P i = i
    · rw [hI.forest.self i hi hp]
    · have h1 := hI.forest.up i hi hp
      have h2 := hI.forest.zle _ (hI.forest.plt i hi)
      omega
  | succ g ih =>
    intro i hg hi
    by_cases hp : s.P i = i
    · rw [hI.forest.self i hi hp]
    · have h1 := hI.forest.up i hi hp
      have h2 := hI.forest.zle _ (hI.forest.plt i hi)
      rw [h i hi, ih (s.P i) (by omega) (hI.forest.plt i hi), hI.forest.step i hi]

/-- The pairs that the law looks at. -/
def Pairs (n : Nat) (f g : Nat → Nat) : Prop := ∀ i, i < n → ∀ j, j < i → f i = f j → g i = g j

theorem steps_pairs {n : Nat} {s t : St} {f g : Nat → Nat} (hIs : Inv n s) (hf : LabOk n f s.R) (hg : LabOk n g t.R) : Steps n s t ↔ Pairs n f g := by
  constructor
  · intro h i hi j hj e
    have hjn : j < n := by omega
    refine (hg i j hi hjn).2 ?_
    rw [steps_root hIs h _ i (Nat.le_refl _) hi, steps_root hIs h _ j (Nat.le_refl _) hjn, (hf i j hi hjn).1 e]
  · intro h i hi
    have hp := hIs.forest.plt i hi
    have e : f i = f (s.P i) := (hf i _ hi hp).2 (hIs.forest.step i hi).symm
    refine (hg i _ hi hp).1 ?_
    rcases Nat.lt_trichotomy (s.P i) i with h1 | h1 | h1
    · exact h i hi _ h1 e
    · rw [h1]
    · exact (h _ hp i h1 e.symm).symm

/-- QAG's apply, whatever the slice. -/
theorem apply_any (ps pb zb lb m len cap B0 : Nat) (ao : Option Addr) (b off : Nat) (A B : Nat → Nat) (s : St) (f0 : Nat → Nat) (w : World) (hm : m ≤ 1048576) (hl : len ≤ 1024) (hB0 : B0 ≤ w.heap.size) (hps : B0 ≤ ps) (hpb : B0 ≤ pb) (hzb : B0 ≤ zb) (hlb : B0 ≤ lb) (hn3 : ¬ three ps pb zb lb)
    (hO : Ops2 w B0 .u16 .u16 ao len b off A B)
    (hI0 : Inv m s) (hLab0 : LabOk m f0 s.R) (hL0 : RowN w lb m f0) (hT0 : SetsAt w ps pb zb m s) :
    Calls Yasv.prog 31 #[.pointer (some ⟨ps, 0, none⟩), .slice (some ⟨lb, 0, none⟩) m m, .slice ao len cap] w fun e w' => e = .returned (.tuple #[]) ∧ ∃ (t : St) (f : Nat → Nat), Inv m t ∧ LabOk m f t.R ∧ RowN w' lb m f ∧ SetsAt w' ps pb zb m t ∧ Within (four ps pb zb lb) w w' := by
  obtain ⟨h1, h2⟩ := hO
  rcases h1 with h | ⟨rfl, hb⟩
  · exact apply_empty ps pb zb lb m len cap B0 ao s f0 w hm hl hB0 hps hpb hzb hlb hn3 h hI0 hLab0 hL0 hT0
  · exact apply_core ps pb zb lb m len cap B0 b off A B s f0 w hm hl hB0 hps hpb hzb hlb hn3 hb h2 hI0 hLab0 hL0 hT0

end Go.Proofs.Ymwhas
