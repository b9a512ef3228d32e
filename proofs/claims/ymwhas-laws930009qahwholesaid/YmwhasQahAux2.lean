/-
  THE WALKS of QAH's merge and root, of Join.
-/
import Derived.Test.YmwhasQahAux
namespace Go.Proofs.Ymwhas
open Go.RowKit
set_option linter.unusedVariables false

set_option maxHeartbeats 400000 in
/-- QAH's walk up the forest. -/
theorem qah_root (g n x : Nat) (P Z R : Nat → Nat) (w : World) (hF : Forest n P Z R) (hz : ∀ i, i < n → 1 ≤ Z i) (hx : x < n) (hn : n ≤ 1048576) (hC : Cells w g n (fun i => (P i : Int))) :
    Calls Yasv.prog 36 #[.slice (some ⟨g, 0, none⟩) n n, .int .i64 (x : Nat)] w fun e w' => e = .returned (.int .i64 (R x : Nat)) ∧ w' = w := by
  have AP : Aside (Cells w g n (fun i => (P i : Int))) := hC
  clear hC
  go_enter Yasv.func36, Yasv.ntmps36
  go_wp2
  go_loopg [1, 5] (n - Z x) (fun k s v wr => ∃ y j : Nat, y < n ∧ j + 1 ≤ Z y ∧ s = .int .i64 (y : Nat) ∧ v = .int .i64 (j : Nat) ∧ n - Z y ≤ k ∧ R y = R x ∧ wr = w)
  case atStart => exact ⟨x, 0, hx, hz x hx, rfl, rfl, Nat.le_refl _, rfl, rfl⟩
  case round =>
    obtain ⟨y, j, hy, hj, rfl, rfl, hg, hR, rfl⟩ := hrel
    have hc : wr.cell? ⟨g, y, none⟩ = some (.int .i64 (P y : Nat)) := AP.out.2 y hy
    have hp := hF.plt y hy
    have hzy := hF.zle y hy
    have HR : Aside (R y = R x) := hR
    clear hR
    have hjn : j ≤ n := by omega
    by_cases e : P y = y
    · have e1 : wr.cell? ⟨g, y, none⟩ = some (.int .i64 (y : Nat)) := by rw [hc, e]
      clear hc
      go_wp2
      go_ret
      refine ⟨?_, rfl⟩
      rw [← HR.out, hF.self y hy e]
      rfl
    · have hu := hF.up y hy e
      have hz := hF.zle _ hp
      have e' : ((P y : Int) == (y : Int)) = false := by rw [beq_eq_false_iff_ne]; omega
      go_wp2
      go_roundg (n - Z (P y))
      case measure => omega
      case rel => exact ⟨P y, j + 1, hp, by omega, rfl, by go_num, Nat.le_refl _, by rw [hF.step y hy, HR.out], rfl⟩

set_option maxHeartbeats 1000000 in
/-- Join of two universes of different size. -/
theorem join_ne (ps pb zb qs qb yb n n2 : Nat) (s t : St) (w : World) (hn : n ≤ 1048576) (hn2 : n2 ≤ 1048576) (hne : n ≠ n2) (hS : SetsAt w ps pb zb n s) (hT : SetsAt w qs qb yb n2 t) :
    Calls Yasv.prog 34 #[.pointer (some ⟨ps, 0, none⟩), .pointer (some ⟨qs, 0, none⟩)] w fun e w' => e = .returned (.tuple #[.pointer none, .bool false]) ∧ ∃ q, w' = w.drewN q := by
  have h0 := hS.c0
  have h1 := hT.c0
  have hb : ((n : Int) != (n2 : Int)) = true := by rw [bne_iff_ne]; omega
  clear hS hT
  go_enter Yasv.func34, Yasv.ntmps34
  go_wp2_with fail
  go_region
  go_wp2
  go_ret2
  exact ⟨rfl, 1, rfl⟩

set_option maxHeartbeats 1000000 in
/-- Join of two universes of one size. -/
theorem join_eq (ps pb zb qs qb yb n : Nat) (s t : St) (w : World) (hn : n ≤ 1048576) (hIs : Inv n s) (hIt : Inv n t) (hS : SetsAt w ps pb zb n s) (hT : SetsAt w qs qb yb n t) :
    Calls Yasv.prog 34 #[.pointer (some ⟨ps, 0, none⟩), .pointer (some ⟨qs, 0, none⟩)] w fun e w' => ∃ (os ob oz : Nat) (o : St), e = .returned (.tuple #[.pointer (some ⟨os, 0, none⟩), .bool true]) ∧ w.heap.size ≤ os ∧ w.heap.size ≤ ob ∧ w.heap.size ≤ oz ∧ Inv n o ∧ Gen n (Edges s t n) o.R ∧ SetsAt w' os ob oz n o ∧ Within (fun _ => False) w w' := by
  have h0 := hS.c0
  have h1 := hT.c0
  have HS : Aside (SetsAt w ps pb zb n s ∧ SetsAt w qs qb yb n t ∧ Inv n s ∧ Inv n t) := ⟨hS, hT, hIs, hIt⟩
  clear hS hT hIs hIt
  go_enter Yasv.func34, Yasv.ntmps34
  go_wp2_with fail
  go_region
  go_wp2_with fail
  refine (new_any n _ hn).mono ?_
  rintro e w1 ⟨os, ob, oz, rfl, hos, hob, hoz, hN, hW⟩
  have hBl1 : Below w.heap.size w w1 := by
    have hb := hW.below (B := w.heap.size) (Nat.le_refl _) (fun _ e => e.elim)
    exact ⟨hb.os, hb.tape, hb.output, hb.size, hb.block⟩
  have hos' : w.heap.size ≤ os := hos
  have hob' : w.heap.size ≤ ob := hob
  have hoz' : w.heap.size ≤ oz := hoz
  have H1 : Aside (SetsAt w1 os ob oz n (fresh n) ∧ Below w.heap.size w w1) := ⟨hN, hBl1⟩
  have k0 : w1.cell? ⟨ps, 0, none⟩ = some (.slice (some ⟨pb, 0, none⟩) n n) := (HS.out.1.within (within_of_below' hBl1) (fun _ _ e => e)).c0
  clear hN hW hBl1 hos hob hoz h0 h1
  go_wp2
  go_loopg [36] n (fun g v wr => ∃ (k : Nat) (o : St), k ≤ n ∧ n - k ≤ g ∧ v = .int .i64 (k : Nat) ∧ Inv n o ∧ Gen n (Edges s t k) o.R ∧ SetsAt wr os ob oz n o ∧ Below w.heap.size w wr)
  case atStart => exact ⟨0, fresh n, Nat.zero_le _, Nat.le_refl _, rfl, inv_fresh n, (gen_fresh n).same (fun g => ⟨fun hg x y hxy => absurd hxy.1 (Nat.not_lt_zero _), fun hg x y hxy => hxy.elim⟩), H1.out⟩
  case round =>
    obtain ⟨k, o, hk, hg, rfl, hI, hG, hO, hBl⟩ := hrel
    have hsz := hBl.size
    have hTs : SetsAt wr ps pb zb n s := HS.out.1.within (within_of_below' hBl) (fun _ _ e => e)
    have k0 := hTs.c0
    have Bd : Aside (Inv n o ∧ Gen n (Edges s t k) o.R ∧ SetsAt wr os ob oz n o ∧ Below w.heap.size w wr) := ⟨hI, hG, hO, hBl⟩
    clear hI hG hO hBl H1
    by_cases hlt : k < n
    · have c1 := hTs.cp k hlt
      have hpk := HS.out.2.2.1.forest.plt k hlt
      have hqk := HS.out.2.2.2.forest.plt k hlt
      clear hTs
      go_wp2_with fail
      refine (union_any os ob oz n o _ _ _ Bd.out.1 hn Bd.out.2.2.1).mono ?_
      rintro e w2 ⟨rfl, hO2, hW2⟩
      have hBl2 : Below w.heap.size w w2 := Bd.out.2.2.2.trans (hW2.below (by omega) (by rintro q (e | e | e) <;> omega))
      have hTt : SetsAt w2 qs qb yb n t := HS.out.2.1.within (within_of_below' hBl2) (fun _ _ e => e)
      have j0 := hTt.c0
      have c2 := hTt.cp k hlt
      have hz2 := hW2.size
      have Be : Aside (Inv n (o.union n (s.P k : Nat) (k : Nat)) ∧ SetsAt w2 os ob oz n (o.union n (s.P k : Nat) (k : Nat)) ∧ Below w.heap.size w w2) := ⟨inv_union Bd.out.1 _ _, hO2, hBl2⟩
      clear hO2 hW2 hBl2 hTt k0 c1
      go_wp2_with fail
      refine (union_any os ob oz n (o.union n (s.P k : Nat) (k : Nat)) _ _ _ Be.out.1 hn Be.out.2.1).mono ?_
      rintro e w3 ⟨rfl, hO3, hW3⟩
      have Bf : Aside (Inv n ((o.union n (s.P k : Nat) (k : Nat)).union n (t.P k : Nat) (k : Nat)) ∧ Gen n (Edges s t (k + 1)) ((o.union n (s.P k : Nat) (k : Nat)).union n (t.P k : Nat) (k : Nat)).R ∧ SetsAt w3 os ob oz n ((o.union n (s.P k : Nat) (k : Nat)).union n (t.P k : Nat) (k : Nat)) ∧ Below w.heap.size w w3) :=
        ⟨inv_union Be.out.1 _ _, edges_step HS.out.2.2.1.forest.plt HS.out.2.2.2.forest.plt hlt Bd.out.2.1 (joined_union hpk hlt) (joined_union hqk hlt), hO3, Be.out.2.2.trans (hW3.below (by omega) (by rintro q (e | e | e) <;> omega))⟩
      clear hO3 hW3 Be Bd j0 c2
      go_wp2
      go_roundg (n - (k + 1))
      case measure => omega
      case rel => exact ⟨k + 1, _, by omega, by omega, by go_num, Bf.out⟩
    · have E5 : Aside (k = n) := by show k = n; omega
      clear hTs
      go_wp2
      go_ret2
      rw [← E5.out]
      exact ⟨os, ob, oz, o, rfl, hos', hob', hoz', by rw [E5.out]; exact Bd.out.1, by rw [E5.out]; rw [E5.out] at Bd; exact Bd.out.2.1, by rw [E5.out]; exact Bd.out.2.2.1, within_of_below' Bd.out.2.2.2⟩

set_option maxRecDepth 100000 in
set_option maxHeartbeats 2000000 in
theorem merge_core (lb n len cap : Nat) (B0 b off : Nat) (A : Nat → Nat) (G : Nat → Nat → Prop) (f0 : Nat → Nat) (w : World) (hn : n ≤ 1048576) (hGl : ∀ a b, G a b → a < n ∧ b < n) (hl : len ≤ 1024) (hB0 : B0 ≤ w.heap.size) (hb : b < B0) (hlb : B0 ≤ lb) (hO : ∀ i, i < len → w.cell? ⟨b, off + i, none⟩ = some (.int .u8 (A i : Nat)) ∧ A i ≤ 255)
    (hGen0 : Gen n G f0) (hCan0 : Canon n f0) (hL0 : RowN w lb n f0) :
    Calls Yasv.prog 35 #[.slice (some ⟨lb, 0, none⟩) n n, .slice (some ⟨b, off, none⟩) len cap] w fun e w' => e = .returned (.tuple #[]) ∧ ∃ f : Nat → Nat, Gen n (Plus G n A (takes n len)) f ∧ Canon n f ∧ RowN w' lb n f ∧ Within (fun q => q = lb) w w' := by
  have H0 : Aside (Gen n G f0 ∧ Canon n f0 ∧ RowN w lb n f0) := ⟨hGen0, hCan0, hL0⟩
  clear hGen0 hCan0 hL0
  have HO : Aside (∀ i, i < len → w.cell? ⟨b, off + i, none⟩ = some (.int .u8 (A i : Nat)) ∧ A i ≤ 255) := hO
  clear hO
  rcases Nat.lt_or_ge 0 n with hn0 | hn0
  · have hnz : ((n : Int) == 0) = false := by rw [beq_eq_false_iff_ne]; omega
    go_enter Yasv.func35, Yasv.ntmps35
    go_wp2
    go_loopg [5] len (fun g vk wx => ∃ (k j : Nat) (f : Nat → Nat), k ≤ len ∧ len - k ≤ g ∧ vk = .int .i64 (k : Nat) ∧ k = 2 * j ∧ Gen n (Plus G n A j) f ∧ Canon n f ∧ RowN wx lb n f ∧ Within (fun q => q = lb) w wx)
    case atStart => exact ⟨0, 0, f0, Nat.zero_le _, Nat.le_refl _, rfl, rfl, plus_zero H0.out.1, H0.out.2.1, H0.out.2.2, Within.refl _ _⟩
    case round =>
      obtain ⟨k, j, f, hk, hg, rfl, hkj, hGen, hCan, hL, hW⟩ := hrel
      by_cases hlt : k + 1 < len
      · have hBl : Below B0 w wr := hW.below hB0 (by rintro q e; omega)
        have ca : wr.cell? ⟨b, off + k, none⟩ = some (.int .u8 (A k : Nat)) := (hBl.cell (p := ⟨b, off + k, none⟩) hb).trans (HO.out k (by omega)).1
        have cb : wr.cell? ⟨b, off + (k + 1), none⟩ = some (.int .u8 (A (k + 1) : Nat)) := (hBl.cell (p := ⟨b, off + (k + 1), none⟩) hb).trans (HO.out (k + 1) (by omega)).1
        have ba := (HO.out k (by omega)).2
        have bb := (HO.out (k + 1) (by omega)).2
        have E5 : Aside (k + 2 = 2 * (j + 1)) := by show k + 2 = 2 * (j + 1); omega
        have hx : A k % n < n := Nat.mod_lt _ hn0
        have hy : A (k + 1) % n < n := Nat.mod_lt _ hn0
        have hstep : ∀ f' : Nat → Nat, Joined n f f' (A k % n) (A (k + 1) % n) → Gen n (Plus G n A (j + 1)) f' := fun f' hJ => plus_step hn0 hGl hGen (by rw [← hkj]; exact hJ)
        obtain ⟨x, EX⟩ : ∃ x, Aside (A k % n = x) := ⟨_, rfl⟩
        obtain ⟨y, EY⟩ : ∃ y, Aside (A (k + 1) % n = y) := ⟨_, rfl⟩
        have ex : ((A k : Nat) : Int) % (n : Int) = (x : Int) := by rw [← EX.out, Int.natCast_emod]
        have ey : ((A (k + 1) : Nat) : Int) % (n : Int) = (y : Int) := by rw [← EY.out, Int.natCast_emod]
        rw [EX.out] at hx hstep
        rw [EY.out] at hy hstep
        have cx := hL.cell hx
        have cy := hL.cell hy
        clear hBl EX EY hGen hkj
        generalize A k = av at ca ba ex
        generalize A (k + 1) = bv at cb bb ey
        rcases (show f x = f y ∨ f y < f x ∨ f x < f y from by omega) with e | hsw | hsw
        · have Bd : Aside (Gen n (Plus G n A (j + 1)) f ∧ Canon n f ∧ RowN wr lb n f ∧ Within (fun q => q = lb) w wr) := ⟨hstep f (joined_same e), hCan, hL, hW⟩
          clear hstep hCan hL hW H0
          rw [e] at cx
          clear e
          go_wp2
          go_roundg (len - (k + 2))
          case measure => omega
          case rel => exact ⟨k + 2, j + 1, f, by omega, by omega, by go_num, E5.out, Bd.out⟩
        · have Bd : Aside (Gen n (Plus G n A (j + 1)) (relab f (f y) (f x)) ∧ Canon n (relab f (f y) (f x)) ∧ RowN wr lb n f ∧ Within (fun q => q = lb) w wr ∧ True) := ⟨hstep _ (joined_relab n f y x).symm, canon_relab hCan hy hx hsw, hL, hW, trivial⟩
          have hne : ((f x : Int) == (f y : Int)) = false := by rw [beq_eq_false_iff_ne]; omega
          clear hstep hCan hL hW H0
          go_wp2
          go_loopg [10] n (fun g v wy => ∃ i : Nat, i ≤ n ∧ n - i ≤ g ∧ v = .int .i64 (i : Nat) ∧ RowN wy lb n (turnTo f (f y) (f x) i) ∧ Within (fun q => q = lb) w wy)
          case atStart => exact ⟨0, Nat.zero_le _, Nat.le_refl _, rfl, turn_start Bd.out.2.2.1, Bd.out.2.2.2.1⟩
          case round =>
            obtain ⟨i, hi, hgi, rfl, hL, hWi⟩ := hrel
            have Bi : Aside (RowN wr lb n (turnTo f (f y) (f x) i) ∧ Within (fun q => q = lb) w wr) := ⟨hL, hWi⟩
            clear hWi cx cy
            by_cases hil : i < n
            · have kc := hL.cell hil
              rw [turn_at] at kc
              have kf := hL.frozen i
              clear hL
              by_cases e : f i = (f x)
              · have e' : ((f i : Int) == ((f x) : Int)) = true := by rw [beq_iff_eq]; omega
                have E : Aside (f i = (f x)) := e
                clear e
                go_wp2
                go_roundg (n - (i + 1))
                case measure => omega
                case rel => exact ⟨i + 1, by omega, by omega, by go_num, turn_hit Bi.out.1 E.out, Bi.out.2.setCell rfl _⟩
              · have e' : ((f i : Int) == ((f x) : Int)) = false := by rw [beq_eq_false_iff_ne]; omega
                have E : Aside (f i ≠ (f x)) := e
                clear e
                go_wp2
                go_roundg (n - (i + 1))
                case measure => omega
                case rel => exact ⟨i + 1, by omega, by omega, by go_num, turn_miss Bi.out.1 E.out, Bi.out.2⟩
            · clear hL
              go_wp2
              go_roundg (len - (k + 2))
              case measure => omega
              case rel => exact ⟨k + 2, j + 1, relab f (f y) (f x), by omega, by omega, by go_num, E5.out, Bd.out.1, Bd.out.2.1, turn_end Bi.out.1 (by omega), Bi.out.2⟩
        · have Bd : Aside (Gen n (Plus G n A (j + 1)) (relab f (f x) (f y)) ∧ Canon n (relab f (f x) (f y)) ∧ RowN wr lb n f ∧ Within (fun q => q = lb) w wr ∧ True) := ⟨hstep _ (joined_relab n f x y), canon_relab hCan hx hy hsw, hL, hW, trivial⟩
          have hne : ((f x : Int) == (f y : Int)) = false := by rw [beq_eq_false_iff_ne]; omega
          clear hstep hCan hL hW H0
          go_wp2
          go_loopg [10] n (fun g v wy => ∃ i : Nat, i ≤ n ∧ n - i ≤ g ∧ v = .int .i64 (i : Nat) ∧ RowN wy lb n (turnTo f (f x) (f y) i) ∧ Within (fun q => q = lb) w wy)
          case atStart => exact ⟨0, Nat.zero_le _, Nat.le_refl _, rfl, turn_start Bd.out.2.2.1, Bd.out.2.2.2.1⟩
          case round =>
            obtain ⟨i, hi, hgi, rfl, hL, hWi⟩ := hrel
            have Bi : Aside (RowN wr lb n (turnTo f (f x) (f y) i) ∧ Within (fun q => q = lb) w wr) := ⟨hL, hWi⟩
            clear hWi cx cy
            by_cases hil : i < n
            · have kc := hL.cell hil
              rw [turn_at] at kc
              have kf := hL.frozen i
              clear hL
              by_cases e : f i = (f y)
              · have e' : ((f i : Int) == ((f y) : Int)) = true := by rw [beq_iff_eq]; omega
                have E : Aside (f i = (f y)) := e
                clear e
                go_wp2
                go_roundg (n - (i + 1))
                case measure => omega
                case rel => exact ⟨i + 1, by omega, by omega, by go_num, turn_hit Bi.out.1 E.out, Bi.out.2.setCell rfl _⟩
              · have e' : ((f i : Int) == ((f y) : Int)) = false := by rw [beq_eq_false_iff_ne]; omega
                have E : Aside (f i ≠ (f y)) := e
                clear e
                go_wp2
                go_roundg (n - (i + 1))
                case measure => omega
                case rel => exact ⟨i + 1, by omega, by omega, by go_num, turn_miss Bi.out.1 E.out, Bi.out.2⟩
            · clear hL
              go_wp2
              go_roundg (len - (k + 2))
              case measure => omega
              case rel => exact ⟨k + 2, j + 1, relab f (f x) (f y), by omega, by omega, by go_num, E5.out, Bd.out.1, Bd.out.2.1, turn_end Bi.out.1 (by omega), Bi.out.2⟩
      · have Bd : Aside (Gen n (Plus G n A (takes n len)) f ∧ Canon n f ∧ RowN wr lb n f ∧ Within (fun q => q = lb) w wr) := by
          refine ⟨?_, hCan, hL, hW⟩
          rw [show takes n len = j from by unfold takes; rw [if_pos hn0]; omega]
          exact hGen
        clear hGen hCan hL hW H0 hkj
        go_wp2
        go_end0
        exact ⟨rfl, f, Bd.out⟩
  · go_enter Yasv.func35, Yasv.ntmps35
    go_wp2
    refine bodyPost_ret (results_none rfl _ _ _) rfl ?_
    refine ⟨rfl, f0, ?_, H0.out.2.1, H0.out.2.2, Within.refl _ _⟩
    unfold takes
    rw [if_neg (by omega)]
    exact plus_zero H0.out.1

set_option maxRecDepth 100000 in
set_option maxHeartbeats 2000000 in
theorem merge_empty (lb n len cap : Nat) (ao : Option Addr) (A : Nat → Nat) (G : Nat → Nat → Prop) (f0 : Nat → Nat) (w : World) (hn : n ≤ 1048576) (hGl : ∀ a b, G a b → a < n ∧ b < n) (hl0 : len ≤ 0)
    (hGen0 : Gen n G f0) (hCan0 : Canon n f0) (hL0 : RowN w lb n f0) :
    Calls Yasv.prog 35 #[.slice (some ⟨lb, 0, none⟩) n n, .slice ao len cap] w fun e w' => e = .returned (.tuple #[]) ∧ ∃ f : Nat → Nat, Gen n (Plus G n A (takes n len)) f ∧ Canon n f ∧ RowN w' lb n f ∧ Within (fun q => q = lb) w w' := by
  have H0 : Aside (Gen n G f0 ∧ Canon n f0 ∧ RowN w lb n f0) := ⟨hGen0, hCan0, hL0⟩
  clear hGen0 hCan0 hL0
  rcases Nat.lt_or_ge 0 n with hn0 | hn0
  · have hnz : ((n : Int) == 0) = false := by rw [beq_eq_false_iff_ne]; omega
    go_enter Yasv.func35, Yasv.ntmps35
    go_wp2
    go_loopg [5] len (fun g vk wx => ∃ (k j : Nat) (f : Nat → Nat), k ≤ len ∧ len - k ≤ g ∧ vk = .int .i64 (k : Nat) ∧ k = 2 * j ∧ Gen n (Plus G n A j) f ∧ Canon n f ∧ RowN wx lb n f ∧ Within (fun q => q = lb) w wx)
    case atStart => exact ⟨0, 0, f0, Nat.zero_le _, Nat.le_refl _, rfl, rfl, plus_zero H0.out.1, H0.out.2.1, H0.out.2.2, Within.refl _ _⟩
    case round =>
      obtain ⟨k, j, f, hk, hg, rfl, hkj, hGen, hCan, hL, hW⟩ := hrel
      by_cases hlt : k + 1 < len
      · exfalso; omega
      · have Bd : Aside (Gen n (Plus G n A (takes n len)) f ∧ Canon n f ∧ RowN wr lb n f ∧ Within (fun q => q = lb) w wr) := by
          refine ⟨?_, hCan, hL, hW⟩
          rw [show takes n len = j from by unfold takes; rw [if_pos hn0]; omega]
          exact hGen
        clear hGen hCan hL hW H0 hkj
        go_wp2
        go_end0
        exact ⟨rfl, f, Bd.out⟩
  · go_enter Yasv.func35, Yasv.ntmps35
    go_wp2
    refine bodyPost_ret (results_none rfl _ _ _) rfl ?_
    refine ⟨rfl, f0, ?_, H0.out.2.1, H0.out.2.2, Within.refl _ _⟩
    unfold takes
    rw [if_neg (by omega)]
    exact plus_zero H0.out.1

/-- QAH's merge, whatever the slice. -/
theorem merge_any (lb n len cap B0 b off : Nat) (ao : Option Addr) (A : Nat → Nat) (G : Nat → Nat → Prop) (f0 : Nat → Nat) (w : World) (hn : n ≤ 1048576) (hGl : ∀ a b, G a b → a < n ∧ b < n) (hl : len ≤ 1024) (hB0 : B0 ≤ w.heap.size) (hlb : B0 ≤ lb) (hO : Ops1 w B0 ao len b off A)
    (hGen0 : Gen n G f0) (hCan0 : Canon n f0) (hL0 : RowN w lb n f0) :
    Calls Yasv.prog 35 #[.slice (some ⟨lb, 0, none⟩) n n, .slice ao len cap] w fun e w' => e = .returned (.tuple #[]) ∧ ∃ f : Nat → Nat, Gen n (Plus G n A (takes n len)) f ∧ Canon n f ∧ RowN w' lb n f ∧ Within (fun q => q = lb) w w' := by
  obtain ⟨h1, h2⟩ := hO
  rcases h1 with h | ⟨rfl, hb⟩
  · exact merge_empty lb n len cap ao A G f0 w hn hGl h hGen0 hCan0 hL0
  · exact merge_core lb n len cap B0 b off A G f0 w hn hGl hl hB0 hb hlb h2 hGen0 hCan0 hL0

end Go.Proofs.Ymwhas
