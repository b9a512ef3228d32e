/-
  THE WALKS of QAH's build, merge and root, of Join.
-/
import Derived.Test.YmwhasUnion
import Derived.Test.YmwhasNew
import Derived.Test.YmwhasQafAux
import Derived.Test.YmwhasQahPlain
import Derived.Deep.RegionWith
namespace Go.Proofs.Ymwhas
open Go.RowKit
set_option linter.unusedVariables false

/-- A slice of bytes that lies below block B0 (or is empty): what is read of it. -/
def Ops1 (w : World) (B0 : Nat) (ao : Option Addr) (len b off : Nat) (A : Nat → Nat) : Prop :=
  (len ≤ 0 ∨ (ao = some ⟨b, off, none⟩ ∧ b < B0)) ∧ ∀ i, i < len → w.cell? ⟨b, off + i, none⟩ = some (.int .u8 (A i : Nat)) ∧ A i ≤ 255

theorem Ops1.below {w w' : World} {B0 : Nat} {ao : Option Addr} {len b off : Nat} {A : Nat → Nat} (h : Ops1 w B0 ao len b off A) (k : Below B0 w w') : Ops1 w' B0 ao len b off A := by
  refine ⟨h.1, fun i hi => ?_⟩
  rcases h.1 with h0 | ⟨_, hb⟩
  · omega
  · exact ⟨(k.cell (p := ⟨b, off + i, none⟩) hb).trans (h.2 i hi).1, (h.2 i hi).2⟩

/-- How many pairs of a script are taken. -/
def takes (n len : Nat) : Nat := if 0 < n then len / 2 else 0

def NoPair : Nat → Nat → Prop := fun _ _ => False

theorem noPair_lt (n : Nat) : ∀ a b, NoPair a b → a < n ∧ b < n := fun _ _ h => h.elim

theorem gen_fresh (n : Nat) : Gen n NoPair (fresh n).R := gen_none n

/-- What one Union of the script leaves. -/
theorem build_next {n k j av bv ps pb zb : Nat} {A : Nat → Nat} {t : St} {w wr w2 : World} (hn0 : 0 < n) (h : Inv n t ∧ Gen n (Plus NoPair n A j) t.R ∧ SetsAt wr ps pb zb n t ∧ Below w.heap.size w wr ∧ k = 2 * j) (ea : A k = av) (eb : A (k + 1) = bv)
    (hps : w.heap.size ≤ ps) (hpb : w.heap.size ≤ pb) (hzb : w.heap.size ≤ zb) (hT2 : SetsAt w2 ps pb zb n (t.union n ((av : Int) % (n : Int)) ((bv : Int) % (n : Int)))) (hW2 : Within (three ps pb zb) (wr.drewN 1) w2) :
    Inv n (t.union n ((av : Int) % (n : Int)) ((bv : Int) % (n : Int))) ∧ Gen n (Plus NoPair n A (j + 1)) (t.union n ((av : Int) % (n : Int)) ((bv : Int) % (n : Int))).R ∧ SetsAt w2 ps pb zb n (t.union n ((av : Int) % (n : Int)) ((bv : Int) % (n : Int))) ∧ Below w.heap.size w w2 := by
  obtain ⟨hI, hG, hT, hBl, hk⟩ := h
  refine ⟨inv_union hI _ _, ?_, hT2, (below_draws hBl 1).trans (hW2.below (by have := hBl.size; show w.heap.size ≤ wr.heap.size; omega) (by rintro q (e | e | e) <;> omega))⟩
  refine plus_step hn0 (noPair_lt n) hG ?_
  rw [← hk, ea, eb, ← Int.natCast_emod, ← Int.natCast_emod]
  exact joined_union (Nat.mod_lt _ hn0) (Nat.mod_lt _ hn0)

set_option maxRecDepth 100000 in
set_option maxHeartbeats 4000000 in
theorem build_core (n len cap B0 b off : Nat) (A : Nat → Nat) (w : World) (hn : n ≤ 1048576) (hl : len ≤ 1024) (hB0 : B0 ≤ w.heap.size) (hb : b < B0) (hO : ∀ i, i < len → w.cell? ⟨b, off + i, none⟩ = some (.int .u8 (A i : Nat)) ∧ A i ≤ 255) :
    Calls Yasv.prog 33 #[.int .i64 (n : Nat), .slice (some ⟨b, off, none⟩) len cap] w fun e w' => ∃ (ps pb zb : Nat) (t : St), e = .returned (.pointer (some ⟨ps, 0, none⟩)) ∧ w.heap.size ≤ ps ∧ w.heap.size ≤ pb ∧ w.heap.size ≤ zb ∧ Inv n t ∧ Gen n (Plus NoPair n A (takes n len)) t.R ∧ SetsAt w' ps pb zb n t ∧ Within (fun _ => False) w w' := by
  have HO : Aside (∀ i, i < len → w.cell? ⟨b, off + i, none⟩ = some (.int .u8 (A i : Nat)) ∧ A i ≤ 255) := hO
  clear hO
  go_enter Yasv.func33, Yasv.ntmps33
  go_wp2_with fail
  refine (new_any n _ hn).mono ?_
  rintro e w1 ⟨ps, pb, zb, rfl, hps, hpb, hzb, hS, hW⟩
  rcases Nat.lt_or_ge 0 n with hn0 | hn0
  · have H1 : Aside (SetsAt w1 ps pb zb n (fresh n) ∧ Below w.heap.size w w1) := ⟨hS, hW.below (Nat.le_refl _) (fun _ e => e.elim)⟩
    clear hS hW
    go_wp2
    go_loopg [7] len (fun g v wr => ∃ (k j : Nat) (t : St), k ≤ len ∧ len - k ≤ g ∧ v = .int .i64 (k : Nat) ∧ k = 2 * j ∧ Inv n t ∧ Gen n (Plus NoPair n A j) t.R ∧ SetsAt wr ps pb zb n t ∧ Below w.heap.size w wr)
    case atStart => exact ⟨0, 0, fresh n, Nat.zero_le _, Nat.le_refl _, rfl, rfl, inv_fresh n, plus_zero (gen_fresh n), H1.out⟩
    case round =>
      obtain ⟨k, j, t, hk, hg, rfl, hkj, hI, hG, hT, hBl⟩ := hrel
      have hsz := hBl.size
      have Bd : Aside (Inv n t ∧ Gen n (Plus NoPair n A j) t.R ∧ SetsAt wr ps pb zb n t ∧ Below w.heap.size w wr ∧ k = 2 * j) := ⟨hI, hG, hT, hBl, hkj⟩
      clear hI hG hT hkj
      by_cases hlt : k + 1 < len
      · have ca : wr.cell? ⟨b, off + k, none⟩ = some (.int .u8 (A k : Nat)) := (hBl.cell (p := ⟨b, off + k, none⟩) (by show b < w.heap.size; omega)).trans (HO.out k (by omega)).1
        have cb : wr.cell? ⟨b, off + (k + 1), none⟩ = some (.int .u8 (A (k + 1) : Nat)) := (hBl.cell (p := ⟨b, off + (k + 1), none⟩) (by show b < w.heap.size; omega)).trans (HO.out (k + 1) (by omega)).1
        have ba := (HO.out k (by omega)).2
        have bb := (HO.out (k + 1) (by omega)).2
        obtain ⟨av, EA⟩ : ∃ av, Aside (A k = av) := ⟨_, rfl⟩
        obtain ⟨bv, EB⟩ : ∃ bv, Aside (A (k + 1) = bv) := ⟨_, rfl⟩
        rw [EA.out] at ca ba
        rw [EB.out] at cb bb
        clear hBl H1
        have x0 : (0 : Int) ≤ (av : Int) % (n : Int) := Int.emod_nonneg _ (by omega)
        have x1 : (av : Int) % (n : Int) < (n : Int) := Int.emod_lt_of_pos _ (by omega)
        have y0 : (0 : Int) ≤ (bv : Int) % (n : Int) := Int.emod_nonneg _ (by omega)
        have y1 : (bv : Int) % (n : Int) < (n : Int) := Int.emod_lt_of_pos _ (by omega)
        have wa : IntKind.i64.wrap (av : Int) = (av : Int) := by rw [IntKind.wrap_i64]; omega
        have wb : IntKind.i64.wrap (bv : Int) = (bv : Int) := by rw [IntKind.wrap_i64]; omega
        have wk : IntKind.i64.wrap ((k : Int) + 1) = (k : Int) + 1 := by rw [IntKind.wrap_i64]; omega
        have hk1 : (k : Int) + 1 < (len : Int) := by omega
        have hk2 : (0 : Int) ≤ (k : Int) + 1 := by omega
        have ta : (av : Int).tmod (n : Int) = (av : Int) % (n : Int) := Int.tmod_eq_emod_of_nonneg (by omega)
        have tb : (bv : Int).tmod (n : Int) = (bv : Int) % (n : Int) := Int.tmod_eq_emod_of_nonneg (by omega)
        go_wp2_with fail
        go_region_with (go_at_call 12; refine (union_any ps pb zb n t _ _ _ Bd.out.1 (by omega) (Bd.out.2.2.1.drewN 1)).mono ?_; rintro e w2 ⟨rfl, hT2, hW2⟩)
        all_goals
          have Bd2 : Aside (Inv n (t.union n ((av : Int) % (n : Int)) ((bv : Int) % (n : Int))) ∧ Gen n (Plus NoPair n A (j + 1)) (t.union n ((av : Int) % (n : Int)) ((bv : Int) % (n : Int))).R ∧ SetsAt w2 ps pb zb n (t.union n ((av : Int) % (n : Int)) ((bv : Int) % (n : Int))) ∧ Below w.heap.size w w2) := build_next hn0 Bd.out EA.out EB.out hps hpb hzb hT2 hW2
          have E5 : Aside (k + 2 = 2 * (j + 1)) := by show k + 2 = 2 * (j + 1); have := Bd.out.2.2.2.2; omega
          clear hT2 hW2 Bd ca cb wa wb wk ta tb x0 x1 y0 y1
          go_wp2
          go_roundg (len - (k + 2))
          case measure => omega
          case rel => exact ⟨k + 2, j + 1, _, by omega, by omega, by go_num, E5.out, Bd2.out⟩
      · have E5 : Aside (j = takes n len) := by show j = takes n len; unfold takes; rw [if_pos hn0]; have := Bd.out.2.2.2.2; omega
        clear hBl H1
        go_wp2
        go_ret
        rw [← E5.out]
        exact ⟨ps, pb, zb, t, rfl, hps, hpb, hzb, Bd.out.1, Bd.out.2.1, Bd.out.2.2.1, within_of_below' Bd.out.2.2.2.1⟩
  · have H1 : Aside (SetsAt w1 ps pb zb n (fresh n) ∧ Within (fun _ => False) w w1) := ⟨hS, hW⟩
    clear hS hW
    go_wp2
    go_ret
    refine ⟨ps, pb, zb, fresh n, rfl, hps, hpb, hzb, inv_fresh n, ?_, H1.out⟩
    unfold takes
    rw [if_neg (by omega)]
    exact plus_zero (gen_fresh n)

set_option maxRecDepth 100000 in
set_option maxHeartbeats 4000000 in
theorem build_empty (n len cap : Nat) (ao : Option Addr) (A : Nat → Nat) (w : World) (hn : n ≤ 1048576) (hl0 : len ≤ 0) :
    Calls Yasv.prog 33 #[.int .i64 (n : Nat), .slice ao len cap] w fun e w' => ∃ (ps pb zb : Nat) (t : St), e = .returned (.pointer (some ⟨ps, 0, none⟩)) ∧ w.heap.size ≤ ps ∧ w.heap.size ≤ pb ∧ w.heap.size ≤ zb ∧ Inv n t ∧ Gen n (Plus NoPair n A (takes n len)) t.R ∧ SetsAt w' ps pb zb n t ∧ Within (fun _ => False) w w' := by
  go_enter Yasv.func33, Yasv.ntmps33
  go_wp2_with fail
  refine (new_any n _ hn).mono ?_
  rintro e w1 ⟨ps, pb, zb, rfl, hps, hpb, hzb, hS, hW⟩
  rcases Nat.lt_or_ge 0 n with hn0 | hn0
  · have H1 : Aside (SetsAt w1 ps pb zb n (fresh n) ∧ Below w.heap.size w w1) := ⟨hS, hW.below (Nat.le_refl _) (fun _ e => e.elim)⟩
    clear hS hW
    go_wp2
    go_loopg [7] len (fun g v wr => ∃ (k j : Nat) (t : St), k ≤ len ∧ len - k ≤ g ∧ v = .int .i64 (k : Nat) ∧ k = 2 * j ∧ Inv n t ∧ Gen n (Plus NoPair n A j) t.R ∧ SetsAt wr ps pb zb n t ∧ Below w.heap.size w wr)
    case atStart => exact ⟨0, 0, fresh n, Nat.zero_le _, Nat.le_refl _, rfl, rfl, inv_fresh n, plus_zero (gen_fresh n), H1.out⟩
    case round =>
      obtain ⟨k, j, t, hk, hg, rfl, hkj, hI, hG, hT, hBl⟩ := hrel
      have hsz := hBl.size
      have Bd : Aside (Inv n t ∧ Gen n (Plus NoPair n A j) t.R ∧ SetsAt wr ps pb zb n t ∧ Below w.heap.size w wr ∧ k = 2 * j) := ⟨hI, hG, hT, hBl, hkj⟩
      clear hI hG hT hkj
      by_cases hlt : k + 1 < len
      · exfalso; omega
      · have E5 : Aside (j = takes n len) := by show j = takes n len; unfold takes; rw [if_pos hn0]; have := Bd.out.2.2.2.2; omega
        clear hBl H1
        go_wp2
        go_ret
        rw [← E5.out]
        exact ⟨ps, pb, zb, t, rfl, hps, hpb, hzb, Bd.out.1, Bd.out.2.1, Bd.out.2.2.1, within_of_below' Bd.out.2.2.2.1⟩
  · have H1 : Aside (SetsAt w1 ps pb zb n (fresh n) ∧ Within (fun _ => False) w w1) := ⟨hS, hW⟩
    clear hS hW
    go_wp2
    go_ret
    refine ⟨ps, pb, zb, fresh n, rfl, hps, hpb, hzb, inv_fresh n, ?_, H1.out⟩
    unfold takes
    rw [if_neg (by omega)]
    exact plus_zero (gen_fresh n)

/-- QAH's build, whatever the slice. -/
theorem build_any (n len cap B0 b off : Nat) (ao : Option Addr) (A : Nat → Nat) (w : World) (hn : n ≤ 1048576) (hl : len ≤ 1024) (hB0 : B0 ≤ w.heap.size) (hO : Ops1 w B0 ao len b off A) :
    Calls Yasv.prog 33 #[.int .i64 (n : Nat), .slice ao len cap] w fun e w' => ∃ (ps pb zb : Nat) (t : St), e = .returned (.pointer (some ⟨ps, 0, none⟩)) ∧ w.heap.size ≤ ps ∧ w.heap.size ≤ pb ∧ w.heap.size ≤ zb ∧ Inv n t ∧ Gen n (Plus NoPair n A (takes n len)) t.R ∧ SetsAt w' ps pb zb n t ∧ Within (fun _ => False) w w' := by
  obtain ⟨h1, h2⟩ := hO
  rcases h1 with h | ⟨rfl, hb⟩
  · exact build_empty n len cap ao A w hn h
  · exact build_core n len cap B0 b off A w hn hl hB0 hb h2

end Go.Proofs.Ymwhas
