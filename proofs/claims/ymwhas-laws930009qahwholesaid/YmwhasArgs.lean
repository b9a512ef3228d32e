/-
  OPENING AN ARGUMENT that is a slice of structs of integers (two fields; three).
-/
import Derived.Test.YmwhasRows
import Derived.WalkKit
import Derived.ProofKit
import Derived.Deep.Slices
namespace Go.Proofs.Ymwhas
open Go.ChangeShapes Go.WideShapes Go.ChangeAt Go.RowKit Go.Deep
set_option linter.unusedVariables false

section
variable {H : Type} {enc : TypeId × Value → H} {P : Program} {w : World} {base : Nat} {spare : Nat → Bool} {held : Bool}

/-- Two fields. -/
theorem open_ops2 {t e : TypeId} {f0 f1 : Field} {k0 k1 : IntKind} {ao : Option Addr} {len cap : Nat} {d : DataW H} {p : List MemPlace} (ht : P.underlying t = some (.slice e)) (he : P.underlying e = some (.struct #[f0, f1]))
    (ce : P.cellsOf e = 2) (o0 : f0.offset = 0) (o1 : f1.offset = 1) (c0 : P.cellsOf f0.type = 1) (c1 : P.cellsOf f1.type = 1) (u0 : P.underlying f0.type = some (.int k0)) (u1 : P.underlying f1.type = some (.int k1))
    (h : DataW.Trod enc P w base spare held t (.slice ao len cap) d p) :
    len ≤ maxLen ∧ ∃ (b off : Nat) (A B : Nat → Int), (len ≤ 0 ∨ (ao = some ⟨b, off, none⟩ ∧ b < w.heap.size)) ∧ ∀ i, i < len → w.cell? ⟨b, off + i * 2, none⟩ = some (.int k0 (A i)) ∧ w.cell? ⟨b, off + i * 2 + 1, none⟩ = some (.int k1 (B i)) ∧ (Lit.int k0 (A i)).wf = true ∧ (Lit.int k1 (B i)).wf = true := by
  obtain ⟨fuel, hf⟩ := h
  rcases open_slice ht hf with ⟨hcs, _⟩ | ⟨a, len', cap', m, n, D, Pl, hcs, hb, hl, hm, hmm, _, hx⟩
  · simp [Value.cells] at hcs
    obtain ⟨rfl, rfl, rfl⟩ := hcs
    exact ⟨Nat.zero_le _, 0, 0, fun _ => 0, fun _ => 0, .inl (Nat.le_refl _), fun i hi => absurd hi (Nat.not_lt_zero _)⟩
  simp [Value.cells] at hcs
  obtain ⟨rfl, rfl, rfl⟩ := hcs
  have hlm : len ≤ m := by rw [hmm]; split <;> omega
  refine ⟨Nat.le_trans hl hm, ?_⟩
  have each : ∀ i, i < len → ∃ q : Int × Int, w.cell? (a.add (i * 2)) = some (.int k0 q.1) ∧ w.cell? (a.add (i * 2 + 1)) = some (.int k1 q.2) ∧ (Lit.int k0 q.1).wf = true ∧ (Lit.int k1 q.2).wf = true := by
    intro i hi
    obtain ⟨cs', h1, h2⟩ := hx i (by omega)
    rw [ce] at h1
    obtain ⟨_, hlen, hcell⟩ := World.cells?_some h1
    obtain ⟨xs, k, hk, hxy, _, hxl, hf⟩ := DataW.trod_struct he h2
    match xs, hxl, cs', hlen with
    | [y0, y1], _, [v0, v1], _ =>
      have g0 := hf 0 f0 rfl
      have g1 := hf 1 f1 rfl
      simp [o0, o1, c0, c1] at g0 g1
      have e0 := hcell 0 (by omega)
      have e1 := hcell 1 (by omega)
      rw [add_add] at e0 e1
      obtain ⟨n0, r0, _, w0⟩ := DataW.trod_int u0 g0
      obtain ⟨n1, r1, _, w1⟩ := DataW.trod_int u1 g1
      simp at r0 r1
      subst r0 r1
      exact ⟨(n0, n1), by simpa using e0, by simpa using e1, w0, w1⟩
  obtain ⟨q, hq⟩ := choose_lt each
  by_cases h0 : len ≤ 0
  · exact ⟨0, 0, fun _ => 0, fun _ => 0, .inl h0, fun i hi => by omega⟩
  · obtain ⟨b, off, spot⟩ := a
    have hspot : spot = none := by simpa [Addr.add] using World.cell?_spot (hq 0 (by omega)).1
    subst hspot
    have hlt : b < w.heap.size := by
      have := (hq 0 (by omega)).1
      rw [add_plain] at this
      exact Classical.byContradiction (fun hn => by
        have hnone : w.heap[b]? = none := by simp; omega
        simp [World.cell?, hnone] at this)
    refine ⟨b, off, fun i => (q i).1, fun i => (q i).2, .inr ⟨rfl, hlt⟩, fun i hi => ?_⟩
    have := hq i hi
    rw [add_plain, add_plain, ← Nat.add_assoc] at this
    exact this

/-- Three fields. -/
theorem open_ops3 {t e : TypeId} {f0 f1 f2 : Field} {k0 k1 k2 : IntKind} {ao : Option Addr} {len cap : Nat} {d : DataW H} {p : List MemPlace} (ht : P.underlying t = some (.slice e)) (he : P.underlying e = some (.struct #[f0, f1, f2]))
    (ce : P.cellsOf e = 3) (o0 : f0.offset = 0) (o1 : f1.offset = 1) (o2 : f2.offset = 2) (c0 : P.cellsOf f0.type = 1) (c1 : P.cellsOf f1.type = 1) (c2 : P.cellsOf f2.type = 1)
    (u0 : P.underlying f0.type = some (.int k0)) (u1 : P.underlying f1.type = some (.int k1)) (u2 : P.underlying f2.type = some (.int k2))
    (h : DataW.Trod enc P w base spare held t (.slice ao len cap) d p) :
    len ≤ maxLen ∧ ∃ (b off : Nat) (O A B : Nat → Int), (len ≤ 0 ∨ (ao = some ⟨b, off, none⟩ ∧ b < w.heap.size)) ∧ ∀ i, i < len → w.cell? ⟨b, off + i * 3, none⟩ = some (.int k0 (O i)) ∧ w.cell? ⟨b, off + i * 3 + 1, none⟩ = some (.int k1 (A i)) ∧ w.cell? ⟨b, off + i * 3 + 2, none⟩ = some (.int k2 (B i)) ∧
      (Lit.int k0 (O i)).wf = true ∧ (Lit.int k1 (A i)).wf = true ∧ (Lit.int k2 (B i)).wf = true := by
  obtain ⟨fuel, hf⟩ := h
  rcases open_slice ht hf with ⟨hcs, _⟩ | ⟨a, len', cap', m, n, D, Pl, hcs, hb, hl, hm, hmm, _, hx⟩
  · simp [Value.cells] at hcs
    obtain ⟨rfl, rfl, rfl⟩ := hcs
    exact ⟨Nat.zero_le _, 0, 0, fun _ => 0, fun _ => 0, fun _ => 0, .inl (Nat.le_refl _), fun i hi => absurd hi (Nat.not_lt_zero _)⟩
  simp [Value.cells] at hcs
  obtain ⟨rfl, rfl, rfl⟩ := hcs
  have hlm : len ≤ m := by rw [hmm]; split <;> omega
  refine ⟨Nat.le_trans hl hm, ?_⟩
  have each : ∀ i, i < len → ∃ q : Int × Int × Int, w.cell? (a.add (i * 3)) = some (.int k0 q.1) ∧ w.cell? (a.add (i * 3 + 1)) = some (.int k1 q.2.1) ∧ w.cell? (a.add (i * 3 + 2)) = some (.int k2 q.2.2) ∧
      (Lit.int k0 q.1).wf = true ∧ (Lit.int k1 q.2.1).wf = true ∧ (Lit.int k2 q.2.2).wf = true := by
    intro i hi
    obtain ⟨cs', h1, h2⟩ := hx i (by omega)
    rw [ce] at h1
    obtain ⟨_, hlen, hcell⟩ := World.cells?_some h1
    obtain ⟨xs, k, hk, hxy, _, hxl, hf⟩ := DataW.trod_struct he h2
    match xs, hxl, cs', hlen with
    | [y0, y1, y2], _, [v0, v1, v2], _ =>
      have g0 := hf 0 f0 rfl
      have g1 := hf 1 f1 rfl
      have g2 := hf 2 f2 rfl
      simp [o0, o1, o2, c0, c1, c2] at g0 g1 g2
      have e0 := hcell 0 (by omega)
      have e1 := hcell 1 (by omega)
      have e2 := hcell 2 (by omega)
      rw [add_add] at e0 e1 e2
      obtain ⟨n0, r0, _, w0⟩ := DataW.trod_int u0 g0
      obtain ⟨n1, r1, _, w1⟩ := DataW.trod_int u1 g1
      obtain ⟨n2, r2, _, w2⟩ := DataW.trod_int u2 g2
      simp at r0 r1 r2
      subst r0 r1 r2
      exact ⟨(n0, n1, n2), by simpa using e0, by simpa using e1, by simpa using e2, w0, w1, w2⟩
  obtain ⟨q, hq⟩ := choose_lt each
  by_cases h0 : len ≤ 0
  · exact ⟨0, 0, fun _ => 0, fun _ => 0, fun _ => 0, .inl h0, fun i hi => by omega⟩
  · obtain ⟨b, off, spot⟩ := a
    have hspot : spot = none := by simpa [Addr.add] using World.cell?_spot (hq 0 (by omega)).1
    subst hspot
    have hlt : b < w.heap.size := by
      have := (hq 0 (by omega)).1
      rw [add_plain] at this
      exact Classical.byContradiction (fun hn => by
        have hnone : w.heap[b]? = none := by simp; omega
        simp [World.cell?, hnone] at this)
    refine ⟨b, off, fun i => (q i).1, fun i => (q i).2.1, fun i => (q i).2.2, .inr ⟨rfl, hlt⟩, fun i hi => ?_⟩
    have := hq i hi
    rw [add_plain, add_plain, add_plain, ← Nat.add_assoc, ← Nat.add_assoc] at this
    exact this

/-- One argument more. -/
theorem args_cons {t : TypeId} {ts : List TypeId} {v : Value} {vs : List Value} {d : DataW H} {ds : List (DataW H)} {p q : List MemPlace}
    (h : DataW.Trod enc P w base spare held t v d p) (hs : DataW.TrodAll enc P w base spare held ts vs ds q) : DataW.TrodAll enc P w base spare held (t :: ts) (v :: vs) (d :: ds) (p ++ q) := ⟨p, q, h, hs, rfl⟩

end

theorem wf_u8 {n : Int} (h : (Lit.int .u8 n).wf = true) : 0 ≤ n ∧ n ≤ 255 := by
  simp [Lit.wf, IntKind.min, IntKind.max, IntKind.signed, IntKind.bits] at h
  omega
theorem wf_u16 {n : Int} (h : (Lit.int .u16 n).wf = true) : 0 ≤ n ∧ n ≤ 65535 := by
  simp [Lit.wf, IntKind.min, IntKind.max, IntKind.signed, IntKind.bits] at h
  omega
theorem wf_u32 {n : Int} (h : (Lit.int .u32 n).wf = true) : 0 ≤ n ∧ n ≤ 4294967295 := by
  simp [Lit.wf, IntKind.min, IntKind.max, IntKind.signed, IntKind.bits] at h
  omega
theorem wf_u64 {n : Int} (h : (Lit.int .u64 n).wf = true) : 0 ≤ n ∧ n ≤ 18446744073709551615 := by
  simp [Lit.wf, IntKind.min, IntKind.max, IntKind.signed, IntKind.bits] at h
  omega
theorem wf_i64 {n : Int} (h : (Lit.int .i64 n).wf = true) : -9223372036854775808 ≤ n ∧ n ≤ 9223372036854775807 := by
  simp [Lit.wf, IntKind.min, IntKind.max, IntKind.signed, IntKind.bits] at h
  omega

end Go.Proofs.Ymwhas
