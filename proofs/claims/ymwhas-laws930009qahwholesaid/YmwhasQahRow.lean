/-
  THE STATEMENT Rows.LawS930009QAHWholeSaid, out of the walk.
-/
import Derived.Test.YmwhasQahA
import Derived.Test.YmwhasQahB
import Derived.Test.YmwhasQahC
import Derived.Test.YmwhasArgs
import Derived.ChangeOld
namespace Go.Proofs.Ymwhas.Qah
open Go.ChangeShapes Go.WideShapes Go.ChangeAt Go.RowKit
set_option linter.unusedVariables false

theorem own : ownKnob Yasv.prog.godebug = none := by kernel_rfl
theorem laidOut : laidOutB Yasv.prog = true := by kernel_rfl

/-- A slice of integers. -/
theorem open_ops1 {H : Type} {enc : TypeId × Value → H} {P : Program} {w : World} {t e : TypeId} {k : IntKind} {ao : Option Addr} {len cap : Nat} {d : DataW H} {p : List MemPlace} (ht : P.underlying t = some (.slice e)) (ce : P.cellsOf e = 1) (he : P.underlying e = some (.int k))
    (h : DataW.Trod enc P w 0 (fun _ => true) true t (.slice ao len cap) d p) :
    len ≤ maxLen ∧ ∃ (b off : Nat) (A : Nat → Int), (len ≤ 0 ∨ (ao = some ⟨b, off, none⟩ ∧ b < w.heap.size)) ∧ ∀ i, i < len → w.cell? ⟨b, off + i, none⟩ = some (.int k (A i)) ∧ (Lit.int k (A i)).wf = true := by
  obtain ⟨fuel, hf⟩ := h
  rcases open_ints ht he ce hf with ⟨hcs, _⟩ | ⟨a, len', cap', zs, hcs, _, hl, hm, hz, _, hcell, hwz⟩
  · simp [Value.cells] at hcs
    obtain ⟨rfl, rfl, rfl⟩ := hcs
    exact ⟨Nat.zero_le _, 0, 0, fun _ => 0, .inl (Nat.le_refl _), fun i hi => absurd hi (Nat.not_lt_zero _)⟩
  simp [Value.cells] at hcs
  obtain ⟨rfl, rfl, rfl⟩ := hcs
  have hz' : zs.length = cap := by simpa using hz
  refine ⟨Nat.le_trans hl hm, ?_⟩
  by_cases h0 : len ≤ 0
  · exact ⟨0, 0, fun _ => 0, .inl h0, fun i hi => by omega⟩
  · obtain ⟨b, off, spot⟩ := a
    have hspot : spot = none := by simpa [Addr.add] using World.cell?_spot (hcell 0 (by omega))
    subst hspot
    have hlt : b < w.heap.size := by
      have := hcell 0 (by omega)
      rw [add_plain] at this
      exact Classical.byContradiction (fun hn => by
        have hnone : w.heap[b]? = none := by simp; omega
        simp [World.cell?, hnone] at this)
    refine ⟨b, off, fun i => zs.getD i 0, .inr ⟨rfl, hlt⟩, fun i hi => ?_⟩
    have hc := hcell i (by omega)
    rw [add_plain] at hc
    refine ⟨hc, hwz _ ?_⟩
    show zs.getD i 0 ∈ zs
    rw [List.getD_eq_getElem?_getD, List.getElem?_eq_getElem (by omega)]
    exact List.getElem_mem _

theorem ops_of {w : World} {ao : Option Addr} {len b off : Nat} {A : Nat → Int} (hao : len ≤ 0 ∨ (ao = some ⟨b, off, none⟩ ∧ b < w.heap.size))
    (hc : ∀ i, i < len → w.cell? ⟨b, off + i, none⟩ = some (.int .u8 (A i)) ∧ (Lit.int .u8 (A i)).wf = true) : Ops1 w w.heap.size ao len b off (fun i => (A i).toNat) := by
  refine ⟨hao, fun i hi => ?_⟩
  obtain ⟨q0, u0⟩ := hc i hi
  have v0 := wf_u8 u0
  refine ⟨?_, by show (A i).toNat ≤ 255; omega⟩
  rw [q0, Int.toNat_of_nonneg v0.1]

theorem walk (a0 : Int) (w0 : (Lit.int .u8 a0).wf = true) (a1 : Int) (w1 : (Lit.int .u8 a1).wf = true) (sameU : Bool) (ao : Option Addr) (len cap : Nat) (hlen : len ≤ maxLen) (b off : Nat) (A : Nat → Int) (w : World) (hao : len ≤ 0 ∨ (ao = some ⟨b, off, none⟩ ∧ b < w.heap.size))
    (hc : ∀ i, i < len → w.cell? ⟨b, off + i, none⟩ = some (.int .u8 (A i)) ∧ (Lit.int .u8 (A i)).wf = true)
    (ao2 : Option Addr) (len2 cap2 : Nat) (hlen2 : len2 ≤ maxLen) (b2 off2 : Nat) (A2 : Nat → Int) (w' : World) (hao2 : len2 ≤ 0 ∨ (ao2 = some ⟨b2, off2, none⟩ ∧ b2 < w'.heap.size))
    (hc2 : ∀ i, i < len2 → w'.cell? ⟨b2, off2 + i, none⟩ = some (.int .u8 (A2 i)) ∧ (Lit.int .u8 (A2 i)).wf = true) (hww : w = w') :
    Calls Yasv.prog 10 #[.int .u8 a0, .int .u8 a1, .bool sameU, .slice ao len cap, .slice ao2 len2 cap2] w fun e w' => e = .returned (.bool true) ∧ Below w.heap.size w w' := by
  subst hww
  unfold maxLen at hlen hlen2
  have h0 := wf_u8 w0
  have h1 := wf_u8 w1
  obtain ⟨N, rfl⟩ := Int.eq_ofNat_of_zero_le h0.1
  obtain ⟨M, rfl⟩ := Int.eq_ofNat_of_zero_le h1.1
  by_cases hbig : 1024 < len ∨ 1024 < len2
  · exact walk_long N M sameU ao ao2 len cap len2 cap2 w hbig hlen hlen2
  · have o1 := ops_of hao hc
    have o2 := ops_of hao2 hc2
    cases sameU with
    | true => exact walkA N M ao ao2 len cap len2 cap2 b off b2 off2 _ _ w (by omega) (by omega) (by omega) (by omega) o1 o2
    | false =>
      by_cases hNM : N = M
      · subst hNM
        exact walkB N ao ao2 len cap len2 cap2 b off b2 off2 _ _ w (by omega) (by omega) (by omega) o1 o2
      · exact walkC N M ao ao2 len cap len2 cap2 b off b2 off2 _ _ w (by omega) (by omega) hNM (by omega) (by omega) o1 o2

set_option maxRecDepth 100000 in
theorem lifted (os : Os) (started : os.Started) (H : Type) (enc : TypeId × Value → H) :
    ReturnsInHanded {} Yasv.checked os 10 .any (Rows.lawS930009QAHWholeSpec.pre6 enc Yasv.prog Yasv.f10 Rows.lawS930009QAHWholeRow.domain false) (Rows.lawS930009QAHWholeSpec.post enc Yasv.prog Yasv.f10 false true false false) := by
  refine returnsInHanded_of_change (C := Yasv.checked) own started (by kernel_rfl) Yasv.func10
    (ChangeSpec.witness6 (enc := enc) (C := Yasv.checked) false ⟨#[], #[.int .u8 0, .int .u8 0, .bool false, .slice none 0 0, .slice none 0 0], []⟩ 8 (by kernel_rfl) (by kernel_rfl) (by kernel_rfl) (by kernel_rfl)) ?_
  intro W base args ds gs before hval0 hW hcnd _
  have hval : ∀ (j : Nat) t v, Yasv.f10.params[j]? = some t → args[j]? = some v → Value.okWide Yasv.prog W .any base t v := hval0
  have hW' := hW
  obtain ⟨p, q, hA0, hV, rfl, hfz, hnd⟩ := hW
  have hA : DataW.TrodAll enc Yasv.prog W 0 (fun _ => true) true Yasv.f10.params.toList args.toList ds p := hA0
  rw [Yasv.params10] at hA hval
  obtain ⟨v0, vs0, d0, ds0, p0, q0, hargs, rfl, rfl, h0, r0⟩ := trodAll_cons hA
  obtain ⟨v1, vs1, d1, ds1, p1, q1, rfl, rfl, rfl, h1, r1⟩ := trodAll_cons r0
  obtain ⟨v2, vs2, d2, ds2, p2, q2, rfl, rfl, rfl, h2, r2⟩ := trodAll_cons r1
  obtain ⟨v3, vs3, d3, ds3, p3, q3, rfl, rfl, rfl, h3, r3⟩ := trodAll_cons r2
  obtain ⟨v4, vs4, d4, ds4, p4, q4, rfl, rfl, rfl, h4, r4⟩ := trodAll_cons r3
  obtain ⟨rfl, rfl, rfl⟩ := trodAll_nil r4
  obtain rfl : args = #[v0, v1, v2, v3, v4] := by cases args; simp_all
  obtain ⟨rfl, rfl⟩ := trodVars_none hV
  obtain ⟨a0, rfl, rfl, rfl, w0⟩ := open_int Yasv.underlying5 (hval 0 5 v0 rfl rfl) h0
  obtain ⟨a1, rfl, rfl, rfl, w1⟩ := open_int Yasv.underlying5 (hval 1 5 v1 rfl rfl) h1
  obtain ⟨a2, rfl, rfl, rfl⟩ := open_bool Yasv.underlying4 (hval 2 4 v2 rfl rfl) h2
  obtain ⟨ao3, len3, cap3, rfl⟩ := okWide_slice Yasv.underlying72 (hval 3 72 v3 rfl rfl)
  have k3 := h3
  have lt3 : ∀ x ∈ p3, x.block < W.heap.size := by obtain ⟨m, hm⟩ := k3; exact DataW.trod_lt m _ _ _ hm
  obtain ⟨hlen3, b3, off3, A3, hao3, hc3⟩ := open_ops1 Yasv.underlying72 (by kernel_rfl) Yasv.underlying5 h3
  obtain ⟨ao4, len4, cap4, rfl⟩ := okWide_slice Yasv.underlying72 (hval 4 72 v4 rfl rfl)
  have k4 := h4
  have lt4 : ∀ x ∈ p4, x.block < W.heap.size := by obtain ⟨m, hm⟩ := k4; exact DataW.trod_lt m _ _ _ hm
  obtain ⟨hlen4, b4, off4, A4, hao4, hc4⟩ := open_ops1 Yasv.underlying72 (by kernel_rfl) Yasv.underlying5 h4
  clear hA0 hval0
  refine (walk a0 w0 a1 w1 a2 ao3 len3 cap3 hlen3 b3 off3 A3 W hao3 hc3 ao4 len4 cap4 hlen4 b4 off4 A4 W hao4 hc4 rfl).mono fun e W' ⟨he, bel⟩ => ?_
  subst he
  exact ⟨_, rfl, _, _, _, [], _, [], hW', trodAll_mk1 (shut_bool Yasv.underlying4 _), (args_cons (shut_int Yasv.underlying5 w0) (args_cons (shut_int Yasv.underlying5 w1) (args_cons (shut_bool Yasv.underlying4 _) (args_cons (Below.trod laidOut (by kernel_rfl) (of_decide_eq_true (by kernel_rfl)) k3 bel lt3) (args_cons (Below.trod laidOut (by kernel_rfl) (of_decide_eq_true (by kernel_rfl)) k4 bel lt4) trodAll_mk0))))), rfl, bel.frame _, fun h => by cases h⟩

theorem over : Rows.lawS930009QAHWholeRow.holds Yasv.pinned (OpenSpec.ofChange Rows.lawS930009QAHWholeSpec) :=
  OpenClaim.holds_of_wide 10 Yasv.f10 rfl rfl rfl rfl rfl rfl rfl ⟨rfl, rfl, rfl, rfl, rfl⟩ rfl rfl rfl rfl rfl (by kernel_rfl) Yasv.func10 (by kernel_rfl)
    (of_decide_eq_true (by kernel_rfl)) (by unfold Func.isWrapper; first | (rw [if_pos (by decide +kernel)]; kernel_rfl) | (rw [if_neg (by decide +kernel)]; exact ⟨rfl, rfl⟩))
    (fun os started H enc _ => lifted os started H enc)

end Go.Proofs.Ymwhas.Qah

namespace Go.Proofs.Ymwhas

/-- THE STATEMENT. -/
theorem qah_holds : Rows.LawS930009QAHWholeSaid := Qah.over

end Go.Proofs.Ymwhas
