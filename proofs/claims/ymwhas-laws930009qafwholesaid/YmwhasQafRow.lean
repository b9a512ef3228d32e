/-
  THE STATEMENT Rows.LawS930009QAFWholeSaid, out of the walk.
-/
import Derived.Test.YmwhasQaf
import Derived.Test.YmwhasArgs
import Derived.ChangeOld
namespace Go.Proofs.Ymwhas.Qaf
open Go.ChangeShapes Go.WideShapes Go.ChangeAt Go.RowKit
set_option linter.unusedVariables false

theorem own : ownKnob Yasv.prog.godebug = none := by kernel_rfl
theorem laidOut : laidOutB Yasv.prog = true := by kernel_rfl

theorem walk (a0 : Int) (w0 : (Lit.int .u16 a0).wf = true) (ao : Option Addr) (len cap : Nat) (hlen : len ≤ maxLen) (b off : Nat) (O A B : Nat → Int) (w : World) (hao : len ≤ 0 ∨ (ao = some ⟨b, off, none⟩ ∧ b < w.heap.size))
    (hc : ∀ i, i < len → w.cell? ⟨b, off + i * 3, none⟩ = some (.int .u8 (O i)) ∧ w.cell? ⟨b, off + i * 3 + 1, none⟩ = some (.int .i64 (A i)) ∧ w.cell? ⟨b, off + i * 3 + 2, none⟩ = some (.int .i64 (B i)) ∧ (Lit.int .u8 (O i)).wf = true ∧ (Lit.int .i64 (A i)).wf = true ∧ (Lit.int .i64 (B i)).wf = true) :
    Calls Yasv.prog 8 #[.int .u16 a0, .slice ao len cap] w fun e w' => e = .returned (.bool true) ∧ Below w.heap.size w w' := by
  unfold maxLen at hlen
  have h0 := wf_u16 w0
  obtain ⟨N, rfl⟩ := Int.eq_ofNat_of_zero_le h0.1
  by_cases hbig : 1024 < len
  · exact walk_long N ao len cap w hbig hlen
  · rcases hao with h | ⟨rfl, hb⟩
    · exact walk_empty N ao len cap w (by omega) h
    · refine walk_core N b off len cap (fun i => (O i).toNat) A B w (by omega) (by omega) hb (fun i hi => ?_)
      obtain ⟨q0, q1, q2, u0, u1, u2⟩ := hc i hi
      have v0 := wf_u8 u0
      refine ⟨?_, q1, q2, by omega⟩
      rw [q0, Int.toNat_of_nonneg v0.1]

set_option maxRecDepth 100000 in
theorem lifted (os : Os) (started : os.Started) (H : Type) (enc : TypeId × Value → H) :
    ReturnsInHanded {} Yasv.checked os 8 .any (Rows.lawS930009QAFWholeSpec.pre6 enc Yasv.prog Yasv.f8 Rows.lawS930009QAFWholeRow.domain false) (Rows.lawS930009QAFWholeSpec.post enc Yasv.prog Yasv.f8 false true false false) := by
  refine returnsInHanded_of_change (C := Yasv.checked) own started (by kernel_rfl) Yasv.func8
    (ChangeSpec.witness6 (enc := enc) (C := Yasv.checked) false ⟨#[], #[.int .u16 0, .slice none 0 0], []⟩ 8 (by kernel_rfl) (by kernel_rfl) (by kernel_rfl) (by kernel_rfl)) ?_
  intro W base args ds gs before hval0 hW hcnd _
  have hval : ∀ (j : Nat) t v, Yasv.f8.params[j]? = some t → args[j]? = some v → Value.okWide Yasv.prog W .any base t v := hval0
  have hW' := hW
  obtain ⟨p, q, hA0, hV, rfl, hfz, hnd⟩ := hW
  have hA : DataW.TrodAll enc Yasv.prog W 0 (fun _ => true) true Yasv.f8.params.toList args.toList ds p := hA0
  rw [Yasv.params8] at hA hval
  obtain ⟨v0, vs0, d0, ds0, p0, q0, hargs, rfl, rfl, h0, r0⟩ := trodAll_cons hA
  obtain ⟨v1, vs1, d1, ds1, p1, q1, rfl, rfl, rfl, h1, r1⟩ := trodAll_cons r0
  obtain ⟨rfl, rfl, rfl⟩ := trodAll_nil r1
  obtain rfl : args = #[v0, v1] := by cases args; simp_all
  obtain ⟨rfl, rfl⟩ := trodVars_none hV
  obtain ⟨a0, rfl, rfl, rfl, w0⟩ := open_int Yasv.underlying45 (hval 0 45 v0 rfl rfl) h0
  obtain ⟨ao1, len1, cap1, rfl⟩ := okWide_slice Yasv.underlying63 (hval 1 63 v1 rfl rfl)
  have k1 := h1
  have lt1 : ∀ x ∈ p1, x.block < W.heap.size := by obtain ⟨m, hm⟩ := k1; exact DataW.trod_lt m _ _ _ hm
  obtain ⟨hlen1, b1, off1, O1, A1, B1, hao1, hc1⟩ := open_ops3 Yasv.underlying63 Yasv.underlying64 (by kernel_rfl) rfl rfl rfl (by kernel_rfl) (by kernel_rfl) (by kernel_rfl) Yasv.underlying5 Yasv.underlying3 Yasv.underlying3 h1
  clear hA0 hval0
  refine (walk a0 w0 ao1 len1 cap1 hlen1 b1 off1 O1 A1 B1 W hao1 hc1).mono fun e W' ⟨he, bel⟩ => ?_
  subst he
  exact ⟨_, rfl, _, _, _, [], _, [], hW', trodAll_mk1 (shut_bool Yasv.underlying4 _), (args_cons (shut_int Yasv.underlying45 w0) (args_cons (Below.trod laidOut (by kernel_rfl) (of_decide_eq_true (by kernel_rfl)) k1 bel lt1) trodAll_mk0)), rfl, bel.frame _, fun h => by cases h⟩

theorem over : Rows.lawS930009QAFWholeRow.holds Yasv.pinned (OpenSpec.ofChange Rows.lawS930009QAFWholeSpec) :=
  OpenClaim.holds_of_wide 8 Yasv.f8 rfl rfl rfl rfl rfl rfl rfl ⟨rfl, rfl, rfl, rfl, rfl⟩ rfl rfl rfl rfl rfl (by kernel_rfl) Yasv.func8 (by kernel_rfl)
    (of_decide_eq_true (by kernel_rfl)) (by unfold Func.isWrapper; first | (rw [if_pos (by decide +kernel)]; kernel_rfl) | (rw [if_neg (by decide +kernel)]; exact ⟨rfl, rfl⟩))
    (fun os started H enc _ => lifted os started H enc)

end Go.Proofs.Ymwhas.Qaf

namespace Go.Proofs.Ymwhas

/-- THE STATEMENT. -/
theorem qaf_holds : Rows.LawS930009QAFWholeSaid := Qaf.over

end Go.Proofs.Ymwhas
