/-
  THE STATEMENT Rows.LawS930009QAEWholeSaid, out of the walk.
-/
import Derived.Test.YmwhasQae
import Derived.Test.YmwhasArgs
import Derived.ChangeOld
namespace Go.Proofs.Ymwhas.Qae
open Go.ChangeShapes Go.WideShapes Go.ChangeAt Go.RowKit
set_option linter.unusedVariables false

theorem own : ownKnob Yasv.prog.godebug = none := by kernel_rfl
theorem laidOut : laidOutB Yasv.prog = true := by kernel_rfl

theorem walk (a0 : Int) (w0 : (Lit.int .u16 a0).wf = true) (ao : Option Addr) (len cap : Nat) (hlen : len ≤ maxLen) (b off : Nat) (O A B : Nat → Int) (w : World) (hao : len ≤ 0 ∨ (ao = some ⟨b, off, none⟩ ∧ b < w.heap.size))
    (hc : ∀ i, i < len → w.cell? ⟨b, off + i * 3, none⟩ = some (.int .u8 (O i)) ∧ w.cell? ⟨b, off + i * 3 + 1, none⟩ = some (.int .i64 (A i)) ∧ w.cell? ⟨b, off + i * 3 + 2, none⟩ = some (.int .i64 (B i)) ∧ (Lit.int .u8 (O i)).wf = true ∧ (Lit.int .i64 (A i)).wf = true ∧ (Lit.int .i64 (B i)).wf = true)
    (X : Int) (wX : (Lit.int .i64 X).wf = true) :
    Calls Yasv.prog 7 #[.int .u16 a0, .slice ao len cap, .int .i64 X] w fun e w' => e = .returned (.bool true) ∧ Below w.heap.size w w' := by
  unfold maxLen at hlen
  have h0 := wf_u16 w0
  obtain ⟨N, rfl⟩ := Int.eq_ofNat_of_zero_le h0.1
  by_cases hbig : 1024 < len
  · exact walk_long N ao len cap X w hbig hlen
  · rcases hao with h | ⟨rfl, hb⟩
    · exact walk_empty N ao len cap X w (by omega) h
    · refine walk_core N b off len cap (fun i => (O i).toNat) A B X w (by omega) (by omega) hb (fun i hi => ?_)
      obtain ⟨q0, q1, q2, u0, u1, u2⟩ := hc i hi
      have v0 := wf_u8 u0
      refine ⟨?_, q1, q2, by omega, wf_i64 u1, wf_i64 u2⟩
      rw [q0, Int.toNat_of_nonneg v0.1]

set_option maxRecDepth 100000 in
theorem lifted (os : Os) (started : os.Started) (H : Type) (enc : TypeId × Value → H) :
    ReturnsInHanded {} Yasv.checked os 7 .any (Rows.lawS930009QAEWholeSpec.pre6 enc Yasv.prog Yasv.f7 Rows.lawS930009QAEWholeRow.domain false) (Rows.lawS930009QAEWholeSpec.post enc Yasv.prog Yasv.f7 false true false false) := by
  refine returnsInHanded_of_change (C := Yasv.checked) own started (by kernel_rfl) Yasv.func7
    (ChangeSpec.witness6 (enc := enc) (C := Yasv.checked) false ⟨#[], #[.int .u16 0, .slice none 0 0, .int .i64 0], []⟩ 8 (by kernel_rfl) (by kernel_rfl) (by kernel_rfl) (by kernel_rfl)) ?_
  intro W base args ds gs before hval0 hW hcnd _
  have hval : ∀ (j : Nat) t v, Yasv.f7.params[j]? = some t → args[j]? = some v → Value.okWide Yasv.prog W .any base t v := hval0
  have hW' := hW
  obtain ⟨p, q, hA0, hV, rfl, hfz, hnd⟩ := hW
  have hA : DataW.TrodAll enc Yasv.prog W 0 (fun _ => true) true Yasv.f7.params.toList args.toList ds p := hA0
  rw [Yasv.params7] at hA hval
  obtain ⟨v0, vs0, d0, ds0, p0, q0, hargs, rfl, rfl, h0, r0⟩ := trodAll_cons hA
  obtain ⟨v1, vs1, d1, ds1, p1, q1, rfl, rfl, rfl, h1, r1⟩ := trodAll_cons r0
  obtain ⟨v2, vs2, d2, ds2, p2, q2, rfl, rfl, rfl, h2, r2⟩ := trodAll_cons r1
  obtain ⟨rfl, rfl, rfl⟩ := trodAll_nil r2
  obtain rfl : args = #[v0, v1, v2] := by cases args; simp_all
  obtain ⟨rfl, rfl⟩ := trodVars_none hV
  obtain ⟨a0, rfl, rfl, rfl, w0⟩ := open_int Yasv.underlying45 (hval 0 45 v0 rfl rfl) h0
  obtain ⟨ao1, len1, cap1, rfl⟩ := okWide_slice Yasv.underlying58 (hval 1 58 v1 rfl rfl)
  have k1 := h1
  have lt1 : ∀ x ∈ p1, x.block < W.heap.size := by obtain ⟨m, hm⟩ := k1; exact DataW.trod_lt m _ _ _ hm
  obtain ⟨hlen1, b1, off1, O1, A1, B1, hao1, hc1⟩ := open_ops3 Yasv.underlying58 Yasv.underlying59 (by kernel_rfl) rfl rfl rfl (by kernel_rfl) (by kernel_rfl) (by kernel_rfl) Yasv.underlying5 Yasv.underlying3 Yasv.underlying3 h1
  obtain ⟨a2, rfl, rfl, rfl, w2⟩ := open_int Yasv.underlying3 (hval 2 3 v2 rfl rfl) h2
  clear hA0 hval0
  refine (walk a0 w0 ao1 len1 cap1 hlen1 b1 off1 O1 A1 B1 W hao1 hc1 a2 w2).mono fun e W' ⟨he, bel⟩ => ?_
  subst he
  exact ⟨_, rfl, _, _, _, [], _, [], hW', trodAll_mk1 (shut_bool Yasv.underlying4 _), (args_cons (shut_int Yasv.underlying45 w0) (args_cons (Below.trod laidOut (by kernel_rfl) (of_decide_eq_true (by kernel_rfl)) k1 bel lt1) (args_cons (shut_int Yasv.underlying3 w2) trodAll_mk0))), rfl, bel.frame _, fun h => by cases h⟩

theorem over : Rows.lawS930009QAEWholeRow.holds Yasv.pinned (OpenSpec.ofChange Rows.lawS930009QAEWholeSpec) :=
  OpenClaim.holds_of_wide 7 Yasv.f7 rfl rfl rfl rfl rfl rfl rfl ⟨rfl, rfl, rfl, rfl, rfl⟩ rfl rfl rfl rfl rfl (by kernel_rfl) Yasv.func7 (by kernel_rfl)
    (of_decide_eq_true (by kernel_rfl)) (by unfold Func.isWrapper; first | (rw [if_pos (by decide +kernel)]; kernel_rfl) | (rw [if_neg (by decide +kernel)]; exact ⟨rfl, rfl⟩))
    (fun os started H enc _ => lifted os started H enc)

end Go.Proofs.Ymwhas.Qae

namespace Go.Proofs.Ymwhas

/-- THE STATEMENT. -/
theorem qae_holds : Rows.LawS930009QAEWholeSaid := Qae.over

end Go.Proofs.Ymwhas
