/-
  THE STATEMENT Rows.LawS930009QAAWholeSaid, out of the walk.
-/
import Derived.Test.YmwhasQaa
import Derived.Test.YmwhasArgs
import Derived.ChangeOld
namespace Go.Proofs.Ymwhas.Qaa
open Go.ChangeShapes Go.WideShapes Go.ChangeAt Go.RowKit
set_option linter.unusedVariables false

theorem own : ownKnob Yasv.prog.godebug = none := by kernel_rfl
theorem laidOut : laidOutB Yasv.prog = true := by kernel_rfl

theorem walk (a0 : Int) (w0 : (Lit.int .u8 a0).wf = true) (ao : Option Addr) (len cap : Nat) (w : World) (hlen : len ≤ maxLen)
    (b off : Nat) (A B : Nat → Int) (hao : len ≤ 0 ∨ (ao = some ⟨b, off, none⟩ ∧ b < w.heap.size))
    (hc : ∀ i, i < len → w.cell? ⟨b, off + i * 2, none⟩ = some (.int .u8 (A i)) ∧ w.cell? ⟨b, off + i * 2 + 1, none⟩ = some (.int .u8 (B i)) ∧ (Lit.int .u8 (A i)).wf = true ∧ (Lit.int .u8 (B i)).wf = true) :
    Calls Yasv.prog 3 #[.int .u8 a0, .slice ao len cap] w fun e w' => e = .returned (.bool true) ∧ Below w.heap.size w w' := by
  unfold maxLen at hlen
  have h0 := wf_u8 w0
  obtain ⟨N, rfl⟩ := Int.eq_ofNat_of_zero_le h0.1
  by_cases hbig : 1024 < len
  · exact walk_long N ao len cap w hbig hlen
  · rcases hao with h | ⟨rfl, hb⟩
    · exact walk_empty N ao len cap w (by omega) h
    · refine walk_core N b off len cap (fun i => (A i).toNat) (fun i => (B i).toNat) w (by omega) (by omega) hb (fun i hi => ?_) (fun i hi => ?_)
      · have q := hc i hi
        have u := wf_u8 q.2.2.1
        refine ⟨?_, by omega⟩
        rw [q.1, Int.toNat_of_nonneg u.1]
      · have q := hc i hi
        have u := wf_u8 q.2.2.2
        refine ⟨?_, by omega⟩
        rw [q.2.1, Int.toNat_of_nonneg u.1]

set_option maxRecDepth 100000 in
theorem lifted (os : Os) (started : os.Started) (H : Type) (enc : TypeId × Value → H) :
    ReturnsInHanded {} Yasv.checked os 3 .any (Rows.lawS930009QAAWholeSpec.pre6 enc Yasv.prog Yasv.f3 Rows.lawS930009QAAWholeRow.domain false) (Rows.lawS930009QAAWholeSpec.post enc Yasv.prog Yasv.f3 false true false false) := by
  refine returnsInHanded_of_change (C := Yasv.checked) own started (by kernel_rfl) Yasv.func3
    (ChangeSpec.witness6 (enc := enc) (C := Yasv.checked) false ⟨#[], #[.int .u8 0, .slice none 0 0], []⟩ 8 (by kernel_rfl) (by kernel_rfl) (by kernel_rfl) (by kernel_rfl)) ?_
  intro W base args ds gs before hval0 hW hcnd _
  have hval : ∀ (j : Nat) t v, Yasv.f3.params[j]? = some t → args[j]? = some v → Value.okWide Yasv.prog W .any base t v := hval0
  have hW' := hW
  obtain ⟨p, q, hA0, hV, rfl, hfz, hnd⟩ := hW
  have hA : DataW.TrodAll enc Yasv.prog W 0 (fun _ => true) true Yasv.f3.params.toList args.toList ds p := hA0
  rw [Yasv.params3] at hA hval
  obtain ⟨v0, vs0, d0, ds0, p0, q0, hargs, rfl, rfl, h0, r0⟩ := trodAll_cons hA
  obtain ⟨v1, vs1, d1, ds1, p1, q1, rfl, rfl, rfl, h1, r1⟩ := trodAll_cons r0
  obtain ⟨rfl, rfl, rfl⟩ := trodAll_nil r1
  obtain rfl : args = #[v0, v1] := by cases args; simp_all
  obtain ⟨rfl, rfl⟩ := trodVars_none hV
  obtain ⟨a0, rfl, rfl, rfl, w0⟩ := open_int Yasv.underlying5 (hval 0 5 v0 rfl rfl) h0
  obtain ⟨ao, len, cap, rfl⟩ := okWide_slice Yasv.underlying22 (hval 1 22 v1 rfl rfl)
  have k1 := h1
  have lt1 : ∀ x ∈ p1, x.block < W.heap.size := by obtain ⟨m, hm⟩ := k1; exact DataW.trod_lt m _ _ _ hm
  obtain ⟨hlen, b, off, A, B, hao, hc⟩ := open_ops2 Yasv.underlying22 Yasv.underlying28 (by kernel_rfl) rfl rfl (by kernel_rfl) (by kernel_rfl) Yasv.underlying5 Yasv.underlying5 h1
  clear hA0 hval0
  refine (walk a0 w0 ao len cap W hlen b off A B hao hc).mono fun e W' ⟨he, bel⟩ => ?_
  subst he
  exact ⟨_, rfl, _, _, _, [], _, [], hW', trodAll_mk1 (shut_bool Yasv.underlying4 _), (args_cons (shut_int Yasv.underlying5 w0) (args_cons (Below.trod laidOut (by kernel_rfl) (of_decide_eq_true (by kernel_rfl)) k1 bel lt1) trodAll_mk0)), rfl, bel.frame _, fun h => by cases h⟩

theorem over : Rows.lawS930009QAAWholeRow.holds Yasv.pinned (OpenSpec.ofChange Rows.lawS930009QAAWholeSpec) :=
  OpenClaim.holds_of_wide 3 Yasv.f3 rfl rfl rfl rfl rfl rfl rfl ⟨rfl, rfl, rfl, rfl, rfl⟩ rfl rfl rfl rfl rfl (by kernel_rfl) Yasv.func3 (by kernel_rfl)
    (of_decide_eq_true (by kernel_rfl)) (by unfold Func.isWrapper; first | (rw [if_pos (by decide +kernel)]; kernel_rfl) | (rw [if_neg (by decide +kernel)]; exact ⟨rfl, rfl⟩))
    (fun os started H enc _ => lifted os started H enc)

end Go.Proofs.Ymwhas.Qaa

namespace Go.Proofs.Ymwhas

/-- THE STATEMENT. -/
theorem qaa_holds : Rows.LawS930009QAAWholeSaid := Qaa.over

end Go.Proofs.Ymwhas
