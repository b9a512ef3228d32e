/-
  THE STATEMENT Rows.LawS930009QAGWholeSaid, out of the walk.
-/
import Derived.Test.YmwhasQag0
import Derived.Test.YmwhasQag1
import Derived.Test.YmwhasQag2
import Derived.Test.YmwhasQag3
import Derived.Test.YmwhasArgs
import Derived.ChangeOld
namespace Go.Proofs.Ymwhas.Qag
open Go.ChangeShapes Go.WideShapes Go.ChangeAt Go.RowKit
set_option linter.unusedVariables false

theorem own : ownKnob Yasv.prog.godebug = none := by kernel_rfl
theorem laidOut : laidOutB Yasv.prog = true := by kernel_rfl

/-- What open_ops2 hands over, as the walk wants it. -/
theorem ops_of {w : World} {ao : Option Addr} {len b off : Nat} {A B : Nat → Int} (hao : len ≤ 0 ∨ (ao = some ⟨b, off, none⟩ ∧ b < w.heap.size))
    (hc : ∀ i, i < len → w.cell? ⟨b, off + i * 2, none⟩ = some (.int .u16 (A i)) ∧ w.cell? ⟨b, off + i * 2 + 1, none⟩ = some (.int .u16 (B i)) ∧ (Lit.int .u16 (A i)).wf = true ∧ (Lit.int .u16 (B i)).wf = true) :
    Ops2 w w.heap.size .u16 .u16 ao len b off (fun i => (A i).toNat) (fun i => (B i).toNat) := by
  refine ⟨hao, fun i hi => ?_⟩
  obtain ⟨q0, q1, u0, u1⟩ := hc i hi
  have v0 := wf_u16 u0
  have v1 := wf_u16 u1
  refine ⟨?_, ?_, by show (A i).toNat ≤ 65535; omega, by show (B i).toNat ≤ 65535; omega⟩
  · rw [q0, Int.toNat_of_nonneg v0.1]
  · rw [q1, Int.toNat_of_nonneg v1.1]

theorem walk (a0 : Int) (w0 : (Lit.int .u16 a0).wf = true) (a1 : Int) (w1 : (Lit.int .u8 a1).wf = true) (ao : Option Addr) (len cap : Nat) (hlen : len ≤ maxLen) (b off : Nat) (A B : Nat → Int) (w : World) (hao : len ≤ 0 ∨ (ao = some ⟨b, off, none⟩ ∧ b < w.heap.size))
    (hc : ∀ i, i < len → w.cell? ⟨b, off + i * 2, none⟩ = some (.int .u16 (A i)) ∧ w.cell? ⟨b, off + i * 2 + 1, none⟩ = some (.int .u16 (B i)) ∧ (Lit.int .u16 (A i)).wf = true ∧ (Lit.int .u16 (B i)).wf = true)
    (ao2 : Option Addr) (len2 cap2 : Nat) (hlen2 : len2 ≤ maxLen) (b2 off2 : Nat) (A2 B2 : Nat → Int) (w' : World) (hao2 : len2 ≤ 0 ∨ (ao2 = some ⟨b2, off2, none⟩ ∧ b2 < w'.heap.size))
    (hc2 : ∀ i, i < len2 → w'.cell? ⟨b2, off2 + i * 2, none⟩ = some (.int .u16 (A2 i)) ∧ w'.cell? ⟨b2, off2 + i * 2 + 1, none⟩ = some (.int .u16 (B2 i)) ∧ (Lit.int .u16 (A2 i)).wf = true ∧ (Lit.int .u16 (B2 i)).wf = true) (hww : w = w') :
    Calls Yasv.prog 9 #[.int .u16 a0, .int .u8 a1, .slice ao len cap, .slice ao2 len2 cap2] w fun e w' => e = .returned (.bool true) ∧ Below w.heap.size w w' := by
  subst hww
  unfold maxLen at hlen hlen2
  have h0 := wf_u16 w0
  have h1 := wf_u8 w1
  obtain ⟨N, rfl⟩ := Int.eq_ofNat_of_zero_le h0.1
  obtain ⟨M, rfl⟩ := Int.eq_ofNat_of_zero_le h1.1
  by_cases hbig : 1024 < len ∨ 1024 < len2
  · exact walk_long N M ao ao2 len cap len2 cap2 w hbig hlen hlen2
  · have o1 := ops_of hao hc
    have o2 := ops_of hao2 hc2
    rcases (show (M : Int) % 4 = 0 ∨ (M : Int) % 4 = 1 ∨ (M : Int) % 4 = 2 ∨ (M : Int) % 4 = 3 from by omega) with h | h | h | h
    · exact walk0 N M ao ao2 len cap len2 cap2 b off b2 off2 _ _ _ _ w (by omega) (by omega) h (by omega) (by omega) o1 o2
    · exact walk1 N M ao ao2 len cap len2 cap2 b off b2 off2 _ _ _ _ w (by omega) (by omega) h (by omega) (by omega) o1 o2
    · exact walk2 N M ao ao2 len cap len2 cap2 b off b2 off2 _ _ _ _ w (by omega) (by omega) h (by omega) (by omega) o1 o2
    · exact walk3 N M ao ao2 len cap len2 cap2 b off b2 off2 _ _ _ _ w (by omega) (by omega) h (by omega) (by omega) o1 o2

set_option maxRecDepth 100000 in
theorem lifted (os : Os) (started : os.Started) (H : Type) (enc : TypeId × Value → H) :
    ReturnsInHanded {} Yasv.checked os 9 .any (Rows.lawS930009QAGWholeSpec.pre6 enc Yasv.prog Yasv.f9 Rows.lawS930009QAGWholeRow.domain false) (Rows.lawS930009QAGWholeSpec.post enc Yasv.prog Yasv.f9 false true false false) := by
  refine returnsInHanded_of_change (C := Yasv.checked) own started (by kernel_rfl) Yasv.func9
    (ChangeSpec.witness6 (enc := enc) (C := Yasv.checked) false ⟨#[], #[.int .u16 0, .int .u8 0, .slice none 0 0, .slice none 0 0], []⟩ 8 (by kernel_rfl) (by kernel_rfl) (by kernel_rfl) (by kernel_rfl)) ?_
  intro W base args ds gs before hval0 hW hcnd _
  have hval : ∀ (j : Nat) t v, Yasv.f9.params[j]? = some t → args[j]? = some v → Value.okWide Yasv.prog W .any base t v := hval0
  have hW' := hW
  obtain ⟨p, q, hA0, hV, rfl, hfz, hnd⟩ := hW
  have hA : DataW.TrodAll enc Yasv.prog W 0 (fun _ => true) true Yasv.f9.params.toList args.toList ds p := hA0
  rw [Yasv.params9] at hA hval
  obtain ⟨v0, vs0, d0, ds0, p0, q0, hargs, rfl, rfl, h0, r0⟩ := trodAll_cons hA
  obtain ⟨v1, vs1, d1, ds1, p1, q1, rfl, rfl, rfl, h1, r1⟩ := trodAll_cons r0
  obtain ⟨v2, vs2, d2, ds2, p2, q2, rfl, rfl, rfl, h2, r2⟩ := trodAll_cons r1
  obtain ⟨v3, vs3, d3, ds3, p3, q3, rfl, rfl, rfl, h3, r3⟩ := trodAll_cons r2
  obtain ⟨rfl, rfl, rfl⟩ := trodAll_nil r3
  obtain rfl : args = #[v0, v1, v2, v3] := by cases args; simp_all
  obtain ⟨rfl, rfl⟩ := trodVars_none hV
  obtain ⟨a0, rfl, rfl, rfl, w0⟩ := open_int Yasv.underlying45 (hval 0 45 v0 rfl rfl) h0
  obtain ⟨a1, rfl, rfl, rfl, w1⟩ := open_int Yasv.underlying5 (hval 1 5 v1 rfl rfl) h1
  obtain ⟨ao2, len2, cap2, rfl⟩ := okWide_slice Yasv.underlying67 (hval 2 67 v2 rfl rfl)
  have k2 := h2
  have lt2 : ∀ x ∈ p2, x.block < W.heap.size := by obtain ⟨m, hm⟩ := k2; exact DataW.trod_lt m _ _ _ hm
  obtain ⟨hlen2, b2, off2, A2, B2, hao2, hc2⟩ := open_ops2 Yasv.underlying67 Yasv.underlying79 (by kernel_rfl) rfl rfl (by kernel_rfl) (by kernel_rfl) Yasv.underlying45 Yasv.underlying45 h2
  obtain ⟨ao3, len3, cap3, rfl⟩ := okWide_slice Yasv.underlying67 (hval 3 67 v3 rfl rfl)
  have k3 := h3
  have lt3 : ∀ x ∈ p3, x.block < W.heap.size := by obtain ⟨m, hm⟩ := k3; exact DataW.trod_lt m _ _ _ hm
  obtain ⟨hlen3, b3, off3, A3, B3, hao3, hc3⟩ := open_ops2 Yasv.underlying67 Yasv.underlying79 (by kernel_rfl) rfl rfl (by kernel_rfl) (by kernel_rfl) Yasv.underlying45 Yasv.underlying45 h3
  clear hA0 hval0
  refine (walk a0 w0 a1 w1 ao2 len2 cap2 hlen2 b2 off2 A2 B2 W hao2 hc2 ao3 len3 cap3 hlen3 b3 off3 A3 B3 W hao3 hc3 rfl).mono fun e W' ⟨he, bel⟩ => ?_
  subst he
  exact ⟨_, rfl, _, _, _, [], _, [], hW', trodAll_mk1 (shut_bool Yasv.underlying4 _), (args_cons (shut_int Yasv.underlying45 w0) (args_cons (shut_int Yasv.underlying5 w1) (args_cons (Below.trod laidOut (by kernel_rfl) (of_decide_eq_true (by kernel_rfl)) k2 bel lt2) (args_cons (Below.trod laidOut (by kernel_rfl) (of_decide_eq_true (by kernel_rfl)) k3 bel lt3) trodAll_mk0)))), rfl, bel.frame _, fun h => by cases h⟩

theorem over : Rows.lawS930009QAGWholeRow.holds Yasv.pinned (OpenSpec.ofChange Rows.lawS930009QAGWholeSpec) :=
  OpenClaim.holds_of_wide 9 Yasv.f9 rfl rfl rfl rfl rfl rfl rfl ⟨rfl, rfl, rfl, rfl, rfl⟩ rfl rfl rfl rfl rfl (by kernel_rfl) Yasv.func9 (by kernel_rfl)
    (of_decide_eq_true (by kernel_rfl)) (by unfold Func.isWrapper; first | (rw [if_pos (by decide +kernel)]; kernel_rfl) | (rw [if_neg (by decide +kernel)]; exact ⟨rfl, rfl⟩))
    (fun os started H enc _ => lifted os started H enc)

end Go.Proofs.Ymwhas.Qag

namespace Go.Proofs.Ymwhas

/-- THE STATEMENT. -/
theorem qag_holds : Rows.LawS930009QAGWholeSaid := Qag.over

end Go.Proofs.Ymwhas
