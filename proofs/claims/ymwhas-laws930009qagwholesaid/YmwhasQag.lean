/-
  QAG: what the walks of LawS930009QAGWhole share.
-/
import Derived.Test.YmwhasQagAux
import Derived.Test.YmwhasNew
namespace Go.Proofs.Ymwhas.Qag
open Go.RowKit
set_option linter.unusedVariables false

/-- The two partitions and their labels, as they lie in W; below B all is as in w. -/
structure Two (w W : World) (B n nt ps pb zb lb qs qb yb mb : Nat) (s1 s2 : St) (f1 f2 : Nat → Nat) : Prop where
  i1 : Inv n s1
  l1 : LabOk n f1 s1.R
  r1 : RowN W lb n f1
  s1 : SetsAt W ps pb zb n s1
  i2 : Inv nt s2
  l2 : LabOk nt f2 s2.R
  r2 : RowN W mb nt f2
  s2 : SetsAt W qs qb yb nt s2
  bl : Below B w W

theorem Two.next {w W W' : World} {B n nt ps pb zb lb qs qb yb mb : Nat} {s1 s2 : St} {f1 f2 : Nat → Nat} (h : Two w W B n nt ps pb zb lb qs qb yb mb s1 s2 f1 f2) (k : Within (fun _ => False) W W') (hB : B ≤ w.heap.size) : Two w W' B n nt ps pb zb lb qs qb yb mb s1 s2 f1 f2 :=
  ⟨h.i1, h.l1, h.r1.within k (fun e => e), h.s1.within k (fun _ _ e => e), h.i2, h.l2, h.r2.within k (fun e => e), h.s2.within k (fun _ _ e => e), h.bl.trans (k.below (by have := h.bl.size; omega) (fun _ e => e.elim))⟩

set_option maxRecDepth 100000 in
set_option maxHeartbeats 1000000 in
theorem walk_long (N M : Nat) (ao1 ao2 : Option Addr) (len1 cap1 len2 cap2 : Nat) (w : World) (hl : 1024 < len1 ∨ 1024 < len2) (hm1 : len1 ≤ 9223372036854775807) (hm2 : len2 ≤ 9223372036854775807) :
    Calls Yasv.prog 9 #[.int .u16 (N : Nat), .int .u8 (M : Nat), .slice ao1 len1 cap1, .slice ao2 len2 cap2] w fun e w' => e = .returned (.bool true) ∧ Below w.heap.size w w' := by
  by_cases h1 : 1024 < len1
  · go_enter Yasv.func9, Yasv.ntmps9
    go_wp2
    go_ret
    exact ⟨rfl, Below.refl _ _⟩
  · have h2 : 1024 < len2 := by omega
    go_enter Yasv.func9, Yasv.ntmps9
    go_wp2
    go_ret
    exact ⟨rfl, Below.refl _ _⟩

end Go.Proofs.Ymwhas.Qag
