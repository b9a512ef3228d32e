/-
  No cell of these rows narrows 'for every input' (looked for: loops, veiled, ifaces, maps, wideKeys, modest, calm, conditions, laid).
  DERIVED. THE GIVEN ROWS OF THIS SEAT. 8 by the template 'for every input the law returns true; each argument reads behind the call as it read before'; 0 by the template 'total and deterministic' (their statements: YmwhasTotals.lean).
  GIVEN WITH THE SEED: the statements are not yours to turn. If you find one false, say at which input.
  Laid BY PROGRAM, IN A SANDBOX (cutbox-rows.mjs): the forced cells as the released guide's own fill.sh prints them over the translation 9fef639a50a93d1c… (all of the seat's roots in one cut). By AI agents, Wed Nov 11 2026. No macro, syntax, notation, axiom, sorry.
-/
import Derived.Test.YmwhasChecked
import GoSem.Claim
import GoSem.ClaimJoined
import GoSem.ClaimMapViews
import Derived.JoinedTies
import Derived.KernelRfl
namespace Go.Proofs.Ymwhas
/- THE CELL 'sum', in the pinned program and in every row, IS THE sha256 OF THE DUMP (.gsa) THAT YmwhasProg.lean LOADS. Nothing in Lean hashes anything: it is a label: what it is worth is what the hold of that sum in a sandbox is worth. -/
noncomputable def Yasv.pinned : Pinned := { name := "ymwhas", sum := "9fef639a50a93d1c7b8e80afb2bf57a645bab30ab3895eb36a11d7939131b6db", checked := Yasv.checked }
namespace Rows
def none {H : Type} : Left H := { results := [], args := [] }

/-- 'unionfind.LawS930009QAAWhole': WHATEVER THE INPUT: true; the input reads as it did. -/
def lawS930009QAAWholeSpec : ChangeSpec := { name := "lawS930009QAAWhole", fn := fun _ => fun
  | [d1, d2] => { results := [.lit (.bool true)], args := [d1, d2] }
  | _ => none }
def lawS930009QAAWholeRow : OpenClaim := { program := "ymwhas", sum := "9fef639a50a93d1c7b8e80afb2bf57a645bab30ab3895eb36a11d7939131b6db", func := "example.com/own/unionfind.LawS930009QAAWhole", spec := "lawS930009QAAWhole", apart := false }
def LawS930009QAAWholeSaid : Prop := lawS930009QAAWholeRow.holds Yasv.pinned (OpenSpec.ofChange lawS930009QAAWholeSpec)

/-- ITS FALSE NEIGHBOUR: 'it returns false'. Refute it at one input. -/
def lawS930009QAAWholeWrong : ChangeSpec := { name := "lawS930009QAAWhole", fn := fun _ => fun
  | [d1, d2] => { results := [.lit (.bool false)], args := [d1, d2] }
  | _ => none }
def LawS930009QAAWholeWrongFalsely : Prop := lawS930009QAAWholeRow.holds Yasv.pinned (OpenSpec.ofChange lawS930009QAAWholeWrong)

/-- 'unionfind.LawS930009QACWhole': WHATEVER THE INPUT: true; the input reads as it did. -/
def lawS930009QACWholeSpec : ChangeSpec := { name := "lawS930009QACWhole", fn := fun _ => fun
  | [d1, d2, d3, d4] => { results := [.lit (.bool true)], args := [d1, d2, d3, d4] }
  | _ => none }
def lawS930009QACWholeRow : OpenClaim := { program := "ymwhas", sum := "9fef639a50a93d1c7b8e80afb2bf57a645bab30ab3895eb36a11d7939131b6db", func := "example.com/own/unionfind.LawS930009QACWhole", spec := "lawS930009QACWhole", apart := false }
def LawS930009QACWholeSaid : Prop := lawS930009QACWholeRow.holds Yasv.pinned (OpenSpec.ofChange lawS930009QACWholeSpec)

/-- ITS FALSE NEIGHBOUR: 'it returns false'. Refute it at one input. -/
def lawS930009QACWholeWrong : ChangeSpec := { name := "lawS930009QACWhole", fn := fun _ => fun
  | [d1, d2, d3, d4] => { results := [.lit (.bool false)], args := [d1, d2, d3, d4] }
  | _ => none }
def LawS930009QACWholeWrongFalsely : Prop := lawS930009QACWholeRow.holds Yasv.pinned (OpenSpec.ofChange lawS930009QACWholeWrong)

/-- 'unionfind.LawS930009QABWhole': WHATEVER THE INPUT: true; the input reads as it did. -/
def lawS930009QABWholeSpec : ChangeSpec := { name := "lawS930009QABWhole", fn := fun _ => fun
  | [d1, d2, d3, d4] => { results := [.lit (.bool true)], args := [d1, d2, d3, d4] }
  | _ => none }
def lawS930009QABWholeRow : OpenClaim := { program := "ymwhas", sum := "9fef639a50a93d1c7b8e80afb2bf57a645bab30ab3895eb36a11d7939131b6db", func := "example.com/own/unionfind.LawS930009QABWhole", spec := "lawS930009QABWhole", apart := false }
def LawS930009QABWholeSaid : Prop := lawS930009QABWholeRow.holds Yasv.pinned (OpenSpec.ofChange lawS930009QABWholeSpec)

/-- ITS FALSE NEIGHBOUR: 'it returns false'. Refute it at one input. -/
def lawS930009QABWholeWrong : ChangeSpec := { name := "lawS930009QABWhole", fn := fun _ => fun
  | [d1, d2, d3, d4] => { results := [.lit (.bool false)], args := [d1, d2, d3, d4] }
  | _ => none }
def LawS930009QABWholeWrongFalsely : Prop := lawS930009QABWholeRow.holds Yasv.pinned (OpenSpec.ofChange lawS930009QABWholeWrong)

/-- 'unionfind.LawS930009QADWhole': WHATEVER THE INPUT: true; the input reads as it did. -/
def lawS930009QADWholeSpec : ChangeSpec := { name := "lawS930009QADWhole", fn := fun _ => fun
  | [d1, d2, d3] => { results := [.lit (.bool true)], args := [d1, d2, d3] }
  | _ => none }
def lawS930009QADWholeRow : OpenClaim := { program := "ymwhas", sum := "9fef639a50a93d1c7b8e80afb2bf57a645bab30ab3895eb36a11d7939131b6db", func := "example.com/own/unionfind.LawS930009QADWhole", spec := "lawS930009QADWhole", apart := false }
def LawS930009QADWholeSaid : Prop := lawS930009QADWholeRow.holds Yasv.pinned (OpenSpec.ofChange lawS930009QADWholeSpec)

/-- ITS FALSE NEIGHBOUR: 'it returns false'. Refute it at one input. -/
def lawS930009QADWholeWrong : ChangeSpec := { name := "lawS930009QADWhole", fn := fun _ => fun
  | [d1, d2, d3] => { results := [.lit (.bool false)], args := [d1, d2, d3] }
  | _ => none }
def LawS930009QADWholeWrongFalsely : Prop := lawS930009QADWholeRow.holds Yasv.pinned (OpenSpec.ofChange lawS930009QADWholeWrong)

/-- 'unionfind.LawS930009QAEWhole': WHATEVER THE INPUT: true; the input reads as it did. -/
def lawS930009QAEWholeSpec : ChangeSpec := { name := "lawS930009QAEWhole", fn := fun _ => fun
  | [d1, d2, d3] => { results := [.lit (.bool true)], args := [d1, d2, d3] }
  | _ => none }
def lawS930009QAEWholeRow : OpenClaim := { program := "ymwhas", sum := "9fef639a50a93d1c7b8e80afb2bf57a645bab30ab3895eb36a11d7939131b6db", func := "example.com/own/unionfind.LawS930009QAEWhole", spec := "lawS930009QAEWhole", apart := false }
def LawS930009QAEWholeSaid : Prop := lawS930009QAEWholeRow.holds Yasv.pinned (OpenSpec.ofChange lawS930009QAEWholeSpec)

/-- ITS FALSE NEIGHBOUR: 'it returns false'. Refute it at one input. -/
def lawS930009QAEWholeWrong : ChangeSpec := { name := "lawS930009QAEWhole", fn := fun _ => fun
  | [d1, d2, d3] => { results := [.lit (.bool false)], args := [d1, d2, d3] }
  | _ => none }
def LawS930009QAEWholeWrongFalsely : Prop := lawS930009QAEWholeRow.holds Yasv.pinned (OpenSpec.ofChange lawS930009QAEWholeWrong)

/-- 'unionfind.LawS930009QAFWhole': WHATEVER THE INPUT: true; the input reads as it did. -/
def lawS930009QAFWholeSpec : ChangeSpec := { name := "lawS930009QAFWhole", fn := fun _ => fun
  | [d1, d2] => { results := [.lit (.bool true)], args := [d1, d2] }
  | _ => none }
def lawS930009QAFWholeRow : OpenClaim := { program := "ymwhas", sum := "9fef639a50a93d1c7b8e80afb2bf57a645bab30ab3895eb36a11d7939131b6db", func := "example.com/own/unionfind.LawS930009QAFWhole", spec := "lawS930009QAFWhole", apart := false }
def LawS930009QAFWholeSaid : Prop := lawS930009QAFWholeRow.holds Yasv.pinned (OpenSpec.ofChange lawS930009QAFWholeSpec)

/-- ITS FALSE NEIGHBOUR: 'it returns false'. Refute it at one input. -/
def lawS930009QAFWholeWrong : ChangeSpec := { name := "lawS930009QAFWhole", fn := fun _ => fun
  | [d1, d2] => { results := [.lit (.bool false)], args := [d1, d2] }
  | _ => none }
def LawS930009QAFWholeWrongFalsely : Prop := lawS930009QAFWholeRow.holds Yasv.pinned (OpenSpec.ofChange lawS930009QAFWholeWrong)

/-- 'unionfind.LawS930009QAGWhole': WHATEVER THE INPUT: true; the input reads as it did. -/
def lawS930009QAGWholeSpec : ChangeSpec := { name := "lawS930009QAGWhole", fn := fun _ => fun
  | [d1, d2, d3, d4] => { results := [.lit (.bool true)], args := [d1, d2, d3, d4] }
  | _ => none }
def lawS930009QAGWholeRow : OpenClaim := { program := "ymwhas", sum := "9fef639a50a93d1c7b8e80afb2bf57a645bab30ab3895eb36a11d7939131b6db", func := "example.com/own/unionfind.LawS930009QAGWhole", spec := "lawS930009QAGWhole", apart := false }
def LawS930009QAGWholeSaid : Prop := lawS930009QAGWholeRow.holds Yasv.pinned (OpenSpec.ofChange lawS930009QAGWholeSpec)

/-- ITS FALSE NEIGHBOUR: 'it returns false'. Refute it at one input. -/
def lawS930009QAGWholeWrong : ChangeSpec := { name := "lawS930009QAGWhole", fn := fun _ => fun
  | [d1, d2, d3, d4] => { results := [.lit (.bool false)], args := [d1, d2, d3, d4] }
  | _ => none }
def LawS930009QAGWholeWrongFalsely : Prop := lawS930009QAGWholeRow.holds Yasv.pinned (OpenSpec.ofChange lawS930009QAGWholeWrong)

/-- 'unionfind.LawS930009QAHWhole': WHATEVER THE INPUT: true; the input reads as it did. -/
def lawS930009QAHWholeSpec : ChangeSpec := { name := "lawS930009QAHWhole", fn := fun _ => fun
  | [d1, d2, d3, d4, d5] => { results := [.lit (.bool true)], args := [d1, d2, d3, d4, d5] }
  | _ => none }
def lawS930009QAHWholeRow : OpenClaim := { program := "ymwhas", sum := "9fef639a50a93d1c7b8e80afb2bf57a645bab30ab3895eb36a11d7939131b6db", func := "example.com/own/unionfind.LawS930009QAHWhole", spec := "lawS930009QAHWhole", apart := false }
def LawS930009QAHWholeSaid : Prop := lawS930009QAHWholeRow.holds Yasv.pinned (OpenSpec.ofChange lawS930009QAHWholeSpec)

/-- ITS FALSE NEIGHBOUR: 'it returns false'. Refute it at one input. -/
def lawS930009QAHWholeWrong : ChangeSpec := { name := "lawS930009QAHWhole", fn := fun _ => fun
  | [d1, d2, d3, d4, d5] => { results := [.lit (.bool false)], args := [d1, d2, d3, d4, d5] }
  | _ => none }
def LawS930009QAHWholeWrongFalsely : Prop := lawS930009QAHWholeRow.holds Yasv.pinned (OpenSpec.ofChange lawS930009QAHWholeWrong)

end Rows
end Go.Proofs.Ymwhas
