/-
  No cell of these rows narrows 'for every input' (looked for: loops, veiled, ifaces, maps, wideKeys, modest, calm, conditions, laid).
  DERIVED. THE GIVEN ROWS OF THIS SEAT. 3 by the template 'for every input the law returns true; each argument reads behind the call as it read before'; 0 by the template 'total and deterministic' (their statements: YtbhlfbkheijojaaTotals.lean).
  GIVEN WITH THE SEED: the statements are not yours to turn. If you find one false, say at which input.
  Laid BY PROGRAM, IN A SANDBOX (cutbox-rows.mjs): the forced cells as the released guide's own fill.sh prints them over the translation 661636b7618c9660… (all of the seat's roots in one cut). By AI agents, Wed Nov 11 2026. No macro, syntax, notation, axiom, sorry.
-/
import Derived.Test.YtbhlfbkheijojaaChecked
import GoSem.Claim
import GoSem.ClaimJoined
import GoSem.ClaimMapViews
import Derived.JoinedTies
import Derived.KernelRfl
namespace Go.Proofs.Ytbhlfbkheijojaa
/- THE CELL 'sum', in the pinned program and in every row, IS THE sha256 OF THE DUMP (.gsa) THAT YtbhlfbkheijojaaProg.lean LOADS. Nothing in Lean hashes anything: it is a label: what it is worth is what the hold of that sum in a sandbox is worth. -/
noncomputable def Try.pinned : Pinned := { name := "ytbhlfbkheijojaa", sum := "661636b7618c9660e17978d16c3892f4fa2b60c69ce0ceca2b5e2131fa88dae4", checked := Try.checked }
namespace Rows
def none {H : Type} : Left H := { results := [], args := [] }

/-- 'draymanlaw08.PlanForms': WHATEVER THE INPUT: true; the input reads as it did. -/
def planFormsSpec : ChangeSpec := { name := "planForms", fn := fun _ => fun
  | [d] => { results := [.lit (.bool true)], args := [d] }
  | _ => none }
def planFormsRow : OpenClaim := { program := "ytbhlfbkheijojaa", sum := "661636b7618c9660e17978d16c3892f4fa2b60c69ce0ceca2b5e2131fa88dae4", func := "drayman/draymanlaw08.PlanForms", spec := "planForms", unfollowed := true, recurses := true, plainKeys := false, apart := false }
def PlanFormsSaid : Prop := planFormsRow.holds Try.pinned (OpenSpec.ofChange planFormsSpec)

/-- ITS FALSE NEIGHBOUR: 'it returns false'. Refute it at one input. -/
def planFormsWrong : ChangeSpec := { name := "planForms", fn := fun _ => fun
  | [d] => { results := [.lit (.bool false)], args := [d] }
  | _ => none }
def PlanFormsWrongFalsely : Prop := planFormsRow.holds Try.pinned (OpenSpec.ofChange planFormsWrong)

/-- 'draymanlaw14.StackTouched': WHATEVER THE INPUT: true; the input reads as it did. -/
def stackTouchedSpec : ChangeSpec := { name := "stackTouched", fn := fun _ => fun
  | [d] => { results := [.lit (.bool true)], args := [d] }
  | _ => none }
def stackTouchedRow : OpenClaim := { program := "ytbhlfbkheijojaa", sum := "661636b7618c9660e17978d16c3892f4fa2b60c69ce0ceca2b5e2131fa88dae4", func := "drayman/draymanlaw14.StackTouched", spec := "stackTouched", inPlace := ["maps.clone"], unfollowed := true, recurses := true, plainKeys := false, apart := false }
def StackTouchedSaid : Prop := stackTouchedRow.holds Try.pinned (OpenSpec.ofChange stackTouchedSpec)

/-- ITS FALSE NEIGHBOUR: 'it returns false'. Refute it at one input. -/
def stackTouchedWrong : ChangeSpec := { name := "stackTouched", fn := fun _ => fun
  | [d] => { results := [.lit (.bool false)], args := [d] }
  | _ => none }
def StackTouchedWrongFalsely : Prop := stackTouchedRow.holds Try.pinned (OpenSpec.ofChange stackTouchedWrong)

/-- 'draymanlaw14.StackForms': WHATEVER THE INPUT: true; the input reads as it did. -/
def stackFormsSpec : ChangeSpec := { name := "stackForms", fn := fun _ => fun
  | [d] => { results := [.lit (.bool true)], args := [d] }
  | _ => none }
def stackFormsRow : OpenClaim := { program := "ytbhlfbkheijojaa", sum := "661636b7618c9660e17978d16c3892f4fa2b60c69ce0ceca2b5e2131fa88dae4", func := "drayman/draymanlaw14.StackForms", spec := "stackForms", inPlace := ["maps.clone"], unfollowed := true, recurses := true, plainKeys := false, apart := false }
def StackFormsSaid : Prop := stackFormsRow.holds Try.pinned (OpenSpec.ofChange stackFormsSpec)

/-- ITS FALSE NEIGHBOUR: 'it returns false'. Refute it at one input. -/
def stackFormsWrong : ChangeSpec := { name := "stackForms", fn := fun _ => fun
  | [d] => { results := [.lit (.bool false)], args := [d] }
  | _ => none }
def StackFormsWrongFalsely : Prop := stackFormsRow.holds Try.pinned (OpenSpec.ofChange stackFormsWrong)

/- THE SECOND FORM. 'bulk': how many values and letters a reading holds, each counted each time it is reached (what is shared counts as often as it is met; a slice's spare places count too). A statement '..UptoSaid' is the law's where the arguments, and the package variables that the reading takes, are together of bulk at most 1048576: NARROWER than '..Said'. Prove '..Said' where nothing that the law and all that it calls make is longer than what came in: it says more and counts as full. Else prove '..UptoSaid'. A law counts once. -/
mutual
def uptoBulk {H : Type} : DataW H → Nat
  | .lit (.string bytes) => bytes.length + 1
  | .lit _ => 1
  | .nil => 1
  | .ptr d => uptoBulk d + 1
  | .slice elems spare => uptoBulkAll elems + uptoBulkAll spare + 1
  | .agg parts => uptoBulkAll parts + 1
  | .iface _ d => uptoBulk d + 1
  | .map entries => uptoBulkEntries entries + 1
  | .held _ => 1
def uptoBulkAll {H : Type} : List (DataW H) → Nat
  | [] => 0
  | d :: r => uptoBulk d + uptoBulkAll r
def uptoBulkEntries {H : Type} : List (Lit × DataW H) → Nat
  | [] => 0
  | x :: r => uptoBulkEntry x + uptoBulkEntries r
def uptoBulkEntry {H : Type} : Lit × DataW H → Nat
  | (.string bytes, d) => bytes.length + uptoBulk d + 1
  | (_, d) => uptoBulk d + 1
 end
def uptoSmall : (H : Type) → List (DataW H) → Bool := fun _ ds => decide (uptoBulkAll ds ≤ 1048576)
def OpenSpec.upto (s : _root_.Go.ChangeSpec) : _root_.Go.OpenSpec := { _root_.Go.OpenSpec.ofChange s with cond := some uptoSmall }

/-- 'draymanlaw08.PlanForms', WHERE WHAT IT READS IS OF BULK AT MOST 1048576: true; the input reads as it did. -/
def planFormsUptoRow : OpenClaim := { program := "ytbhlfbkheijojaa", sum := "661636b7618c9660e17978d16c3892f4fa2b60c69ce0ceca2b5e2131fa88dae4", func := "drayman/draymanlaw08.PlanForms", spec := "planForms", unfollowed := true, recurses := true, plainKeys := false, apart := false, narrowed := true }
def PlanFormsUptoSaid : Prop := planFormsUptoRow.holds Try.pinned (OpenSpec.upto planFormsSpec)

/-- 'draymanlaw14.StackTouched', WHERE WHAT IT READS IS OF BULK AT MOST 1048576: true; the input reads as it did. -/
def stackTouchedUptoRow : OpenClaim := { program := "ytbhlfbkheijojaa", sum := "661636b7618c9660e17978d16c3892f4fa2b60c69ce0ceca2b5e2131fa88dae4", func := "drayman/draymanlaw14.StackTouched", spec := "stackTouched", inPlace := ["maps.clone"], unfollowed := true, recurses := true, plainKeys := false, apart := false, narrowed := true }
def StackTouchedUptoSaid : Prop := stackTouchedUptoRow.holds Try.pinned (OpenSpec.upto stackTouchedSpec)

/-- 'draymanlaw14.StackForms', WHERE WHAT IT READS IS OF BULK AT MOST 1048576: true; the input reads as it did. -/
def stackFormsUptoRow : OpenClaim := { program := "ytbhlfbkheijojaa", sum := "661636b7618c9660e17978d16c3892f4fa2b60c69ce0ceca2b5e2131fa88dae4", func := "drayman/draymanlaw14.StackForms", spec := "stackForms", inPlace := ["maps.clone"], unfollowed := true, recurses := true, plainKeys := false, apart := false, narrowed := true }
def StackFormsUptoSaid : Prop := stackFormsUptoRow.holds Try.pinned (OpenSpec.upto stackFormsSpec)

end Rows
end Go.Proofs.Ytbhlfbkheijojaa
