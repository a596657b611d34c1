/-
  The run of 'StackForms' comes to true.
  Conditions: none.
-/
import Derived.Test.YtbhlfbkheijojaaSpP
namespace Go.Dm
open Go.Proofs

noncomputable def XstackForms : Ctx := ⟨Try.prog, 0, 999, specC 1000, fun f => Nat.beq f 55⟩
set_option maxRecDepth 100000 in
theorem stackForms_run : isTrue (sTop XstackForms 1000000 5 [.opq]) = true := by kernel_rfl

end Go.Dm
