/-
  'StackTouched' answers true whatever its input, which reads as before.
  Conditions: none.
-/
import Derived.Test.YtbhlfbkheijojaaRows
import Derived.Test.YtbhlfbkheijojaaSpP
namespace Go.Dm
open Go.Proofs

noncomputable def XstackTouched : Ctx := ⟨Try.prog, 0, 49, specC 50, fun _ => false⟩
set_option maxRecDepth 100000 in
theorem stackTouched_run : isTrue (sTop XstackTouched 1000000 4 [.opq]) = true := by kernel_rfl

theorem stackTouched_spec (q : Int) (hq : In64 q) : FSpec Try.prog 4 [.t (.int .i64 q)] emp fun r _ => r = .t (.bool true) :=
  have h := within_range q (m := 50) (by omega)
  true_of_run (X := XstackTouched) (E := ⟨within q 50, q⟩) h.1 h.2 mixed (specC_ok rfl rfl q (by unfold In64; omega) hq) stackTouched_run
end Go.Dm
namespace Go.Proofs.Ytbhlfbkheijojaa
open Go.ChangeShapes Go.WideShapes Go.ChangeAt Go.RowKit

theorem Try.own : ownKnob Try.prog.godebug = none := by kernel_rfl

set_option maxRecDepth 100000 in
theorem stackTouched_lifted (os : Os) (started : os.Started) (H : Type) (enc : TypeId × Value → H) :
    ReturnsInHanded {} Try.checked os 4 .any (Rows.stackTouchedSpec.pre6 enc Try.prog Try.f4 Rows.stackTouchedRow.domain false) (Rows.stackTouchedSpec.post enc Try.prog Try.f4 false true false false) := by
  refine returnsInHanded_of_change (C := Try.checked) Try.own started (by kernel_rfl) Try.func4
    (ChangeSpec.witness6 (enc := enc) (C := Try.checked) false ⟨#[], #[.int .i64 0], []⟩ 8 (by kernel_rfl) (by kernel_rfl) (by kernel_rfl) (by kernel_rfl)) ?_
  intro W base args ds gs before hval0 hW hcnd _
  have hval : ∀ (j : Nat) t v, Try.f4.params[j]? = some t → args[j]? = some v → Value.okWide Try.prog W .any base t v := hval0
  have hW' := hW
  obtain ⟨p, q, hA0, hV, rfl, hfz, hnd⟩ := hW
  have hA : DataW.TrodAll enc Try.prog W 0 (fun _ => true) true Try.f4.params.toList args.toList ds p := hA0
  rw [Try.params4] at hA hval
  obtain ⟨v0, d0, rfl, rfl, h0⟩ := trodAll_one hA
  obtain ⟨rfl, rfl⟩ := trodVars_none hV
  obtain ⟨a, rfl, rfl, rfl, wa⟩ := open_int Try.underlying3 (hval 0 3 v0 rfl rfl) h0
  clear hA0 hval0
  simp only [List.append_nil] at hW'
  refine (Go.Dm.calls_of_spec (Go.Dm.stackTouched_spec a (Go.Dm.in64_of wa)) W (Go.Dm.vals_int a W)).mono fun e W' ⟨he, hk⟩ => ?_
  subst he
  exact ⟨_, rfl, Go.Dm.post_of_grown hW' (fun _ _ _ => trodAll_mk1 (shut_bool Try.underlying4 _)) (fun sp => trodAll_mk1 (shut_int Try.underlying3 wa)) (fun _ => rfl) hk
    (ok_one (by kernel_rfl) rfl (okWide_bool_mk Try.underlying4 _))⟩

theorem stackTouched_holds : Rows.StackTouchedSaid :=
  OpenClaim.holds_of_wide 4 Try.f4 rfl rfl rfl rfl rfl rfl rfl ⟨rfl, rfl, rfl, rfl, rfl⟩ rfl rfl rfl rfl rfl (by kernel_rfl) Try.func4 (by kernel_rfl)
    (of_decide_eq_true (by kernel_rfl)) (by unfold Func.isWrapper; first | (rw [if_pos (by decide +kernel)]; kernel_rfl) | (rw [if_neg (by decide +kernel)]; exact ⟨rfl, rfl⟩))
    (fun os started H enc _ => stackTouched_lifted os started H enc)
#print axioms stackTouched_holds
end Go.Proofs.Ytbhlfbkheijojaa
