/-
  'StackForms' answers true whatever its input, which reads as before.
  Conditions: none.
-/
import Derived.Test.YtbhlfbkheijojaaRows
import Derived.Test.YtbhlfbkheijojaaSFr
namespace Go.Dm
open Go.Proofs

theorem stackForms_spec (q : Int) (hq : In64 q) : FSpec Try.prog 5 [.t (.int .i64 q)] emp fun r _ => r = .t (.bool true) :=
  have h := within_range q (m := 1000) (by omega)
  true_of_run (X := XstackForms) (E := ⟨within q 1000, q⟩) h.1 h.2 mixed (specC_ok rfl rfl q (by unfold In64; omega) hq) stackForms_run
end Go.Dm
namespace Go.Proofs.Ytbhlfbkheijojaa
open Go.ChangeShapes Go.WideShapes Go.ChangeAt Go.RowKit

theorem Try.own : ownKnob Try.prog.godebug = none := by kernel_rfl

set_option maxRecDepth 100000 in
theorem stackForms_lifted (os : Os) (started : os.Started) (H : Type) (enc : TypeId × Value → H) :
    ReturnsInHanded {} Try.checked os 5 .any (Rows.stackFormsSpec.pre6 enc Try.prog Try.f5 Rows.stackFormsRow.domain false) (Rows.stackFormsSpec.post enc Try.prog Try.f5 false true false false) := by
  refine returnsInHanded_of_change (C := Try.checked) Try.own started (by kernel_rfl) Try.func5
    (ChangeSpec.witness6 (enc := enc) (C := Try.checked) false ⟨#[], #[.int .i64 0], []⟩ 8 (by kernel_rfl) (by kernel_rfl) (by kernel_rfl) (by kernel_rfl)) ?_
  intro W base args ds gs before hval0 hW hcnd _
  have hval : ∀ (j : Nat) t v, Try.f5.params[j]? = some t → args[j]? = some v → Value.okWide Try.prog W .any base t v := hval0
  have hW' := hW
  obtain ⟨p, q, hA0, hV, rfl, hfz, hnd⟩ := hW
  have hA : DataW.TrodAll enc Try.prog W 0 (fun _ => true) true Try.f5.params.toList args.toList ds p := hA0
  rw [Try.params5] at hA hval
  obtain ⟨v0, d0, rfl, rfl, h0⟩ := trodAll_one hA
  obtain ⟨rfl, rfl⟩ := trodVars_none hV
  obtain ⟨a, rfl, rfl, rfl, wa⟩ := open_int Try.underlying3 (hval 0 3 v0 rfl rfl) h0
  clear hA0 hval0
  simp only [List.append_nil] at hW'
  refine (Go.Dm.calls_of_spec (Go.Dm.stackForms_spec a (Go.Dm.in64_of wa)) W (Go.Dm.vals_int a W)).mono fun e W' ⟨he, hk⟩ => ?_
  subst he
  exact ⟨_, rfl, Go.Dm.post_of_grown hW' (fun _ _ _ => trodAll_mk1 (shut_bool Try.underlying4 _)) (fun sp => trodAll_mk1 (shut_int Try.underlying3 wa)) (fun _ => rfl) hk
    (ok_one (by kernel_rfl) rfl (okWide_bool_mk Try.underlying4 _))⟩

theorem stackForms_holds : Rows.StackFormsSaid :=
  OpenClaim.holds_of_wide 5 Try.f5 rfl rfl rfl rfl rfl rfl rfl ⟨rfl, rfl, rfl, rfl, rfl⟩ rfl rfl rfl rfl rfl (by kernel_rfl) Try.func5 (by kernel_rfl)
    (of_decide_eq_true (by kernel_rfl)) (by unfold Func.isWrapper; first | (rw [if_pos (by decide +kernel)]; kernel_rfl) | (rw [if_neg (by decide +kernel)]; exact ⟨rfl, rfl⟩))
    (fun os started H enc _ => stackForms_lifted os started H enc)
#print axioms stackForms_holds
end Go.Proofs.Ytbhlfbkheijojaa
