/-
  'PlanForms' and its row.
  Conditions: none.
-/
import Derived.Test.YtbhlfbkheijojaaRows
import Derived.Test.YtbhlfbkheijojaaEv11
import Derived.Test.YtbhlfbkheijojaaW1
namespace Go.Dm
open Go.Proofs

noncomputable def specW (m : Int) : Nat → List SV → TH → Nat → Option (SV × SUps) := fun f args _ _ =>
  match f with
  | 10 => (match args with | [.opq, .int .i64 k] => if k = m then some (.lin 0 1, []) else none | _ => none)
  | _ => none
noncomputable def XW : Ctx := ⟨Try.prog, 0, 999, specW 1000⟩
set_option maxRecDepth 100000 in
theorem planForms_run : isTrue (sTop XW 1000000 3 [.opq]) = true := by kernel_rfl

theorem specW_ok {X : Ctx} {m : Int} (hX : X.P = Try.prog) (hs : X.spec = specW m) (q : Int) (hm : In64 m) (hq : In64 q) : SpecOk X ⟨within q m, q⟩ := by
  intro f args h d x hx _
  rw [hs] at hx
  unfold specW at hx
  split at hx
  · split at hx
    · split at hx
      · rename_i e
        cases e
        cases hx
        have := within_spec hq hm
        rw [← hX] at this
        refine ⟨this.1, fun ρ F w vs hv hh => (this.2.1 _ ρ F w vs hv hh).mono fun e w' ⟨v, he, r, σ', ρ', F', ⟨⟨y, _, hr⟩, hσ⟩, ha, hst⟩ => ?_⟩
        refine ⟨v, he, r, σ', ρ', F', ⟨?_, ?_⟩, ha, hst⟩
        · rw [hr]
          show AV.t (.int .i64 _) = AV.t (.int .i64 _)
          congr 2
          show within q m = 0 + 1 * within q m
          omega
        · exact hσ
      · cases hx
    · cases hx
  · cases hx

theorem within_range (q : Int) {m : Int} (h : 0 < m) : 0 ≤ within q m ∧ within q m ≤ m - 1 := by
  unfold within
  rw [if_neg (by omega)]
  have h2 := Int.emod_lt_of_pos q h
  have h3 := Int.emod_nonneg q (show m ≠ 0 by omega)
  omega

theorem planForms_spec (q : Int) (hq : In64 q) : FSpec Try.prog 3 [.t (.int .i64 q)] emp fun r _ => r = .t (.bool true) :=
  have h := within_range q (m := 1000) (by omega)
  true_of_run (X := XW) (E := ⟨within q 1000, q⟩) h.1 h.2 mixed (specW_ok rfl rfl q (by unfold In64; omega) hq) planForms_run
end Go.Dm
namespace Go.Proofs.Ytbhlfbkheijojaa
open Go.ChangeShapes Go.WideShapes Go.ChangeAt Go.RowKit

theorem Try.own : ownKnob Try.prog.godebug = none := by kernel_rfl

set_option maxRecDepth 100000 in
theorem planForms_lifted (os : Os) (started : os.Started) (H : Type) (enc : TypeId × Value → H) :
    ReturnsInHanded {} Try.checked os 3 .any (Rows.planFormsSpec.pre6 enc Try.prog Try.f3 Rows.planFormsRow.domain false) (Rows.planFormsSpec.post enc Try.prog Try.f3 false true false false) := by
  refine returnsInHanded_of_change (C := Try.checked) Try.own started (by kernel_rfl) Try.func3
    (ChangeSpec.witness6 (enc := enc) (C := Try.checked) false ⟨#[], #[.int .i64 0], []⟩ 8 (by kernel_rfl) (by kernel_rfl) (by kernel_rfl) (by kernel_rfl)) ?_
  intro W base args ds gs before hval0 hW hcnd _
  have hval : ∀ (j : Nat) t v, Try.f3.params[j]? = some t → args[j]? = some v → Value.okWide Try.prog W .any base t v := hval0
  have hW' := hW
  obtain ⟨p, q, hA0, hV, rfl, hfz, hnd⟩ := hW
  have hA : DataW.TrodAll enc Try.prog W 0 (fun _ => true) true Try.f3.params.toList args.toList ds p := hA0
  rw [Try.params3] at hA hval
  obtain ⟨v0, d0, rfl, rfl, h0⟩ := trodAll_one hA
  obtain ⟨rfl, rfl⟩ := trodVars_none hV
  obtain ⟨a, rfl, rfl, rfl, wa⟩ := open_int Try.underlying3 (hval 0 3 v0 rfl rfl) h0
  clear hA0 hval0
  simp only [List.append_nil] at hW'
  have hIn : Go.Dm.In64 a := by
    have hb := wa
    simp only [Lit.wf, Bool.and_eq_true, decide_eq_true_eq] at hb
    rw [show IntKind.i64.min = -9223372036854775808 from by decide, show IntKind.i64.max = 9223372036854775807 from by decide] at hb
    exact hb
  refine (Go.Dm.calls_of_spec (Go.Dm.planForms_spec a hIn) W (Go.Dm.vals_int a W)).mono fun e W' ⟨he, hk⟩ => ?_
  subst he
  exact ⟨_, rfl, Go.Dm.post_of_grown hW' (fun _ _ _ => trodAll_mk1 (shut_bool Try.underlying4 _)) (fun sp => trodAll_mk1 (shut_int Try.underlying3 wa)) (fun _ => rfl) hk
    (ok_one (by kernel_rfl) rfl (okWide_bool_mk Try.underlying4 _))⟩

theorem planForms_holds : Rows.PlanFormsSaid :=
  OpenClaim.holds_of_wide 3 Try.f3 rfl rfl rfl rfl rfl rfl rfl ⟨rfl, rfl, rfl, rfl, rfl⟩ rfl rfl rfl rfl rfl (by kernel_rfl) Try.func3 (by kernel_rfl)
    (of_decide_eq_true (by kernel_rfl)) (by unfold Func.isWrapper; first | (rw [if_pos (by decide +kernel)]; kernel_rfl) | (rw [if_neg (by decide +kernel)]; exact ⟨rfl, rfl⟩))
    (fun os started H enc _ => planForms_lifted os started H enc)
#print axioms planForms_holds
end Go.Proofs.Ytbhlfbkheijojaa
