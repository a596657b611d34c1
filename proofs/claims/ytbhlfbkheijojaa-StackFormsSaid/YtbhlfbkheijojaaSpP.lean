/-
  What is given of 'Within' and of 'maps.Clone' is so.
  Conditions: none.
-/
import Derived.Test.YtbhlfbkheijojaaW1
import Derived.Test.YtbhlfbkheijojaaCl
import Derived.Test.YtbhlfbkheijojaaEv11
namespace Go.Dm
open Go.Proofs

noncomputable def specC (m : Int) : Nat → List SV → TH → Nat → Option (SV × SUps) := fun f args h d =>
  match f with
  | 10 => (match args with | [.opq, .int .i64 k] => if k = m then some (.lin 0 1, []) else none | _ => none)
  | 96 => (match args with | [.nilmap] => some (.nilmap, []) | [.mapr k] => (match h.get k, h.get d with | some (.mapl kd es c), none => some (.mapr d, [(d, .mapl kd es c)]) | _, _ => none) | _ => none)
  | _ => none

theorem within_range (q : Int) {m : Int} (h : 0 < m) : 0 ≤ within q m ∧ within q m ≤ m - 1 := by
  unfold within
  rw [if_neg (by omega)]
  have h2 := Int.emod_lt_of_pos q h
  have h3 := Int.emod_nonneg q (show m ≠ 0 by omega)
  omega

theorem specC_ok {X : Ctx} {m : Int} (hX : X.P = Try.prog) (hs : X.spec = specC m) (q : Int) (hm : In64 m) (hq : In64 q) : SpecOk X ⟨within q m, q⟩ := by
  intro f args h d x hx hok
  rw [hs] at hx
  rw [hX]
  unfold specC at hx
  split at hx
  · split at hx
    · split at hx
      · rename_i e
        cases e
        cases hx
        have := within_spec hq hm
        refine ⟨this.1, fun ρ F w vs hv hh => (this.2.1 _ ρ F w vs hv hh).mono fun e w' ⟨v, he, r, σ', ρ', F', ⟨⟨y, _, hr⟩, hσ⟩, ha, hst⟩ => ?_⟩
        refine ⟨v, he, r, σ', ρ', F', ⟨?_, ?_⟩, ha, hst⟩
        · rw [hr]
          show AV.t (.int .i64 _) = AV.t (.int .i64 _)
          congr 2
          show within q m = 0 + 1 * within q m
          omega
        · exact hσ
      · cases hx
    · cases hx
  · split at hx
    · cases hx
      exact ⟨by kernel_rfl, clone_nil _⟩
    · split at hx
      · rename_i k kd es c hk hd
        cases hx
        exact ⟨by kernel_rfl, clone_own (denH_some hk) (denH_none hd)⟩
      · cases hx
    · cases hx
  · cases hx
theorem in64_of {a : Int} (wa : (Lit.int .i64 a).wf = true) : In64 a := by
  have hb := wa
  simp only [Lit.wf, Bool.and_eq_true, decide_eq_true_eq] at hb
  rw [show IntKind.i64.min = -9223372036854775808 from by decide, show IntKind.i64.max = 9223372036854775807 from by decide] at hb
  exact hb
end Go.Dm
