/-
  A law that leaves the world as it stood, but for what is new: how its row is shut. What a call out of an empty memory leaves.
  Conditions: none.
-/
import Derived.Test.YtbhlfbkheijojaaEv10
import Derived.ProofKit
namespace Go.Dm
open Go.ChangeShapes

section
variable {H : Type} {enc : TypeId × Value → H} {P : Program}

/-- no place is read: nothing that stood has turned -/
theorem post_of_grown {f : Func} {s : ChangeSpec} {apart fresh handsOn again : Bool} {W W' : World} {args : Array Value} {v : Value} {ds gs : List (DataW H)}
    (hW : DataW.Whole enc P f.params.toList s.vars apart W args.toList ds gs [])
    (hres : ∀ (b : Nat) (sp : Nat → Bool) (hd : Bool), DataW.TrodAll enc P W' b sp hd f.resultTypes.toList (v.resultList f.resultTypes.size) (s.fn H (ds ++ gs)).results [])
    (hargs : ∀ sp : Nat → Bool, DataW.TrodAll enc P W' 0 sp true f.params.toList args.toList (s.fn H (ds ++ gs)).args [])
    (hvars : ∀ sp : Nat → Bool, DataW.TrodVars enc P W' sp s.vars (s.fn H (ds ++ gs)).vars [])
    (hk : W.keptBut W' (fun _ => False))
    (hok : ∀ (j : Nat) (t : TypeId) (r : Value), f.resultTypes[j]? = some t → (v.resultList f.resultTypes.size)[j]? = some r → Value.okWide P W' .any 0 t r) :
    s.post enc P f apart fresh handsOn again W args v W' := by
  refine ⟨ds, gs, [], [], [], [], hW, hres _ _ _, hargs _, hvars _, World.keptBut_mono (fun p hp => hp.elim) hk, fun _ => ?_⟩
  refine ⟨hok, _, _, [], ⟨[], [], trodAll_append (hargs _) (hres _ _ _), hvars _, rfl, ?_, ?_⟩, ?_⟩
  · intro b off hp; cases hp
  · intro _; exact List.nodup_nil
  · intro p hp; cases hp

/-- nothing frozen -/
def noF : Fz := ⟨fun _ _ => False, fun _ => False⟩
theorem HR.none (w : World) : HR noI noF w emp :=
  ⟨fun _ => ⟨fun _ => rfl, fun _ => rfl⟩, fun k b hb => by simp [emp] at hb, fun k k' p p' b hk => by simp [noI] at hk, fun _ _ h => h.elim, fun _ h => h.elim⟩

theorem keptBut_same {W w : World} (h1 : w.os = W.os) (h2 : w.output = W.output) (h : ∀ b, b < W.heap.size → w.heap[b]? = W.heap[b]?) : W.keptBut w (fun _ => False) := by
  refine ⟨h1, h2, fun i hi => ?_⟩
  rw [h i hi]
  split
  · rename_i h3 h4
    rw [h3] at h4; cases h4
    exact ⟨rfl, rfl, rfl, fun _ _ => rfl⟩
  · rename_i h3 h4
    rw [h3] at h4; cases h4
    exact .inr ⟨rfl, rfl⟩
  · rfl

/-- WHAT A CALL OUT OF AN EMPTY MEMORY LEAVES -/
theorem calls_of_spec {f : FuncId} {args : List AV} {b : Bool} (h : FSpec P f args emp fun r _ => r = .t (.bool b)) (w : World) {vs : Array Value} (hv : ValsAR noI noF w vs args) :
    Calls P f vs w fun e w' => e = .returned (.bool b) ∧ w.keptBut w' (fun _ => False) := by
  refine (h noI noF w vs hv (HR.none w)).mono fun e w' hq => ?_
  obtain ⟨v, rfl, r, σ', ρ', F', rfl, har, hs⟩ := hq
  cases har with
  | t hr =>
    cases hr
    have f := hs.fr w noF (fun _ => False) ⟨rfl, rfl, rfl, Nat.le_refl _, fun _ _ _ => rfl, Keep.refl _ _, noF.le_refl, fun b o h => .inl h, fun r h => .inl h, fun k p b hk => by simp [noI] at hk⟩
    exact ⟨rfl, keptBut_same f.os f.output fun b hb => f.same b hb id⟩

theorem vals_int (n : Int) (w : World) : ValsAR noI noF w #[.int .i64 n] [.t (.int .i64 n)] := by
  refine ⟨rfl, fun i v a hv ha => ?_⟩
  match i with
  | 0 => cases hv; cases ha; exact .t (.int _ _)
  | i + 1 => cases ha
end
end Go.Dm
