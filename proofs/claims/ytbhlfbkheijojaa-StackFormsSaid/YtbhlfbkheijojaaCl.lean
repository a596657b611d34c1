/-
  What 'maps.Clone' comes to: of the nil map nil; of a map of one's own a new one with the same entries.
  Conditions: none.
-/
import Derived.Test.YtbhlfbkheijojaaProg
import Derived.Test.YtbhlfbkheijojaaEv10
import Derived.Shelf.Lay
import Derived.Shelf.SlMaps.Clone
namespace Go.Proofs
open Go.Shelf
shelf_lay_g SlLaysW.n5 Slmc 5 at Try 96 as Try.cloneV
end Go.Proofs
namespace Go.Dm
open Go.Proofs Go.Shelf

theorem clone_nil (σ : Heap) : FSpec Try.prog 96 [.t .nilmap] σ fun r σ' => r = .t .nilmap ∧ σ' = σ := by
  intro ρ F w vs hv hh
  have hcon := AnyW.maps_Clone_nil Try.cloneV w
  have hvs : vs = #[.map none] := by
    have h1 : vs.size = 1 := hv.1
    have := hv.2 0 _ _ (Array.getElem?_eq_getElem (by omega)) rfl
    generalize hx : vs[0] = x at this
    cases this with
    | t h =>
      cases h
      apply Array.ext (by simpa using h1)
      intro i hi1 hi2
      have : i = 0 := by omega
      subst this
      simpa using hx
  subst hvs
  refine hcon.mono fun e w' ⟨he, hw⟩ => ?_
  subst hw
  exact ⟨_, he, _, _, ρ, F, ⟨rfl, rfl⟩, .t .nilmap, Stp.refl hh⟩

theorem clone_own {σ : Heap} {k d kd c : Nat} {es : Ents} (hk : σ k = some (.mapl kd es c)) (hd : σ d = none) :
    FSpec Try.prog 96 [.mapr k] σ fun r σ' => r = .mapr d ∧ σ' = upd σ d (.mapl kd es c) := by
  intro ρ F w vs hv hh
  have hB := hh.blk k _ hk
  cases hB with
  | mapl h hb hs ha hkk hn hf =>
    rename_i b base sz ct arr
    have hvs : vs = #[.map (some b)] := by
      have h1 : vs.size = 1 := hv.1
      have := hv.2 0 _ _ (Array.getElem?_eq_getElem (by omega)) rfl
      generalize hx : vs[0] = x at this
      have hx2 : x = .map (some b) := by
        cases this with
        | mapr h' => rw [h] at h'; cases h'; rfl
        | maprDead r h' => rw [h] at h'; cases h'
      apply Array.ext (by simpa using h1)
      intro i hi1 hi2
      have : i = 0 := by omega
      subst this
      simpa [hx2] using hx
    subst hvs
    refine (AnyW.maps_Clone Try.cloneV b arr c w hb).mono fun e w' ⟨he, hw⟩ => ?_
    subst hw
    have hst := Stp.new hh hd (.map arr c) (.mapl kd es c) 0 0 fun hke => by
      refine .mapl (setI_same _ _ _) (heap_alloc_new w _) hs (fun i x hx => ?_) hkk hn fun ho => ?_
      · obtain ⟨v, h1, h2⟩ := ha i x hx
        exact ⟨v, h1, h2.keep hke F.le_refl (le_setI (hh.fresh hd))⟩
      · obtain ⟨es, cl, hc'⟩ := hh.fzo _ ho
        rw [Array.getElem?_eq_none (Nat.le_refl _)] at hc'; cases hc'
    exact ⟨_, he, _, _, _, F, ⟨rfl, rfl⟩, .mapr (setI_same _ _ _), hst⟩
end Go.Dm
