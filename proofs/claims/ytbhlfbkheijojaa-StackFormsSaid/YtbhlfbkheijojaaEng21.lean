/-
  A region whose order is drawn, and all code.
  Conditions: none.
-/
import Derived.Test.YtbhlfbkheijojaaEng20
import Derived.Scope
import Derived.Deep.LoopGhost
namespace Go.Dm

section
variable {P : Program} {ρ0 : Inj} {F0 : Fz} {W : World} {Γ : Pures} {ops : Array Oper}

theorem any_sound (T : Fit Γ ops) {K : St → Prop} (hK : ∀ st, K st → apartAll Γ ops st.tmps = true) {Q : Exit → Act → World → Prop} (hk : ∀ ρ F a w st, Sim ρ0 F0 W ρ F a w st → K st → Q .normal a w) :
    ∀ (fuel : Nat) (listed : Array Bool) (l : List Nat) (ρ : Inj) (F : Fz) (a : Act) (w : World) (st : St), Sim ρ0 F0 W ρ F a w st → listed.size = ops.size →
      Closed ops (fun i => listed.getD i false) → l = (List.range ops.size).filter (fun i => !listed.getD i true) → l.length ≤ fuel → nest P Γ ops l K st →
      wpAny P .any ops Q fuel listed a w := by
  intro fuel
  induction fuel with
  | zero =>
    intro listed l ρ F a w st hs hsz hc hl hlen h
    have hnil : l = [] := List.eq_nil_of_length_eq_zero (by omega)
    subst hnil
    refine ⟨?_, hk _ _ _ _ _ hs h⟩
    refine List.filter_eq_nil_iff.2 fun i hi => ?_
    have := List.filter_eq_nil_iff.1 hl.symm i hi
    simp at this
    simp [this]
  | succ fuel ih =>
    intro listed l ρ F a w st hs hsz hc hl hlen h
    have gd : ∀ i, i < ops.size → listed.getD i true = listed.getD i false := fun i hi => by
      have : i < listed.size := by omega
      simp [Array.getD, this]
    have hpw : l.Pairwise (· < ·) := by rw [hl]; exact List.Pairwise.filter _ List.pairwise_lt_range
    have hmem : ∀ m, m ∈ l ↔ m < ops.size ∧ listed.getD m false = false := fun m => by
      rw [hl, List.mem_filter, List.mem_range]
      constructor
      · rintro ⟨h1, h2⟩; exact ⟨h1, by rw [← gd m h1]; simpa using h2⟩
      · rintro ⟨h1, h2⟩; exact ⟨h1, by rw [gd m h1]; simp [h2]⟩
    refine ⟨fun hr => ?_, fun i hi => ?_⟩
    · -- nothing is ready: all are listed
      have hnil : l = [] := by
        cases hll : l with
        | nil => rfl
        | cons i r =>
          exfalso
          have him := (hmem i).1 (by rw [hll]; simp)
          have hin : i ∈ Region.ready .any ops listed := by
            unfold Region.ready
            refine List.mem_filter.2 ⟨List.mem_range.2 him.1, ?_⟩
            have hiu := him.2
            have his := him.1
            rw [← gd i his] at hiu
            rw [Array.getElem?_eq_getElem his]
            simp only [hiu, Bool.not_false, Option.map_some, Option.getD_some, Bool.true_and]
            rw [← Array.all_toList, List.all_eq_true]
            intro e he
            cases hb : Region.binds .any e with
            | false => rfl
            | true =>
              have hlt := T.low i _ (Array.getElem?_eq_getElem him.1) e he hb
              cases hq : listed.getD e.on false with
              | true => rfl
              | false =>
                have : e.on ∈ l := (hmem e.on).2 ⟨by omega, hq⟩
                rw [hll] at this hpw
                rcases List.mem_cons.1 this with e1 | e1
                · omega
                · have := (List.pairwise_cons.1 hpw).1 _ e1; omega
          rw [hr] at hin
          simp at hin
      subst hnil
      exact hk _ _ _ _ _ hs h
    · unfold Region.ready at hi
      obtain ⟨hi1, hi2⟩ := List.mem_filter.1 hi
      have hisz := List.mem_range.1 hi1
      rw [Array.getElem?_eq_getElem hisz] at hi2
      simp only [Option.map_some, Option.getD_some, Bool.and_eq_true, Bool.not_eq_true'] at hi2
      have hiu : listed.getD i false = false := by rw [← gd i hisz]; exact hi2.1
      have hpre : ∀ e ∈ ops[i].after.toList, Region.binds .any e = true → listed.getD e.on false = true := fun e he hb => by
        have := hi2.2
        rw [← Array.all_toList, List.all_eq_true] at this
        have := this e he
        simpa [hb] using this
      have hil : i ∈ l := (hmem i).2 ⟨hisz, hiu⟩
      obtain ⟨l1, l2, hsplit⟩ := List.append_of_mem hil
      have hanc : ∀ m ∈ l, ((ancs ops).getD i 0).testBit m = false := fun m hm => by
        cases hb : ((ancs ops).getD i 0).testBit m with
        | false => rfl
        | true =>
          have := anc_listed T hc i _ (Array.getElem?_eq_getElem hisz) hpre m hb
          have := ((hmem m).1 hm).2
          simp_all
      rw [hsplit] at h hanc hpw
      have hb := bring T hK (Array.getElem?_eq_getElem hisz) l2 l1 hpw hanc st h
      unfold nest at hb
      rw [Array.getElem?_eq_getElem hisz] at hb
      simp only at hb
      refine opN_sound hs (Array.getElem?_eq_getElem hisz) hb fun ρ' F' a' w' st' hs' hn => ?_
      have hne : (l1 ++ i :: l2).filter (fun x => x != i) = l1 ++ l2 := by
        rw [List.pairwise_append] at hpw
        obtain ⟨p1, p2, p3⟩ := hpw
        rw [List.pairwise_cons] at p2
        rw [List.filter_append, List.filter_cons]
        simp only [bne_self_eq_false, Bool.false_eq_true, if_false]
        rw [List.filter_eq_self.2, List.filter_eq_self.2]
        · intro x hx; have := p2.1 x hx; simp; omega
        · intro x hx; have := p3 x hx i (by simp); simp; omega
      have hset : ∀ x d, (listed.setIfInBounds i true).getD x d = if x = i then true else listed.getD x d := fun x d => by
        rw [Array.getD_eq_getD_getElem?, Array.getD_eq_getD_getElem?, Array.getElem?_setIfInBounds]
        by_cases hx : x = i
        · subst hx
          have : x < listed.size := by omega
          simp [this]
        · have hx' : i ≠ x := fun e => hx e.symm
          simp [hx, hx']
      refine ih (listed.setIfInBounds i true) (l1 ++ l2) ρ' F' a' w' st' hs' (by simp [hsz]) ?_ ?_ ?_ hn
      · intro x o hx hxl e he hbb
        simp only [hset] at hxl ⊢
        by_cases hxi : x = i
        · subst hxi
          rw [Array.getElem?_eq_getElem hisz] at hx
          cases hx
          split
          · rfl
          · exact hpre e he hbb
        · simp only [hxi, if_false] at hxl
          split
          · rfl
          · exact hc x o hx hxl e he hbb
      · rw [← hne, ← hsplit, hl, List.filter_filter]
        refine List.filter_congr fun x hx => ?_
        rw [hset]
        by_cases hxi : x = i <;> simp [hxi]
      · rw [hsplit] at hlen; simp at hlen ⊢; omega

theorem draw_sound (hm : P.follows .mixedOrders = true) (hd : drawOK Γ ops = true) {K : St → Prop} {Q : Exit → Act → World → Prop} (hk : ∀ ρ F a w st, Sim ρ0 F0 W ρ F a w st → K st → Q .normal a w)
    {id : Nat} {ρ : Inj} {F : Fz} {a : Act} {w : World} {st : St} (hs : Sim ρ0 F0 W ρ F a w st) (h : nest P Γ ops (List.range ops.size) (fun st => apartAll Γ ops st.tmps = true ∧ K st) st) :
    (Code.region id ops true).wp P Q a w := by
  refine wp_region_any hm ?_
  have hz := Stp.drew hs.stp.heap
  have hs' : Sim ρ0 F0 W ρ F a { w with drawn := w.drawn + 1 } st := ⟨hs.defers, hs.tmps.step hz, hs.stp.trans hz⟩
  refine any_sound (drawOK_fit hd) (K := fun st => apartAll Γ ops st.tmps = true ∧ K st) (fun st h => h.1) (fun ρ F a w st s h => hk ρ F a w st s h.2) ops.size _ (List.range ops.size) ρ F a _ st hs' (by simp) ?_ ?_ (by simp) h
  · intro i o hi hl
    simp [Array.getD] at hl
  · symm
    refine List.filter_eq_self.2 fun i hi => ?_
    have := List.mem_range.1 hi
    simp [Array.getD, this]

end

end Go.Dm
