/-
  A call that is handed some of the caller's blocks: its contract is about these alone, under keys of its own.
  Conditions: none.
-/
import Derived.Test.YtbhlfbkheijojaaEng27
namespace Go.Dm

theorem ren_leaf {l : List (Nat × Nat)} {ρ ρ' : Inj} {F : Fz} {w : World} (hfb : ∀ k k', fwd l k = some k' → ρ' k' = ρ k) : ∀ v a, isLeaf a = true → AR ρ F w v a → AR ρ' F w v (renLeaf (fwd l) a) := fun v a hl h => by
  have key : ∀ {k : Nat} {x : Nat → AV}, (∀ k', ρ' k' = ρ k → AR ρ' F w v (x k')) → AR ρ' F w v (match fwd l k with | some k' => x k' | none => .any) := fun {k x} hx => by
    cases hk : fwd l k with
    | some k' => exact hx k' (hfb _ _ hk)
    | none => exact .any _
  cases h with
  | t h => exact .t h
  | tsl h => exact .tsl h
  | any v => exact .any v
  | nils => exact .nils
  | bq b hp hq => exact .bq b hp hq
  | ptr h => exact key (x := fun k' => .ptr k' _ _) fun k' e => .ptr (e.trans h)
  | ptrDead a h => exact key (x := fun k' => .ptr k' _ _) fun k' e => .ptrDead a (e.trans h)
  | eptr vals hb hv ht => exact .eptr vals hb hv ht
  | own h hlen => exact key (x := fun k' => .own k' _ _ _) fun k' e => .own (e.trans h) hlen
  | ownVirt a h => exact key (x := fun k' => .own k' _ _ _) fun k' e => .ownVirt a (e.trans h)
  | ownZero a h hle hz => exact key (x := fun k' => .own k' _ _ _) fun k' e => .ownZero a (e.trans h) hle hz
  | ownDead a ll c h hn => exact key (x := fun k' => .own k' _ _ _) fun k' e => .ownDead a ll c (e.trans h) hn
  | mapr h => exact key (x := fun k' => .mapr k') fun k' e => .mapr (e.trans h)
  | maprDead r h => exact key (x := fun k' => .mapr k') fun k' e => .maprDead r (e.trans h)
  | it h => exact key (x := fun k' => .it k') fun k' e => .it (e.trans h)
  | itDead a h => exact key (x := fun k' => .it k') fun k' e => .itDead a (e.trans h)
  | agg => cases hl
  | tup => cases hl
  | fn => cases hl

theorem hp_append : ∀ (a b : List (Nat × Blk)) (k : Nat), hp (a ++ b) k = match hp a k with | some x => some x | none => hp b k
  | [], b, k => rfl
  | (j, x) :: r, b, k => by
    simp only [List.cons_append, hp]
    by_cases h : k = j
    · subst h; rw [upd_same, upd_same]
    · rw [upd_ne _ h, upd_ne _ h]; exact hp_append r b k

/-- what a call isn't handed -/
def restHp (ks : List Nat) (h : List (Nat × Blk)) : List (Nat × Blk) := h.filter fun p => !ks.contains p.1

theorem restHp_spec (ks : List Nat) : ∀ (h : List (Nat × Blk)) (k : Nat), hp (restHp ks h) k = if ks.contains k then none else hp h k
  | [], k => by simp [restHp, hp, emp]
  | (j, x) :: r, k => by
    have ih := restHp_spec ks r k
    unfold restHp at ih ⊢
    rw [List.filter_cons]
    by_cases hj : ks.contains j = true
    · simp only [hj, Bool.not_true, Bool.false_eq_true, if_false, ih, hp]
      by_cases hk : k = j
      · subst hk; rw [if_pos hj, if_pos hj]
      · rw [upd_ne _ hk]
    · simp only [Bool.not_eq_true] at hj
      simp only [hj, Bool.not_false, if_true, hp]
      by_cases hk : k = j
      · subst hk; rw [upd_same, upd_same, hj]; rfl
      · rw [upd_ne _ hk, upd_ne _ hk, ih]

theorem FSpec.via {P : Program} {f : FuncId} {as as1 : List AV} {h h1 : List (Nat × Blk)} {α : Type} {val : α → AV} {hl : α → List (Nat × Blk)} {post : α → Prop} (lc lb : List (Nat × Nat))
    (hspec : FSpec P f as1 (hp h1) fun r σ => ∃ x, post x ∧ r = val x ∧ σ = hp (hl x))
    (e1 : as.map (mapAV (renLeaf (fwd lc))) = as1) (e2 : renHp lc h = h1)
    (c1 : (lc.map (·.1)).Nodup) (c2 : (lc.map (·.2)).Nodup) (b1 : (lb.map (·.1)).Nodup) (b2 : (lb.map (·.2)).Nodup)
    (hcb : ∀ p ∈ lc, (p.2, p.1) ∈ lb) (hbc : ∀ p ∈ lb, (p.2, p.1) ∈ lc ∨ hp h p.2 = none) :
    FSpec P f as (hp h) fun r σ => ∃ x, post x ∧ r = mapAV (renLeaf (fwd lb)) (val x) ∧ σ = hp (renHp lb (hl x) ++ restHp (lc.map (·.1)) h) := by
  subst e1; subst e2
  intro ρ F w vs hv hh
  let ρ1 : Inj := fun j => match bwd lc j with | some k => ρ k | none => none
  have hfb : ∀ k j, fwd lc k = some j → ρ1 j = ρ k := fun k j hk => by
    show (match bwd lc j with | some k => ρ k | none => none) = ρ k
    rw [mem_bwd c2 (fwd_mem hk)]
  have hρ1 : ∀ j p, ρ1 j = some p → ∃ k, (k, j) ∈ lc ∧ ρ k = some p := fun j p hj => by
    change (match bwd lc j with | some k => ρ k | none => none) = some p at hj
    split at hj
    · rename_i k hk; exact ⟨k, bwd_mem hk, hj⟩
    · cases hj
  have hg := ren_leaf (F := F) (w := w) hfb
  have hH1 : HR ρ1 F w (hp (renHp lc h)) := by
    refine ⟨fun k => ?_, fun k b hb => ?_, fun k k' p p' b hk hk' hp1 hp2 => ?_, hh.fzc, hh.fzo⟩
    · rw [renHp_spec c1 c2]
      show _ ↔ (match bwd lc k with | some k => ρ k | none => none) = none
      cases bwd lc k with
      | none => simp
      | some j => simp only [Option.map_eq_none_iff]; exact hh.dom j
    · rw [renHp_spec c1 c2] at hb
      split at hb
      · rename_i j hj
        rw [Option.map_eq_some_iff] at hb
        obtain ⟨x, hx, rfl⟩ := hb
        refine BR.tell hg ?_ (hh.blk j x hx) (fun _ _ _ _ => ⟨fun _ h => h, fun h => h⟩)
        show (match bwd lc k with | some k => ρ k | none => none) = ρ j
        rw [hj]
      · cases hb
    · obtain ⟨j, hj, hjp⟩ := hρ1 k p hk
      obtain ⟨j', hj', hjp'⟩ := hρ1 k' p' hk'
      have := hh.inj j j' p p' b hjp hjp' hp1 hp2
      subst this
      have x1 := mem_fwd c1 hj
      have x2 := mem_fwd c1 hj'
      rw [x1] at x2; cases x2; rfl
  refine (hspec ρ1 F w vs (hv.map hg) hH1).mono fun e w' hq => ?_
  obtain ⟨v, rfl, r, σ', ρ1', F', ⟨x, hx, rfl, rfl⟩, har, s⟩ := hq
  let U : Nat → Prop := fun b => ∃ j p, ρ1 j = some p ∧ p.block = some b
  have f := s.fr w F U ⟨rfl, rfl, rfl, Nat.le_refl _, fun _ _ _ => rfl, Keep.refl _ _, F.le_refl, fun b o h => .inl h, fun r h => .inl h, fun k p b hk hb => .inl ⟨k, p, hk, hb⟩⟩
  let ρ' : Inj := fun k => match bwd lb k with | some j => ρ1' j | none => ρ k
  have hlb : ∀ j k, fwd lb j = some k → ρ' k = ρ1' j := fun j k hk => by
    show (match bwd lb k with | some j => ρ1' j | none => ρ k) = ρ1' j
    rw [mem_bwd b2 (fwd_mem hk)]
  have hno : ∀ k, bwd lb k = none → ¬ k ∈ lc.map (·.1) := fun k hk hm => by
    obtain ⟨q, hq, rfl⟩ := List.mem_map.1 hm
    rw [mem_bwd b2 (hcb q hq)] at hk; cases hk
  have hρ'none : ∀ k, bwd lb k = none → ρ' k = ρ k := fun k hk => by
    show (match bwd lb k with | some j => ρ1' j | none => ρ k) = ρ k
    rw [hk]
  have hρ'some : ∀ k j, bwd lb k = some j → ρ' k = ρ1' j := fun k j hk => by
    show (match bwd lb k with | some j => ρ1' j | none => ρ k) = ρ1' j
    rw [hk]
  have hile : ρ.le ρ' := fun k p hk => by
    cases hb : bwd lb k with
    | none => rw [hρ'none k hb]; exact .inl hk
    | some j =>
      rw [hρ'some k j hb]
      rcases hbc _ (bwd_mem hb) with hc | hn
      · exact s.ile j p ((hfb k j (mem_fwd c1 hc)).trans hk)
      · rw [(hh.dom k).1 hn] at hk; cases hk
  have hin : ∀ k p n, ρ k = some p → p.block = some n → n < w.heap.size := fun k p n hk hn => by
    have hsz : ∀ b x, w.heap[b]? = some x → b < w.heap.size := fun b x hb => (Array.getElem?_eq_some_iff.1 hb).1
    cases hx : hp h k with
    | none => rw [(hh.dom k).1 hx] at hk; cases hk
    | some b =>
      have := hh.blk k b hx
      cases this with
      | dead h1 => rw [h1] at hk; cases hk; cases hn
      | virt h1 => rw [h1] at hk; cases hk; cases hn
      | row h1 hb => rw [h1] at hk; cases hk; cases hn; exact hsz _ _ hb
      | map h1 hb => rw [h1] at hk; cases hk; cases hn; exact hsz _ _ hb
      | siter h1 hb => rw [h1] at hk; cases hk; cases hn; exact hsz _ _ hb
      | mapl h1 hb _ _ _ _ _ => rw [h1] at hk; cases hk; cases hn; exact hsz _ _ hb
      | itl h1 hb _ => rw [h1] at hk; cases hk; cases hn; exact hsz _ _ hb
  -- a block that the call isn't handed
  have hout : ∀ k p n, ¬ k ∈ lc.map (·.1) → ρ k = some p → p.block = some n → ¬ U n := fun k p n hk hkp hn hU => by
    obtain ⟨j, q, hj, hq⟩ := hU
    obtain ⟨k', hk', hkq⟩ := hρ1 j q hj
    have := hh.inj k k' p q n hkp hkq hn hq
    subst this
    exact hk (List.mem_map.2 ⟨_, hk', rfl⟩)
  have hcell : ∀ b o, b < w.heap.size → ¬ U b → F'.cell b o → F.cell b o := fun b o hb hu ho => by
    rcases f.fnew b o ho with h | h | h
    · exact h
    · exact absurd h hu
    · omega
  have hobj : ∀ b, b < w.heap.size → ¬ U b → F'.obj b → F.obj b := fun b hb hu ho => by
    rcases f.onew b ho with h | h | h
    · exact h
    · exact absurd h hu
    · omega
  have hval : ∀ k, hp (renHp lb (hl x) ++ restHp (lc.map (·.1)) h) k = match bwd lb k with | some j => (hp (hl x) j).map (mapBlk (renLeaf (fwd lb))) | none => hp h k := fun k => by
    rw [hp_append, renHp_spec b1 b2, restHp_spec]
    cases hb : bwd lb k with
    | none =>
      simp only
      have := hno k hb
      rw [if_neg (by simpa using this)]
    | some j =>
      simp only
      cases hx : hp (hl x) j with
      | some b => rfl
      | none =>
        simp only [Option.map_none]
        split
        · rfl
        · rename_i hc
          rcases hbc _ (bwd_mem hb) with hm | hn
          · have : k ∈ lc.map (·.1) := List.mem_map.2 ⟨(k, j), hm, rfl⟩
            exact absurd (by simpa using this) hc
          · exact hn
  have hgb := ren_leaf (F := F') (w := w') hlb
  refine ⟨v, rfl, _, _, ρ', F', ⟨x, hx, rfl, rfl⟩, har.map hgb, s.keep, s.fle, hile, ⟨fun k => ?_, fun k b hb => ?_, fun k k' p p' b hk hk' hp1 hp2 => ?_, s.heap.fzc, s.heap.fzo⟩, fun W F0 U0 y => ?_⟩
  · rw [hval]
    cases hb : bwd lb k with
    | none => rw [hρ'none k hb]; exact hh.dom k
    | some j => rw [hρ'some k j hb]; simp only [Option.map_eq_none_iff]; exact s.heap.dom j
  · rw [hval] at hb
    cases hbk : bwd lb k with
    | none =>
      rw [hbk] at hb
      refine (hh.blk k b hb).keep s.keep s.fle hile (hρ'none k hbk) fun p n hk hn => ?_
      have hu := hout k p n (hno k hbk) hk hn
      have hlt := hin k p n hk hn
      exact ⟨f.same n hlt hu, fun o => hcell n o hlt hu, hobj n hlt hu⟩
    | some j =>
      rw [hbk] at hb
      simp only [Option.map_eq_some_iff] at hb
      obtain ⟨y, hy, rfl⟩ := hb
      exact BR.tell hgb (hρ'some k j hbk) (s.heap.blk j y hy) (fun _ _ _ _ => ⟨fun _ h => h, fun h => h⟩)
  · -- one block, one key
    have mixed : ∀ k k' j p p', bwd lb k = some j → bwd lb k' = none → ρ' k = some p → ρ' k' = some p' → p.block = some b → p'.block = some b → False := fun k k' j p p' h1 h2 h3 h4 h5 h6 => by
      rw [hρ'some k j h1] at h3
      rw [hρ'none k' h2] at h4
      rcases f.own j p b h3 h5 with hU | hge
      · exact hout k' p' b (hno k' h2) h4 h6 hU
      · have := hin k' p' b h4 h6; omega
    cases hb : bwd lb k with
    | none =>
      cases hb' : bwd lb k' with
      | none =>
        rw [hρ'none k hb] at hk
        rw [hρ'none k' hb'] at hk'
        exact hh.inj k k' p p' b hk hk' hp1 hp2
      | some j' => exact (mixed k' k j' p' p hb' hb hk' hk hp2 hp1).elim
    | some j =>
      cases hb' : bwd lb k' with
      | none => exact (mixed k k' j p p' hb hb' hk hk' hp1 hp2).elim
      | some j' =>
        rw [hρ'some k j hb] at hk
        rw [hρ'some k' j' hb'] at hk'
        have := s.heap.inj j j' p p' b hk hk' hp1 hp2
        subst this
        have x1 := mem_fwd b1 (bwd_mem hb)
        have x2 := mem_fwd b1 (bwd_mem hb')
        rw [x1] at x2; cases x2; rfl
  · have z := s.fr W F0 U0 ⟨y.os, y.tape, y.output, y.size, y.same, y.keep, y.fle, y.fnew, y.onew, fun j p b hj hb => by
      obtain ⟨k, _, hk⟩ := hρ1 j p hj
      exact y.own k p b hk hb⟩
    refine ⟨z.os, z.tape, z.output, z.size, z.same, z.keep, z.fle, z.fnew, z.onew, fun k p b hk hb => ?_⟩
    cases hbk : bwd lb k with
    | none => rw [hρ'none k hbk] at hk; exact y.own k p b hk hb
    | some j => rw [hρ'some k j hbk] at hk; exact z.own j p b hk hb

/-- what a call is handed, told otherwise -/
theorem FSpec.weak {P : Program} {f : FuncId} {as as' : List AV} {σ σ' : Heap} {R : AV → Heap → Prop} (h : Weak σ ⟨as, σ⟩ ⟨as', σ'⟩) (k : FSpec P f as' σ' R) : FSpec P f as σ R := by
  intro ρ F w vs hv hh
  obtain ⟨ρ', F', s⟩ := h ρ F w ρ F { tmps := vs, defers := [] } w (fun k => (hh.dom k).1) ⟨rfl, hv, Stp.refl hh⟩
  refine (k ρ' F' w vs s.tmps s.stp.heap).mono fun e w' hq => ?_
  obtain ⟨v, rfl, r, σ'', ρ'', F'', hr, har, hs⟩ := hq
  exact ⟨v, rfl, r, σ'', ρ'', F'', hr, har, s.stp.trans hs⟩

/-- a call that reads rows of the caller's own: it is handed data -/
theorem HSpec.share {P : Program} {f : FuncId} {as as' : List AV} {h h' : List (Nat × Blk)} {C : Ctr} (hw : Weak (hp h) ⟨as, hp h⟩ ⟨as', hp h'⟩) (k : PSpec P f as' C.R) : HSpec P f as (hp h) ⟨C.α, C.val, fun _ => hp h', C.post⟩ := by
  obtain ⟨h1, h2, r, x, hx, _⟩ := k
  refine ⟨h1, FSpec.weak hw (?_), x, hx⟩
  intro ρ F w vs hv hh
  refine (h2 (hp h') ρ F w vs hv hh).mono fun e w' hq => ?_
  obtain ⟨v, rfl, r, σ'', ρ'', F'', ⟨⟨x, hx, e1⟩, e2⟩, har, hs⟩ := hq
  exact ⟨v, rfl, r, σ'', ρ'', F'', ⟨x, hx, e1, e2⟩, har, hs⟩

end Go.Dm
