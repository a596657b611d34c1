/-
  The same state told otherwise: by other keys, by less, rows of one's own as data.
  Conditions: none.
-/
import Derived.Test.YtbhlfbkheijojaaEng22
namespace Go.Dm

mutual
def mapAV (g : AV → AV) : AV → AV
  | .agg cs => .agg (mapAVs g cs)
  | .tup vs => .tup (mapAVs g vs)
  | .fn f a b => .fn f (mapAVs g a) (mapAVs g b)
  | .t x => g (.t x)
  | .tsl x => g (.tsl x)
  | .any => g .any
  | .nils => g .nils
  | .bq p q => g (.bq p q)
  | .ptr k e o => g (.ptr k e o)
  | .eptr c o => g (.eptr c o)
  | .own k off len t => g (.own k off len t)
  | .mapr k => g (.mapr k)
  | .it k => g (.it k)
def mapAVs (g : AV → AV) : List AV → List AV
  | [] => []
  | a :: r => mapAV g a :: mapAVs g r
end

theorem mapAVs_get (g : AV → AV) : ∀ (l : List AV) (i : Nat), (mapAVs g l)[i]? = (l[i]?).map (mapAV g)
  | [], i => by simp [mapAVs]
  | a :: r, 0 => by simp [mapAVs]
  | a :: r, i + 1 => by simp only [mapAVs, List.getElem?_cons_succ]; exact mapAVs_get g r i

theorem mapAVs_len (g : AV → AV) : ∀ (l : List AV), (mapAVs g l).length = l.length
  | [] => rfl
  | a :: r => by simp only [mapAVs, List.length_cons, mapAVs_len g r]

theorem mapAVs_eq (g : AV → AV) : ∀ (l : List AV), mapAVs g l = l.map (mapAV g)
  | [] => rfl
  | a :: r => by simp only [mapAVs, List.map_cons, mapAVs_eq g r]

def isLeaf : AV → Bool
  | .agg _ => false
  | .tup _ => false
  | .fn _ _ _ => false
  | _ => true

theorem AR.map {ρ ρ' : Inj} {F F' : Fz} {w : World} {g : AV → AV} (hg : ∀ v a, isLeaf a = true → AR ρ F w v a → AR ρ' F' w v (g a)) {v : Value} {a : AV} (h : AR ρ F w v a) : AR ρ' F' w v (mapAV g a) := by
  have arr : ∀ {vs : Array Value} {as : List AV}, (∀ (i : Nat) (v : Value) (a : AV), vs[i]? = some v → as[i]? = some a → AR ρ' F' w v (mapAV g a)) →
      ∀ (i : Nat) (v : Value) (a : AV), vs[i]? = some v → (mapAVs g as)[i]? = some a → AR ρ' F' w v a := fun ih i v a h1 h2 => by
    rw [mapAVs_get, Option.map_eq_some_iff] at h2
    obtain ⟨x, h3, rfl⟩ := h2
    exact ih i v x h1 h3
  induction h with
  | agg hs h ih => exact .agg (by rw [mapAVs_len]; exact hs) (arr ih)
  | tup hs h ih => exact .tup (by rw [mapAVs_len]; exact hs) (arr ih)
  | fn h1s h1 h2s h2 ih1 ih2 => exact .fn (by rw [mapAVs_len]; exact h1s) (arr ih1) (by rw [mapAVs_len]; exact h2s) (arr ih2)
  | t h => exact hg _ _ rfl (.t h)
  | tsl h => exact hg _ _ rfl (.tsl h)
  | any v => exact hg _ _ rfl (.any v)
  | nils => exact hg _ _ rfl .nils
  | bq b hp hq => exact hg _ _ rfl (.bq b hp hq)
  | ptr h => exact hg _ _ rfl (.ptr h)
  | ptrDead a h => exact hg _ _ rfl (.ptrDead a h)
  | eptr vals hb hv ht => exact hg _ _ rfl (.eptr vals hb hv ht)
  | own h hl => exact hg _ _ rfl (.own h hl)
  | ownVirt a h => exact hg _ _ rfl (.ownVirt a h)
  | ownZero a h hl hz => exact hg _ _ rfl (.ownZero a h hl hz)
  | ownDead a l c h hn => exact hg _ _ rfl (.ownDead a l c h hn)
  | mapr h => exact hg _ _ rfl (.mapr h)
  | maprDead r h => exact hg _ _ rfl (.maprDead r h)
  | it h => exact hg _ _ rfl (.it h)
  | itDead a h => exact hg _ _ rfl (.itDead a h)

theorem ValsAR.map {ρ ρ' : Inj} {F F' : Fz} {w : World} {g : AV → AV} (hg : ∀ v a, isLeaf a = true → AR ρ F w v a → AR ρ' F' w v (g a)) {vs : Array Value} {as : List AV} (h : ValsAR ρ F w vs as) : ValsAR ρ' F' w vs (as.map (mapAV g)) := by
  refine ⟨by simp [h.1], fun i v a h1 h2 => ?_⟩
  rw [List.getElem?_map, Option.map_eq_some_iff] at h2
  obtain ⟨x, h3, rfl⟩ := h2
  exact (h.2 i v x h1 h3).map hg

def mapBlk (g : AV → AV) : Blk → Blk
  | .dead => .dead
  | .row t sz es => .row t sz (es.map fun e => e.map (mapAV g))
  | .map kd m => .map kd fun k => (m k).map (mapAV g)
  | .iter a l => .iter (mapAV g a) l
  | .siter s p => .siter s p
  | .mapl kd es c => .mapl kd (es.map fun x => (x.1, mapAV g x.2.1, x.2.2)) c
  | .itl src s l n => .itl (mapAV g src) s l n

theorem CellsAre.map {ρ ρ' : Inj} {F F' : Fz} {w : World} {g : AV → AV} (hg : ∀ v a, isLeaf a = true → AR ρ F w v a → AR ρ' F' w v (g a)) {c : Array Value} {base sz : Nat} {es : List (List AV)} (h : CellsAre ρ F w c base sz es) :
    CellsAre ρ' F' w c base sz (es.map fun e => e.map (mapAV g)) := fun i x hx j a ha => by
  rw [List.getElem?_map, Option.map_eq_some_iff] at hx
  obtain ⟨y, hy, rfl⟩ := hx
  rw [List.getElem?_map, Option.map_eq_some_iff] at ha
  obtain ⟨z, hz, rfl⟩ := ha
  obtain ⟨v, h1, h2⟩ := h i y hy j z hz
  exact ⟨v, h1, h2.map hg⟩

/-- a block told otherwise, perhaps under another key -/
theorem BR.tell {ρ ρ' : Inj} {F F' : Fz} {w : World} {g : AV → AV} (hg : ∀ v a, isLeaf a = true → AR ρ F w v a → AR ρ' F' w v (g a)) {k k' : Nat} (hk : ρ' k' = ρ k) {b : Blk} (h : BR ρ F w k b)
    (hF : ∀ p n, ρ k = some p → p.block = some n → (∀ o, F'.cell n o → F.cell n o) ∧ (F'.obj n → F.obj n)) : BR ρ' F' w k' (mapBlk g b) := by
  cases h with
  | dead h => exact .dead (hk.trans h)
  | virt h ht => exact .virt (hk.trans h) ht
  | row h hb hl hs hz hc hf =>
    rename_i tag sz es b base ct c e
    obtain ⟨e2, _⟩ := hF _ _ h rfl
    refine .row (hk.trans h) hb (by simpa using hl) hs (fun x hx => ?_) (hc.map hg) ?_
    · simp only [List.mem_map] at hx
      obtain ⟨y, hy, rfl⟩ := hx
      simpa using hz y hy
    · simp only [List.length_map]
      revert hf
      cases tag <;> intro hf o ho
      · exact hf o (e2 o ho)
      · exact hf o (e2 o ho)
      · exact hf o (e2 o ho)
  | map h hb hm hv hf =>
    obtain ⟨_, e3⟩ := hF _ _ h rfl
    refine .map (hk.trans h) hb ⟨fun e he => ?_, fun k hk => hm.has k (by simpa using hk), hm.once, hm.born, hm.clock⟩ (fun j a ha => ?_) (fun ho => hf (e3 ho))
    · obtain ⟨k, h1, h2, h3⟩ := hm.keys e he
      exact ⟨k, h1, by simpa using h2, h3⟩
    · rw [Option.map_eq_some_iff] at ha
      obtain ⟨x, hx, rfl⟩ := ha
      exact (hv j x hx).map hg
  | siter h hb => exact .siter (hk.trans h) hb
  | mapl h hb hs ha hkd hn hf =>
    obtain ⟨_, e3⟩ := hF _ _ h rfl
    refine .mapl (hk.trans h) hb (by simpa using hs) (fun i x hx => ?_) (fun x hx => ?_) ?_ (fun ho => hf (e3 ho))
    · rw [List.getElem?_map, Option.map_eq_some_iff] at hx
      obtain ⟨y, hy, rfl⟩ := hx
      obtain ⟨v, h1, h2⟩ := ha i y hy
      exact ⟨v, h1, h2.map hg⟩
    · obtain ⟨y, hy, rfl⟩ := List.mem_map.1 hx
      exact hkd y hy
    · simpa [Function.comp_def] using hn
  | itl h hb hm => exact .itl (hk.trans h) hb (hm.map hg)

/-- finite memories -/
def hp : List (Nat × Blk) → Heap
  | [] => emp
  | (k, b) :: r => upd (hp r) k b

/-- keys told otherwise -/
def renLeaf (f : Nat → Option Nat) : AV → AV
  | .ptr k e o => match f k with | some k' => .ptr k' e o | none => .any
  | .own k off len t => match f k with | some k' => .own k' off len t | none => .any
  | .mapr k => match f k with | some k' => .mapr k' | none => .any
  | .it k => match f k with | some k' => .it k' | none => .any
  | a => a

def fwd (l : List (Nat × Nat)) (k : Nat) : Option Nat := match l with | [] => none | (a, b) :: r => if k = a then some b else fwd r k
def bwd (l : List (Nat × Nat)) (k : Nat) : Option Nat := match l with | [] => none | (a, b) :: r => if k = b then some a else bwd r k

theorem fwd_mem {l : List (Nat × Nat)} {a b : Nat} (h : fwd l a = some b) : (a, b) ∈ l := by
  induction l with
  | nil => simp [fwd] at h
  | cons p r ih =>
    obtain ⟨x, y⟩ := p
    unfold fwd at h
    split at h
    · cases h; rename_i e; subst e; simp
    · simp [ih h]
theorem bwd_mem {l : List (Nat × Nat)} {a b : Nat} (h : bwd l b = some a) : (a, b) ∈ l := by
  induction l with
  | nil => simp [bwd] at h
  | cons p r ih =>
    obtain ⟨x, y⟩ := p
    unfold bwd at h
    split at h
    · cases h; rename_i e; subst e; simp
    · simp [ih h]
theorem mem_fwd {l : List (Nat × Nat)} {a b : Nat} (hn : (l.map (·.1)).Nodup) (h : (a, b) ∈ l) : fwd l a = some b := by
  induction l with
  | nil => simp at h
  | cons p r ih =>
    obtain ⟨x, y⟩ := p
    simp only [List.map_cons, List.nodup_cons] at hn
    unfold fwd
    rcases List.mem_cons.1 h with e | e
    · cases e; simp
    · rw [if_neg (fun e' => hn.1 (by subst e'; exact List.mem_map.2 ⟨_, e, rfl⟩))]
      exact ih hn.2 e
theorem mem_bwd {l : List (Nat × Nat)} {a b : Nat} (hn : (l.map (·.2)).Nodup) (h : (a, b) ∈ l) : bwd l b = some a := by
  induction l with
  | nil => simp at h
  | cons p r ih =>
    obtain ⟨x, y⟩ := p
    simp only [List.map_cons, List.nodup_cons] at hn
    unfold bwd
    rcases List.mem_cons.1 h with e | e
    · cases e; simp
    · rw [if_neg (fun e' => hn.1 (by subst e'; exact List.mem_map.2 ⟨_, e, rfl⟩))]
      exact ih hn.2 e

def renHp (l : List (Nat × Nat)) (h : List (Nat × Blk)) : List (Nat × Blk) := h.filterMap fun p => (fwd l p.1).map fun k => (k, mapBlk (renLeaf (fwd l)) p.2)

theorem renHp_spec {l : List (Nat × Nat)} (h1 : (l.map (·.1)).Nodup) (h2 : (l.map (·.2)).Nodup) : ∀ (h : List (Nat × Blk)) (k' : Nat),
    hp (renHp l h) k' = match bwd l k' with | some k => (hp h k).map (mapBlk (renLeaf (fwd l))) | none => none := by
  intro h
  induction h with
  | nil => intro k'; simp only [renHp, List.filterMap_nil, hp, emp]; split <;> rfl
  | cons p r ih =>
    intro k'
    obtain ⟨k, b⟩ := p
    have hr : renHp l ((k, b) :: r) = match fwd l k with | some j => (j, mapBlk (renLeaf (fwd l)) b) :: renHp l r | none => renHp l r := by
      simp only [renHp, List.filterMap_cons]
      cases fwd l k <;> rfl
    rw [hr]
    cases hf : fwd l k with
    | none =>
      simp only
      rw [ih]
      cases hb : bwd l k' with
      | none => rfl
      | some j =>
        simp only [hp]
        have : j ≠ k := fun e => by
          subst e
          rw [mem_fwd h1 (bwd_mem hb)] at hf; cases hf
        rw [upd_ne _ this]
    | some j =>
      simp only [hp]
      by_cases hj : k' = j
      · subst hj
        rw [upd_same, mem_bwd h2 (fwd_mem hf)]
        simp only [upd_same, Option.map_some]
      · rw [upd_ne _ hj, ih]
        cases hb : bwd l k' with
        | none => rfl
        | some i =>
          simp only
          have : i ≠ k := fun e => by
            subst e
            have := mem_fwd h1 (bwd_mem hb)
            rw [hf] at this; cases this; exact hj rfl
          rw [upd_ne _ this]

/-- the keys told otherwise; those that are not in the list are forgotten -/
theorem Weak.ren {σ0 : Heap} (l : List (Nat × Nat)) {ts : List AV} {h : List (Nat × Blk)} (h1 : (l.map (·.1)).Nodup) (h2 : (l.map (·.2)).Nodup) (h0 : ∀ k, σ0 k ≠ none → fwd l k = some k) :
    Weak σ0 ⟨ts, hp h⟩ ⟨ts.map (mapAV (renLeaf (fwd l))), hp (renHp l h)⟩ := by
  intro ρ0 F0 W ρ F a w hE s
  obtain ⟨hd, ht, hst⟩ := s
  let ρ' : Inj := fun k' => match bwd l k' with | some k => ρ k | none => none
  have hfb : ∀ k k', fwd l k = some k' → ρ' k' = ρ k := fun k k' hk => by
    show (match bwd l k' with | some k => ρ k | none => none) = ρ k
    rw [mem_bwd h2 (fwd_mem hk)]
  have hg : ∀ v a, isLeaf a = true → AR ρ F w v a → AR ρ' F w v (renLeaf (fwd l) a) := fun v a hl h => by
    cases h with
    | t h => exact .t h
    | tsl h => exact .tsl h
    | any v => exact .any v
    | nils => exact .nils
    | bq b hp hq => exact .bq b hp hq
    | ptr h => 
      unfold renLeaf; simp only
      split
      · rename_i k' hk; exact .ptr ((hfb _ _ hk).trans h)
      · exact .any _
    | ptrDead a h => 
      unfold renLeaf; simp only
      split
      · rename_i k' hk; exact .ptrDead a ((hfb _ _ hk).trans h)
      · exact .any _
    | eptr vals hb hv ht => exact .eptr vals hb hv ht
    | own h hlen =>
      rename_i k off len b base sz ct tight
      have e : renLeaf (fwd l) (.own k off len tight) = match fwd l k with | some k' => .own k' off len tight | none => .any := rfl
      rw [e]
      cases hk : fwd l k with
      | some k' => exact .own ((hfb _ _ hk).trans h) hlen
      | none => exact .any _
    | ownVirt a h => 
      unfold renLeaf; simp only
      split
      · rename_i k' hk; exact .ownVirt a ((hfb _ _ hk).trans h)
      · exact .any _
    | ownZero a h hle hz =>
      unfold renLeaf; simp only
      split
      · rename_i k' hk; exact .ownZero a ((hfb _ _ hk).trans h) hle hz
      · exact .any _
    | ownDead a l c h hn => 
      unfold renLeaf; simp only
      split
      · rename_i k' hk; exact .ownDead a l c ((hfb _ _ hk).trans h) hn
      · exact .any _
    | mapr h => 
      unfold renLeaf; simp only
      split
      · rename_i k' hk; exact .mapr ((hfb _ _ hk).trans h)
      · exact .any _
    | maprDead r h => 
      unfold renLeaf; simp only
      split
      · rename_i k' hk; exact .maprDead r ((hfb _ _ hk).trans h)
      · exact .any _
    | it h => 
      unfold renLeaf; simp only
      split
      · rename_i k' hk; exact .it ((hfb _ _ hk).trans h)
      · exact .any _
    | itDead a h => 
      unfold renLeaf; simp only
      split
      · rename_i k' hk; exact .itDead a ((hfb _ _ hk).trans h)
      · exact .any _
    | agg => cases hl
    | tup => cases hl
    | fn => cases hl
  have hH : HR ρ' F w (hp (renHp l h)) := by
    refine ⟨fun k => ?_, fun k b hb => ?_, fun k k' p p' b hk hk' hp1 hp2 => ?_, hst.heap.fzc, hst.heap.fzo⟩
    · rw [renHp_spec h1 h2]
      show _ ↔ (match bwd l k with | some k => ρ k | none => none) = none
      cases bwd l k with
      | none => simp
      | some j => simp only [Option.map_eq_none_iff]; exact hst.heap.dom j
    · rw [renHp_spec h1 h2] at hb
      split at hb
      · rename_i j hj
        rw [Option.map_eq_some_iff] at hb
        obtain ⟨x, hx, rfl⟩ := hb
        refine BR.tell hg ?_ (hst.heap.blk j x hx) (fun _ _ _ _ => ⟨fun _ h => h, fun h => h⟩)
        show (match bwd l k with | some k => ρ k | none => none) = ρ j
        rw [hj]
      · cases hb
    · change (match bwd l k with | some k => ρ k | none => none) = some p at hk
      change (match bwd l k' with | some k => ρ k | none => none) = some p' at hk'
      split at hk
      · rename_i j hj
        split at hk'
        · rename_i j' hj'
          have := hst.heap.inj j j' p p' b hk hk' hp1 hp2
          subst this
          have e1 := mem_fwd h1 (bwd_mem hj)
          have e2 := mem_fwd h1 (bwd_mem hj')
          rw [e1] at e2
          cases e2; rfl
        · cases hk'
      · cases hk
  refine ⟨ρ', F, hd, ht.map hg, hst.keep, hst.fle, fun k p hk => ?_, hH, fun W F0 U x => ?_⟩
  · have hne : σ0 k ≠ none := fun e => by rw [hE k e] at hk; cases hk
    have := hfb k k (h0 k hne)
    rw [this]
    exact hst.ile k p hk
  · have y := hst.fr W F0 U x
    refine ⟨y.os, y.tape, y.output, y.size, y.same, y.keep, y.fle, y.fnew, y.onew, fun k p b hk hb => ?_⟩
    change (match bwd l k with | some k => ρ k | none => none) = some p at hk
    split at hk
    · exact y.own _ p b hk hb
    · cases hk

/-- slots forgotten -/
def keepT (ks : List Nat) (ts : List AV) : List AV := ts.mapIdx fun i a => if ks.contains i then a else .any

theorem Weak.keep {σ0 : Heap} (ks : List Nat) {ts : List AV} {σ : Heap} : Weak σ0 ⟨ts, σ⟩ ⟨keepT ks ts, σ⟩ := by
  intro ρ0 F0 W ρ F a w _ s
  refine ⟨ρ, F, s.defers, ⟨by rw [s.tmps.1]; simp [keepT], fun i v x h1 h2 => ?_⟩, s.stp⟩
  simp only [keepT, List.getElem?_mapIdx, Option.map_eq_some_iff] at h2
  obtain ⟨y, h3, h4⟩ := h2
  split at h4
  · subst h4; exact s.tmps.2 i v y h1 h3
  · subst h4; exact .any _

end Go.Dm
