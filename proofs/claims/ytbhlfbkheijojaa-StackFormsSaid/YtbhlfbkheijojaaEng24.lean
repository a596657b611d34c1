/-
  A row of one's own told as data; a call that is handed data alone, and hands back data.
  Conditions: none.
-/
import Derived.Test.YtbhlfbkheijojaaEng23
namespace Go.Dm

def frzLeaf (k : Nat) (es : List (List Tree)) : AV → AV
  | .own j off len t => if j = k then (if off + len ≤ es.length then (if t then .tsl ((es.drop off).take len) else .t (.rows ((es.drop off).take len))) else .any) else .own j off len t
  | a => a

def vecOf : Blk → Blk
  | .row _ sz es => .row .vec sz es
  | b => b

def frzHp (k : Nat) (es : List (List Tree)) (h : List (Nat × Blk)) : List (Nat × Blk) := h.map fun p => (p.1, if p.1 = k then vecOf p.2 else mapBlk (frzLeaf k es) p.2)

theorem frzHp_spec {k : Nat} {es : List (List Tree)} : ∀ (h : List (Nat × Blk)) (j : Nat), hp (frzHp k es h) j = (hp h j).map fun b => if j = k then vecOf b else mapBlk (frzLeaf k es) b := by
  intro h
  induction h with
  | nil => intro j; rfl
  | cons p r ih =>
    intro j
    obtain ⟨i, b⟩ := p
    simp only [frzHp, List.map_cons, hp] at ih ⊢
    by_cases hj : j = i
    · subst hj; rw [upd_same, upd_same]; rfl
    · rw [upd_ne _ hj, upd_ne _ hj]; exact ih j

theorem frz_fin {ρ0 : Inj} {F0 F F' : Fz} {W : World} {ρ : Inj} {a : Act} {w : World} {ts : List AV} {h : List (Nat × Blk)} {k : Nat} {es : List (List Tree)} (s : Sim ρ0 F0 W ρ F a w ⟨ts, hp h⟩) {b0 : Blk} (hk : hp h k = some b0) (hle : F.le F')
    (hg : ∀ v a, isLeaf a = true → AR ρ F w v a → AR ρ F' w v (frzLeaf k es a)) (hbk : BR ρ F' w k (vecOf b0))
    (hobj : F'.obj = F.obj) (hcell : ∀ n o, F'.cell n o → F.cell n o ∨ ((∃ p, ρ k = some p ∧ p.block = some n) ∧ ∃ c e fz, w.heap[n]? = some (.cells c e fz))) :
    Sim ρ0 F0 W ρ F' a w ⟨ts.map (mapAV (frzLeaf k es)), hp (frzHp k es h)⟩ := by
  obtain ⟨hd, hts, hst⟩ := s
  refine ⟨hd, hts.map hg, hst.keep, Fz.le_trans hst.fle hle, hst.ile, ⟨fun j => ?_, fun j b hb => ?_, hst.heap.inj, fun b o ho => ?_, fun r ho => ?_⟩, fun W F0 U x => ?_⟩
  · show hp (frzHp k es h) j = none ↔ _
    rw [frzHp_spec, Option.map_eq_none_iff]; exact hst.heap.dom j
  · change hp (frzHp k es h) j = some b at hb
    rw [frzHp_spec, Option.map_eq_some_iff] at hb
    obtain ⟨x, hx, rfl⟩ := hb
    by_cases hj : j = k
    · subst hj
      rw [if_pos rfl]
      simp only at hst
      rw [hk] at hx; cases hx
      exact hbk
    · rw [if_neg hj]
      refine BR.tell hg rfl (hst.heap.blk j x hx) fun p n hp1 hp2 => ⟨fun o ho => ?_, fun ho => by rw [hobj] at ho; exact ho⟩
      rcases hcell n o ho with h | ⟨⟨p', h1, h2⟩, _⟩
      · exact h
      · exact absurd (hst.heap.inj j k p p' n hp1 h1 hp2 h2) hj
  · rcases hcell b o ho with h | ⟨_, h⟩
    · exact hst.heap.fzc b o h
    · exact h
  · rw [hobj] at ho; exact hst.heap.fzo r ho
  · have y := hst.fr W F0 U x
    refine ⟨y.os, y.tape, y.output, y.size, y.same, y.keep, Fz.le_trans y.fle hle, fun b o ho => ?_, fun r ho => ?_, y.own⟩
    · rcases hcell b o ho with h | ⟨⟨p, h1, h2⟩, _⟩
      · exact y.fnew b o h
      · exact .inr (y.own k p b h1 h2)
    · rw [hobj] at ho; exact y.onew r ho

/-- what freezing a row comes to -/
structure Frz (ρ : Inj) (F F' : Fz) (w : World) (k : Nat) (es : List (List Tree)) (b0 : Blk) : Prop where
  le : F.le F'
  leaf : ∀ v a, isLeaf a = true → AR ρ F w v a → AR ρ F' w v (frzLeaf k es a)
  blk : BR ρ F' w k (vecOf b0)
  obj : F'.obj = F.obj
  cell : ∀ n o, F'.cell n o → F.cell n o ∨ ((∃ p, ρ k = some p ∧ p.block = some n) ∧ ∃ c e fz, w.heap[n]? = some (.cells c e fz))

theorem frz_core {ρ0 : Inj} {F0 F : Fz} {W : World} {ρ : Inj} {a : Act} {w : World} {ts : List AV} {h : List (Nat × Blk)} (s : Sim ρ0 F0 W ρ F a w ⟨ts, hp h⟩) (k : Nat) {tag : Tag} {sz : Nat} (es : List (List Tree))
    (hk : hp h k = some (.row tag sz (es.map fun e => e.map .t))) : ∃ F', Frz ρ F F' w k es (.row tag sz (es.map fun e => e.map .t)) := by
  have hbr := s.stp.heap.blk k _ hk
  -- the leaf at an own row that is another one
  have others : ∀ (F' : Fz), F.le F' → (∀ v off len t, AR ρ F w v (.own k off len t) → AR ρ F' w v (frzLeaf k es (.own k off len t))) → ∀ v a, isLeaf a = true → AR ρ F w v a → AR ρ F' w v (frzLeaf k es a) := fun F' hle hown v a hl h => by
    have same : AR ρ F' w v a := h.keep (Keep.refl _ _) hle ρ.le_refl
    cases a with
    | own j off len t =>
      by_cases hj : j = k
      · subst hj; exact hown v off len t h
      · have : frzLeaf k es (.own j off len t) = .own j off len t := by simp [frzLeaf, hj]
        rw [this]; exact same
    | _ => exact same
  have hleaf : ∀ off len t, off + len ≤ es.length → frzLeaf k es (.own k off len t) = (if t then .tsl ((es.drop off).take len) else .t (.rows ((es.drop off).take len))) := fun off len t h => by
    simp [frzLeaf, h]
  have hany : ∀ off len t, ¬ off + len ≤ es.length → frzLeaf k es (.own k off len t) = .any := fun off len t h => by
    simp [frzLeaf, h]
  generalize hes : (es.map fun e => e.map AV.t) = ces at hbr hk
  cases hbr with
  | virt h1 htag =>
    have hnil : es = [] := by simpa using hes
    subst hnil
    refine ⟨F, F.le_refl, others F F.le_refl fun v off len t h => ?_, .virt h1 (by simp), rfl, fun n o h => .inl h⟩
    cases h with
    | own h2 => rw [h1] at h2; cases h2
    | ownVirt a h2 =>
      rw [hleaf _ _ _ (by simp)]
      cases t with
      | true => exact .tsl (.nil a 0)
      | false => exact .t (.nil a 0)
    | ownZero a h2 => rw [h1] at h2; cases h2
    | ownDead a l c h2 _ => rw [h1] at h2; cases h2
  | row h1 hb hl hs hz hc hf =>
    rename_i b base ct c e
    have hlen : ces.length = es.length := by rw [← hes]; simp
    let F' : Fz := ⟨fun n o => F.cell n o ∨ (n = b ∧ base ≤ o ∧ o < base + es.length * sz), F.obj⟩
    have hle : F.le F' := ⟨fun n o h => .inl h, fun r h => h⟩
    have hzt : ∀ x ∈ es, x.length = sz := fun x hx => by
      have := hz (x.map .t) (by rw [← hes]; exact List.mem_map.2 ⟨x, hx, rfl⟩)
      simpa using this
    -- a cell of an element
    have hcell : ∀ i x, es[i]? = some x → ∀ j t, x[j]? = some t → F'.cell b (base + i * sz + j) ∧ ∃ v, c[base + i * sz + j]? = some v ∧ TR F w v t := fun i x hx j t hj => by
      have hi : i < es.length := (List.getElem?_eq_some_iff.1 hx).1
      have hjl : j < sz := by
        have := (List.getElem?_eq_some_iff.1 hj).1
        rw [hzt x (List.mem_of_getElem? hx)] at this; exact this
      obtain ⟨v, hv, hr⟩ := hc i (x.map .t) (by rw [← hes, List.getElem?_map, hx]; rfl) j (.t t) (by rw [List.getElem?_map, hj]; rfl)
      refine ⟨.inr ⟨rfl, by omega, ?_⟩, v, hv, ?_⟩
      · have : (i + 1) * sz ≤ es.length * sz := Nat.mul_le_mul_right _ hi
        rw [Nat.add_mul] at this
        omega
      · cases hr with | t h => exact h
    have hrows : ∀ off len cap, off + len ≤ es.length → len ≤ cap → off + cap ≤ ct → TR F' w (.slice (some ⟨b, base + off * sz, .none⟩) len cap) (.rows ((es.drop off).take len)) := fun off len cap h2 h3 h4 => by
      have hin : ∀ i x, ((es.drop off).take len)[i]? = some x → i < len ∧ es[off + i]? = some x := fun i x hx => by
        have hil : i < len := by
          rcases Nat.lt_or_ge i len with hlt | hge
          · exact hlt
          · rw [List.getElem?_take] at hx; simp [Nat.not_lt.2 hge] at hx
        rw [List.getElem?_take_of_lt hil, List.getElem?_drop] at hx
        exact ⟨hil, hx⟩
      have hoff : ∀ i j, base + off * sz + i * sz + j = base + (off + i) * sz + j := fun i j => by rw [Nat.add_mul]; omega
      refine .rows b _ len cap sz _ c e (0, 0) (fun i j => (c[base + (off + i) * sz + j]?).getD undef) hb (by simp; omega) h3 ?_ (fun x hx => hzt x (List.mem_of_mem_drop (List.mem_of_mem_take hx))) (fun i x hx j t hj => ?_) (fun i x hx j t hj => ?_)
      · have : (off + cap) * sz ≤ ct * sz := Nat.mul_le_mul_right _ h4
        rw [Nat.add_mul] at this
        omega
      · obtain ⟨_, h6⟩ := hin i x hx
        obtain ⟨h7, v, hv, _⟩ := hcell _ x h6 j t hj
        rw [hoff]
        exact ⟨h7, by rw [hv]; rfl⟩
      · obtain ⟨_, h6⟩ := hin i x hx
        obtain ⟨_, v, hv, hr⟩ := hcell _ x h6 j t hj
        simp only [hv, Option.getD_some]
        exact hr.keep (Keep.refl _ _) hle
    refine ⟨F', hle, others F' hle fun v off len t h => ?_, ?_, rfl, fun n o h => ?_⟩
    · by_cases hin : off + len ≤ es.length
      · rw [hleaf _ _ _ hin]
        cases h with
        | own h2 h3 =>
          rw [h1] at h2; cases h2
          cases t with
          | true => exact .tsl (hrows off len len hin (Nat.le_refl _) h3)
          | false => exact .t (hrows off len (ct - off) hin (by omega) (by omega))
        | ownVirt a h2 => rw [h1] at h2; cases h2
        | ownZero a h2 =>
          have : (es.drop off).take 0 = [] := by simp
          rw [this]
          cases t with
          | true => exact .tsl (.nil a 0)
          | false => exact .t (.nil a 0)
        | ownDead a l c h2 _ => rw [h1] at h2; cases h2
      · rw [hany _ _ _ hin]; exact .any _
    · refine .row h1 hb hl hs hz (fun i x hx j a ha => ?_) ?_
      · obtain ⟨v, hv, hr⟩ := hc i x hx j a ha
        exact ⟨v, hv, hr.keep (Keep.refl _ _) hle ρ.le_refl⟩
      · intro o ho
        rw [hlen]
        rcases ho with ho | ⟨_, _, ho⟩
        · revert hf
          cases tag <;> intro hf
          · exact absurd ho (hf o)
          · rw [hlen] at hf; exact hf o ho
          · exact absurd ho (hf o)
        · exact ho
    · rcases h with h | ⟨rfl, _, _⟩
      · exact .inl h
      · exact .inr ⟨⟨_, h1, rfl⟩, c, e, _, hb⟩

theorem Weak.frz {σ0 : Heap} (k : Nat) {ts : List AV} {h : List (Nat × Blk)} {tag : Tag} {sz : Nat} (es : List (List Tree)) (hk : hp h k = some (.row tag sz (es.map fun e => e.map .t))) :
    Weak σ0 ⟨ts, hp h⟩ ⟨ts.map (mapAV (frzLeaf k es)), hp (frzHp k es h)⟩ := by
  intro ρ0 F0 W ρ F a w hE s
  obtain ⟨F', z⟩ := frz_core s k es hk
  exact ⟨ρ, F', frz_fin s hk z.le z.leaf z.blk z.obj z.cell⟩

/-- a row frozen: the values told as data, the memory's other blocks as they were -/
theorem Weak.vec {σ0 : Heap} (k : Nat) {ts : List AV} {h : List (Nat × Blk)} {tag : Tag} {sz : Nat} (es : List (List Tree)) (hk : hp h k = some (.row tag sz (es.map fun e => e.map .t))) :
    Weak σ0 ⟨ts, hp h⟩ ⟨ts.map (mapAV (frzLeaf k es)), hp ((k, .row .vec sz (es.map fun e => e.map .t)) :: h)⟩ := by
  intro ρ0 F0 W ρ F a w hE s
  obtain ⟨F', z⟩ := frz_core s k es hk
  obtain ⟨hd, hts, hst⟩ := s
  refine ⟨ρ, F', hd, hts.map z.leaf, hst.keep, Fz.le_trans hst.fle z.le, hst.ile, ⟨fun j => ?_, fun j b hb => ?_, hst.heap.inj, fun b o ho => ?_, fun r ho => ?_⟩, fun W F0 U x => ?_⟩
  · show upd (hp h) k _ j = none ↔ _
    by_cases hj : j = k
    · subst hj
      rw [upd_same]
      have := hst.heap.dom j
      simp only at this
      rw [hk] at this
      simpa using this
    · rw [upd_ne _ hj]; exact hst.heap.dom j
  · change upd (hp h) k _ j = some b at hb
    by_cases hj : j = k
    · subst hj
      rw [upd_same] at hb; cases hb
      exact z.blk
    · rw [upd_ne _ hj] at hb
      refine (hst.heap.blk j b hb).keep (Keep.refl _ _) z.le ρ.le_refl rfl fun p n hp1 hp2 => ⟨rfl, fun o ho => ?_, fun ho => by rw [z.obj] at ho; exact ho⟩
      rcases z.cell n o ho with h | ⟨⟨p', h1, h2⟩, _⟩
      · exact h
      · exact absurd (hst.heap.inj j k p p' n hp1 h1 hp2 h2) hj
  · rcases z.cell b o ho with h | ⟨_, h⟩
    · exact hst.heap.fzc b o h
    · exact h
  · rw [z.obj] at ho; exact hst.heap.fzo r ho
  · have y := hst.fr W F0 U x
    refine ⟨y.os, y.tape, y.output, y.size, y.same, y.keep, Fz.le_trans y.fle z.le, fun b o ho => ?_, fun r ho => ?_, y.own⟩
    · rcases z.cell b o ho with h | ⟨⟨p, h1, h2⟩, _⟩
      · exact y.fnew b o h
      · exact .inr (y.own k p b h1 h2)
    · rw [z.obj] at ho; exact y.onew r ho

end Go.Dm
