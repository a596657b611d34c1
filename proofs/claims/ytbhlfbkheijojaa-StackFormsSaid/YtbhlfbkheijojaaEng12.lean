/-
  Maps: store. Made slices, zeroed cells.
  Conditions: none.
-/
import Derived.Test.YtbhlfbkheijojaaEng11
namespace Go.Dm

/-- the world behind a store into an object's block -/
def setO (w : World) (r : Nat) (o : Obj) : World := { w with heap := w.heap.setIfInBounds r o }

theorem setO_only (w : World) (r : Nat) (o : Obj) : Only r w (setO w r o) :=
  ⟨rfl, rfl, rfl, by simp [setO], fun k hk => by simp [setO, Ne.symm hk]⟩

theorem setO_get {w : World} {r : Nat} {o o' : Obj} (h : w.heap[r]? = some o) : (setO w r o').heap[r]? = some o' := by
  have hr : r < w.heap.size := by
    rcases Nat.lt_or_ge r w.heap.size with hlt | hge
    · exact hlt
    · rw [Array.getElem?_eq_none hge] at h; cases h
  simp [setO, hr]

theorem run_setObj {P : Program} {w : World} {r : Nat} {es : Array MapEntry} {cl : Nat} (o : Obj) (h : w.heap[r]? = some (.map es cl)) : (setObj r o).run P w = .ok () (setO w r o) := by
  simp [setObj, Sem.run, h, setO]

theorem setO_keep {F : Fz} {w : World} {r : Nat} {es : Array MapEntry} {cl : Nat} (o : Obj) (h : w.heap[r]? = some (.map es cl)) (hf : ¬ F.obj r) : Keep F w (setO w r o) := by
  refine ⟨fun b c e fz hx => ⟨c, ?_, rfl, fun _ _ => rfl⟩, fun q es' cl' hq hx => ?_⟩
  · have : b ≠ r := fun e' => by subst e'; rw [h] at hx; cases hx
    rw [(setO_only w r o).other b this]; exact hx
  · have : q ≠ r := fun e' => by subst e'; exact hf hq
    rw [(setO_only w r o).other q this]; exact hx

theorem getElem?_lt {α : Type} {a : Array α} {i : Nat} {x : α} (h : a[i]? = some x) : i < a.size := by
  rcases Nat.lt_or_ge i a.size with hlt | hge
  · exact hlt
  · rw [Array.getElem?_eq_none hge] at h; cases h

theorem nodup_set {α : Type} {l : List α} {i : Nat} {x : α} (h : l.Nodup) (hi : l[i]? = some x) : (l.set i x).Nodup := by
  have : l.set i x = l := by
    apply List.ext_getElem?
    intro j
    rw [List.getElem?_set]
    split
    · rename_i e
      subst e
      rw [if_pos (lt_of_get hi), hi]
    · rfl
  rw [this]; exact h

/-- entries of which one holds something else -/
theorem MapIs.modify {α : Type} {kd : Nat} {es : Array MapEntry} {clock : Nat} {m : MKey → Option α} {vals : MKey → Value} (h : MapIs kd es clock m vals) {k : MKey} {j : Nat} {e : MapEntry} (hj : es[j]? = some e) (he : e.key = k.val)
    (hk : (m k).isSome) (x : α) (X : Value) :
    MapIs kd (es.modify j fun e => { e with key := k.val, val := X }) clock (updM m k x) (fun i => if i = k then X else vals i) := by
  have hjl := getElem?_lt hj
  have hkd : k.kd = kd := by
    obtain ⟨k', q1, q2, q3⟩ := h.keys e (by rw [← Array.getElem?_toList] at hj; exact List.mem_of_getElem? hj)
    rw [← MKey.val_inj (q1.symm.trans he)]; exact q3
  have hget : ∀ (i : Nat) (y : MapEntry), (es.modify j fun e => { e with key := k.val, val := X })[i]? = some y → (i = j ∧ y = { e with key := k.val, val := X }) ∨ (i ≠ j ∧ es[i]? = some y) := fun i y hy => by
    rw [Array.getElem?_modify] at hy
    split at hy
    · rename_i e'
      subst e'
      rw [hj] at hy
      simp only [Option.map_some, Option.some.injEq] at hy
      exact .inl ⟨rfl, hy.symm⟩
    · rename_i e'; exact .inr ⟨fun q => e' q.symm, hy⟩
  have hmem : ∀ y ∈ (es.modify j fun e => { e with key := k.val, val := X }).toList, ∃ i, (es.modify j fun e => { e with key := k.val, val := X })[i]? = some y := fun y hy => by
    obtain ⟨i, hi, rfl⟩ := List.getElem_of_mem hy
    exact ⟨i, by rw [← Array.getElem?_toList, List.getElem?_eq_getElem hi]⟩
  have hkeys : (es.modify j fun e => { e with key := k.val, val := X }).toList.map (·.key) = es.toList.map (·.key) := by
    apply List.ext_getElem?
    intro i
    simp only [List.getElem?_map, Array.getElem?_toList, Array.getElem?_modify]
    split
    · rename_i e'; subst e'; simp [hj, he]
    · rfl
  have hborn : (es.modify j fun e => { e with key := k.val, val := X }).toList.map (·.born) = es.toList.map (·.born) := by
    apply List.ext_getElem?
    intro i
    simp only [List.getElem?_map, Array.getElem?_toList, Array.getElem?_modify]
    split
    · rename_i e'; subst e'; simp [hj]
    · rfl
  refine ⟨fun y hy => ?_, fun i hi => ?_, by rw [hkeys]; exact h.once, by rw [hborn]; exact h.born, fun y hy => ?_⟩
  · obtain ⟨i, hi⟩ := hmem y hy
    rcases hget i y hi with ⟨_, rfl⟩ | ⟨_, hy'⟩
    · exact ⟨k, rfl, by simp [updM], hkd⟩
    · obtain ⟨k', q1, q2, q3⟩ := h.keys y (by rw [← Array.getElem?_toList] at hy'; exact List.mem_of_getElem? hy')
      refine ⟨k', q1, ?_, q3⟩
      unfold updM; split
      · rfl
      · exact q2
  · by_cases hik : i = k
    · subst hik
      refine ⟨{ e with key := i.val, val := X }, ?_, rfl, by simp⟩
      have : (es.modify j fun e => { e with key := i.val, val := X })[j]? = some { e with key := i.val, val := X } := by
        rw [Array.getElem?_modify, if_pos rfl, hj]; rfl
      rw [← Array.getElem?_toList] at this
      exact List.mem_of_getElem? this
    · have hi' : (m i).isSome := by simpa [updM, hik] using hi
      obtain ⟨y, hy, q1, q2⟩ := h.has i hi'
      obtain ⟨n, hn, rfl⟩ := List.getElem_of_mem hy
      have hnj : n ≠ j := fun e' => by
        subst e'
        have : es.toList[n] = e := by
          have h2 : es.toList[n]? = some e := by simpa using hj
          rw [List.getElem?_eq_getElem hn] at h2
          exact Option.some.inj h2
        rw [this, he] at q1
        exact hik (MKey.val_inj q1.symm)
      refine ⟨es.toList[n], ?_, q1, by rw [if_neg hik]; exact q2⟩
      have : (es.modify j fun e => { e with key := k.val, val := X })[n]? = some es.toList[n] := by
        rw [Array.getElem?_modify, if_neg (Ne.symm hnj)]
        simp at hn ⊢
      rw [← Array.getElem?_toList] at this
      exact List.mem_of_getElem? this
  · obtain ⟨i, hi⟩ := hmem y hy
    rcases hget i y hi with ⟨_, rfl⟩ | ⟨_, hy'⟩
    · exact h.clock e (by rw [← Array.getElem?_toList] at hj; exact List.mem_of_getElem? hj)
    · exact h.clock y (by rw [← Array.getElem?_toList] at hy'; exact List.mem_of_getElem? hy')

/-- entries to which one has come -/
theorem MapIs.push {α : Type} {kd : Nat} {es : Array MapEntry} {clock : Nat} {m : MKey → Option α} {vals : MKey → Value} (h : MapIs kd es clock m vals) {k : MKey} (hkd : k.kd = kd) (hk : m k = none) (x : α) (X : Value) :
    MapIs kd (es.push { key := k.val, val := X, born := clock }) (clock + 1) (updM m k x) (fun i => if i = k then X else vals i) := by
  have hno : ∀ y ∈ es.toList, y.key ≠ k.val := fun y hy e => by
    obtain ⟨k', q1, q2, _⟩ := h.keys y hy
    rw [MKey.val_inj (q1.symm.trans e), hk] at q2; cases q2
  refine ⟨fun y hy => ?_, fun i hi => ?_, ?_, ?_, fun y hy => ?_⟩
  · simp only [Array.toList_push, List.mem_append, List.mem_singleton] at hy
    rcases hy with hy | rfl
    · obtain ⟨k', q1, q2, q3⟩ := h.keys y hy
      refine ⟨k', q1, ?_, q3⟩
      unfold updM; split
      · rfl
      · exact q2
    · exact ⟨k, rfl, by simp [updM], hkd⟩
  · by_cases hik : i = k
    · subst hik
      exact ⟨{ key := i.val, val := X, born := clock }, by simp, rfl, by simp⟩
    · have hi' : (m i).isSome := by simpa [updM, hik] using hi
      obtain ⟨y, hy, q1, q2⟩ := h.has i hi'
      exact ⟨y, by simp only [Array.toList_push, List.mem_append]; exact .inl hy, q1, by rw [if_neg hik]; exact q2⟩
  · simp only [Array.toList_push, List.map_append, List.map_cons, List.map_nil, List.nodup_append]
    refine ⟨h.once, by simp, fun a ha b hb => ?_⟩
    obtain ⟨y, hy, rfl⟩ := List.mem_map.1 ha
    simp only [List.mem_singleton] at hb
    subst hb
    exact hno y hy
  · simp only [Array.toList_push, List.map_append, List.map_cons, List.map_nil, List.nodup_append]
    refine ⟨h.born, by simp, fun a ha b hb => ?_⟩
    obtain ⟨y, hy, rfl⟩ := List.mem_map.1 ha
    simp only [List.mem_singleton] at hb
    subst hb
    have := h.clock y hy; omega
  · simp only [Array.toList_push, List.mem_append, List.mem_singleton] at hy
    rcases hy with hy | rfl
    · have := h.clock y hy; omega
    · simp

theorem EntsAre.upd {ρ : Inj} {F : Fz} {w : World} {kd : Nat} {arr : Array MapEntry} {es : Ents} (h : EntsAre ρ F w kd arr es) {j : Nat} {x : MKey × AV × Nat} {k : MKey} {e : MapEntry} (hx : es[j]? = some x) (hk : x.1 = k) (he : arr[j]? = some e) (hb : e.born = x.2.2)
    {V : Value} {v : AV} (hv : AR ρ F w V v) (c : Nat) : EntsAre ρ F w kd (arr.modify j fun e => { e with key := k.val, val := V }) (mput k v c es) := by
  rw [mput_old h.once hx hk]
  refine ⟨by simp [h.size], fun i y hy => ?_, fun y hy => ?_, ?_⟩
  · rw [List.getElem?_set] at hy
    rw [Array.getElem?_modify]
    split at hy
    · rename_i e'
      subst e'
      rw [if_pos (lt_of_get hx)] at hy
      cases hy
      refine ⟨V, ?_, hv⟩
      rw [if_pos rfl, he]
      simp [hk, hb]
    · rename_i e'
      rw [if_neg e']
      exact h.at_ i y hy
  · rcases List.mem_or_eq_of_mem_set hy with h1 | h1
    · exact h.kd y h1
    · subst h1; exact h.kd x (List.mem_of_getElem? hx)
  · have : (es.set j (x.1, v, x.2.2)).map (·.1) = es.map (·.1) := by
      apply List.ext_getElem?
      intro i
      simp only [List.getElem?_map, List.getElem?_set]
      split
      · rename_i e'; subst e'; rw [if_pos (lt_of_get hx), hx]; rfl
      · rfl
    rw [this]; exact h.once

theorem EntsAre.push {ρ : Inj} {F : Fz} {w : World} {kd : Nat} {arr : Array MapEntry} {es : Ents} (h : EntsAre ρ F w kd arr es) {k : MKey} (hkd : k.kd = kd) (hk : mget k es = none) {V : Value} {v : AV} (hv : AR ρ F w V v) (c : Nat) :
    EntsAre ρ F w kd (arr.push { key := k.val, val := V, born := c }) (mput k v c es) := by
  rw [mput_new hk]
  refine ⟨by simp [h.size], fun i y hy => ?_, fun y hy => ?_, ?_⟩
  · rw [List.getElem?_append] at hy
    split at hy
    · rename_i hi
      obtain ⟨v', h1, h2⟩ := h.at_ i y hy
      refine ⟨v', ?_, h2⟩
      rw [Array.getElem?_push, if_neg (by have := h.size; omega)]
      exact h1
    · rename_i hi
      have hi' : i = es.length := by
        have := lt_of_get hy
        simp only [List.length_cons, List.length_nil] at this
        omega
      subst hi'
      simp at hy
      subst hy
      refine ⟨V, ?_, hv⟩
      rw [Array.getElem?_push, if_pos h.size.symm]
  · rcases List.mem_append.1 hy with h1 | h1
    · exact h.kd y h1
    · simp at h1; subst h1; exact hkd
  · rw [List.map_append, List.nodup_append]
    refine ⟨h.once, by simp, fun a ha b hb => ?_⟩
    obtain ⟨y, hy, rfl⟩ := List.mem_map.1 ha
    simp at hb
    subst hb
    exact mget_none.1 hk y hy

theorem EntsAre.keep {ρ ρ' : Inj} {F G : Fz} {w w' : World} {kd : Nat} {arr : Array MapEntry} {es : Ents} (h : EntsAre ρ F w kd arr es) (hk : Keep F w w') (hl : F.le G) (hi : ρ.le ρ') : EntsAre ρ' G w' kd arr es :=
  ⟨h.size, fun i x hx => let ⟨v, h1, h2⟩ := h.at_ i x hx; ⟨v, h1, h2.keep hk hl hi⟩, h.kd, h.once⟩

theorem aMapUpd_sound {P : Program} {ρ : Inj} {F : Fz} {w : World} {σ : Heap} (hh : HR ρ F w σ) {t kt et : TypeId} {kd : Nat} {m k v : AV} {M K V : Value} (ht : P.underlying t = some (.map kt et)) (hk : KeyTy P kt kd)
    (hm : AR ρ F w M m) (hkk : AR ρ F w K k) (hv : AR ρ F w V v) (hd : (aMapUpd kd m k v σ).dom) :
    ∃ w', (Instr.mapUpdate t M K V).run P w = .ok () w' ∧ Stp ρ F w ρ F w' (updAll σ (aMapUpd kd m k v σ).val) := by
  unfold aMapUpd at hd ⊢
  split at hd
  · rename_i key r hkey
    have hK := keyOf_val hkk hkey
    subst hK
    split at hd
    · rename_i kd' f hr
      obtain ⟨h1, h2⟩ := hd
      subst h2
      cases hh.blk r _ hr with
      | @map _ _ b base sz ct es clock vals hρ' hb hmi hvv hf =>
        cases hm with
        | maprDead r hρ => rw [hρ] at hρ'; cases hρ'
        | mapr hρ =>
          rw [hρ] at hρ'
          cases hρ'
          obtain ⟨q, hq, hqf⟩ := hk.find key es.toList w h1 (fun e he => by obtain ⟨k', a1, _, a3⟩ := hmi.keys e he; exact ⟨k', a1, a3⟩)
          have hg : (getObj b).run P w = .ok (.map es clock) w := by simp [getObj, Sem.run, hb]
          have hc := fun bb => hk.check bb key w h1
          have fin : ∀ o : Obj, (∃ es' cl' vals', o = .map es' cl' ∧ MapIs kd' es' cl' (updM f key v) vals' ∧ (∀ i a, updM f key v i = some a → AR ρ F w (vals' i) a)) →
              Stp ρ F w ρ F (setO w b o) (upd σ r (.map kd' (updM f key v))) := by
            rintro o ⟨es', cl', vals', rfl, g1, g2⟩
            have hkeep := setO_keep (F := F) (.map es' cl') hb hf
            refine Stp.turn hh hρ (setO_only w b _) hkeep F.le_refl (fun n o h => .inl h) (fun r h => .inl h) (fun o ho => ?_) (fun ho => absurd ho hf) _ ?_
            · obtain ⟨c, e, fz, hx⟩ := hh.fzc b o ho
              rw [hb] at hx; cases hx
            · exact .map hρ (setO_get hb) g1 (fun i a ha => (g2 i a ha).keep hkeep F.le_refl ρ.le_refl) hf
          have vals2 : ∀ i a, updM f key v i = some a → AR ρ F w (if i = key then V else vals i) a := fun i a ha => by
            unfold updM at ha
            split at ha
            · rename_i e; subst e
              simp only [Option.some.injEq] at ha
              subst ha
              simpa using hv
            · rename_i e
              rw [if_neg e]
              exact hvv i a ha
          rcases hmi.found hqf with ⟨e1, e2⟩ | ⟨j, e, e1, e2, e3, e4⟩
          · subst e1
            refine ⟨_, ?_, fin (.map (es.push { key := key.val, val := V, born := clock }) (clock + 1)) ⟨_, _, _, rfl, hmi.push h1 e2 v V, vals2⟩⟩
            unfold Instr.mapUpdate
            simp [run_underlying ht, hg, hc, hq, run_setObj _ hb]
          · subst e1
            refine ⟨_, ?_, fin (.map (es.modify j fun e => { e with key := key.val, val := V }) clock) ⟨_, _, _, rfl, hmi.modify e3 e4 e2 v V, vals2⟩⟩
            unfold Instr.mapUpdate
            have hs : Instr.sameBits 10000 e.key key.val = true := by rw [e4]; exact sameBits_key key
            simp [run_underlying ht, hg, hc, hq, e3, Instr.keyThatStays, hs, run_setObj _ hb]
    · rename_i kd' es cl hr
      obtain ⟨h1, h2⟩ := hd
      subst h2
      cases hh.blk r _ hr with
      | @mapl _ _ b base sz ct _ arr hρ' hb hsz hat hkd hn hf =>
        cases hm with
        | maprDead r hρ => rw [hρ] at hρ'; cases hρ'
        | mapr hρ =>
          rw [hρ] at hρ'
          cases hρ'
          have hE : EntsAre ρ F w kd' arr es := ⟨hsz, hat, hkd, hn⟩
          obtain ⟨q, hq, hqf⟩ := hk.find key arr.toList w h1 hE.keys
          have hg : (getObj b).run P w = .ok (.map arr cl) w := by simp [getObj, Sem.run, hb]
          have hc := fun bb => hk.check bb key w h1
          have fin : ∀ (arr' : Array MapEntry) (cl' : Nat), EntsAre ρ F w kd' arr' (mput key v cl es) →
              Stp ρ F w ρ F (setO w b (.map arr' cl')) (upd σ r (.mapl kd' (mput key v cl es) cl')) := by
            intro arr' cl' g1
            have hkeep := setO_keep (F := F) (.map arr' cl') hb hf
            refine Stp.turn hh hρ (setO_only w b _) hkeep F.le_refl (fun n o h => .inl h) (fun r h => .inl h) (fun o ho => ?_) (fun ho => absurd ho hf) _ ?_
            · obtain ⟨c, e, fz, hx⟩ := hh.fzc b o ho
              rw [hb] at hx; cases hx
            · have g2 := g1.keep hkeep F.le_refl ρ.le_refl
              exact .mapl hρ (setO_get hb) g2.size g2.at_ g2.kd g2.once hf
          rcases hE.found hqf with ⟨e1, e2⟩ | ⟨j, v', x, e1, e2, e3, e4, e5, e6⟩
          · subst e1
            have := fin _ (cl + 1) (hE.push h1 e2 hv cl)
            rw [e2]
            refine ⟨_, ?_, this⟩
            unfold Instr.mapUpdate
            simp [run_underlying ht, hg, hc, hq, run_setObj _ hb]
          · subst e1
            have := fin _ cl (hE.upd e2 e3 e4 rfl hv cl)
            rw [e6]
            refine ⟨_, ?_, this⟩
            unfold Instr.mapUpdate
            have hs : Instr.sameBits 10000 key.val key.val = true := sameBits_key key
            simp [run_underlying ht, hg, hc, hq, e4, Instr.keyThatStays, hs, run_setObj _ hb]
    · exact hd.elim
  · exact hd.elim

end Go.Dm
