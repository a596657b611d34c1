/-
  Loads and stores, new variables, literals: what they do to the abstract machine, and that the model does the same.
  Conditions: none.
-/
import Derived.Test.YtbhlfbkheijojaaEng3b
namespace Go.Dm

theorem add_off (b o n : Nat) : (⟨b, o, none⟩ : Addr).add n = ⟨b, o + n, none⟩ := by unfold Addr.add; split <;> simp_all

/-- is a type an aggregate's; how many cells it has -/
def tyOf (P : Program) (t : TypeId) : Option (Bool × Nat) :=
  match P.underlying t, P.info? t with
  | some d, some i => some ((match d with | .struct _ | .array _ _ => true | _ => false), i.size)
  | _, _ => none

theorem tyOf_run {P : Program} {t : TypeId} {ag : Bool} {n : Nat} (h : tyOf P t = some (ag, n)) (w : World) :
    (isAgg t).run P w = .ok ag w ∧ (sizeOf t).run P w = .ok n w := by
  unfold tyOf at h
  split at h
  · rename_i d i hd hi
    simp only [Option.some.injEq, Prod.mk.injEq] at h
    obtain ⟨rfl, rfl⟩ := h
    refine ⟨?_, by simp [sizeOf, typeInfo, hi]⟩
    simp only [isAgg, Sem.run_bind, run_underlying hd, Result.andThen_ok]
    cases d <;> rfl
  · cases h

def cellsV (x : List AV) (ag : Bool) (o n : Nat) : PV AV :=
  if ag then ⟨o + n ≤ x.length, .agg ((x.drop o).take n)⟩ else ⟨o < x.length, x.getD o .any⟩

def aLoad (ag : Bool) (n : Nat) (p : AV) (σ : Heap) : PV AV :=
  match p with
  | .ptr k e o =>
    match σ k with
    | some (.row _ _ es) => ⟨e < es.length ∧ (cellsV (es.getD e []) ag o n).dom, (cellsV (es.getD e []) ag o n).val⟩
    | _ => noV
  | .eptr cs o => cellsV (cs.map .t) ag o n
  | _ => noV

/-- cells that are told by a list read so -/
theorem load_cells {P : Program} {w : World} {ρ : Inj} {F : Fz} {t : TypeId} {ag : Bool} {n b off o : Nat} {x : List AV} (ht : tyOf P t = some (ag, n))
    (hx : ∀ j a, x[j]? = some a → ∃ v, w.cell? ⟨b, off + j, none⟩ = some v ∧ AR ρ F w v a) (hd : (cellsV x ag o n).dom) :
    ∃ v, (loadVar t ⟨b, off + o, none⟩).run P w = .ok v w ∧ AR ρ F w v (cellsV x ag o n).val := by
  obtain ⟨e1, e2⟩ := tyOf_run ht w
  cases ag with
  | true =>
    simp only [cellsV, if_true] at hd ⊢
    have hf : ∀ j, ∃ v, j < n → w.cell? ((⟨b, off + o, none⟩ : Addr).add j) = some v ∧ ∀ a, x[o + j]? = some a → AR ρ F w v a := fun j => by
      by_cases hj : j < n
      · obtain ⟨v, h1, h2⟩ := hx (o + j) (x[o + j]'(by omega)) (List.getElem?_eq_getElem (by omega))
        refine ⟨v, fun _ => ⟨by rw [add_off, Nat.add_assoc]; exact h1, fun a ha => ?_⟩⟩
        rw [List.getElem?_eq_getElem (by omega)] at ha
        cases ha; exact h2
      · exact ⟨undef, fun h => absurd h hj⟩
    have hf' : ∃ f : Nat → Value, ∀ j, j < n → w.cell? ((⟨b, off + o, none⟩ : Addr).add j) = some (f j) ∧ ∀ a, x[o + j]? = some a → AR ρ F w (f j) a :=
      ⟨fun j => Classical.choose (hf j), fun j => Classical.choose_spec (hf j)⟩
    obtain ⟨f, hf⟩ := hf'
    refine ⟨.agg ((List.range n).map f).toArray, ?_, ?_⟩
    · unfold loadVar
      simp only [Sem.run_bind, e1, Result.andThen_ok, if_true, e2, run_loadCells w _ n f (fun j hj => (hf j hj).1)]
      rfl
    · refine .agg (by simp; omega) fun i v a h1 h2 => ?_
      have hi : i < n := by
        rcases Nat.lt_or_ge i n with h | h
        · exact h
        · rw [List.getElem?_eq_none (by simp; omega)] at h2; cases h2
      simp only [List.getElem?_toArray, List.getElem?_map, List.getElem?_range hi, Option.map_some, Option.some.injEq] at h1
      rw [List.getElem?_take_of_lt hi, List.getElem?_drop] at h2
      exact h1 ▸ (hf i hi).2 a h2
  | false =>
    simp only [cellsV, Bool.false_eq_true, if_false] at hd ⊢
    obtain ⟨v, h1, h2⟩ := hx o (x[o]'hd) (List.getElem?_eq_getElem hd)
    refine ⟨v, ?_, ?_⟩
    · unfold loadVar
      simp only [Sem.run_bind, e1, Result.andThen_ok, Bool.false_eq_true, if_false, run_load, h1]
    · have : x.getD o .any = x[o] := by simp [List.getD, List.getElem?_eq_getElem hd]
      rw [this]; exact h2

theorem aLoad_sound {P : Program} {w : World} {ρ : Inj} {F : Fz} {σ : Heap} {t : TypeId} {ag : Bool} {n : Nat} {p : AV} {V : Value} (hh : HR ρ F w σ) (ht : tyOf P t = some (ag, n))
    (h : AR ρ F w V p) (hd : (aLoad ag n p σ).dom) : ∃ v, (Instr.loadAt t V).run P w = .ok v w ∧ AR ρ F w v (aLoad ag n p σ).val := by
  have hs : ∀ a : Addr, (Instr.loadAt t (.pointer (some a))).run P w = (loadVar t a).run P w := fun a => by simp [Instr.loadAt, Instr.sureAddr]
  unfold aLoad at hd ⊢
  cases p with
  | ptr k e o =>
    simp only at hd ⊢
    split at hd
    · rename_i tag z es hk
      have hbr := hh.blk k _ hk
      cases h with
      | ptr hρ =>
        rw [hs]
        cases hbr with
        | virt h1 _ => rw [h1] at hρ; cases hρ
        | row h1 hb hl hsz hz hc hf =>
          rw [h1] at hρ; cases hρ
          refine load_cells ht (fun j a ha => ?_) hd.2
          have hge : es[e]? = some (es.getD e []) := by simp [List.getD, List.getElem?_eq_getElem hd.1]
          obtain ⟨v, hv, hr⟩ := hc e _ hge j a ha
          exact ⟨v, by simp [World.cell?, hb, hv], hr⟩
      | ptrDead a hρ =>
        cases hbr with
        | virt h1 _ => rw [h1] at hρ; cases hρ
        | row h1 hb hl hsz hz hc hf => rw [h1] at hρ; cases hρ
    · exact hd.elim
  | eptr cs o =>
    cases h with
    | eptr vals hb hv htr =>
      rw [hs]
      refine load_cells ht (fun j a ha => ?_) hd
      simp only [List.getElem?_map, Option.map_eq_some_iff] at ha
      obtain ⟨x, hx, rfl⟩ := ha
      exact ⟨vals j, by simp [World.cell?, hb, (hv j x hx).2], .t (htr j x hx)⟩
  | _ => exact hd.elim

def flat : AV → Bool
  | .agg _ | .tup _ | .any => false
  | _ => true

theorem flat_one {ρ : Inj} {F : Fz} {w : World} {v : Value} {a : AV} (h : AR ρ F w v a) (hf : flat a = true) : v.oneCell' = true := by
  cases h with
  | t h => exact h.cells1.2
  | any => cases hf
  | agg => cases hf
  | tup => cases hf
  | _ => rfl

def splice (l : List AV) (o : Nat) (cs : List AV) : List AV := l.take o ++ (cs ++ l.drop (o + cs.length))

theorem splice_length {l : List AV} {o : Nat} {cs : List AV} (h : o + cs.length ≤ l.length) : (splice l o cs).length = l.length := by simp [splice]; omega

theorem splice_get {l : List AV} {o : Nat} {cs : List AV} (h : o + cs.length ≤ l.length) (j : Nat) :
    (splice l o cs)[j]? = if o ≤ j ∧ j < o + cs.length then cs[j - o]? else l[j]? := by
  unfold splice
  by_cases h1 : j < o
  · rw [List.getElem?_append_left (by simp; omega), if_neg (by omega), List.getElem?_take_of_lt h1]
  · rw [List.getElem?_append_right (by simp; omega)]
    have e : (l.take o).length = o := by simp; omega
    rw [e]
    by_cases h2 : j < o + cs.length
    · rw [if_pos ⟨by omega, h2⟩, List.getElem?_append_left (by omega)]
    · rw [if_neg (by omega), List.getElem?_append_right (by omega), List.getElem?_drop]
      congr 1; omega

def aStore (n : Nat) (p v : AV) (σ : Heap) : PV Ups :=
  match p with
  | .ptr k e o =>
    match σ k, avCells v with
    | some (.row tag z es), some cs =>
      ⟨tag ≠ .vec ∧ cs.all flat = true ∧ cs.length = n ∧ e < es.length ∧ o + n ≤ (es.getD e []).length, [(k, .row tag z (es.set e (splice (es.getD e []) o cs)))]⟩
    | _, _ => ⟨False, []⟩
  | _ => ⟨False, []⟩

theorem setRow_only (w : World) (g : Nat) (c : Array Value) : Only g w (w.setRow g c) :=
  ⟨rfl, rfl, rfl, by simp [World.setRow], fun k hk => setRow_other w g k c (by omega)⟩

/-- cells of a row that are written -/
theorem Stp.cells {ρ : Inj} {F : Fz} {w : World} {σ : Heap} (hh : HR ρ F w σ) {k b base sz ct : Nat} {c : Array Value} {e : TypeId} {tag : Tag} {es es' : List (List AV)} (hk : σ k = some (.row tag sz es))
    (hρ : ρ k = some (.at_ b base sz ct)) (hb : w.heap[b]? = some (.cells c e (0, 0))) (c' : Array Value) (hc' : c'.size = c.size) (hl : es'.length ≤ ct) (hz : ∀ x ∈ es', x.length = sz)
    (hcs : ∀ i x, es'[i]? = some x → ∀ j a, x[j]? = some a → ∃ v, c'[base + i * sz + j]? = some v ∧ AR ρ F w v a)
    (hf : ∀ o, F.cell b o → c'[o]? = c[o]?) (hf2 : FzOk F b tag (base + es'.length * sz)) :
    Stp ρ F w ρ F (w.setRow b c') (upd σ k (.row tag sz es')) := by
  have hb' : (w.setRow b c').heap[b]? = some (.cells c' e (0, 0)) := setRow_heap w b c c' e (0, 0) hb
  have hkeep := (setRow_only w b c').keep hb hb' hc' hf
  have hct : base + ct * sz ≤ c.size := by
    have hbr := hh.blk k _ hk
    cases hbr with
    | virt h1 _ => rw [h1] at hρ; cases hρ
    | row h1 hb2 hl2 hs2 hz2 hc2 hf2 => rw [h1] at hρ; cases hρ; rw [hb2] at hb; cases hb; exact hs2
  refine Stp.turn hh hρ (setRow_only w b c') hkeep F.le_refl (fun n o h => .inl h) (fun r h => .inl h) (fun o _ => ⟨c', e, _, hb'⟩) (fun ho => ?_) _ ?_
  · obtain ⟨es, cl, hx⟩ := hh.fzo b ho
    rw [hb] at hx; cases hx
  · refine .row hρ hb' hl (by rw [hc']; exact hct) hz (fun i x hx j a ha => ?_) hf2
    obtain ⟨v, hv, hr⟩ := hcs i x hx j a ha
    exact ⟨v, hv, hr.keep hkeep F.le_refl ρ.le_refl⟩

theorem aStore_sound {P : Program} {w : World} {ρ : Inj} {F : Fz} {σ : Heap} {t : TypeId} {n : Nat} {p x : AV} {V X : Value} (hh : HR ρ F w σ) (ht : (P.info? t).map (·.size) = some n)
    (h : AR ρ F w V p) (hx : AR ρ F w X x) (hd : (aStore n p x σ).dom) :
    ∃ w', (Instr.storeAt t V X).run P w = .ok () w' ∧ Stp ρ F w ρ F w' (updAll σ (aStore n p x σ).val) := by
  unfold aStore at hd ⊢
  cases p with
  | ptr k e o =>
    simp only at hd ⊢
    split at hd
    · rename_i tag sz es cs hk hcs
      obtain ⟨htag, hfl, hn, he, ho⟩ := hd
      have hbr := hh.blk k _ hk
      have hvs := avCells_ar hx hcs
      cases h with
      | ptrDead a hρ =>
        cases hbr with
        | virt h1 _ => rw [h1] at hρ; cases hρ
        | row h1 hb hl hsz hz hc hf => rw [h1] at hρ; cases hρ
      | @ptr _ _ _ b' base' sz' ct' hρ =>
        cases hbr with
        | virt h1 _ => rw [h1] at hρ; cases hρ
        | @row _ _ b base _ ct c ty h1 hb hl hsz hz hc hf =>
          have e0 := h1.symm.trans hρ
          simp only [Option.some.injEq, Pl.at_.injEq] at e0
          obtain ⟨rfl, rfl, rfl, rfl⟩ := e0
          have hge : es[e]? = some (es.getD e []) := by simp [List.getD, List.getElem?_eq_getElem he]
          have hlen : (es.getD e []).length = sz := hz _ (List.mem_of_getElem? hge)
          have hsize : X.cells.size = n := by rw [hvs.1, hn]
          have hesz : e * sz + sz ≤ ct * sz := by rw [← Nat.succ_mul]; exact Nat.mul_le_mul_right _ (by omega)
          have hone : ∀ v ∈ X.cells.toList, v.oneCell' = true := fun v hv => by
            obtain ⟨i, hi, rfl⟩ := List.getElem_of_mem hv
            have hi' : i < cs.length := by rw [← hvs.1]; simpa using hi
            exact flat_one (hvs.2 i _ cs[i] (by simp) (List.getElem?_eq_getElem hi')) (List.all_eq_true.1 hfl _ (List.getElem_mem hi'))
          have hrun := run_storeCells_at P b (base + e * sz + o) ty X.cells.toList 0 c w hb (by simp [hsize]; omega) hone
          refine ⟨w.setRow b (c.toList.take (base + e * sz + o + 0) ++ X.cells.toList ++ c.toList.drop (base + e * sz + o + 0 + X.cells.toList.length)).toArray, ?_, ?_⟩
          · obtain ⟨i, hi, hi2⟩ := Option.map_eq_some_iff.1 ht
            simp only [Instr.storeAt, Instr.sureAddr, storeVar, Sem.run_bind, Sem.run_pure, Result.andThen_ok, sizeOf, typeInfo, run_program, hi, hi2, hsize, ne_eq, not_true_eq_false, if_false]
            exact hrun
          · show Stp ρ F w ρ F _ (upd σ k _)
            have hno : ∀ o', ¬ F.cell b o' := by
              cases tag with
              | vec => exact absurd rfl htag
              | var => exact hf
              | lone => exact hf
            have hcl : (c.toList.take (base + e * sz + o + 0) ++ X.cells.toList ++ c.toList.drop (base + e * sz + o + 0 + X.cells.toList.length)).length = c.toList.length := by
              simp [hsize]; omega
            refine Stp.cells hh hk h1 hb _ (by simpa using hcl) (by simpa using hl) (fun y hy => ?_) (fun i y hy j a ha => ?_) (fun o' ho' => absurd ho' (hno o')) ?_
            · rcases List.mem_or_eq_of_mem_set hy with hy | rfl
              · exact hz y hy
              · rw [splice_length (by rw [hn]; exact ho)]; exact hlen
            · rw [List.getElem?_set] at hy
              have idx : ∀ q, (c.toList.take (base + e * sz + o + 0) ++ X.cells.toList ++ c.toList.drop (base + e * sz + o + 0 + X.cells.toList.length)).toArray[q]? =
                  if base + e * sz + o ≤ q ∧ q < base + e * sz + o + n then X.cells[q - (base + e * sz + o)]? else c[q]? := fun q => by
                simp only [List.getElem?_toArray, Nat.add_zero, Array.length_toList, hsize]
                by_cases q1 : q < base + e * sz + o
                · rw [List.append_assoc, List.getElem?_append_left (by simp; omega), List.getElem?_take_of_lt q1, if_neg (by omega)]; simp
                · have l1 : (c.toList.take (base + e * sz + o)).length = base + e * sz + o := by simp; omega
                  rw [List.append_assoc, List.getElem?_append_right (by rw [l1]; omega), l1]
                  by_cases q2 : q < base + e * sz + o + n
                  · rw [List.getElem?_append_left (by simp [hsize]; omega), if_pos ⟨by omega, q2⟩]; simp
                  · rw [List.getElem?_append_right (by simp [hsize]; omega), List.getElem?_drop, if_neg (by omega)]
                    simp only [Array.length_toList, hsize, Array.getElem?_toList]
                    congr 1; omega
              by_cases hie : e = i
              · subst hie
                rw [if_pos rfl, if_pos he] at hy
                simp only [Option.some.injEq] at hy
                subst hy
                rw [splice_get (by rw [hn]; exact ho)] at ha
                by_cases hj : o ≤ j ∧ j < o + cs.length
                · rw [if_pos hj] at ha
                  have hq : j - o < X.cells.size := by rw [hsize]; omega
                  refine ⟨X.cells[j - o], ?_, hvs.2 (j - o) _ a (by simp [hq]) ha⟩
                  rw [idx, if_pos ⟨by omega, by omega⟩]
                  have : base + e * sz + j - (base + e * sz + o) = j - o := by omega
                  rw [this]; simp [hq]
                · rw [if_neg hj] at ha
                  obtain ⟨v, hv, hr⟩ := hc e _ hge j a ha
                  refine ⟨v, ?_, hr⟩
                  rw [idx, if_neg (by omega)]; exact hv
              · rw [if_neg hie] at hy
                obtain ⟨v, hv, hr⟩ := hc i y hy j a ha
                refine ⟨v, ?_, hr⟩
                have hj : j < sz := by
                  have := hz y (List.mem_of_getElem? hy)
                  rcases Nat.lt_or_ge j y.length with h | h
                  · omega
                  · rw [List.getElem?_eq_none h] at ha; cases ha
                have : ¬ (base + e * sz + o ≤ base + i * sz + j ∧ base + i * sz + j < base + e * sz + o + n) := by
                  rcases Nat.lt_or_gt_of_ne hie with h | h
                  · have : (e + 1) * sz ≤ i * sz := Nat.mul_le_mul_right _ h
                    rw [Nat.succ_mul] at this; omega
                  · have : (i + 1) * sz ≤ e * sz := Nat.mul_le_mul_right _ h
                    rw [Nat.succ_mul] at this; omega
                rw [idx, if_neg this]; exact hv
            · cases tag with
              | vec => exact absurd rfl htag
              | var => exact hf
              | lone => exact hf
    · exact hd.elim
  | _ => exact hd.elim

end Go.Dm
