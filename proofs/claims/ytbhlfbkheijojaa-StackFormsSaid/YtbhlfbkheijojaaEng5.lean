/-
  New variables, structs, literals of slices, made slices, slicing, maps: what they do to the abstract machine, and that the model does the same.
  Conditions: none.
-/
import Derived.Test.YtbhlfbkheijojaaEng4
namespace Go.Dm

theorem ValsAR.nth {ρ : Inj} {F : Fz} {w : World} {c : Array Value} {cs : List AV} (h : ValsAR ρ F w c cs) {j : Nat} {a : AV} (ha : cs[j]? = some a) : ∃ v, c[j]? = some v ∧ AR ρ F w v a := by
  have hj : j < cs.length := by
    rcases Nat.lt_or_ge j cs.length with h | h
    · exact h
    · rw [List.getElem?_eq_none h] at ha; cases ha
  have hj' : j < c.size := by rw [h.1]; exact hj
  exact ⟨c[j], by simp [hj'], h.2 j _ _ (by simp [hj']) ha⟩

theorem absC_vals (ρ : Inj) (F : Fz) (w : World) (c : Array Value) : ValsAR ρ F w c (c.toList.map absC) := by
  refine ⟨by simp, fun i v a h1 h2 => ?_⟩
  simp only [List.getElem?_map, Array.getElem?_toList, h1, Option.map_some, Option.some.injEq] at h2
  exact h2 ▸ AR.absC ρ F w v

/-- a type's zero, cell by cell -/
def zeroOf (P : Program) (t : TypeId) : Option (List AV) := ((P.info? t).bind (·.zero)).map fun z => z.cells.toList.map absC

def newVarV (d : Nat) (cs : List AV) (σ : Heap) : PV (AV × Ups) := ⟨σ d = none, (.ptr d 0 0, [(d, .row .var cs.length [cs])])⟩

theorem newVar_sound {ρ : Inj} {F : Fz} {w : World} {σ : Heap} (hh : HR ρ F w σ) {d : Nat} {cs : List AV} (t : TypeId) (c : Array Value) (hc : ValsAR ρ F w c cs) (hd : σ d = none) :
    ∃ ρ', AR ρ' F (w.alloc (.cells c t)) (.pointer (some ⟨w.heap.size, 0, none⟩)) (.ptr d 0 0) ∧ Stp ρ F w ρ' F (w.alloc (.cells c t)) (upd σ d (.row .var cs.length [cs])) := by
  refine ⟨setI ρ d (.at_ w.heap.size 0 cs.length 1), ?_, ?_⟩
  · have := @AR.ptr (setI ρ d (.at_ w.heap.size 0 cs.length 1)) F (w.alloc (.cells c t)) d 0 0 w.heap.size 0 cs.length 1 (setI_same _ _ _)
    simpa using this
  · refine Stp.newRow hh hd c t .var [cs] cs.length 1 (by simp) (by rw [hc.1]; omega) (by simp) (fun i x hx j a ha => ?_)
    cases i with
    | zero =>
      simp only [List.getElem?_cons_zero, Option.some.injEq] at hx
      subst hx
      simpa using hc.nth ha
    | succ i => simp at hx

theorem alloc_sound {P : Program} {ρ : Inj} {F : Fz} {w : World} {σ : Heap} (hh : HR ρ F w σ) {d : Nat} {t : TypeId} {zs : List AV} (hz : zeroOf P t = some zs) (hd : (newVarV d zs σ).dom) :
    ∃ v w' ρ', (Instr.alloc t true (.tuple #[])).run P w = .ok v w' ∧ AR ρ' F w' v (newVarV d zs σ).val.1 ∧ Stp ρ F w ρ' F w' (updAll σ (newVarV d zs σ).val.2) := by
  unfold zeroOf at hz
  obtain ⟨z, hz1, rfl⟩ := Option.map_eq_some_iff.1 hz
  obtain ⟨i, hi, hi2⟩ := Option.bind_eq_some_iff.1 hz1
  obtain ⟨ρ', h1, h2⟩ := newVar_sound hh t z.cells (absC_vals ρ F w z.cells) hd
  refine ⟨_, _, ρ', ?_, h1, h2⟩
  simp [Instr.alloc, zeroValue, typeInfo, hi, hi2, newVar, newRow]

theorem box_sound {P : Program} {ρ : Inj} {F : Fz} {w : World} {σ : Heap} (hh : HR ρ F w σ) {d : Nat} {t : TypeId} {x : AV} {X : Value} {cs : List AV} (hx : AR ρ F w X x) (hc : avCells x = some cs)
    (hd : (newVarV d cs σ).dom) :
    ∃ v w' ρ', (Instr.box t X).run P w = .ok v w' ∧ AR ρ' F w' v (newVarV d cs σ).val.1 ∧ Stp ρ F w ρ' F w' (updAll σ (newVarV d cs σ).val.2) := by
  obtain ⟨ρ', h1, h2⟩ := newVar_sound hh t X.cells (avCells_ar hx hc) hd
  exact ⟨_, _, ρ', by simp [Instr.box, newVar, newRow], h1, h2⟩

/-- parts laid over cells -/
def fillV (place : Nat → Option (Nat × Nat)) (cells : List AV) : List (Nat × AV) → Option (List AV)
  | [] => some cells
  | (i, v) :: rest =>
    match place i, avCells v with
    | some (off, size), some cs => if cs.length = size ∧ off + size ≤ cells.length then fillV place (splice cells off cs) rest else none
    | _, _ => none

theorem foldl_set (off : Nat) : ∀ (l : List (Value × Nat)) (cs : Array Value), (l.foldl (fun cs (c, j) => cs.setIfInBounds (off + j) c) cs).size = cs.size := by
  intro l
  induction l with
  | nil => intro cs; rfl
  | cons x l ih => intro cs; rw [List.foldl_cons, ih]; simp

theorem foldl_zip_get (off : Nat) : ∀ (vs : List Value) (s : Nat) (cs : Array Value), off + s + vs.length ≤ cs.size → ∀ q,
    ((vs.zipIdx s).foldl (fun cs (c, j) => cs.setIfInBounds (off + j) c) cs)[q]? = if off + s ≤ q ∧ q < off + s + vs.length then vs[q - (off + s)]? else cs[q]? := by
  intro vs
  induction vs with
  | nil => intro s cs h q; simp; intro h1 h2; omega
  | cons v vs ih =>
    intro s cs h q
    simp only [List.length_cons] at h
    rw [List.zipIdx_cons, List.foldl_cons, ih (s + 1) _ (by simp; omega) q]
    simp only [List.length_cons]
    by_cases h1 : off + (s + 1) ≤ q ∧ q < off + (s + 1) + vs.length
    · rw [if_pos h1, if_pos (by omega)]
      have : q - (off + s) = (q - (off + (s + 1))) + 1 := by omega
      rw [this, List.getElem?_cons_succ]
    · rw [if_neg h1, Array.getElem?_setIfInBounds]
      by_cases h2 : off + s = q
      · rw [if_pos h2, if_pos (by omega), if_pos (by omega)]
        have : q - (off + s) = 0 := by omega
        rw [this]; rfl
      · rw [if_neg h2, if_neg (by omega)]

theorem fill_sound {ρ : Inj} {F : Fz} {w : World} {place : Nat → Option (Nat × Nat)} : ∀ (vs : List (Nat × Value)) (as : List (Nat × AV)) (c : Array Value) (cs out : List AV),
    ValsAR ρ F w c cs → vs.length = as.length → (∀ (i : Nat) (x : Nat × Value) (y : Nat × AV), vs[i]? = some x → as[i]? = some y → x.1 = y.1 ∧ AR ρ F w x.2 y.2) → fillV place cs as = some out →
    ∃ c', Instr.fill place c vs = some c' ∧ ValsAR ρ F w c' out := by
  intro vs
  induction vs with
  | nil =>
    intro as c cs out hc hl _ hf
    cases as with
    | nil => simp only [fillV, Option.some.injEq] at hf; subst hf; exact ⟨c, rfl, hc⟩
    | cons => cases hl
  | cons x vs ih =>
    intro as c cs out hc hl ha hf
    cases as with
    | nil => cases hl
    | cons y as =>
      obtain ⟨i, v⟩ := x
      obtain ⟨i', a⟩ := y
      obtain ⟨e1, e2⟩ := ha 0 _ _ rfl rfl
      simp only at e1 e2
      subst e1
      simp only [fillV] at hf
      split at hf
      · rename_i off size cs1 hp hcs
        split at hf
        · rename_i hsz
          have hv := avCells_ar e2 hcs
          have hszv : v.cells.size = size := by rw [hv.1]; exact hsz.1
          have hcsz : off + size ≤ c.size := by rw [hc.1]; exact hsz.2
          have hget := foldl_zip_get off v.cells.toList 0 c (by simp [hszv]; omega)
          have hsz1 := foldl_set off (v.cells.toList.zipIdx) c
          have hfl : v.cells.zipIdx.foldl (fun cs (c, j) => cs.setIfInBounds (off + j) c) c = (v.cells.toList.zipIdx).foldl (fun cs (c, j) => cs.setIfInBounds (off + j) c) c := by
            rw [← Array.foldl_toList]; simp
          have hstep : ValsAR ρ F w (v.cells.zipIdx.foldl (fun cs (c, j) => cs.setIfInBounds (off + j) c) c) (splice cs off cs1) := by
            rw [hfl]
            refine ⟨by rw [hsz1, splice_length (by rw [hsz.1]; exact hsz.2)]; exact hc.1, fun q u b hu hb => ?_⟩
            rw [hget q] at hu
            rw [splice_get (by rw [hsz.1]; exact hsz.2) q] at hb
            simp only [Nat.add_zero, Array.length_toList, hszv] at hu
            rw [hsz.1] at hb
            by_cases hq : off ≤ q ∧ q < off + size
            · rw [if_pos hq] at hu hb
              exact hv.2 (q - off) u b (by simpa using hu) hb
            · rw [if_neg hq] at hu hb
              exact hc.2 q u b hu hb
          obtain ⟨c', h1, h2⟩ := ih as _ (splice cs off cs1) out hstep (by simpa using hl)
            (fun i x y h1 h2 => ha (i + 1) x y (by simpa using h1) (by simpa using h2)) hf
          refine ⟨c', ?_, h2⟩
          simp only [Instr.fill, hp]
          rw [if_neg (by simp [hszv]; omega)]
          exact h1
        · cases hf
      · cases hf

/-- a struct's parts: the place of each field -/
def fieldPlaces (P : Program) : List Field → Option (List (Nat × Nat))
  | [] => some []
  | f :: r => match P.info? f.type, fieldPlaces P r with
    | some i, some l => some ((f.offset, i.size) :: l)
    | _, _ => none

theorem places_run {P : Program} (w : World) : ∀ (fs : List Field) (pl : List (Nat × Nat)), fieldPlaces P fs = some pl →
    (fs.mapM (fun f => do pure (f.offset, ← sizeOf f.type) : Field → Sem (Nat × Nat))).run P w = .ok pl w := by
  intro fs
  induction fs with
  | nil => intro pl h; simp only [fieldPlaces, Option.some.injEq] at h; subst h; simp [List.mapM_nil]
  | cons f r ih =>
    intro pl h
    simp only [fieldPlaces] at h
    split at h
    · rename_i i l hi hl
      simp only [Option.some.injEq] at h
      subst h
      rw [List.mapM_cons]
      have e : (sizeOf f.type).run P w = .ok i.size w := by simp [sizeOf, typeInfo, hi]
      simp only [Sem.run_bind, e, Result.andThen_ok, Sem.run_pure, ih l hl]
    · cases h

def buildV (P : Program) (t : TypeId) (parts : List (Nat × AV)) : Option (List AV) :=
  match P.underlying t, zeroOf P t with
  | some (.struct fs), some zs =>
    match fieldPlaces P fs.toList with
    | some pl => fillV (fun i => pl[i]?) zs parts
    | none => none
  | some (.array _ e), some zs =>
    match P.info? e with
    | some i => fillV (fun k => some (k * i.size, i.size)) zs parts
    | none => none
  | _, _ => none

theorem build_sound {P : Program} {ρ : Inj} {F : Fz} {w : World} {t : TypeId} {vs : Array (Nat × Value)} {as : List (Nat × AV)} {out : List AV} (hl : vs.size = as.length)
    (ha : ∀ (i : Nat) (x : Nat × Value) (y : Nat × AV), vs[i]? = some x → as[i]? = some y → x.1 = y.1 ∧ AR ρ F w x.2 y.2) (hb : buildV P t as = some out) :
    ∃ v, (Instr.build t vs).run P w = .ok v w ∧ AR ρ F w v (.agg out) := by
  unfold buildV at hb
  have hz : ∀ zs, zeroOf P t = some zs → ∃ z : Value, (zeroValue t).run P w = .ok z w ∧ zs = z.cells.toList.map absC := fun zs h => by
    unfold zeroOf at h
    obtain ⟨z, hz1, rfl⟩ := Option.map_eq_some_iff.1 h
    obtain ⟨i, hi, hi2⟩ := Option.bind_eq_some_iff.1 hz1
    exact ⟨z, by simp [zeroValue, typeInfo, hi, hi2], rfl⟩
  have ha' : ∀ (i : Nat) (x : Nat × Value) (y : Nat × AV), vs.toList[i]? = some x → as[i]? = some y → x.1 = y.1 ∧ AR ρ F w x.2 y.2 := fun i x y h1 h2 => ha i x y (by simpa using h1) h2
  split at hb
  · rename_i fs zs hu hzs
    split at hb
    · rename_i pl hpl
      obtain ⟨z, hz1, rfl⟩ := hz zs hzs
      obtain ⟨c', h1, h2⟩ := fill_sound vs.toList as z.cells _ out (absC_vals ρ F w z.cells) (by simpa using hl) ha' hb
      refine ⟨.agg c', ?_, .agg h2.1 h2.2⟩
      have hp := places_run (P := P) w fs.toList pl hpl
      unfold Instr.build
      simp only [Sem.run_bind, hz1, Result.andThen_ok, run_underlying hu, Array.mapM_eq_mapM_toList, Sem.run_map, hp]
      have e : (fun i : Nat => pl.toArray[i]?) = fun i : Nat => pl[i]? := by funext i; simp
      simp only [e, h1]
      rfl
    · cases hb
  · rename_i n e zs hu hzs
    split at hb
    · rename_i i hi
      obtain ⟨z, hz1, rfl⟩ := hz zs hzs
      obtain ⟨c', h1, h2⟩ := fill_sound vs.toList as z.cells _ out (absC_vals ρ F w z.cells) (by simpa using hl) ha' hb
      refine ⟨.agg c', ?_, .agg h2.1 h2.2⟩
      unfold Instr.build
      simp only [Sem.run_bind, hz1, Result.andThen_ok, run_underlying hu, sizeOf, typeInfo, run_program, hi, Sem.run_pure, h1]
    · cases hb
  · cases hb

end Go.Dm
