/-
  Literals of slices, made slices, indexes, slicing, lengths: what they do to the abstract machine, and that the model does the same.
  Conditions: none.
-/
import Derived.Test.YtbhlfbkheijojaaEng5
namespace Go.Dm

theorem getD_of_lt {α : Type} {l : List α} {i : Nat} (d : α) (h : i < l.length) : l[i]? = some (l.getD i d) := by simp [List.getD, List.getElem?_eq_getElem h]

/-- an element's address -/
theorem aIdx_sound {P : Program} {ρ : Inj} {F : Fz} {w : World} {σ : Heap} (hh : HR ρ F w σ) {t e : TypeId} {arr : Option Nat} {sz : Nat} {x i : AV} {X I : Value}
    (ht : (∃ n, arr = some n ∧ P.underlying t = some (.array n e)) ∨ (arr = none ∧ P.underlying t = some (.slice e))) (hs : (P.info? e).map (·.size) = some sz)
    (hx : AR ρ F w X x) (hi : AR ρ F w I i) (hd : (aIdx arr sz x i σ).dom) :
    ∃ v, (Instr.indexAt t X I).run P w = .ok v w ∧ AR ρ F w v (aIdx arr sz x i σ).val := by
  obtain ⟨inf, hinf, hsize⟩ := Option.map_eq_some_iff.1 hs
  unfold aIdx at hd ⊢
  cases i with
  | t i =>
    cases i with
    | int kk n =>
      cases hi with | t hi =>
      cases hi
      simp only at hd ⊢
      split at hd
      · rename_i k off len tg
        have e1 : P.underlying t = some (.slice e) := by
          rcases ht with ⟨m, hm, _⟩ | ⟨_, hu⟩
          · cases hm
          · exact hu
        split at hd
        · rename_i tag z es hk
          obtain ⟨h0, h1, h2, h3⟩ := hd
          cases hh.blk k _ hk with
          | virt hv _ => simp at h2
          | row hρ' hb hl hs hz hc hf =>
            have hsz := h3
            cases hx with
            | own hρ hl2 =>
              rename_i b base sz' ct
              have e0 := hρ.symm.trans hρ'
              simp only [Option.some.injEq, Pl.at_.injEq] at e0
              obtain ⟨rfl, rfl, rfl, rfl⟩ := e0
              subst hsz
              refine ⟨.pointer (some ⟨b, base + (off + n.toNat) * sz' + 0, none⟩), ?_, .ptr hρ⟩
              simp only [Instr.indexAt, asIntOf, Sem.run_bind, Sem.run_pure, Result.andThen_ok, run_underlying e1]
              have : 0 ≤ n ∧ n < (len : Int) := ⟨h0, h1⟩
              simp [this, sizeOf, typeInfo, hinf, hsize, add_off, Nat.add_mul, Nat.add_assoc]
            | ownVirt a hρ => rw [hρ] at hρ'; cases hρ'
            | ownZero a hρ _ _ => omega
            | ownDead a l c hρ _ => rw [hρ] at hρ'; cases hρ'
        · exact hd.elim
      · rename_i es
        obtain ⟨h0, h1, h2⟩ := hd
        have e1 : P.underlying t = some (.slice e) := by
          rcases ht with ⟨m, hm, _⟩ | ⟨_, hu⟩
          · cases hm
          · exact hu
        cases hx with | t hx =>
        cases hx with
        | nil a cap => simp at h1; omega
        | rows b off len cap sz' es c ty fz vals hb hl hc hs hz hv htr =>
          have hn : n.toNat < es.length := by omega
          have hge := getD_of_lt [] hn
          have hszz := hz _ (List.mem_of_getElem? hge)
          have hsz2 : sz' = sz := hszz.symm.trans h2
          subst hsz2
          refine ⟨.pointer (some ⟨b, (off + n.toNat * sz') + 0, none⟩), ?_, .eptr (fun j => vals n.toNat j) hb (fun j t hj => hv _ _ hge j t hj) (fun j t hj => htr _ _ hge j t hj)⟩
          have : 0 ≤ n ∧ n < (len : Int) := ⟨h0, by omega⟩
          simp [Instr.indexAt, asIntOf, run_underlying e1, this, sizeOf, typeInfo, hinf, hsize, add_off]
      · rename_i es
        obtain ⟨h0, h1, h2⟩ := hd
        have e1 : P.underlying t = some (.slice e) := by
          rcases ht with ⟨m, hm, _⟩ | ⟨_, hu⟩
          · cases hm
          · exact hu
        cases hx with | tsl hx =>
        cases hx with
        | nil a cap => simp at h1; omega
        | rows b off len0 cap sz' es c ty fz vals hb hl hc hs hz hv htr =>
          have hn : n.toNat < es.length := by omega
          have hge := getD_of_lt [] hn
          have hszz := hz _ (List.mem_of_getElem? hge)
          have hsz2 : sz' = sz := hszz.symm.trans h2
          subst hsz2
          refine ⟨.pointer (some ⟨b, (off + n.toNat * sz') + 0, none⟩), ?_, .eptr (fun j => vals n.toNat j) hb (fun j t hj => hv _ _ hge j t hj) (fun j t hj => htr _ _ hge j t hj)⟩
          have := And.intro h0 (hl ▸ h1)
          simp [Instr.indexAt, asIntOf, run_underlying e1, this, sizeOf, typeInfo, hinf, hsize, add_off]
      · rename_i m k e' o
        obtain ⟨h0, h1⟩ := hd
        have e1 : P.underlying t = some (.array m e) := by
          rcases ht with ⟨m', hm, hu⟩ | ⟨hm, _⟩
          · cases hm; exact hu
          · cases hm
        cases hx with
        | ptr hρ =>
          rename_i b base sz' ct
          refine ⟨.pointer (some ⟨b, base + e' * sz' + (o + n.toNat * sz), none⟩), ?_, .ptr hρ⟩
          have : 0 ≤ n ∧ n < (m : Int) := ⟨h0, h1⟩
          simp [Instr.indexAt, Instr.sureAddr, asIntOf, run_underlying e1, this, sizeOf, typeInfo, hinf, hsize, add_off, Nat.add_assoc]
        | ptrDead a hρ =>
          obtain ⟨b, of, sp⟩ := a
          refine ⟨.pointer (some ((⟨b, of, sp⟩ : Addr).add (n.toNat * sz))), ?_, .ptrDead _ hρ⟩
          have : 0 ≤ n ∧ n < (m : Int) := ⟨h0, h1⟩
          simp [Instr.indexAt, Instr.sureAddr, asIntOf, run_underlying e1, this, sizeOf, typeInfo, hinf, hsize]
      · rename_i m c o
        obtain ⟨h0, h1⟩ := hd
        have e1 : P.underlying t = some (.array m e) := by
          rcases ht with ⟨m', hm, hu⟩ | ⟨hm, _⟩
          · cases hm; exact hu
          · cases hm
        cases hx with
        | eptr vals hb hv htr =>
          rename_i b off cc ee fz
          refine ⟨.pointer (some ⟨b, off + (o + n.toNat * sz), none⟩), ?_, .eptr vals hb hv htr⟩
          have : 0 ≤ n ∧ n < (m : Int) := ⟨h0, h1⟩
          simp [Instr.indexAt, Instr.sureAddr, asIntOf, run_underlying e1, this, sizeOf, typeInfo, hinf, hsize, add_off, Nat.add_assoc]
      · exact hd.elim
    | _ => exact hd.elim
  | _ => exact hd.elim

/-- is a value of n cells -/
def avOk (n : Nat) (a : AV) : Bool := match avCells a with | some cs => cs.length == n | none => false
def cellsOf (a : AV) : List AV := (avCells a).getD []

theorem avOk_spec {n : Nat} {a : AV} (h : avOk n a = true) : avCells a = some (cellsOf a) ∧ (cellsOf a).length = n := by
  unfold avOk at h
  split at h
  · rename_i cs hc; exact ⟨by simp [cellsOf, hc], by simp [cellsOf, hc]; simpa using h⟩
  · cases h

/-- a literal of a slice: all its elements, in order -/
def bslV (d sz : Nat) (parts : List AV) (σ : Heap) : PV (AV × Ups) :=
  ⟨σ d = none ∧ parts.all (avOk sz) = true, (.own d 0 parts.length false, [(d, .row .lone sz (parts.map cellsOf))])⟩

theorem fill_order {ρ : Inj} {F : Fz} {w : World} (sz : Nat) : ∀ (vs : List (Nat × Value)) (as : List AV) (s : Nat) (c : Array Value),
    vs.length = as.length → (∀ (i : Nat) (x : Nat × Value) (y : AV), vs[i]? = some x → as[i]? = some y → x.1 = s + i ∧ AR ρ F w x.2 y) → as.all (avOk sz) = true → (s + as.length) * sz ≤ c.size →
    ∃ c', Instr.fill (fun i => some (i * sz, sz)) c vs = some c' ∧ c'.size = c.size ∧ (∀ q, q < s * sz → c'[q]? = c[q]?) ∧
      ∀ (i : Nat) (y : AV), as[i]? = some y → ∀ j a, (cellsOf y)[j]? = some a → ∃ v, c'[(s + i) * sz + j]? = some v ∧ AR ρ F w v a := by
  intro vs
  induction vs with
  | nil =>
    intro as s c hl _ _ _
    cases as with
    | nil => exact ⟨c, rfl, rfl, fun _ _ => rfl, fun i y h => by simp at h⟩
    | cons => cases hl
  | cons x vs ih =>
    intro as s c hl ha hok hsz
    cases as with
    | nil => cases hl
    | cons y as =>
      obtain ⟨n, v⟩ := x
      obtain ⟨e1, e2⟩ := ha 0 (n, v) y (by simp) (by simp)
      simp only [Nat.add_zero] at e1
      subst e1
      simp only [List.all_cons, Bool.and_eq_true] at hok
      obtain ⟨hc1, hc2⟩ := avOk_spec hok.1
      have hv := avCells_ar e2 hc1
      have hszv : v.cells.size = sz := by rw [hv.1]; exact hc2
      simp only [List.length_cons] at hsz
      have hroom : n * sz + sz ≤ c.size := by
        have : (n + 1) * sz ≤ (n + (as.length + 1)) * sz := Nat.mul_le_mul_right _ (by omega)
        rw [Nat.succ_mul] at this; omega
      have hget := foldl_zip_get (n * sz) v.cells.toList 0 c (by simp [hszv]; omega)
      have hsz1 := foldl_set (n * sz) (v.cells.toList.zipIdx) c
      have hfl : v.cells.zipIdx.foldl (fun cs (c, j) => cs.setIfInBounds (n * sz + j) c) c = (v.cells.toList.zipIdx).foldl (fun cs (c, j) => cs.setIfInBounds (n * sz + j) c) c := by
        rw [← Array.foldl_toList]; simp
      obtain ⟨c', g1, g2, g3, g4⟩ := ih as (n + 1) (v.cells.zipIdx.foldl (fun cs (c, j) => cs.setIfInBounds (n * sz + j) c) c) (by simpa using hl)
        (fun i x y h1 h2 => by
          obtain ⟨q1, q2⟩ := ha (i + 1) x y (by simpa using h1) (by simpa using h2)
          exact ⟨by omega, q2⟩) hok.2 (by rw [hfl, hsz1, show n + 1 + as.length = n + (as.length + 1) from by omega]; exact hsz)
      refine ⟨c', ?_, by rw [g2, hfl, hsz1], fun q hq => ?_, fun i z hz j a hj => ?_⟩
      · simp only [Instr.fill]
        rw [if_neg (by simp [hszv]; omega)]
        exact g1
      · rw [g3 q (by rw [Nat.succ_mul]; omega), hfl, hget q, if_neg (by omega)]
      · cases i with
        | zero =>
          simp only [List.getElem?_cons_zero, Option.some.injEq] at hz
          subst hz
          obtain ⟨u, hu1, hu2⟩ := hv.nth hj
          have hjl : j < sz := by
            rcases Nat.lt_or_ge j (cellsOf y).length with h | h
            · omega
            · rw [List.getElem?_eq_none h] at hj; cases hj
          refine ⟨u, ?_, hu2⟩
          rw [Nat.add_zero, g3 _ (by rw [Nat.succ_mul]; omega), hfl, hget, if_pos (by simp [hszv]; omega)]
          have : n * sz + j - (n * sz + 0) = j := by omega
          rw [this]; simpa using hu1
        | succ i =>
          simp only [List.getElem?_cons_succ] at hz
          obtain ⟨u, hu1, hu2⟩ := g4 i z hz j a hj
          exact ⟨u, by rw [show n + (i + 1) = n + 1 + i from by omega]; exact hu1, hu2⟩

theorem bsl_sound {P : Program} {ρ : Inj} {F : Fz} {w : World} {σ : Heap} (hh : HR ρ F w σ) {d : Nat} {t e : TypeId} {len sz : Nat} {vs : Array (Nat × Value)} {parts : List AV} (ht : P.underlying t = some (.slice e))
    (hz : ∃ i z, P.info? e = some i ∧ i.size = sz ∧ i.zero = some z) (hlen : parts.length = len) (hbig : len * sz ≤ 16777216) (hl : vs.size = parts.length)
    (ha : ∀ (i : Nat) (x : Nat × Value) (y : AV), vs[i]? = some x → parts[i]? = some y → x.1 = i ∧ AR ρ F w x.2 y) (hd : (bslV d sz parts σ).dom) :
    ∃ v w' ρ', (Instr.buildSlice t len vs).run P w = .ok v w' ∧ AR ρ' F w' v (bslV d sz parts σ).val.1 ∧ Stp ρ F w ρ' F w' (updAll σ (bslV d sz parts σ).val.2) := by
  obtain ⟨i, z, hi, hsz, hzz⟩ := hz
  obtain ⟨hd1, hd2⟩ := hd
  have hcs : ∀ cs : Array Value, cs.size = len * sz → ∃ c', Instr.fill (fun i => some (i * sz, sz)) cs vs.toList = some c' ∧ c'.size = cs.size ∧
      ∀ (i : Nat) (y : AV), parts[i]? = some y → ∀ j a, (cellsOf y)[j]? = some a → ∃ v, c'[i * sz + j]? = some v ∧ AR ρ F w v a := fun cs hs => by
    obtain ⟨c', g1, g2, _, g4⟩ := fill_order (ρ := ρ) (F := F) (w := w) sz vs.toList parts 0 cs (by simpa using hl)
      (fun i x y h1 h2 => by obtain ⟨q1, q2⟩ := ha i x y (by simpa using h1) h2; exact ⟨by omega, q2⟩) hd2 (by rw [Nat.zero_add, hlen]; omega)
    exact ⟨c', g1, g2, fun i y hy j a hj => by simpa using g4 i y hy j a hj⟩
  have fin : ∀ c' : Array Value, c'.size = len * sz → (∀ (i : Nat) (y : AV), parts[i]? = some y → ∀ j a, (cellsOf y)[j]? = some a → ∃ v, c'[i * sz + j]? = some v ∧ AR ρ F w v a) →
      ∃ ρ', AR ρ' F (w.alloc (.cells c' e)) (.slice (some ⟨w.heap.size, 0, none⟩) len len) (bslV d sz parts σ).val.1 ∧
        Stp ρ F w ρ' F (w.alloc (.cells c' e)) (updAll σ (bslV d sz parts σ).val.2) := fun c' hc' hcell => by
    refine ⟨setI ρ d (.at_ w.heap.size 0 sz len), ?_, ?_⟩
    · have := @AR.own (setI ρ d (.at_ w.heap.size 0 sz len)) F (w.alloc (.cells c' e)) d 0 parts.length w.heap.size 0 sz len false (setI_same _ _ _) (by omega)
      simpa [bslV, hlen] using this
    · refine Stp.newRow hh hd1 c' e .lone _ sz len (by simp [hlen]) (by omega) (fun x hx => ?_) (fun i x hx j a hj => ?_)
      · obtain ⟨y, hy, rfl⟩ := List.mem_map.1 hx
        exact (avOk_spec (List.all_eq_true.1 hd2 y hy)).2
      · simp only [List.getElem?_map, Option.map_eq_some_iff] at hx
        obtain ⟨y, hy, rfl⟩ := hx
        simpa using hcell i y hy j a hj
  have hbig' : ¬ len * sz > 2 ^ 24 := by simpa using hbig
  by_cases h0 : len * sz = 0
  · obtain ⟨c', g1, g2, g3⟩ := hcs #[] (by simp [h0])
    obtain ⟨ρ', f1, f2⟩ := fin c' (by rw [g2]; simp [h0]) g3
    refine ⟨_, _, ρ', ?_, f1, f2⟩
    unfold Instr.buildSlice
    simp only [Sem.run_bind, run_underlying ht, Result.andThen_ok, sizeOf, typeInfo, run_program, hi, Sem.run_pure, hsz, h0, Nat.reducePow, if_true]
    simp only [gt_iff_lt, Nat.not_lt_zero, if_false, pure_bind]
    have e0 : ((Array.range 0).map fun x => (#[] : Array Value)[x % (#[] : Array Value).size]!) = #[] := by simp
    simp only [e0, g1]
    rfl
  · obtain ⟨c', g1, g2, g3⟩ := hcs ((Array.range (len * sz)).map (z.cells[· % z.cells.size]!)) (by simp)
    obtain ⟨ρ', f1, f2⟩ := fin c' (by rw [g2]; simp) g3
    refine ⟨_, _, ρ', ?_, f1, f2⟩
    unfold Instr.buildSlice
    simp only [Sem.run_bind, run_underlying ht, Result.andThen_ok, sizeOf, typeInfo, run_program, hi, Sem.run_pure, hsz, if_neg hbig', if_neg h0, zeroValue, hzz]
    simp only [g1]
    rfl

end Go.Dm
