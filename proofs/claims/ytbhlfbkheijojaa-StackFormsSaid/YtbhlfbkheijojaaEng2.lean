/-
  Steps of the abstract machine's memory: a new row, a write into a row, a row that goes and comes under another key, a map; what a step keeps.
  Conditions: none (plain lemmas over the model's worlds).
-/
import Derived.Test.YtbhlfbkheijojaaEng1
namespace Go.Dm

/-- one step of memory, the concrete beside the abstract -/
structure Stp (ρ : Inj) (F : Fz) (w : World) (ρ' : Inj) (F' : Fz) (w' : World) (σ' : Heap) : Prop where
  keep : Keep F w w'
  fle : F.le F'
  ile : ρ.le ρ'
  heap : HR ρ' F' w' σ'
  fr : ∀ W F0 U, Fr W F0 U ρ F w → Fr W F0 U ρ' F' w'

theorem Stp.refl {ρ : Inj} {F : Fz} {w : World} {σ : Heap} (h : HR ρ F w σ) : Stp ρ F w ρ F w σ := ⟨Keep.refl _ _, F.le_refl, ρ.le_refl, h, fun _ _ _ h => h⟩

theorem Inj.le_trans {a b c : Inj} (h : a.le b) (k : b.le c) : a.le c := by
  intro x p hx
  rcases h x p hx with h1 | h1
  · exact k x p h1
  · exact .inr ((k x _ h1).elim id id)

theorem Stp.trans {ρ ρ1 ρ2 : Inj} {F F1 F2 : Fz} {w w1 w2 : World} {σ1 σ2 : Heap} (h : Stp ρ F w ρ1 F1 w1 σ1) (k : Stp ρ1 F1 w1 ρ2 F2 w2 σ2) : Stp ρ F w ρ2 F2 w2 σ2 :=
  ⟨h.keep.trans (k.keep.mono h.fle), Fz.le_trans h.fle k.fle, Inj.le_trans h.ile k.ile, k.heap, fun W F0 U x => k.fr W F0 U (h.fr W F0 U x)⟩

theorem Stp.ar {ρ ρ' : Inj} {F F' : Fz} {w w' : World} {σ' : Heap} (s : Stp ρ F w ρ' F' w' σ') {v : Value} {a : AV} (h : AR ρ F w v a) : AR ρ' F' w' v a := h.keep s.keep s.fle s.ile

theorem ValsAR.step {ρ ρ' : Inj} {F F' : Fz} {w w' : World} {σ' : Heap} (s : Stp ρ F w ρ' F' w' σ') {vs : Array Value} {as : List AV} (h : ValsAR ρ F w vs as) : ValsAR ρ' F' w' vs as :=
  ⟨h.1, fun i v a hv ha => s.ar (h.2 i v a hv ha)⟩

/-- a block is told as before where neither it nor what is frozen has turned -/
theorem BR.keep {ρ ρ' : Inj} {F G : Fz} {w w' : World} {k : Nat} {b : Blk} (h : BR ρ F w k b) (hk : Keep F w w') (hl : F.le G) (hi : ρ.le ρ') (hs : ρ' k = ρ k)
    (hb : ∀ p n, ρ k = some p → p.block = some n → w'.heap[n]? = w.heap[n]? ∧ (∀ o, G.cell n o → F.cell n o) ∧ (G.obj n → F.obj n)) : BR ρ' G w' k b := by
  cases h with
  | dead h => exact .dead (hs.trans h)
  | virt h ht => exact .virt (hs.trans h) ht
  | row h hb1 hl1 hs1 hz hc hf =>
    obtain ⟨e1, e2, e3⟩ := hb _ _ h rfl
    refine .row (hs.trans h) (e1.trans hb1) hl1 hs1 hz (fun i x hx j a ha => ?_) ?_
    · obtain ⟨v, hv, hr⟩ := hc i x hx j a ha
      exact ⟨v, hv, hr.keep hk hl hi⟩
    · revert hf
      rename_i tag _ _ _ _ _ _ _
      cases tag <;> intro hf <;> intro o ho
      · exact hf o (e2 o ho)
      · exact hf o (e2 o ho)
      · exact hf o (e2 o ho)
  | map h hb1 hm hv hf =>
    obtain ⟨e1, e2, e3⟩ := hb _ _ h rfl
    exact .map (hs.trans h) (e1.trans hb1) hm (fun j a ha => (hv j a ha).keep hk hl hi) (fun hx => hf (e3 hx))
  | siter h hb1 =>
    obtain ⟨e1, e2, e3⟩ := hb _ _ h rfl
    exact .siter (hs.trans h) (e1.trans hb1)
  | mapl h hb1 hsz ha hkd hn hf =>
    obtain ⟨e1, e2, e3⟩ := hb _ _ h rfl
    exact .mapl (hs.trans h) (e1.trans hb1) hsz (fun i x hx => let ⟨v, h1, h2⟩ := ha i x hx; ⟨v, h1, h2.keep hk hl hi⟩) hkd hn (fun hx => hf (e3 hx))
  | itl h hb1 hm =>
    obtain ⟨e1, e2, e3⟩ := hb _ _ h rfl
    exact .itl (hs.trans h) (e1.trans hb1) (hm.keep hk hl hi)

/-- the frame over a step in which only owned blocks turn -/
theorem Fr.step {W : World} {F0 F F' : Fz} {U : Nat → Prop} {ρ ρ' : Inj} {w w' : World} (h : Fr W F0 U ρ F w) (hk : Keep F w w')
    (hos : w'.os = w.os) (htape : w'.tape = w.tape) (hout : w'.output = w.output) (hsz : w.heap.size ≤ w'.heap.size)
    (hchg : ∀ b, b < w.heap.size → w'.heap[b]? = w.heap[b]? ∨ ∃ k p, ρ k = some p ∧ p.block = some b) (hl : F.le F')
    (hfn : ∀ b o, F'.cell b o → F.cell b o ∨ (∃ k p, ρ k = some p ∧ p.block = some b) ∨ w.heap.size ≤ b)
    (hon : ∀ r, F'.obj r → F.obj r ∨ (∃ k p, ρ k = some p ∧ p.block = some r) ∨ w.heap.size ≤ r)
    (hown : ∀ k p b, ρ' k = some p → p.block = some b → (∃ k p, ρ k = some p ∧ p.block = some b) ∨ w.heap.size ≤ b) : Fr W F0 U ρ' F' w' where
  os := hos.trans h.os
  tape := htape.trans h.tape
  output := hout.trans h.output
  size := Nat.le_trans h.size hsz
  same := fun b hb hu => by
    rcases hchg b (Nat.lt_of_lt_of_le hb h.size) with e | ⟨k, p, h1, h2⟩
    · exact e.trans (h.same b hb hu)
    · rcases h.own k p b h1 h2 with h3 | h3
      · exact absurd h3 hu
      · omega
  keep := h.keep.trans (hk.mono h.fle)
  fle := Fz.le_trans h.fle hl
  fnew := fun b o ho => by
    rcases hfn b o ho with h1 | ⟨k, p, h1, h2⟩ | h1
    · exact h.fnew b o h1
    · exact .inr (h.own k p b h1 h2)
    · exact .inr (.inr (Nat.le_trans h.size h1))
  onew := fun r ho => by
    rcases hon r ho with h1 | ⟨k, p, h1, h2⟩ | h1
    · exact h.onew r h1
    · exact .inr (h.own k p r h1 h2)
    · exact .inr (.inr (Nat.le_trans h.size h1))
  own := fun k p b h1 h2 => by
    rcases hown k p b h1 h2 with ⟨k', p', h3, h4⟩ | h3
    · exact h.own k' p' b h3 h4
    · exact .inr (Nat.le_trans h.size h3)

/-- worlds that differ in block b alone -/
structure Only (b : Nat) (w w' : World) : Prop where
  os : w'.os = w.os
  tape : w'.tape = w.tape
  output : w'.output = w.output
  size : w'.heap.size = w.heap.size
  other : ∀ k, k ≠ b → w'.heap[k]? = w.heap[k]?

theorem Only.refl (b : Nat) (w : World) : Only b w w := ⟨rfl, rfl, rfl, rfl, fun _ _ => rfl⟩
theorem Only.trans {b : Nat} {w w1 w2 : World} (h : Only b w w1) (k : Only b w1 w2) : Only b w w2 :=
  ⟨k.os.trans h.os, k.tape.trans h.tape, k.output.trans h.output, k.size.trans h.size, fun x hx => (k.other x hx).trans (h.other x hx)⟩

theorem Only.keep {b : Nat} {F : Fz} {w w' : World} {c c' : Array Value} {e : TypeId} {fz : Nat × Nat} (h : Only b w w') (hb : w.heap[b]? = some (.cells c e fz))
    (hb' : w'.heap[b]? = some (.cells c' e fz)) (hs : c'.size = c.size) (hf : ∀ o, F.cell b o → c'[o]? = c[o]?) : Keep F w w' := by
  refine ⟨fun x cs t fz' hx => ?_, fun r es cl hf' hr => ?_⟩
  · by_cases hxb : x = b
    · subst hxb
      rw [hb] at hx
      simp only [Option.some.injEq, Obj.cells.injEq] at hx
      obtain ⟨rfl, rfl, rfl⟩ := hx
      exact ⟨c', hb', hs, hf⟩
    · exact ⟨cs, (h.other x hxb).trans hx, rfl, fun _ _ => rfl⟩
  · by_cases hxb : r = b
    · subst hxb; rw [hb] at hr; simp at hr
    · exact (h.other r hxb).trans hr

/-- a draw turns nothing -/
theorem Stp.drew {ρ : Inj} {F : Fz} {w : World} {σ : Heap} (h : HR ρ F w σ) : Stp ρ F w ρ F w.drew σ := by
  have hk : Keep F w w.drew := ⟨fun _ c _ _ h => ⟨c, h, rfl, fun _ _ => rfl⟩, fun _ _ _ _ h => h⟩
  refine ⟨hk, F.le_refl, ρ.le_refl, ⟨h.dom, fun k b hb => (h.blk k b hb).keep hk F.le_refl ρ.le_refl rfl (fun p n _ _ => ⟨rfl, fun _ h => h, fun h => h⟩), h.inj, h.fzc, h.fzo⟩, fun W F0 U hf => ?_⟩
  exact hf.step hk rfl rfl rfl (Nat.le_refl _) (fun b _ => .inl rfl) F.le_refl (fun b o h => .inl h) (fun r h => .inl h) (fun k p b h1 h2 => .inl ⟨k, p, h1, h2⟩)

def setI (ρ : Inj) (k : Nat) (p : Pl) : Inj := fun j => if j = k then some p else ρ j

theorem setI_same (ρ : Inj) (k : Nat) (p : Pl) : setI ρ k p k = some p := by simp [setI]
theorem setI_ne {ρ : Inj} {k j : Nat} (p : Pl) (h : j ≠ k) : setI ρ k p j = ρ j := by simp [setI, h]
theorem upd_same (σ : Heap) (k : Nat) (b : Blk) : upd σ k b k = some b := by simp [upd]
theorem upd_ne {σ : Heap} {k j : Nat} (b : Blk) (h : j ≠ k) : upd σ k b j = σ j := by simp [upd, h]

theorem HR.fresh {ρ : Inj} {F : Fz} {w : World} {σ : Heap} (h : HR ρ F w σ) {d : Nat} (hd : σ d = .none) : ρ d = .none := (h.dom d).1 hd

theorem le_setI {ρ : Inj} {d : Nat} {p : Pl} (hd : ρ d = .none) : ρ.le (setI ρ d p) := by
  intro k q hq
  by_cases hk : k = d
  · subst hk; rw [hd] at hq; cases hq
  · exact .inl ((setI_ne p hk).trans hq)

theorem HR.block_lt {ρ : Inj} {F : Fz} {w : World} {σ : Heap} (h : HR ρ F w σ) {k b base sz ct : Nat} (hk : ρ k = some (.at_ b base sz ct)) : b < w.heap.size := by
  have hs : σ k ≠ .none := fun e => by rw [(h.dom k).1 e] at hk; cases hk
  obtain ⟨x, hx⟩ := Option.ne_none_iff_exists'.1 hs
  have key : ∀ o : Obj, w.heap[b]? = some o → b < w.heap.size := fun o ho => by
    rcases Nat.lt_or_ge b w.heap.size with hlt | hge
    · exact hlt
    · rw [Array.getElem?_eq_none hge] at ho; cases ho
  cases h.blk k x hx with
  | dead h1 => rw [h1] at hk; cases hk
  | virt h1 _ => rw [h1] at hk; cases hk
  | row h1 hb _ _ _ _ _ => rw [h1] at hk; cases hk; exact key _ hb
  | map h1 hb _ _ _ => rw [h1] at hk; cases hk; exact key _ hb
  | siter h1 hb => rw [h1] at hk; cases hk; exact key _ hb
  | mapl h1 hb _ _ _ _ _ => rw [h1] at hk; cases hk; exact key _ hb
  | itl h1 hb _ => rw [h1] at hk; cases hk; exact key _ hb

/-- a new block, told by key d -/
theorem Stp.new {ρ : Inj} {F : Fz} {w : World} {σ : Heap} (h : HR ρ F w σ) {d : Nat} (hd : σ d = .none) (o : Obj) (x : Blk) (sz ct : Nat)
    (hb : Keep F w (w.alloc o) → BR (setI ρ d (.at_ w.heap.size 0 sz ct)) F (w.alloc o) d x) :
    Stp ρ F w (setI ρ d (.at_ w.heap.size 0 sz ct)) F (w.alloc o) (upd σ d x) := by
  have hρ := h.fresh hd
  have hold : ∀ n, n < w.heap.size → (w.alloc o).heap[n]? = w.heap[n]? := fun n hn => heap_alloc_old w o n hn
  have hsome : ∀ {n : Nat} {p : Obj}, w.heap[n]? = some p → n < w.heap.size := fun {n p} hn => by
    rcases Nat.lt_or_ge n w.heap.size with hlt | hge
    · exact hlt
    · rw [Array.getElem?_eq_none hge] at hn; cases hn
  have hk : Keep F w (w.alloc o) := ⟨fun b c e fz hx => ⟨c, (hold b (hsome hx)).trans hx, rfl, fun _ _ => rfl⟩, fun r es cl _ hx => (hold r (hsome hx)).trans hx⟩
  have hle : ρ.le (setI ρ d (.at_ w.heap.size 0 sz ct)) := le_setI hρ
  refine ⟨hk, F.le_refl, hle, ⟨fun k => ?_, fun k b hkb => ?_, fun k k' p p' b h1 h2 h3 h4 => ?_, fun b o' ho => ?_, fun r ho => ?_⟩, fun W F0 U hf => ?_⟩
  · by_cases hkd : k = d
    · subst hkd; simp [upd_same, setI_same]
    · rw [upd_ne _ hkd, setI_ne _ hkd]; exact h.dom k
  · by_cases hkd : k = d
    · subst hkd; rw [upd_same] at hkb; cases hkb; exact hb hk
    · rw [upd_ne _ hkd] at hkb
      refine (h.blk k b hkb).keep hk F.le_refl hle (setI_ne _ hkd) fun p n hp hn => ⟨hold n ?_, fun _ h => h, fun h => h⟩
      cases p with
      | dead => cases hn
      | virt => cases hn
      | at_ b' base sz' ct' => cases hn; exact h.block_lt hp
  · have hlt : ∀ j q n, ρ j = some q → q.block = some n → n < w.heap.size := fun j q n hq hn => by
      cases q with
      | dead => cases hn
      | virt => cases hn
      | at_ b' base sz' ct' => cases hn; exact h.block_lt hq
    by_cases hkd : k = d
    · by_cases hkd' : k' = d
      · rw [hkd, hkd']
      · subst hkd; rw [setI_same] at h1; cases h1; cases h3
        rw [setI_ne _ hkd'] at h2
        have := hlt k' p' _ h2 h4; omega
    · by_cases hkd' : k' = d
      · subst hkd'; rw [setI_same] at h2; cases h2; cases h4
        rw [setI_ne _ hkd] at h1
        have := hlt k p _ h1 h3; omega
      · rw [setI_ne _ hkd] at h1; rw [setI_ne _ hkd'] at h2
        exact h.inj k k' p p' b h1 h2 h3 h4
  · obtain ⟨c, e, fz, hc⟩ := h.fzc b o' ho
    exact ⟨c, e, fz, (hold b (hsome hc)).trans hc⟩
  · obtain ⟨es, cl, hc⟩ := h.fzo r ho
    exact ⟨es, cl, (hold r (hsome hc)).trans hc⟩
  · refine hf.step hk rfl rfl rfl (by simp) (fun b hb' => .inl (hold b hb')) F.le_refl (fun b o h => .inl h) (fun r h => .inl h) (fun k p b h1 h2 => ?_)
    by_cases hkd : k = d
    · subst hkd; rw [setI_same] at h1; cases h1; cases h2; exact .inr (Nat.le_refl _)
    · rw [setI_ne _ hkd] at h1; exact .inl ⟨k, p, h1, h2⟩

/-- a new row of cells -/
theorem Stp.newRow {ρ : Inj} {F : Fz} {w : World} {σ : Heap} (h : HR ρ F w σ) {d : Nat} (hd : σ d = .none) (c : Array Value) (e : TypeId) (tag : Tag) (es : List (List AV)) (sz ct : Nat)
    (hl : es.length ≤ ct) (hs : ct * sz ≤ c.size) (hz : ∀ x ∈ es, x.length = sz) (hc : CellsAre ρ F w c 0 sz es) :
    Stp ρ F w (setI ρ d (.at_ w.heap.size 0 sz ct)) F (w.alloc (.cells c e)) (upd σ d (.row tag sz es)) := by
  refine Stp.new h hd _ _ sz ct fun hk => ?_
  refine .row (setI_same _ _ _) (heap_alloc_new w _) hl (by omega) hz (fun i x hx j a ha => ?_) ?_
  · obtain ⟨v, hv, hr⟩ := hc i x hx j a ha
    exact ⟨v, hv, hr.keep hk F.le_refl (le_setI (h.fresh hd))⟩
  · have hno : ∀ o, ¬ F.cell w.heap.size o := fun o ho => by
      obtain ⟨c', e', fz, hc'⟩ := h.fzc _ o ho
      rw [Array.getElem?_eq_none (Nat.le_refl _)] at hc'; cases hc'
    cases tag <;> intro o ho <;> exact absurd ho (hno o)

/-- a new map -/
theorem Stp.newMap {ρ : Inj} {F : Fz} {w : World} {σ : Heap} (h : HR ρ F w σ) {d : Nat} (hd : σ d = .none) (kd : Nat) :
    Stp ρ F w (setI ρ d (.at_ w.heap.size 0 0 0)) F (w.alloc (.map #[] 0)) (upd σ d (.map kd fun _ => .none)) := by
  refine Stp.new h hd _ _ 0 0 fun hk => ?_
  refine .map (vals := fun _ => .nilIface) (setI_same _ _ _) (heap_alloc_new w _) ⟨by simp, by simp, by simp, by simp, by simp⟩ (by simp) fun ho => ?_
  obtain ⟨es, cl, hc'⟩ := h.fzo _ ho
  rw [Array.getElem?_eq_none (Nat.le_refl _)] at hc'; cases hc'

theorem Stp.newMapl {ρ : Inj} {F : Fz} {w : World} {σ : Heap} (h : HR ρ F w σ) {d : Nat} (hd : σ d = .none) (kd : Nat) :
    Stp ρ F w (setI ρ d (.at_ w.heap.size 0 0 0)) F (w.alloc (.map #[] 0)) (upd σ d (.mapl kd [] 0)) := by
  refine Stp.new h hd _ _ 0 0 fun hk => ?_
  refine .mapl (setI_same _ _ _) (heap_alloc_new w _) rfl (fun i x hx => by simp at hx) (fun x hx => by simp at hx) (by simp) fun ho => ?_
  obtain ⟨es, cl, hc'⟩ := h.fzo _ ho
  rw [Array.getElem?_eq_none (Nat.le_refl _)] at hc'; cases hc'

/-- a new iterator over a map -/
theorem Stp.newItl {ρ : Inj} {F : Fz} {w : World} {σ : Heap} (h : HR ρ F w σ) {d : Nat} (hd : σ d = .none) {src : AV} {m : Option Nat} (hm : AR ρ F w (.map m) src) (c : Nat) :
    Stp ρ F w (setI ρ d (.at_ w.heap.size 0 0 0)) F (w.alloc (.mapIter m c #[] c)) (upd σ d (.itl src c [] c)) :=
  Stp.new h hd _ _ 0 0 fun hk => .itl (setI_same _ _ _) (heap_alloc_new w _) (hm.keep hk F.le_refl (le_setI (h.fresh hd)))

/-- a new iterator over a string -/
theorem Stp.newIter {ρ : Inj} {F : Fz} {w : World} {σ : Heap} (h : HR ρ F w σ) {d : Nat} (hd : σ d = .none) (s : ByteArray) :
    Stp ρ F w (setI ρ d (.at_ w.heap.size 0 0 0)) F (w.alloc (.stringIter s 0)) (upd σ d (.siter s 0)) :=
  Stp.new h hd _ _ 0 0 fun _ => .siter (setI_same _ _ _) (heap_alloc_new w _)

/-- a row that is nil, told as one of the call's own -/
theorem Stp.virt {ρ : Inj} {F : Fz} {w : World} {σ : Heap} (h : HR ρ F w σ) {d : Nat} (hd : σ d = .none) (tag : Tag) (sz : Nat) (ht : tag ≠ .var) :
    Stp ρ F w (setI ρ d .virt) F w (upd σ d (.row tag sz [])) := by
  have hρ := h.fresh hd
  have hle : ρ.le (setI ρ d .virt) := le_setI hρ
  refine ⟨Keep.refl _ _, F.le_refl, hle, ⟨fun k => ?_, fun k b hkb => ?_, fun k k' p p' b h1 h2 h3 h4 => ?_, h.fzc, h.fzo⟩, fun W F0 U hf => ?_⟩
  · by_cases hkd : k = d
    · subst hkd; simp [upd_same, setI_same]
    · rw [upd_ne _ hkd, setI_ne _ hkd]; exact h.dom k
  · by_cases hkd : k = d
    · subst hkd; rw [upd_same] at hkb; cases hkb; exact .virt (setI_same _ _ _) ht
    · rw [upd_ne _ hkd] at hkb
      exact (h.blk k b hkb).keep (Keep.refl _ _) F.le_refl hle (setI_ne _ hkd) fun p n hp hn => ⟨rfl, fun _ h => h, fun h => h⟩
  · by_cases hkd : k = d
    · subst hkd; rw [setI_same] at h1; cases h1; cases h3
    · by_cases hkd' : k' = d
      · subst hkd'; rw [setI_same] at h2; cases h2; cases h4
      · rw [setI_ne _ hkd] at h1; rw [setI_ne _ hkd'] at h2
        exact h.inj k k' p p' b h1 h2 h3 h4
  · refine hf.step (Keep.refl _ _) rfl rfl rfl (Nat.le_refl _) (fun b _ => .inl rfl) F.le_refl (fun b o h => .inl h) (fun r h => .inl h) (fun k p b h1 h2 => ?_)
    by_cases hkd : k = d
    · subst hkd; rw [setI_same] at h1; cases h1; cases h2
    · rw [setI_ne _ hkd] at h1; exact .inl ⟨k, p, h1, h2⟩

/-- block b of key k turns; the other keys' blocks are as they were. What is frozen may grow in block b alone. -/
theorem Stp.turn {ρ : Inj} {F F' : Fz} {w w' : World} {σ : Heap} (h : HR ρ F w σ) {k b base sz ct : Nat} (hk : ρ k = some (.at_ b base sz ct)) (hw : Only b w w')
    (hkeep : Keep F w w') (hl : F.le F') (hfc : ∀ n o, F'.cell n o → F.cell n o ∨ n = b) (hfo : ∀ r, F'.obj r → F.obj r ∨ r = b)
    (hfcb : ∀ o, F'.cell b o → ∃ c e fz, w'.heap[b]? = some (.cells c e fz)) (hfob : F'.obj b → ∃ es cl, w'.heap[b]? = some (.map es cl))
    (x : Blk) (hx : BR ρ F' w' k x) : Stp ρ F w ρ F' w' (upd σ k x) := by
  have hne : ∀ j q n, j ≠ k → ρ j = some q → q.block = some n → n ≠ b := fun j q n hj hq hn e => hj (h.inj j k q _ b hq hk (e ▸ hn) rfl)
  refine ⟨hkeep, hl, ρ.le_refl, ⟨fun j => ?_, fun j y hy => ?_, h.inj, fun n o ho => ?_, fun r ho => ?_⟩, fun W F0 U hf => ?_⟩
  · by_cases hj : j = k
    · subst hj; rw [upd_same, hk]; simp
    · rw [upd_ne _ hj]; exact h.dom j
  · by_cases hj : j = k
    · subst hj; rw [upd_same] at hy; cases hy; exact hx
    · rw [upd_ne _ hj] at hy
      refine (h.blk j y hy).keep hkeep hl ρ.le_refl rfl fun p n hp hn => ?_
      have hnb := hne j p n hj hp hn
      exact ⟨hw.other n hnb, fun o ho => (hfc n o ho).resolve_right hnb, fun ho => (hfo n ho).resolve_right hnb⟩
  · by_cases hnb : n = b
    · subst hnb; exact hfcb o ho
    · obtain ⟨c, e, fz, hc⟩ := h.fzc n o ((hfc n o ho).resolve_right hnb)
      exact ⟨c, e, fz, (hw.other n hnb).trans hc⟩
  · by_cases hnb : r = b
    · subst hnb; exact hfob ho
    · obtain ⟨es, cl, hc⟩ := h.fzo r ((hfo r ho).resolve_right hnb)
      exact ⟨es, cl, (hw.other r hnb).trans hc⟩
  · refine hf.step hkeep hw.os hw.tape hw.output (Nat.le_of_eq hw.size.symm) (fun n _ => ?_) hl (fun n o ho => ?_) (fun r ho => ?_) (fun j p n h1 h2 => .inl ⟨j, p, h1, h2⟩)
    · by_cases hnb : n = b
      · exact .inr ⟨k, _, hk, by rw [hnb]; rfl⟩
      · exact .inl (hw.other n hnb)
    · rcases hfc n o ho with h1 | h1
      · exact .inl h1
      · exact .inr (.inl ⟨k, _, hk, by rw [h1]; rfl⟩)
    · rcases hfo r ho with h1 | h1
      · exact .inl h1
      · exact .inr (.inl ⟨k, _, hk, by rw [h1]; rfl⟩)

/-- a key's block goes over to another key, at another place of it: the elder key is dead from now on -/
theorem Stp.rekey {ρ : Inj} {F : Fz} {w : World} {σ : Heap} (h : HR ρ F w σ) {k d b base sz ct base' sz' ct' : Nat} (hk : ρ k = some (.at_ b base sz ct)) (hd : σ d = .none) (x : Blk)
    (hx : ∀ ρ' : Inj, ρ.le ρ' → ρ' d = some (.at_ b base' sz' ct') → BR ρ' F w d x) :
    Stp ρ F w (setI (setI ρ k .dead) d (.at_ b base' sz' ct')) F w (upd (upd σ k .dead) d x) := by
  have hρ := h.fresh hd
  have hkd : k ≠ d := fun e => by rw [e, hρ] at hk; cases hk
  have hle : ρ.le (setI (setI ρ k .dead) d (.at_ b base' sz' ct')) := by
    intro j q hq
    by_cases hj : j = d
    · subst hj; rw [hρ] at hq; cases hq
    · by_cases hj2 : j = k
      · subst hj2; exact .inr (by rw [setI_ne _ hj, setI_same])
      · exact .inl (by rw [setI_ne _ hj, setI_ne _ hj2]; exact hq)
  refine ⟨Keep.refl _ _, F.le_refl, hle, ⟨fun j => ?_, fun j y hy => ?_, fun j j' p p' n h1 h2 h3 h4 => ?_, h.fzc, h.fzo⟩, fun W F0 U hf => ?_⟩
  · by_cases hj : j = d
    · subst hj; simp [upd_same, setI_same]
    · by_cases hj2 : j = k
      · subst hj2; rw [upd_ne _ hj, setI_ne _ hj, upd_same, setI_same]; simp
      · rw [upd_ne _ hj, setI_ne _ hj, upd_ne _ hj2, setI_ne _ hj2]; exact h.dom j
  · by_cases hj : j = d
    · subst hj; rw [upd_same] at hy; cases hy; exact hx _ hle (setI_same _ _ _)
    · by_cases hj2 : j = k
      · subst hj2; rw [upd_ne _ hj, upd_same] at hy; cases hy; exact .dead (by rw [setI_ne _ hj, setI_same])
      · rw [upd_ne _ hj, upd_ne _ hj2] at hy
        exact (h.blk j y hy).keep (Keep.refl _ _) F.le_refl hle (by rw [setI_ne _ hj, setI_ne _ hj2]) fun p n hp hn => ⟨rfl, fun _ h => h, fun h => h⟩
  · have old : ∀ i q m, i ≠ d → setI (setI ρ k .dead) d (.at_ b base' sz' ct') i = some q → q.block = some m → i ≠ k ∧ ρ i = some q := fun i q m hi hq hm => by
      rw [setI_ne _ hi] at hq
      by_cases hik : i = k
      · subst hik; rw [setI_same] at hq; cases hq; cases hm
      · rw [setI_ne _ hik] at hq; exact ⟨hik, hq⟩
    by_cases hj : j = d
    · by_cases hj' : j' = d
      · rw [hj, hj']
      · subst hj; rw [setI_same] at h1; cases h1; cases h3
        obtain ⟨e1, e2⟩ := old j' p' _ hj' h2 h4
        exact absurd (h.inj j' k p' _ b e2 hk h4 rfl) e1
    · obtain ⟨e1, e2⟩ := old j p _ hj h1 h3
      by_cases hj' : j' = d
      · subst hj'; rw [setI_same] at h2; cases h2; cases h4
        exact absurd (h.inj j k p _ b e2 hk h3 rfl) e1
      · obtain ⟨e3, e4⟩ := old j' p' _ hj' h2 h4
        exact h.inj j j' p p' n e2 e4 h3 h4
  · refine hf.step (Keep.refl _ _) rfl rfl rfl (Nat.le_refl _) (fun n _ => .inl rfl) F.le_refl (fun n o h => .inl h) (fun r h => .inl h) (fun j p n h1 h2 => ?_)
    by_cases hj : j = d
    · subst hj; rw [setI_same] at h1; cases h1; cases h2; exact .inl ⟨k, _, hk, rfl⟩
    · rw [setI_ne _ hj] at h1
      by_cases hj2 : j = k
      · subst hj2; rw [setI_same] at h1; cases h1; cases h2
      · rw [setI_ne _ hj2] at h1; exact .inl ⟨j, p, h1, h2⟩

/-- a key is dead from now on -/
theorem Stp.kill {ρ : Inj} {F : Fz} {w : World} {σ : Heap} (h : HR ρ F w σ) {k : Nat} (hk : σ k ≠ .none) : Stp ρ F w (setI ρ k .dead) F w (upd σ k .dead) := by
  have hρ : ρ k ≠ .none := fun e => hk ((h.dom k).2 e)
  have hle : ρ.le (setI ρ k .dead) := by
    intro j q hq
    by_cases hj : j = k
    · subst hj; exact .inr (setI_same _ _ _)
    · exact .inl (by rw [setI_ne _ hj]; exact hq)
  refine ⟨Keep.refl _ _, F.le_refl, hle, ⟨fun j => ?_, fun j y hy => ?_, fun j j' p p' n h1 h2 h3 h4 => ?_, h.fzc, h.fzo⟩, fun W F0 U hf => ?_⟩
  · by_cases hj : j = k
    · subst hj; simp [upd_same, setI_same]
    · rw [upd_ne _ hj, setI_ne _ hj]; exact h.dom j
  · by_cases hj : j = k
    · subst hj; rw [upd_same] at hy; cases hy; exact .dead (setI_same _ _ _)
    · rw [upd_ne _ hj] at hy
      exact (h.blk j y hy).keep (Keep.refl _ _) F.le_refl hle (setI_ne _ hj) fun p n hp hn => ⟨rfl, fun _ h => h, fun h => h⟩
  · by_cases hj : j = k
    · subst hj; rw [setI_same] at h1; cases h1; cases h3
    · by_cases hj' : j' = k
      · subst hj'; rw [setI_same] at h2; cases h2; cases h4
      · rw [setI_ne _ hj] at h1; rw [setI_ne _ hj'] at h2
        exact h.inj j j' p p' n h1 h2 h3 h4
  · refine hf.step (Keep.refl _ _) rfl rfl rfl (Nat.le_refl _) (fun n _ => .inl rfl) F.le_refl (fun n o h => .inl h) (fun r h => .inl h) (fun j p n h1 h2 => ?_)
    by_cases hj : j = k
    · subst hj; rw [setI_same] at h1; cases h1; cases h2
    · rw [setI_ne _ hj] at h1; exact .inl ⟨j, p, h1, h2⟩

end Go.Dm
