/-
  The abstract machine's data: frozen trees, abstract values, blocks; when a concrete value and world are told by them; what keeps that.
  Conditions: none (definitions and plain lemmas).
-/
import Derived.Calls
import Derived.Orders
import Derived.Scope
import Derived.Laws.World
import Derived.Laws.Sem
import Derived.Laws.Cells
import Derived.Laws.Append
import Derived.Laws.Rows
import Derived.KernelRfl
namespace Go.Dm

/-- keys of maps -/
inductive MKey where
  | i (n : Int)
  | s (b : ByteArray)
  | p (a b : Int)
  deriving DecidableEq

def MKey.kd : MKey → Nat
  | .i _ => 0
  | .s _ => 1
  | .p _ _ => 2

def MKey.val : MKey → Value
  | .i n => .int .i64 n
  | .s b => .string b
  | .p a b => .agg #[.int .i64 a, .int .i64 b]

/-- data that nobody writes any more -/
inductive Tree where
  | bool (b : Bool)
  | int (k : IntKind) (n : Int)
  | str (s : ByteArray)
  | nilp
  | rows (es : List (List Tree))
  | nilmap
  | map (kd : Nat) (m : MKey → Option Tree)

instance : Inhabited Tree := ⟨.nilp⟩

/-- abstract values -/
inductive AV where
  | t (x : Tree)
  | tsl (es : List (List Tree))
  | any
  | ptr (k e o : Nat)
  | eptr (cs : List Tree) (o : Nat)
  | own (k off len : Nat) (tight : Bool)
  | mapr (k : Nat)
  | agg (cs : List AV)
  | tup (vs : List AV)
  | fn (f : Nat) (fst cap : List AV)
  | it (k : Nat)
  | bq (p q : Bool)
  | nils

instance : Inhabited AV := ⟨.any⟩

inductive Tag where
  | var | vec | lone
  deriving DecidableEq

/-- abstract blocks -/
inductive Blk where
  | dead
  | row (tag : Tag) (sz : Nat) (es : List (List AV))
  | map (kd : Nat) (m : MKey → Option AV)
  | iter (src : AV) (left : List MKey)
  | siter (s : ByteArray) (pos : Nat)
  | mapl (kd : Nat) (es : List (MKey × AV × Nat)) (clock : Nat)
  | itl (src : AV) (since : Nat) (seen : List Nat) (last : Nat)

abbrev Heap := Nat → Option Blk

def upd (h : Heap) (k : Nat) (b : Blk) : Heap := fun j => if j = k then some b else h j
def updAll (h : Heap) : List (Nat × Blk) → Heap
  | [] => h
  | (k, b) :: r => updAll (upd h k b) r
def emp : Heap := fun _ => Option.none

structure St where
  tmps : List AV
  σ : Heap

/-- where a key's block lies -/
inductive Pl where
  | dead
  | virt
  | at_ (b base sz ct : Nat)

abbrev Inj := Nat → Option Pl

/-- what is frozen: cells, map blocks -/
structure Fz where
  cell : Nat → Nat → Prop
  obj : Nat → Prop

def Fz.le (F G : Fz) : Prop := (∀ b o, F.cell b o → G.cell b o) ∧ (∀ r, F.obj r → G.obj r)
theorem Fz.le_refl (F : Fz) : F.le F := ⟨fun _ _ h => h, fun _ h => h⟩
theorem Fz.le_trans {F G H : Fz} (a : F.le G) (b : G.le H) : F.le H := ⟨fun x y h => b.1 x y (a.1 x y h), fun r h => b.2 r (a.2 r h)⟩

/-- a map's entries hold what m says -/
structure MapIs {α : Type} (kd : Nat) (es : Array MapEntry) (clock : Nat) (m : MKey → Option α) (vals : MKey → Value) : Prop where
  keys : ∀ e ∈ es.toList, ∃ k, e.key = k.val ∧ (m k).isSome ∧ k.kd = kd
  has : ∀ k, (m k).isSome → ∃ e ∈ es.toList, e.key = k.val ∧ e.val = vals k
  once : (es.toList.map (·.key)).Nodup
  born : (es.toList.map (·.born)).Nodup
  clock : ∀ e ∈ es.toList, e.born < clock

inductive TR (F : Fz) (w : World) : Value → Tree → Prop where
  | bool (b : Bool) : TR F w (.bool b) (.bool b)
  | int (k : IntKind) (n : Int) : TR F w (.int k n) (.int k n)
  | str (s : ByteArray) : TR F w (.string s) (.str s)
  | nilp : TR F w (.pointer .none) .nilp
  | nil (a : Option Addr) (cap : Nat) : TR F w (.slice a 0 cap) (.rows [])
  | rows (b off len cap sz : Nat) (es : List (List Tree)) (c : Array Value) (e : TypeId) (fz : Nat × Nat) (vals : Nat → Nat → Value)
      (hb : w.heap[b]? = some (.cells c e fz)) (hl : es.length = len) (hc : len ≤ cap) (hs : off + cap * sz ≤ c.size)
      (hz : ∀ x ∈ es, x.length = sz)
      (hv : ∀ i x, es[i]? = some x → ∀ j t, x[j]? = some t → F.cell b (off + i * sz + j) ∧ c[off + i * sz + j]? = some (vals i j))
      (ht : ∀ i x, es[i]? = some x → ∀ j t, x[j]? = some t → TR F w (vals i j) t) :
      TR F w (.slice (some ⟨b, off, .none⟩) len cap) (.rows es)
  | nilmap : TR F w (.map .none) .nilmap
  | map (r kd : Nat) (es : Array MapEntry) (clock : Nat) (m : MKey → Option Tree) (vals : MKey → Value)
      (hb : w.heap[r]? = some (.map es clock)) (hf : F.obj r) (hm : MapIs kd es clock m vals)
      (ht : ∀ k t, m k = some t → TR F w (vals k) t) : TR F w (.map (some r)) (.map kd m)

/-- what is frozen stays; rows keep their sizes -/
structure Keep (F : Fz) (w w' : World) : Prop where
  cells : ∀ b c e fz, w.heap[b]? = some (.cells c e fz) → ∃ c', w'.heap[b]? = some (.cells c' e fz) ∧ c'.size = c.size ∧ ∀ o, F.cell b o → c'[o]? = c[o]?
  objs : ∀ r es cl, F.obj r → w.heap[r]? = some (.map es cl) → w'.heap[r]? = some (.map es cl)

theorem Keep.refl (F : Fz) (w : World) : Keep F w w := ⟨fun _ c _ _ h => ⟨c, h, rfl, fun _ _ => rfl⟩, fun _ _ _ _ h => h⟩

theorem Keep.trans {F : Fz} {a b c : World} (h : Keep F a b) (k : Keep F b c) : Keep F a c := by
  refine ⟨fun x cs e fz hx => ?_, fun r es cl hf hr => k.objs r es cl hf (h.objs r es cl hf hr)⟩
  obtain ⟨c', h1, h2, h3⟩ := h.cells x cs e fz hx
  obtain ⟨c'', k1, k2, k3⟩ := k.cells x c' e fz h1
  exact ⟨c'', k1, k2.trans h2, fun o ho => (k3 o ho).trans (h3 o ho)⟩

theorem Keep.mono {F G : Fz} {a b : World} (h : Keep G a b) (hl : F.le G) : Keep F a b := by
  refine ⟨fun x cs e fz hx => ?_, fun r es cl hf hr => h.objs r es cl (hl.2 r hf) hr⟩
  obtain ⟨c', h1, h2, h3⟩ := h.cells x cs e fz hx
  exact ⟨c', h1, h2, fun o ho => h3 o (hl.1 x o ho)⟩

theorem TR.keep {F G : Fz} {w w' : World} {v : Value} {x : Tree} (h : TR F w v x) (hk : Keep F w w') (hl : F.le G) : TR G w' v x := by
  induction h with
  | bool b => exact .bool b
  | int k n => exact .int k n
  | str s => exact .str s
  | nilp => exact .nilp
  | nil a cap => exact .nil a cap
  | rows b off len cap sz es c e fz vals hb hln hc hs hz hv ht ih =>
    obtain ⟨c', h1, h2, h3⟩ := hk.cells b c e fz hb
    exact .rows b off len cap sz es c' e fz vals h1 hln hc (h2 ▸ hs) hz
      (fun i x hi j t hj => ⟨hl.1 _ _ (hv i x hi j t hj).1, (h3 _ (hv i x hi j t hj).1).trans (hv i x hi j t hj).2⟩) ih
  | nilmap => exact .nilmap
  | map r kd es clock m vals hb hf hm ht ih => exact .map r kd es clock m vals (hk.objs r es clock hf hb) (hl.2 r hf) hm ih

inductive AR (ρ : Inj) (F : Fz) (w : World) : Value → AV → Prop where
  | t {v : Value} {x : Tree} (h : TR F w v x) : AR ρ F w v (.t x)
  | tsl {a : Option Addr} {len : Nat} {es : List (List Tree)} (h : TR F w (.slice a len len) (.rows es)) : AR ρ F w (.slice a len len) (.tsl es)
  | any (v : Value) : AR ρ F w v .any
  | nils : AR ρ F w (.slice none 0 0) .nils
  | bq {p q : Bool} (b : Bool) (hp : b = true → p = true) (hq : b = false → q = true) : AR ρ F w (.bool b) (.bq p q)
  | ptr {k e o b base sz ct : Nat} (h : ρ k = some (.at_ b base sz ct)) : AR ρ F w (.pointer (some ⟨b, base + e * sz + o, .none⟩)) (.ptr k e o)
  | ptrDead {k e o : Nat} (a : Addr) (h : ρ k = some .dead) : AR ρ F w (.pointer (some a)) (.ptr k e o)
  | eptr {b off o : Nat} {cs : List Tree} {c : Array Value} {e : TypeId} {fz : Nat × Nat} (vals : Nat → Value) (hb : w.heap[b]? = some (.cells c e fz))
      (hv : ∀ j t, cs[j]? = some t → F.cell b (off + j) ∧ c[off + j]? = some (vals j)) (ht : ∀ j t, cs[j]? = some t → TR F w (vals j) t) :
      AR ρ F w (.pointer (some ⟨b, off + o, .none⟩)) (.eptr cs o)
  | own {k off len b base sz ct : Nat} {tight : Bool} (h : ρ k = some (.at_ b base sz ct)) (hl : off + len ≤ ct) :
      AR ρ F w (.slice (some ⟨b, base + off * sz, .none⟩) len (if tight then len else ct - off)) (.own k off len tight)
  | ownVirt {k : Nat} {tight : Bool} (a : Option Addr) (h : ρ k = some .virt) : AR ρ F w (.slice a 0 0) (.own k 0 0 tight)
  | ownZero {k off b base sz ct : Nat} {tight : Bool} (a : Option Addr) (h : ρ k = some (.at_ b base sz ct)) (hl : off ≤ ct) (hz : off = ct ∨ tight = true) : AR ρ F w (.slice a 0 0) (.own k off 0 tight)
  | ownDead {k off len : Nat} {tight : Bool} (a : Option Addr) (l c : Nat) (h : ρ k = some .dead) (hn : 0 < len → a ≠ none) : AR ρ F w (.slice a l c) (.own k off len tight)
  | mapr {k b base sz ct : Nat} (h : ρ k = some (.at_ b base sz ct)) : AR ρ F w (.map (some b)) (.mapr k)
  | maprDead {k : Nat} (r : Nat) (h : ρ k = some .dead) : AR ρ F w (.map (some r)) (.mapr k)
  | agg {vs : Array Value} {as : List AV} (hs : vs.size = as.length) (h : ∀ (i : Nat) (v : Value) (a : AV), vs[i]? = some v → as[i]? = some a → AR ρ F w v a) : AR ρ F w (.agg vs) (.agg as)
  | tup {vs : Array Value} {as : List AV} (hs : vs.size = as.length) (h : ∀ (i : Nat) (v : Value) (a : AV), vs[i]? = some v → as[i]? = some a → AR ρ F w v a) : AR ρ F w (.tuple vs) (.tup as)
  | fn {f : Nat} {v1 v2 : Array Value} {a1 a2 : List AV} (h1s : v1.size = a1.length) (h1 : ∀ (i : Nat) (v : Value) (a : AV), v1[i]? = some v → a1[i]? = some a → AR ρ F w v a)
      (h2s : v2.size = a2.length) (h2 : ∀ (i : Nat) (v : Value) (a : AV), v2[i]? = some v → a2[i]? = some a → AR ρ F w v a) : AR ρ F w (.func (.func f) v1 v2) (.fn f a1 a2)
  | it {k b base sz ct : Nat} (h : ρ k = some (.at_ b base sz ct)) : AR ρ F w (.pointer (some ⟨b, 0, .none⟩)) (.it k)
  | itDead {k : Nat} (a : Addr) (h : ρ k = some .dead) : AR ρ F w (.pointer (some a)) (.it k)

/-- ρ' tells the old keys as ρ does, or that they are gone -/
def Inj.le (ρ ρ' : Inj) : Prop := ∀ k p, ρ k = some p → ρ' k = some p ∨ ρ' k = some .dead

theorem Inj.le_refl (ρ : Inj) : ρ.le ρ := fun _ _ h => .inl h

theorem AR.keep {ρ ρ' : Inj} {F G : Fz} {w w' : World} {v : Value} {a : AV} (h : AR ρ F w v a) (hk : Keep F w w') (hl : F.le G) (hi : ρ.le ρ') : AR ρ' G w' v a := by
  induction h with
  | t h => exact .t (h.keep hk hl)
  | tsl h => exact .tsl (h.keep hk hl)
  | any v => exact .any v
  | nils => exact .nils
  | bq b hp hq => exact .bq b hp hq
  | ptr h => 
    rcases hi _ _ h with h | h
    · exact .ptr h
    · exact .ptrDead _ h
  | ptrDead v h => rcases hi _ _ h with h | h <;> exact .ptrDead _ h
  | eptr vals hb hv ht =>
    obtain ⟨c', h1, h2, h3⟩ := hk.cells _ _ _ _ hb
    exact .eptr vals h1 (fun j t hj => ⟨hl.1 _ _ (hv j t hj).1, (h3 _ (hv j t hj).1).trans (hv j t hj).2⟩) (fun j t hj => (ht j t hj).keep hk hl)
  | own h hln => 
    rcases hi _ _ h with h | h
    · exact .own h hln
    · exact .ownDead _ _ _ h (by simp)
  | ownVirt a h =>
    rcases hi _ _ h with h | h
    · exact .ownVirt a h
    · exact .ownDead _ _ _ h (by simp)
  | ownZero a h hl hz =>
    rcases hi _ _ h with h | h
    · exact .ownZero a h hl hz
    · exact .ownDead _ _ _ h (by simp)
  | ownDead a l c h hn => rcases hi _ _ h with h | h <;> exact .ownDead _ _ _ h hn
  | mapr h => 
    rcases hi _ _ h with h | h
    · exact .mapr h
    · exact .maprDead _ h
  | maprDead v h => rcases hi _ _ h with h | h <;> exact .maprDead _ h
  | agg hs h ih => exact .agg hs ih
  | tup hs h ih => exact .tup hs ih
  | fn h1s h1 h2s h2 ih1 ih2 => exact .fn h1s ih1 h2s ih2
  | it h => 
    rcases hi _ _ h with h | h
    · exact .it h
    · exact .itDead _ h
  | itDead v h => rcases hi _ _ h with h | h <;> exact .itDead _ h

/-- a row's cells are told by lists -/
def CellsAre (ρ : Inj) (F : Fz) (w : World) (c : Array Value) (base sz : Nat) (es : List (List AV)) : Prop :=
  ∀ i x, es[i]? = some x → ∀ j a, x[j]? = some a → ∃ v, c[base + i * sz + j]? = some v ∧ AR ρ F w v a

/-- what is frozen of a block, by its kind -/
def FzOk (F : Fz) (b : Nat) : Tag → Nat → Prop
  | .vec, top => ∀ o, F.cell b o → o < top
  | _, _ => ∀ o, ¬ F.cell b o

inductive BR (ρ : Inj) (F : Fz) (w : World) (k : Nat) : Blk → Prop where
  | dead (h : ρ k = some .dead) : BR ρ F w k .dead
  | virt {tag : Tag} {sz : Nat} (h : ρ k = some .virt) (ht : tag ≠ .var) : BR ρ F w k (.row tag sz [])
  | row {tag : Tag} {es : List (List AV)} {b base sz ct : Nat} {c : Array Value} {e : TypeId} (h : ρ k = some (.at_ b base sz ct))
      (hb : w.heap[b]? = some (.cells c e (0, 0))) (hl : es.length ≤ ct) (hs : base + ct * sz ≤ c.size) (hz : ∀ x ∈ es, x.length = sz)
      (hc : CellsAre ρ F w c base sz es) (hf : FzOk F b tag (base + es.length * sz)) : BR ρ F w k (.row tag sz es)
  | map {kd : Nat} {m : MKey → Option AV} {b base sz ct : Nat} {es : Array MapEntry} {clock : Nat} {vals : MKey → Value} (h : ρ k = some (.at_ b base sz ct))
      (hb : w.heap[b]? = some (.map es clock)) (hm : MapIs kd es clock m vals) (hv : ∀ j a, m j = some a → AR ρ F w (vals j) a) (hf : ¬ F.obj b) : BR ρ F w k (.map kd m)
  | siter {s : ByteArray} {pos b base sz ct : Nat} (h : ρ k = some (.at_ b base sz ct)) (hb : w.heap[b]? = some (.stringIter s pos)) : BR ρ F w k (.siter s pos)

  | mapl {kd clock b base sz ct : Nat} {es : List (MKey × AV × Nat)} {arr : Array MapEntry} (h : ρ k = some (.at_ b base sz ct)) (hb : w.heap[b]? = some (.map arr clock)) (hs : arr.size = es.length)
      (ha : ∀ (i : Nat) (x : MKey × AV × Nat), es[i]? = some x → ∃ v, arr[i]? = some { key := x.1.val, val := v, born := x.2.2 } ∧ AR ρ F w v x.2.1)
      (hk : ∀ x ∈ es, x.1.kd = kd) (hn : (es.map (·.1)).Nodup) (hf : ¬ F.obj b) : BR ρ F w k (.mapl kd es clock)
  | itl {src : AV} {since last b base sz ct : Nat} {seen : List Nat} {m : Option Nat} (h : ρ k = some (.at_ b base sz ct)) (hb : w.heap[b]? = some (.mapIter m since seen.toArray last)) (hm : AR ρ F w (.map m) src) :
      BR ρ F w k (.itl src since seen last)

/-- what a place has to do with block b -/
def Pl.block : Pl → Option Nat
  | .at_ b _ _ _ => some b
  | _ => .none

structure HR (ρ : Inj) (F : Fz) (w : World) (σ : Heap) : Prop where
  dom : ∀ k, σ k = .none ↔ ρ k = .none
  blk : ∀ k b, σ k = some b → BR ρ F w k b
  inj : ∀ k k' p p' b, ρ k = some p → ρ k' = some p' → p.block = some b → p'.block = some b → k = k'
  fzc : ∀ b o, F.cell b o → ∃ c e fz, w.heap[b]? = some (.cells c e fz)
  fzo : ∀ r, F.obj r → ∃ es cl, w.heap[r]? = some (.map es cl)

/-- the frame: against the world W at the start, with what was frozen then, and the blocks U that may be written -/
structure Fr (W : World) (F0 : Fz) (U : Nat → Prop) (ρ : Inj) (F : Fz) (w : World) : Prop where
  os : w.os = W.os
  tape : w.tape = W.tape
  output : w.output = W.output
  size : W.heap.size ≤ w.heap.size
  same : ∀ b, b < W.heap.size → ¬ U b → w.heap[b]? = W.heap[b]?
  keep : Keep F0 W w
  fle : F0.le F
  fnew : ∀ b o, F.cell b o → F0.cell b o ∨ U b ∨ W.heap.size ≤ b
  onew : ∀ r, F.obj r → F0.obj r ∨ U r ∨ W.heap.size ≤ r
  own : ∀ k p b, ρ k = some p → p.block = some b → U b ∨ W.heap.size ≤ b

def ValsAR (ρ : Inj) (F : Fz) (w : World) (vs : Array Value) (as : List AV) : Prop :=
  vs.size = as.length ∧ ∀ (i : Nat) (v : Value) (a : AV), vs[i]? = some v → as[i]? = some a → AR ρ F w v a

structure SR (W : World) (F0 : Fz) (U : Nat → Prop) (ρ : Inj) (F : Fz) (a : Act) (w : World) (st : St) : Prop where
  defers : a.defers = []
  tmps : ValsAR ρ F w a.tmps st.tmps
  heap : HR ρ F w st.σ
  fr : Fr W F0 U ρ F w

end Go.Dm
