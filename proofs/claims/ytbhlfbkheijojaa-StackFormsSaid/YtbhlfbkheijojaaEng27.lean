/-
  A nil slice told as a row of one's own; typed data as trees.
  Conditions: none.
-/
import Derived.Test.YtbhlfbkheijojaaEng26
namespace Go.Dm

theorem Weak.virt {σ0 : Heap} (k : Nat) (tag : Tag) (sz : Nat) {ts ts' : List AV} {σ : Heap} (hk : σ k = none) (h0 : σ0 k = none) (ht : tag ≠ .var) (hl : ts'.length = ts.length)
    (h : ∀ (i : Nat) (a b : AV), ts[i]? = some a → ts'[i]? = some b → a = b ∨ ((a = .tsl [] ∨ a = .nils) ∧ b = .own k 0 0 false)) : Weak σ0 ⟨ts, σ⟩ ⟨ts', upd σ k (.row tag sz [])⟩ := by
  intro ρ0 F0 W ρ F a w hE s
  have hs := Stp.virt s.stp.heap (d := k) hk tag sz ht
  refine ⟨_, _, s.defers, ⟨by rw [s.tmps.1, ← hl], fun i v b hv hb => ?_⟩, s.stp.trans hs⟩
  have hi : i < ts.length := by rw [← hl]; exact (List.getElem?_eq_some_iff.1 hb).1
  have hr := hs.ar (s.tmps.2 i v _ hv (List.getElem?_eq_getElem hi))
  rcases h i _ b (List.getElem?_eq_getElem hi) hb with e | ⟨e1, e2⟩
  · rw [← e]; exact hr
  · subst e2
    rcases e1 with e1 | e1
    · rw [e1] at hr
      cases hr with
      | tsl h =>
        cases h with
        | nil => exact .ownVirt _ (setI_same _ _ _)
        | rows b off len cap sz' es c e fz vals hb hln => 
          have : ([] : List (List Tree)).length = 0 := rfl
          simp only [List.length_nil] at hln
          subst hln
          exact .ownVirt _ (setI_same _ _ _)
    · rw [e1] at hr
      cases hr with
      | nils => exact .ownVirt _ (setI_same _ _ _)

/-- keys told otherwise, worked out -/
theorem Weak.to {σ0 : Heap} (l : List (Nat × Nat)) {ts ts' : List AV} {h h' : List (Nat × Blk)} (h1 : (l.map (·.1)).Nodup) (h2 : (l.map (·.2)).Nodup) (h0 : ∀ k, σ0 k ≠ none → fwd l k = some k)
    (e1 : ts.map (mapAV (renLeaf (fwd l))) = ts') (e2 : renHp l h = h') : Weak σ0 ⟨ts, hp h⟩ ⟨ts', hp h'⟩ := by
  subst e1; subst e2; exact Weak.ren l h1 h2 h0

theorem Weak.toE (l : List (Nat × Nat)) {ts ts' : List AV} {h h' : List (Nat × Blk)} (h1 : (l.map (·.1)).Nodup) (h2 : (l.map (·.2)).Nodup)
    (e1 : ts.map (mapAV (renLeaf (fwd l))) = ts') (e2 : renHp l h = h') : Weak emp ⟨ts, hp h⟩ ⟨ts', hp h'⟩ := Weak.to l h1 h2 (fun k hk => absurd rfl hk) e1 e2

def tI (n : Int) : Tree := .int .i64 n
/-- []int -/
def rI (l : List Int) : List (List Tree) := l.map fun n => [Tree.int .i64 n]
/-- [][]int -/
def rII (l : List (List Int)) : List (List Tree) := l.map fun r => [Tree.rows (rI r)]
/-- [][2]int -/
def rP (l : List (Int × Int)) : List (List Tree) := l.map fun p => [Tree.int .i64 p.1, Tree.int .i64 p.2]

/-- data in a row of one's own -/
def rA (es : List (List Tree)) : List (List AV) := es.map fun e => e.map .t
@[simp] theorem rA_length {es : List (List Tree)} : (rA es).length = es.length := by simp [rA]
theorem rA_snoc (es : List (List Tree)) (r : List Tree) : rA es ++ [r.map .t] = rA (es ++ [r]) := by simp [rA]
theorem rI_snoc (l : List Int) (x : Int) : rA (rI l) ++ [[AV.t (Tree.int .i64 x)]] = rA (rI (l ++ [x])) := by simp [rA, rI]
theorem rA_nil : rA [] = [] := rfl
@[simp] theorem rA_ren (f : Nat → Option Nat) (es : List (List Tree)) : (rA es).map (fun e => e.map (mapAV (renLeaf f))) = rA es := by
  simp [rA, Function.comp_def, mapAV, renLeaf]
@[simp] theorem rA_frz (k : Nat) (fs es : List (List Tree)) : (rA es).map (fun e => e.map (mapAV (frzLeaf k fs))) = rA es := by
  simp [rA, Function.comp_def, mapAV, frzLeaf]

@[simp] theorem rI_length {l : List Int} : (rI l).length = l.length := by simp [rI]
@[simp] theorem rII_length {l : List (List Int)} : (rII l).length = l.length := by simp [rII]
@[simp] theorem rP_length {l : List (Int × Int)} : (rP l).length = l.length := by simp [rP]

theorem map_getD {α β : Type} (f : α → β) {l : List α} {i : Nat} (h : i < l.length) (d : β) : (l.map f).getD i d = f l[i] := by simp [List.getD, h]

theorem rI_at {l : List Int} {i : Nat} (h : i < l.length) : (rI l).getD i [] = [Tree.int .i64 l[i]] := map_getD _ h _
theorem rII_at {l : List (List Int)} {i : Nat} (h : i < l.length) : (rII l).getD i [] = [Tree.rows (rI l[i])] := map_getD _ h _
theorem rP_at {l : List (Int × Int)} {i : Nat} (h : i < l.length) : (rP l).getD i [] = [Tree.int .i64 l[i].1, Tree.int .i64 l[i].2] := map_getD _ h _


/-- a nil slice in a slot, told as a row of one's own -/
theorem Weak.virtE (k : Nat) (sz : Nat) {ts ts' : List AV} {h : List (Nat × Blk)} (hk : hp h k = none) (hl : ts'.length = ts.length)
    (e : ∀ (i : Nat) (a b : AV), ts[i]? = some a → ts'[i]? = some b → a = b ∨ ((a = .tsl [] ∨ a = .nils) ∧ b = .own k 0 0 false)) : Weak emp ⟨ts, hp h⟩ ⟨ts', hp ((k, .row .lone sz []) :: h)⟩ :=
  Weak.virt k .lone sz hk rfl (by simp) hl e

end Go.Dm
