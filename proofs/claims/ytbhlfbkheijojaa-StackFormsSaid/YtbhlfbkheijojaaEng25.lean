/-
  A call that is handed data alone, and hands back data.
  Conditions: none.
-/
import Derived.Test.YtbhlfbkheijojaaEng24
namespace Go.Dm

mutual
def pureAV : AV → Bool
  | .agg cs => pureAVs cs
  | .tup vs => pureAVs vs
  | .fn _ a b => pureAVs a && pureAVs b
  | .t _ => true
  | .tsl _ => true
  | .any => true
  | .nils => true
  | .bq _ _ => true
  | .eptr _ _ => true
  | .ptr _ _ _ => false
  | .own _ _ _ _ => false
  | .mapr _ => false
  | .it _ => false
def pureAVs : List AV → Bool
  | [] => true
  | a :: r => pureAV a && pureAVs r
end

theorem pureAVs_get : ∀ {l : List AV}, pureAVs l = true → ∀ {i : Nat} {a : AV}, l[i]? = some a → pureAV a = true
  | [], _, i, a, h => by simp at h
  | b :: r, hp, 0, a, h => by
    simp only [pureAVs, Bool.and_eq_true] at hp
    simp at h; subst h; exact hp.1
  | b :: r, hp, i + 1, a, h => by
    simp only [pureAVs, Bool.and_eq_true] at hp
    exact pureAVs_get hp.2 (by simpa using h)

theorem AR.pure {ρ ρ' : Inj} {F : Fz} {w : World} {v : Value} {a : AV} (h : AR ρ F w v a) : pureAV a = true → AR ρ' F w v a := by
  induction h with
  | t h => intro _; exact .t h
  | tsl h => intro _; exact .tsl h
  | any v => intro _; exact .any v
  | nils => intro _; exact .nils
  | bq b hp hq => intro _; exact .bq b hp hq
  | eptr vals hb hv ht => intro _; exact .eptr vals hb hv ht
  | agg hs h ih => intro hp; exact .agg hs fun i v a h1 h2 => ih i v a h1 h2 (pureAVs_get (by simpa [pureAV] using hp) h2)
  | tup hs h ih => intro hp; exact .tup hs fun i v a h1 h2 => ih i v a h1 h2 (pureAVs_get (by simpa [pureAV] using hp) h2)
  | fn h1s h1 h2s h2 ih1 ih2 =>
    intro hp
    simp only [pureAV, Bool.and_eq_true] at hp
    exact .fn h1s (fun i v a x y => ih1 i v a x y (pureAVs_get hp.1 y)) h2s (fun i v a x y => ih2 i v a x y (pureAVs_get hp.2 y))
  | _ => intro hp; simp [pureAV] at hp

def noI : Inj := fun _ => none

theorem HR.forget {ρ : Inj} {F : Fz} {w : World} {σ : Heap} (h : HR ρ F w σ) : HR noI F w emp :=
  ⟨fun _ => ⟨fun _ => rfl, fun _ => rfl⟩, fun k b hb => by simp [emp] at hb, fun k k' p p' b hk => by simp [noI] at hk, h.fzc, h.fzo⟩

theorem Stp.frame {ρ : Inj} {F : Fz} {w : World} {σ : Heap} (h : HR ρ F w σ) {ρ' : Inj} {F' : Fz} {w' : World} {σ' : Heap} (s : Stp noI F w ρ' F' w' σ') : Stp ρ F w ρ F' w' σ := by
  have f := s.fr w F (fun _ => False) ⟨rfl, rfl, rfl, Nat.le_refl _, fun _ _ _ => rfl, Keep.refl _ _, F.le_refl, fun b o h => .inl h, fun r h => .inl h, fun k p b hk => by simp [noI] at hk⟩
  have hsz : ∀ b x, w.heap[b]? = some x → b < w.heap.size := fun b x hb => (Array.getElem?_eq_some_iff.1 hb).1
  have hin : ∀ k p n, ρ k = some p → p.block = some n → n < w.heap.size := fun k p n hk hn => by
    cases hx : σ k with
    | none => rw [(h.dom k).1 hx] at hk; cases hk
    | some b =>
      have := h.blk k b hx
      cases this with
      | dead h1 => rw [h1] at hk; cases hk; cases hn
      | virt h1 => rw [h1] at hk; cases hk; cases hn
      | row h1 hb => rw [h1] at hk; cases hk; cases hn; exact hsz _ _ hb
      | map h1 hb => rw [h1] at hk; cases hk; cases hn; exact hsz _ _ hb
      | siter h1 hb => rw [h1] at hk; cases hk; cases hn; exact hsz _ _ hb
      | mapl h1 hb _ _ _ _ _ => rw [h1] at hk; cases hk; cases hn; exact hsz _ _ hb
      | itl h1 hb _ => rw [h1] at hk; cases hk; cases hn; exact hsz _ _ hb
  have hcell : ∀ b o, b < w.heap.size → F'.cell b o → F.cell b o := fun b o hb ho => by
    rcases f.fnew b o ho with h | h | h
    · exact h
    · exact h.elim
    · omega
  have hobj : ∀ b, b < w.heap.size → F'.obj b → F.obj b := fun b hb ho => by
    rcases f.onew b ho with h | h | h
    · exact h
    · exact h.elim
    · omega
  refine ⟨s.keep, s.fle, ρ.le_refl, ⟨h.dom, fun k b hb => ?_, h.inj, s.heap.fzc, s.heap.fzo⟩, fun W F0 U x => ?_⟩
  · exact (h.blk k b hb).keep s.keep s.fle ρ.le_refl rfl fun p n hk hn => ⟨f.same n (hin k p n hk hn) (fun h => h), fun o => hcell n o (hin k p n hk hn), hobj n (hin k p n hk hn)⟩
  · refine ⟨f.os.trans x.os, f.tape.trans x.tape, f.output.trans x.output, Nat.le_trans x.size f.size, fun b hb hu => ?_, x.keep.trans (s.keep.mono x.fle), Fz.le_trans x.fle s.fle, fun b o ho => ?_, fun r ho => ?_, x.own⟩
    · rw [f.same b (Nat.lt_of_lt_of_le hb x.size) (fun h => h)]
      exact x.same b hb hu
    · rcases f.fnew b o ho with h | h | h
      · exact x.fnew b o h
      · exact h.elim
      · exact .inr (.inr (Nat.le_trans x.size h))
    · rcases f.onew r ho with h | h | h
      · exact x.onew r h
      · exact h.elim
      · exact .inr (.inr (Nat.le_trans x.size h))

theorem ValsAR.pure {ρ ρ' : Inj} {F : Fz} {w : World} {vs : Array Value} {as : List AV} (h : ValsAR ρ F w vs as) (hp : pureAVs as = true) : ValsAR ρ' F w vs as :=
  ⟨h.1, fun i v a h1 h2 => (h.2 i v a h1 h2).pure (pureAVs_get hp h2)⟩

/-- a contract in an empty memory is one in each -/
theorem FSpec.pure {P : Program} {f : FuncId} {args : List AV} {R : AV → Prop} (h : FSpec P f args emp fun r _ => R r) (hp : pureAVs args = true) (hR : ∀ r, R r → pureAV r = true) (σ : Heap) :
    FSpec P f args σ fun r σ' => R r ∧ σ' = σ := by
  intro ρ F w vs hv hh
  refine (h noI F w vs (hv.pure hp) hh.forget).mono fun e w' hq => ?_
  obtain ⟨v, rfl, r, σ', ρ', F', hr, har, hs⟩ := hq
  exact ⟨v, rfl, r, σ, ρ, F', ⟨hr, rfl⟩, har.pure (hR r hr), Stp.frame hh hs⟩

theorem PSpec.of_exec {P : Program} {Γ : Pures} {f : FuncId} {fn : Func} {c : Code} {args : List AV} {R : AV → Prop} (hm : P.follows .mixedOrders = true) (hf : P.funcs[f]? = some fn) (hb : fn.body = some c) (hc : callable P f = true)
    (hp : pureAVs args = true) (hR : ∀ r, R r → pureAV r = true) (hne : ∃ r, R r)
    (h : exec P Γ emp c (retQ P emp fn fun r _ => R r) ⟨args ++ List.replicate (fn.ntmps - args.length) (.tup []), emp⟩) : PSpec P f args R :=
  ⟨hc, FSpec.pure (FSpec.of_exec hm hf hb h) hp hR, hne⟩

end Go.Dm
