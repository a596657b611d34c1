/-
  What 'Within' comes to.
  Conditions: none.
-/
import Derived.Test.YtbhlfbkheijojaaProg
import Derived.Test.YtbhlfbkheijojaaEv10
namespace Go.Dm
open Go.Proofs

theorem mixed : Try.prog.follows .mixedOrders = true := by kernel_rfl

def within (v n : Int) : Int := if n < 1 then 0 else v % n
def cWithin : List AV → Ctr
  | [.t (.int _ v), .t (.int _ n)] => .one (.t (.int .i64 (within v n)))
  | _ => .one .any

noncomputable def within_c : Code := bodyOf Try.f10

theorem within_vc (v n : Int) (R : AV → Heap → Prop) : exec Try.prog Γ0 emp within_c (retQ Try.prog emp Try.f10 R) ⟨[AV.t (Tree.int .i64 (v)), AV.t (Tree.int .i64 (n))] ++ List.replicate (Try.f10.ntmps - 2) (.tup []), emp⟩ =
    ((True ∧ (True ∧ (True ∧ (bcase (decide ((n) < ((1 : Int)))) (True ∧ ((True ∧ True) ∧ RetV emp R (AV.t (Tree.int .i64 ((0 : Int)))) (hp []))) (True ∧ (True ∧ ((n) ≠ 0 ∧ (True ∧ (True ∧ (True ∧ (bcase (decide ((Int.tmod (v) (n)) < ((0 : Int)))) (True ∧ (True ∧ (In64 ((Int.tmod (v) (n)) + (n)) ∧ (True ∧ (True ∧ (True ∧ ((True ∧ True) ∧ RetV emp R (AV.t (Tree.int .i64 ((Int.tmod (v) (n)) + (n)))) (hp [])))))))) (True ∧ (True ∧ ((True ∧ True) ∧ RetV emp R (AV.t (Tree.int .i64 (Int.tmod (v) (n)))) (hp [])))))))))))))))) := by kernel_rfl



theorem tmod_emod {v n : Int} (h : 0 < n) : v % n = if v.tmod n < 0 then v.tmod n + n else v.tmod n := by
  have h1 := Int.tmod_add_mul_tdiv v n
  have h2 := Int.emod_lt_of_pos v h
  have h3 := Int.emod_nonneg v (show n ≠ 0 by omega)
  have h4 : (v.tmod n) % n = v % n := by
    conv => rhs; rw [← h1]
    rw [Int.add_mul_emod_self_left]
  split
  · rename_i hlt
    rw [← h4, ← Int.add_emod_right, Int.emod_eq_of_lt]
    · have := Int.lt_tmod_of_pos v h; omega
    · omega
  · rename_i hge
    rw [← h4, Int.emod_eq_of_lt (by omega) (Int.tmod_lt_of_pos v h)]

theorem within_spec {v n : Int} (_hv : In64 v) (hn : In64 n) : PSpec Try.prog 10 [.t (.int .i64 v), .t (.int .i64 n)] (cWithin [.t (.int .i64 v), .t (.int .i64 n)]).R := by
  refine PSpec.of_vc mixed Try.func10 (c := within_c) (by kernel_rfl) (by kernel_rfl) rfl (fun _ _ => rfl) ⟨(), trivial⟩ (within_vc v n _) ?_
  simp only [bcase_iff, true_and, decide_eq_true_eq, decide_eq_false_iff_not]
  unfold In64 at *
  refine ⟨fun h => RetV.one ?_, fun h => ⟨by omega, ?_, ?_⟩⟩
  · simp [within, h]
  · intro h2
    have h3 := Int.lt_tmod_of_pos v (show 0 < n by omega)
    refine ⟨by omega, RetV.one ?_⟩
    simp only [within, h, if_false, tmod_emod (show 0 < n by omega), h2, if_true]
  · intro h2
    refine RetV.one ?_
    simp only [within, h, if_false, tmod_emod (show 0 < n by omega), h2]

end Go.Dm
