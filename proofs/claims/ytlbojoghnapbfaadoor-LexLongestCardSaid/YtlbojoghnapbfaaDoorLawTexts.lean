/- The law LexTexts, walked. -/
import Derived.Test.YtlbojoghnapbfaaDoorLawAwake
import Derived.Test.YtlbojoghnapbfaaDoorRefText
set_option linter.unusedSimpArgs false
set_option linter.unusedVariables false
namespace Go.Proofs.YtlbojoghnapbfaaDoor
open Go Go.Av Go.Lexs
attribute [local irreducible] ACalls at8

theorem textR_form (l : List Tk) : ∃ (x : List UInt8) (e : Int), textR l = .tuple [.str (S x), .int .i64 e] := by
  unfold textR
  split
  · split
    · exact ⟨_, _, rfl⟩
    · exact ⟨_, _, rfl⟩
  · exact ⟨_, _, rfl⟩

theorem lexTexts_a {Q} (a b : List Tk) (ha : a.length ≤ 4611686018427387904) (hb : b.length ≤ 4611686018427387904) (fa : ∀ t ∈ a, TkFit t) (fb : ∀ t ∈ b, TkFit t) (H : Heap) (hT : Tabs H) (h : Q (.bool true) H) :
    ACalls Tryd.prog 3 [.sl 5 (tksD a), .sl 5 (tksD b)] H Q := by
  refine acalls_of_wp [] Tryd.mixed Tryd.func3 rfl (by kernel_rfl) (of_decide_eq_true (by kernel_rfl)) (by kernel_rfl) ?_
  simp only [go_sem, reduceIte, Nat.reduceEqDiff, Nat.reduceAdd, Nat.reduceSub, Nat.reduceLT, Nat.reduceLeDiff, reduceCtorEq, Int.reduceToNat, Int.reduceLE, Int.reduceLT, Int.reduceEq, Int.reduceNeg, Int.reduceAdd, Int.reduceSub, Nat.reduceMul, Tryd.results3]
  by_cases h1 : 3000 < a.length
  · have h1' : (3000 : Int) < a.length := by omega
    repeat' (first | with_reducible refine And.intro ?_ ?_ | intro _ | simp only [go_sem, reduceIte, Nat.reduceEqDiff, Nat.reduceAdd, Nat.reduceSub, Nat.reduceLT, Nat.reduceLeDiff, reduceCtorEq, Int.reduceToNat, Int.reduceLE, Int.reduceLT, Int.reduceEq, Int.reduceNeg, Int.reduceAdd, Int.reduceSub, Nat.reduceMul, h1'] | simp (disch := omega) only [wrap64] | with_reducible refine awake_a _ hT ?_ | omega)
    exact Fin.same h
  by_cases h2 : 3000 < b.length
  · have h1' : ¬ (3000 : Int) < a.length := by omega
    have h2' : (3000 : Int) < b.length := by omega
    repeat' (first | with_reducible refine And.intro ?_ ?_ | intro _ | simp only [go_sem, reduceIte, Nat.reduceEqDiff, Nat.reduceAdd, Nat.reduceSub, Nat.reduceLT, Nat.reduceLeDiff, reduceCtorEq, Int.reduceToNat, Int.reduceLE, Int.reduceLT, Int.reduceEq, Int.reduceNeg, Int.reduceAdd, Int.reduceSub, Nat.reduceMul, h1', h2'] | simp (disch := omega) only [wrap64] | with_reducible refine awake_a _ hT ?_ | omega)
    exact Fin.same h
  · have h1' : ¬ (3000 : Int) < a.length := by omega
    have h2' : ¬ (3000 : Int) < b.length := by omega
    have hal : a.length ≤ 1000000 := by omega
    have hbl : b.length ≤ 1000000 := by omega
    obtain ⟨x, e, hx⟩ := textR_form a
    repeat' (first | with_reducible refine And.intro ?_ ?_ | intro _ | simp only [go_sem, reduceIte, Nat.reduceEqDiff, Nat.reduceAdd, Nat.reduceSub, Nat.reduceLT, Nat.reduceLeDiff, reduceCtorEq, Int.reduceToNat, Int.reduceLE, Int.reduceLT, Int.reduceEq, Int.reduceNeg, Int.reduceAdd, Int.reduceSub, Nat.reduceMul, h1', h2'] | simp (disch := omega) only [wrap64] | omega)
    refine text_a a _ hT hal fa ?_
    rw [hx]
    simp only [go_sem, reduceIte, Nat.reduceEqDiff, Nat.reduceAdd, Nat.reduceSub, Nat.reduceLT, Nat.reduceLeDiff, reduceCtorEq, Int.reduceToNat, Int.reduceLE, Int.reduceLT, Int.reduceEq, Int.reduceNeg, Int.reduceAdd, Int.reduceSub, Nat.reduceMul]
    refine rText_a a _ hal fa ?_
    rw [hx]
    simp only [go_sem, reduceIte, Nat.reduceEqDiff, Nat.reduceAdd, Nat.reduceSub, Nat.reduceLT, Nat.reduceLeDiff, reduceCtorEq, Int.reduceToNat, Int.reduceLE, Int.reduceLT, Int.reduceEq, Int.reduceNeg, Int.reduceAdd, Int.reduceSub, Nat.reduceMul]
    refine same_a a b _ hal hbl ?_
    simp only [go_sem, reduceIte, Nat.reduceEqDiff, Nat.reduceAdd, Nat.reduceSub, Nat.reduceLT, Nat.reduceLeDiff, reduceCtorEq, Int.reduceToNat, Int.reduceLE, Int.reduceLT, Int.reduceEq, Int.reduceNeg, Int.reduceAdd, Int.reduceSub, Nat.reduceMul]
    refine rSame_a a b _ hal hbl ?_
    simp only [go_sem, reduceIte, Nat.reduceEqDiff, Nat.reduceAdd, Nat.reduceSub, Nat.reduceLT, Nat.reduceLeDiff, reduceCtorEq, Int.reduceToNat, Int.reduceLE, Int.reduceLT, Int.reduceEq, Int.reduceNeg, Int.reduceAdd, Int.reduceSub, Nat.reduceMul]
    refine same_a a a _ hal hal ?_
    rw [sameT_self]
    simp only [go_sem, reduceIte, Nat.reduceEqDiff, Nat.reduceAdd, Nat.reduceSub, Nat.reduceLT, Nat.reduceLeDiff, reduceCtorEq, Int.reduceToNat, Int.reduceLE, Int.reduceLT, Int.reduceEq, Int.reduceNeg, Int.reduceAdd, Int.reduceSub, Nat.reduceMul]
    refine awake_a _ hT ?_
    simp only [go_sem, reduceIte, Nat.reduceEqDiff, Nat.reduceAdd, Nat.reduceSub, Nat.reduceLT, Nat.reduceLeDiff, reduceCtorEq, Int.reduceToNat, Int.reduceLE, Int.reduceLT, Int.reduceEq, Int.reduceNeg, Int.reduceAdd, Int.reduceSub, Nat.reduceMul]
    exact Fin.same h
end Go.Proofs.YtlbojoghnapbfaaDoor
