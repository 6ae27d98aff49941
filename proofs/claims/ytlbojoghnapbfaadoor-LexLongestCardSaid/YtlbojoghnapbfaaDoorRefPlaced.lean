/- Walks of the reference's lexer (voussoirref05): Placed. -/
import Derived.Test.YtlbojoghnapbfaaDoorLexText
set_option linter.unusedSimpArgs false
set_option linter.unusedVariables false
namespace Go.Proofs.YtlbojoghnapbfaaDoor
open Go Go.Av Go.Lexs
attribute [local irreducible] ACalls at8

/-- A slice that is compared with itself. -/
theorem placed_a {Q} (l : List Tk) (H : Heap) (hl : l.length ≤ 1000000) (h : Q (.bool true) H) : ACalls Tryd.prog 16 [.sl 5 (tksD l), .sl 5 (tksD l)] H Q := by
  refine acalls_of_wp [] Tryd.mixed Tryd.func16 rfl (by kernel_rfl) (of_decide_eq_true (by kernel_rfl)) (by kernel_rfl) ?_
  simp only [go_sem, reduceIte, Nat.reduceEqDiff, Nat.reduceAdd, Nat.reduceSub, Nat.reduceLT, Nat.reduceLeDiff, reduceCtorEq, Int.reduceToNat, Int.reduceLE, Int.reduceLT, Int.reduceEq, Int.reduceNeg, Int.reduceAdd, Int.reduceSub, Nat.reduceMul, Tryd.results16]
  refine loop_a (fun k : Nat => [(0, .sl 5 (tksD l)), (1, .sl 5 (tksD l)), (12, .int .i64 l.length), (13, .int .i64 k)]) (fun _ => H) (fun k => k ≤ l.length) (fun k => l.length - k) 0 (Nat.zero_le _) (by (try simp only [go_sem, reduceIte, Nat.reduceEqDiff, Nat.reduceAdd, Nat.reduceSub, Nat.reduceLT, Nat.reduceLeDiff, reduceCtorEq, Int.reduceToNat, Int.reduceLE, Int.reduceLT, Int.reduceEq, Int.reduceNeg, Int.reduceAdd, Int.reduceSub, Nat.reduceMul]) <;> (try simp (disch := omega) [wrap64]) <;> (try omega)) (Heap.Le.refl _) ?_
  rintro k hk
  by_cases hlt : k < l.length
  · have hkd : decide ((k : Int) < l.length) = true := decide_eq_true (by omega)
    have hat : (tksD l).getD k [] = [.int .i64 l[k].kind, .str (S l[k].text), .int .i64 l[k].n, .int .i64 l[k].line, .int .i64 l[k].col] := tksD_at l k hlt
    simp only [go_sem, reduceIte, Nat.reduceEqDiff, Nat.reduceAdd, Nat.reduceSub, Nat.reduceLT, Nat.reduceLeDiff, reduceCtorEq, Int.reduceToNat, Int.reduceLE, Int.reduceLT, Int.reduceEq, Int.reduceNeg, Int.reduceAdd, Int.reduceSub, Nat.reduceMul, hkd, hat]
    refine ⟨by omega, by omega, ?_⟩
    exact nx_mk (k + 1) (by omega) (by omega) (by (try simp only [go_sem, reduceIte, Nat.reduceEqDiff, Nat.reduceAdd, Nat.reduceSub, Nat.reduceLT, Nat.reduceLeDiff, reduceCtorEq, Int.reduceToNat, Int.reduceLE, Int.reduceLT, Int.reduceEq, Int.reduceNeg, Int.reduceAdd, Int.reduceSub, Nat.reduceMul]) <;> (try simp (disch := omega) [wrap64]) <;> (try omega)) (Heap.Le.refl _)
  · have hkd : decide ((k : Int) < l.length) = false := decide_eq_false (by omega)
    simp only [go_sem, reduceIte, Nat.reduceEqDiff, Nat.reduceAdd, Nat.reduceSub, Nat.reduceLT, Nat.reduceLeDiff, reduceCtorEq, Int.reduceToNat, Int.reduceLE, Int.reduceLT, Int.reduceEq, Int.reduceNeg, Int.reduceAdd, Int.reduceSub, Nat.reduceMul, hkd]
    exact Fin.same h
end Go.Proofs.YtlbojoghnapbfaaDoor
