/- The fixed calls of the laws on tokens ('awake') have the document's results. -/
import Derived.Test.YtlbojoghnapbfaaDoorLexText
set_option linter.unusedSimpArgs false
set_option linter.unusedVariables false
namespace Go.Proofs.YtlbojoghnapbfaaDoor
open Go Go.Av Go.Lexs
attribute [local irreducible] ACalls at8

theorem Tabs.le {H H' : Heap} (h : Tabs H) (hl : H.Le H') : Tabs H' := ⟨hl _ _ h.pow, hl _ _ h.space⟩

def tksA : List Tk := [⟨1, [97], 0, 1, 1⟩, ⟨4, [43, 43], 0, 1, 2⟩, ⟨4, [43], 0, 1, 4⟩, ⟨2, [], 1, 1, 5⟩]
def tksM : List Tk := [⟨1, [120, 95, 49], 0, 1, 1⟩, ⟨4, [45, 62], 0, 1, 5⟩, ⟨4, [39], 0, 1, 8⟩, ⟨1, [97], 0, 1, 9⟩, ⟨4, [95], 0, 2, 1⟩]
theorem aw1 : lexR ⟨#[97, 43, 43, 43, 49]⟩ [⟨#[43]⟩, ⟨#[43, 43]⟩] = .tuple [.sl 5 (tksD tksA), faultD 0 [] 0 0] := by kernel_rfl
theorem aw2 : lexR ⟨#[97, 10, 32, 63]⟩ [⟨#[43]⟩] = .tuple [.sl 5 [], faultD 10 [63] 2 2] := by kernel_rfl
theorem aw3 : defR ⟨#[120, 95, 49, 32, 45, 62, 32, 39, 97, 32, 47, 47, 32, 99, 10, 95]⟩ = .tuple [.sl 5 (tksD tksM), faultD 0 [] 0 0] := by kernel_rfl
theorem aw4 : lexR ⟨#[]⟩ [⟨#[97]⟩] = .tuple [.sl 5 [], faultD 2 [] 0 0] := by kernel_rfl
theorem aw5 : lexR ⟨#[49, 97]⟩ [] = .tuple [.sl 5 [], faultD 10 [49] 1 1] := by kernel_rfl
def tksS : List Tk := [⟨1, [97], 0, 0, 0⟩, ⟨2, [], 7, 0, 0⟩, ⟨3, [98], 0, 0, 0⟩]
theorem aw6 : textR tksS = .tuple [.str (S [97, 32, 55, 32, 34, 98, 34]), .int .i64 0] := by
  have e : shown ⟨2, [], 7, 0, 0⟩ = [55] := by
    show Lib.itoa 7 = [55]
    unfold Lib.itoa
    rw [if_neg (by decide)]
    unfold Lib.decDigits
    rfl
  have h1 : tksS.all isTok = true := by kernel_rfl
  have e2 : tksS.map shown = [[97], [55], [34, 98, 34]] := by
    show [shown _, shown _, shown _] = _
    rw [e]; rfl
  have e3 : sumShown tksS = 8 := by
    show [(shown _).length + 1, (shown _).length + 1, (shown _).length + 1].sum = _
    rw [e]; rfl
  unfold textR
  rw [if_pos h1, e3, if_neg (by decide), e2]
  rfl
theorem aw7 : textR [⟨2, [], -1, 0, 0⟩] = .tuple [.str (S []), .int .i64 2] := by kernel_rfl

set_option maxHeartbeats 4000000 in
set_option maxRecDepth 20000 in
theorem awake_a {Q} (H : Heap) (hT : Tabs H) (h : Q (.bool true) H) : ACalls Tryd.prog 7 [] H Q := by
  refine acalls_of_wp [] Tryd.mixed Tryd.func7 rfl (by kernel_rfl) (of_decide_eq_true (by kernel_rfl)) (by kernel_rfl) ?_
  simp only [go_sem, reduceIte, Nat.reduceEqDiff, Nat.reduceAdd, Nat.reduceSub, Nat.reduceLT, Nat.reduceLeDiff, reduceCtorEq, Int.reduceToNat, Int.reduceLE, Int.reduceLT, Int.reduceEq, Int.reduceNeg, Int.reduceAdd, Int.reduceSub, Nat.reduceMul, Tryd.results7]
  intro b1 hb1
  refine ACalls.vec2 (es := strsD [⟨#[43]⟩, ⟨#[43, 43]⟩]) (by rw [heap_same]; rfl) rfl ?_
  rw [set_del hb1]
  refine lex_a _ _ (by decide) (by decide) _ ?_
  rw [aw1]
  simp only [go_sem, reduceIte, Nat.reduceEqDiff, Nat.reduceAdd, Nat.reduceSub, Nat.reduceLT, Nat.reduceLeDiff, reduceCtorEq, Int.reduceToNat, Int.reduceLE, Int.reduceLT, Int.reduceEq, Int.reduceNeg, Int.reduceAdd, Int.reduceSub, Nat.reduceMul, faultD]
  intro b2 hb2 b3 hb3
  refine ACalls.vec2 (es := strsD [⟨#[43]⟩]) (by rw [heap_same]; rfl) rfl ?_
  rw [set_del hb3]
  refine lex_a _ _ (by decide) (by decide) _ ?_
  rw [aw2]
  simp only [go_sem, reduceIte, Nat.reduceEqDiff, Nat.reduceAdd, Nat.reduceSub, Nat.reduceLT, Nat.reduceLeDiff, reduceCtorEq, Int.reduceToNat, Int.reduceLE, Int.reduceLT, Int.reduceEq, Int.reduceNeg, Int.reduceAdd, Int.reduceSub, Nat.reduceMul, faultD]
  intro b4 hb4
  have hT4 := (hT.set (.box [.int .i64 0, .str (S []), .int .i64 0, .int .i64 0]) hb2).set (.box [.int .i64 10, .str (S [63]), .int .i64 2, .int .i64 2]) hb4
  refine definition_a _ _ hT4 (by decide) ?_
  rw [aw3]
  simp only [go_sem, reduceIte, Nat.reduceEqDiff, Nat.reduceAdd, Nat.reduceSub, Nat.reduceLT, Nat.reduceLeDiff, reduceCtorEq, Int.reduceToNat, Int.reduceLE, Int.reduceLT, Int.reduceEq, Int.reduceNeg, Int.reduceAdd, Int.reduceSub, Nat.reduceMul, faultD]
  intro b5 hb5 b6 hb6
  refine ACalls.vec2 (es := strsD [⟨#[97]⟩]) (by rw [heap_same]; rfl) rfl ?_
  rw [set_del hb6]
  refine lex_a _ _ (by decide) (by decide) _ ?_
  rw [aw4]
  simp only [go_sem, reduceIte, Nat.reduceEqDiff, Nat.reduceAdd, Nat.reduceSub, Nat.reduceLT, Nat.reduceLeDiff, reduceCtorEq, Int.reduceToNat, Int.reduceLE, Int.reduceLT, Int.reduceEq, Int.reduceNeg, Int.reduceAdd, Int.reduceSub, Nat.reduceMul, faultD]
  intro b7 hb7
  refine ACalls.nil2 1 ?_
  refine lex_a _ [] (by decide) (by decide) _ ?_
  rw [aw5]
  simp only [go_sem, reduceIte, Nat.reduceEqDiff, Nat.reduceAdd, Nat.reduceSub, Nat.reduceLT, Nat.reduceLeDiff, reduceCtorEq, Int.reduceToNat, Int.reduceLE, Int.reduceLT, Int.reduceEq, Int.reduceNeg, Int.reduceAdd, Int.reduceSub, Nat.reduceMul, faultD]
  intro b8 hb8 b9 hb9
  have hT8 := ((hT4.set (.box [.int .i64 0, .str (S []), .int .i64 0, .int .i64 0]) hb5).set (.box [.int .i64 2, .str (S []), .int .i64 0, .int .i64 0]) hb7).set (.box [.int .i64 10, .str (S [49]), .int .i64 1, .int .i64 1]) hb8
  refine ACalls.vec1 (es := tksD tksS) (by rw [heap_same]; rfl) rfl ?_
  rw [set_del hb9]
  have fit : ∀ t ∈ tksS, TkFit t := by
    intro t ht
    simp only [tksS, List.mem_cons, List.mem_nil_iff, or_false] at ht
    rcases ht with rfl | rfl | rfl <;> exact ⟨⟨by decide, by decide⟩, by decide⟩
  refine text_a tksS _ hT8 (by decide) fit ?_
  rw [aw6]
  simp only [go_sem, reduceIte, Nat.reduceEqDiff, Nat.reduceAdd, Nat.reduceSub, Nat.reduceLT, Nat.reduceLeDiff, reduceCtorEq, Int.reduceToNat, Int.reduceLE, Int.reduceLT, Int.reduceEq, Int.reduceNeg, Int.reduceAdd, Int.reduceSub, Nat.reduceMul]
  intro b10 hb10
  refine ACalls.vec1 (es := tksD [⟨2, [], -1, 0, 0⟩]) (by rw [heap_same]; rfl) rfl ?_
  rw [set_del hb10]
  refine text_a [⟨2, [], -1, 0, 0⟩] _ hT8 (by decide) (by
    intro t ht
    simp only [List.mem_cons, List.mem_nil_iff, or_false] at ht
    subst ht
    exact ⟨⟨by decide, by decide⟩, by decide⟩) ?_
  rw [aw7]
  have hle := (heap_le_set (o := (.box [.int .i64 0, .str (S []), .int .i64 0, .int .i64 0])) hb2).trans ((heap_le_set (o := (.box [.int .i64 10, .str (S [63]), .int .i64 2, .int .i64 2])) hb4).trans ((heap_le_set (o := (.box [.int .i64 0, .str (S []), .int .i64 0, .int .i64 0])) hb5).trans ((heap_le_set (o := (.box [.int .i64 2, .str (S []), .int .i64 0, .int .i64 0])) hb7).trans (heap_le_set (o := (.box [.int .i64 10, .str (S [49]), .int .i64 1, .int .i64 1])) hb8))))
  simp only [set_none] at hb4 hb5 hb7 hb8
  have l1 : (tksD tksA).getD 1 [] = [.int .i64 4, .str (S [43, 43]), .int .i64 0, .int .i64 1, .int .i64 2] := rfl
  have l2 : (tksD tksA).getD 2 [] = [.int .i64 4, .str (S [43]), .int .i64 0, .int .i64 1, .int .i64 4] := rfl
  have l3 : (tksD tksA).getD 3 [] = [.int .i64 2, .str (S []), .int .i64 1, .int .i64 1, .int .i64 5] := rfl
  have m0 : (tksD tksM).getD 0 [] = [.int .i64 1, .str (S [120, 95, 49]), .int .i64 0, .int .i64 1, .int .i64 1] := rfl
  have m2 : (tksD tksM).getD 2 [] = [.int .i64 4, .str (S [39]), .int .i64 0, .int .i64 1, .int .i64 8] := rfl
  have m4 : (tksD tksM).getD 4 [] = [.int .i64 4, .str (S [95]), .int .i64 0, .int .i64 2, .int .i64 1] := rfl
  have e1 : ((tksA.length : Nat) : Int) = 4 := rfl
  have e2 : ((tksM.length : Nat) : Int) = 5 := rfl
  have f24 : b2 ≠ b4 := by omega
  have f25 : b2 ≠ b5 := by omega
  have f27 : b2 ≠ b7 := by omega
  have f28 : b2 ≠ b8 := by omega
  have f45 : b4 ≠ b5 := by omega
  have f47 : b4 ≠ b7 := by omega
  have f48 : b4 ≠ b8 := by omega
  have f57 : b5 ≠ b7 := by omega
  have f58 : b5 ≠ b8 := by omega
  have f78 : b7 ≠ b8 := by omega
  simp only [go_sem, reduceIte, Nat.reduceEqDiff, Nat.reduceAdd, Nat.reduceSub, Nat.reduceLT, Nat.reduceLeDiff, reduceCtorEq, Int.reduceToNat, Int.reduceLE, Int.reduceLT, Int.reduceEq, Int.reduceNeg, Int.reduceAdd, Int.reduceSub, Nat.reduceMul, e1, e2, l1, l2, l3, m0, m2, m4, heap_ne, f24, f25, f27, f28, f45, f47, f48, f57, f58, f78]
  refine same_a tksA tksA _ (by decide) (by decide) ?_
  rw [sameT_self]
  simp only [go_sem, reduceIte, Nat.reduceEqDiff, Nat.reduceAdd, Nat.reduceSub, Nat.reduceLT, Nat.reduceLeDiff, reduceCtorEq, Int.reduceToNat, Int.reduceLE, Int.reduceLT, Int.reduceEq, Int.reduceNeg, Int.reduceAdd, Int.reduceSub, Nat.reduceMul]
  refine same_a tksA tksM _ (by decide) (by decide) ?_
  have e3 : sameT tksA tksM = false := by kernel_rfl
  rw [e3]
  simp only [go_sem, reduceIte, Nat.reduceEqDiff, Nat.reduceAdd, Nat.reduceSub, Nat.reduceLT, Nat.reduceLeDiff, reduceCtorEq, Int.reduceToNat, Int.reduceLE, Int.reduceLT, Int.reduceEq, Int.reduceNeg, Int.reduceAdd, Int.reduceSub, Nat.reduceMul]
  exact Fin.less hle h
end Go.Proofs.YtlbojoghnapbfaaDoor
