/- Walks of the references (voussoirref01, 02, 05): letters, digits, strings, signs. -/
import Derived.Test.YtlbojoghnapbfaaDoorLexMain
set_option linter.unusedSimpArgs false
set_option linter.unusedVariables false
namespace Go.Proofs.YtlbojoghnapbfaaDoor
open Go Go.Av Go.Lexs
attribute [local irreducible] ACalls at8

theorem rLetter_a {Q} (c : Int) (H : Heap) (h : Q (.bool (letterI c)) H) : ACalls Tryd.prog 51 [.int .u8 c] H Q := by
  refine acalls_of_wp [] Tryd.mixed Tryd.func51 rfl (by kernel_rfl) (of_decide_eq_true (by kernel_rfl)) (by kernel_rfl) ?_
  simp only [go_sem, reduceIte, Nat.reduceEqDiff, Nat.reduceAdd, Nat.reduceSub, Nat.reduceLT, Nat.reduceLeDiff, reduceCtorEq, Int.reduceToNat, Int.reduceLE, Int.reduceLT, Int.reduceEq, Int.reduceNeg, Int.reduceAdd, Int.reduceSub, Nat.reduceMul, Tryd.results51]
  repeat' (first | with_reducible refine And.intro ?_ ?_ | intro _ | simp only [go_sem, reduceIte, Nat.reduceEqDiff, Nat.reduceAdd, Nat.reduceSub, Nat.reduceLT, Nat.reduceLeDiff, reduceCtorEq, Int.reduceToNat, Int.reduceLE, Int.reduceLT, Int.reduceEq, Int.reduceNeg, Int.reduceAdd, Int.reduceSub, Nat.reduceMul] | simp (disch := omega) only [wrap64] | omega)
  all_goals exact Fin.same (by simpa [letterI, *] using h)

theorem rDigit_a {Q} (c : Int) (H : Heap) (h : Q (.bool (digitI c)) H) : ACalls Tryd.prog 52 [.int .u8 c] H Q := by
  refine acalls_of_wp [] Tryd.mixed Tryd.func52 rfl (by kernel_rfl) (of_decide_eq_true (by kernel_rfl)) (by kernel_rfl) ?_
  simp only [go_sem, reduceIte, Nat.reduceEqDiff, Nat.reduceAdd, Nat.reduceSub, Nat.reduceLT, Nat.reduceLeDiff, reduceCtorEq, Int.reduceToNat, Int.reduceLE, Int.reduceLT, Int.reduceEq, Int.reduceNeg, Int.reduceAdd, Int.reduceSub, Nat.reduceMul, Tryd.results52]
  repeat' (first | with_reducible refine And.intro ?_ ?_ | intro _ | simp only [go_sem, reduceIte, Nat.reduceEqDiff, Nat.reduceAdd, Nat.reduceSub, Nat.reduceLT, Nat.reduceLeDiff, reduceCtorEq, Int.reduceToNat, Int.reduceLE, Int.reduceLT, Int.reduceEq, Int.reduceNeg, Int.reduceAdd, Int.reduceSub, Nat.reduceMul] | simp (disch := omega) only [wrap64] | omega)
  all_goals exact Fin.same (by simpa [digitI, *] using h)

theorem rIsText_a {Q} (s : ByteArray) (hs : s.size ≤ 4611686018427387904) (H : Heap) (h : Q (.bool (isText (B s))) H) : ACalls Tryd.prog 38 [.str s] H Q := by
  refine acalls_of_wp [] Tryd.mixed Tryd.func38 rfl (by kernel_rfl) (of_decide_eq_true (by kernel_rfl)) (by kernel_rfl) ?_
  simp only [go_sem, reduceIte, Nat.reduceEqDiff, Nat.reduceAdd, Nat.reduceSub, Nat.reduceLT, Nat.reduceLeDiff, reduceCtorEq, Int.reduceToNat, Int.reduceLE, Int.reduceLT, Int.reduceEq, Int.reduceNeg, Int.reduceAdd, Int.reduceSub, Nat.reduceMul, Tryd.results38]
  have hl := B_len s
  refine loop_a (fun k : Nat => [(0, .str s), (5, .int .i64 s.size), (6, .int .i64 k)]) (fun _ => H) (fun k => k ≤ s.size ∧ ((B s).take k).all (ofB textI) = true) (fun k => s.size - k) 0 ⟨Nat.zero_le _, by simp⟩ (by (try simp only [go_sem, reduceIte, Nat.reduceEqDiff, Nat.reduceAdd, Nat.reduceSub, Nat.reduceLT, Nat.reduceLeDiff, reduceCtorEq, Int.reduceToNat, Int.reduceLE, Int.reduceLT, Int.reduceEq, Int.reduceNeg, Int.reduceAdd, Int.reduceSub, Nat.reduceMul]) <;> (try simp (disch := omega) [wrap64]) <;> (try omega)) (Heap.Le.refl _) ?_
  rintro k ⟨hk, hall⟩
  simp only [go_sem, reduceIte, Nat.reduceEqDiff, Nat.reduceAdd, Nat.reduceSub, Nat.reduceLT, Nat.reduceLeDiff, reduceCtorEq, Int.reduceToNat, Int.reduceLE, Int.reduceLT, Int.reduceEq, Int.reduceNeg, Int.reduceAdd, Int.reduceSub, Nat.reduceMul]
  have hr := nth_range (B s) k
  have bad : textI (nth (B s) k) = false → k < s.size → Av.Fin Q (.bool false) H := fun hf hlt =>
    Fin.same (by have := all_false_of textI (B s) k (by omega) hf; simpa [isText, this] using h)
  rw [at8_nat]
  repeat' (first | with_reducible refine And.intro ?_ ?_ | intro _ | simp only [go_sem, reduceIte, Nat.reduceEqDiff, Nat.reduceAdd, Nat.reduceSub, Nat.reduceLT, Nat.reduceLeDiff, reduceCtorEq, Int.reduceToNat, Int.reduceLE, Int.reduceLT, Int.reduceEq, Int.reduceNeg, Int.reduceAdd, Int.reduceSub, Nat.reduceMul] | simp (disch := omega) only [wrap64] | omega)
  · exact bad (textI_no fun hh => by omega) (by omega)
  · refine nx_mk (k + 1) ⟨by omega, ?_⟩ (by omega) (by (try simp only [go_sem, reduceIte, Nat.reduceEqDiff, Nat.reduceAdd, Nat.reduceSub, Nat.reduceLT, Nat.reduceLeDiff, reduceCtorEq, Int.reduceToNat, Int.reduceLE, Int.reduceLT, Int.reduceEq, Int.reduceNeg, Int.reduceAdd, Int.reduceSub, Nat.reduceMul]) <;> (try simp (disch := omega) [wrap64]) <;> (try omega)) (Heap.Le.refl _)
    rw [all_take_succ _ _ _ (by omega), hall, (textI_iff _).2 (by omega)]; rfl
  · exact bad (textI_no fun hh => by omega) (by omega)
  · exact bad (textI_no fun hh => by omega) (by omega)
  · exact bad (textI_no fun hh => by omega) (by omega)
  · rw [List.take_of_length_le (by omega)] at hall
    refine Fin.same ?_
    simp only [isText, hall, Bool.true_and, hl] at h
    have e : decide ((s.size : Int) ≤ 200) = decide (s.size ≤ 200) := decide_eq_decide.2 (by omega)
    rw [e]; exact h

theorem rSign_a {Q} (s : ByteArray) (hs : s.size ≤ 4611686018427387904) (H : Heap) (h : Q (.bool (isSign (B s))) H) : ACalls Tryd.prog 39 [.str s] H Q := by
  refine acalls_of_wp [] Tryd.mixed Tryd.func39 rfl (by kernel_rfl) (of_decide_eq_true (by kernel_rfl)) (by kernel_rfl) ?_
  simp only [go_sem, reduceIte, Nat.reduceEqDiff, Nat.reduceAdd, Nat.reduceSub, Nat.reduceLT, Nat.reduceLeDiff, reduceCtorEq, Int.reduceToNat, Int.reduceLE, Int.reduceLT, Int.reduceEq, Int.reduceNeg, Int.reduceAdd, Int.reduceSub, Nat.reduceMul, Tryd.results39]
  have hl := B_len s
  refine loop_a (fun k : Nat => [(0, .str s), (6, .int .i64 s.size), (7, .int .i64 k)]) (fun _ => H) (fun k => k ≤ s.size ∧ ((B s).take k).all (ofB signI) = true) (fun k => s.size - k) 0 ⟨Nat.zero_le _, by simp⟩ (by (try simp only [go_sem, reduceIte, Nat.reduceEqDiff, Nat.reduceAdd, Nat.reduceSub, Nat.reduceLT, Nat.reduceLeDiff, reduceCtorEq, Int.reduceToNat, Int.reduceLE, Int.reduceLT, Int.reduceEq, Int.reduceNeg, Int.reduceAdd, Int.reduceSub, Nat.reduceMul]) <;> (try simp (disch := omega) [wrap64]) <;> (try omega)) (Heap.Le.refl _) ?_
  rintro k ⟨hk, hall⟩
  by_cases hlt : k < s.size
  · have hkd : decide ((k : Int) < s.size) = true := decide_eq_true (by omega)
    have hr := nth_range (B s) k
    have fin : ∀ b, b = signI (nth (B s) k) → (b = false → Av.Fin Q (.bool false) H) ∧ (b = true → ((B s).take (k + 1)).all (ofB signI) = true) := fun b hb => ⟨fun hf => by
      have := all_false_of signI (B s) k (by omega) (by rw [← hb]; exact hf)
      exact Fin.same (by simpa [isSign, this] using h), fun ht => by rw [all_take_succ _ _ _ (by omega), hall, ← hb, ht]; rfl⟩
    have hfin := fin _ rfl
    simp only [go_sem, reduceIte, Nat.reduceEqDiff, Nat.reduceAdd, Nat.reduceSub, Nat.reduceLT, Nat.reduceLeDiff, reduceCtorEq, Int.reduceToNat, Int.reduceLE, Int.reduceLT, Int.reduceEq, Int.reduceNeg, Int.reduceAdd, Int.reduceSub, Nat.reduceMul, hkd, at8_nat]
    refine ⟨⟨by omega, by omega⟩, ?_⟩
    by_cases h1 : nth (B s) k < 33
    · have hn := hfin.1 (signI_no fun hh => by omega)
      repeat' (first | with_reducible refine And.intro ?_ ?_ | intro _ | simp only [go_sem, reduceIte, Nat.reduceEqDiff, Nat.reduceAdd, Nat.reduceSub, Nat.reduceLT, Nat.reduceLeDiff, reduceCtorEq, Int.reduceToNat, Int.reduceLE, Int.reduceLT, Int.reduceEq, Int.reduceNeg, Int.reduceAdd, Int.reduceSub, Nat.reduceMul, h1] | simp (disch := omega) only [wrap64] | omega)
      all_goals exact hn
    by_cases h2 : 126 < nth (B s) k
    · have hn := hfin.1 (signI_no fun hh => by omega)
      repeat' (first | with_reducible refine And.intro ?_ ?_ | intro _ | simp only [go_sem, reduceIte, Nat.reduceEqDiff, Nat.reduceAdd, Nat.reduceSub, Nat.reduceLT, Nat.reduceLeDiff, reduceCtorEq, Int.reduceToNat, Int.reduceLE, Int.reduceLT, Int.reduceEq, Int.reduceNeg, Int.reduceAdd, Int.reduceSub, Nat.reduceMul, h1, h2] | simp (disch := omega) only [wrap64] | omega)
      all_goals exact hn
    cases h3 : letterI (nth (B s) k) with
    | true =>
      have hn := hfin.1 (signI_no fun hh => by have := hh.2.2.1; simp [partI, h3] at this)
      repeat' (first | with_reducible refine And.intro ?_ ?_ | intro _ | simp only [go_sem, reduceIte, Nat.reduceEqDiff, Nat.reduceAdd, Nat.reduceSub, Nat.reduceLT, Nat.reduceLeDiff, reduceCtorEq, Int.reduceToNat, Int.reduceLE, Int.reduceLT, Int.reduceEq, Int.reduceNeg, Int.reduceAdd, Int.reduceSub, Nat.reduceMul, h1, h2, h3] | simp (disch := omega) only [wrap64] | with_reducible refine rLetter_a _ _ ?_ | omega)
      all_goals exact hn
    | false =>
    cases h4 : digitI (nth (B s) k) with
    | true =>
      have hn := hfin.1 (signI_no fun hh => by have := hh.2.2.1; simp [partI, h4] at this)
      repeat' (first | with_reducible refine And.intro ?_ ?_ | intro _ | simp only [go_sem, reduceIte, Nat.reduceEqDiff, Nat.reduceAdd, Nat.reduceSub, Nat.reduceLT, Nat.reduceLeDiff, reduceCtorEq, Int.reduceToNat, Int.reduceLE, Int.reduceLT, Int.reduceEq, Int.reduceNeg, Int.reduceAdd, Int.reduceSub, Nat.reduceMul, h1, h2, h3, h4] | simp (disch := omega) only [wrap64] | with_reducible refine rLetter_a _ _ ?_ | with_reducible refine rDigit_a _ _ ?_ | omega)
      all_goals exact hn
    | false =>
    repeat' (first | with_reducible refine And.intro ?_ ?_ | intro _ | simp only [go_sem, reduceIte, Nat.reduceEqDiff, Nat.reduceAdd, Nat.reduceSub, Nat.reduceLT, Nat.reduceLeDiff, reduceCtorEq, Int.reduceToNat, Int.reduceLE, Int.reduceLT, Int.reduceEq, Int.reduceNeg, Int.reduceAdd, Int.reduceSub, Nat.reduceMul, h1, h2, h3, h4] | simp (disch := omega) only [wrap64] | with_reducible refine rLetter_a _ _ ?_ | with_reducible refine rDigit_a _ _ ?_ | omega)
    all_goals first
      | exact hfin.1 (signI_no fun hh => by first | omega | (have := hh.2.2.1; simp [partI] at this; omega))
      | exact nx_mk (k + 1) ⟨by omega, hfin.2 ((signI_iff _).2 ⟨by omega, by omega, by simp [partI, h3, h4]; omega, by omega, by omega, by omega⟩)⟩ (by omega) (by (try simp only [go_sem, reduceIte, Nat.reduceEqDiff, Nat.reduceAdd, Nat.reduceSub, Nat.reduceLT, Nat.reduceLeDiff, reduceCtorEq, Int.reduceToNat, Int.reduceLE, Int.reduceLT, Int.reduceEq, Int.reduceNeg, Int.reduceAdd, Int.reduceSub, Nat.reduceMul]) <;> (try simp (disch := omega) [wrap64]) <;> (try omega)) (Heap.Le.refl _)
  · have hkd : decide ((k : Int) < s.size) = false := decide_eq_false (by omega)
    rw [List.take_of_length_le (by omega)] at hall
    simp only [go_sem, reduceIte, Nat.reduceEqDiff, Nat.reduceAdd, Nat.reduceSub, Nat.reduceLT, Nat.reduceLeDiff, reduceCtorEq, Int.reduceToNat, Int.reduceLE, Int.reduceLT, Int.reduceEq, Int.reduceNeg, Int.reduceAdd, Int.reduceSub, Nat.reduceMul, hkd]
    have hz : decide (B s ≠ []) = decide (1 ≤ s.size) := decide_eq_decide.2 ⟨fun e => by have := List.length_pos_iff.2 e; omega, fun e e2 => by rw [e2] at hl; simp at hl; omega⟩
    simp only [isSign, hall, Bool.and_true, hl, hz] at h
    repeat' (first | with_reducible refine And.intro ?_ ?_ | intro _ | simp only [go_sem, reduceIte, Nat.reduceEqDiff, Nat.reduceAdd, Nat.reduceSub, Nat.reduceLT, Nat.reduceLeDiff, reduceCtorEq, Int.reduceToNat, Int.reduceLE, Int.reduceLT, Int.reduceEq, Int.reduceNeg, Int.reduceAdd, Int.reduceSub, Nat.reduceMul] | simp (disch := omega) only [wrap64] | omega)
    · rw [decide_eq_true (by omega : 1 ≤ s.size), Bool.true_and] at h
      have e : decide ((s.size : Int) ≤ 20) = decide (s.size ≤ 20) := decide_eq_decide.2 (by omega)
      rw [e]; exact Fin.same h
    · rw [decide_eq_false (by omega : ¬ 1 ≤ s.size), Bool.false_and] at h
      exact Fin.same h

end Go.Proofs.YtlbojoghnapbfaaDoor
