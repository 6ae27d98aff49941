/- Walks of the small functions of bytes and strings (layers sorts, term, lex and their references). -/
import Derived.Test.YtlbojoghnapbfaaDoorTypes
import Derived.Test.YtlbojoghnapbfaaDoorLexByte
import Derived.Test.YtlbojoghnapbfaaDoorLexLib
set_option linter.unusedSimpArgs false
set_option linter.unusedVariables false
namespace Go.Proofs.YtlbojoghnapbfaaDoor
open Go Go.Av Go.Lexs
attribute [local irreducible] ACalls at8

theorem isDigit_a {Q} (c : Int) (H : Heap) (h : Q (.bool (digitI c)) H) : ACalls Tryd.prog 56 [.int .u8 c] H Q := by
  refine acalls_of_wp [] Tryd.mixed Tryd.func56 rfl (by kernel_rfl) (of_decide_eq_true (by kernel_rfl)) (by kernel_rfl) ?_
  simp only [go_sem, reduceIte, Nat.reduceEqDiff, Nat.reduceAdd, Nat.reduceSub, Nat.reduceLT, Nat.reduceLeDiff, reduceCtorEq, Int.reduceToNat, Int.reduceLE, Int.reduceLT, Int.reduceEq, Int.reduceNeg, Int.reduceAdd, Int.reduceSub, Nat.reduceMul, Tryd.results56]
  repeat' (first | with_reducible refine And.intro ?_ ?_ | intro _ | simp only [go_sem, reduceIte, Nat.reduceEqDiff, Nat.reduceAdd, Nat.reduceSub, Nat.reduceLT, Nat.reduceLeDiff, reduceCtorEq, Int.reduceToNat, Int.reduceLE, Int.reduceLT, Int.reduceEq, Int.reduceNeg, Int.reduceAdd, Int.reduceSub, Nat.reduceMul] | simp (disch := omega) only [wrap64] | omega)
  all_goals exact Fin.same (by simpa [digitI, *] using h)

theorem isLetter_a {Q} (c : Int) (H : Heap) (h : Q (.bool (letterI c)) H) : ACalls Tryd.prog 47 [.int .u8 c] H Q := by
  refine acalls_of_wp [] Tryd.mixed Tryd.func47 rfl (by kernel_rfl) (of_decide_eq_true (by kernel_rfl)) (by kernel_rfl) ?_
  simp only [go_sem, reduceIte, Nat.reduceEqDiff, Nat.reduceAdd, Nat.reduceSub, Nat.reduceLT, Nat.reduceLeDiff, reduceCtorEq, Int.reduceToNat, Int.reduceLE, Int.reduceLT, Int.reduceEq, Int.reduceNeg, Int.reduceAdd, Int.reduceSub, Nat.reduceMul, Tryd.results47]
  repeat' (first | with_reducible refine And.intro ?_ ?_ | intro _ | simp only [go_sem, reduceIte, Nat.reduceEqDiff, Nat.reduceAdd, Nat.reduceSub, Nat.reduceLT, Nat.reduceLeDiff, reduceCtorEq, Int.reduceToNat, Int.reduceLE, Int.reduceLT, Int.reduceEq, Int.reduceNeg, Int.reduceAdd, Int.reduceSub, Nat.reduceMul] | simp (disch := omega) only [wrap64] | omega)
  all_goals exact Fin.same (by simpa [letterI, *] using h)

theorem isPart_a {Q} (c : Int) (H : Heap) (h : Q (.bool (partI c)) H) : ACalls Tryd.prog 41 [.int .u8 c] H Q := by
  refine acalls_of_wp [] Tryd.mixed Tryd.func41 rfl (by kernel_rfl) (of_decide_eq_true (by kernel_rfl)) (by kernel_rfl) ?_
  simp only [go_sem, reduceIte, Nat.reduceEqDiff, Nat.reduceAdd, Nat.reduceSub, Nat.reduceLT, Nat.reduceLeDiff, reduceCtorEq, Int.reduceToNat, Int.reduceLE, Int.reduceLT, Int.reduceEq, Int.reduceNeg, Int.reduceAdd, Int.reduceSub, Nat.reduceMul, Tryd.results41]
  repeat' (first | with_reducible refine And.intro ?_ ?_ | intro _ | simp only [go_sem, reduceIte, Nat.reduceEqDiff, Nat.reduceAdd, Nat.reduceSub, Nat.reduceLT, Nat.reduceLeDiff, reduceCtorEq, Int.reduceToNat, Int.reduceLE, Int.reduceLT, Int.reduceEq, Int.reduceNeg, Int.reduceAdd, Int.reduceSub, Nat.reduceMul] | simp (disch := omega) only [wrap64] | with_reducible refine isLetter_a _ _ ?_ | omega)
  all_goals exact Fin.same (by simpa [partI, digitI, *] using h)

theorem isName_a {Q} (s : ByteArray) (H : Heap) (h : Q (.bool (isName (B s))) H) : ACalls Tryd.prog 31 [.str s] H Q := by
  refine acalls_of_wp [] Tryd.mixed Tryd.func31 rfl (by kernel_rfl) (of_decide_eq_true (by kernel_rfl)) (by kernel_rfl) ?_
  simp only [go_sem, reduceIte, Nat.reduceEqDiff, Nat.reduceAdd, Nat.reduceSub, Nat.reduceLT, Nat.reduceLeDiff, reduceCtorEq, Int.reduceToNat, Int.reduceLE, Int.reduceLT, Int.reduceEq, Int.reduceNeg, Int.reduceAdd, Int.reduceSub, Nat.reduceMul, Tryd.results31]
  have hl := B_len s
  repeat' (first | with_reducible refine And.intro ?_ ?_ | intro _ | simp only [go_sem, reduceIte, Nat.reduceEqDiff, Nat.reduceAdd, Nat.reduceSub, Nat.reduceLT, Nat.reduceLeDiff, reduceCtorEq, Int.reduceToNat, Int.reduceLE, Int.reduceLT, Int.reduceEq, Int.reduceNeg, Int.reduceAdd, Int.reduceSub, Nat.reduceMul] | simp (disch := omega) only [wrap64] | with_reducible refine isLetter_a _ _ ?_ | omega)
  · have := List.length_pos_iff.2 (by assumption : ¬ B s = []); omega
  · have h2 := (by assumption : letterI (at8 s 0) = false)
    rw [at8_zero] at h2
    exact Fin.same (by simpa [isName, ofB, h2] using h)
  · have h1 : ¬ B s = [] := by assumption
    have h2 : letterI (at8 s 0) = true := by assumption
    have h3 : ¬ (40 : Int) < s.size := by assumption
    refine loop_a (fun k : Nat => [(0, .str s), (18, .int .i64 s.size), (19, .int .i64 k)]) (fun _ => H) (fun k => k ≤ s.size ∧ ((B s).take k).all (ofB partI) = true) (fun k => s.size - k) 0 ⟨Nat.zero_le _, by simp⟩ (by (try simp only [go_sem, reduceIte, Nat.reduceEqDiff, Nat.reduceAdd, Nat.reduceSub, Nat.reduceLT, Nat.reduceLeDiff, reduceCtorEq, Int.reduceToNat, Int.reduceLE, Int.reduceLT, Int.reduceEq, Int.reduceNeg, Int.reduceAdd, Int.reduceSub, Nat.reduceMul]) <;> (try simp (disch := omega) [wrap64]) <;> (try omega)) (Heap.Le.refl _) ?_
    rintro k ⟨hk, hall⟩
    simp only [go_sem, reduceIte, Nat.reduceEqDiff, Nat.reduceAdd, Nat.reduceSub, Nat.reduceLT, Nat.reduceLeDiff, reduceCtorEq, Int.reduceToNat, Int.reduceLE, Int.reduceLT, Int.reduceEq, Int.reduceNeg, Int.reduceAdd, Int.reduceSub, Nat.reduceMul]
    repeat' (first | with_reducible refine And.intro ?_ ?_ | intro _ | simp only [go_sem, reduceIte, Nat.reduceEqDiff, Nat.reduceAdd, Nat.reduceSub, Nat.reduceLT, Nat.reduceLeDiff, reduceCtorEq, Int.reduceToNat, Int.reduceLE, Int.reduceLT, Int.reduceEq, Int.reduceNeg, Int.reduceAdd, Int.reduceSub, Nat.reduceMul] | simp (disch := omega) only [wrap64] | with_reducible refine isPart_a _ _ ?_ | omega)
    · have h4 := (by assumption : partI (at8 s k) = false)
      rw [at8_nat] at h4
      exact Fin.same (by simpa [isName, all_false_of partI (B s) k (by omega) h4] using h)
    · have h4 := (by assumption : partI (at8 s k) = true)
      rw [at8_nat] at h4
      exact nx_mk (k + 1) ⟨by omega, by rw [all_take_succ _ _ _ (by omega), hall]; exact h4⟩ (by omega) (by (try simp only [go_sem, reduceIte, Nat.reduceEqDiff, Nat.reduceAdd, Nat.reduceSub, Nat.reduceLT, Nat.reduceLeDiff, reduceCtorEq, Int.reduceToNat, Int.reduceLE, Int.reduceLT, Int.reduceEq, Int.reduceNeg, Int.reduceAdd, Int.reduceSub, Nat.reduceMul]) <;> (try simp (disch := omega) [wrap64]) <;> (try omega)) (Heap.Le.refl _)
    · rw [List.take_of_length_le (by omega)] at hall
      rw [at8_zero] at h2
      refine Fin.same ?_
      have h5 : s.size ≤ 40 := by omega
      simpa [isName, h1, h5, hall, ofB, h2] using h
  · have h5 : ¬ s.size ≤ 40 := by omega
    exact Fin.same (by simpa [isName, h5] using h)
  · exact Fin.same (by simpa [isName, *] using h)

theorem isString_a {Q} (s : ByteArray) (hs : s.size ≤ 4611686018427387904) (H : Heap) (h : Q (.bool (isText (B s))) H) : ACalls Tryd.prog 32 [.str s] H Q := by
  refine acalls_of_wp [] Tryd.mixed Tryd.func32 rfl (by kernel_rfl) (of_decide_eq_true (by kernel_rfl)) (by kernel_rfl) ?_
  simp only [go_sem, reduceIte, Nat.reduceEqDiff, Nat.reduceAdd, Nat.reduceSub, Nat.reduceLT, Nat.reduceLeDiff, reduceCtorEq, Int.reduceToNat, Int.reduceLE, Int.reduceLT, Int.reduceEq, Int.reduceNeg, Int.reduceAdd, Int.reduceSub, Nat.reduceMul, Tryd.results32]
  have hl := B_len s
  intro b hb
  refine loop_a (fun k : Nat => [(0, .str s), (6, .box b 0)]) (fun k => H.set b (.iter s k)) (fun k => k ≤ s.size ∧ ((B s).take k).all (ofB textI) = true) (fun k => s.size - k) 0 ⟨Nat.zero_le _, by simp⟩ (by (try simp only [go_sem, reduceIte, Nat.reduceEqDiff, Nat.reduceAdd, Nat.reduceSub, Nat.reduceLT, Nat.reduceLeDiff, reduceCtorEq, Int.reduceToNat, Int.reduceLE, Int.reduceLT, Int.reduceEq, Int.reduceNeg, Int.reduceAdd, Int.reduceSub, Nat.reduceMul]) <;> (try simp (disch := omega) [wrap64]) <;> (try omega)) (Heap.Le.refl _) ?_
  rintro k ⟨hk, hall⟩
  simp only [go_sem, reduceIte, Nat.reduceEqDiff, Nat.reduceAdd, Nat.reduceSub, Nat.reduceLT, Nat.reduceLeDiff, reduceCtorEq, Int.reduceToNat, Int.reduceLE, Int.reduceLT, Int.reduceEq, Int.reduceNeg, Int.reduceAdd, Int.reduceSub, Nat.reduceMul]
  have bad : textI (nth (B s) k) = false → k < s.size → ∀ o, Av.Fin Q (.bool false) (H.set b o) := fun hf hlt o =>
    Fin.less (heap_le_set hb) (by have := all_false_of textI (B s) k (by omega) hf; simpa [isText, this] using h)
  refine ⟨fun hlt => ?_, fun hlt => ?_⟩
  · have hb1 : ((s[k]'hlt).toNat : Int) = nth (B s) k := by
      unfold nth B
      rw [List.getD_eq_getElem?_getD, List.getElem?_eq_getElem (by simpa using hlt)]; rfl
    by_cases ha : (s[k]'hlt).toNat < 128
    · rw [decode_ascii s k hlt ha, hb1]
      repeat' (first | with_reducible refine And.intro ?_ ?_ | intro _ | simp only [go_sem, reduceIte, Nat.reduceEqDiff, Nat.reduceAdd, Nat.reduceSub, Nat.reduceLT, Nat.reduceLeDiff, reduceCtorEq, Int.reduceToNat, Int.reduceLE, Int.reduceLT, Int.reduceEq, Int.reduceNeg, Int.reduceAdd, Int.reduceSub, Nat.reduceMul] | simp (disch := omega) only [wrap64] | omega)
      · exact bad (textI_no (by omega)) hlt _
      · refine nx_mk (k + 1) ⟨by omega, ?_⟩ (by omega) (by (try simp only [go_sem, reduceIte, Nat.reduceEqDiff, Nat.reduceAdd, Nat.reduceSub, Nat.reduceLT, Nat.reduceLeDiff, reduceCtorEq, Int.reduceToNat, Int.reduceLE, Int.reduceLT, Int.reduceEq, Int.reduceNeg, Int.reduceAdd, Int.reduceSub, Nat.reduceMul]) <;> (try simp (disch := omega) [wrap64]) <;> (try omega)) (Heap.Le.refl _)
        rw [all_take_succ _ _ _ (by omega), hall, (textI_iff _).2 (by omega)]; rfl
      all_goals exact bad (textI_no (by omega)) hlt _
    · have := decode_high s k hlt (by omega)
      repeat' (first | with_reducible refine And.intro ?_ ?_ | intro _ | simp only [go_sem, reduceIte, Nat.reduceEqDiff, Nat.reduceAdd, Nat.reduceSub, Nat.reduceLT, Nat.reduceLeDiff, reduceCtorEq, Int.reduceToNat, Int.reduceLE, Int.reduceLT, Int.reduceEq, Int.reduceNeg, Int.reduceAdd, Int.reduceSub, Nat.reduceMul] | simp (disch := omega) only [wrap64] | omega)
      exact bad (textI_no (by omega)) hlt _
  · have hk2 : k = s.size := by omega
    rw [hk2, List.take_of_length_le (by omega)] at hall
    refine Fin.less (heap_le_set hb) ?_
    simp only [isText, hall, Bool.true_and, hl] at h
    have e : decide ((s.size : Int) ≤ 200) = decide (s.size ≤ 200) := decide_eq_decide.2 (by omega)
    rw [e]; exact h

theorem isSign_a {Q} (s : ByteArray) (H : Heap) (h : Q (.bool (isSign (B s))) H) : ACalls Tryd.prog 27 [.str s] H Q := by
  refine acalls_of_wp [] Tryd.mixed Tryd.func27 rfl (by kernel_rfl) (of_decide_eq_true (by kernel_rfl)) (by kernel_rfl) ?_
  simp only [go_sem, reduceIte, Nat.reduceEqDiff, Nat.reduceAdd, Nat.reduceSub, Nat.reduceLT, Nat.reduceLeDiff, reduceCtorEq, Int.reduceToNat, Int.reduceLE, Int.reduceLT, Int.reduceEq, Int.reduceNeg, Int.reduceAdd, Int.reduceSub, Nat.reduceMul, Tryd.results27]
  have hl := B_len s
  repeat' (first | with_reducible refine And.intro ?_ ?_ | intro _ | simp only [go_sem, reduceIte, Nat.reduceEqDiff, Nat.reduceAdd, Nat.reduceSub, Nat.reduceLT, Nat.reduceLeDiff, reduceCtorEq, Int.reduceToNat, Int.reduceLE, Int.reduceLT, Int.reduceEq, Int.reduceNeg, Int.reduceAdd, Int.reduceSub, Nat.reduceMul] | simp (disch := omega) only [wrap64] | omega)
  · have h5 : ¬ s.size ≤ 20 := by omega
    exact Fin.same (by simpa [isSign, h5] using h)
  · have h1 : ¬ B s = [] := by assumption
    have h3 : ¬ (20 : Int) < s.size := by assumption
    refine loop_a (fun k : Nat => [(0, .str s), (13, .int .i64 s.size), (14, .int .i64 k)]) (fun _ => H) (fun k => k ≤ s.size ∧ ((B s).take k).all (ofB signI) = true) (fun k => s.size - k) 0 ⟨Nat.zero_le _, by simp⟩ (by (try simp only [go_sem, reduceIte, Nat.reduceEqDiff, Nat.reduceAdd, Nat.reduceSub, Nat.reduceLT, Nat.reduceLeDiff, reduceCtorEq, Int.reduceToNat, Int.reduceLE, Int.reduceLT, Int.reduceEq, Int.reduceNeg, Int.reduceAdd, Int.reduceSub, Nat.reduceMul]) <;> (try simp (disch := omega) [wrap64]) <;> (try omega)) (Heap.Le.refl _) ?_
    rintro k ⟨hk, hall⟩
    simp only [go_sem, reduceIte, Nat.reduceEqDiff, Nat.reduceAdd, Nat.reduceSub, Nat.reduceLT, Nat.reduceLeDiff, reduceCtorEq, Int.reduceToNat, Int.reduceLE, Int.reduceLT, Int.reduceEq, Int.reduceNeg, Int.reduceAdd, Int.reduceSub, Nat.reduceMul]
    have hr := nth_range (B s) k
    have bad : signI (nth (B s) k) = false → k < s.size → Av.Fin Q (.bool false) H := fun hf hlt =>
      Fin.same (by have := all_false_of signI (B s) k (by omega) hf; simpa [isSign, this] using h)
    rw [at8_nat]
    repeat' (first | with_reducible refine And.intro ?_ ?_ | intro _ | simp only [go_sem, reduceIte, Nat.reduceEqDiff, Nat.reduceAdd, Nat.reduceSub, Nat.reduceLT, Nat.reduceLeDiff, reduceCtorEq, Int.reduceToNat, Int.reduceLE, Int.reduceLT, Int.reduceEq, Int.reduceNeg, Int.reduceAdd, Int.reduceSub, Nat.reduceMul] | simp (disch := omega) only [wrap64] | with_reducible refine isPart_a _ _ ?_ | with_reducible refine indexByte_a _ _ _ ?_ | omega)
    · exact bad (signI_no fun hh => by have := (idx_bad _ hr.1 hr.2).1 (by assumption); omega) (by omega)
    · have h4 : partI (nth (B s) k) = false := by assumption
      have h5 : ¬ (nth (B s) k = 34 ∨ nth (B s) k = 39 ∨ nth (B s) k = 92) := fun e => absurd ((idx_bad _ hr.1 hr.2).2 e) (by assumption)
      refine nx_mk (k + 1) ⟨by omega, ?_⟩ (by omega) (by (try simp only [go_sem, reduceIte, Nat.reduceEqDiff, Nat.reduceAdd, Nat.reduceSub, Nat.reduceLT, Nat.reduceLeDiff, reduceCtorEq, Int.reduceToNat, Int.reduceLE, Int.reduceLT, Int.reduceEq, Int.reduceNeg, Int.reduceAdd, Int.reduceSub, Nat.reduceMul]) <;> (try simp (disch := omega) [wrap64]) <;> (try omega)) (Heap.Le.refl _)
      rw [all_take_succ _ _ _ (by omega), hall, (signI_iff _).2 ⟨by omega, by omega, h4, by omega, by omega, by omega⟩]; rfl
    · have h4 : partI (nth (B s) k) = true := by assumption
      exact bad (signI_no fun hh => by rw [hh.2.2.1] at h4; cases h4) (by omega)
    · exact bad (signI_no fun hh => by omega) (by omega)
    · exact bad (signI_no fun hh => by omega) (by omega)
    · rw [List.take_of_length_le (by omega)] at hall
      refine Fin.same ?_
      have h5 : s.size ≤ 20 := by omega
      simpa [isSign, h1, h5, hall] using h
  · exact Fin.same (by simpa [isSign, *] using h)
end Go.Proofs.YtlbojoghnapbfaaDoor
