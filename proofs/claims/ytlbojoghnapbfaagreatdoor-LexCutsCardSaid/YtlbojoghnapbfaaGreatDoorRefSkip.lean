/- Walks of the reference's lexer (voussoirref05): blanks and comments; faults; tokens that are added. -/
import Derived.Test.YtlbojoghnapbfaaGreatDoorRefLeaf
set_option linter.unusedSimpArgs false
set_option linter.unusedVariables false
namespace Go.Proofs.YtlbojoghnapbfaaGreatDoor
open Go Go.Av Go.Lexs
attribute [local irreducible] ACalls at8

theorem rskip_a {Q} (s : ByteArray) (i : Nat) (sg out : D) (fc : Int) (fn : ByteArray) (fl fo : Int) (b : Nat) (H : Heap) (hb : H b = some (.box (ctr s i sg out (flt fc fn fl fo)))) (hi : i ≤ s.size) (hs : s.size ≤ 1000000)
    (h : Q (.tuple []) (H.set b (.box (ctr s (nextAt (B s) i) sg out (flt fc fn fl fo))))) :
    ACalls Tryz.prog 35 [.box b 0] H Q := by
  refine acalls_of_wp [] Tryz.mixed Tryz.func35 rfl (by kernel_rfl) (of_decide_eq_true (by kernel_rfl)) (by kernel_rfl) ?_
  simp only [go_sem, reduceIte, Nat.reduceEqDiff, Nat.reduceAdd, Nat.reduceSub, Nat.reduceLT, Nat.reduceLeDiff, reduceCtorEq, Int.reduceToNat, Int.reduceLE, Int.reduceLT, Int.reduceEq, Int.reduceNeg, Int.reduceAdd, Int.reduceSub, Nat.reduceMul, Tryz.results35]
  have hl := B_len s
  refine loop_a (fun _ : Nat => [(0, .box b 0)]) (fun k => H.set b (.box (ctr s k sg out (flt fc fn fl fo)))) (fun k => k ≤ s.size ∧ nextAt (B s) k = nextAt (B s) i) (fun k => s.size - k) i ⟨hi, rfl⟩ (by (try simp only [go_sem, reduceIte, Nat.reduceEqDiff, Nat.reduceAdd, Nat.reduceSub, Nat.reduceLT, Nat.reduceLeDiff, reduceCtorEq, Int.reduceToNat, Int.reduceLE, Int.reduceLT, Int.reduceEq, Int.reduceNeg, Int.reduceAdd, Int.reduceSub, Nat.reduceMul]) <;> (try simp (disch := omega) [wrap64]) <;> (try omega)) (heap_set_le hb) ?_
  rintro k ⟨hk, ha⟩
  have hsl : slashes ((B s).drop k) = List.isPrefixOf [47, 47] ((B s).drop k) := rfl
  by_cases hlt : k < s.size
  · have hlt' : k < (B s).length := by omega
    have hkd : decide ((k : Int) < s.size) = true := decide_eq_true (by omega)
    simp only [ctr, flt]
    cases hbk : blankI (at8 s k) with
    | true =>
      simp only [go_sem, reduceIte, Nat.reduceEqDiff, Nat.reduceAdd, Nat.reduceSub, Nat.reduceLT, Nat.reduceLeDiff, reduceCtorEq, Int.reduceToNat, Int.reduceLE, Int.reduceLT, Int.reduceEq, Int.reduceNeg, Int.reduceAdd, Int.reduceSub, Nat.reduceMul, hkd]
      repeat' (first | with_reducible refine And.intro ?_ ?_ | intro _ | simp only [go_sem, reduceIte, Nat.reduceEqDiff, Nat.reduceAdd, Nat.reduceSub, Nat.reduceLT, Nat.reduceLeDiff, reduceCtorEq, Int.reduceToNat, Int.reduceLE, Int.reduceLT, Int.reduceEq, Int.reduceNeg, Int.reduceAdd, Int.reduceSub, Nat.reduceMul, hkd, hbk] | simp (disch := omega) only [wrap64] | with_reducible refine blank_a _ _ ?_ | omega)
      refine take_a s k 1 sg out fc fn fl fo b _ (heap_same _ _) (by omega) hs ?_
      simp only [go_sem, reduceIte, Nat.reduceEqDiff, Nat.reduceAdd, Nat.reduceSub, Nat.reduceLT, Nat.reduceLeDiff, reduceCtorEq, Int.reduceToNat, Int.reduceLE, Int.reduceLT, Int.reduceEq, Int.reduceNeg, Int.reduceAdd, Int.reduceSub, Nat.reduceMul]
      rw [at8_nat] at hbk
      exact nx_mk (k + 1) ⟨by omega, by rw [← nextAt_blank _ _ (by omega) hbk]; exact ha⟩ (by omega) (by (try simp only [go_sem, reduceIte, Nat.reduceEqDiff, Nat.reduceAdd, Nat.reduceSub, Nat.reduceLT, Nat.reduceLeDiff, reduceCtorEq, Int.reduceToNat, Int.reduceLE, Int.reduceLT, Int.reduceEq, Int.reduceNeg, Int.reduceAdd, Int.reduceSub, Nat.reduceMul]) <;> (try simp (disch := omega) [wrap64]) <;> (try omega)) (Heap.Le.refl _)
    | false =>
      cases hpr : List.isPrefixOf [47, 47] ((B s).drop k) with
      | false =>
        simp only [go_sem, reduceIte, Nat.reduceEqDiff, Nat.reduceAdd, Nat.reduceSub, Nat.reduceLT, Nat.reduceLeDiff, reduceCtorEq, Int.reduceToNat, Int.reduceLE, Int.reduceLT, Int.reduceEq, Int.reduceNeg, Int.reduceAdd, Int.reduceSub, Nat.reduceMul, hkd]
        repeat' (first | with_reducible refine And.intro ?_ ?_ | intro _ | simp only [go_sem, reduceIte, Nat.reduceEqDiff, Nat.reduceAdd, Nat.reduceSub, Nat.reduceLT, Nat.reduceLeDiff, reduceCtorEq, Int.reduceToNat, Int.reduceLE, Int.reduceLT, Int.reduceEq, Int.reduceNeg, Int.reduceAdd, Int.reduceSub, Nat.reduceMul, hkd, hbk, hpr] | simp (disch := omega) only [wrap64] | with_reducible refine blank_a _ _ ?_ | with_reducible refine begins_a s _ k sg out fc fn fl fo b _ (heap_same _ _) hk hs ?_ | omega)
        rw [at8_nat] at hbk
        rw [nextAt_stop _ _ hlt' hbk (by rw [hsl]; exact hpr)] at ha
        rw [← ha] at h
        exact Fin.same h
      | true =>
        simp only [go_sem, reduceIte, Nat.reduceEqDiff, Nat.reduceAdd, Nat.reduceSub, Nat.reduceLT, Nat.reduceLeDiff, reduceCtorEq, Int.reduceToNat, Int.reduceLE, Int.reduceLT, Int.reduceEq, Int.reduceNeg, Int.reduceAdd, Int.reduceSub, Nat.reduceMul, hkd]
        repeat' (first | with_reducible refine And.intro ?_ ?_ | intro _ | simp only [go_sem, reduceIte, Nat.reduceEqDiff, Nat.reduceAdd, Nat.reduceSub, Nat.reduceLT, Nat.reduceLeDiff, reduceCtorEq, Int.reduceToNat, Int.reduceLE, Int.reduceLT, Int.reduceEq, Int.reduceNeg, Int.reduceAdd, Int.reduceSub, Nat.reduceMul, hkd, hbk, hpr] | simp (disch := omega) only [wrap64] | with_reducible refine blank_a _ _ ?_ | with_reducible refine begins_a s _ k sg out fc fn fl fo b _ (heap_same _ _) hk hs ?_ | omega)
        rw [at8_nat] at hbk
        have hpos : 1 ≤ lineLen ((B s).drop k) := by
          obtain ⟨c, hc, hcn⟩ := drop_cons (B s) k hlt'
          rw [hc] at hpr ⊢; exact lineLen_pos hpr
        have hll := lineLen_le ((B s).drop k)
        rw [List.length_drop, hl] at hll
        refine loop_a (fun _ : Nat => [(0, .box b 0)]) (fun m => H.set b (.box (ctr s m sg out (flt fc fn fl fo)))) (fun m => k ≤ m ∧ m ≤ s.size ∧ m + lineLen ((B s).drop m) = k + lineLen ((B s).drop k)) (fun m => s.size - m) k ⟨Nat.le_refl _, hk, rfl⟩ (by (try simp only [go_sem, reduceIte, Nat.reduceEqDiff, Nat.reduceAdd, Nat.reduceSub, Nat.reduceLT, Nat.reduceLeDiff, reduceCtorEq, Int.reduceToNat, Int.reduceLE, Int.reduceLT, Int.reduceEq, Int.reduceNeg, Int.reduceAdd, Int.reduceSub, Nat.reduceMul]) <;> (try simp (disch := omega) [wrap64]) <;> (try omega)) (by simp only [ctr, flt]; exact Heap.Le.refl _) ?_
        rintro m ⟨hm1, hm2, hm3⟩
        by_cases hmlt : m < s.size
        · have hmd : decide ((m : Int) < s.size) = true := decide_eq_true (by omega)
          simp only [ctr, flt]
          simp only [go_sem, reduceIte, Nat.reduceEqDiff, Nat.reduceAdd, Nat.reduceSub, Nat.reduceLT, Nat.reduceLeDiff, reduceCtorEq, Int.reduceToNat, Int.reduceLE, Int.reduceLT, Int.reduceEq, Int.reduceNeg, Int.reduceAdd, Int.reduceSub, Nat.reduceMul, hmd]
          repeat' (first | with_reducible refine And.intro ?_ ?_ | intro _ | simp only [go_sem, reduceIte, Nat.reduceEqDiff, Nat.reduceAdd, Nat.reduceSub, Nat.reduceLT, Nat.reduceLeDiff, reduceCtorEq, Int.reduceToNat, Int.reduceLE, Int.reduceLT, Int.reduceEq, Int.reduceNeg, Int.reduceAdd, Int.reduceSub, Nat.reduceMul, hmd] | simp (disch := omega) only [wrap64] | omega)
          · have h10 := (by assumption : ¬ at8 s m = 10)
            rw [at8_nat] at h10
            refine take_a s m 1 sg out fc fn fl fo b _ (heap_same _ _) (by omega) hs ?_
            simp only [go_sem, reduceIte, Nat.reduceEqDiff, Nat.reduceAdd, Nat.reduceSub, Nat.reduceLT, Nat.reduceLeDiff, reduceCtorEq, Int.reduceToNat, Int.reduceLE, Int.reduceLT, Int.reduceEq, Int.reduceNeg, Int.reduceAdd, Int.reduceSub, Nat.reduceMul]
            rw [lineLen_drop _ _ (by omega), if_neg h10] at hm3
            exact nx_mk (m + 1) ⟨by omega, by omega, by omega⟩ (by omega) (by (try simp only [go_sem, reduceIte, Nat.reduceEqDiff, Nat.reduceAdd, Nat.reduceSub, Nat.reduceLT, Nat.reduceLeDiff, reduceCtorEq, Int.reduceToNat, Int.reduceLE, Int.reduceLT, Int.reduceEq, Int.reduceNeg, Int.reduceAdd, Int.reduceSub, Nat.reduceMul]) <;> (try simp (disch := omega) [wrap64]) <;> (try omega)) (Heap.Le.refl _)
          · have h10 := (by assumption : at8 s m = 10)
            rw [at8_nat] at h10
            rw [lineLen_drop _ _ (by omega), if_pos h10] at hm3
            have hme : m = k + lineLen ((B s).drop k) := by omega
            exact nx_mk m ⟨hm2, by rw [hme, ← nextAt_line _ _ hlt' hbk (by rw [hsl]; exact hpr)]; exact ha⟩ (by omega) (by (try simp only [go_sem, reduceIte, Nat.reduceEqDiff, Nat.reduceAdd, Nat.reduceSub, Nat.reduceLT, Nat.reduceLeDiff, reduceCtorEq, Int.reduceToNat, Int.reduceLE, Int.reduceLT, Int.reduceEq, Int.reduceNeg, Int.reduceAdd, Int.reduceSub, Nat.reduceMul]) <;> (try simp (disch := omega) [wrap64]) <;> (try omega)) (Heap.Le.refl _)
        · have hmd : decide ((m : Int) < s.size) = false := decide_eq_false (by omega)
          simp only [ctr, flt]
          simp only [go_sem, reduceIte, Nat.reduceEqDiff, Nat.reduceAdd, Nat.reduceSub, Nat.reduceLT, Nat.reduceLeDiff, reduceCtorEq, Int.reduceToNat, Int.reduceLE, Int.reduceLT, Int.reduceEq, Int.reduceNeg, Int.reduceAdd, Int.reduceSub, Nat.reduceMul, hmd]
          rw [lineLen_end _ _ (by omega)] at hm3
          have hme : m = k + lineLen ((B s).drop k) := by omega
          exact nx_mk m ⟨hm2, by rw [hme, ← nextAt_line _ _ hlt' hbk (by rw [hsl]; exact hpr)]; exact ha⟩ (by omega) (by (try simp only [go_sem, reduceIte, Nat.reduceEqDiff, Nat.reduceAdd, Nat.reduceSub, Nat.reduceLT, Nat.reduceLeDiff, reduceCtorEq, Int.reduceToNat, Int.reduceLE, Int.reduceLT, Int.reduceEq, Int.reduceNeg, Int.reduceAdd, Int.reduceSub, Nat.reduceMul]) <;> (try simp (disch := omega) [wrap64]) <;> (try omega)) (Heap.Le.refl _)
  · have hkd : decide ((k : Int) < s.size) = false := decide_eq_false (by omega)
    simp only [ctr, flt]
    simp only [go_sem, reduceIte, Nat.reduceEqDiff, Nat.reduceAdd, Nat.reduceSub, Nat.reduceLT, Nat.reduceLeDiff, reduceCtorEq, Int.reduceToNat, Int.reduceLE, Int.reduceLT, Int.reduceEq, Int.reduceNeg, Int.reduceAdd, Int.reduceSub, Nat.reduceMul, hkd]
    rw [nextAt_end _ _ (by omega)] at ha
    rw [← ha] at h
    exact Fin.same h
end Go.Proofs.YtlbojoghnapbfaaGreatDoor
