/- Walks of the reference's lexer (voussoirref05): the small functions. -/
import Derived.Test.YtlbojoghnapbfaaGreatDoorLexMain
set_option linter.unusedSimpArgs false
set_option linter.unusedVariables false
namespace Go.Proofs.YtlbojoghnapbfaaGreatDoor
open Go Go.Av Go.Lexs
attribute [local irreducible] ACalls at8

theorem rLetter_a {Q} (c : Int) (H : Heap) (h : Q (.bool (letterI c)) H) : ACalls Tryz.prog 50 [.int .u8 c] H Q := by
  refine acalls_of_wp [] Tryz.mixed Tryz.func50 rfl (by kernel_rfl) (of_decide_eq_true (by kernel_rfl)) (by kernel_rfl) ?_
  simp only [go_sem, reduceIte, Nat.reduceEqDiff, Nat.reduceAdd, Nat.reduceSub, Nat.reduceLT, Nat.reduceLeDiff, reduceCtorEq, Int.reduceToNat, Int.reduceLE, Int.reduceLT, Int.reduceEq, Int.reduceNeg, Int.reduceAdd, Int.reduceSub, Nat.reduceMul, Tryz.results50]
  repeat' (first | with_reducible refine And.intro ?_ ?_ | intro _ | simp only [go_sem, reduceIte, Nat.reduceEqDiff, Nat.reduceAdd, Nat.reduceSub, Nat.reduceLT, Nat.reduceLeDiff, reduceCtorEq, Int.reduceToNat, Int.reduceLE, Int.reduceLT, Int.reduceEq, Int.reduceNeg, Int.reduceAdd, Int.reduceSub, Nat.reduceMul] | simp (disch := omega) only [wrap64] | omega)
  all_goals exact Fin.same (by simpa [letterI, *] using h)

theorem rDigit_a {Q} (c : Int) (H : Heap) (h : Q (.bool (digitI c)) H) : ACalls Tryz.prog 51 [.int .u8 c] H Q := by
  refine acalls_of_wp [] Tryz.mixed Tryz.func51 rfl (by kernel_rfl) (of_decide_eq_true (by kernel_rfl)) (by kernel_rfl) ?_
  simp only [go_sem, reduceIte, Nat.reduceEqDiff, Nat.reduceAdd, Nat.reduceSub, Nat.reduceLT, Nat.reduceLeDiff, reduceCtorEq, Int.reduceToNat, Int.reduceLE, Int.reduceLT, Int.reduceEq, Int.reduceNeg, Int.reduceAdd, Int.reduceSub, Nat.reduceMul, Tryz.results51]
  repeat' (first | with_reducible refine And.intro ?_ ?_ | intro _ | simp only [go_sem, reduceIte, Nat.reduceEqDiff, Nat.reduceAdd, Nat.reduceSub, Nat.reduceLT, Nat.reduceLeDiff, reduceCtorEq, Int.reduceToNat, Int.reduceLE, Int.reduceLT, Int.reduceEq, Int.reduceNeg, Int.reduceAdd, Int.reduceSub, Nat.reduceMul] | simp (disch := omega) only [wrap64] | omega)
  all_goals exact Fin.same (by simpa [digitI, *] using h)

theorem blank_a {Q} (c : Int) (H : Heap) (h : Q (.bool (blankI c)) H) : ACalls Tryz.prog 52 [.int .u8 c] H Q := by
  refine acalls_of_wp [] Tryz.mixed Tryz.func52 rfl (by kernel_rfl) (of_decide_eq_true (by kernel_rfl)) (by kernel_rfl) ?_
  simp only [go_sem, reduceIte, Nat.reduceEqDiff, Nat.reduceAdd, Nat.reduceSub, Nat.reduceLT, Nat.reduceLeDiff, reduceCtorEq, Int.reduceToNat, Int.reduceLE, Int.reduceLT, Int.reduceEq, Int.reduceNeg, Int.reduceAdd, Int.reduceSub, Nat.reduceMul, Tryz.results52]
  repeat' (first | with_reducible refine And.intro ?_ ?_ | intro _ | simp only [go_sem, reduceIte, Nat.reduceEqDiff, Nat.reduceAdd, Nat.reduceSub, Nat.reduceLT, Nat.reduceLeDiff, reduceCtorEq, Int.reduceToNat, Int.reduceLE, Int.reduceLT, Int.reduceEq, Int.reduceNeg, Int.reduceAdd, Int.reduceSub, Nat.reduceMul] | simp (disch := omega) only [wrap64] | omega)
  all_goals exact Fin.same (by simpa [blankI, *] using h)

/-- The cutter's cells. -/
def ctr (s : ByteArray) (i : Nat) (sg out : D) (f : List D) : List D := [.str s, .int .i64 i, .int .i64 (place (B s) i).1, .int .i64 (place (B s) i).2, sg, out] ++ f
def flt (code : Int) (name : ByteArray) (line col : Int) : List D := [.int .i64 code, .str name, .int .i64 line, .int .i64 col]

theorem take_a {Q} (s : ByteArray) (i n : Nat) (sg out : D) (fc : Int) (fn : ByteArray) (fl fo : Int) (b : Nat) (H : Heap) (hb : H b = some (.box (ctr s i sg out (flt fc fn fl fo)))) (hn : i + n ≤ s.size) (hs : s.size ≤ 1000000)
    (h : Q (.tuple []) (H.set b (.box (ctr s (i + n) sg out (flt fc fn fl fo))))) :
    ACalls Tryz.prog 54 [.box b 0, .int .i64 n] H Q := by
  refine acalls_of_wp [] Tryz.mixed Tryz.func54 rfl (by kernel_rfl) (of_decide_eq_true (by kernel_rfl)) (by kernel_rfl) ?_
  simp only [go_sem, reduceIte, Nat.reduceEqDiff, Nat.reduceAdd, Nat.reduceSub, Nat.reduceLT, Nat.reduceLeDiff, reduceCtorEq, Int.reduceToNat, Int.reduceLE, Int.reduceLT, Int.reduceEq, Int.reduceNeg, Int.reduceAdd, Int.reduceSub, Nat.reduceMul, Tryz.results54]
  have hl := B_len s
  repeat' (first | with_reducible refine And.intro ?_ ?_ | intro _ | simp only [go_sem, reduceIte, Nat.reduceEqDiff, Nat.reduceAdd, Nat.reduceSub, Nat.reduceLT, Nat.reduceLeDiff, reduceCtorEq, Int.reduceToNat, Int.reduceLE, Int.reduceLT, Int.reduceEq, Int.reduceNeg, Int.reduceAdd, Int.reduceSub, Nat.reduceMul] | simp (disch := omega) only [wrap64] | omega)
  refine loop_a (fun k : Nat => [(0, .box b 0), (4, .int .i64 n), (5, .int .i64 k)]) (fun k => H.set b (.box (ctr s (i + k) sg out (flt fc fn fl fo)))) (fun k => k ≤ n) (fun k => n - k) 0 (Nat.zero_le _) (by (try simp only [go_sem, reduceIte, Nat.reduceEqDiff, Nat.reduceAdd, Nat.reduceSub, Nat.reduceLT, Nat.reduceLeDiff, reduceCtorEq, Int.reduceToNat, Int.reduceLE, Int.reduceLT, Int.reduceEq, Int.reduceNeg, Int.reduceAdd, Int.reduceSub, Nat.reduceMul]) <;> (try simp (disch := omega) [wrap64]) <;> (try omega)) (heap_set_le hb) ?_
  rintro k hk
  have hp := place_le (B s) (i + k) (by omega)
  simp only [ctr, flt]
  simp only [go_sem, reduceIte, Nat.reduceEqDiff, Nat.reduceAdd, Nat.reduceSub, Nat.reduceLT, Nat.reduceLeDiff, reduceCtorEq, Int.reduceToNat, Int.reduceLE, Int.reduceLT, Int.reduceEq, Int.reduceNeg, Int.reduceAdd, Int.reduceSub, Nat.reduceMul]
  repeat' (first | with_reducible refine And.intro ?_ ?_ | intro _ | simp only [go_sem, reduceIte, Nat.reduceEqDiff, Nat.reduceAdd, Nat.reduceSub, Nat.reduceLT, Nat.reduceLeDiff, reduceCtorEq, Int.reduceToNat, Int.reduceLE, Int.reduceLT, Int.reduceEq, Int.reduceNeg, Int.reduceAdd, Int.reduceSub, Nat.reduceMul] | simp (disch := omega) only [wrap64] | omega)
  · have h10 := (by assumption : at8 s ((i + k : Nat) : Int) = 10)
    rw [at8_nat] at h10
    refine nx_mk (k + 1) (by omega) (by omega) (by (try simp only [go_sem, reduceIte, Nat.reduceEqDiff, Nat.reduceAdd, Nat.reduceSub, Nat.reduceLT, Nat.reduceLeDiff, reduceCtorEq, Int.reduceToNat, Int.reduceLE, Int.reduceLT, Int.reduceEq, Int.reduceNeg, Int.reduceAdd, Int.reduceSub, Nat.reduceMul]) <;> (try simp (disch := omega) [wrap64]) <;> (try omega)) (heap_box_le ?_)
    rw [show i + (k + 1) = i + k + 1 by omega, place_succ _ _ (by omega), if_pos h10]
    simp
  · have h10 := (by assumption : ¬ at8 s ((i + k : Nat) : Int) = 10)
    rw [at8_nat] at h10
    refine nx_mk (k + 1) (by omega) (by omega) (by (try simp only [go_sem, reduceIte, Nat.reduceEqDiff, Nat.reduceAdd, Nat.reduceSub, Nat.reduceLT, Nat.reduceLeDiff, reduceCtorEq, Int.reduceToNat, Int.reduceLE, Int.reduceLT, Int.reduceEq, Int.reduceNeg, Int.reduceAdd, Int.reduceSub, Nat.reduceMul]) <;> (try simp (disch := omega) [wrap64]) <;> (try omega)) (heap_box_le ?_)
    rw [show i + (k + 1) = i + k + 1 by omega, place_succ _ _ (by omega), if_neg h10]
    simp
  · have hkn : k = n := by omega
    subst hkn
    exact Fin.same h

theorem prefix_eq (l p : List UInt8) (i : Nat) : decide ((l.take (i + p.length)).drop i = p) = p.isPrefixOf (l.drop i) := by
  rw [List.drop_take, Nat.add_sub_cancel_left]
  cases h : p.isPrefixOf (l.drop i) with
  | true =>
    have := List.prefix_iff_eq_take.1 (List.isPrefixOf_iff_prefix.1 h)
    exact decide_eq_true this.symm
  | false =>
    refine decide_eq_false fun e => ?_
    have : p.isPrefixOf (l.drop i) = true := List.isPrefixOf_iff_prefix.2 (List.prefix_iff_eq_take.2 e.symm)
    rw [h] at this; cases this

theorem begins_a {Q} (s p : ByteArray) (i : Nat) (sg out : D) (fc : Int) (fn : ByteArray) (fl fo : Int) (b : Nat) (H : Heap) (hb : H b = some (.box (ctr s i sg out (flt fc fn fl fo)))) (hi : i ≤ s.size) (hs : s.size ≤ 1000000)
    (h : Q (.bool (List.isPrefixOf (B p) ((B s).drop i))) H) :
    ACalls Tryz.prog 53 [.box b 0, .str p] H Q := by
  refine acalls_of_wp [] Tryz.mixed Tryz.func53 rfl (by kernel_rfl) (of_decide_eq_true (by kernel_rfl)) (by kernel_rfl) ?_
  simp only [go_sem, reduceIte, Nat.reduceEqDiff, Nat.reduceAdd, Nat.reduceSub, Nat.reduceLT, Nat.reduceLeDiff, reduceCtorEq, Int.reduceToNat, Int.reduceLE, Int.reduceLT, Int.reduceEq, Int.reduceNeg, Int.reduceAdd, Int.reduceSub, Nat.reduceMul, Tryz.results53]
  have hl := B_len s
  have hp := B_len p
  simp only [ctr, flt] at hb
  have hws : IntKind.i64.wrap ((s.size : Int) - i) = (s.size : Int) - i := wrap64 (by omega) (by omega)
  by_cases hc : p.size ≤ s.size - i
  · have hwp : IntKind.i64.wrap ((i : Int) + p.size) = ((i + p.size : Nat) : Int) := by rw [wrap64 (by omega) (by omega)]; omega
    repeat' (first | with_reducible refine And.intro ?_ ?_ | intro _ | simp only [go_sem, reduceIte, Nat.reduceEqDiff, Nat.reduceAdd, Nat.reduceSub, Nat.reduceLT, Nat.reduceLeDiff, reduceCtorEq, Int.reduceToNat, Int.reduceLE, Int.reduceLT, Int.reduceEq, Int.reduceNeg, Int.reduceAdd, Int.reduceSub, Nat.reduceMul, hb, hws, hwp] | simp (disch := omega) only [wrap64] | omega)
    · rw [← hp, prefix_eq]
      exact Fin.same h
  · repeat' (first | with_reducible refine And.intro ?_ ?_ | intro _ | simp only [go_sem, reduceIte, Nat.reduceEqDiff, Nat.reduceAdd, Nat.reduceSub, Nat.reduceLT, Nat.reduceLeDiff, reduceCtorEq, Int.reduceToNat, Int.reduceLE, Int.reduceLT, Int.reduceEq, Int.reduceNeg, Int.reduceAdd, Int.reduceSub, Nat.reduceMul, hb, hws] | simp (disch := omega) only [wrap64] | omega)
    · have : List.isPrefixOf (B p) ((B s).drop i) = false := by
        rw [← Bool.not_eq_true, List.isPrefixOf_iff_prefix]
        intro e
        have := e.length_le
        rw [List.length_drop] at this
        omega
      rw [this] at h
      exact Fin.same h

theorem name_a {Q} (s : ByteArray) (i j : Nat) (sg out : D) (fc : Int) (fn : ByteArray) (fl fo : Int) (b : Nat) (H : Heap) (hb : H b = some (.box (ctr s i sg out (flt fc fn fl fo)))) (hj : j ≤ s.size) (hs : s.size ≤ 1000000)
    (h : Q (.int .i64 (spanN partI ((B s).drop j))) H) :
    ACalls Tryz.prog 55 [.box b 0, .int .i64 j] H Q := by
  refine acalls_of_wp [] Tryz.mixed Tryz.func55 rfl (by kernel_rfl) (of_decide_eq_true (by kernel_rfl)) (by kernel_rfl) ?_
  simp only [go_sem, reduceIte, Nat.reduceEqDiff, Nat.reduceAdd, Nat.reduceSub, Nat.reduceLT, Nat.reduceLeDiff, reduceCtorEq, Int.reduceToNat, Int.reduceLE, Int.reduceLT, Int.reduceEq, Int.reduceNeg, Int.reduceAdd, Int.reduceSub, Nat.reduceMul, Tryz.results55]
  have hl := B_len s
  simp only [ctr, flt] at hb
  refine loop_a (fun k : Nat => [(0, .box b 0), (1, .int .i64 j), (5, .int .i64 k)]) (fun _ => H) (fun k => j + k ≤ s.size ∧ k + spanN partI ((B s).drop (j + k)) = spanN partI ((B s).drop j)) (fun k => s.size - k) 0 ⟨by omega, by simp⟩ (by (try simp only [go_sem, reduceIte, Nat.reduceEqDiff, Nat.reduceAdd, Nat.reduceSub, Nat.reduceLT, Nat.reduceLeDiff, reduceCtorEq, Int.reduceToNat, Int.reduceLE, Int.reduceLT, Int.reduceEq, Int.reduceNeg, Int.reduceAdd, Int.reduceSub, Nat.reduceMul]) <;> (try simp (disch := omega) [wrap64]) <;> (try omega)) (Heap.Le.refl _) ?_
  rintro k ⟨hk, ha⟩
  have hw : IntKind.i64.wrap ((j : Int) + k) = ((j + k : Nat) : Int) := by rw [wrap64 (by omega) (by omega)]; omega
  simp only [go_sem, reduceIte, Nat.reduceEqDiff, Nat.reduceAdd, Nat.reduceSub, Nat.reduceLT, Nat.reduceLeDiff, reduceCtorEq, Int.reduceToNat, Int.reduceLE, Int.reduceLT, Int.reduceEq, Int.reduceNeg, Int.reduceAdd, Int.reduceSub, Nat.reduceMul, hb, hw]
  repeat' (first | with_reducible refine And.intro ?_ ?_ | intro _ | simp only [go_sem, reduceIte, Nat.reduceEqDiff, Nat.reduceAdd, Nat.reduceSub, Nat.reduceLT, Nat.reduceLeDiff, reduceCtorEq, Int.reduceToNat, Int.reduceLE, Int.reduceLT, Int.reduceEq, Int.reduceNeg, Int.reduceAdd, Int.reduceSub, Nat.reduceMul, hb, hw] | simp (disch := omega) only [wrap64] | with_reducible refine rLetter_a _ _ ?_ | with_reducible refine rDigit_a _ _ ?_ | omega)
  · rw [at8_nat] at *
    have h1 : partI (nth (B s) (j + k)) = true := by simp [partI, *]
    rw [spanN_drop _ _ _ (by omega), if_pos h1] at ha
    exact nx_mk (k + 1) ⟨by omega, by rw [← Nat.add_assoc]; omega⟩ (by omega) (by (try simp only [go_sem, reduceIte, Nat.reduceEqDiff, Nat.reduceAdd, Nat.reduceSub, Nat.reduceLT, Nat.reduceLeDiff, reduceCtorEq, Int.reduceToNat, Int.reduceLE, Int.reduceLT, Int.reduceEq, Int.reduceNeg, Int.reduceAdd, Int.reduceSub, Nat.reduceMul]) <;> (try simp (disch := omega) [wrap64]) <;> (try omega)) (Heap.Le.refl _)
  · rw [at8_nat] at *
    have h1 : partI (nth (B s) (j + k)) = false := by simp [partI, *]
    rw [spanN_drop _ _ _ (by omega), if_neg (by simp [h1])] at ha
    rw [← ha] at h
    exact Fin.same h
  · rw [at8_nat] at *
    have h1 : partI (nth (B s) (j + k)) = true := by simp [partI, *]
    rw [spanN_drop _ _ _ (by omega), if_pos h1] at ha
    exact nx_mk (k + 1) ⟨by omega, by rw [← Nat.add_assoc]; omega⟩ (by omega) (by (try simp only [go_sem, reduceIte, Nat.reduceEqDiff, Nat.reduceAdd, Nat.reduceSub, Nat.reduceLT, Nat.reduceLeDiff, reduceCtorEq, Int.reduceToNat, Int.reduceLE, Int.reduceLT, Int.reduceEq, Int.reduceNeg, Int.reduceAdd, Int.reduceSub, Nat.reduceMul]) <;> (try simp (disch := omega) [wrap64]) <;> (try omega)) (Heap.Le.refl _)
  · rw [at8_nat] at *
    have h1 : partI (nth (B s) (j + k)) = true := by simp [partI, *]
    rw [spanN_drop _ _ _ (by omega), if_pos h1] at ha
    exact nx_mk (k + 1) ⟨by omega, by rw [← Nat.add_assoc]; omega⟩ (by omega) (by (try simp only [go_sem, reduceIte, Nat.reduceEqDiff, Nat.reduceAdd, Nat.reduceSub, Nat.reduceLT, Nat.reduceLeDiff, reduceCtorEq, Int.reduceToNat, Int.reduceLE, Int.reduceLT, Int.reduceEq, Int.reduceNeg, Int.reduceAdd, Int.reduceSub, Nat.reduceMul]) <;> (try simp (disch := omega) [wrap64]) <;> (try omega)) (Heap.Le.refl _)
  · rw [spanN_end _ _ _ (by omega)] at ha
    rw [← ha] at h
    exact Fin.same h
end Go.Proofs.YtlbojoghnapbfaaGreatDoor
