/- Walks of the lexer (voussoir/lex). -/
import Derived.Test.YtlbojoghnapbfaaDoorLexLeaf
import Derived.Test.YtlbojoghnapbfaaDoorLexLib
import Derived.Test.YtlbojoghnapbfaaDoorLexByte
set_option linter.unusedSimpArgs false
set_option linter.unusedVariables false
namespace Go.Proofs.YtlbojoghnapbfaaDoor
open Go Go.Av Go.Lexs
attribute [local irreducible] ACalls at8

/-- The reader's cells. -/
def rdr (s : ByteArray) (i : Nat) (sg : D) (op : Bool) : List D := [.str s, .int .i64 i, .int .i64 (place (B s) i).1, .int .i64 (place (B s) i).2, sg, .bool op]

theorem skip_a {Q} (s : ByteArray) (i n : Nat) (sg : D) (op : Bool) (b : Nat) (H : Heap) (hb : H b = some (.box (rdr s i sg op))) (hn : i + n ≤ s.size) (hs : s.size ≤ 1000000) (h : Q (.tuple []) (H.set b (.box (rdr s (i + n) sg op)))) :
    ACalls Tryd.prog 45 [.box b 0, .int .i64 n] H Q := by
  refine acalls_of_wp [] Tryd.mixed Tryd.func45 rfl (by kernel_rfl) (of_decide_eq_true (by kernel_rfl)) (by kernel_rfl) ?_
  simp only [go_sem, reduceIte, Nat.reduceEqDiff, Nat.reduceAdd, Nat.reduceSub, Nat.reduceLT, Nat.reduceLeDiff, reduceCtorEq, Int.reduceToNat, Int.reduceLE, Int.reduceLT, Int.reduceEq, Int.reduceNeg, Int.reduceAdd, Int.reduceSub, Nat.reduceMul, Tryd.results45]
  have hl := B_len s
  repeat' (first | with_reducible refine And.intro ?_ ?_ | intro _ | simp only [go_sem, reduceIte, Nat.reduceEqDiff, Nat.reduceAdd, Nat.reduceSub, Nat.reduceLT, Nat.reduceLeDiff, reduceCtorEq, Int.reduceToNat, Int.reduceLE, Int.reduceLT, Int.reduceEq, Int.reduceNeg, Int.reduceAdd, Int.reduceSub, Nat.reduceMul] | simp (disch := omega) only [wrap64] | omega)
  refine loop_a (fun k : Nat => [(0, .box b 0), (4, .int .i64 n), (5, .int .i64 k)]) (fun k => H.set b (.box (rdr s (i + k) sg op))) (fun k => k ≤ n) (fun k => n - k) 0 (Nat.zero_le _) (by (try simp only [go_sem, reduceIte, Nat.reduceEqDiff, Nat.reduceAdd, Nat.reduceSub, Nat.reduceLT, Nat.reduceLeDiff, reduceCtorEq, Int.reduceToNat, Int.reduceLE, Int.reduceLT, Int.reduceEq, Int.reduceNeg, Int.reduceAdd, Int.reduceSub, Nat.reduceMul]) <;> (try simp (disch := omega) [wrap64]) <;> (try omega)) (heap_set_le hb) ?_
  rintro k hk
  have hp := place_le (B s) (i + k) (by omega)
  simp only [rdr]
  simp only [go_sem, reduceIte, Nat.reduceEqDiff, Nat.reduceAdd, Nat.reduceSub, Nat.reduceLT, Nat.reduceLeDiff, reduceCtorEq, Int.reduceToNat, Int.reduceLE, Int.reduceLT, Int.reduceEq, Int.reduceNeg, Int.reduceAdd, Int.reduceSub, Nat.reduceMul]
  repeat' (first | with_reducible refine And.intro ?_ ?_ | intro _ | simp only [go_sem, reduceIte, Nat.reduceEqDiff, Nat.reduceAdd, Nat.reduceSub, Nat.reduceLT, Nat.reduceLeDiff, reduceCtorEq, Int.reduceToNat, Int.reduceLE, Int.reduceLT, Int.reduceEq, Int.reduceNeg, Int.reduceAdd, Int.reduceSub, Nat.reduceMul] | simp (disch := omega) only [wrap64] | omega)
  · have h10 := (by assumption : at8 s ((i + k : Nat) : Int) = 10)
    rw [at8_nat] at h10
    refine nx_mk (k + 1) (by omega) (by omega) (by (try simp only [go_sem, reduceIte, Nat.reduceEqDiff, Nat.reduceAdd, Nat.reduceSub, Nat.reduceLT, Nat.reduceLeDiff, reduceCtorEq, Int.reduceToNat, Int.reduceLE, Int.reduceLT, Int.reduceEq, Int.reduceNeg, Int.reduceAdd, Int.reduceSub, Nat.reduceMul]) <;> (try simp (disch := omega) [wrap64]) <;> (try omega)) (heap_box_le ?_)
    rw [show i + (k + 1) = i + k + 1 by omega, place_succ _ _ (by omega), if_pos h10]
    simp
  · have h10 := (by assumption : ¬ at8 s ((i + k : Nat) : Int) = 10)
    rw [at8_nat] at h10
    refine nx_mk (k + 1) (by omega) (by omega) (by (try simp only [go_sem, reduceIte, Nat.reduceEqDiff, Nat.reduceAdd, Nat.reduceSub, Nat.reduceLT, Nat.reduceLeDiff, reduceCtorEq, Int.reduceToNat, Int.reduceLE, Int.reduceLT, Int.reduceEq, Int.reduceNeg, Int.reduceAdd, Int.reduceSub, Nat.reduceMul]) <;> (try simp (disch := omega) [wrap64]) <;> (try omega)) (heap_box_le ?_)
    rw [show i + (k + 1) = i + k + 1 by omega, place_succ _ _ (by omega), if_neg h10]
    simp
  · have hkn : k = n := by omega
    subst hkn
    exact Fin.same h

theorem blanks_a {Q} (s : ByteArray) (i : Nat) (sg : D) (op : Bool) (b : Nat) (H : Heap) (hb : H b = some (.box (rdr s i sg op))) (hn : i ≤ s.size) (hs : s.size ≤ 1000000) (h : Q (.tuple []) (H.set b (.box (rdr s (nextAt (B s) i) sg op)))) :
    ACalls Tryd.prog 43 [.box b 0] H Q := by
  refine acalls_of_wp [] Tryd.mixed Tryd.func43 rfl (by kernel_rfl) (of_decide_eq_true (by kernel_rfl)) (by kernel_rfl) ?_
  simp only [go_sem, reduceIte, Nat.reduceEqDiff, Nat.reduceAdd, Nat.reduceSub, Nat.reduceLT, Nat.reduceLeDiff, reduceCtorEq, Int.reduceToNat, Int.reduceLE, Int.reduceLT, Int.reduceEq, Int.reduceNeg, Int.reduceAdd, Int.reduceSub, Nat.reduceMul, Tryd.results43]
  have hl := B_len s
  repeat' (first | with_reducible refine And.intro ?_ ?_ | intro _ | simp only [go_sem, reduceIte, Nat.reduceEqDiff, Nat.reduceAdd, Nat.reduceSub, Nat.reduceLT, Nat.reduceLeDiff, reduceCtorEq, Int.reduceToNat, Int.reduceLE, Int.reduceLT, Int.reduceEq, Int.reduceNeg, Int.reduceAdd, Int.reduceSub, Nat.reduceMul] | simp (disch := omega) only [wrap64] | omega)
  refine loop_a (fun _ : Nat => [(0, .box b 0)]) (fun k => H.set b (.box (rdr s k sg op))) (fun k => k ≤ s.size ∧ nextAt (B s) k = nextAt (B s) i) (fun k => s.size - k) i ⟨hn, rfl⟩ (by (try simp only [go_sem, reduceIte, Nat.reduceEqDiff, Nat.reduceAdd, Nat.reduceSub, Nat.reduceLT, Nat.reduceLeDiff, reduceCtorEq, Int.reduceToNat, Int.reduceLE, Int.reduceLT, Int.reduceEq, Int.reduceNeg, Int.reduceAdd, Int.reduceSub, Nat.reduceMul]) <;> (try simp (disch := omega) [wrap64]) <;> (try omega)) (heap_set_le hb) ?_
  rintro k ⟨hk, ha⟩
  simp only [rdr]
  simp only [go_sem, reduceIte, Nat.reduceEqDiff, Nat.reduceAdd, Nat.reduceSub, Nat.reduceLT, Nat.reduceLeDiff, reduceCtorEq, Int.reduceToNat, Int.reduceLE, Int.reduceLT, Int.reduceEq, Int.reduceNeg, Int.reduceAdd, Int.reduceSub, Nat.reduceMul]
  have hr := nth_range (B s) k
  repeat' (first | with_reducible refine And.intro ?_ ?_ | intro _ | simp only [go_sem, reduceIte, Nat.reduceEqDiff, Nat.reduceAdd, Nat.reduceSub, Nat.reduceLT, Nat.reduceLeDiff, reduceCtorEq, Int.reduceToNat, Int.reduceLE, Int.reduceLT, Int.reduceEq, Int.reduceNeg, Int.reduceAdd, Int.reduceSub, Nat.reduceMul] | simp (disch := omega) only [wrap64] | with_reducible refine indexByte_a _ _ _ ?_ | with_reducible refine hasPrefix_a _ _ _ ?_ | omega)
  all_goals (try rw [nth_drop, Nat.add_zero] at *)
  · have h1 := (idx_blank _ hr.1 hr.2).1 (by assumption)
    refine skip_a s k 1 sg op b _ (heap_same _ _) (by omega) hs ?_
    simp only [go_sem, reduceIte, Nat.reduceEqDiff, Nat.reduceAdd, Nat.reduceSub, Nat.reduceLT, Nat.reduceLeDiff, reduceCtorEq, Int.reduceToNat, Int.reduceLE, Int.reduceLT, Int.reduceEq, Int.reduceNeg, Int.reduceAdd, Int.reduceSub, Nat.reduceMul]
    exact nx_mk (k + 1) ⟨by omega, by rw [← nextAt_blank _ _ (by omega) h1]; exact ha⟩ (by omega) (by (try simp only [go_sem, reduceIte, Nat.reduceEqDiff, Nat.reduceAdd, Nat.reduceSub, Nat.reduceLT, Nat.reduceLeDiff, reduceCtorEq, Int.reduceToNat, Int.reduceLE, Int.reduceLT, Int.reduceEq, Int.reduceNeg, Int.reduceAdd, Int.reduceSub, Nat.reduceMul]) <;> (try simp (disch := omega) [wrap64]) <;> (try omega)) (Heap.Le.refl _)
  · have h1 : blankI (nth (B s) k) = false := by rw [← Bool.not_eq_true, ← idx_blank _ hr.1 hr.2]; assumption
    have h2 : slashes (List.drop k (B s)) = true := by assumption
    have h3 := idx_line (List.drop k (B s))
    rw [if_pos (by assumption), List.length_drop, B_len] at h3
    have h4 := lineLen_le (List.drop k (B s))
    rw [List.length_drop, B_len] at h4
    have h5 : 1 ≤ lineLen (List.drop k (B s)) := by omega
    rw [h3]
    refine skip_a s k _ sg op b _ (heap_same _ _) (by omega) hs ?_
    simp only [go_sem, reduceIte, Nat.reduceEqDiff, Nat.reduceAdd, Nat.reduceSub, Nat.reduceLT, Nat.reduceLeDiff, reduceCtorEq, Int.reduceToNat, Int.reduceLE, Int.reduceLT, Int.reduceEq, Int.reduceNeg, Int.reduceAdd, Int.reduceSub, Nat.reduceMul]
    exact nx_mk (k + lineLen (List.drop k (B s))) ⟨by omega, by rw [← nextAt_line _ _ (by omega) h1 h2]; exact ha⟩ (by omega) (by (try simp only [go_sem, reduceIte, Nat.reduceEqDiff, Nat.reduceAdd, Nat.reduceSub, Nat.reduceLT, Nat.reduceLeDiff, reduceCtorEq, Int.reduceToNat, Int.reduceLE, Int.reduceLT, Int.reduceEq, Int.reduceNeg, Int.reduceAdd, Int.reduceSub, Nat.reduceMul]) <;> (try simp (disch := omega) [wrap64]) <;> (try omega)) (Heap.Le.refl _)
  · have h1 : blankI (nth (B s) k) = false := by rw [← Bool.not_eq_true, ← idx_blank _ hr.1 hr.2]; assumption
    have h2 : slashes (List.drop k (B s)) = true := by assumption
    have h3 := idx_line (List.drop k (B s))
    rw [if_neg (by assumption)] at h3
    have h4 := lineLen_le (List.drop k (B s))
    rw [List.length_drop, B_len] at h4
    obtain ⟨c, hc, hcn⟩ := drop_cons (B s) k (by omega)
    have h5 : 1 ≤ lineLen (List.drop k (B s)) := by rw [hc] at h2 ⊢; exact lineLen_pos h2
    rw [show Nat.toUInt8 10 = 10 from rfl, h3]
    refine skip_a s k _ sg op b _ (heap_same _ _) (by omega) hs ?_
    simp only [go_sem, reduceIte, Nat.reduceEqDiff, Nat.reduceAdd, Nat.reduceSub, Nat.reduceLT, Nat.reduceLeDiff, reduceCtorEq, Int.reduceToNat, Int.reduceLE, Int.reduceLT, Int.reduceEq, Int.reduceNeg, Int.reduceAdd, Int.reduceSub, Nat.reduceMul]
    exact nx_mk (k + lineLen (List.drop k (B s))) ⟨by omega, by rw [← nextAt_line _ _ (by omega) h1 h2]; exact ha⟩ (by omega) (by (try simp only [go_sem, reduceIte, Nat.reduceEqDiff, Nat.reduceAdd, Nat.reduceSub, Nat.reduceLT, Nat.reduceLeDiff, reduceCtorEq, Int.reduceToNat, Int.reduceLE, Int.reduceLT, Int.reduceEq, Int.reduceNeg, Int.reduceAdd, Int.reduceSub, Nat.reduceMul]) <;> (try simp (disch := omega) [wrap64]) <;> (try omega)) (Heap.Le.refl _)
  · have h1 : blankI (nth (B s) k) = false := by rw [← Bool.not_eq_true, ← idx_blank _ hr.1 hr.2]; assumption
    have h2 : slashes (List.drop k (B s)) = false := by assumption
    rw [nextAt_stop _ _ (by omega) h1 h2] at ha
    rw [← ha] at h
    exact Fin.same h
  · rw [nextAt_end _ _ (by omega)] at ha
    rw [← ha] at h
    exact Fin.same h

theorem run_a {Q} (s : ByteArray) (p : Int → Bool) (g : Nat) (hp : ∀ {K : D → Heap → Prop} (c : Int) (H : Heap), K (.bool (p c)) H → ACalls Tryd.prog g [.int .u8 c] H K) (hs : s.size ≤ 1000000) (H : Heap)
    (h : Q (.int .i64 (spanN p (B s))) H) : ACalls Tryd.prog 55 [.str s, .fn (.func g) [] []] H Q := by
  refine acalls_of_wp [] Tryd.mixed Tryd.func55 rfl (by kernel_rfl) (of_decide_eq_true (by kernel_rfl)) (by kernel_rfl) ?_
  simp only [go_sem, reduceIte, Nat.reduceEqDiff, Nat.reduceAdd, Nat.reduceSub, Nat.reduceLT, Nat.reduceLeDiff, reduceCtorEq, Int.reduceToNat, Int.reduceLE, Int.reduceLT, Int.reduceEq, Int.reduceNeg, Int.reduceAdd, Int.reduceSub, Nat.reduceMul, Tryd.results55]
  have hl := B_len s
  refine loop_a (fun k : Nat => [(0, .str s), (1, .fn (.func g) [] []), (5, .int .i64 k)]) (fun _ => H) (fun k => k ≤ s.size ∧ k + spanN p ((B s).drop k) = spanN p (B s)) (fun k => s.size - k) 0 ⟨Nat.zero_le _, by simp⟩ (by (try simp only [go_sem, reduceIte, Nat.reduceEqDiff, Nat.reduceAdd, Nat.reduceSub, Nat.reduceLT, Nat.reduceLeDiff, reduceCtorEq, Int.reduceToNat, Int.reduceLE, Int.reduceLT, Int.reduceEq, Int.reduceNeg, Int.reduceAdd, Int.reduceSub, Nat.reduceMul]) <;> (try simp (disch := omega) [wrap64]) <;> (try omega)) (Heap.Le.refl _) ?_
  rintro k ⟨hk, ha⟩
  simp only [go_sem, reduceIte, Nat.reduceEqDiff, Nat.reduceAdd, Nat.reduceSub, Nat.reduceLT, Nat.reduceLeDiff, reduceCtorEq, Int.reduceToNat, Int.reduceLE, Int.reduceLT, Int.reduceEq, Int.reduceNeg, Int.reduceAdd, Int.reduceSub, Nat.reduceMul]
  rw [at8_nat]
  repeat' (first | with_reducible refine And.intro ?_ ?_ | intro _ | simp only [go_sem, reduceIte, Nat.reduceEqDiff, Nat.reduceAdd, Nat.reduceSub, Nat.reduceLT, Nat.reduceLeDiff, reduceCtorEq, Int.reduceToNat, Int.reduceLE, Int.reduceLT, Int.reduceEq, Int.reduceNeg, Int.reduceAdd, Int.reduceSub, Nat.reduceMul] | simp (disch := omega) only [wrap64] | with_reducible refine hp _ _ ?_ | omega)
  · have h1 : p (nth (B s) k) = true := by assumption
    refine nx_mk (k + 1) ⟨by omega, ?_⟩ (by omega) (by (try simp only [go_sem, reduceIte, Nat.reduceEqDiff, Nat.reduceAdd, Nat.reduceSub, Nat.reduceLT, Nat.reduceLeDiff, reduceCtorEq, Int.reduceToNat, Int.reduceLE, Int.reduceLT, Int.reduceEq, Int.reduceNeg, Int.reduceAdd, Int.reduceSub, Nat.reduceMul]) <;> (try simp (disch := omega) [wrap64]) <;> (try omega)) (Heap.Le.refl _)
    rw [spanN_drop _ _ _ (by omega), if_pos h1] at ha
    omega
  · have h1 : p (nth (B s) k) = false := by assumption
    rw [spanN_drop _ _ _ (by omega), h1] at ha
    simp only [Bool.false_eq_true, if_false, Nat.add_zero] at ha
    rw [← ha] at h
    exact Fin.same h
  · rw [spanN_end _ _ _ (by omega)] at ha
    have : k = spanN p (B s) := by omega
    rw [← this] at h
    exact Fin.same h

end Go.Proofs.YtlbojoghnapbfaaDoor
