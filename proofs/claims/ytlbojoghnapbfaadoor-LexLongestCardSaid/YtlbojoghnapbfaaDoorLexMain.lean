/- Walks of the lexer (voussoir/lex): Lex, Definition. -/
import Derived.Test.YtlbojoghnapbfaaDoorLexCut
set_option linter.unusedSimpArgs false
set_option linter.unusedVariables false
namespace Go.Proofs.YtlbojoghnapbfaaDoor
open Go Go.Av Go.Lexs
attribute [local irreducible] ACalls at8

def findN (p : ByteArray → Bool) : List ByteArray → Nat
  | [] => 0
  | x :: r => if p x then 0 else findN p r + 1
theorem findN_le (p : ByteArray → Bool) : ∀ l, findN p l ≤ l.length
  | [] => Nat.le_refl _
  | x :: r => by unfold findN; split <;> simp; exact findN_le p r
theorem findN_any (p : ByteArray → Bool) : ∀ l, l.any p = decide (findN p l < l.length)
  | [] => by simp [findN]
  | x :: r => by
    rw [List.any_cons, findN_any p r, findN]
    cases h : p x <;> simp
theorem findN_take (p : ByteArray → Bool) (l : List ByteArray) (k : Nat) (h : k < l.length) (h0 : k + findN p (l.drop k) = findN p l) : findN p l = if p l[k] then k else findN p l := by
  rw [List.drop_eq_getElem_cons h, findN] at h0
  split
  · rename_i hp; rw [if_pos hp] at h0; omega
  · rfl
theorem findN_step (p : ByteArray → Bool) (l : List ByteArray) (k : Nat) (h : k < l.length) (h0 : k + findN p (l.drop k) = findN p l) (hp : p l[k] = false) : k + 1 + findN p (l.drop (k + 1)) = findN p l := by
  rw [List.drop_eq_getElem_cons h, findN, if_neg (by simp [hp])] at h0
  omega

theorem indexFunc_a {Q} (xs : List ByteArray) (p : ByteArray → Bool) (g : Nat) (hp : ∀ {K : D → Heap → Prop} (x : ByteArray) (H : Heap), K (.bool (p x)) H → ACalls Tryd.prog g [.str x] H K) (hl : xs.length ≤ 4611686018427387904) (H : Heap)
    (h : Q (.int .i64 (if findN p xs < xs.length then (findN p xs : Int) else -1)) H) : ACalls Tryd.prog 40 [.sl 1 (strsD xs), .fn (.func g) [] []] H Q := by
  refine acalls_of_wp [] Tryd.mixed Tryd.func40 rfl (by kernel_rfl) (of_decide_eq_true (by kernel_rfl)) (by kernel_rfl) ?_
  simp only [go_sem, reduceIte, Nat.reduceEqDiff, Nat.reduceAdd, Nat.reduceSub, Nat.reduceLT, Nat.reduceLeDiff, reduceCtorEq, Int.reduceToNat, Int.reduceLE, Int.reduceLT, Int.reduceEq, Int.reduceNeg, Int.reduceAdd, Int.reduceSub, Nat.reduceMul, Tryd.results40]
  refine loop_a (fun k : Nat => [(0, .sl 1 (strsD xs)), (1, .fn (.func g) [] []), (7, .int .i64 xs.length), (8, .int .i64 k)]) (fun _ => H) (fun k => k ≤ xs.length ∧ k + findN p (xs.drop k) = findN p xs) (fun k => xs.length - k) 0 ⟨Nat.zero_le _, by simp⟩ (by (try simp only [go_sem, reduceIte, Nat.reduceEqDiff, Nat.reduceAdd, Nat.reduceSub, Nat.reduceLT, Nat.reduceLeDiff, reduceCtorEq, Int.reduceToNat, Int.reduceLE, Int.reduceLT, Int.reduceEq, Int.reduceNeg, Int.reduceAdd, Int.reduceSub, Nat.reduceMul]) <;> (try simp (disch := omega) [wrap64]) <;> (try omega)) (Heap.Le.refl _) ?_
  rintro k ⟨hk, ha⟩
  by_cases hlt : k < xs.length
  · have hkd : decide ((k : Int) < xs.length) = true := decide_eq_true (by omega)
    have hat := strsD_at xs k hlt
    simp only [go_sem, reduceIte, Nat.reduceEqDiff, Nat.reduceAdd, Nat.reduceSub, Nat.reduceLT, Nat.reduceLeDiff, reduceCtorEq, Int.reduceToNat, Int.reduceLE, Int.reduceLT, Int.reduceEq, Int.reduceNeg, Int.reduceAdd, Int.reduceSub, Nat.reduceMul, hkd, hat]
    repeat' (first | with_reducible refine And.intro ?_ ?_ | intro _ | simp only [go_sem, reduceIte, Nat.reduceEqDiff, Nat.reduceAdd, Nat.reduceSub, Nat.reduceLT, Nat.reduceLeDiff, reduceCtorEq, Int.reduceToNat, Int.reduceLE, Int.reduceLT, Int.reduceEq, Int.reduceNeg, Int.reduceAdd, Int.reduceSub, Nat.reduceMul, hkd, hat] | simp (disch := omega) only [wrap64] | with_reducible refine hp _ _ ?_ | omega)
    · have h1 : p xs[k] = true := by assumption
      have h2 := findN_take p xs k hlt ha
      rw [if_pos h1] at h2
      rw [h2, if_pos hlt] at h
      exact Fin.same h
    · exact nx_mk (k + 1) ⟨by omega, findN_step p xs k hlt ha (by assumption)⟩ (by omega) (by (try simp only [go_sem, reduceIte, Nat.reduceEqDiff, Nat.reduceAdd, Nat.reduceSub, Nat.reduceLT, Nat.reduceLeDiff, reduceCtorEq, Int.reduceToNat, Int.reduceLE, Int.reduceLT, Int.reduceEq, Int.reduceNeg, Int.reduceAdd, Int.reduceSub, Nat.reduceMul]) <;> (try simp (disch := omega) [wrap64]) <;> (try omega)) (Heap.Le.refl _)
  · have hkd : decide ((k : Int) < xs.length) = false := decide_eq_false (by omega)
    have hke : k = xs.length := by omega
    subst hke
    rw [List.drop_length] at ha
    have h2 : findN p xs = xs.length := by rw [← ha]; rfl
    rw [if_neg (by omega)] at h
    simp only [go_sem, reduceIte, Nat.reduceEqDiff, Nat.reduceAdd, Nat.reduceSub, Nat.reduceLT, Nat.reduceLeDiff, reduceCtorEq, Int.reduceToNat, Int.reduceLE, Int.reduceLT, Int.reduceEq, Int.reduceNeg, Int.reduceAdd, Int.reduceSub, Nat.reduceMul, hkd]
    exact Fin.same h

theorem containsFunc_a {Q} (xs : List ByteArray) (p : ByteArray → Bool) (g : Nat) (hp : ∀ {K : D → Heap → Prop} (x : ByteArray) (H : Heap), K (.bool (p x)) H → ACalls Tryd.prog g [.str x] H K) (hl : xs.length ≤ 4611686018427387904) (H : Heap)
    (h : Q (.bool (xs.any p)) H) : ACalls Tryd.prog 25 [.sl 1 (strsD xs), .fn (.func g) [] []] H Q := by
  refine acalls_of_wp [] Tryd.mixed Tryd.func25 rfl (by kernel_rfl) (of_decide_eq_true (by kernel_rfl)) (by kernel_rfl) ?_
  simp only [go_sem, reduceIte, Nat.reduceEqDiff, Nat.reduceAdd, Nat.reduceSub, Nat.reduceLT, Nat.reduceLeDiff, reduceCtorEq, Int.reduceToNat, Int.reduceLE, Int.reduceLT, Int.reduceEq, Int.reduceNeg, Int.reduceAdd, Int.reduceSub, Nat.reduceMul, Tryd.results25]
  refine indexFunc_a xs p g hp hl _ ?_
  simp only [go_sem, reduceIte, Nat.reduceEqDiff, Nat.reduceAdd, Nat.reduceSub, Nat.reduceLT, Nat.reduceLeDiff, reduceCtorEq, Int.reduceToNat, Int.reduceLE, Int.reduceLT, Int.reduceEq, Int.reduceNeg, Int.reduceAdd, Int.reduceSub, Nat.reduceMul]
  refine Fin.same ?_
  rw [findN_any] at h
  by_cases hf : findN p xs < xs.length
  · rw [if_pos hf, decide_eq_true (by omega)]; rwa [decide_eq_true hf] at h
  · rw [if_neg hf, decide_eq_false (by omega)]; rwa [decide_eq_false hf] at h

theorem lexSign_a {Q} (x : ByteArray) (H : Heap) (h : Q (.bool (!isSign (B x))) H) : ACalls Tryd.prog 26 [.str x] H Q := by
  refine acalls_of_wp [] Tryd.mixed Tryd.func26 rfl (by kernel_rfl) (of_decide_eq_true (by kernel_rfl)) (by kernel_rfl) ?_
  simp only [go_sem, reduceIte, Nat.reduceEqDiff, Nat.reduceAdd, Nat.reduceSub, Nat.reduceLT, Nat.reduceLeDiff, reduceCtorEq, Int.reduceToNat, Int.reduceLE, Int.reduceLT, Int.reduceEq, Int.reduceNeg, Int.reduceAdd, Int.reduceSub, Nat.reduceMul, Tryd.results26]
  refine isSign_a _ _ ?_
  simp only [go_sem, reduceIte, Nat.reduceEqDiff, Nat.reduceAdd, Nat.reduceSub, Nat.reduceLT, Nat.reduceLeDiff, reduceCtorEq, Int.reduceToNat, Int.reduceLE, Int.reduceLT, Int.reduceEq, Int.reduceNeg, Int.reduceAdd, Int.reduceSub, Nat.reduceMul]
  exact Fin.same h

/-- What Lex hands back. -/
def lexR (s : ByteArray) (signs : List ByteArray) : D :=
  if 20000 < s.size then .tuple [.sl 5 [], faultD 3 [] 0 0]
  else if 5000 < signs.length ∨ signs.any (fun x => !isSign (B x)) = true then .tuple [.sl 5 [], faultD 2 [] 0 0]
  else resD (B s) (cut (signs.map B) (B s))

theorem lex_a {Q} (s : ByteArray) (signs : List ByteArray) (hs : s.size ≤ 4611686018427387904) (hl : signs.length ≤ 4611686018427387904) (H : Heap) (h : Q (lexR s signs) H) : ACalls Tryd.prog 13 [.str s, .sl 1 (strsD signs)] H Q := by
  refine acalls_of_wp [] Tryd.mixed Tryd.func13 rfl (by kernel_rfl) (of_decide_eq_true (by kernel_rfl)) (by kernel_rfl) ?_
  simp only [go_sem, reduceIte, Nat.reduceEqDiff, Nat.reduceAdd, Nat.reduceSub, Nat.reduceLT, Nat.reduceLeDiff, reduceCtorEq, Int.reduceToNat, Int.reduceLE, Int.reduceLT, Int.reduceEq, Int.reduceNeg, Int.reduceAdd, Int.reduceSub, Nat.reduceMul, Tryd.results13]
  intro b1 hb1
  repeat' (first | with_reducible refine And.intro ?_ ?_ | intro _ | simp only [go_sem, reduceIte, Nat.reduceEqDiff, Nat.reduceAdd, Nat.reduceSub, Nat.reduceLT, Nat.reduceLeDiff, reduceCtorEq, Int.reduceToNat, Int.reduceLE, Int.reduceLT, Int.reduceEq, Int.reduceNeg, Int.reduceAdd, Int.reduceSub, Nat.reduceMul] | simp (disch := omega) only [wrap64] | with_reducible refine containsFunc_a signs (fun x => !isSign (B x)) _ (fun x H h => lexSign_a x H h) hl _ ?_ | omega)
  · refine Fin.nilsl 5 _ (Fin.less (heap_le_set hb1) ?_)
    rw [lexR, if_pos (by omega)] at h
    exact h
  · refine Fin.nilsl 5 _ (Fin.less (heap_le_set hb1) ?_)
    rw [lexR, if_neg (by omega), if_pos (.inr (by assumption))] at h
    exact h
  · rename_i k1 k2 k3 b2 hb2
    simp only [set_none] at hb2
    obtain ⟨h21, h2⟩ := hb2
    have k3' : ¬ (signs.any (fun x => !isSign (B x)) = true) := by rw [k3]; simp
    rw [lexR, if_neg (by omega), if_neg (by rintro (e | e); omega; exact k3' e)] at h
    refine cut_a s signs false b2 _ (heap_same _ _) (by omega) (by omega) ?_
    have hal : allSigns signs false = signs.map B := by simp [allSigns]
    rw [hal]
    have hle : ∀ X Y : Av.Obj, H.Le ((((H.set b1 X).set b2 Y).del b2).set b1 X) := fun X Y x o hx => by
      have x1 : x ≠ b1 := by rintro rfl; rw [hb1] at hx; cases hx
      have x2 : x ≠ b2 := by rintro rfl; rw [h2] at hx; cases hx
      simp [Heap.set, Heap.del, x1, x2, hx]
    cases hc : cut (signs.map B) (B s) with
    | ok ts =>
      rw [hc] at h
      simp only [go_sem, reduceIte, Nat.reduceEqDiff, Nat.reduceAdd, Nat.reduceSub, Nat.reduceLT, Nat.reduceLeDiff, reduceCtorEq, Int.reduceToNat, Int.reduceLE, Int.reduceLT, Int.reduceEq, Int.reduceNeg, Int.reduceAdd, Int.reduceSub, Nat.reduceMul, resD, faultD, del_ne (Ne.symm h21), heap_ne _ (Ne.symm h21)]
      refine Fin.less ?_ h
      intro x o hx
      have x1 : x ≠ b1 := by rintro rfl; rw [hb1] at hx; cases hx
      have x2 : x ≠ b2 := by rintro rfl; rw [h2] at hx; cases hx
      simp [Heap.set, Heap.del, x1, x2, hx]
    | error i =>
      rw [hc] at h
      simp only [go_sem, reduceIte, Nat.reduceEqDiff, Nat.reduceAdd, Nat.reduceSub, Nat.reduceLT, Nat.reduceLeDiff, reduceCtorEq, Int.reduceToNat, Int.reduceLE, Int.reduceLT, Int.reduceEq, Int.reduceNeg, Int.reduceAdd, Int.reduceSub, Nat.reduceMul, resD, faultD, del_ne (Ne.symm h21), heap_ne _ (Ne.symm h21)]
      refine Fin.less ?_ h
      intro x o hx
      have x1 : x ≠ b1 := by rintro rfl; rw [hb1] at hx; cases hx
      have x2 : x ≠ b2 := by rintro rfl; rw [h2] at hx; cases hx
      simp [Heap.set, Heap.del, x1, x2, hx]
  · refine Fin.nilsl 5 _ (Fin.less (heap_le_set hb1) ?_)
    rw [lexR, if_neg (by omega), if_pos (.inl (by omega))] at h
    exact h
end Go.Proofs.YtlbojoghnapbfaaDoor
