/- The laws LexCuts and LexDefinitions, walked. -/
import Derived.Test.YtlbojoghnapbfaaGreatDoorLawAwake
set_option linter.unusedSimpArgs false
set_option linter.unusedVariables false
namespace Go.Lexs
open Go.Av
def tkOf (l : List UInt8) (x : Tok × Nat) : Tk := ⟨x.1.kind, x.1.text, x.1.n, (place l x.2).1, (place l x.2).2⟩
theorem cutN_len (signs : List (List UInt8)) (l : List UInt8) : ∀ (f i : Nat) (acc ts : List (Tok × Nat)), cutN signs l f i acc = .ok ts → ts.length ≤ acc.length + f
  | 0, i, acc, ts, h => by
    rw [cutN] at h; cases h; omega
  | f + 1, i, acc, ts, h => by
    rw [cutN] at h
    split at h
    · split at h
      · cases h
      · have := cutN_len signs l f _ _ ts h
        rw [List.length_append, List.length_cons, List.length_nil] at this
        omega
    · cases h; omega
theorem cut_len {signs : List (List UInt8)} {l : List UInt8} {ts : List (Tok × Nat)} (h : cut signs l = .ok ts) : ts.length ≤ l.length + 1 := by
  have := cutN_len signs l _ _ _ ts h
  simpa using this
end Go.Lexs
namespace Go.Proofs.YtlbojoghnapbfaaGreatDoor
open Go Go.Av Go.Lexs
attribute [local irreducible] ACalls at8

theorem toks_tk (l : List UInt8) (ts : List (Tok × Nat)) : ts.map (tokD l) = tksD (ts.map (tkOf l)) := by
  unfold tksD
  rw [List.map_map]
  rfl

/-- What a lexer hands back: tokens and a fault. -/
def LexForm (d : D) : Prop := ∃ (ts : List Tk) (c : Int) (nm : List UInt8) (ln cl : Int), d = .tuple [.sl 5 (tksD ts), .agg [.int .i64 c, .str (S nm), .int .i64 ln, .int .i64 cl]] ∧ ts.length ≤ 1000000

theorem resD_form (l : List UInt8) (hl : l.length ≤ 20000) (signs : List (List UInt8)) : LexForm (resD l (cut signs l)) := by
  cases h : cut signs l with
  | ok ts =>
    have := cut_len h
    exact ⟨ts.map (tkOf l), 0, [], 0, 0, by rw [← toks_tk]; rfl, by rw [List.length_map]; omega⟩
  | error i => exact ⟨[], 10, (l.drop i).take 1, _, _, rfl, by simp⟩

theorem lexR_form (s : ByteArray) (signs : List ByteArray) : LexForm (lexR s signs) := by
  unfold lexR
  split
  · exact ⟨[], 3, [], 0, 0, rfl, by simp⟩
  split
  · exact ⟨[], 2, [], 0, 0, rfl, by simp⟩
  · exact resD_form _ (by rw [B_len]; omega) _
theorem defR_form (s : ByteArray) : LexForm (defR s) := by
  unfold defR
  split
  · exact ⟨[], 3, [], 0, 0, rfl, by simp⟩
  · exact resD_form _ (by rw [B_len]; omega) _

theorem all_any (signs : List ByteArray) : signs.all (fun x => isSign (B x)) = !signs.any (fun x => !isSign (B x)) := by
  induction signs with
  | nil => rfl
  | cons x l ih => rw [List.all_cons, List.any_cons, ih]; cases isSign (B x) <;> simp

theorem rlex_lex (s : ByteArray) (signs : List ByteArray) (h : s.size ≤ 20000 ∨ signs.all (fun x => isSign (B x)) = true ∧ signs.length ≤ 5000) : rlexR s signs = lexR s signs := by
  unfold rlexR lexR
  rw [all_any] at *
  cases ha : signs.any (fun x => !isSign (B x)) with
  | true =>
    rw [ha] at h
    have : s.size ≤ 20000 := by rcases h with h | h; exact h; exact absurd h.1 (by simp)
    simp [show ¬ 20000 < s.size by omega]
  | false =>
    by_cases hl : signs.length ≤ 5000
    · simp [hl, show ¬ 5000 < signs.length by omega]
    · have : s.size ≤ 20000 := by rcases h with h | h; exact h; exact absurd h.2 hl
      simp [hl, show ¬ 20000 < s.size by omega, show 5000 < signs.length by omega]

theorem few_a {Q} (s : ByteArray) (signs : List ByteArray) (hs : s.size ≤ 4611686018427387904) (hl : signs.length ≤ 4611686018427387904) (H : Heap) (h : Q (.bool (decide (s.size ≤ 3000) && decide (signs.length ≤ 400))) H) :
    ACalls Tryz.prog 6 [.str s, .sl 1 (strsD signs)] H Q := by
  refine acalls_of_wp [] Tryz.mixed Tryz.func6 rfl (by kernel_rfl) (of_decide_eq_true (by kernel_rfl)) (by kernel_rfl) ?_
  simp only [go_sem, reduceIte, Nat.reduceEqDiff, Nat.reduceAdd, Nat.reduceSub, Nat.reduceLT, Nat.reduceLeDiff, reduceCtorEq, Int.reduceToNat, Int.reduceLE, Int.reduceLT, Int.reduceEq, Int.reduceNeg, Int.reduceAdd, Int.reduceSub, Nat.reduceMul, Tryz.results6]
  have e1 : decide ((s.size : Int) ≤ 3000) = decide (s.size ≤ 3000) := decide_eq_decide.2 (by omega)
  have e2 : decide ((signs.length : Int) ≤ 400) = decide (signs.length ≤ 400) := decide_eq_decide.2 (by omega)
  by_cases h1 : s.size ≤ 3000
  · have h1' : (s.size : Int) ≤ 3000 := by omega
    rw [decide_eq_true h1, Bool.true_and] at h
    repeat' (first | with_reducible refine And.intro ?_ ?_ | intro _ | simp only [go_sem, reduceIte, Nat.reduceEqDiff, Nat.reduceAdd, Nat.reduceSub, Nat.reduceLT, Nat.reduceLeDiff, reduceCtorEq, Int.reduceToNat, Int.reduceLE, Int.reduceLT, Int.reduceEq, Int.reduceNeg, Int.reduceAdd, Int.reduceSub, Nat.reduceMul, h1', e2] | simp (disch := omega) only [wrap64] | omega)
    exact Fin.same h
  · have h1' : ¬ (s.size : Int) ≤ 3000 := by omega
    rw [decide_eq_false h1, Bool.false_and] at h
    repeat' (first | with_reducible refine And.intro ?_ ?_ | intro _ | simp only [go_sem, reduceIte, Nat.reduceEqDiff, Nat.reduceAdd, Nat.reduceSub, Nat.reduceLT, Nat.reduceLeDiff, reduceCtorEq, Int.reduceToNat, Int.reduceLE, Int.reduceLT, Int.reduceEq, Int.reduceNeg, Int.reduceAdd, Int.reduceSub, Nat.reduceMul, h1'] | simp (disch := omega) only [wrap64] | omega)
    exact Fin.same h

theorem lexCuts_a {Q} (s : ByteArray) (signs : List ByteArray) (hs : s.size ≤ 4611686018427387904) (hl : signs.length ≤ 4611686018427387904) (hz : ∀ s ∈ signs, s.size ≤ 4611686018427387904) (H : Heap) (hT : Tabs H) (h : Q (.bool true) H) :
    ACalls Tryz.prog 3 [.str s, .sl 1 (strsD signs)] H Q := by
  refine acalls_of_wp [] Tryz.mixed Tryz.func3 rfl (by kernel_rfl) (of_decide_eq_true (by kernel_rfl)) (by kernel_rfl) ?_
  simp only [go_sem, reduceIte, Nat.reduceEqDiff, Nat.reduceAdd, Nat.reduceSub, Nat.reduceLT, Nat.reduceLeDiff, reduceCtorEq, Int.reduceToNat, Int.reduceLE, Int.reduceLT, Int.reduceEq, Int.reduceNeg, Int.reduceAdd, Int.reduceSub, Nat.reduceMul, Tryz.results3]
  refine few_a s signs hs hl _ ?_
  cases hf : (decide (s.size ≤ 3000) && decide (signs.length ≤ 400)) with
  | false =>
    simp only [go_sem, reduceIte, Nat.reduceEqDiff, Nat.reduceAdd, Nat.reduceSub, Nat.reduceLT, Nat.reduceLeDiff, reduceCtorEq, Int.reduceToNat, Int.reduceLE, Int.reduceLT, Int.reduceEq, Int.reduceNeg, Int.reduceAdd, Int.reduceSub, Nat.reduceMul]
    refine awake_a _ hT ?_
    simp only [go_sem, reduceIte, Nat.reduceEqDiff, Nat.reduceAdd, Nat.reduceSub, Nat.reduceLT, Nat.reduceLeDiff, reduceCtorEq, Int.reduceToNat, Int.reduceLE, Int.reduceLT, Int.reduceEq, Int.reduceNeg, Int.reduceAdd, Int.reduceSub, Nat.reduceMul]
    exact Fin.same h
  | true =>
    rw [Bool.and_eq_true, decide_eq_true_eq, decide_eq_true_eq] at hf
    simp only [go_sem, reduceIte, Nat.reduceEqDiff, Nat.reduceAdd, Nat.reduceSub, Nat.reduceLT, Nat.reduceLeDiff, reduceCtorEq, Int.reduceToNat, Int.reduceLE, Int.reduceLT, Int.reduceEq, Int.reduceNeg, Int.reduceAdd, Int.reduceSub, Nat.reduceMul]
    refine lex_a s signs hs hl _ ?_
    obtain ⟨ts, c, nm, ln, cl, hres, hlen⟩ := lexR_form s signs
    rw [hres]
    simp only [go_sem, reduceIte, Nat.reduceEqDiff, Nat.reduceAdd, Nat.reduceSub, Nat.reduceLT, Nat.reduceLeDiff, reduceCtorEq, Int.reduceToNat, Int.reduceLE, Int.reduceLT, Int.reduceEq, Int.reduceNeg, Int.reduceAdd, Int.reduceSub, Nat.reduceMul]
    intro b1 hb1
    refine rLex_a s signs hs hl hz _ ?_
    rw [rlex_lex s signs (.inl (by omega)), hres]
    simp only [go_sem, reduceIte, Nat.reduceEqDiff, Nat.reduceAdd, Nat.reduceSub, Nat.reduceLT, Nat.reduceLeDiff, reduceCtorEq, Int.reduceToNat, Int.reduceLE, Int.reduceLT, Int.reduceEq, Int.reduceNeg, Int.reduceAdd, Int.reduceSub, Nat.reduceMul]
    intro b2 hb2
    refine placed_a ts _ hlen ?_
    have h21 := (set_none.1 hb2).1
    simp only [go_sem, reduceIte, Nat.reduceEqDiff, Nat.reduceAdd, Nat.reduceSub, Nat.reduceLT, Nat.reduceLeDiff, reduceCtorEq, Int.reduceToNat, Int.reduceLE, Int.reduceLT, Int.reduceEq, Int.reduceNeg, Int.reduceAdd, Int.reduceSub, Nat.reduceMul, heap_ne _ (Ne.symm h21)]
    refine awake_a _ ((hT.set _ hb1).set _ hb2) ?_
    simp only [go_sem, reduceIte, Nat.reduceEqDiff, Nat.reduceAdd, Nat.reduceSub, Nat.reduceLT, Nat.reduceLeDiff, reduceCtorEq, Int.reduceToNat, Int.reduceLE, Int.reduceLT, Int.reduceEq, Int.reduceNeg, Int.reduceAdd, Int.reduceSub, Nat.reduceMul]
    exact Fin.less ((heap_le_set hb1).trans (heap_le_set hb2)) h

theorem lexDefinitions_a {Q} (s : ByteArray) (hs : s.size ≤ 4611686018427387904) (H : Heap) (hT : Tabs H) (h : Q (.bool true) H) :
    ACalls Tryz.prog 4 [.str s] H Q := by
  refine acalls_of_wp [] Tryz.mixed Tryz.func4 rfl (by kernel_rfl) (of_decide_eq_true (by kernel_rfl)) (by kernel_rfl) ?_
  simp only [go_sem, reduceIte, Nat.reduceEqDiff, Nat.reduceAdd, Nat.reduceSub, Nat.reduceLT, Nat.reduceLeDiff, reduceCtorEq, Int.reduceToNat, Int.reduceLE, Int.reduceLT, Int.reduceEq, Int.reduceNeg, Int.reduceAdd, Int.reduceSub, Nat.reduceMul, Tryz.results4]
  by_cases hbig : 3000 < s.size
  · have hd : (3000 : Int) < s.size := by omega
    simp only [go_sem, reduceIte, Nat.reduceEqDiff, Nat.reduceAdd, Nat.reduceSub, Nat.reduceLT, Nat.reduceLeDiff, reduceCtorEq, Int.reduceToNat, Int.reduceLE, Int.reduceLT, Int.reduceEq, Int.reduceNeg, Int.reduceAdd, Int.reduceSub, Nat.reduceMul, hd]
    refine awake_a _ hT ?_
    simp only [go_sem, reduceIte, Nat.reduceEqDiff, Nat.reduceAdd, Nat.reduceSub, Nat.reduceLT, Nat.reduceLeDiff, reduceCtorEq, Int.reduceToNat, Int.reduceLE, Int.reduceLT, Int.reduceEq, Int.reduceNeg, Int.reduceAdd, Int.reduceSub, Nat.reduceMul]
    exact Fin.same h
  · have hd : ¬ (3000 : Int) < s.size := by omega
    simp only [go_sem, reduceIte, Nat.reduceEqDiff, Nat.reduceAdd, Nat.reduceSub, Nat.reduceLT, Nat.reduceLeDiff, reduceCtorEq, Int.reduceToNat, Int.reduceLE, Int.reduceLT, Int.reduceEq, Int.reduceNeg, Int.reduceAdd, Int.reduceSub, Nat.reduceMul, hd]
    refine definition_a s _ hT hs ?_
    obtain ⟨ts, c, nm, ln, cl, hres, hlen⟩ := defR_form s
    rw [hres]
    simp only [go_sem, reduceIte, Nat.reduceEqDiff, Nat.reduceAdd, Nat.reduceSub, Nat.reduceLT, Nat.reduceLeDiff, reduceCtorEq, Int.reduceToNat, Int.reduceLE, Int.reduceLT, Int.reduceEq, Int.reduceNeg, Int.reduceAdd, Int.reduceSub, Nat.reduceMul]
    intro b1 hb1
    refine rDefinition_a s _ hs ?_
    rw [hres]
    simp only [go_sem, reduceIte, Nat.reduceEqDiff, Nat.reduceAdd, Nat.reduceSub, Nat.reduceLT, Nat.reduceLeDiff, reduceCtorEq, Int.reduceToNat, Int.reduceLE, Int.reduceLT, Int.reduceEq, Int.reduceNeg, Int.reduceAdd, Int.reduceSub, Nat.reduceMul]
    intro b2 hb2
    refine placed_a ts _ hlen ?_
    have h21 := (set_none.1 hb2).1
    simp only [go_sem, reduceIte, Nat.reduceEqDiff, Nat.reduceAdd, Nat.reduceSub, Nat.reduceLT, Nat.reduceLeDiff, reduceCtorEq, Int.reduceToNat, Int.reduceLE, Int.reduceLT, Int.reduceEq, Int.reduceNeg, Int.reduceAdd, Int.reduceSub, Nat.reduceMul, heap_ne _ (Ne.symm h21)]
    refine awake_a _ ((hT.set _ hb1).set _ hb2) ?_
    simp only [go_sem, reduceIte, Nat.reduceEqDiff, Nat.reduceAdd, Nat.reduceSub, Nat.reduceLT, Nat.reduceLeDiff, reduceCtorEq, Int.reduceToNat, Int.reduceLE, Int.reduceLT, Int.reduceEq, Int.reduceNeg, Int.reduceAdd, Int.reduceSub, Nat.reduceMul]
    exact Fin.less ((heap_le_set hb1).trans (heap_le_set hb2)) h
end Go.Proofs.YtlbojoghnapbfaaGreatDoor
