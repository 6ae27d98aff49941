/- What a lexer hands back, in general; the law's 'few'. -/
import Derived.Test.YtlbojoghnapbfaaDoorLawAwake
set_option linter.unusedSimpArgs false
set_option linter.unusedVariables false
namespace Go.Lexs
open Go.Av
def tkOf (l : List UInt8) (x : Tok × Nat) : Tk := ⟨x.1.kind, x.1.text, x.1.n, (place l x.2).1, (place l x.2).2⟩
theorem cutN_len (signs : List (List UInt8)) (l : List UInt8) : ∀ (f i : Nat) (acc ts : List (Tok × Nat)), cutN signs l f i acc = .ok ts → ts.length ≤ acc.length + f
  | 0, i, acc, ts, h => by
    rw [cutN] at h; cases h; omega
  | f + 1, i, acc, ts, h => by
    rw [cutN] at h
    split at h
    · split at h
      · cases h
      · have := cutN_len signs l f _ _ ts h
        rw [List.length_append, List.length_cons, List.length_nil] at this
        omega
    · cases h; omega
theorem cut_len {signs : List (List UInt8)} {l : List UInt8} {ts : List (Tok × Nat)} (h : cut signs l = .ok ts) : ts.length ≤ l.length + 1 := by
  have := cutN_len signs l _ _ _ ts h
  simpa using this
end Go.Lexs
namespace Go.Proofs.YtlbojoghnapbfaaDoor
open Go Go.Av Go.Lexs
attribute [local irreducible] ACalls at8

theorem toks_tk (l : List UInt8) (ts : List (Tok × Nat)) : ts.map (tokD l) = tksD (ts.map (tkOf l)) := by
  unfold tksD
  rw [List.map_map]
  rfl

/-- What a lexer hands back: tokens and a fault. -/
def LexForm (d : D) : Prop := ∃ (ts : List Tk) (c : Int) (nm : List UInt8) (ln cl : Int), d = .tuple [.sl 5 (tksD ts), .agg [.int .i64 c, .str (S nm), .int .i64 ln, .int .i64 cl]] ∧ ts.length ≤ 1000000

theorem resD_form (l : List UInt8) (hl : l.length ≤ 20000) (signs : List (List UInt8)) : LexForm (resD l (cut signs l)) := by
  cases h : cut signs l with
  | ok ts =>
    have := cut_len h
    exact ⟨ts.map (tkOf l), 0, [], 0, 0, by rw [← toks_tk]; rfl, by rw [List.length_map]; omega⟩
  | error i => exact ⟨[], 10, (l.drop i).take 1, _, _, rfl, by simp⟩

theorem lexR_form (s : ByteArray) (signs : List ByteArray) : LexForm (lexR s signs) := by
  unfold lexR
  split
  · exact ⟨[], 3, [], 0, 0, rfl, by simp⟩
  split
  · exact ⟨[], 2, [], 0, 0, rfl, by simp⟩
  · exact resD_form _ (by rw [B_len]; omega) _
theorem defR_form (s : ByteArray) : LexForm (defR s) := by
  unfold defR
  split
  · exact ⟨[], 3, [], 0, 0, rfl, by simp⟩
  · exact resD_form _ (by rw [B_len]; omega) _

theorem few_a {Q} (s : ByteArray) (signs : List ByteArray) (hs : s.size ≤ 4611686018427387904) (hl : signs.length ≤ 4611686018427387904) (H : Heap) (h : Q (.bool (decide (s.size ≤ 3000) && decide (signs.length ≤ 400))) H) :
    ACalls Tryd.prog 14 [.str s, .sl 1 (strsD signs)] H Q := by
  refine acalls_of_wp [] Tryd.mixed Tryd.func14 rfl (by kernel_rfl) (of_decide_eq_true (by kernel_rfl)) (by kernel_rfl) ?_
  simp only [go_sem, reduceIte, Nat.reduceEqDiff, Nat.reduceAdd, Nat.reduceSub, Nat.reduceLT, Nat.reduceLeDiff, reduceCtorEq, Int.reduceToNat, Int.reduceLE, Int.reduceLT, Int.reduceEq, Int.reduceNeg, Int.reduceAdd, Int.reduceSub, Nat.reduceMul, Tryd.results14]
  have e1 : decide ((s.size : Int) ≤ 3000) = decide (s.size ≤ 3000) := decide_eq_decide.2 (by omega)
  have e2 : decide ((signs.length : Int) ≤ 400) = decide (signs.length ≤ 400) := decide_eq_decide.2 (by omega)
  by_cases h1 : s.size ≤ 3000
  · have h1' : (s.size : Int) ≤ 3000 := by omega
    rw [decide_eq_true h1, Bool.true_and] at h
    repeat' (first | with_reducible refine And.intro ?_ ?_ | intro _ | simp only [go_sem, reduceIte, Nat.reduceEqDiff, Nat.reduceAdd, Nat.reduceSub, Nat.reduceLT, Nat.reduceLeDiff, reduceCtorEq, Int.reduceToNat, Int.reduceLE, Int.reduceLT, Int.reduceEq, Int.reduceNeg, Int.reduceAdd, Int.reduceSub, Nat.reduceMul, h1', e2] | simp (disch := omega) only [wrap64] | omega)
    exact Fin.same h
  · have h1' : ¬ (s.size : Int) ≤ 3000 := by omega
    rw [decide_eq_false h1, Bool.false_and] at h
    repeat' (first | with_reducible refine And.intro ?_ ?_ | intro _ | simp only [go_sem, reduceIte, Nat.reduceEqDiff, Nat.reduceAdd, Nat.reduceSub, Nat.reduceLT, Nat.reduceLeDiff, reduceCtorEq, Int.reduceToNat, Int.reduceLE, Int.reduceLT, Int.reduceEq, Int.reduceNeg, Int.reduceAdd, Int.reduceSub, Nat.reduceMul, h1'] | simp (disch := omega) only [wrap64] | omega)
    exact Fin.same h

end Go.Proofs.YtlbojoghnapbfaaDoor
