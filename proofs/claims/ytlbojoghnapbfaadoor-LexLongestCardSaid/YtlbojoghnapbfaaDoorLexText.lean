/- Walks of the lexer (voussoir/lex): tokens as text; whether they are the same. -/
import Derived.Test.YtlbojoghnapbfaaDoorLexMain
import Derived.Test.YtlbojoghnapbfaaDoorAvOut
import Derived.Lib.ItoaLen
set_option linter.unusedSimpArgs false
set_option linter.unusedVariables false
namespace Go.Lexs
open Go.Av
/-- A token, with its place. -/
structure Tk where
  kind : Int
  text : List UInt8
  n : Int
  line : Int
  col : Int
  deriving DecidableEq
def tkC (t : Tk) : List D := [.int .i64 t.kind, .str (S t.text), .int .i64 t.n, .int .i64 t.line, .int .i64 t.col]
def tksD (l : List Tk) : List (List D) := l.map tkC
@[go_sem] theorem tksD_len (l : List Tk) : (tksD l).length = l.length := by simp [tksD]
theorem tksD_at (l : List Tk) (k : Nat) (h : k < l.length) : (tksD l).getD k [] = tkC l[k] := by simp [tksD, h]

def isTok (t : Tk) : Bool :=
  if t.kind = 1 then isName t.text && decide (t.n = 0)
  else if t.kind = 2 then decide (t.text = []) && decide (0 ≤ t.n) && decide (t.n ≤ 2147483647)
  else if t.kind = 3 then isText t.text && decide (t.n = 0)
  else if t.kind = 4 then (isSign t.text || decide (t.text = [39]) || decide (t.text = [95])) && decide (t.n = 0)
  else false
def shown (t : Tk) : List UInt8 := if t.kind = 2 then Lib.itoa t.n else if t.kind = 3 then [34] ++ t.text ++ [34] else t.text
def alike (s t : Tk) : Bool := decide (s.kind = t.kind) && decide (s.text = t.text) && decide (s.n = t.n)
def sameT : List Tk → List Tk → Bool
  | [], [] => true
  | s :: l, t :: m => alike s t && sameT l m
  | _, _ => false
theorem sameT_len : ∀ (l m : List Tk), l.length ≠ m.length → sameT l m = false
  | [], [], h => absurd rfl h
  | [], _ :: _, _ => rfl
  | _ :: _, [], _ => rfl
  | s :: l, t :: m, h => by rw [sameT, sameT_len l m (by simpa using h), Bool.and_false]
theorem sameT_drop (l m : List Tk) (k : Nat) (h1 : k < l.length) (h2 : k < m.length) : sameT (l.drop k) (m.drop k) = (alike l[k] m[k] && sameT (l.drop (k + 1)) (m.drop (k + 1))) := by
  rw [List.drop_eq_getElem_cons h1, List.drop_eq_getElem_cons h2, sameT]
theorem sameT_self : ∀ l : List Tk, sameT l l = true
  | [] => rfl
  | t :: l => by rw [sameT, sameT_self l]; simp [alike]
def sumShown (l : List Tk) : Nat := (l.map fun t => (shown t).length + 1).sum
theorem sumShown_snoc (l : List Tk) (k : Nat) (h : k < l.length) : sumShown (l.take (k + 1)) = sumShown (l.take k) + ((shown l[k]).length + 1) := by
  unfold sumShown
  rw [List.take_succ_eq_append_getElem h]
  simp only [List.map_append, List.sum_append, List.map_cons, List.map_nil, List.sum_cons, List.sum_nil, Nat.add_zero]
theorem shown_le (t : Tk) (h : isTok t = true) : (shown t).length ≤ 210 := by
  unfold isTok at h
  unfold shown
  split at h
  · rename_i h1
    simp only [isName, Bool.and_eq_true, decide_eq_true_eq] at h
    rw [if_neg (by omega), if_neg (by omega)]; omega
  split at h
  · rename_i h2
    simp only [Bool.and_eq_true, decide_eq_true_eq] at h
    rw [if_pos h2]
    have := Lib.itoa_length_le t.n (by omega) (by omega)
    omega
  split at h
  · rename_i h2 h3
    simp only [isText, Bool.and_eq_true, decide_eq_true_eq] at h
    rw [if_neg h2, if_pos h3]; simp; omega
  split at h
  · rename_i h2 h3 h4
    rw [if_neg h2, if_neg h3]
    simp only [Bool.and_eq_true, Bool.or_eq_true, decide_eq_true_eq] at h
    rcases h.1 with (h | h) | h
    · simp only [isSign, Bool.and_eq_true, decide_eq_true_eq] at h; omega
    · rw [h]; simp
    · rw [h]; simp
  · cases h
theorem sumShown_le (l : List Tk) (h : l.all isTok = true) : sumShown l ≤ 211 * l.length := by
  induction l with
  | nil => simp [sumShown]
  | cons t l ih =>
    rw [List.all_cons, Bool.and_eq_true] at h
    have h1 := shown_le t h.1
    have h2 := ih h.2
    unfold sumShown at h2 ⊢
    rw [List.map_cons, List.sum_cons, List.length_cons]
    omega
theorem join_sum (l : List Tk) : (Lib.join (l.map shown) [32]).length = sumShown l - 1 := by
  unfold Lib.join
  induction l with
  | nil => simp [sumShown]
  | cons t l ih =>
    cases l with
    | nil => simp [sumShown]
    | cons u l =>
      have e : sumShown (t :: u :: l) = (shown t).length + 1 + sumShown (u :: l) := by simp [sumShown]
      have e2 : sumShown (u :: l) = (shown u).length + 1 + sumShown l := by simp [sumShown]
      rw [List.map_cons, List.map_cons, List.intercalate_cons_cons, List.length_append, List.length_append, ← List.map_cons, ih, e]
      simp
      omega
end Go.Lexs
namespace Go.Proofs.YtlbojoghnapbfaaDoor
open Go Go.Av Go.Lexs
attribute [local irreducible] ACalls at8

theorem shown_a {Q} (t : Tk) (H : Heap) (hT : Tabs H) (hn : -9223372036854775808 ≤ t.n ∧ t.n ≤ 9223372036854775807) (hl : t.text.length ≤ 4611686018427387904) (h : Q (.str (S (shown t))) H) : ACalls Tryd.prog 19 [.agg [.int .i64 t.kind, .str (S t.text), .int .i64 t.n, .int .i64 t.line, .int .i64 t.col]] H Q := by
  refine acalls_of_wp [] Tryd.mixed Tryd.func19 rfl (by kernel_rfl) (of_decide_eq_true (by kernel_rfl)) (by kernel_rfl) ?_
  simp only [go_sem, reduceIte, Nat.reduceEqDiff, Nat.reduceAdd, Nat.reduceSub, Nat.reduceLT, Nat.reduceLeDiff, reduceCtorEq, Int.reduceToNat, Int.reduceLE, Int.reduceLT, Int.reduceEq, Int.reduceNeg, Int.reduceAdd, Int.reduceSub, Nat.reduceMul, Tryd.results19]
  intro b hb
  by_cases h2 : t.kind = 2
  · repeat' (first | with_reducible refine And.intro ?_ ?_ | intro _ | simp only [go_sem, reduceIte, Nat.reduceEqDiff, Nat.reduceAdd, Nat.reduceSub, Nat.reduceLT, Nat.reduceLeDiff, reduceCtorEq, Int.reduceToNat, Int.reduceLE, Int.reduceLT, Int.reduceEq, Int.reduceNeg, Int.reduceAdd, Int.reduceSub, Nat.reduceMul, h2] | simp (disch := omega) only [wrap64] | with_reducible refine itoa_a _ hn.1 hn.2 _ (hT.set _ hb) ?_ | omega)
    simp only [shown, h2, if_true] at h
    exact Fin.less (heap_le_set hb) h
  · by_cases h3 : t.kind = 3
    · repeat' (first | with_reducible refine And.intro ?_ ?_ | intro _ | simp only [go_sem, reduceIte, Nat.reduceEqDiff, Nat.reduceAdd, Nat.reduceSub, Nat.reduceLT, Nat.reduceLeDiff, reduceCtorEq, Int.reduceToNat, Int.reduceLE, Int.reduceLT, Int.reduceEq, Int.reduceNeg, Int.reduceAdd, Int.reduceSub, Nat.reduceMul, h2, h3] | simp (disch := omega) only [wrap64] | omega)
      simp only [shown, h3, if_true] at h
      refine Fin.less (heap_le_set hb) ?_
      have e : ((⟨#[34]⟩ : ByteArray) ++ S t.text ++ ⟨#[34]⟩) = S ([34] ++ t.text ++ [34]) := B_inj (by simp only [B_app, B_S, B_lit])
      rw [e]
      exact h
    · repeat' (first | with_reducible refine And.intro ?_ ?_ | intro _ | simp only [go_sem, reduceIte, Nat.reduceEqDiff, Nat.reduceAdd, Nat.reduceSub, Nat.reduceLT, Nat.reduceLeDiff, reduceCtorEq, Int.reduceToNat, Int.reduceLE, Int.reduceLT, Int.reduceEq, Int.reduceNeg, Int.reduceAdd, Int.reduceSub, Nat.reduceMul, h2, h3] | simp (disch := omega) only [wrap64] | omega)
      simp only [shown, h2, h3, if_false] at h
      exact Fin.less (heap_le_set hb) h

theorem isToken_a {Q} (t : Tk) (H : Heap) (hl : t.text.length ≤ 4611686018427387904) (h : Q (.bool (isTok t)) H) : ACalls Tryd.prog 18 [.agg [.int .i64 t.kind, .str (S t.text), .int .i64 t.n, .int .i64 t.line, .int .i64 t.col]] H Q := by
  refine acalls_of_wp [] Tryd.mixed Tryd.func18 rfl (by kernel_rfl) (of_decide_eq_true (by kernel_rfl)) (by kernel_rfl) ?_
  simp only [go_sem, reduceIte, Nat.reduceEqDiff, Nat.reduceAdd, Nat.reduceSub, Nat.reduceLT, Nat.reduceLeDiff, reduceCtorEq, Int.reduceToNat, Int.reduceLE, Int.reduceLT, Int.reduceEq, Int.reduceNeg, Int.reduceAdd, Int.reduceSub, Nat.reduceMul, Tryd.results18]
  intro b hb
  have hsz : (S t.text).size ≤ 4611686018427387904 := by rw [S_size]; exact hl
  unfold isTok at h
  by_cases h1 : t.kind = 1
  · repeat' (first | with_reducible refine And.intro ?_ ?_ | intro _ | simp only [go_sem, reduceIte, Nat.reduceEqDiff, Nat.reduceAdd, Nat.reduceSub, Nat.reduceLT, Nat.reduceLeDiff, reduceCtorEq, Int.reduceToNat, Int.reduceLE, Int.reduceLT, Int.reduceEq, Int.reduceNeg, Int.reduceAdd, Int.reduceSub, Nat.reduceMul, h1] | simp (disch := omega) only [wrap64] | with_reducible refine isName_a _ _ ?_ | omega)
    all_goals exact Fin.less (heap_le_set hb) (by simpa [h1, *] using h)
  by_cases h2 : t.kind = 2
  · repeat' (first | with_reducible refine And.intro ?_ ?_ | intro _ | simp only [go_sem, reduceIte, Nat.reduceEqDiff, Nat.reduceAdd, Nat.reduceSub, Nat.reduceLT, Nat.reduceLeDiff, reduceCtorEq, Int.reduceToNat, Int.reduceLE, Int.reduceLT, Int.reduceEq, Int.reduceNeg, Int.reduceAdd, Int.reduceSub, Nat.reduceMul, h1, h2] | simp (disch := omega) only [wrap64] | omega)
    all_goals exact Fin.less (heap_le_set hb) (by simpa [h2, *] using h)
  by_cases h3 : t.kind = 3
  · repeat' (first | with_reducible refine And.intro ?_ ?_ | intro _ | simp only [go_sem, reduceIte, Nat.reduceEqDiff, Nat.reduceAdd, Nat.reduceSub, Nat.reduceLT, Nat.reduceLeDiff, reduceCtorEq, Int.reduceToNat, Int.reduceLE, Int.reduceLT, Int.reduceEq, Int.reduceNeg, Int.reduceAdd, Int.reduceSub, Nat.reduceMul, h1, h2, h3] | simp (disch := omega) only [wrap64] | with_reducible refine isString_a _ hsz _ ?_ | omega)
    all_goals exact Fin.less (heap_le_set hb) (by simpa [h3, *] using h)
  by_cases h4 : t.kind = 4
  · repeat' (first | with_reducible refine And.intro ?_ ?_ | intro _ | simp only [go_sem, reduceIte, Nat.reduceEqDiff, Nat.reduceAdd, Nat.reduceSub, Nat.reduceLT, Nat.reduceLeDiff, reduceCtorEq, Int.reduceToNat, Int.reduceLE, Int.reduceLT, Int.reduceEq, Int.reduceNeg, Int.reduceAdd, Int.reduceSub, Nat.reduceMul, h1, h2, h3, h4] | simp (disch := omega) only [wrap64] | with_reducible refine isSign_a _ _ ?_ | omega)
    all_goals exact Fin.less (heap_le_set hb) (by simpa [h4, *] using h)
  · repeat' (first | with_reducible refine And.intro ?_ ?_ | intro _ | simp only [go_sem, reduceIte, Nat.reduceEqDiff, Nat.reduceAdd, Nat.reduceSub, Nat.reduceLT, Nat.reduceLeDiff, reduceCtorEq, Int.reduceToNat, Int.reduceLE, Int.reduceLT, Int.reduceEq, Int.reduceNeg, Int.reduceAdd, Int.reduceSub, Nat.reduceMul, h1, h2, h3, h4] | simp (disch := omega) only [wrap64] | omega)
    all_goals exact Fin.less (heap_le_set hb) (by simpa [h1, h2, h3, h4, *] using h)

/-- What Text hands back. -/
def textR (l : List Tk) : D :=
  if l.all isTok then (if 20001 < sumShown l then .tuple [.str (S []), .int .i64 3] else .tuple [.str (S (Lib.join (l.map shown) [32])), .int .i64 0])
  else .tuple [.str (S []), .int .i64 2]
/-- Tokens whose parts fit. -/
def TkFit (t : Tk) : Prop := (-9223372036854775808 ≤ t.n ∧ t.n ≤ 9223372036854775807) ∧ t.text.length ≤ 4611686018427387904

theorem text_a {Q} (l : List Tk) (H : Heap) (hT : Tabs H) (hl : l.length ≤ 1000000) (hf : ∀ t ∈ l, TkFit t) (h : Q (textR l) H) : ACalls Tryd.prog 8 [.sl 5 (tksD l)] H Q := by
  refine acalls_of_wp [] Tryd.mixed Tryd.func8 rfl (by kernel_rfl) (of_decide_eq_true (by kernel_rfl)) (by kernel_rfl) ?_
  simp only [go_sem, reduceIte, Nat.reduceEqDiff, Nat.reduceAdd, Nat.reduceSub, Nat.reduceLT, Nat.reduceLeDiff, reduceCtorEq, Int.reduceToNat, Int.reduceLE, Int.reduceLT, Int.reduceEq, Int.reduceNeg, Int.reduceAdd, Int.reduceSub, Nat.reduceMul, Tryd.results8]
  refine loop_a (fun (x : Nat × Option Nat) => [(4, outG 1 x.1 x.2), (5, .int .i64 (sumShown (l.take x.1))), (8, .sl 5 (tksD l)), (9, .int .i64 l.length), (10, .int .i64 x.1)])
    (fun x => putB H 1 (strsD ((l.take x.1).map fun t => S (shown t))) x.2) (fun x => x.1 ≤ l.length ∧ (l.take x.1).all isTok = true ∧ (x.2 = none → x.1 = 0) ∧ ∀ c, x.2 = some c → H c = none) (fun x => l.length - x.1) (0, none) ⟨Nat.zero_le _, by simp, by simp, by simp⟩ (by simp only [go_sem, reduceIte, Nat.reduceEqDiff, Nat.reduceAdd, Nat.reduceSub, Nat.reduceLT, Nat.reduceLeDiff, reduceCtorEq, Int.reduceToNat, Int.reduceLE, Int.reduceLT, Int.reduceEq, Int.reduceNeg, Int.reduceAdd, Int.reduceSub, Nat.reduceMul]; simp [sumShown]) (Heap.Le.refl _) ?_
  rintro ⟨k, ob⟩ ⟨hk, hall, h0, hob⟩
  simp only at hk hall h0 hob
  have hH : ∀ X : Heap, (putB H 1 (strsD ((l.take k).map fun t => S (shown t))) ob).Le X → H.Le X := fun X h => Heap.Le.trans (by cases ob with
    | none => exact Heap.Le.refl H
    | some c => exact heap_le_set (hob c rfl)) h
  have hTp : Tabs (putB H 1 (strsD ((l.take k).map fun t => S (shown t))) ob) := by
    cases ob with
    | none => exact hT
    | some c => exact hT.set _ (hob c rfl)
  by_cases hlt : k < l.length
  · have hkd : decide ((k : Int) < l.length) = true := decide_eq_true (by omega)
    have hat : (tksD l).getD k [] = [.int .i64 l[k].kind, .str (S l[k].text), .int .i64 l[k].n, .int .i64 l[k].line, .int .i64 l[k].col] := tksD_at l k hlt
    have hfk := hf l[k] (List.getElem_mem hlt)
    have htk : (l.take (k + 1)).all isTok = isTok l[k] := by rw [List.take_succ_eq_append_getElem hlt, List.all_append, hall]; simp
    simp only [go_sem, reduceIte, Nat.reduceEqDiff, Nat.reduceAdd, Nat.reduceSub, Nat.reduceLT, Nat.reduceLeDiff, reduceCtorEq, Int.reduceToNat, Int.reduceLE, Int.reduceLT, Int.reduceEq, Int.reduceNeg, Int.reduceAdd, Int.reduceSub, Nat.reduceMul, hkd, hat]
    refine ⟨⟨by omega, by omega⟩, fun b hb => ?_⟩
    refine isToken_a _ _ hfk.2 ?_
    cases hI : isTok l[k] with
    | false =>
      simp only [go_sem, reduceIte, Nat.reduceEqDiff, Nat.reduceAdd, Nat.reduceSub, Nat.reduceLT, Nat.reduceLeDiff, reduceCtorEq, Int.reduceToNat, Int.reduceLE, Int.reduceLT, Int.reduceEq, Int.reduceNeg, Int.reduceAdd, Int.reduceSub, Nat.reduceMul]
      have hno : l.all isTok = false := by
        rw [List.all_eq_false]; exact ⟨l[k], List.getElem_mem hlt, by simp [hI]⟩
      simp only [textR, hno, Bool.false_eq_true, if_false] at h
      exact Fin.less (hH _ (heap_le_set hb)) h
    | true =>
      rw [hI] at htk
      simp only [go_sem, reduceIte, Nat.reduceEqDiff, Nat.reduceAdd, Nat.reduceSub, Nat.reduceLT, Nat.reduceLeDiff, reduceCtorEq, Int.reduceToNat, Int.reduceLE, Int.reduceLT, Int.reduceEq, Int.reduceNeg, Int.reduceAdd, Int.reduceSub, Nat.reduceMul]
      refine shown_a _ _ (hTp.set _ hb) hfk.1 hfk.2 ?_
      simp only [go_sem, reduceIte, Nat.reduceEqDiff, Nat.reduceAdd, Nat.reduceSub, Nat.reduceLT, Nat.reduceLeDiff, reduceCtorEq, Int.reduceToNat, Int.reduceLE, Int.reduceLT, Int.reduceEq, Int.reduceNeg, Int.reduceAdd, Int.reduceSub, Nat.reduceMul]
      refine shown_a _ _ (hTp.set _ hb) hfk.1 hfk.2 ?_
      simp only [go_sem, reduceIte, Nat.reduceEqDiff, Nat.reduceAdd, Nat.reduceSub, Nat.reduceLT, Nat.reduceLeDiff, reduceCtorEq, Int.reduceToNat, Int.reduceLE, Int.reduceLT, Int.reduceEq, Int.reduceNeg, Int.reduceAdd, Int.reduceSub, Nat.reduceMul]
      have hsh := shown_le _ hI
      have hsl := sumShown_le _ hall
      rw [List.length_take] at hsl
      have hsn := sumShown_snoc l k hlt
      have hw : IntKind.i64.wrap (((shown l[k]).length : Int) + 1) = ((shown l[k]).length : Int) + 1 := wrap64 (by omega) (by omega)
      have hw2 : IntKind.i64.wrap ((sumShown (l.take k) : Int) + ((shown l[k]).length + 1)) = (sumShown (l.take (k + 1)) : Int) := by rw [wrap64 (by omega) (by omega)]; omega
      intro b3 hb3
      refine apS_out (strsD ((l.take k).map fun t => S (shown t))) (by simp) (by simp [strsD]; omega) ?_ (by simp; omega) (by simp; omega) fun b' hb' => ?_
      · cases ob with
        | none => simp only [OutAt]; rw [h0 rfl]; rfl
        | some c => have := hob c rfl; simp only [OutAt, putB] at *; exact (by simp only [Go.Av.Heap.set, Go.Av.Heap.del] at * <;> grind)
      simp only [go_sem, reduceIte, Nat.reduceEqDiff, Nat.reduceAdd, Nat.reduceSub, Nat.reduceLT, Nat.reduceLeDiff, reduceCtorEq, Int.reduceToNat, Int.reduceLE, Int.reduceLT, Int.reduceEq, Int.reduceNeg, Int.reduceAdd, Int.reduceSub, Nat.reduceMul, hw, hw2]
      refine nx_mk (k + 1, some b') ⟨by simp only []; omega, htk, by simp, ?_⟩ (by simp only []; omega) (by (try simp only [go_sem, reduceIte, Nat.reduceEqDiff, Nat.reduceAdd, Nat.reduceSub, Nat.reduceLT, Nat.reduceLeDiff, reduceCtorEq, Int.reduceToNat, Int.reduceLE, Int.reduceLT, Int.reduceEq, Int.reduceNeg, Int.reduceAdd, Int.reduceSub, Nat.reduceMul]) <;> (try simp (disch := omega) [wrap64]) <;> (try omega)) ?_
      · intro c hc
        simp only [Option.some.injEq] at hc
        subst hc
        cases ob with
        | none => simp only [delB, putB, set_none] at hb'; exact hb'.2.2
        | some c => have := hob c rfl; simp only [delB, putB] at hb'; exact (by simp only [Go.Av.Heap.set, Go.Av.Heap.del] at * <;> grind)
      · have e : strsD ((l.take (k + 1)).map fun t => S (shown t)) = strsD ((l.take k).map fun t => S (shown t)) ++ [[.str (S (shown l[k]))]] := by
          rw [List.take_succ_eq_append_getElem hlt]; simp only [strsD, List.map_append, List.map_cons, List.map_nil]
        simp only [e]
        cases ob with
        | none => simp only [putB, delB] at *; exact (by simp only [Go.Av.Heap.Le, Go.Av.Heap.set, Go.Av.Heap.del] at * <;> grind)
        | some c => have := hob c rfl; simp only [putB, delB] at *; exact (by simp only [Go.Av.Heap.Le, Go.Av.Heap.set, Go.Av.Heap.del] at * <;> grind)
  · have hke : k = l.length := by omega
    have hkd : decide ((k : Int) < l.length) = false := decide_eq_false (by omega)
    have htl : l.take l.length = l := List.take_of_length_le (Nat.le_refl _)
    subst hke
    rw [htl] at hall
    have hsl := sumShown_le l hall
    have hw : IntKind.i64.wrap ((sumShown l : Int) - 1) = (sumShown l : Int) - 1 := wrap64 (by omega) (by omega)
    have hj := join_sum l
    have e1 : (List.map (fun t => S (shown t)) l).map B = l.map shown := by rw [List.map_map]; exact List.map_congr_left fun t _ => B_S _
    have e2 : B ⟨#[32]⟩ = [32] := B_lit [32]
    unfold textR at h
    rw [if_pos hall] at h
    simp only [go_sem, reduceIte, Nat.reduceEqDiff, Nat.reduceAdd, Nat.reduceSub, Nat.reduceLT, Nat.reduceLeDiff, reduceCtorEq, Int.reduceToNat, Int.reduceLE, Int.reduceLT, Int.reduceEq, Int.reduceNeg, Int.reduceAdd, Int.reduceSub, Nat.reduceMul, hkd, htl, hw]
    refine ⟨fun hb => ?_, fun hb => ?_⟩
    · rw [if_pos (by omega)] at h
      exact Fin.less (hH _ (by rw [htl]; exact Heap.Le.refl _)) h
    · rw [if_neg (by omega)] at h
      refine ACalls.out (es := strsD (l.map fun t => S (shown t))) (by simp [strsD]) (outAt_put fun e => by have := h0 e; rw [List.eq_nil_of_length_eq_zero this]; rfl) ?_
      refine join_a _ _ _ (by simp; omega) (by rw [e1, e2]; omega) ?_
      simp only [go_sem, reduceIte, Nat.reduceEqDiff, Nat.reduceAdd, Nat.reduceSub, Nat.reduceLT, Nat.reduceLeDiff, reduceCtorEq, Int.reduceToNat, Int.reduceLE, Int.reduceLT, Int.reduceEq, Int.reduceNeg, Int.reduceAdd, Int.reduceSub, Nat.reduceMul, e1, e2]
      refine Fin.less ?_ h
      cases ob with
      | none => exact Heap.Le.refl H
      | some c => have := hob c rfl; simp only [putB, delB]; exact (by simp only [Go.Av.Heap.Le, Go.Av.Heap.set, Go.Av.Heap.del] at * <;> grind)

theorem same1_a {Q} (s t : Tk) (H : Heap) (h : Q (.bool (alike s t)) H) : ACalls Tryd.prog 24 [.agg [.int .i64 s.kind, .str (S s.text), .int .i64 s.n, .int .i64 s.line, .int .i64 s.col], .agg [.int .i64 t.kind, .str (S t.text), .int .i64 t.n, .int .i64 t.line, .int .i64 t.col]] H Q := by
  refine acalls_of_wp [] Tryd.mixed Tryd.func24 rfl (by kernel_rfl) (of_decide_eq_true (by kernel_rfl)) (by kernel_rfl) ?_
  simp only [go_sem, reduceIte, Nat.reduceEqDiff, Nat.reduceAdd, Nat.reduceSub, Nat.reduceLT, Nat.reduceLeDiff, reduceCtorEq, Int.reduceToNat, Int.reduceLE, Int.reduceLT, Int.reduceEq, Int.reduceNeg, Int.reduceAdd, Int.reduceSub, Nat.reduceMul, Tryd.results24]
  intro b hb b2 hb2
  simp only [set_none] at hb2
  have hne : b ≠ b2 := Ne.symm hb2.1
  have hle : ∀ X Y, H.Le ((H.set b X).set b2 Y) := fun X Y => by have := hb2.2; exact (by simp only [Go.Av.Heap.Le, Go.Av.Heap.set, Go.Av.Heap.del] at * <;> grind)
  repeat' (first | with_reducible refine And.intro ?_ ?_ | intro _ | simp only [go_sem, reduceIte, Nat.reduceEqDiff, Nat.reduceAdd, Nat.reduceSub, Nat.reduceLT, Nat.reduceLeDiff, reduceCtorEq, Int.reduceToNat, Int.reduceLE, Int.reduceLT, Int.reduceEq, Int.reduceNeg, Int.reduceAdd, Int.reduceSub, Nat.reduceMul, heap_ne _ hne] | simp (disch := omega) only [wrap64] | omega)
  all_goals exact Fin.less (hle _ _) (by simpa [alike, *] using h)

theorem sameF_a {Q} (l m : List Tk) (H : Heap) (hl : l.length ≤ 1000000) (hm : m.length ≤ 1000000) (h : Q (.bool (sameT l m)) H) :
    ACalls Tryd.prog 23 [.sl 5 (tksD l), .sl 5 (tksD m), .fn (.func 24) [] []] H Q := by
  refine acalls_of_wp [] Tryd.mixed Tryd.func23 rfl (by kernel_rfl) (of_decide_eq_true (by kernel_rfl)) (by kernel_rfl) ?_
  simp only [go_sem, reduceIte, Nat.reduceEqDiff, Nat.reduceAdd, Nat.reduceSub, Nat.reduceLT, Nat.reduceLeDiff, reduceCtorEq, Int.reduceToNat, Int.reduceLE, Int.reduceLT, Int.reduceEq, Int.reduceNeg, Int.reduceAdd, Int.reduceSub, Nat.reduceMul, Tryd.results23]
  by_cases hne : l.length = m.length
  · have hnd : (l.length : Int) = m.length := by omega
    simp only [go_sem, reduceIte, Nat.reduceEqDiff, Nat.reduceAdd, Nat.reduceSub, Nat.reduceLT, Nat.reduceLeDiff, reduceCtorEq, Int.reduceToNat, Int.reduceLE, Int.reduceLT, Int.reduceEq, Int.reduceNeg, Int.reduceAdd, Int.reduceSub, Nat.reduceMul, hnd]
    refine loop_a (fun k : Nat => [(0, .sl 5 (tksD l)), (1, .sl 5 (tksD m)), (2, .fn (.func 24) [] []), (15, .sl 5 (tksD l)), (16, .int .i64 l.length), (17, .int .i64 k)]) (fun _ => H) (fun k => k ≤ l.length ∧ sameT (l.drop k) (m.drop k) = sameT l m) (fun k => l.length - k) 0 ⟨Nat.zero_le _, by simp⟩ (by (try simp only [go_sem, reduceIte, Nat.reduceEqDiff, Nat.reduceAdd, Nat.reduceSub, Nat.reduceLT, Nat.reduceLeDiff, reduceCtorEq, Int.reduceToNat, Int.reduceLE, Int.reduceLT, Int.reduceEq, Int.reduceNeg, Int.reduceAdd, Int.reduceSub, Nat.reduceMul]) <;> (try simp (disch := omega) [wrap64]) <;> (try omega)) (Heap.Le.refl _) ?_
    rintro k ⟨hk, ha⟩
    by_cases hlt : k < l.length
    · have hkd : decide ((k : Int) < l.length) = true := decide_eq_true (by omega)
      have hlm : k < m.length := by omega
      have hat : (tksD l).getD k [] = [.int .i64 l[k].kind, .str (S l[k].text), .int .i64 l[k].n, .int .i64 l[k].line, .int .i64 l[k].col] := tksD_at l k hlt
      have hat2 : (tksD m).getD k [] = [.int .i64 m[k].kind, .str (S m[k].text), .int .i64 m[k].n, .int .i64 m[k].line, .int .i64 m[k].col] := tksD_at m k hlm
      rw [sameT_drop l m k hlt hlm] at ha
      simp only [go_sem, reduceIte, Nat.reduceEqDiff, Nat.reduceAdd, Nat.reduceSub, Nat.reduceLT, Nat.reduceLeDiff, reduceCtorEq, Int.reduceToNat, Int.reduceLE, Int.reduceLT, Int.reduceEq, Int.reduceNeg, Int.reduceAdd, Int.reduceSub, Nat.reduceMul, hkd, hat]
      refine ⟨⟨by omega, by omega⟩, fun b hb => ?_⟩
      simp only [go_sem, reduceIte, Nat.reduceEqDiff, Nat.reduceAdd, Nat.reduceSub, Nat.reduceLT, Nat.reduceLeDiff, reduceCtorEq, Int.reduceToNat, Int.reduceLE, Int.reduceLT, Int.reduceEq, Int.reduceNeg, Int.reduceAdd, Int.reduceSub, Nat.reduceMul, hat2]
      refine ⟨⟨by omega, by omega⟩, fun b2 hb2 => ?_⟩
      simp only [set_none] at hb2
      have hne2 : b ≠ b2 := Ne.symm hb2.1
      have hle : ∀ X Y, H.Le ((H.set b X).set b2 Y) := fun X Y => by have := hb2.2; exact (by simp only [Go.Av.Heap.Le, Go.Av.Heap.set, Go.Av.Heap.del] at * <;> grind)
      simp only [go_sem, reduceIte, Nat.reduceEqDiff, Nat.reduceAdd, Nat.reduceSub, Nat.reduceLT, Nat.reduceLeDiff, reduceCtorEq, Int.reduceToNat, Int.reduceLE, Int.reduceLT, Int.reduceEq, Int.reduceNeg, Int.reduceAdd, Int.reduceSub, Nat.reduceMul, heap_ne _ hne2]
      refine same1_a _ _ _ ?_
      cases hal : alike l[k] m[k] with
      | true =>
        rw [hal, Bool.true_and] at ha
        simp only [go_sem, reduceIte, Nat.reduceEqDiff, Nat.reduceAdd, Nat.reduceSub, Nat.reduceLT, Nat.reduceLeDiff, reduceCtorEq, Int.reduceToNat, Int.reduceLE, Int.reduceLT, Int.reduceEq, Int.reduceNeg, Int.reduceAdd, Int.reduceSub, Nat.reduceMul]
        exact nx_mk (k + 1) ⟨by omega, ha⟩ (by omega) (by (try simp only [go_sem, reduceIte, Nat.reduceEqDiff, Nat.reduceAdd, Nat.reduceSub, Nat.reduceLT, Nat.reduceLeDiff, reduceCtorEq, Int.reduceToNat, Int.reduceLE, Int.reduceLT, Int.reduceEq, Int.reduceNeg, Int.reduceAdd, Int.reduceSub, Nat.reduceMul]) <;> (try simp (disch := omega) [wrap64]) <;> (try omega)) (hle _ _)
      | false =>
        rw [hal, Bool.false_and] at ha
        rw [← ha] at h
        simp only [go_sem, reduceIte, Nat.reduceEqDiff, Nat.reduceAdd, Nat.reduceSub, Nat.reduceLT, Nat.reduceLeDiff, reduceCtorEq, Int.reduceToNat, Int.reduceLE, Int.reduceLT, Int.reduceEq, Int.reduceNeg, Int.reduceAdd, Int.reduceSub, Nat.reduceMul]
        exact Fin.less (hle _ _) h
    · have hkd : decide ((k : Int) < l.length) = false := decide_eq_false (by omega)
      rw [List.drop_eq_nil_of_le (by omega), List.drop_eq_nil_of_le (by omega)] at ha
      rw [← ha] at h
      simp only [go_sem, reduceIte, Nat.reduceEqDiff, Nat.reduceAdd, Nat.reduceSub, Nat.reduceLT, Nat.reduceLeDiff, reduceCtorEq, Int.reduceToNat, Int.reduceLE, Int.reduceLT, Int.reduceEq, Int.reduceNeg, Int.reduceAdd, Int.reduceSub, Nat.reduceMul, hkd]
      exact Fin.same h
  · have hnd : ¬ (l.length : Int) = m.length := by omega
    simp only [go_sem, reduceIte, Nat.reduceEqDiff, Nat.reduceAdd, Nat.reduceSub, Nat.reduceLT, Nat.reduceLeDiff, reduceCtorEq, Int.reduceToNat, Int.reduceLE, Int.reduceLT, Int.reduceEq, Int.reduceNeg, Int.reduceAdd, Int.reduceSub, Nat.reduceMul, hnd]
    rw [sameT_len l m hne] at h
    exact Fin.same h

theorem same_a {Q} (l m : List Tk) (H : Heap) (hl : l.length ≤ 1000000) (hm : m.length ≤ 1000000) (h : Q (.bool (sameT l m)) H) : ACalls Tryd.prog 10 [.sl 5 (tksD l), .sl 5 (tksD m)] H Q := by
  refine acalls_of_wp [] Tryd.mixed Tryd.func10 rfl (by kernel_rfl) (of_decide_eq_true (by kernel_rfl)) (by kernel_rfl) ?_
  simp only [go_sem, reduceIte, Nat.reduceEqDiff, Nat.reduceAdd, Nat.reduceSub, Nat.reduceLT, Nat.reduceLeDiff, reduceCtorEq, Int.reduceToNat, Int.reduceLE, Int.reduceLT, Int.reduceEq, Int.reduceNeg, Int.reduceAdd, Int.reduceSub, Nat.reduceMul, Tryd.results10]
  refine sameF_a l m _ hl hm ?_
  simp only [go_sem, reduceIte, Nat.reduceEqDiff, Nat.reduceAdd, Nat.reduceSub, Nat.reduceLT, Nat.reduceLeDiff, reduceCtorEq, Int.reduceToNat, Int.reduceLE, Int.reduceLT, Int.reduceEq, Int.reduceNeg, Int.reduceAdd, Int.reduceSub, Nat.reduceMul]
  exact Fin.same h

/-- The signs of definitions. -/
def defB : List ByteArray := [⟨#[61, 62]⟩, ⟨#[45, 62]⟩, ⟨#[58]⟩, ⟨#[59]⟩, ⟨#[44]⟩, ⟨#[46]⟩, ⟨#[64]⟩, ⟨#[124]⟩, ⟨#[40]⟩, ⟨#[41]⟩, ⟨#[91]⟩, ⟨#[93]⟩, ⟨#[123]⟩, ⟨#[125]⟩, ⟨#[60]⟩, ⟨#[61]⟩, ⟨#[45]⟩, ⟨#[36]⟩]
def defL : List (List UInt8) := defB.map B ++ [[39], [95]]
def longR (s : ByteArray) : D := resD (B s) (cut defL (B s))
def defR (s : ByteArray) : D := if 20000 < s.size then .tuple [.sl 5 [], faultD 3 [] 0 0] else longR s

theorem long_a {Q} (s : ByteArray) (H : Heap) (hT : Tabs H) (hs : s.size ≤ 1000000) (h : Q (longR s) H) : ACalls Tryd.prog 30 [.str s] H Q := by
  refine acalls_of_wp [] Tryd.mixed Tryd.func30 rfl (by kernel_rfl) (of_decide_eq_true (by kernel_rfl)) (by kernel_rfl) ?_
  simp only [go_sem, reduceIte, Nat.reduceEqDiff, Nat.reduceAdd, Nat.reduceSub, Nat.reduceLT, Nat.reduceLeDiff, reduceCtorEq, Int.reduceToNat, Int.reduceLE, Int.reduceLT, Int.reduceEq, Int.reduceNeg, Int.reduceAdd, Int.reduceSub, Nat.reduceMul, Tryd.results30]
  intro b1 hb1
  refine fields_a _ _ (hT.set _ hb1) (by decide) (fun j b hj => (by decide +kernel : ∀ b ∈ B ⟨#[61, 62, 32, 45, 62, 32, 58, 32, 59, 32, 44, 32, 46, 32, 64, 32, 124, 32, 40, 32, 41, 32, 91, 32, 93, 32, 123, 32, 125, 32, 60, 32, 61, 32, 45, 32, 36]⟩, b.toNat < 128) b (List.mem_of_getElem? hj)) ?_
  have e : (Lib.fields (B ⟨#[61, 62, 32, 45, 62, 32, 58, 32, 59, 32, 44, 32, 46, 32, 64, 32, 124, 32, 40, 32, 41, 32, 91, 32, 93, 32, 123, 32, 125, 32, 60, 32, 61, 32, 45, 32, 36]⟩)).map S = defB := by decide +kernel
  simp only [go_sem, reduceIte, Nat.reduceEqDiff, Nat.reduceAdd, Nat.reduceSub, Nat.reduceLT, Nat.reduceLeDiff, reduceCtorEq, Int.reduceToNat, Int.reduceLE, Int.reduceLT, Int.reduceEq, Int.reduceNeg, Int.reduceAdd, Int.reduceSub, Nat.reduceMul, e]
  intro b2 hb2
  simp only [set_none] at hb2
  obtain ⟨h21, h2⟩ := hb2
  refine cut_a s defB true b2 _ (heap_same _ _) hs (by decide) ?_
  have hal : allSigns defB true = defL := by rfl
  rw [hal]
  have hle : ∀ X Y Z : Av.Obj, H.Le ((((H.set b1 X).set b2 Y).del b2).set b1 Z) := fun X Y Z => (by simp only [Go.Av.Heap.Le, Go.Av.Heap.set, Go.Av.Heap.del] at * <;> grind)
  unfold longR at h
  cases hc : cut defL (B s) with
  | ok ts =>
    rw [hc] at h
    simp only [go_sem, reduceIte, Nat.reduceEqDiff, Nat.reduceAdd, Nat.reduceSub, Nat.reduceLT, Nat.reduceLeDiff, reduceCtorEq, Int.reduceToNat, Int.reduceLE, Int.reduceLT, Int.reduceEq, Int.reduceNeg, Int.reduceAdd, Int.reduceSub, Nat.reduceMul, resD, faultD, del_ne (Ne.symm h21), heap_ne _ (Ne.symm h21)]
    exact Fin.less (hle _ _ _) h
  | error i =>
    rw [hc] at h
    simp only [go_sem, reduceIte, Nat.reduceEqDiff, Nat.reduceAdd, Nat.reduceSub, Nat.reduceLT, Nat.reduceLeDiff, reduceCtorEq, Int.reduceToNat, Int.reduceLE, Int.reduceLT, Int.reduceEq, Int.reduceNeg, Int.reduceAdd, Int.reduceSub, Nat.reduceMul, resD, faultD, del_ne (Ne.symm h21), heap_ne _ (Ne.symm h21)]
    exact Fin.less (hle _ _ _) h

theorem definition_a {Q} (s : ByteArray) (H : Heap) (hT : Tabs H) (hs : s.size ≤ 4611686018427387904) (h : Q (defR s) H) : ACalls Tryd.prog 17 [.str s] H Q := by
  refine acalls_of_wp [] Tryd.mixed Tryd.func17 rfl (by kernel_rfl) (of_decide_eq_true (by kernel_rfl)) (by kernel_rfl) ?_
  simp only [go_sem, reduceIte, Nat.reduceEqDiff, Nat.reduceAdd, Nat.reduceSub, Nat.reduceLT, Nat.reduceLeDiff, reduceCtorEq, Int.reduceToNat, Int.reduceLE, Int.reduceLT, Int.reduceEq, Int.reduceNeg, Int.reduceAdd, Int.reduceSub, Nat.reduceMul, Tryd.results17]
  intro b1 hb1
  unfold defR at h
  by_cases hbig : 20000 < s.size
  · have hd : (20000 : Int) < s.size := by omega
    rw [if_pos hbig] at h
    repeat' (first | with_reducible refine And.intro ?_ ?_ | intro _ | simp only [go_sem, reduceIte, Nat.reduceEqDiff, Nat.reduceAdd, Nat.reduceSub, Nat.reduceLT, Nat.reduceLeDiff, reduceCtorEq, Int.reduceToNat, Int.reduceLE, Int.reduceLT, Int.reduceEq, Int.reduceNeg, Int.reduceAdd, Int.reduceSub, Nat.reduceMul, hd] | simp (disch := omega) only [wrap64] | omega)
    exact Fin.nilsl 5 _ (Fin.less (heap_le_set hb1) h)
  · have hd : ¬ (20000 : Int) < s.size := by omega
    rw [if_neg hbig] at h
    simp only [go_sem, reduceIte, Nat.reduceEqDiff, Nat.reduceAdd, Nat.reduceSub, Nat.reduceLT, Nat.reduceLeDiff, reduceCtorEq, Int.reduceToNat, Int.reduceLE, Int.reduceLT, Int.reduceEq, Int.reduceNeg, Int.reduceAdd, Int.reduceSub, Nat.reduceMul, hd]
    refine long_a s _ (hT.set _ hb1) (by omega) ?_
    unfold longR at h ⊢
    cases hc : cut defL (B s) with
    | ok ts =>
      rw [hc] at h
      simp only [go_sem, reduceIte, Nat.reduceEqDiff, Nat.reduceAdd, Nat.reduceSub, Nat.reduceLT, Nat.reduceLeDiff, reduceCtorEq, Int.reduceToNat, Int.reduceLE, Int.reduceLT, Int.reduceEq, Int.reduceNeg, Int.reduceAdd, Int.reduceSub, Nat.reduceMul, resD, faultD]
      exact Fin.less (heap_le_set hb1) h
    | error i =>
      rw [hc] at h
      simp only [go_sem, reduceIte, Nat.reduceEqDiff, Nat.reduceAdd, Nat.reduceSub, Nat.reduceLT, Nat.reduceLeDiff, reduceCtorEq, Int.reduceToNat, Int.reduceLE, Int.reduceLT, Int.reduceEq, Int.reduceNeg, Int.reduceAdd, Int.reduceSub, Nat.reduceMul, resD, faultD]
      exact Fin.less (heap_le_set hb1) h
end Go.Proofs.YtlbojoghnapbfaaDoor
