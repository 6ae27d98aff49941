/- Walks of the reference (voussoirref05): tokens as text; whether they are the same. -/
import Derived.Test.YtlbojoghnapbfaaDoorRefChar
import Derived.Test.YtlbojoghnapbfaaDoorLexText
set_option linter.unusedSimpArgs false
set_option linter.unusedVariables false
namespace Go.Lexs
open Go.Av
theorem dec_small (u : Nat) (h : u < 10) : Lib.decDigits u = [UInt8.ofNat (48 + u)] := by unfold Lib.decDigits; rw [dif_pos h]
theorem dec_big (u : Nat) (h : ¬ u < 10) : Lib.decDigits u = Lib.decDigits (u / 10) ++ Lib.decDigits (u % 10) := by
  rw [dec_small (u % 10) (by omega)]
  conv => lhs; unfold Lib.decDigits
  rw [dif_neg h]
theorem dec_len (u : Nat) (h : u ≤ 2147483647) : (Lib.decDigits u).length ≤ 21 := by
  have := Lib.itoa_length_le (u : Int) (by omega) (by omega)
  unfold Lib.itoa at this
  rw [if_neg (by omega)] at this
  simpa using this
theorem shown_int (t : Tk) (h : t.kind = 2) (h0 : 0 ≤ t.n) : shown t = Lib.decDigits t.n.toNat := by
  unfold shown Lib.itoa
  rw [if_pos h, if_neg (by omega)]
def joined (l : List Tk) : List UInt8 := Lib.join (l.map shown) [32]
theorem joined_snoc (l : List Tk) (k : Nat) (h : k < l.length) : joined (l.take (k + 1)) = if 0 < k then joined (l.take k) ++ [32] ++ shown l[k] else shown l[k] := by
  unfold joined
  rw [List.take_succ_eq_append_getElem h, List.map_append]
  cases l with
  | nil => simp at h
  | cons t l =>
    cases k with
    | zero => simp [Lib.join]
    | succ k =>
      rw [if_pos (by omega), List.take_succ_cons, List.map_cons, List.cons_append, Lib.join_cons, Lib.join_cons]
      simp [Lib.joinTail]
theorem joined_len (l : List Tk) (h : l.all isTok = true) : (joined l).length ≤ 211 * l.length := by
  have := join_sum l
  have := sumShown_le l h
  unfold joined
  omega
theorem all_take (l : List Tk) (k : Nat) (h : l.all isTok = true) : (l.take k).all isTok = true := by
  rw [List.all_eq_true] at h ⊢
  exact fun x hx => h x (List.mem_of_mem_take hx)
end Go.Lexs
namespace Go.Proofs.YtlbojoghnapbfaaDoor
open Go Go.Av Go.Lexs
attribute [local irreducible] ACalls at8

theorem rIsName_a {Q} (s : ByteArray) (hs : s.size ≤ 4611686018427387904) (H : Heap) (h : Q (.bool (isName (B s))) H) : ACalls Tryd.prog 37 [.str s] H Q := by
  refine acalls_of_wp [] Tryd.mixed Tryd.func37 rfl (by kernel_rfl) (of_decide_eq_true (by kernel_rfl)) (by kernel_rfl) ?_
  simp only [go_sem, reduceIte, Nat.reduceEqDiff, Nat.reduceAdd, Nat.reduceSub, Nat.reduceLT, Nat.reduceLeDiff, reduceCtorEq, Int.reduceToNat, Int.reduceLE, Int.reduceLT, Int.reduceEq, Int.reduceNeg, Int.reduceAdd, Int.reduceSub, Nat.reduceMul, Tryd.results37]
  have hl := B_len s
  refine loop_a (fun k : Nat => [(0, .str s), (5, .int .i64 s.size), (6, .int .i64 k)]) (fun _ => H) (fun k => k ≤ s.size ∧ ((B s).take k).all (ofB partI) = true ∧ (0 < k → letterI (nth (B s) 0) = true)) (fun k => s.size - k) 0 ⟨Nat.zero_le _, by simp, by simp⟩ (by (try simp only [go_sem, reduceIte, Nat.reduceEqDiff, Nat.reduceAdd, Nat.reduceSub, Nat.reduceLT, Nat.reduceLeDiff, reduceCtorEq, Int.reduceToNat, Int.reduceLE, Int.reduceLT, Int.reduceEq, Int.reduceNeg, Int.reduceAdd, Int.reduceSub, Nat.reduceMul]) <;> (try simp (disch := omega) [wrap64]) <;> (try omega)) (Heap.Le.refl _) ?_
  rintro k ⟨hk, hall, hfst⟩
  by_cases hlt : k < s.size
  · have hkd : decide ((k : Int) < s.size) = true := decide_eq_true (by omega)
    have good : partI (at8 s k) = true → ((B s).take (k + 1)).all (ofB partI) = true := fun e => by rw [at8_nat] at e; rw [all_take_succ _ _ _ (by omega), hall, e]; rfl
    have bad : partI (at8 s k) = false → Av.Fin Q (.bool false) H := fun e => Fin.same (by
      rw [at8_nat] at e
      have := all_false_of partI (B s) k (by omega) e; simpa [isName, this] using h)
    have bad0 : k = 0 → letterI (at8 s k) = false → Av.Fin Q (.bool false) H := fun e e2 => Fin.same (by
      rw [at8_nat] at e2
      subst e; simpa [isName, e2] using h)
    simp only [go_sem, reduceIte, Nat.reduceEqDiff, Nat.reduceAdd, Nat.reduceSub, Nat.reduceLT, Nat.reduceLeDiff, reduceCtorEq, Int.reduceToNat, Int.reduceLE, Int.reduceLT, Int.reduceEq, Int.reduceNeg, Int.reduceAdd, Int.reduceSub, Nat.reduceMul, hkd]
    refine ⟨⟨by omega, by omega⟩, ?_⟩
    cases h3 : letterI (at8 s k) with
    | true =>
      repeat' (first | with_reducible refine And.intro ?_ ?_ | intro _ | simp only [go_sem, reduceIte, Nat.reduceEqDiff, Nat.reduceAdd, Nat.reduceSub, Nat.reduceLT, Nat.reduceLeDiff, reduceCtorEq, Int.reduceToNat, Int.reduceLE, Int.reduceLT, Int.reduceEq, Int.reduceNeg, Int.reduceAdd, Int.reduceSub, Nat.reduceMul, h3] | simp (disch := omega) only [wrap64] | with_reducible refine rLetter_a _ _ ?_ | omega)
      exact nx_mk (k + 1) ⟨by omega, good (by simp [partI, h3]), fun _ => by by_cases h0 : k = 0; subst h0; rw [at8_nat] at h3; exact h3; exact hfst (by omega)⟩ (by omega) (by (try simp only [go_sem, reduceIte, Nat.reduceEqDiff, Nat.reduceAdd, Nat.reduceSub, Nat.reduceLT, Nat.reduceLeDiff, reduceCtorEq, Int.reduceToNat, Int.reduceLE, Int.reduceLT, Int.reduceEq, Int.reduceNeg, Int.reduceAdd, Int.reduceSub, Nat.reduceMul]) <;> (try simp (disch := omega) [wrap64]) <;> (try omega)) (Heap.Le.refl _)
    | false =>
      by_cases h0 : k = 0
      · have h0' : (k : Int) = 0 := by omega
        have h3' : letterI (at8 s 0) = false := by subst h0; exact h3
        repeat' (first | with_reducible refine And.intro ?_ ?_ | intro _ | simp only [go_sem, reduceIte, Nat.reduceEqDiff, Nat.reduceAdd, Nat.reduceSub, Nat.reduceLT, Nat.reduceLeDiff, reduceCtorEq, Int.reduceToNat, Int.reduceLE, Int.reduceLT, Int.reduceEq, Int.reduceNeg, Int.reduceAdd, Int.reduceSub, Nat.reduceMul, h3, h0', h3'] | simp (disch := omega) only [wrap64] | with_reducible refine rLetter_a _ _ ?_ | omega)
        all_goals exact bad0 h0 h3
      · have h0' : ¬ (k : Int) = 0 := by omega
        cases h4 : digitI (at8 s k) with
        | true =>
          repeat' (first | with_reducible refine And.intro ?_ ?_ | intro _ | simp only [go_sem, reduceIte, Nat.reduceEqDiff, Nat.reduceAdd, Nat.reduceSub, Nat.reduceLT, Nat.reduceLeDiff, reduceCtorEq, Int.reduceToNat, Int.reduceLE, Int.reduceLT, Int.reduceEq, Int.reduceNeg, Int.reduceAdd, Int.reduceSub, Nat.reduceMul, h3, h4, h0'] | simp (disch := omega) only [wrap64] | with_reducible refine rLetter_a _ _ ?_ | with_reducible refine rDigit_a _ _ ?_ | omega)
          exact nx_mk (k + 1) ⟨by omega, good (by simp [partI, h4]), fun _ => hfst (by omega)⟩ (by omega) (by (try simp only [go_sem, reduceIte, Nat.reduceEqDiff, Nat.reduceAdd, Nat.reduceSub, Nat.reduceLT, Nat.reduceLeDiff, reduceCtorEq, Int.reduceToNat, Int.reduceLE, Int.reduceLT, Int.reduceEq, Int.reduceNeg, Int.reduceAdd, Int.reduceSub, Nat.reduceMul]) <;> (try simp (disch := omega) [wrap64]) <;> (try omega)) (Heap.Le.refl _)
        | false =>
          repeat' (first | with_reducible refine And.intro ?_ ?_ | intro _ | simp only [go_sem, reduceIte, Nat.reduceEqDiff, Nat.reduceAdd, Nat.reduceSub, Nat.reduceLT, Nat.reduceLeDiff, reduceCtorEq, Int.reduceToNat, Int.reduceLE, Int.reduceLT, Int.reduceEq, Int.reduceNeg, Int.reduceAdd, Int.reduceSub, Nat.reduceMul, h3, h4, h0'] | simp (disch := omega) only [wrap64] | with_reducible refine rLetter_a _ _ ?_ | with_reducible refine rDigit_a _ _ ?_ | omega)
          all_goals first
            | exact nx_mk (k + 1) ⟨by omega, good (by simp [partI, *]), fun _ => hfst (by omega)⟩ (by omega) (by (try simp only [go_sem, reduceIte, Nat.reduceEqDiff, Nat.reduceAdd, Nat.reduceSub, Nat.reduceLT, Nat.reduceLeDiff, reduceCtorEq, Int.reduceToNat, Int.reduceLE, Int.reduceLT, Int.reduceEq, Int.reduceNeg, Int.reduceAdd, Int.reduceSub, Nat.reduceMul]) <;> (try simp (disch := omega) [wrap64]) <;> (try omega)) (Heap.Le.refl _)
            | exact bad (by simp [partI, h3, h4, *])
  · have hkd : decide ((k : Int) < s.size) = false := decide_eq_false (by omega)
    rw [List.take_of_length_le (by omega)] at hall
    simp only [go_sem, reduceIte, Nat.reduceEqDiff, Nat.reduceAdd, Nat.reduceSub, Nat.reduceLT, Nat.reduceLeDiff, reduceCtorEq, Int.reduceToNat, Int.reduceLE, Int.reduceLT, Int.reduceEq, Int.reduceNeg, Int.reduceAdd, Int.reduceSub, Nat.reduceMul, hkd]
    by_cases h1 : 1 ≤ s.size
    · have h1' : (1 : Int) ≤ s.size := by omega
      have hne : B s ≠ [] := fun e => by rw [e] at hl; simp at hl; omega
      have e : decide ((s.size : Int) ≤ 40) = decide (s.size ≤ 40) := decide_eq_decide.2 (by omega)
      have hf := hfst (by omega)
      repeat' (first | with_reducible refine And.intro ?_ ?_ | intro _ | simp only [go_sem, reduceIte, Nat.reduceEqDiff, Nat.reduceAdd, Nat.reduceSub, Nat.reduceLT, Nat.reduceLeDiff, reduceCtorEq, Int.reduceToNat, Int.reduceLE, Int.reduceLT, Int.reduceEq, Int.reduceNeg, Int.reduceAdd, Int.reduceSub, Nat.reduceMul, h1', e] | simp (disch := omega) only [wrap64] | omega)
      refine Fin.same ?_
      simpa [isName, hne, hl, hf, hall] using h
    · have h1' : ¬ (1 : Int) ≤ s.size := by omega
      have hnil : B s = [] := List.eq_nil_of_length_eq_zero (by omega)
      repeat' (first | with_reducible refine And.intro ?_ ?_ | intro _ | simp only [go_sem, reduceIte, Nat.reduceEqDiff, Nat.reduceAdd, Nat.reduceSub, Nat.reduceLT, Nat.reduceLeDiff, reduceCtorEq, Int.reduceToNat, Int.reduceLE, Int.reduceLT, Int.reduceEq, Int.reduceNeg, Int.reduceAdd, Int.reduceSub, Nat.reduceMul, h1'] | simp (disch := omega) only [wrap64] | omega)
      refine Fin.same ?_
      simpa [isName, hnil] using h

theorem rNumber_a : ∀ (u : Nat) {Q : D → Heap → Prop} (H : Heap), u ≤ 2147483647 → Q (.str (S (Lib.decDigits u))) H → ACalls Tryd.prog 29 [.int .i64 u] H Q := by
  intro u
  induction u using Nat.strongRecOn with
  | _ u ih =>
  intro Q H hu h
  refine acalls_of_wp [] Tryd.mixed Tryd.func29 rfl (by kernel_rfl) (of_decide_eq_true (by kernel_rfl)) (by kernel_rfl) ?_
  simp only [go_sem, reduceIte, Nat.reduceEqDiff, Nat.reduceAdd, Nat.reduceSub, Nat.reduceLT, Nat.reduceLeDiff, reduceCtorEq, Int.reduceToNat, Int.reduceLE, Int.reduceLT, Int.reduceEq, Int.reduceNeg, Int.reduceAdd, Int.reduceSub, Nat.reduceMul, Tryd.results29]
  have h1 : ¬ (u : Int) ≤ -10 := by omega
  have h2 : ¬ (u : Int) < 0 := by omega
  by_cases hs : u < 10
  · have h3 : (u : Int) < 10 := by omega
    have hw : IntKind.i64.wrap ((u : Int) + 1) = ((u + 1 : Nat) : Int) := by rw [wrap64 (by omega) (by omega)]; omega
    have e : List.drop u (48 :: List.take u [49, 50, 51, 52, 53, 54, 55, 56, 57]) = Lib.decDigits u := by
      rw [dec_small u hs]
      match u, hs with
      | 0, _ => rfl
      | 1, _ => rfl
      | 2, _ => rfl
      | 3, _ => rfl
      | 4, _ => rfl
      | 5, _ => rfl
      | 6, _ => rfl
      | 7, _ => rfl
      | 8, _ => rfl
      | 9, _ => rfl
    repeat' (first | with_reducible refine And.intro ?_ ?_ | intro _ | simp only [go_sem, reduceIte, Nat.reduceEqDiff, Nat.reduceAdd, Nat.reduceSub, Nat.reduceLT, Nat.reduceLeDiff, reduceCtorEq, Int.reduceToNat, Int.reduceLE, Int.reduceLT, Int.reduceEq, Int.reduceNeg, Int.reduceAdd, Int.reduceSub, Nat.reduceMul, h1, h2, h3, hw] | simp (disch := omega) only [wrap64] | omega)
    rw [e]
    exact Fin.same h
  · have h3 : ¬ (u : Int) < 10 := by omega
    have hw : IntKind.i64.wrap ((u : Int).tdiv 10) = ((u / 10 : Nat) : Int) := by rw [Int.tdiv_eq_ediv_of_nonneg (by omega), wrap64 (by omega) (by omega)]; omega
    have hm : (u : Int).tmod 10 = ((u % 10 : Nat) : Int) := by rw [Int.tmod_eq_emod_of_nonneg (by omega)]; omega
    have l1 := dec_len (u / 10) (by omega)
    have l2 := dec_len (u % 10) (by omega)
    have e : S (Lib.decDigits (u / 10)) ++ S (Lib.decDigits (u % 10)) = S (Lib.decDigits u) := B_inj (by rw [B_app, B_S, B_S, B_S, ← dec_big u hs])
    repeat' (first | with_reducible refine And.intro ?_ ?_ | intro _ | simp only [go_sem, reduceIte, Nat.reduceEqDiff, Nat.reduceAdd, Nat.reduceSub, Nat.reduceLT, Nat.reduceLeDiff, reduceCtorEq, Int.reduceToNat, Int.reduceLE, Int.reduceLT, Int.reduceEq, Int.reduceNeg, Int.reduceAdd, Int.reduceSub, Nat.reduceMul, h1, h2, h3, hw, hm, e] | simp (disch := omega) only [wrap64] | with_reducible refine ih (u / 10) (by omega) _ (by omega) ?_ | with_reducible refine ih (u % 10) (by omega) _ (by omega) ?_ | omega)
    exact Fin.same h

theorem rWord_a {Q} (t : Tk) (H : Heap) (hn : t.kind = 2 → 0 ≤ t.n ∧ t.n ≤ 2147483647) (hl : t.text.length ≤ 4611686018427387904) (h : Q (.str (S (shown t))) H) :
    ACalls Tryd.prog 15 [.agg [.int .i64 t.kind, .str (S t.text), .int .i64 t.n, .int .i64 t.line, .int .i64 t.col]] H Q := by
  refine acalls_of_wp [] Tryd.mixed Tryd.func15 rfl (by kernel_rfl) (of_decide_eq_true (by kernel_rfl)) (by kernel_rfl) ?_
  simp only [go_sem, reduceIte, Nat.reduceEqDiff, Nat.reduceAdd, Nat.reduceSub, Nat.reduceLT, Nat.reduceLeDiff, reduceCtorEq, Int.reduceToNat, Int.reduceLE, Int.reduceLT, Int.reduceEq, Int.reduceNeg, Int.reduceAdd, Int.reduceSub, Nat.reduceMul, Tryd.results15]
  intro b hb
  by_cases h2 : t.kind = 2
  · have hn2 := hn h2
    have hu : (t.n.toNat : Int) = t.n := by omega
    have hs := shown_int t h2 hn2.1
    simp only [go_sem, reduceIte, Nat.reduceEqDiff, Nat.reduceAdd, Nat.reduceSub, Nat.reduceLT, Nat.reduceLeDiff, reduceCtorEq, Int.reduceToNat, Int.reduceLE, Int.reduceLT, Int.reduceEq, Int.reduceNeg, Int.reduceAdd, Int.reduceSub, Nat.reduceMul, h2]
    rw [← hu]
    refine rNumber_a t.n.toNat _ (by omega) ?_
    simp only [go_sem, reduceIte, Nat.reduceEqDiff, Nat.reduceAdd, Nat.reduceSub, Nat.reduceLT, Nat.reduceLeDiff, reduceCtorEq, Int.reduceToNat, Int.reduceLE, Int.reduceLT, Int.reduceEq, Int.reduceNeg, Int.reduceAdd, Int.reduceSub, Nat.reduceMul]
    rw [hs] at h
    exact Fin.less (heap_le_set hb) h
  · by_cases h3 : t.kind = 3
    · repeat' (first | with_reducible refine And.intro ?_ ?_ | intro _ | simp only [go_sem, reduceIte, Nat.reduceEqDiff, Nat.reduceAdd, Nat.reduceSub, Nat.reduceLT, Nat.reduceLeDiff, reduceCtorEq, Int.reduceToNat, Int.reduceLE, Int.reduceLT, Int.reduceEq, Int.reduceNeg, Int.reduceAdd, Int.reduceSub, Nat.reduceMul, h2, h3] | simp (disch := omega) only [wrap64] | omega)
      simp only [shown, h3, if_true] at h
      refine Fin.less (heap_le_set hb) ?_
      have e : ((⟨#[34]⟩ : ByteArray) ++ S t.text ++ ⟨#[34]⟩) = S ([34] ++ t.text ++ [34]) := B_inj (by simp only [B_app, B_S, B_lit])
      rw [e]
      exact h
    · repeat' (first | with_reducible refine And.intro ?_ ?_ | intro _ | simp only [go_sem, reduceIte, Nat.reduceEqDiff, Nat.reduceAdd, Nat.reduceSub, Nat.reduceLT, Nat.reduceLeDiff, reduceCtorEq, Int.reduceToNat, Int.reduceLE, Int.reduceLT, Int.reduceEq, Int.reduceNeg, Int.reduceAdd, Int.reduceSub, Nat.reduceMul, h2, h3] | simp (disch := omega) only [wrap64] | omega)
      simp only [shown, h2, h3, if_false] at h
      exact Fin.less (heap_le_set hb) h

theorem rTok_a {Q} (t : Tk) (H : Heap) (hl : t.text.length ≤ 4611686018427387904) (h : Q (.bool (isTok t)) H) :
    ACalls Tryd.prog 21 [.agg [.int .i64 t.kind, .str (S t.text), .int .i64 t.n, .int .i64 t.line, .int .i64 t.col]] H Q := by
  refine acalls_of_wp [] Tryd.mixed Tryd.func21 rfl (by kernel_rfl) (of_decide_eq_true (by kernel_rfl)) (by kernel_rfl) ?_
  simp only [go_sem, reduceIte, Nat.reduceEqDiff, Nat.reduceAdd, Nat.reduceSub, Nat.reduceLT, Nat.reduceLeDiff, reduceCtorEq, Int.reduceToNat, Int.reduceLE, Int.reduceLT, Int.reduceEq, Int.reduceNeg, Int.reduceAdd, Int.reduceSub, Nat.reduceMul, Tryd.results21]
  intro b hb
  have hsz : (S t.text).size ≤ 4611686018427387904 := by rw [S_size]; exact hl
  unfold isTok at h
  by_cases h1 : t.kind = 1
  · repeat' (first | with_reducible refine And.intro ?_ ?_ | intro _ | simp only [go_sem, reduceIte, Nat.reduceEqDiff, Nat.reduceAdd, Nat.reduceSub, Nat.reduceLT, Nat.reduceLeDiff, reduceCtorEq, Int.reduceToNat, Int.reduceLE, Int.reduceLT, Int.reduceEq, Int.reduceNeg, Int.reduceAdd, Int.reduceSub, Nat.reduceMul, h1] | simp (disch := omega) only [wrap64] | with_reducible refine rIsName_a _ hsz _ ?_ | omega)
    all_goals exact Fin.less (heap_le_set hb) (by simpa [h1, *] using h)
  by_cases h2 : t.kind = 2
  · repeat' (first | with_reducible refine And.intro ?_ ?_ | intro _ | simp only [go_sem, reduceIte, Nat.reduceEqDiff, Nat.reduceAdd, Nat.reduceSub, Nat.reduceLT, Nat.reduceLeDiff, reduceCtorEq, Int.reduceToNat, Int.reduceLE, Int.reduceLT, Int.reduceEq, Int.reduceNeg, Int.reduceAdd, Int.reduceSub, Nat.reduceMul, h1, h2] | simp (disch := omega) only [wrap64] | omega)
    all_goals exact Fin.less (heap_le_set hb) (by simpa [h2, *] using h)
  by_cases h3 : t.kind = 3
  · repeat' (first | with_reducible refine And.intro ?_ ?_ | intro _ | simp only [go_sem, reduceIte, Nat.reduceEqDiff, Nat.reduceAdd, Nat.reduceSub, Nat.reduceLT, Nat.reduceLeDiff, reduceCtorEq, Int.reduceToNat, Int.reduceLE, Int.reduceLT, Int.reduceEq, Int.reduceNeg, Int.reduceAdd, Int.reduceSub, Nat.reduceMul, h1, h2, h3] | simp (disch := omega) only [wrap64] | with_reducible refine rIsText_a _ hsz _ ?_ | omega)
    all_goals exact Fin.less (heap_le_set hb) (by simpa [h3, *] using h)
  by_cases h4 : t.kind = 4
  · repeat' (first | with_reducible refine And.intro ?_ ?_ | intro _ | simp only [go_sem, reduceIte, Nat.reduceEqDiff, Nat.reduceAdd, Nat.reduceSub, Nat.reduceLT, Nat.reduceLeDiff, reduceCtorEq, Int.reduceToNat, Int.reduceLE, Int.reduceLT, Int.reduceEq, Int.reduceNeg, Int.reduceAdd, Int.reduceSub, Nat.reduceMul, h1, h2, h3, h4] | simp (disch := omega) only [wrap64] | with_reducible refine rSign_a _ hsz _ ?_ | omega)
    all_goals exact Fin.less (heap_le_set hb) (by simpa [h4, *] using h)
  · repeat' (first | with_reducible refine And.intro ?_ ?_ | intro _ | simp only [go_sem, reduceIte, Nat.reduceEqDiff, Nat.reduceAdd, Nat.reduceSub, Nat.reduceLT, Nat.reduceLeDiff, reduceCtorEq, Int.reduceToNat, Int.reduceLE, Int.reduceLT, Int.reduceEq, Int.reduceNeg, Int.reduceAdd, Int.reduceSub, Nat.reduceMul, h1, h2, h3, h4] | simp (disch := omega) only [wrap64] | omega)
    all_goals exact Fin.less (heap_le_set hb) (by simpa [h1, h2, h3, h4, *] using h)

theorem isTok_int (t : Tk) (h : isTok t = true) : t.kind = 2 → 0 ≤ t.n ∧ t.n ≤ 2147483647 := by
  intro h2
  unfold isTok at h
  rw [if_neg (by omega), if_pos h2] at h
  simp only [Bool.and_eq_true, decide_eq_true_eq] at h
  omega

theorem rJoined_a {Q} (l : List Tk) (H : Heap) (hl : l.length ≤ 1000000) (hf : ∀ t ∈ l, TkFit t) (hall : l.all isTok = true) (h : Q (.str (S (joined l))) H) : ACalls Tryd.prog 22 [.sl 5 (tksD l)] H Q := by
  refine acalls_of_wp [] Tryd.mixed Tryd.func22 rfl (by kernel_rfl) (of_decide_eq_true (by kernel_rfl)) (by kernel_rfl) ?_
  simp only [go_sem, reduceIte, Nat.reduceEqDiff, Nat.reduceAdd, Nat.reduceSub, Nat.reduceLT, Nat.reduceLeDiff, reduceCtorEq, Int.reduceToNat, Int.reduceLE, Int.reduceLT, Int.reduceEq, Int.reduceNeg, Int.reduceAdd, Int.reduceSub, Nat.reduceMul, Tryd.results22]
  refine loop_a (fun k : Nat => [(3, .str (S (joined (l.take k)))), (6, .sl 5 (tksD l)), (7, .int .i64 l.length), (8, .int .i64 k)]) (fun _ => H) (fun k => k ≤ l.length) (fun k => l.length - k) 0 (Nat.zero_le _) (by simp only [go_sem, reduceIte, Nat.reduceEqDiff, Nat.reduceAdd, Nat.reduceSub, Nat.reduceLT, Nat.reduceLeDiff, reduceCtorEq, Int.reduceToNat, Int.reduceLE, Int.reduceLT, Int.reduceEq, Int.reduceNeg, Int.reduceAdd, Int.reduceSub, Nat.reduceMul]; exact ⟨rfl, rfl⟩) (Heap.Le.refl _) ?_
  intro k hk
  by_cases hlt : k < l.length
  · have hkd : decide ((k : Int) < l.length) = true := decide_eq_true (by omega)
    have hat : (tksD l).getD k [] = [.int .i64 l[k].kind, .str (S l[k].text), .int .i64 l[k].n, .int .i64 l[k].line, .int .i64 l[k].col] := tksD_at l k hlt
    have hmem := List.getElem_mem hlt
    have htok : isTok l[k] = true := List.all_eq_true.1 hall _ hmem
    have hin := isTok_int _ htok
    have hfk := (hf _ hmem).2
    have hjl := joined_len (l.take k) (all_take l k hall)
    have hsl := shown_le l[k] htok
    have hsn := joined_snoc l k hlt
    rw [List.length_take] at hjl
    by_cases h0 : 0 < k
    · have h0' : (0 : Int) < k := by omega
      rw [if_pos h0] at hsn
      have e : S (joined (l.take k)) ++ ⟨#[32]⟩ ++ S (shown l[k]) = S (joined (l.take (k + 1))) := B_inj (by rw [B_app, B_app, B_S, B_S, B_S, hsn]; rfl)
      repeat' (first | with_reducible refine And.intro ?_ ?_ | intro _ | simp only [go_sem, reduceIte, Nat.reduceEqDiff, Nat.reduceAdd, Nat.reduceSub, Nat.reduceLT, Nat.reduceLeDiff, reduceCtorEq, Int.reduceToNat, Int.reduceLE, Int.reduceLT, Int.reduceEq, Int.reduceNeg, Int.reduceAdd, Int.reduceSub, Nat.reduceMul, hkd, hat, h0', e] | simp (disch := omega) only [wrap64] | with_reducible refine rWord_a _ _ hin hfk ?_ | omega)
      exact nx_mk (k + 1) (by omega) (by omega) (by (try simp only [go_sem, reduceIte, Nat.reduceEqDiff, Nat.reduceAdd, Nat.reduceSub, Nat.reduceLT, Nat.reduceLeDiff, reduceCtorEq, Int.reduceToNat, Int.reduceLE, Int.reduceLT, Int.reduceEq, Int.reduceNeg, Int.reduceAdd, Int.reduceSub, Nat.reduceMul]) <;> (try simp (disch := omega) [wrap64]) <;> (try omega)) (heap_le_set (by assumption))
    · have h0' : ¬ (0 : Int) < k := by omega
      rw [if_neg h0] at hsn
      have hk0 : k = 0 := by omega
      have e : S (joined (l.take k)) ++ S (shown l[k]) = S (joined (l.take (k + 1))) := B_inj (by rw [B_app, B_S, B_S, B_S, hsn]; subst hk0; simp [joined, Lib.join])
      repeat' (first | with_reducible refine And.intro ?_ ?_ | intro _ | simp only [go_sem, reduceIte, Nat.reduceEqDiff, Nat.reduceAdd, Nat.reduceSub, Nat.reduceLT, Nat.reduceLeDiff, reduceCtorEq, Int.reduceToNat, Int.reduceLE, Int.reduceLT, Int.reduceEq, Int.reduceNeg, Int.reduceAdd, Int.reduceSub, Nat.reduceMul, hkd, hat, h0', e] | simp (disch := omega) only [wrap64] | with_reducible refine rWord_a _ _ hin hfk ?_ | omega)
      exact nx_mk (k + 1) (by omega) (by omega) (by (try simp only [go_sem, reduceIte, Nat.reduceEqDiff, Nat.reduceAdd, Nat.reduceSub, Nat.reduceLT, Nat.reduceLeDiff, reduceCtorEq, Int.reduceToNat, Int.reduceLE, Int.reduceLT, Int.reduceEq, Int.reduceNeg, Int.reduceAdd, Int.reduceSub, Nat.reduceMul]) <;> (try simp (disch := omega) [wrap64]) <;> (try omega)) (heap_le_set (by assumption))
  · have hkd : decide ((k : Int) < l.length) = false := decide_eq_false (by omega)
    rw [List.take_of_length_le (by omega)]
    simp only [go_sem, reduceIte, Nat.reduceEqDiff, Nat.reduceAdd, Nat.reduceSub, Nat.reduceLT, Nat.reduceLeDiff, reduceCtorEq, Int.reduceToNat, Int.reduceLE, Int.reduceLT, Int.reduceEq, Int.reduceNeg, Int.reduceAdd, Int.reduceSub, Nat.reduceMul, hkd]
    exact Fin.same h

theorem rText_a {Q} (l : List Tk) (H : Heap) (hl : l.length ≤ 1000000) (hf : ∀ t ∈ l, TkFit t) (h : Q (textR l) H) : ACalls Tryd.prog 9 [.sl 5 (tksD l)] H Q := by
  refine acalls_of_wp [] Tryd.mixed Tryd.func9 rfl (by kernel_rfl) (of_decide_eq_true (by kernel_rfl)) (by kernel_rfl) ?_
  simp only [go_sem, reduceIte, Nat.reduceEqDiff, Nat.reduceAdd, Nat.reduceSub, Nat.reduceLT, Nat.reduceLeDiff, reduceCtorEq, Int.reduceToNat, Int.reduceLE, Int.reduceLT, Int.reduceEq, Int.reduceNeg, Int.reduceAdd, Int.reduceSub, Nat.reduceMul, Tryd.results9]
  refine loop_a (fun k : Nat => [(0, .sl 5 (tksD l)), (9, .sl 5 (tksD l)), (10, .int .i64 l.length), (11, .int .i64 k)]) (fun _ => H) (fun k => k ≤ l.length ∧ (l.take k).all isTok = true) (fun k => l.length - k) 0 ⟨Nat.zero_le _, by simp⟩ (by (try simp only [go_sem, reduceIte, Nat.reduceEqDiff, Nat.reduceAdd, Nat.reduceSub, Nat.reduceLT, Nat.reduceLeDiff, reduceCtorEq, Int.reduceToNat, Int.reduceLE, Int.reduceLT, Int.reduceEq, Int.reduceNeg, Int.reduceAdd, Int.reduceSub, Nat.reduceMul]) <;> (try simp (disch := omega) [wrap64]) <;> (try omega)) (Heap.Le.refl _) ?_
  rintro k ⟨hk, hall⟩
  by_cases hlt : k < l.length
  · have hkd : decide ((k : Int) < l.length) = true := decide_eq_true (by omega)
    have hat : (tksD l).getD k [] = [.int .i64 l[k].kind, .str (S l[k].text), .int .i64 l[k].n, .int .i64 l[k].line, .int .i64 l[k].col] := tksD_at l k hlt
    have hmem := List.getElem_mem hlt
    have hfk := (hf _ hmem).2
    have htk : (l.take (k + 1)).all isTok = isTok l[k] := by rw [List.take_succ_eq_append_getElem hlt, List.all_append, hall]; simp
    cases hI : isTok l[k] with
    | false =>
      have hno : l.all isTok = false := by
        rw [List.all_eq_false]; exact ⟨l[k], hmem, by simp [hI]⟩
      simp only [textR, hno, Bool.false_eq_true, if_false] at h
      repeat' (first | with_reducible refine And.intro ?_ ?_ | intro _ | simp only [go_sem, reduceIte, Nat.reduceEqDiff, Nat.reduceAdd, Nat.reduceSub, Nat.reduceLT, Nat.reduceLeDiff, reduceCtorEq, Int.reduceToNat, Int.reduceLE, Int.reduceLT, Int.reduceEq, Int.reduceNeg, Int.reduceAdd, Int.reduceSub, Nat.reduceMul, hkd, hat, hI] | simp (disch := omega) only [wrap64] | with_reducible refine rTok_a _ _ hfk ?_ | omega)
      exact Fin.less (heap_le_set (by assumption)) h
    | true =>
      rw [hI] at htk
      repeat' (first | with_reducible refine And.intro ?_ ?_ | intro _ | simp only [go_sem, reduceIte, Nat.reduceEqDiff, Nat.reduceAdd, Nat.reduceSub, Nat.reduceLT, Nat.reduceLeDiff, reduceCtorEq, Int.reduceToNat, Int.reduceLE, Int.reduceLT, Int.reduceEq, Int.reduceNeg, Int.reduceAdd, Int.reduceSub, Nat.reduceMul, hkd, hat, hI] | simp (disch := omega) only [wrap64] | with_reducible refine rTok_a _ _ hfk ?_ | omega)
      exact nx_mk (k + 1) ⟨by omega, htk⟩ (by omega) (by (try simp only [go_sem, reduceIte, Nat.reduceEqDiff, Nat.reduceAdd, Nat.reduceSub, Nat.reduceLT, Nat.reduceLeDiff, reduceCtorEq, Int.reduceToNat, Int.reduceLE, Int.reduceLT, Int.reduceEq, Int.reduceNeg, Int.reduceAdd, Int.reduceSub, Nat.reduceMul]) <;> (try simp (disch := omega) [wrap64]) <;> (try omega)) (heap_le_set (by assumption))
  · have hke : k = l.length := by omega
    subst hke
    rw [List.take_of_length_le (Nat.le_refl _)] at hall
    have hkd : decide ((l.length : Int) < l.length) = false := decide_eq_false (by omega)
    have hw : IntKind.i64.wrap ((l.length : Int) - 1) = (l.length : Int) - 1 := wrap64 (by omega) (by omega)
    have hss := sumShown_le l hall
    unfold textR at h
    rw [if_pos hall] at h
    simp only [go_sem, reduceIte, Nat.reduceEqDiff, Nat.reduceAdd, Nat.reduceSub, Nat.reduceLT, Nat.reduceLeDiff, reduceCtorEq, Int.reduceToNat, Int.reduceLE, Int.reduceLT, Int.reduceEq, Int.reduceNeg, Int.reduceAdd, Int.reduceSub, Nat.reduceMul, hkd, hw]
    refine loop_a (fun k : Nat => [(0, .sl 5 (tksD l)), (6, .int .i64 ((l.length : Int) - 1 + (sumShown (l.take k) - k))), (22, .sl 5 (tksD l)), (23, .int .i64 l.length), (24, .int .i64 k)]) (fun _ => H) (fun k => k ≤ l.length) (fun k => l.length - k) 0 (Nat.zero_le _) (by simp only [go_sem, reduceIte, Nat.reduceEqDiff, Nat.reduceAdd, Nat.reduceSub, Nat.reduceLT, Nat.reduceLeDiff, reduceCtorEq, Int.reduceToNat, Int.reduceLE, Int.reduceLT, Int.reduceEq, Int.reduceNeg, Int.reduceAdd, Int.reduceSub, Nat.reduceMul]; simp [sumShown]) (Heap.Le.refl _) ?_
    intro k hk
    by_cases hlt : k < l.length
    · have hkd : decide ((k : Int) < l.length) = true := decide_eq_true (by omega)
      have hat : (tksD l).getD k [] = [.int .i64 l[k].kind, .str (S l[k].text), .int .i64 l[k].n, .int .i64 l[k].line, .int .i64 l[k].col] := tksD_at l k hlt
      have hmem := List.getElem_mem hlt
      have htok : isTok l[k] = true := List.all_eq_true.1 hall _ hmem
      have hin := isTok_int _ htok
      have hfk := (hf _ hmem).2
      have hsl := sumShown_le (l.take k) (all_take l k hall)
      have hsn := sumShown_snoc l k hlt
      have hsh := shown_le l[k] htok
      rw [List.length_take] at hsl
      have hw2 : IntKind.i64.wrap ((l.length : Int) - 1 + (sumShown (l.take k) - k) + (shown l[k]).length) = (l.length : Int) - 1 + (sumShown (l.take (k + 1)) - ((k + 1 : Nat) : Int)) := by rw [wrap64 (by omega) (by omega)]; omega
      repeat' (first | with_reducible refine And.intro ?_ ?_ | intro _ | simp only [go_sem, reduceIte, Nat.reduceEqDiff, Nat.reduceAdd, Nat.reduceSub, Nat.reduceLT, Nat.reduceLeDiff, reduceCtorEq, Int.reduceToNat, Int.reduceLE, Int.reduceLT, Int.reduceEq, Int.reduceNeg, Int.reduceAdd, Int.reduceSub, Nat.reduceMul, hkd, hat, hw2] | simp (disch := omega) only [wrap64] | with_reducible refine rWord_a _ _ hin hfk ?_ | omega)
      exact nx_mk (k + 1) (by omega) (by omega) (by (try simp only [go_sem, reduceIte, Nat.reduceEqDiff, Nat.reduceAdd, Nat.reduceSub, Nat.reduceLT, Nat.reduceLeDiff, reduceCtorEq, Int.reduceToNat, Int.reduceLE, Int.reduceLT, Int.reduceEq, Int.reduceNeg, Int.reduceAdd, Int.reduceSub, Nat.reduceMul]) <;> (try simp (disch := omega) [wrap64]) <;> (try omega)) (heap_le_set (by assumption))
    · have hke : k = l.length := by omega
      subst hke
      have hkd : decide ((l.length : Int) < l.length) = false := decide_eq_false (by omega)
      rw [List.take_of_length_le (Nat.le_refl _)]
      simp only [go_sem, reduceIte, Nat.reduceEqDiff, Nat.reduceAdd, Nat.reduceSub, Nat.reduceLT, Nat.reduceLeDiff, reduceCtorEq, Int.reduceToNat, Int.reduceLE, Int.reduceLT, Int.reduceEq, Int.reduceNeg, Int.reduceAdd, Int.reduceSub, Nat.reduceMul, hkd]
      refine ⟨fun hb => ?_, fun hb => ?_⟩
      · rw [if_pos (by omega)] at h
        exact Fin.same h
      · rw [if_neg (by omega)] at h
        refine rJoined_a l _ hl hf hall ?_
        simp only [go_sem, reduceIte, Nat.reduceEqDiff, Nat.reduceAdd, Nat.reduceSub, Nat.reduceLT, Nat.reduceLeDiff, reduceCtorEq, Int.reduceToNat, Int.reduceLE, Int.reduceLT, Int.reduceEq, Int.reduceNeg, Int.reduceAdd, Int.reduceSub, Nat.reduceMul]
        exact Fin.same h

theorem rSame_a {Q} (l m : List Tk) (H : Heap) (hl : l.length ≤ 1000000) (hm : m.length ≤ 1000000) (h : Q (.bool (sameT l m)) H) : ACalls Tryd.prog 11 [.sl 5 (tksD l), .sl 5 (tksD m)] H Q := by
  refine acalls_of_wp [] Tryd.mixed Tryd.func11 rfl (by kernel_rfl) (of_decide_eq_true (by kernel_rfl)) (by kernel_rfl) ?_
  simp only [go_sem, reduceIte, Nat.reduceEqDiff, Nat.reduceAdd, Nat.reduceSub, Nat.reduceLT, Nat.reduceLeDiff, reduceCtorEq, Int.reduceToNat, Int.reduceLE, Int.reduceLT, Int.reduceEq, Int.reduceNeg, Int.reduceAdd, Int.reduceSub, Nat.reduceMul, Tryd.results11]
  by_cases hne : l.length = m.length
  · have hnd : (l.length : Int) = m.length := by omega
    simp only [go_sem, reduceIte, Nat.reduceEqDiff, Nat.reduceAdd, Nat.reduceSub, Nat.reduceLT, Nat.reduceLeDiff, reduceCtorEq, Int.reduceToNat, Int.reduceLE, Int.reduceLT, Int.reduceEq, Int.reduceNeg, Int.reduceAdd, Int.reduceSub, Nat.reduceMul, hnd]
    refine loop_a (fun k : Nat => [(0, .sl 5 (tksD l)), (1, .sl 5 (tksD m)), (12, .int .i64 l.length), (13, .int .i64 k)]) (fun _ => H) (fun k => k ≤ l.length ∧ sameT (l.drop k) (m.drop k) = sameT l m) (fun k => l.length - k) 0 ⟨Nat.zero_le _, by simp⟩ (by (try simp only [go_sem, reduceIte, Nat.reduceEqDiff, Nat.reduceAdd, Nat.reduceSub, Nat.reduceLT, Nat.reduceLeDiff, reduceCtorEq, Int.reduceToNat, Int.reduceLE, Int.reduceLT, Int.reduceEq, Int.reduceNeg, Int.reduceAdd, Int.reduceSub, Nat.reduceMul, hnd]) <;> (try simp (disch := omega) [wrap64]) <;> (try omega)) (Heap.Le.refl _) ?_
    rintro k ⟨hk, ha⟩
    by_cases hlt : k < l.length
    · have hkd : decide ((k : Int) < l.length) = true := decide_eq_true (by omega)
      have hlm : k < m.length := by omega
      have hat : (tksD l).getD k [] = [.int .i64 l[k].kind, .str (S l[k].text), .int .i64 l[k].n, .int .i64 l[k].line, .int .i64 l[k].col] := tksD_at l k hlt
      have hat2 : (tksD m).getD k [] = [.int .i64 m[k].kind, .str (S m[k].text), .int .i64 m[k].n, .int .i64 m[k].line, .int .i64 m[k].col] := tksD_at m k hlm
      rw [sameT_drop l m k hlt hlm] at ha
      repeat' (first | with_reducible refine And.intro ?_ ?_ | intro _ | simp only [go_sem, reduceIte, Nat.reduceEqDiff, Nat.reduceAdd, Nat.reduceSub, Nat.reduceLT, Nat.reduceLeDiff, reduceCtorEq, Int.reduceToNat, Int.reduceLE, Int.reduceLT, Int.reduceEq, Int.reduceNeg, Int.reduceAdd, Int.reduceSub, Nat.reduceMul, hkd, hat, hat2] | simp (disch := omega) only [wrap64] | omega)
      all_goals first
        | exact nx_mk (k + 1) ⟨by omega, by simpa [alike, *] using ha⟩ (by omega) (by (try simp only [go_sem, reduceIte, Nat.reduceEqDiff, Nat.reduceAdd, Nat.reduceSub, Nat.reduceLT, Nat.reduceLeDiff, reduceCtorEq, Int.reduceToNat, Int.reduceLE, Int.reduceLT, Int.reduceEq, Int.reduceNeg, Int.reduceAdd, Int.reduceSub, Nat.reduceMul]) <;> (try simp (disch := omega) [wrap64]) <;> (try omega)) (Heap.Le.refl _)
        | exact Fin.same (by simpa [alike, *] using (ha ▸ h : Q (.bool (alike l[k] m[k] && sameT (l.drop (k + 1)) (m.drop (k + 1)))) H))
    · have hkd : decide ((k : Int) < l.length) = false := decide_eq_false (by omega)
      rw [List.drop_eq_nil_of_le (by omega), List.drop_eq_nil_of_le (by omega)] at ha
      rw [← ha] at h
      simp only [go_sem, reduceIte, Nat.reduceEqDiff, Nat.reduceAdd, Nat.reduceSub, Nat.reduceLT, Nat.reduceLeDiff, reduceCtorEq, Int.reduceToNat, Int.reduceLE, Int.reduceLT, Int.reduceEq, Int.reduceNeg, Int.reduceAdd, Int.reduceSub, Nat.reduceMul, hkd]
      exact Fin.same h
  · have hnd : ¬ (l.length : Int) = m.length := by omega
    simp only [go_sem, reduceIte, Nat.reduceEqDiff, Nat.reduceAdd, Nat.reduceSub, Nat.reduceLT, Nat.reduceLeDiff, reduceCtorEq, Int.reduceToNat, Int.reduceLE, Int.reduceLT, Int.reduceEq, Int.reduceNeg, Int.reduceAdd, Int.reduceSub, Nat.reduceMul, hnd]
    rw [sameT_len l m hne] at h
    exact Fin.same h
end Go.Proofs.YtlbojoghnapbfaaDoor
