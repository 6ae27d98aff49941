/- Walks of the reference's lexer (voussoirref05): Lex, Definition, Placed. -/
import Derived.Test.YtlbojoghnapbfaaGreatDoorLexText
set_option linter.unusedSimpArgs false
set_option linter.unusedVariables false
namespace Go.Proofs.YtlbojoghnapbfaaGreatDoor
open Go Go.Av Go.Lexs
attribute [local irreducible] ACalls at8

theorem rSign_a {Q} (s : ByteArray) (hs : s.size ≤ 4611686018427387904) (H : Heap) (h : Q (.bool (isSign (B s))) H) : ACalls Tryz.prog 34 [.str s] H Q := by
  refine acalls_of_wp [] Tryz.mixed Tryz.func34 rfl (by kernel_rfl) (of_decide_eq_true (by kernel_rfl)) (by kernel_rfl) ?_
  simp only [go_sem, reduceIte, Nat.reduceEqDiff, Nat.reduceAdd, Nat.reduceSub, Nat.reduceLT, Nat.reduceLeDiff, reduceCtorEq, Int.reduceToNat, Int.reduceLE, Int.reduceLT, Int.reduceEq, Int.reduceNeg, Int.reduceAdd, Int.reduceSub, Nat.reduceMul, Tryz.results34]
  have hl := B_len s
  refine loop_a (fun k : Nat => [(0, .str s), (6, .int .i64 s.size), (7, .int .i64 k)]) (fun _ => H) (fun k => k ≤ s.size ∧ ((B s).take k).all (ofB signI) = true) (fun k => s.size - k) 0 ⟨Nat.zero_le _, by simp⟩ (by (try simp only [go_sem, reduceIte, Nat.reduceEqDiff, Nat.reduceAdd, Nat.reduceSub, Nat.reduceLT, Nat.reduceLeDiff, reduceCtorEq, Int.reduceToNat, Int.reduceLE, Int.reduceLT, Int.reduceEq, Int.reduceNeg, Int.reduceAdd, Int.reduceSub, Nat.reduceMul]) <;> (try simp (disch := omega) [wrap64]) <;> (try omega)) (Heap.Le.refl _) ?_
  rintro k ⟨hk, hall⟩
  by_cases hlt : k < s.size
  · have hkd : decide ((k : Int) < s.size) = true := decide_eq_true (by omega)
    have hr := nth_range (B s) k
    have fin : ∀ b, b = signI (nth (B s) k) → (b = false → Av.Fin Q (.bool false) H) ∧ (b = true → ((B s).take (k + 1)).all (ofB signI) = true) := fun b hb => ⟨fun hf => by
      have := all_false_of signI (B s) k (by omega) (by rw [← hb]; exact hf)
      exact Fin.same (by simpa [isSign, this] using h), fun ht => by rw [all_take_succ _ _ _ (by omega), hall, ← hb, ht]; rfl⟩
    have hfin := fin _ rfl
    simp only [go_sem, reduceIte, Nat.reduceEqDiff, Nat.reduceAdd, Nat.reduceSub, Nat.reduceLT, Nat.reduceLeDiff, reduceCtorEq, Int.reduceToNat, Int.reduceLE, Int.reduceLT, Int.reduceEq, Int.reduceNeg, Int.reduceAdd, Int.reduceSub, Nat.reduceMul, hkd, at8_nat]
    refine ⟨⟨by omega, by omega⟩, ?_⟩
    by_cases h1 : nth (B s) k < 33
    · have hn := hfin.1 (signI_no fun hh => by omega)
      repeat' (first | with_reducible refine And.intro ?_ ?_ | intro _ | simp only [go_sem, reduceIte, Nat.reduceEqDiff, Nat.reduceAdd, Nat.reduceSub, Nat.reduceLT, Nat.reduceLeDiff, reduceCtorEq, Int.reduceToNat, Int.reduceLE, Int.reduceLT, Int.reduceEq, Int.reduceNeg, Int.reduceAdd, Int.reduceSub, Nat.reduceMul, h1] | simp (disch := omega) only [wrap64] | omega)
      all_goals exact hn
    by_cases h2 : 126 < nth (B s) k
    · have hn := hfin.1 (signI_no fun hh => by omega)
      repeat' (first | with_reducible refine And.intro ?_ ?_ | intro _ | simp only [go_sem, reduceIte, Nat.reduceEqDiff, Nat.reduceAdd, Nat.reduceSub, Nat.reduceLT, Nat.reduceLeDiff, reduceCtorEq, Int.reduceToNat, Int.reduceLE, Int.reduceLT, Int.reduceEq, Int.reduceNeg, Int.reduceAdd, Int.reduceSub, Nat.reduceMul, h1, h2] | simp (disch := omega) only [wrap64] | omega)
      all_goals exact hn
    cases h3 : letterI (nth (B s) k) with
    | true =>
      have hn := hfin.1 (signI_no fun hh => by have := hh.2.2.1; simp [partI, h3] at this)
      repeat' (first | with_reducible refine And.intro ?_ ?_ | intro _ | simp only [go_sem, reduceIte, Nat.reduceEqDiff, Nat.reduceAdd, Nat.reduceSub, Nat.reduceLT, Nat.reduceLeDiff, reduceCtorEq, Int.reduceToNat, Int.reduceLE, Int.reduceLT, Int.reduceEq, Int.reduceNeg, Int.reduceAdd, Int.reduceSub, Nat.reduceMul, h1, h2, h3] | simp (disch := omega) only [wrap64] | with_reducible refine rLetter_a _ _ ?_ | omega)
      all_goals exact hn
    | false =>
    cases h4 : digitI (nth (B s) k) with
    | true =>
      have hn := hfin.1 (signI_no fun hh => by have := hh.2.2.1; simp [partI, h4] at this)
      repeat' (first | with_reducible refine And.intro ?_ ?_ | intro _ | simp only [go_sem, reduceIte, Nat.reduceEqDiff, Nat.reduceAdd, Nat.reduceSub, Nat.reduceLT, Nat.reduceLeDiff, reduceCtorEq, Int.reduceToNat, Int.reduceLE, Int.reduceLT, Int.reduceEq, Int.reduceNeg, Int.reduceAdd, Int.reduceSub, Nat.reduceMul, h1, h2, h3, h4] | simp (disch := omega) only [wrap64] | with_reducible refine rLetter_a _ _ ?_ | with_reducible refine rDigit_a _ _ ?_ | omega)
      all_goals exact hn
    | false =>
    repeat' (first | with_reducible refine And.intro ?_ ?_ | intro _ | simp only [go_sem, reduceIte, Nat.reduceEqDiff, Nat.reduceAdd, Nat.reduceSub, Nat.reduceLT, Nat.reduceLeDiff, reduceCtorEq, Int.reduceToNat, Int.reduceLE, Int.reduceLT, Int.reduceEq, Int.reduceNeg, Int.reduceAdd, Int.reduceSub, Nat.reduceMul, h1, h2, h3, h4] | simp (disch := omega) only [wrap64] | with_reducible refine rLetter_a _ _ ?_ | with_reducible refine rDigit_a _ _ ?_ | omega)
    all_goals first
      | exact hfin.1 (signI_no fun hh => by first | omega | (have := hh.2.2.1; simp [partI] at this; omega))
      | exact nx_mk (k + 1) ⟨by omega, hfin.2 ((signI_iff _).2 ⟨by omega, by omega, by simp [partI, h3, h4]; omega, by omega, by omega, by omega⟩)⟩ (by omega) (by (try simp only [go_sem, reduceIte, Nat.reduceEqDiff, Nat.reduceAdd, Nat.reduceSub, Nat.reduceLT, Nat.reduceLeDiff, reduceCtorEq, Int.reduceToNat, Int.reduceLE, Int.reduceLT, Int.reduceEq, Int.reduceNeg, Int.reduceAdd, Int.reduceSub, Nat.reduceMul]) <;> (try simp (disch := omega) [wrap64]) <;> (try omega)) (Heap.Le.refl _)
  · have hkd : decide ((k : Int) < s.size) = false := decide_eq_false (by omega)
    rw [List.take_of_length_le (by omega)] at hall
    simp only [go_sem, reduceIte, Nat.reduceEqDiff, Nat.reduceAdd, Nat.reduceSub, Nat.reduceLT, Nat.reduceLeDiff, reduceCtorEq, Int.reduceToNat, Int.reduceLE, Int.reduceLT, Int.reduceEq, Int.reduceNeg, Int.reduceAdd, Int.reduceSub, Nat.reduceMul, hkd]
    have hz : decide (B s ≠ []) = decide (1 ≤ s.size) := decide_eq_decide.2 ⟨fun e => by have := List.length_pos_iff.2 e; omega, fun e e2 => by rw [e2] at hl; simp at hl; omega⟩
    simp only [isSign, hall, Bool.and_true, hl, hz] at h
    repeat' (first | with_reducible refine And.intro ?_ ?_ | intro _ | simp only [go_sem, reduceIte, Nat.reduceEqDiff, Nat.reduceAdd, Nat.reduceSub, Nat.reduceLT, Nat.reduceLeDiff, reduceCtorEq, Int.reduceToNat, Int.reduceLE, Int.reduceLT, Int.reduceEq, Int.reduceNeg, Int.reduceAdd, Int.reduceSub, Nat.reduceMul] | simp (disch := omega) only [wrap64] | omega)
    · rw [decide_eq_true (by omega : 1 ≤ s.size), Bool.true_and] at h
      have e : decide ((s.size : Int) ≤ 20) = decide (s.size ≤ 20) := decide_eq_decide.2 (by omega)
      rw [e]; exact Fin.same h
    · rw [decide_eq_false (by omega : ¬ 1 ≤ s.size), Bool.false_and] at h
      exact Fin.same h

theorem rSigns_a {Q} (signs : List ByteArray) (hl : signs.length ≤ 4611686018427387904) (hz : ∀ s ∈ signs, s.size ≤ 4611686018427387904) (H : Heap) (h : Q (.bool (signs.all (fun x => isSign (B x)) && decide (signs.length ≤ 5000))) H) : ACalls Tryz.prog 19 [.sl 1 (strsD signs)] H Q := by
  refine acalls_of_wp [] Tryz.mixed Tryz.func19 rfl (by kernel_rfl) (of_decide_eq_true (by kernel_rfl)) (by kernel_rfl) ?_
  simp only [go_sem, reduceIte, Nat.reduceEqDiff, Nat.reduceAdd, Nat.reduceSub, Nat.reduceLT, Nat.reduceLeDiff, reduceCtorEq, Int.reduceToNat, Int.reduceLE, Int.reduceLT, Int.reduceEq, Int.reduceNeg, Int.reduceAdd, Int.reduceSub, Nat.reduceMul, Tryz.results19]
  refine loop_a (fun k : Nat => [(0, .sl 1 (strsD signs)), (5, .sl 1 (strsD signs)), (6, .int .i64 signs.length), (7, .int .i64 k)]) (fun _ => H) (fun k => k ≤ signs.length ∧ (signs.take k).all (fun x => isSign (B x)) = true) (fun k => signs.length - k) 0 ⟨Nat.zero_le _, by simp⟩ (by (try simp only [go_sem, reduceIte, Nat.reduceEqDiff, Nat.reduceAdd, Nat.reduceSub, Nat.reduceLT, Nat.reduceLeDiff, reduceCtorEq, Int.reduceToNat, Int.reduceLE, Int.reduceLT, Int.reduceEq, Int.reduceNeg, Int.reduceAdd, Int.reduceSub, Nat.reduceMul]) <;> (try simp (disch := omega) [wrap64]) <;> (try omega)) (Heap.Le.refl _) ?_
  rintro k ⟨hk, hall⟩
  by_cases hlt : k < signs.length
  · have hkd : decide ((k : Int) < signs.length) = true := decide_eq_true (by omega)
    have hat := strsD_at signs k hlt
    have hstep : (signs.take (k + 1)).all (fun x => isSign (B x)) = isSign (B signs[k]) := by rw [List.take_succ_eq_append_getElem hlt, List.all_append, hall]; simp
    simp only [go_sem, reduceIte, Nat.reduceEqDiff, Nat.reduceAdd, Nat.reduceSub, Nat.reduceLT, Nat.reduceLeDiff, reduceCtorEq, Int.reduceToNat, Int.reduceLE, Int.reduceLT, Int.reduceEq, Int.reduceNeg, Int.reduceAdd, Int.reduceSub, Nat.reduceMul, hkd, hat]
    refine ⟨⟨by omega, by omega⟩, ?_⟩
    refine rSign_a _ (hz _ (List.getElem_mem hlt)) _ ?_
    cases hc : isSign (B signs[k]) with
    | true =>
      rw [hc] at hstep
      simp only [go_sem, reduceIte, Nat.reduceEqDiff, Nat.reduceAdd, Nat.reduceSub, Nat.reduceLT, Nat.reduceLeDiff, reduceCtorEq, Int.reduceToNat, Int.reduceLE, Int.reduceLT, Int.reduceEq, Int.reduceNeg, Int.reduceAdd, Int.reduceSub, Nat.reduceMul]
      exact nx_mk (k + 1) ⟨by omega, hstep⟩ (by omega) (by (try simp only [go_sem, reduceIte, Nat.reduceEqDiff, Nat.reduceAdd, Nat.reduceSub, Nat.reduceLT, Nat.reduceLeDiff, reduceCtorEq, Int.reduceToNat, Int.reduceLE, Int.reduceLT, Int.reduceEq, Int.reduceNeg, Int.reduceAdd, Int.reduceSub, Nat.reduceMul]) <;> (try simp (disch := omega) [wrap64]) <;> (try omega)) (Heap.Le.refl _)
    | false =>
      have hno : signs.all (fun x => isSign (B x)) = false := by rw [List.all_eq_false]; exact ⟨signs[k], List.getElem_mem hlt, by simp [hc]⟩
      rw [hno, Bool.false_and] at h
      simp only [go_sem, reduceIte, Nat.reduceEqDiff, Nat.reduceAdd, Nat.reduceSub, Nat.reduceLT, Nat.reduceLeDiff, reduceCtorEq, Int.reduceToNat, Int.reduceLE, Int.reduceLT, Int.reduceEq, Int.reduceNeg, Int.reduceAdd, Int.reduceSub, Nat.reduceMul]
      exact Fin.same h
  · have hkd : decide ((k : Int) < signs.length) = false := decide_eq_false (by omega)
    have hke : k = signs.length := by omega
    subst hke
    rw [List.take_of_length_le (Nat.le_refl _)] at hall
    rw [hall, Bool.true_and] at h
    have e : decide ((signs.length : Int) ≤ 5000) = decide (signs.length ≤ 5000) := decide_eq_decide.2 (by omega)
    simp only [go_sem, reduceIte, Nat.reduceEqDiff, Nat.reduceAdd, Nat.reduceSub, Nat.reduceLT, Nat.reduceLeDiff, reduceCtorEq, Int.reduceToNat, Int.reduceLE, Int.reduceLT, Int.reduceEq, Int.reduceNeg, Int.reduceAdd, Int.reduceSub, Nat.reduceMul, hkd]
    rw [e]
    exact Fin.same h

/-- What the reference's Lex hands back. -/
def rlexR (s : ByteArray) (signs : List ByteArray) : D :=
  if (signs.all (fun x => isSign (B x)) && decide (signs.length ≤ 5000)) = true then (if 20000 < s.size then .tuple [.sl 5 [], faultD 3 [] 0 0] else resD (B s) (cut (signs.map B) (B s)))
  else .tuple [.sl 5 [], faultD 2 [] 0 0]

theorem rLex_a {Q} (s : ByteArray) (signs : List ByteArray) (hs : s.size ≤ 4611686018427387904) (hl : signs.length ≤ 4611686018427387904) (hz : ∀ s ∈ signs, s.size ≤ 4611686018427387904) (H : Heap) (h : Q (rlexR s signs) H) : ACalls Tryz.prog 9 [.str s, .sl 1 (strsD signs)] H Q := by
  refine acalls_of_wp [] Tryz.mixed Tryz.func9 rfl (by kernel_rfl) (of_decide_eq_true (by kernel_rfl)) (by kernel_rfl) ?_
  simp only [go_sem, reduceIte, Nat.reduceEqDiff, Nat.reduceAdd, Nat.reduceSub, Nat.reduceLT, Nat.reduceLeDiff, reduceCtorEq, Int.reduceToNat, Int.reduceLE, Int.reduceLT, Int.reduceEq, Int.reduceNeg, Int.reduceAdd, Int.reduceSub, Nat.reduceMul, Tryz.results9]
  intro b1 hb1
  refine rSigns_a signs hl hz _ ?_
  unfold rlexR at h
  cases hc : (signs.all (fun x => isSign (B x)) && decide (signs.length ≤ 5000)) with
  | false =>
    rw [hc, if_neg (by simp)] at h
    simp only [go_sem, reduceIte, Nat.reduceEqDiff, Nat.reduceAdd, Nat.reduceSub, Nat.reduceLT, Nat.reduceLeDiff, reduceCtorEq, Int.reduceToNat, Int.reduceLE, Int.reduceLT, Int.reduceEq, Int.reduceNeg, Int.reduceAdd, Int.reduceSub, Nat.reduceMul]
    exact Fin.nilsl 5 _ (Fin.less (heap_le_set hb1) h)
  | true =>
    have hlen : signs.length ≤ 5000 := by rw [Bool.and_eq_true, decide_eq_true_eq] at hc; exact hc.2
    rw [hc, if_pos rfl] at h
    simp only [go_sem, reduceIte, Nat.reduceEqDiff, Nat.reduceAdd, Nat.reduceSub, Nat.reduceLT, Nat.reduceLeDiff, reduceCtorEq, Int.reduceToNat, Int.reduceLE, Int.reduceLT, Int.reduceEq, Int.reduceNeg, Int.reduceAdd, Int.reduceSub, Nat.reduceMul]
    refine rcut_a s signs _ hs (by omega) ?_
    by_cases hbig : 20000 < s.size
    · rw [if_pos hbig] at h ⊢
      simp only [go_sem, reduceIte, Nat.reduceEqDiff, Nat.reduceAdd, Nat.reduceSub, Nat.reduceLT, Nat.reduceLeDiff, reduceCtorEq, Int.reduceToNat, Int.reduceLE, Int.reduceLT, Int.reduceEq, Int.reduceNeg, Int.reduceAdd, Int.reduceSub, Nat.reduceMul, faultD]
      exact Fin.less (heap_le_set hb1) h
    · rw [if_neg hbig] at h ⊢
      cases hcut : cut (signs.map B) (B s) with
      | ok ts =>
        rw [hcut] at h
        simp only [go_sem, reduceIte, Nat.reduceEqDiff, Nat.reduceAdd, Nat.reduceSub, Nat.reduceLT, Nat.reduceLeDiff, reduceCtorEq, Int.reduceToNat, Int.reduceLE, Int.reduceLT, Int.reduceEq, Int.reduceNeg, Int.reduceAdd, Int.reduceSub, Nat.reduceMul, resD, faultD]
        exact Fin.less (heap_le_set hb1) h
      | error i =>
        rw [hcut] at h
        simp only [go_sem, reduceIte, Nat.reduceEqDiff, Nat.reduceAdd, Nat.reduceSub, Nat.reduceLT, Nat.reduceLeDiff, reduceCtorEq, Int.reduceToNat, Int.reduceLE, Int.reduceLT, Int.reduceEq, Int.reduceNeg, Int.reduceAdd, Int.reduceSub, Nat.reduceMul, resD, faultD]
        exact Fin.less (heap_le_set hb1) h

theorem definitions_a {Q} (H : Heap) (h : ∀ b, H b = none → Q (.vec b 1 0 18) (H.set b (.vec 1 (strsD defB)))) : ACalls Tryz.prog 22 [] H Q := by
  refine acalls_of_wp [] Tryz.mixed Tryz.func22 rfl (by kernel_rfl) (of_decide_eq_true (by kernel_rfl)) (by kernel_rfl) ?_
  simp only [go_sem, reduceIte, Nat.reduceEqDiff, Nat.reduceAdd, Nat.reduceSub, Nat.reduceLT, Nat.reduceLeDiff, reduceCtorEq, Int.reduceToNat, Int.reduceLE, Int.reduceLT, Int.reduceEq, Int.reduceNeg, Int.reduceAdd, Int.reduceSub, Nat.reduceMul, Tryz.results22]
  intro b hb
  exact Fin.same (h b hb)

theorem rDefinition_a {Q} (s : ByteArray) (H : Heap) (hs : s.size ≤ 4611686018427387904) (h : Q (defR s) H) : ACalls Tryz.prog 12 [.str s] H Q := by
  refine acalls_of_wp [] Tryz.mixed Tryz.func12 rfl (by kernel_rfl) (of_decide_eq_true (by kernel_rfl)) (by kernel_rfl) ?_
  simp only [go_sem, reduceIte, Nat.reduceEqDiff, Nat.reduceAdd, Nat.reduceSub, Nat.reduceLT, Nat.reduceLeDiff, reduceCtorEq, Int.reduceToNat, Int.reduceLE, Int.reduceLT, Int.reduceEq, Int.reduceNeg, Int.reduceAdd, Int.reduceSub, Nat.reduceMul, Tryz.results12]
  intro b1 hb1
  refine definitions_a _ fun b2 hb2 => ?_
  simp only [go_sem, reduceIte, Nat.reduceEqDiff, Nat.reduceAdd, Nat.reduceSub, Nat.reduceLT, Nat.reduceLeDiff, reduceCtorEq, Int.reduceToNat, Int.reduceLE, Int.reduceLT, Int.reduceEq, Int.reduceNeg, Int.reduceAdd, Int.reduceSub, Nat.reduceMul]
  intro b3 hb3
  simp only [set_none] at hb2 hb3
  obtain ⟨h21, h2⟩ := hb2
  obtain ⟨h32, h31, h3⟩ := hb3
  have hsz : 18 ≤ (strsD defB).length := by decide
  have htk : (strsD defB).take 18 = strsD defB := rfl
  simp only [go_sem, reduceIte, Nat.reduceEqDiff, Nat.reduceAdd, Nat.reduceSub, Nat.reduceLT, Nat.reduceLeDiff, reduceCtorEq, Int.reduceToNat, Int.reduceLE, Int.reduceLT, Int.reduceEq, Int.reduceNeg, Int.reduceAdd, Int.reduceSub, Nat.reduceMul, heap_ne _ (Ne.symm h32), htk]
  refine ⟨by decide, fun b4 hb4 => ?_⟩
  refine ACalls.freeze (b := b4) (sz := 1) (es := strsD (defB ++ [⟨#[39]⟩, ⟨#[95]⟩])) (args' := [.str s, .sl 1 (strsD (defB ++ [⟨#[39]⟩, ⟨#[95]⟩]))]) (by rw [heap_same]; rfl) rfl (fun i d d' hd hd' => ?_) ?_
  · match i, hd, hd' with
    | 0, hd, hd' => simp at hd hd'; subst hd; subst hd'; exact .same _
    | 1, hd, hd' => simp at hd hd'; subst hd; subst hd'; exact .all
    | i + 2, hd, hd' => simp at hd
  refine rcut_a s _ _ hs (by decide) ?_
  have hm : (defB ++ [(⟨#[39]⟩ : ByteArray), ⟨#[95]⟩]).map B = defL := rfl
  rw [hm]
  have hle : ∀ X Y Z U V : Av.Obj, H.Le ((((((((H.set b1 X).set b2 Y).set b3 Z).del b2).set b4 U).del b4).set b1 V)) := fun X Y Z U V => by
    have hb4' : H b4 = none := by
      simp only [Heap.set, Heap.del] at hb4
      grind
    exact (by simp only [Go.Av.Heap.Le, Go.Av.Heap.set, Go.Av.Heap.del] at * <;> grind)
  have h41 : b4 ≠ b1 := by simp only [Heap.set, Heap.del] at hb4; grind
  have hb1v : ∀ X Y Z U : Av.Obj, (((((H.set b1 X).set b2 Y).set b3 Z).del b2).set b4 U).del b4 b1 = some X := fun X Y Z U => by
    simp only [Heap.set, Heap.del]
    grind
  unfold defR longR at h
  by_cases hbig : 20000 < s.size
  · rw [if_pos hbig] at h ⊢
    simp only [go_sem, reduceIte, Nat.reduceEqDiff, Nat.reduceAdd, Nat.reduceSub, Nat.reduceLT, Nat.reduceLeDiff, reduceCtorEq, Int.reduceToNat, Int.reduceLE, Int.reduceLT, Int.reduceEq, Int.reduceNeg, Int.reduceAdd, Int.reduceSub, Nat.reduceMul, faultD, hb1v]
    exact Fin.less (hle _ _ _ _ _) h
  · rw [if_neg hbig] at h ⊢
    cases hcut : cut defL (B s) with
    | ok ts =>
      rw [hcut] at h
      simp only [go_sem, reduceIte, Nat.reduceEqDiff, Nat.reduceAdd, Nat.reduceSub, Nat.reduceLT, Nat.reduceLeDiff, reduceCtorEq, Int.reduceToNat, Int.reduceLE, Int.reduceLT, Int.reduceEq, Int.reduceNeg, Int.reduceAdd, Int.reduceSub, Nat.reduceMul, resD, faultD, hb1v]
      exact Fin.less (hle _ _ _ _ _) h
    | error i =>
      rw [hcut] at h
      simp only [go_sem, reduceIte, Nat.reduceEqDiff, Nat.reduceAdd, Nat.reduceSub, Nat.reduceLT, Nat.reduceLeDiff, reduceCtorEq, Int.reduceToNat, Int.reduceLE, Int.reduceLT, Int.reduceEq, Int.reduceNeg, Int.reduceAdd, Int.reduceSub, Nat.reduceMul, resD, faultD, hb1v]
      exact Fin.less (hle _ _ _ _ _) h

/-- A slice that is compared with itself. -/
theorem placed_a {Q} (l : List Tk) (H : Heap) (hl : l.length ≤ 1000000) (h : Q (.bool true) H) : ACalls Tryz.prog 10 [.sl 5 (tksD l), .sl 5 (tksD l)] H Q := by
  refine acalls_of_wp [] Tryz.mixed Tryz.func10 rfl (by kernel_rfl) (of_decide_eq_true (by kernel_rfl)) (by kernel_rfl) ?_
  simp only [go_sem, reduceIte, Nat.reduceEqDiff, Nat.reduceAdd, Nat.reduceSub, Nat.reduceLT, Nat.reduceLeDiff, reduceCtorEq, Int.reduceToNat, Int.reduceLE, Int.reduceLT, Int.reduceEq, Int.reduceNeg, Int.reduceAdd, Int.reduceSub, Nat.reduceMul, Tryz.results10]
  refine loop_a (fun k : Nat => [(0, .sl 5 (tksD l)), (1, .sl 5 (tksD l)), (12, .int .i64 l.length), (13, .int .i64 k)]) (fun _ => H) (fun k => k ≤ l.length) (fun k => l.length - k) 0 (Nat.zero_le _) (by (try simp only [go_sem, reduceIte, Nat.reduceEqDiff, Nat.reduceAdd, Nat.reduceSub, Nat.reduceLT, Nat.reduceLeDiff, reduceCtorEq, Int.reduceToNat, Int.reduceLE, Int.reduceLT, Int.reduceEq, Int.reduceNeg, Int.reduceAdd, Int.reduceSub, Nat.reduceMul]) <;> (try simp (disch := omega) [wrap64]) <;> (try omega)) (Heap.Le.refl _) ?_
  rintro k hk
  by_cases hlt : k < l.length
  · have hkd : decide ((k : Int) < l.length) = true := decide_eq_true (by omega)
    have hat : (tksD l).getD k [] = [.int .i64 l[k].kind, .str (S l[k].text), .int .i64 l[k].n, .int .i64 l[k].line, .int .i64 l[k].col] := tksD_at l k hlt
    simp only [go_sem, reduceIte, Nat.reduceEqDiff, Nat.reduceAdd, Nat.reduceSub, Nat.reduceLT, Nat.reduceLeDiff, reduceCtorEq, Int.reduceToNat, Int.reduceLE, Int.reduceLT, Int.reduceEq, Int.reduceNeg, Int.reduceAdd, Int.reduceSub, Nat.reduceMul, hkd, hat]
    refine ⟨by omega, by omega, ?_⟩
    exact nx_mk (k + 1) (by omega) (by omega) (by (try simp only [go_sem, reduceIte, Nat.reduceEqDiff, Nat.reduceAdd, Nat.reduceSub, Nat.reduceLT, Nat.reduceLeDiff, reduceCtorEq, Int.reduceToNat, Int.reduceLE, Int.reduceLT, Int.reduceEq, Int.reduceNeg, Int.reduceAdd, Int.reduceSub, Nat.reduceMul]) <;> (try simp (disch := omega) [wrap64]) <;> (try omega)) (Heap.Le.refl _)
  · have hkd : decide ((k : Int) < l.length) = false := decide_eq_false (by omega)
    simp only [go_sem, reduceIte, Nat.reduceEqDiff, Nat.reduceAdd, Nat.reduceSub, Nat.reduceLT, Nat.reduceLeDiff, reduceCtorEq, Int.reduceToNat, Int.reduceLE, Int.reduceLT, Int.reduceEq, Int.reduceNeg, Int.reduceAdd, Int.reduceSub, Nat.reduceMul, hkd]
    exact Fin.same h
end Go.Proofs.YtlbojoghnapbfaaGreatDoor
