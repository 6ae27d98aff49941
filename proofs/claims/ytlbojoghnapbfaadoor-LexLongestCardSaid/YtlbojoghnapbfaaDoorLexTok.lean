/- Walks of the lexer (voussoir/lex): a token. -/
import Derived.Test.YtlbojoghnapbfaaDoorLexRead
set_option linter.unusedSimpArgs false
set_option linter.unusedVariables false
namespace Go.Proofs.YtlbojoghnapbfaaDoor
open Go Go.Av Go.Lexs
attribute [local irreducible] ACalls at8

/-- What a function of a token hands back. -/
def tokR (t : Tok) (k : Nat) : D := .tuple [.agg [.int .i64 t.kind, .str (S t.text), .int .i64 t.n, .int .i64 0, .int .i64 0], .int .i64 k, .bool true]
def badR (kd : Int) (tx : ByteArray) (nn k : Int) : D := .tuple [.agg [.int .i64 kd, .str tx, .int .i64 nn, .int .i64 0, .int .i64 0], .int .i64 k, .bool false]

theorem number_a {Q} (s : ByteArray) (hs : s.size ≤ 1000000) (H : Heap)
    (h1 : decV ((B s).take (spanN digitI (B s))) ≤ 2147483647 → ¬ (spanN digitI (B s) < (B s).length ∧ partI (nth (B s) (spanN digitI (B s))) = true) → Q (tokR ⟨2, [], decV ((B s).take (spanN digitI (B s)))⟩ (spanN digitI (B s))) H)
    (h2 : ¬ (decV ((B s).take (spanN digitI (B s))) ≤ 2147483647 ∧ ¬ (spanN digitI (B s) < (B s).length ∧ partI (nth (B s) (spanN digitI (B s))) = true)) → ∀ kd tx nn k, Q (badR kd tx nn k) H) :
    ACalls Tryd.prog 57 [.str s] H Q := by
  refine acalls_of_wp [] Tryd.mixed Tryd.func57 rfl (by kernel_rfl) (of_decide_eq_true (by kernel_rfl)) (by kernel_rfl) ?_
  simp only [go_sem, reduceIte, Nat.reduceEqDiff, Nat.reduceAdd, Nat.reduceSub, Nat.reduceLT, Nat.reduceLeDiff, reduceCtorEq, Int.reduceToNat, Int.reduceLE, Int.reduceLT, Int.reduceEq, Int.reduceNeg, Int.reduceAdd, Int.reduceSub, Nat.reduceMul, Tryd.results57]
  have hl := B_len s
  have hr := spanN_le digitI (B s)
  have hall := spanN_all digitI (B s)
  intro b hb
  have hb1 := (List.dropWhile_sublist (l := (B s).take (spanN digitI (B s))) (· == (48 : UInt8))).length_le
  have hmin : ((B s).take (spanN digitI (B s))).length ≤ s.size := by rw [List.length_take]; omega
  have hd : (((B s).take (spanN digitI (B s))).dropWhile (· == (48 : UInt8))).all (ofB digitI) = true := by
    rw [List.all_eq_true] at hall ⊢
    exact fun x hx => hall x ((List.dropWhile_sublist _).mem hx)
  have fin : ∀ {X : Av.Obj}, ¬ (spanN digitI (B s) < (B s).length ∧ partI (nth (B s) (spanN digitI (B s))) = true) →
      Av.Fin Q (.tuple [.agg [.int .i64 2, .str ⟨#[]⟩, .int .i64 (decV ((B s).take (spanN digitI (B s)))), .int .i64 0, .int .i64 0], .int .i64 (spanN digitI (B s)), .bool (decide ((decV ((B s).take (spanN digitI (B s))) : Int) ≤ 2147483647))]) (H.set b X) := by
    intro X hn
    refine Fin.less (heap_le_set hb) ?_
    by_cases hv : decV ((B s).take (spanN digitI (B s))) ≤ 2147483647
    · rw [decide_eq_true (by omega)]
      exact h1 hv hn
    · rw [decide_eq_false (by omega)]
      exact h2 (fun hh => hv hh.1) _ _ _ _
  repeat' (first | with_reducible refine And.intro ?_ ?_ | intro _ | simp only [go_sem, reduceIte, Nat.reduceEqDiff, Nat.reduceAdd, Nat.reduceSub, Nat.reduceLT, Nat.reduceLeDiff, reduceCtorEq, Int.reduceToNat, Int.reduceLE, Int.reduceLT, Int.reduceEq, Int.reduceNeg, Int.reduceAdd, Int.reduceSub, Nat.reduceMul] | simp (disch := omega) only [wrap64] | with_reducible refine run_a s digitI _ (fun c H h => isDigit_a c H h) hs _ ?_ | with_reducible refine trimLeft_a _ 48 (by decide) _ ?_ | with_reducible refine isPart_a _ _ ?_ | omega)
  · rw [at8_nat] at *
    have h3 : partI (nth (B s) (spanN digitI (B s))) = true := by assumption
    exact Fin.less (heap_le_set hb) (h2 (fun hh => hh.2 ⟨by omega, h3⟩) _ _ _ _)
  · rw [at8_nat] at *
    have h3 : partI (nth (B s) (spanN digitI (B s))) = false := by assumption
    refine atoi_a _ (decV ((B s).take (spanN digitI (B s)))) (by simp only [go_sem, reduceIte, Nat.reduceEqDiff, Nat.reduceAdd, Nat.reduceSub, Nat.reduceLT, Nat.reduceLeDiff, reduceCtorEq, Int.reduceToNat, Int.reduceLE, Int.reduceLT, Int.reduceEq, Int.reduceNeg, Int.reduceAdd, Int.reduceSub, Nat.reduceMul]; omega) (by simp only [go_sem, reduceIte, Nat.reduceEqDiff, Nat.reduceAdd, Nat.reduceSub, Nat.reduceLT, Nat.reduceLeDiff, reduceCtorEq, Int.reduceToNat, Int.reduceLE, Int.reduceLT, Int.reduceEq, Int.reduceNeg, Int.reduceAdd, Int.reduceSub, Nat.reduceMul]; rw [atoi_zero _ hd, decV_trim]) _ ?_
    simp only [go_sem, reduceIte, Nat.reduceEqDiff, Nat.reduceAdd, Nat.reduceSub, Nat.reduceLT, Nat.reduceLeDiff, reduceCtorEq, Int.reduceToNat, Int.reduceLE, Int.reduceLT, Int.reduceEq, Int.reduceNeg, Int.reduceAdd, Int.reduceSub, Nat.reduceMul]
    exact fin (fun hh => by rw [h3] at hh; cases hh.2)
  · refine atoi_a _ (decV ((B s).take (spanN digitI (B s)))) (by simp only [go_sem, reduceIte, Nat.reduceEqDiff, Nat.reduceAdd, Nat.reduceSub, Nat.reduceLT, Nat.reduceLeDiff, reduceCtorEq, Int.reduceToNat, Int.reduceLE, Int.reduceLT, Int.reduceEq, Int.reduceNeg, Int.reduceAdd, Int.reduceSub, Nat.reduceMul]; omega) (by simp only [go_sem, reduceIte, Nat.reduceEqDiff, Nat.reduceAdd, Nat.reduceSub, Nat.reduceLT, Nat.reduceLeDiff, reduceCtorEq, Int.reduceToNat, Int.reduceLE, Int.reduceLT, Int.reduceEq, Int.reduceNeg, Int.reduceAdd, Int.reduceSub, Nat.reduceMul]; rw [atoi_zero _ hd, decV_trim]) _ ?_
    simp only [go_sem, reduceIte, Nat.reduceEqDiff, Nat.reduceAdd, Nat.reduceSub, Nat.reduceLT, Nat.reduceLeDiff, reduceCtorEq, Int.reduceToNat, Int.reduceLE, Int.reduceLT, Int.reduceEq, Int.reduceNeg, Int.reduceAdd, Int.reduceSub, Nat.reduceMul]
    exact fin (fun hh => by omega)
  · exact Fin.less (heap_le_set hb) (h2 (fun hh => by have := decV_big _ hall (by omega); omega) _ _ _ _)

/-- The signs, with those of definitions. -/
def allSigns (signs : List ByteArray) (op : Bool) : List (List UInt8) := signs.map B ++ if op then [[39], [95]] else []

theorem bestN_all (signs : List ByteArray) (op : Bool) (l : List UInt8) (hl : l ≠ []) : bestN (allSigns signs op) l = if op = true ∧ bestN (signs.map B) l = 0 ∧ (nth l 0 = 39 ∨ nth l 0 = 95) then 1 else bestN (signs.map B) l := by
  unfold allSigns
  cases op
  · simp
  · simp only [if_true, true_and]
    exact bestN_open _ _ hl

theorem token_a {Q} (s : ByteArray) (i : Nat) (signs : List ByteArray) (op : Bool) (b : Nat) (H : Heap) (hb : H b = some (.box (rdr s i (.sl 1 (strsD signs)) op))) (hi : i < s.size) (hs : s.size ≤ 1000000) (hsl : signs.length ≤ 1000000)
    (h1 : ∀ t k, tokN (allSigns signs op) ((B s).drop i) = some (t, k) → Q (tokR t k) H) (h2 : tokN (allSigns signs op) ((B s).drop i) = none → ∀ kd tx nn k, Q (badR kd tx nn k) H) :
    ACalls Tryd.prog 44 [.box b 0] H Q := by
  refine acalls_of_wp [] Tryd.mixed Tryd.func44 rfl (by kernel_rfl) (of_decide_eq_true (by kernel_rfl)) (by kernel_rfl) ?_
  simp only [go_sem, reduceIte, Nat.reduceEqDiff, Nat.reduceAdd, Nat.reduceSub, Nat.reduceLT, Nat.reduceLeDiff, reduceCtorEq, Int.reduceToNat, Int.reduceLE, Int.reduceLT, Int.reduceEq, Int.reduceNeg, Int.reduceAdd, Int.reduceSub, Nat.reduceMul, Tryd.results44]
  have hl := B_len s
  intro b2 hb2
  have hne : b ≠ b2 := by rintro rfl; rw [hb] at hb2; cases hb2
  have hdl : ((B s).drop i).length = s.size - i := by simp
  have hnil : (B s).drop i ≠ [] := by intro e; rw [e] at hdl; simp at hdl; omega
  generalize hrest : (B s).drop i = rest at *
  have hsz : (S rest).size ≤ 1000000 := by simp only [go_sem, reduceIte, Nat.reduceEqDiff, Nat.reduceAdd, Nat.reduceSub, Nat.reduceLT, Nat.reduceLeDiff, reduceCtorEq, Int.reduceToNat, Int.reduceLE, Int.reduceLT, Int.reduceEq, Int.reduceNeg, Int.reduceAdd, Int.reduceSub, Nat.reduceMul]; omega
  have hsz2 : ∀ k j, (S ((rest.take k).drop j)).size ≤ 4611686018427387904 := fun k j => by simp only [go_sem, reduceIte, Nat.reduceEqDiff, Nat.reduceAdd, Nat.reduceSub, Nat.reduceLT, Nat.reduceLeDiff, reduceCtorEq, Int.reduceToNat, Int.reduceLE, Int.reduceLT, Int.reduceEq, Int.reduceNeg, Int.reduceAdd, Int.reduceSub, Nat.reduceMul]; omega
  have hsp := spanN_le partI rest
  have hnm := isName_one rest hnil
  obtain ⟨ix, hix⟩ : ∃ ix, ix = Lib.indexByte (rest.drop 1) (Nat.toUInt8 34) := ⟨_, rfl⟩
  have hq : ix = if quoteN (rest.drop 1) < (rest.drop 1).length then (quoteN (rest.drop 1) : Int) else -1 := by rw [hix]; exact idx_quote _
  rw [List.length_drop] at hq
  have hib : -1 ≤ ix ∧ ix + 2 ≤ rest.length := by
    rw [hq]; split <;> omega
  have hw : IntKind.i64.wrap (ix + 2) = ix + 2 := wrap64 (by omega) (by omega)
  have hw1 : IntKind.i64.wrap (ix + 2 - 1) = ix + 2 - 1 := wrap64 (by omega) (by omega)
  repeat' (first | with_reducible refine And.intro ?_ ?_ | intro _ | simp only [go_sem, reduceIte, Nat.reduceEqDiff, Nat.reduceAdd, Nat.reduceSub, Nat.reduceLT, Nat.reduceLeDiff, reduceCtorEq, Int.reduceToNat, Int.reduceLE, Int.reduceLT, Int.reduceEq, Int.reduceNeg, Int.reduceAdd, Int.reduceSub, Nat.reduceMul, heap_ne _ hne, hb, rdr, hrest, tokR, badR, hnm, ← hix, hw, hw1] | simp (disch := omega) only [wrap64] | with_reducible refine isName_a _ _ ?_ | with_reducible refine run_a _ partI _ (fun c H h => isPart_a c H h) hsz _ ?_ | with_reducible refine isDigit_a _ _ ?_ | with_reducible refine number_a _ hsz _ ?_ ?_ | with_reducible refine indexByte_a _ _ _ ?_ | with_reducible refine isString_a _ (hsz2 _ _) _ ?_ | omega)
  · have hL : letterI (nth rest 0) = true := by assumption
    have ht : tokN (allSigns signs op) rest = if spanN partI rest ≤ 40 then some (⟨1, rest.take (spanN partI rest), 0⟩, spanN partI rest) else none := by unfold tokN; rw [if_pos hL]
    rw [ht] at h1 h2
    refine Fin.less (heap_le_set hb2) ?_
    by_cases hv : spanN partI rest ≤ 40
    · rw [decide_eq_true (by omega)]
      rw [if_pos hv] at h1
      exact h1 _ _ rfl
    · rw [decide_eq_false (by omega)]
      rw [if_neg hv] at h2
      exact h2 rfl _ _ _ _
  · have hL : letterI (nth rest 0) = false := by assumption
    have hD : digitI (nth rest 0) = true := by assumption
    simp only [B_S] at *
    refine Fin.less (heap_le_set hb2) (h1 ⟨2, [], _⟩ _ ?_)
    unfold tokN
    rw [if_neg (by simp [hL]), if_pos hD, if_pos ⟨by assumption, by assumption⟩]
  · have hL : letterI (nth rest 0) = false := by assumption
    have hD : digitI (nth rest 0) = true := by assumption
    simp only [B_S] at *
    refine Fin.less (heap_le_set hb2) (h2 ?_ _ _ _ _)
    unfold tokN
    rw [if_neg (by simp [hL]), if_pos hD, if_neg (by assumption)]
  · have hL : letterI (nth rest 0) = false := by assumption
    have hD : digitI (nth rest 0) = false := by assumption
    have hQ : nth rest 0 = 34 := by assumption
    have hc : quoteN (rest.drop 1) < rest.length - 1 := by
      by_cases hc : quoteN (rest.drop 1) < rest.length - 1
      · exact hc
      · rw [if_neg hc] at hq; omega
    rw [if_pos hc] at hq
    have hm : (if ix + 2 - 1 < 1 then 1 else ix + 2 - 1).toNat = quoteN (rest.drop 1) + 1 := by rw [if_neg (by omega)]; omega
    have hm2 : (ix + 2 - 1).toNat = quoteN (rest.drop 1) + 1 := by omega
    have hm3 : ix + 2 = ((quoteN (rest.drop 1) + 2 : Nat) : Int) := by omega
    rw [hm, hm2, hm3, List.drop_take, Nat.add_sub_cancel]
    have ht : tokN (allSigns signs op) rest = if quoteN (rest.drop 1) < (rest.drop 1).length ∧ isText ((rest.drop 1).take (quoteN (rest.drop 1))) = true then some (⟨3, (rest.drop 1).take (quoteN (rest.drop 1)), 0⟩, quoteN (rest.drop 1) + 2) else none := by
      unfold tokN; rw [if_neg (by simp [hL]), if_neg (by simp [hD]), if_pos hQ]
    rw [ht, List.length_drop] at h1 h2
    refine Fin.less (heap_le_set hb2) ?_
    cases hT : isText ((rest.drop 1).take (quoteN (rest.drop 1))) with
    | true => rw [if_pos ⟨hc, hT⟩] at h1; exact h1 _ _ rfl
    | false => rw [if_neg (by rw [hT]; simp)] at h2; exact h2 rfl _ _ _ _
  · have hL : letterI (nth rest 0) = false := by assumption
    have hD : digitI (nth rest 0) = false := by assumption
    have hQ : nth rest 0 = 34 := by assumption
    have hc : ¬ quoteN (rest.drop 1) < rest.length - 1 := fun hc => by rw [if_pos hc] at hq; omega
    refine Fin.less (heap_le_set hb2) (h2 ?_ _ _ _ _)
    unfold tokN
    rw [if_neg (by simp [hL]), if_neg (by simp [hD]), if_pos hQ, if_neg (by rw [List.length_drop]; exact fun hh => hc hh.1)]
  · have hL : letterI (nth rest 0) = false := by assumption
    have hD : digitI (nth rest 0) = false := by assumption
    have hQ : ¬ nth rest 0 = 34 := by assumption
    have ht : tokN (allSigns signs op) rest = if bestN (allSigns signs op) rest = 0 then none else some (⟨4, rest.take (bestN (allSigns signs op) rest), 0⟩, bestN (allSigns signs op) rest) := by
      unfold tokN; rw [if_neg (by simp [hL]), if_neg (by simp [hD]), if_neg hQ]
    rw [ht] at h1 h2
    have fin2 : ∀ (X : Av.Obj) (n : Nat), n = bestN (allSigns signs op) rest → Av.Fin Q (.tuple [.agg [.int .i64 4, .str (S (rest.take n)), .int .i64 0, .int .i64 0, .int .i64 0], .int .i64 n, .bool (decide (0 < (n : Int)))]) (H.set b2 X) := by
      rintro X n rfl
      refine Fin.less (heap_le_set hb2) ?_
      by_cases hz : bestN (allSigns signs op) rest = 0
      · rw [if_pos hz] at h2
        rw [decide_eq_false (by omega)]
        exact h2 rfl _ _ _ _
      · rw [if_neg hz] at h1
        rw [decide_eq_true (by omega)]
        exact h1 _ _ rfl
    have hbl := bestN_le (signs.map B) rest
    refine loop_a (fun k : Nat => [(0, .box b 0), (2, .box b2 0), (3, .int .i64 (bestN ((signs.map B).take k) rest)), (5, .str (S rest)), (6, .int .u8 (nth rest 0)), (67, .sl 1 (strsD signs)), (68, .int .i64 signs.length), (69, .int .i64 k)])
      (fun _ => H.set b2 (.box [.int .i64 0, .str ⟨#[]⟩, .int .i64 0, .int .i64 0, .int .i64 0])) (fun k => k ≤ signs.length) (fun k => signs.length - k) 0 (Nat.zero_le _) (by simp only [go_sem, reduceIte, Nat.reduceEqDiff, Nat.reduceAdd, Nat.reduceSub, Nat.reduceLT, Nat.reduceLeDiff, reduceCtorEq, Int.reduceToNat, Int.reduceLE, Int.reduceLT, Int.reduceEq, Int.reduceNeg, Int.reduceAdd, Int.reduceSub, Nat.reduceMul]; simp [bestN]) (Heap.Le.refl _) ?_
    intro k hk
    by_cases hkl : k < signs.length
    · have hat := strsD_at signs k hkl
      have hkd : decide ((k : Int) < signs.length) = true := decide_eq_true (by omega)
      have hst := bestN_step (signs.map B) rest k (by simpa using hkl)
      rw [List.getElem_map, B_len] at hst
      simp only [go_sem, reduceIte, Nat.reduceEqDiff, Nat.reduceAdd, Nat.reduceSub, Nat.reduceLT, Nat.reduceLeDiff, reduceCtorEq, Int.reduceToNat, Int.reduceLE, Int.reduceLT, Int.reduceEq, Int.reduceNeg, Int.reduceAdd, Int.reduceSub, Nat.reduceMul, hkd]
      repeat' (first | with_reducible refine And.intro ?_ ?_ | intro _ | simp only [go_sem, reduceIte, Nat.reduceEqDiff, Nat.reduceAdd, Nat.reduceSub, Nat.reduceLT, Nat.reduceLeDiff, reduceCtorEq, Int.reduceToNat, Int.reduceLE, Int.reduceLT, Int.reduceEq, Int.reduceNeg, Int.reduceAdd, Int.reduceSub, Nat.reduceMul, heap_ne _ hne, hb, rdr, hat, hkd] | simp (disch := omega) only [wrap64] | with_reducible refine hasPrefix_a _ _ _ ?_ | omega)
      · rw [if_pos ⟨by omega, by assumption⟩] at hst
        exact nx_mk (k + 1) (by omega) (by omega) (by (try simp only [go_sem, reduceIte, Nat.reduceEqDiff, Nat.reduceAdd, Nat.reduceSub, Nat.reduceLT, Nat.reduceLeDiff, reduceCtorEq, Int.reduceToNat, Int.reduceLE, Int.reduceLT, Int.reduceEq, Int.reduceNeg, Int.reduceAdd, Int.reduceSub, Nat.reduceMul, hst]) <;> (try simp (disch := omega) [wrap64]) <;> (try omega)) (Heap.Le.refl _)
      · rw [if_neg (fun hh => by have e := (by assumption : List.isPrefixOf (B signs[k]) rest = false); rw [e] at hh; cases hh.2)] at hst
        exact nx_mk (k + 1) (by omega) (by omega) (by (try simp only [go_sem, reduceIte, Nat.reduceEqDiff, Nat.reduceAdd, Nat.reduceSub, Nat.reduceLT, Nat.reduceLeDiff, reduceCtorEq, Int.reduceToNat, Int.reduceLE, Int.reduceLT, Int.reduceEq, Int.reduceNeg, Int.reduceAdd, Int.reduceSub, Nat.reduceMul, hst]) <;> (try simp (disch := omega) [wrap64]) <;> (try omega)) (Heap.Le.refl _)
      · rw [if_neg (fun hh => by omega)] at hst
        exact nx_mk (k + 1) (by omega) (by omega) (by (try simp only [go_sem, reduceIte, Nat.reduceEqDiff, Nat.reduceAdd, Nat.reduceSub, Nat.reduceLT, Nat.reduceLeDiff, reduceCtorEq, Int.reduceToNat, Int.reduceLE, Int.reduceLT, Int.reduceEq, Int.reduceNeg, Int.reduceAdd, Int.reduceSub, Nat.reduceMul, hst]) <;> (try simp (disch := omega) [wrap64]) <;> (try omega)) (Heap.Le.refl _)
    · have hk2 : k = signs.length := by omega
      subst hk2
      have hkd : decide ((signs.length : Int) < signs.length) = false := decide_eq_false (by omega)
      have htl : (signs.map B).take signs.length = signs.map B := List.take_of_length_le (by simp)
      rw [htl]
      simp only [go_sem, reduceIte, Nat.reduceEqDiff, Nat.reduceAdd, Nat.reduceSub, Nat.reduceLT, Nat.reduceLeDiff, reduceCtorEq, Int.reduceToNat, Int.reduceLE, Int.reduceLT, Int.reduceEq, Int.reduceNeg, Int.reduceAdd, Int.reduceSub, Nat.reduceMul, hkd]
      repeat' (first | with_reducible refine And.intro ?_ ?_ | intro _ | simp only [go_sem, reduceIte, Nat.reduceEqDiff, Nat.reduceAdd, Nat.reduceSub, Nat.reduceLT, Nat.reduceLeDiff, reduceCtorEq, Int.reduceToNat, Int.reduceLE, Int.reduceLT, Int.reduceEq, Int.reduceNeg, Int.reduceAdd, Int.reduceSub, Nat.reduceMul, heap_ne _ hne, hb, rdr, hkd] | simp (disch := omega) only [wrap64] | omega)
      all_goals first
        | exact fin2 _ 1 (by rw [bestN_all _ _ _ hnil, if_pos ⟨by assumption, by omega, by omega⟩])
        | exact fin2 _ _ (by rw [bestN_all _ _ _ hnil, if_neg (by rintro ⟨e1, e2, e3⟩; first | omega | simp_all)])
end Go.Proofs.YtlbojoghnapbfaaDoor
