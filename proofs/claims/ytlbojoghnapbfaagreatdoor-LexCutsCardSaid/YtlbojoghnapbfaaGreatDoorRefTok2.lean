/- Walks of the reference's lexer (voussoirref05): a token. -/
import Derived.Test.YtlbojoghnapbfaaGreatDoorRefTok
set_option linter.unusedSimpArgs false
set_option linter.unusedVariables false
namespace Go.Lexs
open Go.Av
def minV (l : List UInt8) (k : Nat) : Int := if (decV (l.take k) : Int) ≤ 2147483648 then decV (l.take k) else 2147483648
theorem minV_le (l : List UInt8) (k : Nat) : 0 ≤ minV l k ∧ minV l k ≤ 2147483648 := by unfold minV; split <;> omega
theorem minV_gt (l : List UInt8) (k : Nat) : 2147483647 < minV l k ↔ 2147483647 < decV (l.take k) := by unfold minV; split <;> omega
theorem minV_eq (l : List UInt8) (k : Nat) (h : ¬ 2147483647 < minV l k) : minV l k = decV (l.take k) := by
  rw [minV_gt] at h; unfold minV; rw [if_pos (by omega)]
theorem minV_step (l : List UInt8) (k : Nat) (h : k < l.length) (hd : digitI (nth l k) = true) : (if 2147483648 < 10 * minV l k + (nth l k - 48) then 2147483648 else 10 * minV l k + (nth l k - 48)) = minV l (k + 1) := by
  have h1 := decV_snoc l k h hd
  have h2 := (digitI_iff _).1 hd
  unfold minV
  rw [h1]
  split <;> split <;> split <;> omega
theorem spanN_pos_iff (p : Int → Bool) (l : List UInt8) (j : Nat) : 0 < spanN p (l.drop j) ↔ j < l.length ∧ p (nth l j) = true := by
  by_cases h : j < l.length
  · rw [spanN_drop p l j h]
    cases p (nth l j) <;> simp [h]
  · rw [spanN_end p l j (by omega)]; simp [h]
theorem letter_part {c : Int} (h : letterI c = true) : partI c = true := by simp [partI, h]
theorem tokN_digit (signs : List (List UInt8)) (l : List UInt8) (hL : letterI (nth l 0) = false) (hd : digitI (nth l 0) = true) (k : Nat) (hk : k = spanN digitI l) :
    tokN signs l = if decV (l.take k) ≤ 2147483647 ∧ ¬ 0 < spanN partI (l.drop k) then some (⟨2, [], decV (l.take k)⟩, k) else none := by
  subst hk
  unfold tokN
  rw [if_neg (by simp [hL]), if_pos hd]
  simp only [spanN_pos_iff]
theorem quote_span : ∀ r : List UInt8, (spanN textI r < r.length ∧ nth r (spanN textI r) = 34 → quoteN r = spanN textI r) ∧
    (quoteN r < r.length → (r.take (quoteN r)).all (ofB textI) = true → spanN textI r = quoteN r ∧ nth r (spanN textI r) = 34)
  | [] => by simp [quoteN, spanN]
  | c :: r => by
    obtain ⟨ih1, ih2⟩ := quote_span r
    unfold quoteN spanN
    by_cases hc : c.toNat = 34
    · have ht : ofB textI c = false := by simp [ofB, textI, hc]
      simp [hc, ht, nth]
    · rw [if_neg hc]
      cases ht : ofB textI c with
      | true =>
        have hn : ∀ m, nth (c :: r) (m + 1) = nth r m := fun m => by simp [nth]
        simp only [if_true, hn, List.length_cons, List.take_succ_cons, List.all_cons, ht, Bool.true_and]
        refine ⟨fun h => by rw [ih1 ⟨by omega, h.2⟩], fun h1 h2 => ?_⟩
        have := ih2 (by omega) h2
        exact ⟨by omega, this.2⟩
      | false =>
        simp only [Bool.false_eq_true, if_false, List.take_succ_cons, List.all_cons, ht, Bool.false_and]
        refine ⟨fun h => ?_, fun _ h => by simp at h⟩
        have := h.2
        simp [nth] at this
        omega
theorem tokN_quote (signs : List (List UInt8)) (l : List UInt8) (hQ : nth l 0 = 34) (m : Nat) (hm : m = spanN textI (l.drop 1)) :
    tokN signs l = if m < (l.drop 1).length ∧ nth (l.drop 1) m = 34 ∧ m ≤ 200 then some (⟨3, (l.drop 1).take m, 0⟩, m + 2) else none := by
  subst hm
  unfold tokN
  rw [if_neg (by rw [hQ]; decide), if_neg (by rw [hQ]; decide), if_pos hQ]
  obtain ⟨h1, h2⟩ := quote_span (l.drop 1)
  by_cases hc : spanN textI (l.drop 1) < (l.drop 1).length ∧ nth (l.drop 1) (spanN textI (l.drop 1)) = 34
  · have e := h1 hc
    rw [e]
    have ha := spanN_all textI (l.drop 1)
    have hl : ((l.drop 1).take (spanN textI (l.drop 1))).length = spanN textI (l.drop 1) := by rw [List.length_take]; omega
    by_cases h3 : spanN textI (l.drop 1) ≤ 200
    · rw [if_pos ⟨hc.1, by unfold isText; rw [ha, hl, Bool.true_and]; exact decide_eq_true h3⟩, if_pos ⟨hc.1, hc.2, h3⟩]
    · rw [if_neg (fun hh => h3 (by have := hh.2; unfold isText at this; rw [ha, hl, Bool.true_and] at this; exact of_decide_eq_true this)), if_neg (fun hh => h3 hh.2.2)]
  · rw [if_neg, if_neg (fun h => hc ⟨h.1, h.2.1⟩)]
    intro h
    have ht : ((l.drop 1).take (quoteN (l.drop 1))).all (ofB textI) = true := by
      have := h.2
      unfold isText at this
      rw [Bool.and_eq_true] at this
      exact this.1
    have := h2 h.1 ht
    exact hc ⟨by omega, this.2⟩
theorem take_prefix {p l : List UInt8} (h : List.isPrefixOf p l = true) : p = l.take p.length := List.prefix_iff_eq_take.1 (List.isPrefixOf_iff_prefix.1 h)
end Go.Lexs
namespace Go.Proofs.YtlbojoghnapbfaaGreatDoor
open Go Go.Av Go.Lexs
attribute [local irreducible] ACalls at8

theorem TokQ.mono {Q Q' : D → Heap → Prop} {s : ByteArray} {i : Nat} {sg : D} {acc : List (Tok × Nat)} {ob : Option Nat} {f : List D} {b : Nat} {H : Heap} {r : Option (Tok × Nat)} (h : TokQ Q s i sg acc ob f b H r) (hq : ∀ H', Q (.tuple []) H' → Q' (.tuple []) H') : TokQ Q' s i sg acc ob f b H r := by
  cases r with
  | none => exact hq _ h
  | some x => exact fun c hc => hq _ (h c hc)

/-- The cutter stands so, with what it has made. -/
structure Ctr (H : Heap) (s : ByteArray) (i : Nat) (sg : D) (acc : List (Tok × Nat)) (ob : Option Nat) (f : List D) (b : Nat) : Prop where
  hb : H b = some (.box (ctr s i sg (outD acc ob) f))
  h0 : ob = none → acc = []
  hc : ∀ c, ob = some c → H c = some (.vec 5 (acc.map (tokD (B s))))
  hacc : acc.length ≤ 1000000

theorem rnumber_a {Q} (s : ByteArray) (i : Nat) (sg : D) (fc : Int) (fn : ByteArray) (fl fo : Int) (b : Nat) (ob : Option Nat) (acc : List (Tok × Nat)) (H : Heap) (signs : List (List UInt8))
    (hC : Ctr H s i sg acc ob (flt fc fn fl fo) b) (hi : i < s.size) (hs : s.size ≤ 1000000) (hL : letterI (nth (B s) i) = false) (hd : digitI (nth (B s) i) = true)
    (h : TokQ Q s i sg acc ob (flt fc fn fl fo) b H (tokN signs ((B s).drop i))) :
    ACalls Tryz.prog 58 [.box b 0] H Q := by
  refine acalls_of_wp [] Tryz.mixed Tryz.func58 rfl (by kernel_rfl) (of_decide_eq_true (by kernel_rfl)) (by kernel_rfl) ?_
  simp only [go_sem, reduceIte, Nat.reduceEqDiff, Nat.reduceAdd, Nat.reduceSub, Nat.reduceLT, Nat.reduceLeDiff, reduceCtorEq, Int.reduceToNat, Int.reduceLE, Int.reduceLT, Int.reduceEq, Int.reduceNeg, Int.reduceAdd, Int.reduceSub, Nat.reduceMul, Tryz.results58]
  have hl := B_len s
  have hb' := hC.hb
  simp only [ctr, flt] at hb'
  refine loop_a (fun k : Nat => [(0, .box b 0), (2, .int .i64 (minV ((B s).drop i) k)), (3, .int .i64 k)]) (fun _ => H) (fun k => i + k ≤ s.size ∧ k + spanN digitI ((B s).drop (i + k)) = spanN digitI ((B s).drop i)) (fun k => s.size - k) 0 ⟨by omega, by simp⟩ (by simp only [go_sem, reduceIte, Nat.reduceEqDiff, Nat.reduceAdd, Nat.reduceSub, Nat.reduceLT, Nat.reduceLeDiff, reduceCtorEq, Int.reduceToNat, Int.reduceLE, Int.reduceLT, Int.reduceEq, Int.reduceNeg, Int.reduceAdd, Int.reduceSub, Nat.reduceMul]; simp [minV, decV]) (Heap.Le.refl _) ?_
  rintro k ⟨hk, ha⟩
  have hw : IntKind.i64.wrap ((i : Int) + k) = ((i + k : Nat) : Int) := by rw [wrap64 (by omega) (by omega)]; omega
  have hmv := minV_le ((B s).drop i) k
  have fin : k = spanN digitI ((B s).drop i) → (2147483647 < minV ((B s).drop i) k → TokQ Q s i sg acc ob (flt fc fn fl fo) b H none) ∧ (0 < spanN partI ((B s).drop (i + k)) → TokQ Q s i sg acc ob (flt fc fn fl fo) b H none) ∧
      (¬ 2147483647 < minV ((B s).drop i) k → ¬ 0 < spanN partI ((B s).drop (i + k)) → TokQ Q s i sg acc ob (flt fc fn fl fo) b H (some (⟨2, [], minV ((B s).drop i) k⟩, k))) := by
    intro hks
    rw [tokN_digit signs _ (by rw [nth_drop]; exact hL) (by rw [nth_drop]; exact hd) k hks, List.drop_drop] at h
    refine ⟨fun h1 => ?_, fun h1 => ?_, fun h1 h2 => ?_⟩
    · rw [minV_gt] at h1
      rwa [if_neg (by omega)] at h
    · rwa [if_neg (by omega)] at h
    · rw [minV_eq _ _ h1]
      rw [minV_gt] at h1
      rwa [if_pos ⟨by omega, h2⟩] at h
  simp only [go_sem, reduceIte, Nat.reduceEqDiff, Nat.reduceAdd, Nat.reduceSub, Nat.reduceLT, Nat.reduceLeDiff, reduceCtorEq, Int.reduceToNat, Int.reduceLE, Int.reduceLT, Int.reduceEq, Int.reduceNeg, Int.reduceAdd, Int.reduceSub, Nat.reduceMul, hb', hw]
  repeat' (first | with_reducible refine And.intro ?_ ?_ | intro _ | simp only [go_sem, reduceIte, Nat.reduceEqDiff, Nat.reduceAdd, Nat.reduceSub, Nat.reduceLT, Nat.reduceLeDiff, reduceCtorEq, Int.reduceToNat, Int.reduceLE, Int.reduceLT, Int.reduceEq, Int.reduceNeg, Int.reduceAdd, Int.reduceSub, Nat.reduceMul, hb', hw] | simp (disch := omega) only [wrap64] | with_reducible refine rDigit_a _ _ ?_ | with_reducible refine name_a s i (i + k) sg (outD acc ob) fc fn fl fo b _ hC.hb (by omega) hs ?_ | omega)
  · have hdg : digitI (at8 s ((i + k : Nat) : Int)) = true := by assumption
    rw [at8_nat] at *
    have hr := (digitI_iff _).1 hdg
    have hst := minV_step ((B s).drop i) k (by rw [List.length_drop]; omega) (by rw [nth_drop]; exact hdg)
    rw [nth_drop] at hst
    rw [spanN_drop _ _ _ (by omega), if_pos hdg] at ha
    refine nx_mk (k + 1) ⟨by omega, by rw [← Nat.add_assoc]; omega⟩ (by omega) ?_ (Heap.Le.refl _)
    simp only [go_sem, reduceIte, Nat.reduceEqDiff, Nat.reduceAdd, Nat.reduceSub, Nat.reduceLT, Nat.reduceLeDiff, reduceCtorEq, Int.reduceToNat, Int.reduceLE, Int.reduceLT, Int.reduceEq, Int.reduceNeg, Int.reduceAdd, Int.reduceSub, Nat.reduceMul]
    simp (disch := omega) only [wrap64, wrap8]
    exact ⟨congrArg _ hst, by simp⟩
  · have hks : k = spanN digitI ((B s).drop i) := by
      rw [at8_nat] at *
      have hdg : digitI (nth (B s) (i + k)) = false := by assumption
      rw [spanN_drop _ _ _ (by omega), if_neg (by simp [hdg])] at ha
      exact ha
    refine fail_q s i sg fc fn fl fo b ob acc H hC.hb hi hs (((fin hks).2.1 (by omega)).mono fun H' hq => ?_)
    simp only [go_sem, reduceIte, Nat.reduceEqDiff, Nat.reduceAdd, Nat.reduceSub, Nat.reduceLT, Nat.reduceLeDiff, reduceCtorEq, Int.reduceToNat, Int.reduceLE, Int.reduceLT, Int.reduceEq, Int.reduceNeg, Int.reduceAdd, Int.reduceSub, Nat.reduceMul]
    exact Fin.same hq
  · have hks : k = spanN digitI ((B s).drop i) := by
      rw [at8_nat] at *
      have hdg : digitI (nth (B s) (i + k)) = false := by assumption
      rw [spanN_drop _ _ _ (by omega), if_neg (by simp [hdg])] at ha
      exact ha
    refine add_a s i k sg fc fn fl fo b ob H ⟨2, [], _⟩ acc hC.hb hC.h0 hC.hc hC.hacc (by omega) hs (((fin hks).2.2 (by assumption) (by omega)).mono fun H' hq => ?_)
    simp only [go_sem, reduceIte, Nat.reduceEqDiff, Nat.reduceAdd, Nat.reduceSub, Nat.reduceLT, Nat.reduceLeDiff, reduceCtorEq, Int.reduceToNat, Int.reduceLE, Int.reduceLT, Int.reduceEq, Int.reduceNeg, Int.reduceAdd, Int.reduceSub, Nat.reduceMul]
    exact Fin.same hq
  · have hks : k = spanN digitI ((B s).drop i) := by
      rw [at8_nat] at *
      have hdg : digitI (nth (B s) (i + k)) = false := by assumption
      rw [spanN_drop _ _ _ (by omega), if_neg (by simp [hdg])] at ha
      exact ha
    refine fail_q s i sg fc fn fl fo b ob acc H hC.hb hi hs (((fin hks).1 (by assumption)).mono fun H' hq => ?_)
    simp only [go_sem, reduceIte, Nat.reduceEqDiff, Nat.reduceAdd, Nat.reduceSub, Nat.reduceLT, Nat.reduceLeDiff, reduceCtorEq, Int.reduceToNat, Int.reduceLE, Int.reduceLT, Int.reduceEq, Int.reduceNeg, Int.reduceAdd, Int.reduceSub, Nat.reduceMul]
    exact Fin.same hq
  · have hks : k = spanN digitI ((B s).drop i) := by
      rw [spanN_end _ _ _ (by omega)] at ha
      exact ha
    refine fail_q s i sg fc fn fl fo b ob acc H hC.hb hi hs (((fin hks).2.1 (by omega)).mono fun H' hq => ?_)
    simp only [go_sem, reduceIte, Nat.reduceEqDiff, Nat.reduceAdd, Nat.reduceSub, Nat.reduceLT, Nat.reduceLeDiff, reduceCtorEq, Int.reduceToNat, Int.reduceLE, Int.reduceLT, Int.reduceEq, Int.reduceNeg, Int.reduceAdd, Int.reduceSub, Nat.reduceMul]
    exact Fin.same hq
  · have hks : k = spanN digitI ((B s).drop i) := by
      rw [spanN_end _ _ _ (by omega)] at ha
      exact ha
    refine add_a s i k sg fc fn fl fo b ob H ⟨2, [], _⟩ acc hC.hb hC.h0 hC.hc hC.hacc (by omega) hs (((fin hks).2.2 (by assumption) (by omega)).mono fun H' hq => ?_)
    simp only [go_sem, reduceIte, Nat.reduceEqDiff, Nat.reduceAdd, Nat.reduceSub, Nat.reduceLT, Nat.reduceLeDiff, reduceCtorEq, Int.reduceToNat, Int.reduceLE, Int.reduceLT, Int.reduceEq, Int.reduceNeg, Int.reduceAdd, Int.reduceSub, Nat.reduceMul]
    exact Fin.same hq
  · have hks : k = spanN digitI ((B s).drop i) := by
      rw [spanN_end _ _ _ (by omega)] at ha
      exact ha
    refine fail_q s i sg fc fn fl fo b ob acc H hC.hb hi hs (((fin hks).1 (by assumption)).mono fun H' hq => ?_)
    simp only [go_sem, reduceIte, Nat.reduceEqDiff, Nat.reduceAdd, Nat.reduceSub, Nat.reduceLT, Nat.reduceLeDiff, reduceCtorEq, Int.reduceToNat, Int.reduceLE, Int.reduceLT, Int.reduceEq, Int.reduceNeg, Int.reduceAdd, Int.reduceSub, Nat.reduceMul]
    exact Fin.same hq

theorem rIsText_a {Q} (s : ByteArray) (hs : s.size ≤ 4611686018427387904) (H : Heap) (h : Q (.bool (isText (B s))) H) : ACalls Tryz.prog 69 [.str s] H Q := by
  refine acalls_of_wp [] Tryz.mixed Tryz.func69 rfl (by kernel_rfl) (of_decide_eq_true (by kernel_rfl)) (by kernel_rfl) ?_
  simp only [go_sem, reduceIte, Nat.reduceEqDiff, Nat.reduceAdd, Nat.reduceSub, Nat.reduceLT, Nat.reduceLeDiff, reduceCtorEq, Int.reduceToNat, Int.reduceLE, Int.reduceLT, Int.reduceEq, Int.reduceNeg, Int.reduceAdd, Int.reduceSub, Nat.reduceMul, Tryz.results69]
  have hl := B_len s
  refine loop_a (fun k : Nat => [(0, .str s), (5, .int .i64 s.size), (6, .int .i64 k)]) (fun _ => H) (fun k => k ≤ s.size ∧ ((B s).take k).all (ofB textI) = true) (fun k => s.size - k) 0 ⟨Nat.zero_le _, by simp⟩ (by (try simp only [go_sem, reduceIte, Nat.reduceEqDiff, Nat.reduceAdd, Nat.reduceSub, Nat.reduceLT, Nat.reduceLeDiff, reduceCtorEq, Int.reduceToNat, Int.reduceLE, Int.reduceLT, Int.reduceEq, Int.reduceNeg, Int.reduceAdd, Int.reduceSub, Nat.reduceMul]) <;> (try simp (disch := omega) [wrap64]) <;> (try omega)) (Heap.Le.refl _) ?_
  rintro k ⟨hk, hall⟩
  simp only [go_sem, reduceIte, Nat.reduceEqDiff, Nat.reduceAdd, Nat.reduceSub, Nat.reduceLT, Nat.reduceLeDiff, reduceCtorEq, Int.reduceToNat, Int.reduceLE, Int.reduceLT, Int.reduceEq, Int.reduceNeg, Int.reduceAdd, Int.reduceSub, Nat.reduceMul]
  have hr := nth_range (B s) k
  have bad : textI (nth (B s) k) = false → k < s.size → Av.Fin Q (.bool false) H := fun hf hlt =>
    Fin.same (by have := all_false_of textI (B s) k (by omega) hf; simpa [isText, this] using h)
  rw [at8_nat]
  repeat' (first | with_reducible refine And.intro ?_ ?_ | intro _ | simp only [go_sem, reduceIte, Nat.reduceEqDiff, Nat.reduceAdd, Nat.reduceSub, Nat.reduceLT, Nat.reduceLeDiff, reduceCtorEq, Int.reduceToNat, Int.reduceLE, Int.reduceLT, Int.reduceEq, Int.reduceNeg, Int.reduceAdd, Int.reduceSub, Nat.reduceMul] | simp (disch := omega) only [wrap64] | omega)
  · exact bad (textI_no fun hh => by omega) (by omega)
  · refine nx_mk (k + 1) ⟨by omega, ?_⟩ (by omega) (by (try simp only [go_sem, reduceIte, Nat.reduceEqDiff, Nat.reduceAdd, Nat.reduceSub, Nat.reduceLT, Nat.reduceLeDiff, reduceCtorEq, Int.reduceToNat, Int.reduceLE, Int.reduceLT, Int.reduceEq, Int.reduceNeg, Int.reduceAdd, Int.reduceSub, Nat.reduceMul]) <;> (try simp (disch := omega) [wrap64]) <;> (try omega)) (Heap.Le.refl _)
    rw [all_take_succ _ _ _ (by omega), hall, (textI_iff _).2 (by omega)]; rfl
  · exact bad (textI_no fun hh => by omega) (by omega)
  · exact bad (textI_no fun hh => by omega) (by omega)
  · exact bad (textI_no fun hh => by omega) (by omega)
  · rw [List.take_of_length_le (by omega)] at hall
    refine Fin.same ?_
    simp only [isText, hall, Bool.true_and, hl] at h
    have e : decide ((s.size : Int) ≤ 200) = decide (s.size ≤ 200) := decide_eq_decide.2 (by omega)
    rw [e]; exact h

theorem isText_one (l : List UInt8) (k : Nat) (h : k < l.length) : isText ((l.take (k + 1)).drop k) = textI (nth l k) := by
  rw [List.drop_take, Nat.add_sub_cancel_left, List.drop_eq_getElem_cons h, List.take_succ_cons, List.take_zero]
  simp [isText, ofB, nth, h]

set_option maxRecDepth 10000 in
theorem rtext_a {Q} (s : ByteArray) (i : Nat) (sg : D) (fc : Int) (fn : ByteArray) (fl fo : Int) (b : Nat) (ob : Option Nat) (acc : List (Tok × Nat)) (H : Heap) (signs : List (List UInt8))
    (hC : Ctr H s i sg acc ob (flt fc fn fl fo) b) (hi : i < s.size) (hs : s.size ≤ 1000000) (hQ : nth (B s) i = 34)
    (h : TokQ Q s i sg acc ob (flt fc fn fl fo) b H (tokN signs ((B s).drop i))) :
    ACalls Tryz.prog 59 [.box b 0] H Q := by
  refine acalls_of_wp [] Tryz.mixed Tryz.func59 rfl (by kernel_rfl) (of_decide_eq_true (by kernel_rfl)) (by kernel_rfl) ?_
  simp only [go_sem, reduceIte, Nat.reduceEqDiff, Nat.reduceAdd, Nat.reduceSub, Nat.reduceLT, Nat.reduceLeDiff, reduceCtorEq, Int.reduceToNat, Int.reduceLE, Int.reduceLT, Int.reduceEq, Int.reduceNeg, Int.reduceAdd, Int.reduceSub, Nat.reduceMul, Tryz.results59]
  have hl := B_len s
  have hb' := hC.hb
  simp only [ctr, flt] at hb'
  have hw0 : IntKind.i64.wrap ((i : Int) + 1) = ((i + 1 : Nat) : Int) := by rw [wrap64 (by omega) (by omega)]; omega
  simp only [go_sem, reduceIte, Nat.reduceEqDiff, Nat.reduceAdd, Nat.reduceSub, Nat.reduceLT, Nat.reduceLeDiff, reduceCtorEq, Int.reduceToNat, Int.reduceLE, Int.reduceLT, Int.reduceEq, Int.reduceNeg, Int.reduceAdd, Int.reduceSub, Nat.reduceMul, hb', hw0]
  refine loop_a (fun k : Nat => [(0, .box b 0), (2, .int .i64 ((i + 1 + k : Nat) : Int))]) (fun _ => H) (fun k => i + 1 + k ≤ s.size ∧ k + spanN textI ((B s).drop (i + 1 + k)) = spanN textI ((B s).drop (i + 1))) (fun k => s.size - k) 0 ⟨by omega, by simp⟩ (by (try simp only [go_sem, reduceIte, Nat.reduceEqDiff, Nat.reduceAdd, Nat.reduceSub, Nat.reduceLT, Nat.reduceLeDiff, reduceCtorEq, Int.reduceToNat, Int.reduceLE, Int.reduceLT, Int.reduceEq, Int.reduceNeg, Int.reduceAdd, Int.reduceSub, Nat.reduceMul]) <;> (try simp (disch := omega) [wrap64]) <;> (try omega)) (Heap.Le.refl _) ?_
  rintro k ⟨hk, ha⟩
  have hw : IntKind.i64.wrap (((i + 1 + k : Nat) : Int) + 1) = ((i + 1 + k + 1 : Nat) : Int) := by rw [wrap64 (by omega) (by omega)]; omega
  have hw2 : IntKind.i64.wrap (((i + 1 + k : Nat) : Int) - i) = ((1 + k : Nat) : Int) := by rw [wrap64 (by omega) (by omega)]; omega
  have hw3 : IntKind.i64.wrap (((1 + k : Nat) : Int) - 1) = (k : Int) := by rw [wrap64 (by omega) (by omega)]; omega
  have hw4 : IntKind.i64.wrap (((i + 1 + k + 1 : Nat) : Int) - i) = ((k + 2 : Nat) : Int) := by rw [wrap64 (by omega) (by omega)]; omega
  have fin : k = spanN textI ((B s).drop (i + 1)) → TokQ Q s i sg acc ob (flt fc fn fl fo) b H (if i + 1 + k < s.size ∧ nth (B s) (i + 1 + k) = 34 ∧ k ≤ 200 then some (⟨3, ((B s).take (i + 1 + k)).drop (i + 1), 0⟩, k + 2) else none) := by
    intro hks
    rw [tokN_quote signs _ (by rw [nth_drop]; exact hQ) k (by rw [List.drop_drop]; exact hks), List.drop_drop, nth_drop] at h
    rw [List.drop_take, Nat.add_sub_cancel_left]
    have e : (k < ((B s).drop (i + 1)).length ∧ nth (B s) (i + 1 + k) = 34 ∧ k ≤ 200) = (i + 1 + k < s.size ∧ nth (B s) (i + 1 + k) = 34 ∧ k ≤ 200) := by rw [List.length_drop]; apply propext; constructor <;> rintro ⟨h1, h2, h3⟩ <;> exact ⟨by omega, h2, h3⟩
    simp only [e] at h
    exact h
  by_cases hlt : i + 1 + k < s.size
  · have hkd : decide (((i + 1 + k : Nat) : Int) < s.size) = true := decide_eq_true (by omega)
    have hke : decide (((i + 1 + k : Nat) : Int) = s.size) = false := decide_eq_false (by omega)
    have hone := isText_one (B s) (i + 1 + k) (by omega)
    have hsz : (S (((B s).take (i + 1 + k + 1)).drop (i + 1 + k))).size ≤ 4611686018427387904 := by simp only [S_size, List.length_drop, List.length_take]; omega
    cases ht : textI (nth (B s) (i + 1 + k)) with
    | true =>
      rw [ht] at hone
      simp only [go_sem, reduceIte, Nat.reduceEqDiff, Nat.reduceAdd, Nat.reduceSub, Nat.reduceLT, Nat.reduceLeDiff, reduceCtorEq, Int.reduceToNat, Int.reduceLE, Int.reduceLT, Int.reduceEq, Int.reduceNeg, Int.reduceAdd, Int.reduceSub, Nat.reduceMul, hb', hkd]
      repeat' (first | with_reducible refine And.intro ?_ ?_ | intro _ | simp only [go_sem, reduceIte, Nat.reduceEqDiff, Nat.reduceAdd, Nat.reduceSub, Nat.reduceLT, Nat.reduceLeDiff, reduceCtorEq, Int.reduceToNat, Int.reduceLE, Int.reduceLT, Int.reduceEq, Int.reduceNeg, Int.reduceAdd, Int.reduceSub, Nat.reduceMul, hb', hkd, hw, hone] | simp (disch := omega) only [wrap64] | with_reducible refine rIsText_a _ hsz _ ?_ | omega)
      rw [spanN_drop _ _ _ (by omega), if_pos ht] at ha
      exact nx_mk (k + 1) ⟨by omega, by rw [← Nat.add_assoc]; omega⟩ (by omega) (by (try simp only [go_sem, reduceIte, Nat.reduceEqDiff, Nat.reduceAdd, Nat.reduceSub, Nat.reduceLT, Nat.reduceLeDiff, reduceCtorEq, Int.reduceToNat, Int.reduceLE, Int.reduceLT, Int.reduceEq, Int.reduceNeg, Int.reduceAdd, Int.reduceSub, Nat.reduceMul]) <;> (try simp (disch := omega) [wrap64]) <;> (try omega)) (Heap.Le.refl _)
    | false =>
      rw [ht] at hone
      rw [spanN_drop _ _ _ (by omega), if_neg (by simp [ht])] at ha
      have hf := fin (by omega)
      simp only [go_sem, reduceIte, Nat.reduceEqDiff, Nat.reduceAdd, Nat.reduceSub, Nat.reduceLT, Nat.reduceLeDiff, reduceCtorEq, Int.reduceToNat, Int.reduceLE, Int.reduceLT, Int.reduceEq, Int.reduceNeg, Int.reduceAdd, Int.reduceSub, Nat.reduceMul, hb', hkd]
      repeat' (first | with_reducible refine And.intro ?_ ?_ | intro _ | simp only [go_sem, reduceIte, Nat.reduceEqDiff, Nat.reduceAdd, Nat.reduceSub, Nat.reduceLT, Nat.reduceLeDiff, reduceCtorEq, Int.reduceToNat, Int.reduceLE, Int.reduceLT, Int.reduceEq, Int.reduceNeg, Int.reduceAdd, Int.reduceSub, Nat.reduceMul, hb', hkd, hke, hw, hone, hw2, hw3, hw4, hw0] | simp (disch := omega) only [wrap64] | with_reducible refine rIsText_a _ hsz _ ?_ | omega)
      all_goals rw [at8_nat] at *
      · rw [if_neg (by rintro ⟨_, _, e⟩; omega)] at hf
        refine fail_q s i sg fc fn fl fo b ob acc H hC.hb hi hs (hf.mono fun H' hq => ?_)
        simp only [go_sem, reduceIte, Nat.reduceEqDiff, Nat.reduceAdd, Nat.reduceSub, Nat.reduceLT, Nat.reduceLeDiff, reduceCtorEq, Int.reduceToNat, Int.reduceLE, Int.reduceLT, Int.reduceEq, Int.reduceNeg, Int.reduceAdd, Int.reduceSub, Nat.reduceMul]
        exact Fin.same hq
      · rw [if_pos ⟨hlt, by assumption, by omega⟩] at hf
        refine add_a s i (k + 2) sg fc fn fl fo b ob H ⟨3, _, 0⟩ acc hC.hb hC.h0 hC.hc hC.hacc (by omega) hs (hf.mono fun H' hq => ?_)
        simp only [go_sem, reduceIte, Nat.reduceEqDiff, Nat.reduceAdd, Nat.reduceSub, Nat.reduceLT, Nat.reduceLeDiff, reduceCtorEq, Int.reduceToNat, Int.reduceLE, Int.reduceLT, Int.reduceEq, Int.reduceNeg, Int.reduceAdd, Int.reduceSub, Nat.reduceMul]
        exact Fin.same hq
      · rw [if_neg (by rintro ⟨_, e, _⟩; omega)] at hf
        refine fail_q s i sg fc fn fl fo b ob acc H hC.hb hi hs (hf.mono fun H' hq => ?_)
        simp only [go_sem, reduceIte, Nat.reduceEqDiff, Nat.reduceAdd, Nat.reduceSub, Nat.reduceLT, Nat.reduceLeDiff, reduceCtorEq, Int.reduceToNat, Int.reduceLE, Int.reduceLT, Int.reduceEq, Int.reduceNeg, Int.reduceAdd, Int.reduceSub, Nat.reduceMul]
        exact Fin.same hq
  · have hkd : decide (((i + 1 + k : Nat) : Int) < s.size) = false := decide_eq_false (by omega)
    have hke : decide (((i + 1 + k : Nat) : Int) = s.size) = true := decide_eq_true (by omega)
    rw [spanN_end _ _ _ (by omega)] at ha
    have hf := fin (by omega)
    rw [if_neg (by omega)] at hf
    simp only [go_sem, reduceIte, Nat.reduceEqDiff, Nat.reduceAdd, Nat.reduceSub, Nat.reduceLT, Nat.reduceLeDiff, reduceCtorEq, Int.reduceToNat, Int.reduceLE, Int.reduceLT, Int.reduceEq, Int.reduceNeg, Int.reduceAdd, Int.reduceSub, Nat.reduceMul, hb', hkd]
    repeat' (first | with_reducible refine And.intro ?_ ?_ | intro _ | simp only [go_sem, reduceIte, Nat.reduceEqDiff, Nat.reduceAdd, Nat.reduceSub, Nat.reduceLT, Nat.reduceLeDiff, reduceCtorEq, Int.reduceToNat, Int.reduceLE, Int.reduceLT, Int.reduceEq, Int.reduceNeg, Int.reduceAdd, Int.reduceSub, Nat.reduceMul, hb', hkd, hke] | simp (disch := omega) only [wrap64] | omega)
    refine fail_q s i sg fc fn fl fo b ob acc H hC.hb hi hs (hf.mono fun H' hq => ?_)
    simp only [go_sem, reduceIte, Nat.reduceEqDiff, Nat.reduceAdd, Nat.reduceSub, Nat.reduceLT, Nat.reduceLeDiff, reduceCtorEq, Int.reduceToNat, Int.reduceLE, Int.reduceLT, Int.reduceEq, Int.reduceNeg, Int.reduceAdd, Int.reduceSub, Nat.reduceMul]
    exact Fin.same hq

set_option maxRecDepth 10000 in
theorem rtoken_a {Q} (s : ByteArray) (i : Nat) (signs : List ByteArray) (fc : Int) (fn : ByteArray) (fl fo : Int) (b : Nat) (ob : Option Nat) (acc : List (Tok × Nat)) (H : Heap)
    (hC : Ctr H s i (.sl 1 (strsD signs)) acc ob (flt fc fn fl fo) b) (hi : i < s.size) (hs : s.size ≤ 1000000) (hsl : signs.length ≤ 1000000)
    (h : TokQ Q s i (.sl 1 (strsD signs)) acc ob (flt fc fn fl fo) b H (tokN (signs.map B) ((B s).drop i))) :
    ACalls Tryz.prog 36 [.box b 0] H Q := by
  refine acalls_of_wp [] Tryz.mixed Tryz.func36 rfl (by kernel_rfl) (of_decide_eq_true (by kernel_rfl)) (by kernel_rfl) ?_
  simp only [go_sem, reduceIte, Nat.reduceEqDiff, Nat.reduceAdd, Nat.reduceSub, Nat.reduceLT, Nat.reduceLeDiff, reduceCtorEq, Int.reduceToNat, Int.reduceLE, Int.reduceLT, Int.reduceEq, Int.reduceNeg, Int.reduceAdd, Int.reduceSub, Nat.reduceMul, Tryz.results36]
  have hl := B_len s
  have hb' := hC.hb
  simp only [ctr, flt] at hb'
  have hd0 : nth ((B s).drop i) 0 = nth (B s) i := by rw [nth_drop]; rfl
  have hdl : ((B s).drop i).length = s.size - i := by simp
  cases hL : letterI (at8 s i) with
  | true =>
    have hsp := spanN_le partI ((B s).drop i)
    have hw : IntKind.i64.wrap ((i : Int) + (spanN partI ((B s).drop i) : Nat)) = ((i + spanN partI ((B s).drop i) : Nat) : Int) := by rw [wrap64 (by omega) (by omega)]; omega
    have ht : tokN (signs.map B) ((B s).drop i) = if spanN partI ((B s).drop i) ≤ 40 then some (⟨1, ((B s).drop i).take (spanN partI ((B s).drop i)), 0⟩, spanN partI ((B s).drop i)) else none := by
      unfold tokN; rw [if_pos (by rw [hd0, ← at8_nat]; exact hL)]
    rw [ht] at h
    repeat' (first | with_reducible refine And.intro ?_ ?_ | intro _ | simp only [go_sem, reduceIte, Nat.reduceEqDiff, Nat.reduceAdd, Nat.reduceSub, Nat.reduceLT, Nat.reduceLeDiff, reduceCtorEq, Int.reduceToNat, Int.reduceLE, Int.reduceLT, Int.reduceEq, Int.reduceNeg, Int.reduceAdd, Int.reduceSub, Nat.reduceMul, hb', hL, hw] | simp (disch := omega) only [wrap64] | with_reducible refine rLetter_a _ _ ?_ | with_reducible refine name_a s i i _ _ fc fn fl fo b _ hC.hb (by omega) hs ?_ | omega)
    · rw [if_neg (by omega)] at h
      refine fail_q s i _ fc fn fl fo b ob acc H hC.hb hi hs (h.mono fun H' hq => ?_)
      simp only [go_sem, reduceIte, Nat.reduceEqDiff, Nat.reduceAdd, Nat.reduceSub, Nat.reduceLT, Nat.reduceLeDiff, reduceCtorEq, Int.reduceToNat, Int.reduceLE, Int.reduceLT, Int.reduceEq, Int.reduceNeg, Int.reduceAdd, Int.reduceSub, Nat.reduceMul]
      exact Fin.same hq
    · rw [if_pos (by omega)] at h
      rw [List.drop_take, Nat.add_sub_cancel_left]
      refine add_a s i _ _ fc fn fl fo b ob H ⟨1, _, 0⟩ acc hC.hb hC.h0 hC.hc hC.hacc (by omega) hs (h.mono fun H' hq => ?_)
      simp only [go_sem, reduceIte, Nat.reduceEqDiff, Nat.reduceAdd, Nat.reduceSub, Nat.reduceLT, Nat.reduceLeDiff, reduceCtorEq, Int.reduceToNat, Int.reduceLE, Int.reduceLT, Int.reduceEq, Int.reduceNeg, Int.reduceAdd, Int.reduceSub, Nat.reduceMul]
      exact Fin.same hq
  | false =>
    cases hD : digitI (at8 s i) with
    | true =>
      repeat' (first | with_reducible refine And.intro ?_ ?_ | intro _ | simp only [go_sem, reduceIte, Nat.reduceEqDiff, Nat.reduceAdd, Nat.reduceSub, Nat.reduceLT, Nat.reduceLeDiff, reduceCtorEq, Int.reduceToNat, Int.reduceLE, Int.reduceLT, Int.reduceEq, Int.reduceNeg, Int.reduceAdd, Int.reduceSub, Nat.reduceMul, hb', hL, hD] | simp (disch := omega) only [wrap64] | with_reducible refine rLetter_a _ _ ?_ | with_reducible refine rDigit_a _ _ ?_ | omega)
      rw [at8_nat] at hL hD
      refine rnumber_a s i _ fc fn fl fo b ob acc H _ hC hi hs hL hD (h.mono fun H' hq => ?_)
      simp only [go_sem, reduceIte, Nat.reduceEqDiff, Nat.reduceAdd, Nat.reduceSub, Nat.reduceLT, Nat.reduceLeDiff, reduceCtorEq, Int.reduceToNat, Int.reduceLE, Int.reduceLT, Int.reduceEq, Int.reduceNeg, Int.reduceAdd, Int.reduceSub, Nat.reduceMul]
      exact Fin.same hq
    | false =>
      by_cases hQ : at8 s i = 34
      · have hQd : decide (at8 s i = 34) = true := decide_eq_true hQ
        repeat' (first | with_reducible refine And.intro ?_ ?_ | intro _ | simp only [go_sem, reduceIte, Nat.reduceEqDiff, Nat.reduceAdd, Nat.reduceSub, Nat.reduceLT, Nat.reduceLeDiff, reduceCtorEq, Int.reduceToNat, Int.reduceLE, Int.reduceLT, Int.reduceEq, Int.reduceNeg, Int.reduceAdd, Int.reduceSub, Nat.reduceMul, hb', hL, hD, hQd] | simp (disch := omega) only [wrap64] | with_reducible refine rLetter_a _ _ ?_ | with_reducible refine rDigit_a _ _ ?_ | omega)
        rw [at8_nat] at hQ
        refine rtext_a s i _ fc fn fl fo b ob acc H _ hC hi hs hQ (h.mono fun H' hq => ?_)
        simp only [go_sem, reduceIte, Nat.reduceEqDiff, Nat.reduceAdd, Nat.reduceSub, Nat.reduceLT, Nat.reduceLeDiff, reduceCtorEq, Int.reduceToNat, Int.reduceLE, Int.reduceLT, Int.reduceEq, Int.reduceNeg, Int.reduceAdd, Int.reduceSub, Nat.reduceMul]
        exact Fin.same hq
      · have hQd : decide (at8 s i = 34) = false := decide_eq_false hQ
        repeat' (first | with_reducible refine And.intro ?_ ?_ | intro _ | simp only [go_sem, reduceIte, Nat.reduceEqDiff, Nat.reduceAdd, Nat.reduceSub, Nat.reduceLT, Nat.reduceLeDiff, reduceCtorEq, Int.reduceToNat, Int.reduceLE, Int.reduceLT, Int.reduceEq, Int.reduceNeg, Int.reduceAdd, Int.reduceSub, Nat.reduceMul, hb', hL, hD, hQd] | simp (disch := omega) only [wrap64] | with_reducible refine rLetter_a _ _ ?_ | with_reducible refine rDigit_a _ _ ?_ | omega)
        rw [at8_nat] at hL hD hQ
        have ht : tokN (signs.map B) ((B s).drop i) = if bestN (signs.map B) ((B s).drop i) = 0 then none else some (⟨4, ((B s).drop i).take (bestN (signs.map B) ((B s).drop i)), 0⟩, bestN (signs.map B) ((B s).drop i)) := by
          unfold tokN; rw [if_neg (by rw [hd0]; simp [hL]), if_neg (by rw [hd0]; simp [hD]), if_neg (by rw [hd0]; exact hQ)]
        rw [ht] at h
        have hbl := bestN_le (signs.map B) ((B s).drop i)
        refine loop_a (fun k : Nat => [(0, .box b 0), (4, .str (S (((B s).drop i).take (bestN ((signs.map B).take k) ((B s).drop i))))), (19, .sl 1 (strsD signs)), (20, .int .i64 signs.length), (21, .int .i64 k)])
          (fun _ => H) (fun k => k ≤ signs.length) (fun k => signs.length - k) 0 (Nat.zero_le _) (by simp only [go_sem, reduceIte, Nat.reduceEqDiff, Nat.reduceAdd, Nat.reduceSub, Nat.reduceLT, Nat.reduceLeDiff, reduceCtorEq, Int.reduceToNat, Int.reduceLE, Int.reduceLT, Int.reduceEq, Int.reduceNeg, Int.reduceAdd, Int.reduceSub, Nat.reduceMul]; simp [bestN, S]) (Heap.Le.refl _) ?_
        intro k hk
        have hbk := bestN_le ((signs.map B).take k) ((B s).drop i)
        have hmin : min (bestN ((signs.map B).take k) ((B s).drop i)) ((B s).drop i).length = bestN ((signs.map B).take k) ((B s).drop i) := by omega
        rw [List.length_drop, hl] at hmin
        by_cases hkl : k < signs.length
        · have hat := strsD_at signs k hkl
          have hkd : decide ((k : Int) < signs.length) = true := decide_eq_true (by omega)
          have hst := bestN_step (signs.map B) ((B s).drop i) k (by simpa using hkl)
          rw [List.getElem_map, B_len] at hst
          simp only [go_sem, reduceIte, Nat.reduceEqDiff, Nat.reduceAdd, Nat.reduceSub, Nat.reduceLT, Nat.reduceLeDiff, reduceCtorEq, Int.reduceToNat, Int.reduceLE, Int.reduceLT, Int.reduceEq, Int.reduceNeg, Int.reduceAdd, Int.reduceSub, Nat.reduceMul, hkd]
          repeat' (first | with_reducible refine And.intro ?_ ?_ | intro _ | simp only [go_sem, reduceIte, Nat.reduceEqDiff, Nat.reduceAdd, Nat.reduceSub, Nat.reduceLT, Nat.reduceLeDiff, reduceCtorEq, Int.reduceToNat, Int.reduceLE, Int.reduceLT, Int.reduceEq, Int.reduceNeg, Int.reduceAdd, Int.reduceSub, Nat.reduceMul, hb', hat, hkd, hmin] | simp (disch := omega) only [wrap64] | with_reducible refine begins_a s _ i _ _ fc fn fl fo b _ hC.hb (by omega) hs ?_ | omega)
          · have hpf := (by assumption : List.isPrefixOf (B signs[k]) ((B s).drop i) = true)
            rw [if_pos ⟨by omega, hpf⟩] at hst
            have htk := take_prefix hpf
            rw [B_len] at htk
            refine nx_mk (k + 1) (by omega) (by omega) ?_ (Heap.Le.refl _)
            simp only [go_sem, reduceIte, Nat.reduceEqDiff, Nat.reduceAdd, Nat.reduceSub, Nat.reduceLT, Nat.reduceLeDiff, reduceCtorEq, Int.reduceToNat, Int.reduceLE, Int.reduceLT, Int.reduceEq, Int.reduceNeg, Int.reduceAdd, Int.reduceSub, Nat.reduceMul]
            rw [hst, ← htk, S_B]
            simp
          · rw [if_neg (fun hh => by have e := (by assumption : List.isPrefixOf (B signs[k]) ((B s).drop i) = false); rw [e] at hh; cases hh.2)] at hst
            exact nx_mk (k + 1) (by omega) (by omega) (by (try simp only [go_sem, reduceIte, Nat.reduceEqDiff, Nat.reduceAdd, Nat.reduceSub, Nat.reduceLT, Nat.reduceLeDiff, reduceCtorEq, Int.reduceToNat, Int.reduceLE, Int.reduceLT, Int.reduceEq, Int.reduceNeg, Int.reduceAdd, Int.reduceSub, Nat.reduceMul, hst]) <;> (try simp (disch := omega) [wrap64]) <;> (try omega)) (Heap.Le.refl _)
          · rw [if_neg (fun hh => by omega)] at hst
            exact nx_mk (k + 1) (by omega) (by omega) (by (try simp only [go_sem, reduceIte, Nat.reduceEqDiff, Nat.reduceAdd, Nat.reduceSub, Nat.reduceLT, Nat.reduceLeDiff, reduceCtorEq, Int.reduceToNat, Int.reduceLE, Int.reduceLT, Int.reduceEq, Int.reduceNeg, Int.reduceAdd, Int.reduceSub, Nat.reduceMul, hst]) <;> (try simp (disch := omega) [wrap64]) <;> (try omega)) (Heap.Le.refl _)
        · have hk2 : k = signs.length := by omega
          subst hk2
          have hkd : decide ((signs.length : Int) < signs.length) = false := decide_eq_false (by omega)
          have htl : (signs.map B).take signs.length = signs.map B := List.take_of_length_le (by simp)
          rw [htl] at hmin
          rw [htl]
          simp only [go_sem, reduceIte, Nat.reduceEqDiff, Nat.reduceAdd, Nat.reduceSub, Nat.reduceLT, Nat.reduceLeDiff, reduceCtorEq, Int.reduceToNat, Int.reduceLE, Int.reduceLT, Int.reduceEq, Int.reduceNeg, Int.reduceAdd, Int.reduceSub, Nat.reduceMul, hkd]
          repeat' (first | with_reducible refine And.intro ?_ ?_ | intro _ | simp only [go_sem, reduceIte, Nat.reduceEqDiff, Nat.reduceAdd, Nat.reduceSub, Nat.reduceLT, Nat.reduceLeDiff, reduceCtorEq, Int.reduceToNat, Int.reduceLE, Int.reduceLT, Int.reduceEq, Int.reduceNeg, Int.reduceAdd, Int.reduceSub, Nat.reduceMul, hb', hkd, hmin] | simp (disch := omega) only [wrap64] | omega)
          · have hz : bestN (signs.map B) ((B s).drop i) = 0 := by
              have e := congrArg List.length (by assumption : List.take (bestN (signs.map B) ((B s).drop i)) ((B s).drop i) = [])
              rw [List.length_take] at e
              simp only [List.length_nil] at e
              rw [htl] at hbk
              omega
            rw [if_pos hz] at h
            refine fail_q s i _ fc fn fl fo b ob acc H hC.hb hi hs (h.mono fun H' hq => ?_)
            simp only [go_sem, reduceIte, Nat.reduceEqDiff, Nat.reduceAdd, Nat.reduceSub, Nat.reduceLT, Nat.reduceLeDiff, reduceCtorEq, Int.reduceToNat, Int.reduceLE, Int.reduceLT, Int.reduceEq, Int.reduceNeg, Int.reduceAdd, Int.reduceSub, Nat.reduceMul]
            exact Fin.same hq
          · have hz : bestN (signs.map B) ((B s).drop i) ≠ 0 := fun e => by
              have e2 := (by assumption : ¬ List.take (bestN (signs.map B) ((B s).drop i)) ((B s).drop i) = [])
              rw [e] at e2
              exact e2 rfl
            rw [if_neg hz] at h
            refine add_a s i _ _ fc fn fl fo b ob H ⟨4, _, 0⟩ acc hC.hb hC.h0 hC.hc hC.hacc (by omega) hs (h.mono fun H' hq => ?_)
            simp only [go_sem, reduceIte, Nat.reduceEqDiff, Nat.reduceAdd, Nat.reduceSub, Nat.reduceLT, Nat.reduceLeDiff, reduceCtorEq, Int.reduceToNat, Int.reduceLE, Int.reduceLT, Int.reduceEq, Int.reduceNeg, Int.reduceAdd, Int.reduceSub, Nat.reduceMul]
            exact Fin.same hq
end Go.Proofs.YtlbojoghnapbfaaGreatDoor
