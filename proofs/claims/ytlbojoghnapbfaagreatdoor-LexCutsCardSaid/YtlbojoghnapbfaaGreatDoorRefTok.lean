/- Walks of the reference's lexer (voussoirref05): faults; tokens that are added. -/
import Derived.Test.YtlbojoghnapbfaaGreatDoorRefSkip
set_option linter.unusedSimpArgs false
set_option linter.unusedVariables false
namespace Go.Proofs.YtlbojoghnapbfaaGreatDoor
open Go Go.Av Go.Lexs
attribute [local irreducible] ACalls at8

theorem fail_a {Q} (s : ByteArray) (i : Nat) (sg out : D) (fc : Int) (fn : ByteArray) (fl fo : Int) (b : Nat) (H : Heap) (hb : H b = some (.box (ctr s i sg out (flt fc fn fl fo)))) (hi : i < s.size) (hs : s.size ≤ 1000000)
    (h : Q (.tuple []) (H.set b (.box (ctr s i sg out (flt 10 (S (((B s).drop i).take 1)) (place (B s) i).1 (place (B s) i).2))))) :
    ACalls Tryz.prog 56 [.box b 0] H Q := by
  refine acalls_of_wp [] Tryz.mixed Tryz.func56 rfl (by kernel_rfl) (of_decide_eq_true (by kernel_rfl)) (by kernel_rfl) ?_
  simp only [go_sem, reduceIte, Nat.reduceEqDiff, Nat.reduceAdd, Nat.reduceSub, Nat.reduceLT, Nat.reduceLeDiff, reduceCtorEq, Int.reduceToNat, Int.reduceLE, Int.reduceLT, Int.reduceEq, Int.reduceNeg, Int.reduceAdd, Int.reduceSub, Nat.reduceMul, Tryz.results56]
  have hl := B_len s
  simp only [ctr, flt] at hb
  repeat' (first | with_reducible refine And.intro ?_ ?_ | intro _ | simp only [go_sem, reduceIte, Nat.reduceEqDiff, Nat.reduceAdd, Nat.reduceSub, Nat.reduceLT, Nat.reduceLeDiff, reduceCtorEq, Int.reduceToNat, Int.reduceLE, Int.reduceLT, Int.reduceEq, Int.reduceNeg, Int.reduceAdd, Int.reduceSub, Nat.reduceMul, hb] | simp (disch := omega) only [wrap64] | omega)
  rw [List.drop_take, Nat.add_sub_cancel_left]
  exact Fin.same h

set_option maxHeartbeats 4000000 in
theorem add_none_a {Q} (s : ByteArray) (i n : Nat) (sg : D) (fc : Int) (fn : ByteArray) (fl fo : Int) (b : Nat) (H : Heap) (t : Tok) (hb : H b = some (.box (ctr s i sg .nilsl (flt fc fn fl fo)))) (hn : i + n ≤ s.size) (hs : s.size ≤ 1000000)
    (h : ∀ c, H c = none → Q (.tuple []) ((H.set b (.box (ctr s (i + n) sg (.vec c 5 0 1) (flt fc fn fl fo)))).set c (.vec 5 [tokD (B s) (t, i)]))) :
    ACalls Tryz.prog 57 [.box b 0, .agg [.int .i64 t.kind, .str (S t.text), .int .i64 t.n, .int .i64 0, .int .i64 0], .int .i64 n] H Q := by
  refine acalls_of_wp [(1, true), (2, false)] Tryz.mixed Tryz.func57 rfl (by kernel_rfl) (of_decide_eq_true (by kernel_rfl)) (by kernel_rfl) ?_
  simp only [go_sem, reduceIte, Nat.reduceEqDiff, Nat.reduceAdd, Nat.reduceSub, Nat.reduceLT, Nat.reduceLeDiff, reduceCtorEq, Int.reduceToNat, Int.reduceLE, Int.reduceLT, Int.reduceEq, Int.reduceNeg, Int.reduceAdd, Int.reduceSub, Nat.reduceMul, Tryz.results57]
  have hl := B_len s
  intro b1 hb1
  have hne : b ≠ b1 := by rintro rfl; rw [hb] at hb1; cases hb1
  have hm1 : b1 ∉ [b] := by simp [Ne.symm hne]
  simp only [ctr, flt] at hb
  refine race_mk [b] (by simp [Heap.set, hne, hb]) ?_
  simp only [go_sem, reduceIte, Nat.reduceEqDiff, Nat.reduceAdd, Nat.reduceSub, Nat.reduceLT, Nat.reduceLeDiff, reduceCtorEq, Int.reduceToNat, Int.reduceLE, Int.reduceLT, Int.reduceEq, Int.reduceNeg, Int.reduceAdd, Int.reduceSub, Nat.reduceMul, heap_ne _ hne, hb, minus_out hm1]
  refine race_mk [b, b1] (by simp [Heap.set, hne, hb]) ?_
  simp only [go_sem, reduceIte, Nat.reduceEqDiff, Nat.reduceAdd, Nat.reduceSub, Nat.reduceLT, Nat.reduceLeDiff, reduceCtorEq, Int.reduceToNat, Int.reduceLE, Int.reduceLT, Int.reduceEq, Int.reduceNeg, Int.reduceAdd, Int.reduceSub, Nat.reduceMul, heap_ne _ hne, hb, List.mem_cons]
  refine ⟨.inl trivial, .inr (.inl trivial), fun b2 hb2 => ?_⟩
  simp only [set_none] at hb2
  obtain ⟨h21, h2⟩ := hb2
  have h2b : b2 ≠ b := by rintro rfl; rw [hb] at h2; cases h2
  have hm2 : b2 ∉ [b, b1] := by simp [h2b, h21]
  simp only [go_sem, reduceIte, Nat.reduceEqDiff, Nat.reduceAdd, Nat.reduceSub, Nat.reduceLT, Nat.reduceLeDiff, reduceCtorEq, Int.reduceToNat, Int.reduceLE, Int.reduceLT, Int.reduceEq, Int.reduceNeg, Int.reduceAdd, Int.reduceSub, Nat.reduceMul, heap_ne _ hne, hb, minus_out hm2, heap_ne _ (Ne.symm h2b)]
  intro b3 hb3
  simp only [set_none] at hb3
  obtain ⟨h32, h31, h3⟩ := hb3
  have h3b : b3 ≠ b := by rintro rfl; rw [hb] at h3; cases h3
  simp only [go_sem, reduceIte, Nat.reduceEqDiff, Nat.reduceAdd, Nat.reduceSub, Nat.reduceLT, Nat.reduceLeDiff, reduceCtorEq, Int.reduceToNat, Int.reduceLE, Int.reduceLT, Int.reduceEq, Int.reduceNeg, Int.reduceAdd, Int.reduceSub, Nat.reduceMul, heap_ne _ hne, hb, heap_ne _ (Ne.symm h2b), heap_ne _ (Ne.symm h3b)]
  refine take_a s i n sg (.vec b3 5 0 1) fc fn fl fo b _ (heap_same _ _) hn hs ?_
  simp only [go_sem, reduceIte, Nat.reduceEqDiff, Nat.reduceAdd, Nat.reduceSub, Nat.reduceLT, Nat.reduceLeDiff, reduceCtorEq, Int.reduceToNat, Int.reduceLE, Int.reduceLT, Int.reduceEq, Int.reduceNeg, Int.reduceAdd, Int.reduceSub, Nat.reduceMul]
  refine Fin.less ?_ (h b3 h3)
  intro x o hx
  simp only [Heap.set] at hx ⊢
  by_cases x3 : x = b3
  · subst x3; simpa [h3b, tokD] using hx
  by_cases xb : x = b
  · subst xb; simpa [x3] using hx
  rw [if_neg x3, if_neg xb] at hx
  have x1 : x ≠ b1 := by rintro rfl; rw [hb1] at hx; cases hx
  have x2 : x ≠ b2 := by rintro rfl; rw [h2] at hx; cases hx
  simpa [x3, xb, x1, x2] using hx

set_option maxHeartbeats 4000000 in
theorem add_some_a {Q} (s : ByteArray) (i n : Nat) (sg : D) (fc : Int) (fn : ByteArray) (fl fo : Int) (b c : Nat) (H : Heap) (t : Tok) (acc : List (Tok × Nat)) (hb : H b = some (.box (ctr s i sg (.vec c 5 0 acc.length) (flt fc fn fl fo)))) (hc : H c = some (.vec 5 (acc.map (tokD (B s))))) (hacc : acc.length ≤ 1000000)
    (hn : i + n ≤ s.size) (hs : s.size ≤ 1000000)
    (h : ∀ c', (H.del c) c' = none → Q (.tuple []) (((H.del c).set b (.box (ctr s (i + n) sg (.vec c' 5 0 (acc.length + 1)) (flt fc fn fl fo)))).set c' (.vec 5 ((acc ++ [(t, i)]).map (tokD (B s)))))) :
    ACalls Tryz.prog 57 [.box b 0, .agg [.int .i64 t.kind, .str (S t.text), .int .i64 t.n, .int .i64 0, .int .i64 0], .int .i64 n] H Q := by
  refine acalls_of_wp [(1, true), (2, false)] Tryz.mixed Tryz.func57 rfl (by kernel_rfl) (of_decide_eq_true (by kernel_rfl)) (by kernel_rfl) ?_
  simp only [go_sem, reduceIte, Nat.reduceEqDiff, Nat.reduceAdd, Nat.reduceSub, Nat.reduceLT, Nat.reduceLeDiff, reduceCtorEq, Int.reduceToNat, Int.reduceLE, Int.reduceLT, Int.reduceEq, Int.reduceNeg, Int.reduceAdd, Int.reduceSub, Nat.reduceMul, Tryz.results57]
  have hl := B_len s
  have hbc : b ≠ c := by rintro rfl; rw [hb] at hc; cases hc
  intro b1 hb1
  have hne : b ≠ b1 := by rintro rfl; rw [hb] at hb1; cases hb1
  have hc1 : c ≠ b1 := by rintro rfl; rw [hc] at hb1; cases hb1
  have hm1 : b1 ∉ [b] := by simp [Ne.symm hne]
  simp only [ctr, flt] at hb
  refine race_mk [b] (by simp [Heap.set, hne, hb]) ?_
  simp only [go_sem, reduceIte, Nat.reduceEqDiff, Nat.reduceAdd, Nat.reduceSub, Nat.reduceLT, Nat.reduceLeDiff, reduceCtorEq, Int.reduceToNat, Int.reduceLE, Int.reduceLT, Int.reduceEq, Int.reduceNeg, Int.reduceAdd, Int.reduceSub, Nat.reduceMul, heap_ne _ hne, hb, minus_out hm1]
  refine race_mk [b, b1] (by simp [Heap.set, hne, hb]) ?_
  simp only [go_sem, reduceIte, Nat.reduceEqDiff, Nat.reduceAdd, Nat.reduceSub, Nat.reduceLT, Nat.reduceLeDiff, reduceCtorEq, Int.reduceToNat, Int.reduceLE, Int.reduceLT, Int.reduceEq, Int.reduceNeg, Int.reduceAdd, Int.reduceSub, Nat.reduceMul, heap_ne _ hne, hb, List.mem_cons]
  refine ⟨.inl trivial, .inr (.inl trivial), fun b2 hb2 => ?_⟩
  simp only [set_none] at hb2
  obtain ⟨h21, h2⟩ := hb2
  have h2b : b2 ≠ b := by rintro rfl; rw [hb] at h2; cases h2
  have h2c : b2 ≠ c := by rintro rfl; rw [hc] at h2; cases h2
  have hm2 : b2 ∉ [b, b1] := by simp [h2b, h21]
  have hmc : c ∉ [b, b1] := by simp [Ne.symm hbc, hc1]
  simp only [go_sem, reduceIte, Nat.reduceEqDiff, Nat.reduceAdd, Nat.reduceSub, Nat.reduceLT, Nat.reduceLeDiff, reduceCtorEq, Int.reduceToNat, Int.reduceLE, Int.reduceLT, Int.reduceEq, Int.reduceNeg, Int.reduceAdd, Int.reduceSub, Nat.reduceMul, heap_ne _ hne, hb, minus_out hm2, minus_out hmc, heap_ne _ (Ne.symm h2b), heap_ne _ (Ne.symm h2c), heap_ne _ hc1, hc]
  refine ⟨⟨by omega, by omega⟩, by omega, by omega, fun b3 hb3 => ?_⟩
  simp only [set_none, del_none] at hb3
  have hb3' : b3 ≠ b2 ∧ b3 ≠ b1 ∧ (b3 = c ∨ H b3 = none) := by
    rcases hb3 with rfl | ⟨g1, g2, g3⟩
    · exact ⟨Ne.symm h2c, hc1, .inl rfl⟩
    · exact ⟨g1, g2, .inr g3⟩
  obtain ⟨h32, h31, h3⟩ := hb3'
  have h3b : b3 ≠ b := by rintro rfl; rcases h3 with e | e; exact hbc e; rw [hb] at e; cases e
  simp only [go_sem, reduceIte, Nat.reduceEqDiff, Nat.reduceAdd, Nat.reduceSub, Nat.reduceLT, Nat.reduceLeDiff, reduceCtorEq, Int.reduceToNat, Int.reduceLE, Int.reduceLT, Int.reduceEq, Int.reduceNeg, Int.reduceAdd, Int.reduceSub, Nat.reduceMul, heap_ne _ hne, hb, heap_ne _ (Ne.symm h2b), heap_ne _ (Ne.symm h3b), del_ne hbc]
  refine take_a s i n sg (.vec b3 5 0 (acc.length + 1)) fc fn fl fo b _ (heap_same _ _) hn hs ?_
  simp only [go_sem, reduceIte, Nat.reduceEqDiff, Nat.reduceAdd, Nat.reduceSub, Nat.reduceLT, Nat.reduceLeDiff, reduceCtorEq, Int.reduceToNat, Int.reduceLE, Int.reduceLT, Int.reduceEq, Int.reduceNeg, Int.reduceAdd, Int.reduceSub, Nat.reduceMul]
  refine Fin.less ?_ (h b3 (del_none.2 h3))
  have htk : List.take acc.length (acc.map (tokD (B s))) = acc.map (tokD (B s)) := List.take_of_length_le (by simp)
  intro x o hx
  simp only [Heap.set, Heap.del] at hx ⊢
  by_cases x3 : x = b3
  · subst x3; simpa [h3b, tokD, htk] using hx
  by_cases xb : x = b
  · subst xb; simpa [x3] using hx
  rw [if_neg x3, if_neg xb] at hx
  by_cases xc : x = c
  · rw [if_pos xc] at hx; cases hx
  rw [if_neg xc] at hx
  have x1 : x ≠ b1 := by rintro rfl; rw [hb1] at hx; cases hx
  have x2 : x ≠ b2 := by rintro rfl; rw [h2] at hx; cases hx
  simpa [x3, xb, x1, x2, xc] using hx

def delO (H : Heap) : Option Nat → Heap
  | none => H
  | some c => H.del c
/-- What stands behind a token: it is added, or there is a fault. -/
def TokQ (Q : D → Heap → Prop) (s : ByteArray) (i : Nat) (sg : D) (acc : List (Tok × Nat)) (ob : Option Nat) (f : List D) (b : Nat) (H : Heap) : Option (Tok × Nat) → Prop
  | some (t, k) => ∀ c', delO H ob c' = none → Q (.tuple []) (((delO H ob).set b (.box (ctr s (i + k) sg (.vec c' 5 0 (acc.length + 1)) f))).set c' (.vec 5 ((acc ++ [(t, i)]).map (tokD (B s)))))
  | none => Q (.tuple []) (H.set b (.box (ctr s i sg (outD acc ob) (flt 10 (S (((B s).drop i).take 1)) (place (B s) i).1 (place (B s) i).2))))

theorem add_a {Q} (s : ByteArray) (i n : Nat) (sg : D) (fc : Int) (fn : ByteArray) (fl fo : Int) (b : Nat) (ob : Option Nat) (H : Heap) (t : Tok) (acc : List (Tok × Nat)) (hb : H b = some (.box (ctr s i sg (outD acc ob) (flt fc fn fl fo))))
    (h0 : ob = none → acc = []) (hc : ∀ c, ob = some c → H c = some (.vec 5 (acc.map (tokD (B s))))) (hacc : acc.length ≤ 1000000)
    (hn : i + n ≤ s.size) (hs : s.size ≤ 1000000) (h : TokQ Q s i sg acc ob (flt fc fn fl fo) b H (some (t, n))) :
    ACalls Tryz.prog 57 [.box b 0, .agg [.int .i64 t.kind, .str (S t.text), .int .i64 t.n, .int .i64 0, .int .i64 0], .int .i64 n] H Q := by
  cases ob with
  | none =>
    have ha := h0 rfl
    subst ha
    exact add_none_a s i n sg fc fn fl fo b H t hb hn hs (fun c hc => h c hc)
  | some c => exact add_some_a s i n sg fc fn fl fo b c H t acc hb (hc c rfl) hacc hn hs (fun c' hc' => h c' hc')

theorem fail_q {Q} (s : ByteArray) (i : Nat) (sg : D) (fc : Int) (fn : ByteArray) (fl fo : Int) (b : Nat) (ob : Option Nat) (acc : List (Tok × Nat)) (H : Heap) (hb : H b = some (.box (ctr s i sg (outD acc ob) (flt fc fn fl fo)))) (hi : i < s.size) (hs : s.size ≤ 1000000)
    (h : TokQ Q s i sg acc ob (flt fc fn fl fo) b H none) : ACalls Tryz.prog 56 [.box b 0] H Q := fail_a s i sg _ fc fn fl fo b H hb hi hs h
end Go.Proofs.YtlbojoghnapbfaaGreatDoor
