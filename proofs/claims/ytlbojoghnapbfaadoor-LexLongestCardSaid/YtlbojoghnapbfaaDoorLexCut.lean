/- Walks of the lexer (voussoir/lex): all tokens. -/
import Derived.Test.YtlbojoghnapbfaaDoorLexTok
set_option linter.unusedSimpArgs false
set_option linter.unusedVariables false
namespace Go.Proofs.YtlbojoghnapbfaaDoor
open Go Go.Av Go.Lexs
attribute [local irreducible] ACalls at8

/-- A token's cells. -/
def tokD (l : List UInt8) (x : Tok × Nat) : List D := [.int .i64 x.1.kind, .str (S x.1.text), .int .i64 x.1.n, .int .i64 (place l x.2).1, .int .i64 (place l x.2).2]
def faultD (code : Int) (name : List UInt8) (line col : Int) : D := .agg [.int .i64 code, .str (S name), .int .i64 line, .int .i64 col]
/-- What a lexer hands back. -/
def resD (l : List UInt8) : Except Nat (List (Tok × Nat)) → D
  | .ok ts => .tuple [.sl 5 (ts.map (tokD l)), faultD 0 [] 0 0]
  | .error i => .tuple [.sl 5 [], faultD 10 ((l.drop i).take 1) (place l i).1 (place l i).2]

def outD : List (Tok × Nat) → Option Nat → D
  | _, none => .nilsl
  | acc, some c => .vec c 5 0 acc.length
def outH (l : List UInt8) (H : Heap) (acc : List (Tok × Nat)) : Option Nat → Heap
  | none => H
  | some c => H.set c (.vec 5 (acc.map (tokD l)))

set_option maxHeartbeats 4000000 in
theorem cut_a {Q} (s : ByteArray) (signs : List ByteArray) (op : Bool) (b : Nat) (H : Heap) (hb : H b = some (.box (rdr s 0 (.sl 1 (strsD signs)) op))) (hs : s.size ≤ 1000000) (hsl : signs.length ≤ 1000000)
    (h : Q (resD (B s) (cut (allSigns signs op) (B s))) (H.del b)) :
    ACalls Tryd.prog 28 [.box b 0] H Q := by
  refine acalls_of_wp [(5, true)] Tryd.mixed Tryd.func28 rfl (by kernel_rfl) (of_decide_eq_true (by kernel_rfl)) (by kernel_rfl) ?_
  simp only [go_sem, reduceIte, Nat.reduceEqDiff, Nat.reduceAdd, Nat.reduceSub, Nat.reduceLT, Nat.reduceLeDiff, reduceCtorEq, Int.reduceToNat, Int.reduceLE, Int.reduceLT, Int.reduceEq, Int.reduceNeg, Int.reduceAdd, Int.reduceSub, Nat.reduceMul, Tryd.results28]
  have hl := B_len s
  intro b1 hb1
  have hne : b ≠ b1 := by rintro rfl; rw [hb] at hb1; cases hb1
  refine blanks_a s 0 _ op b _ (by rw [heap_ne _ hne]; exact hb) (Nat.zero_le _) hs ?_
  simp only [go_sem, reduceIte, Nat.reduceEqDiff, Nat.reduceAdd, Nat.reduceSub, Nat.reduceLT, Nat.reduceLeDiff, reduceCtorEq, Int.reduceToNat, Int.reduceLE, Int.reduceLT, Int.reduceEq, Int.reduceNeg, Int.reduceAdd, Int.reduceSub, Nat.reduceMul]
  refine loop_a (fun (x : Nat × Nat × List (Tok × Nat) × Option Nat) => [(0, .box b 0), (2, outD x.2.2.1 x.2.2.2), (3, .box b1 0)])
    (fun x => outH (B s) ((H.set b1 (.box [.int .i64 0, .str ⟨#[]⟩, .int .i64 0, .int .i64 0])).set b (.box (rdr s x.2.1 (.sl 1 (strsD signs)) op))) x.2.2.1 x.2.2.2)
    (fun x => x.2.1 ≤ s.size ∧ s.size < x.2.1 + x.1 ∧ cutN (allSigns signs op) (B s) x.1 x.2.1 x.2.2.1 = cut (allSigns signs op) (B s) ∧ x.2.2.1.length ≤ x.2.1 ∧ (x.2.2.2 = none → x.2.2.1 = []) ∧ ∀ c, x.2.2.2 = some c → H c = none ∧ c ≠ b1)
    (fun x => x.1) (s.size + 1, nextAt (B s) 0, [], none) ⟨?_, by simp only []; omega, by rw [cut, hl], Nat.zero_le _, by simp⟩ (by (try simp only [go_sem, reduceIte, Nat.reduceEqDiff, Nat.reduceAdd, Nat.reduceSub, Nat.reduceLT, Nat.reduceLeDiff, reduceCtorEq, Int.reduceToNat, Int.reduceLE, Int.reduceLT, Int.reduceEq, Int.reduceNeg, Int.reduceAdd, Int.reduceSub, Nat.reduceMul, outD]) <;> (try simp (disch := omega) [wrap64]) <;> (try omega)) (Heap.Le.refl _) ?_
  · have := nextAt_le (B s) 0 (Nat.zero_le _); simp only []; omega
  rintro ⟨f, i, acc, ob⟩ ⟨hi, hf, hcut, hacc, hnil, hob⟩
  simp only at hi hf hcut hacc hnil hob
  by_cases hlt : i < s.size
  · have hkd : decide ((i : Int) < s.size) = true := decide_eq_true (by omega)
    cases ob with
    | none =>
      simp only [outD, outH]
      simp only [go_sem, reduceIte, Nat.reduceEqDiff, Nat.reduceAdd, Nat.reduceSub, Nat.reduceLT, Nat.reduceLeDiff, reduceCtorEq, Int.reduceToNat, Int.reduceLE, Int.reduceLT, Int.reduceEq, Int.reduceNeg, Int.reduceAdd, Int.reduceSub, Nat.reduceMul, rdr, hkd]
      refine token_a s i signs op b _ (heap_same _ _) hlt hs hsl (fun t k ht => ?_) (fun ht kd tx nn k => ?_)
      · have htp := tokN_pos (by intro e; have := congrArg List.length e; simp at this; omega) ht
        simp only [go_sem, reduceIte, Nat.reduceEqDiff, Nat.reduceAdd, Nat.reduceSub, Nat.reduceLT, Nat.reduceLeDiff, reduceCtorEq, Int.reduceToNat, Int.reduceLE, Int.reduceLT, Int.reduceEq, Int.reduceNeg, Int.reduceAdd, Int.reduceSub, Nat.reduceMul, tokR]
        intro b4 hb4
        simp only [set_none] at hb4
        obtain ⟨h4b, h41, h4⟩ := hb4
        have hm4 : b4 ∉ [b] := by simp [h4b]
        refine race_mk [b] (by simp [Heap.set, h4b, Ne.symm h4b]) ?_
        simp only [go_sem, reduceIte, Nat.reduceEqDiff, Nat.reduceAdd, Nat.reduceSub, Nat.reduceLT, Nat.reduceLeDiff, reduceCtorEq, Int.reduceToNat, Int.reduceLE, Int.reduceLT, Int.reduceEq, Int.reduceNeg, Int.reduceAdd, Int.reduceSub, Nat.reduceMul, heap_ne _ (Ne.symm h4b), heap_ne _ h4b, minus_out hm4]
        intro b5 hb5 b6 hb6
        simp only [set_none] at hb5 hb6
        obtain ⟨h54, h5b, h51, h5⟩ := hb5
        obtain ⟨h65, h64, h6b, h61, h6⟩ := hb6
        rw [List.length_drop, hl] at htp
        refine skip_a s i k (.sl 1 (strsD signs)) op b _ (by simp only [heap_ne _ (Ne.symm h6b), heap_ne _ (Ne.symm h5b), heap_ne _ (Ne.symm h4b), heap_same]; rfl) (by omega) hs ?_
        simp only [go_sem, reduceIte, Nat.reduceEqDiff, Nat.reduceAdd, Nat.reduceSub, Nat.reduceLT, Nat.reduceLeDiff, reduceCtorEq, Int.reduceToNat, Int.reduceLE, Int.reduceLT, Int.reduceEq, Int.reduceNeg, Int.reduceAdd, Int.reduceSub, Nat.reduceMul]
        refine blanks_a s (i + k) (.sl 1 (strsD signs)) op b _ (heap_same _ _) (by omega) hs ?_
        simp only [go_sem, reduceIte, Nat.reduceEqDiff, Nat.reduceAdd, Nat.reduceSub, Nat.reduceLT, Nat.reduceLeDiff, reduceCtorEq, Int.reduceToNat, Int.reduceLE, Int.reduceLT, Int.reduceEq, Int.reduceNeg, Int.reduceAdd, Int.reduceSub, Nat.reduceMul]
        have hle := nextAt_le (B s) (i + k) (by omega)
        have hge := nextAt_ge (B s) (i + k)
        have hacc0 := hnil rfl
        subst hacc0
        refine nx_mk (f - 1, nextAt (B s) (i + k), [] ++ [(t, i)], some b6) ⟨by simp only []; omega, by simp only []; omega, ?_, by simp only [List.nil_append, List.length_cons, List.length_nil]; omega, by simp, ?_⟩ (by simp only []; omega) (by (try simp only [go_sem, reduceIte, Nat.reduceEqDiff, Nat.reduceAdd, Nat.reduceSub, Nat.reduceLT, Nat.reduceLeDiff, reduceCtorEq, Int.reduceToNat, Int.reduceLE, Int.reduceLT, Int.reduceEq, Int.reduceNeg, Int.reduceAdd, Int.reduceSub, Nat.reduceMul, outD]) <;> (try simp (disch := omega) [wrap64]) <;> (try omega)) ?_
        · simp only []
          rw [← hcut, cutN_tok _ _ f i [] (by omega) (by omega) ht]
        · intro c hc
          simp only [Option.some.injEq] at hc
          subst hc
          exact ⟨h6, h61⟩
        · intro x o hx
          simp only [outH, Heap.set, Heap.del] at hx ⊢
          by_cases x6 : x = b6
          · subst x6; simpa [h6b, tokD] using hx
          by_cases xb : x = b
          · subst xb; simpa [x6, rdr] using hx
          by_cases x1 : x = b1
          · subst x1; simpa [x6, xb, Ne.symm h51, Ne.symm h41] using hx
          rw [if_neg x6, if_neg xb, if_neg x1] at hx
          have x4 : x ≠ b4 := by rintro rfl; rw [h4] at hx; cases hx
          have x5 : x ≠ b5 := by rintro rfl; rw [h5] at hx; cases hx
          simpa [x6, xb, x1, x4, x5] using hx
      · simp only [go_sem, reduceIte, Nat.reduceEqDiff, Nat.reduceAdd, Nat.reduceSub, Nat.reduceLT, Nat.reduceLeDiff, reduceCtorEq, Int.reduceToNat, Int.reduceLE, Int.reduceLT, Int.reduceEq, Int.reduceNeg, Int.reduceAdd, Int.reduceSub, Nat.reduceMul, badR]
        intro b4 hb4
        simp only [set_none] at hb4
        obtain ⟨h4b, h41, h4⟩ := hb4
        have hm4 : b4 ∉ [b] := by simp [h4b]
        refine race_mk [b] (by simp [Heap.set, h4b, Ne.symm h4b]) ?_
        simp only [go_sem, reduceIte, Nat.reduceEqDiff, Nat.reduceAdd, Nat.reduceSub, Nat.reduceLT, Nat.reduceLeDiff, reduceCtorEq, Int.reduceToNat, Int.reduceLE, Int.reduceLT, Int.reduceEq, Int.reduceNeg, Int.reduceAdd, Int.reduceSub, Nat.reduceMul, heap_ne _ (Ne.symm h4b), heap_ne _ h4b, heap_ne _ (Ne.symm h41), minus_out hm4]
        repeat' (first | with_reducible refine And.intro ?_ ?_ | intro _ | simp only [go_sem, reduceIte, Nat.reduceEqDiff, Nat.reduceAdd, Nat.reduceSub, Nat.reduceLT, Nat.reduceLeDiff, reduceCtorEq, Int.reduceToNat, Int.reduceLE, Int.reduceLT, Int.reduceEq, Int.reduceNeg, Int.reduceAdd, Int.reduceSub, Nat.reduceMul, heap_ne _ (Ne.symm h4b), heap_ne _ h4b, heap_ne _ (Ne.symm h41), heap_ne _ hne, heap_ne _ (Ne.symm hne)] | simp (disch := omega) only [wrap64] | omega)
        rw [← hcut, cutN_bad _ _ f i acc (by omega) (by omega) ht] at h
        refine Fin.nilsl 5 _ (Fin.less ?_ (by simpa [resD, faultD, List.drop_take] using h))
        intro x o hx
        simp only [Heap.set, Heap.del] at hx ⊢
        by_cases xb : x = b
        · simp [xb] at hx
        rw [if_neg xb] at hx
        have x4 : x ≠ b4 := by rintro rfl; rw [h4] at hx; cases hx
        have x1 : x ≠ b1 := by rintro rfl; rw [hb1] at hx; cases hx
        simpa [xb, x4, x1] using hx
    | some c =>
      obtain ⟨hc0, hc1⟩ := hob c rfl
      have hcb : c ≠ b := by rintro rfl; rw [hb] at hc0; cases hc0
      simp only [outD, outH]
      simp only [go_sem, reduceIte, Nat.reduceEqDiff, Nat.reduceAdd, Nat.reduceSub, Nat.reduceLT, Nat.reduceLeDiff, reduceCtorEq, Int.reduceToNat, Int.reduceLE, Int.reduceLT, Int.reduceEq, Int.reduceNeg, Int.reduceAdd, Int.reduceSub, Nat.reduceMul, rdr, hkd, heap_ne _ (Ne.symm hcb)]
      refine token_a s i signs op b _ (by rw [heap_ne _ (Ne.symm hcb)]; exact heap_same _ _) hlt hs hsl (fun t k ht => ?_) (fun ht kd tx nn k => ?_)
      · have htp := tokN_pos (by intro e; have := congrArg List.length e; simp at this; omega) ht
        simp only [go_sem, reduceIte, Nat.reduceEqDiff, Nat.reduceAdd, Nat.reduceSub, Nat.reduceLT, Nat.reduceLeDiff, reduceCtorEq, Int.reduceToNat, Int.reduceLE, Int.reduceLT, Int.reduceEq, Int.reduceNeg, Int.reduceAdd, Int.reduceSub, Nat.reduceMul, tokR]
        intro b4 hb4
        simp only [set_none] at hb4
        obtain ⟨h4c, h4b, h41, h4⟩ := hb4
        have hm4 : b4 ∉ [b] := by simp [h4b]
        refine race_mk [b] (by simp [Heap.set, h4b, Ne.symm h4b, hcb, Ne.symm hcb]) ?_
        simp only [go_sem, reduceIte, Nat.reduceEqDiff, Nat.reduceAdd, Nat.reduceSub, Nat.reduceLT, Nat.reduceLeDiff, reduceCtorEq, Int.reduceToNat, Int.reduceLE, Int.reduceLT, Int.reduceEq, Int.reduceNeg, Int.reduceAdd, Int.reduceSub, Nat.reduceMul, heap_ne _ (Ne.symm h4b), heap_ne _ h4b, minus_out hm4, heap_ne _ (Ne.symm hcb)]
        intro b5 hb5
        simp only [set_none] at hb5
        obtain ⟨h54, h5c, h5b, h51, h5⟩ := hb5
        simp only [go_sem, reduceIte, Nat.reduceEqDiff, Nat.reduceAdd, Nat.reduceSub, Nat.reduceLT, Nat.reduceLeDiff, reduceCtorEq, Int.reduceToNat, Int.reduceLE, Int.reduceLT, Int.reduceEq, Int.reduceNeg, Int.reduceAdd, Int.reduceSub, Nat.reduceMul, heap_ne _ (Ne.symm h5c), heap_ne _ (Ne.symm h4c)]
        refine ⟨by omega, by omega, fun b6 hb6 => ?_⟩
        simp only [set_none, del_none] at hb6
        have hb6' : b6 ≠ b5 ∧ b6 ≠ b4 ∧ b6 ≠ b ∧ b6 ≠ b1 ∧ H b6 = none := by
          rcases hb6 with rfl | ⟨g1, g2, _, g4, g5, g6⟩
          · exact ⟨Ne.symm h5c, Ne.symm h4c, hcb, hc1, hc0⟩
          · exact ⟨g1, g2, g4, g5, g6⟩
        obtain ⟨h65, h64, h6b, h61, h6⟩ := hb6'
        rw [List.length_drop, hl] at htp
        refine skip_a s i k (.sl 1 (strsD signs)) op b _ (by simp only [heap_ne _ (Ne.symm h6b), del_ne (Ne.symm hcb), heap_ne _ (Ne.symm h5b), heap_ne _ (Ne.symm h4b), heap_ne _ (Ne.symm hcb), heap_same]; rfl) (by omega) hs ?_
        simp only [go_sem, reduceIte, Nat.reduceEqDiff, Nat.reduceAdd, Nat.reduceSub, Nat.reduceLT, Nat.reduceLeDiff, reduceCtorEq, Int.reduceToNat, Int.reduceLE, Int.reduceLT, Int.reduceEq, Int.reduceNeg, Int.reduceAdd, Int.reduceSub, Nat.reduceMul]
        refine blanks_a s (i + k) (.sl 1 (strsD signs)) op b _ (heap_same _ _) (by omega) hs ?_
        simp only [go_sem, reduceIte, Nat.reduceEqDiff, Nat.reduceAdd, Nat.reduceSub, Nat.reduceLT, Nat.reduceLeDiff, reduceCtorEq, Int.reduceToNat, Int.reduceLE, Int.reduceLT, Int.reduceEq, Int.reduceNeg, Int.reduceAdd, Int.reduceSub, Nat.reduceMul]
        have hle := nextAt_le (B s) (i + k) (by omega)
        have hge := nextAt_ge (B s) (i + k)
        refine nx_mk (f - 1, nextAt (B s) (i + k), acc ++ [(t, i)], some b6) ⟨by simp only []; omega, by simp only []; omega, ?_, by simp only [List.length_append, List.length_cons, List.length_nil]; omega, by simp, ?_⟩ (by simp only []; omega) (by (try simp only [go_sem, reduceIte, Nat.reduceEqDiff, Nat.reduceAdd, Nat.reduceSub, Nat.reduceLT, Nat.reduceLeDiff, reduceCtorEq, Int.reduceToNat, Int.reduceLE, Int.reduceLT, Int.reduceEq, Int.reduceNeg, Int.reduceAdd, Int.reduceSub, Nat.reduceMul, outD]) <;> (try simp (disch := omega) [wrap64]) <;> (try omega)) ?_
        · simp only []
          rw [← hcut, cutN_tok _ _ f i acc (by omega) (by omega) ht]
        · intro c hc
          simp only [Option.some.injEq] at hc
          subst hc
          exact ⟨h6, h61⟩
        · intro x o hx
          simp only [outH, Heap.set, Heap.del] at hx ⊢
          by_cases x6 : x = b6
          · have htk : List.take acc.length (acc.map (tokD (B s))) = acc.map (tokD (B s)) := List.take_of_length_le (by simp)
            subst x6; simpa [h6b, tokD, htk] using hx
          by_cases xb : x = b
          · subst xb; simpa [x6, rdr] using hx
          by_cases x1 : x = b1
          · subst x1; simpa [x6, xb, Ne.symm h51, Ne.symm h41, Ne.symm hc1] using hx
          rw [if_neg x6, if_neg xb, if_neg x1] at hx
          have x4 : x ≠ b4 := by rintro rfl; rw [h4] at hx; cases hx
          have x5 : x ≠ b5 := by rintro rfl; rw [h5] at hx; cases hx
          have xc : x ≠ c := by rintro rfl; rw [hc0] at hx; cases hx
          simpa [x6, xb, x1, x4, x5, xc] using hx
      · simp only [go_sem, reduceIte, Nat.reduceEqDiff, Nat.reduceAdd, Nat.reduceSub, Nat.reduceLT, Nat.reduceLeDiff, reduceCtorEq, Int.reduceToNat, Int.reduceLE, Int.reduceLT, Int.reduceEq, Int.reduceNeg, Int.reduceAdd, Int.reduceSub, Nat.reduceMul, badR]
        intro b4 hb4
        simp only [set_none] at hb4
        obtain ⟨h4c, h4b, h41, h4⟩ := hb4
        have hm4 : b4 ∉ [b] := by simp [h4b]
        refine race_mk [b] (by simp [Heap.set, h4b, Ne.symm h4b, hcb, Ne.symm hcb]) ?_
        simp only [go_sem, reduceIte, Nat.reduceEqDiff, Nat.reduceAdd, Nat.reduceSub, Nat.reduceLT, Nat.reduceLeDiff, reduceCtorEq, Int.reduceToNat, Int.reduceLE, Int.reduceLT, Int.reduceEq, Int.reduceNeg, Int.reduceAdd, Int.reduceSub, Nat.reduceMul, heap_ne _ (Ne.symm h4b), heap_ne _ h4b, heap_ne _ (Ne.symm h41), minus_out hm4, heap_ne _ (Ne.symm hcb)]
        repeat' (first | with_reducible refine And.intro ?_ ?_ | intro _ | simp only [go_sem, reduceIte, Nat.reduceEqDiff, Nat.reduceAdd, Nat.reduceSub, Nat.reduceLT, Nat.reduceLeDiff, reduceCtorEq, Int.reduceToNat, Int.reduceLE, Int.reduceLT, Int.reduceEq, Int.reduceNeg, Int.reduceAdd, Int.reduceSub, Nat.reduceMul, heap_ne _ (Ne.symm h4b), heap_ne _ h4b, heap_ne _ (Ne.symm h41), heap_ne _ hne, heap_ne _ (Ne.symm hne), heap_ne _ (Ne.symm hcb), heap_ne _ (Ne.symm hc1), heap_ne _ hcb] | simp (disch := omega) only [wrap64] | omega)
        rw [← hcut, cutN_bad _ _ f i acc (by omega) (by omega) ht] at h
        refine Fin.nilsl 5 _ (Fin.less ?_ (by simpa [resD, faultD, List.drop_take] using h))
        intro x o hx
        simp only [Heap.set, Heap.del] at hx ⊢
        by_cases xb : x = b
        · simp [xb] at hx
        rw [if_neg xb] at hx
        have x4 : x ≠ b4 := by rintro rfl; rw [h4] at hx; cases hx
        have x1 : x ≠ b1 := by rintro rfl; rw [hb1] at hx; cases hx
        have xc : x ≠ c := by rintro rfl; rw [hc0] at hx; cases hx
        simpa [xb, x4, x1, xc] using hx
  · have hie : i = s.size := by omega
    have hkd : decide ((i : Int) < s.size) = false := decide_eq_false (by omega)
    rw [cutN_end _ _ _ _ _ (by omega)] at hcut
    rw [← hcut] at h
    cases ob with
    | none =>
      have hacc0 := hnil rfl
      subst hacc0
      simp only [outD, outH]
      simp only [go_sem, reduceIte, Nat.reduceEqDiff, Nat.reduceAdd, Nat.reduceSub, Nat.reduceLT, Nat.reduceLeDiff, reduceCtorEq, Int.reduceToNat, Int.reduceLE, Int.reduceLT, Int.reduceEq, Int.reduceNeg, Int.reduceAdd, Int.reduceSub, Nat.reduceMul, rdr, hkd, heap_ne _ (Ne.symm hne)]
      refine Fin.nilsl 5 _ (Fin.less ?_ (by simpa [resD, faultD, S] using h))
      intro x o hx
      simp only [Heap.set, Heap.del] at hx ⊢
      by_cases xb : x = b
      · simp [xb] at hx
      rw [if_neg xb] at hx
      have x1 : x ≠ b1 := by rintro rfl; rw [hb1] at hx; cases hx
      simpa [xb, x1] using hx
    | some c =>
      obtain ⟨hc0, hc1⟩ := hob c rfl
      have hcb : c ≠ b := by rintro rfl; rw [hb] at hc0; cases hc0
      simp only [outD, outH]
      simp only [go_sem, reduceIte, Nat.reduceEqDiff, Nat.reduceAdd, Nat.reduceSub, Nat.reduceLT, Nat.reduceLeDiff, reduceCtorEq, Int.reduceToNat, Int.reduceLE, Int.reduceLT, Int.reduceEq, Int.reduceNeg, Int.reduceAdd, Int.reduceSub, Nat.reduceMul, rdr, hkd, heap_ne _ (Ne.symm hcb), heap_ne _ (Ne.symm hc1), heap_ne _ (Ne.symm hne)]
      refine Fin.slice1 (es := acc.map (tokD (B s))) ?_ (by simp) (Fin.less ?_ (by simpa [resD, faultD, S] using h))
      · simp only [heap_ne _ hc1, heap_same]
      · intro x o hx
        simp only [Heap.set, Heap.del] at hx ⊢
        by_cases xb : x = b
        · simp [xb] at hx
        rw [if_neg xb] at hx
        have x1 : x ≠ b1 := by rintro rfl; rw [hb1] at hx; cases hx
        have xc : x ≠ c := by rintro rfl; rw [hc0] at hx; cases hx
        simpa [xb, x1, xc] using hx
end Go.Proofs.YtlbojoghnapbfaaDoor
