/- The law LexBlanks, walked. -/
import Derived.Test.YtlbojoghnapbfaaDoorLawAwake
import Derived.Test.YtlbojoghnapbfaaDoorLexLaw
import Derived.Test.YtlbojoghnapbfaaDoorRefText
import Derived.Test.YtlbojoghnapbfaaDoorLawForm
set_option linter.unusedSimpArgs false
set_option linter.unusedVariables false
namespace Go.Lexs
open Go.Av
/-- The blanks and comments that the law puts between tokens. -/
def mores : List (List UInt8) := [[32], [9], [10], [13, 10], [32, 47, 47, 32, 97, 32, 34, 32, 98, 10], [32, 47, 47, 10, 47, 47, 120, 10, 32]]
theorem more_ok (m : Nat) (h : m < 6) : SepOk (mores.getD m []) ∧ SepOk (mores.getD m [] ++ [32]) ∧ (mores.getD m []).length ≤ 10 := by
  have hl : ∀ (a r : List UInt8), (∀ c ∈ a, c.toNat ≠ 10) → lineLen (a ++ 10 :: r) = a.length := by
    intro a r
    induction a with
    | nil => intro _; rfl
    | cons c a ih =>
      intro h
      rw [List.cons_append, lineLen, if_neg (h c (by simp)), ih (fun d hd => h d (by simp [hd]))]; rfl
  have line : ∀ (a r : List UInt8), (∀ c ∈ a, c.toNat ≠ 10) → sk (47 :: 47 :: (a ++ 10 :: r)) = a.length + 3 + sk r := by
    intro a r h
    rw [sk_line (by decide) (by simp [slashes, List.isPrefixOf])]
    have e : lineLen (47 :: 47 :: (a ++ 10 :: r)) = a.length + 2 := hl (47 :: 47 :: a) r (by simpa using h)
    have e2 : (47 :: 47 :: (a ++ 10 :: r)).drop (a.length + 2) = 10 :: r := by
      rw [List.drop_succ_cons, List.drop_succ_cons, List.drop_left]
    rw [e, e2, sk_blank (by decide)]; omega
  have blk : ∀ (c : UInt8) (r : List UInt8), ofB blankI c = true → sk (c :: r) = 1 + sk r := fun c r h => sk_blank h
  have c4 : ∀ r, sk ([32, 47, 47, 32, 97, 32, 34, 32, 98, 10] ++ r) = 10 + sk r := fun r => by
    show sk (32 :: 47 :: 47 :: ([32, 97, 32, 34, 32, 98] ++ 10 :: r)) = _
    rw [blk 32 _ (by decide), line _ _ (by decide)]; simp; omega
  have c5 : ∀ r, sk ([32, 47, 47, 10, 47, 47, 120, 10, 32] ++ r) = 9 + sk r := fun r => by
    show sk (32 :: 47 :: 47 :: ([] ++ 10 :: 47 :: 47 :: ([120] ++ 10 :: 32 :: r))) = _
    rw [blk 32 _ (by decide), line _ _ (by simp), line _ _ (by decide), blk 32 _ (by decide)]; simp; omega
  match m, h with
  | 0, _ => exact ⟨⟨⟨32, [], rfl, by decide⟩, fun r hr => by show sk (32 :: r) = 1; rw [blk _ _ (by decide), hr]⟩, ⟨⟨32, [32], rfl, by decide⟩, fun r hr => by show sk (32 :: 32 :: r) = 2; rw [blk _ _ (by decide), blk _ _ (by decide), hr]⟩, by decide⟩
  | 1, _ => exact ⟨⟨⟨9, [], rfl, by decide⟩, fun r hr => by show sk (9 :: r) = 1; rw [blk _ _ (by decide), hr]⟩, ⟨⟨9, [32], rfl, by decide⟩, fun r hr => by show sk (9 :: 32 :: r) = 2; rw [blk _ _ (by decide), blk _ _ (by decide), hr]⟩, by decide⟩
  | 2, _ => exact ⟨⟨⟨10, [], rfl, by decide⟩, fun r hr => by show sk (10 :: r) = 1; rw [blk _ _ (by decide), hr]⟩, ⟨⟨10, [32], rfl, by decide⟩, fun r hr => by show sk (10 :: 32 :: r) = 2; rw [blk _ _ (by decide), blk _ _ (by decide), hr]⟩, by decide⟩
  | 3, _ => exact ⟨⟨⟨13, [10], rfl, by decide⟩, fun r hr => by show sk (13 :: 10 :: r) = 2; rw [blk _ _ (by decide), blk _ _ (by decide), hr]⟩, ⟨⟨13, [10, 32], rfl, by decide⟩, fun r hr => by show sk (13 :: 10 :: 32 :: r) = 3; rw [blk _ _ (by decide), blk _ _ (by decide), blk _ _ (by decide), hr]⟩, by decide⟩
  | 4, _ => exact ⟨⟨⟨32, _, rfl, by decide⟩, fun r hr => by show sk ([32, 47, 47, 32, 97, 32, 34, 32, 98, 10] ++ r) = 10; rw [c4, hr]⟩, ⟨⟨32, _, rfl, by decide⟩, fun r hr => by show sk ([32, 47, 47, 32, 97, 32, 34, 32, 98, 10] ++ (32 :: r)) = 11; rw [c4, blk _ _ (by decide), hr]⟩, by decide⟩
  | 5, _ => exact ⟨⟨⟨32, _, rfl, by decide⟩, fun r hr => by show sk ([32, 47, 47, 10, 47, 47, 120, 10, 32] ++ r) = 9; rw [c5, hr]⟩, ⟨⟨32, _, rfl, by decide⟩, fun r hr => by show sk ([32, 47, 47, 10, 47, 47, 120, 10, 32] ++ (32 :: r)) = 10; rw [c5, blk _ _ (by decide), hr]⟩, by decide⟩
theorem laid_snoc (sep : List UInt8) (l : List Tk) (k : Nat) (h : k < l.length) : laid sep (l.take (k + 1)) = laid sep (l.take k) ++ (shown l[k] ++ sep) := by
  unfold laid
  rw [List.take_succ_eq_append_getElem h]
  simp only [List.map_append, List.flatten_append, List.map_cons, List.map_nil, List.flatten_cons, List.flatten_nil, List.append_nil]
theorem laid_len (sep : List UInt8) (hs : sep.length ≤ 11) : ∀ (l : List Tk), l.all isTok = true → (laid sep l).length ≤ 221 * l.length
  | [], _ => by simp [laid]
  | t :: l, h => by
    rw [List.all_cons, Bool.and_eq_true] at h
    have h1 := shown_le t h.1
    have h2 := laid_len sep hs l h.2
    unfold laid at h2 ⊢
    rw [List.map_cons, List.flatten_cons, List.length_append, List.length_append, List.length_cons]
    omega
end Go.Lexs
namespace Go.Proofs.YtlbojoghnapbfaaDoor
open Go Go.Av Go.Lexs
attribute [local irreducible] ACalls at8

/-- What the law cuts again is what was cut. -/
theorem blanks_cut (s : ByteArray) (signs : List ByteArray) (hs : s.size ≤ 3000) (hl : signs.length ≤ 400) (ts : List (Tok × Nat)) (hv : signs.any (fun x => !isSign (B x)) = false) (hc : cut (signs.map B) (B s) = .ok ts)
    (m : Nat) (hm : m < 6) (sep : List UInt8) (hsep : SepOk sep) :
    (∀ t ∈ ts.map (tkOf (B s)), Cuts (signs.map B) t) ∧ ts.length ≤ 3001 ∧ ∃ us, (¬ 20000 < (mores.getD m [] ++ laid sep (ts.map (tkOf (B s)))).length → lexR (S (mores.getD m [] ++ laid sep (ts.map (tkOf (B s))))) signs = .tuple [.sl 5 (tksD us), faultD 0 [] 0 0]) ∧ sameT (ts.map (tkOf (B s))) us = true ∧ us.length ≤ 1000000 := by
  have hsg : ∀ x ∈ signs.map B, isSign x = true := by
    intro x hx
    obtain ⟨y, hy, rfl⟩ := List.mem_map.1 hx
    have := List.any_eq_false.1 hv y hy
    simpa using this
  have hcuts : ∀ t ∈ ts.map (tkOf (B s)), Cuts (signs.map B) t := by
    intro t ht
    obtain ⟨x, hx, rfl⟩ := List.mem_map.1 ht
    exact cut_cuts hsg hc x hx _ _
  have hlen := cut_len hc
  rw [B_len] at hlen
  obtain ⟨us, h1, h2⟩ := cut_words _ hsg (mores.getD m []) (.inr (more_ok m hm).1) _ _ (chain_laid sep hsep _) hcuts
  refine ⟨hcuts, by omega, us.map (tkOf (mores.getD m [] ++ laid sep (ts.map (tkOf (B s))))), fun hn => ?_, sameT_words _ _ us h2, ?_⟩
  · unfold lexR
    rw [if_neg (by rw [S_size]; exact hn), if_neg (by rw [hv]; simp; omega), B_S, h1]
    simp only [resD, toks_tk]
  · have := congrArg List.length h2
    rw [List.length_map, List.length_map, List.length_map] at this
    rw [List.length_map]; omega
theorem tok_text (t : Tk) (h : isTok t = true) : t.text.length ≤ 4611686018427387904 := by
  have := shown_le t h
  by_cases h2 : t.kind = 2
  · unfold isTok at h
    rw [if_neg (by omega), if_pos h2] at h
    simp only [Bool.and_eq_true, decide_eq_true_eq] at h
    rw [h.1.1]; simp
  · unfold shown at this
    rw [if_neg h2] at this
    split at this
    · simp at this; omega
    · omega

set_option maxHeartbeats 4000000 in
set_option maxRecDepth 10000 in
theorem lexBlanks_a {Q} (s : ByteArray) (signs : List ByteArray) (n : Int) (hs : s.size ≤ 4611686018427387904) (hl : signs.length ≤ 4611686018427387904) (hz : ∀ s ∈ signs, s.size ≤ 4611686018427387904) (hn : 0 ≤ n ∧ n ≤ 255) (H : Heap) (hT : Tabs H) (h : Q (.bool true) H) :
    ACalls Tryd.prog 5 [.str s, .sl 1 (strsD signs), .int .u8 n] H Q := by
  refine acalls_of_wp [] Tryd.mixed Tryd.func5 rfl (by kernel_rfl) (of_decide_eq_true (by kernel_rfl)) (by kernel_rfl) ?_
  simp only [go_sem, reduceIte, Nat.reduceEqDiff, Nat.reduceAdd, Nat.reduceSub, Nat.reduceLT, Nat.reduceLeDiff, reduceCtorEq, Int.reduceToNat, Int.reduceLE, Int.reduceLT, Int.reduceEq, Int.reduceNeg, Int.reduceAdd, Int.reduceSub, Nat.reduceMul, Tryd.results5]
  refine few_a s signs hs hl _ ?_
  cases hf : (decide (s.size ≤ 3000) && decide (signs.length ≤ 400)) with
  | false =>
    simp only [go_sem, reduceIte, Nat.reduceEqDiff, Nat.reduceAdd, Nat.reduceSub, Nat.reduceLT, Nat.reduceLeDiff, reduceCtorEq, Int.reduceToNat, Int.reduceLE, Int.reduceLT, Int.reduceEq, Int.reduceNeg, Int.reduceAdd, Int.reduceSub, Nat.reduceMul]
    refine awake_a _ hT ?_
    simp only [go_sem, reduceIte, Nat.reduceEqDiff, Nat.reduceAdd, Nat.reduceSub, Nat.reduceLT, Nat.reduceLeDiff, reduceCtorEq, Int.reduceToNat, Int.reduceLE, Int.reduceLT, Int.reduceEq, Int.reduceNeg, Int.reduceAdd, Int.reduceSub, Nat.reduceMul]
    exact Fin.same h
  | true =>
    rw [Bool.and_eq_true, decide_eq_true_eq, decide_eq_true_eq] at hf
    simp only [go_sem, reduceIte, Nat.reduceEqDiff, Nat.reduceAdd, Nat.reduceSub, Nat.reduceLT, Nat.reduceLeDiff, reduceCtorEq, Int.reduceToNat, Int.reduceLE, Int.reduceLT, Int.reduceEq, Int.reduceNeg, Int.reduceAdd, Int.reduceSub, Nat.reduceMul]
    refine lex_a s signs hs hl _ ?_
    cases hv : signs.any (fun x => !isSign (B x)) with
    | true =>
      have hR : lexR s signs = .tuple [.sl 5 [], faultD 2 [] 0 0] := by
        unfold lexR; rw [if_neg (by omega), if_pos (.inr hv)]
      rw [hR]
      have hz0 : ((0 : Nat) : Int) = 0 := rfl
      simp only [go_sem, reduceIte, Nat.reduceEqDiff, Nat.reduceAdd, Nat.reduceSub, Nat.reduceLT, Nat.reduceLeDiff, reduceCtorEq, Int.reduceToNat, Int.reduceLE, Int.reduceLT, Int.reduceEq, Int.reduceNeg, Int.reduceAdd, Int.reduceSub, Nat.reduceMul, faultD]
      intro b1 hb1
      simp only [go_sem, reduceIte, Nat.reduceEqDiff, Nat.reduceAdd, Nat.reduceSub, Nat.reduceLT, Nat.reduceLeDiff, reduceCtorEq, Int.reduceToNat, Int.reduceLE, Int.reduceLT, Int.reduceEq, Int.reduceNeg, Int.reduceAdd, Int.reduceSub, Nat.reduceMul, hz0]
      refine awake_a _ (hT.set _ hb1) ?_
      simp only [go_sem, reduceIte, Nat.reduceEqDiff, Nat.reduceAdd, Nat.reduceSub, Nat.reduceLT, Nat.reduceLeDiff, reduceCtorEq, Int.reduceToNat, Int.reduceLE, Int.reduceLT, Int.reduceEq, Int.reduceNeg, Int.reduceAdd, Int.reduceSub, Nat.reduceMul]
      exact Fin.less (heap_le_set hb1) h
    | false =>
    cases hc : cut (signs.map B) (B s) with
    | error i =>
      have hR : lexR s signs = .tuple [.sl 5 [], faultD 10 (((B s).drop i).take 1) (place (B s) i).1 (place (B s) i).2] := by
        unfold lexR; rw [if_neg (by omega), if_neg (by rw [hv]; simp; omega), hc]; rfl
      rw [hR]
      have hz0 : ((0 : Nat) : Int) = 0 := rfl
      simp only [go_sem, reduceIte, Nat.reduceEqDiff, Nat.reduceAdd, Nat.reduceSub, Nat.reduceLT, Nat.reduceLeDiff, reduceCtorEq, Int.reduceToNat, Int.reduceLE, Int.reduceLT, Int.reduceEq, Int.reduceNeg, Int.reduceAdd, Int.reduceSub, Nat.reduceMul, faultD]
      intro b1 hb1
      simp only [go_sem, reduceIte, Nat.reduceEqDiff, Nat.reduceAdd, Nat.reduceSub, Nat.reduceLT, Nat.reduceLeDiff, reduceCtorEq, Int.reduceToNat, Int.reduceLE, Int.reduceLT, Int.reduceEq, Int.reduceNeg, Int.reduceAdd, Int.reduceSub, Nat.reduceMul, hz0]
      refine awake_a _ (hT.set _ hb1) ?_
      simp only [go_sem, reduceIte, Nat.reduceEqDiff, Nat.reduceAdd, Nat.reduceSub, Nat.reduceLT, Nat.reduceLeDiff, reduceCtorEq, Int.reduceToNat, Int.reduceLE, Int.reduceLT, Int.reduceEq, Int.reduceNeg, Int.reduceAdd, Int.reduceSub, Nat.reduceMul]
      exact Fin.less (heap_le_set hb1) h
    | ok ts =>
      have hR : lexR s signs = .tuple [.sl 5 (tksD (ts.map (tkOf (B s)))), faultD 0 [] 0 0] := by
        unfold lexR; rw [if_neg (by omega), if_neg (by rw [hv]; simp; omega), hc]; simp only [resD, toks_tk]
      rw [hR]
      obtain ⟨m, hm6, hm⟩ : ∃ r : Nat, n.tmod 6 = (r : Int) ∧ r < 6 := ⟨(n.tmod 6).toNat, by rw [Int.tmod_eq_emod_of_nonneg hn.1]; omega, by rw [Int.tmod_eq_emod_of_nonneg hn.1]; omega⟩
      have hmt : [[D.str ⟨#[32]⟩], [D.str ⟨#[9]⟩], [D.str ⟨#[10]⟩], [D.str ⟨#[13, 10]⟩], [D.str ⟨#[32, 47, 47, 32, 97, 32, 34, 32, 98, 10]⟩], [D.str ⟨#[32, 47, 47, 10, 47, 47, 120, 10, 32]⟩]] = strsD (mores.map S) := rfl
      have hget : (strsD (mores.map S))[m]? = some [D.str (S (mores.getD m []))] := by
        match m, hm with
        | 0, _ => rfl
        | 1, _ => rfl
        | 2, _ => rfl
        | 3, _ => rfl
        | 4, _ => rfl
        | 5, _ => rfl
      simp only [go_sem, reduceIte, Nat.reduceEqDiff, Nat.reduceAdd, Nat.reduceSub, Nat.reduceLT, Nat.reduceLeDiff, reduceCtorEq, Int.reduceToNat, Int.reduceLE, Int.reduceLT, Int.reduceEq, Int.reduceNeg, Int.reduceAdd, Int.reduceSub, Nat.reduceMul, faultD]
      intro b1 hb1
      intro b2 hb2
      simp only [go_sem, reduceIte, Nat.reduceEqDiff, Nat.reduceAdd, Nat.reduceSub, Nat.reduceLT, Nat.reduceLeDiff, reduceCtorEq, Int.reduceToNat, Int.reduceLE, Int.reduceLT, Int.reduceEq, Int.reduceNeg, Int.reduceAdd, Int.reduceSub, Nat.reduceMul, hmt, hm6, hget]
      refine ⟨⟨by omega, by omega⟩, ?_⟩
      by_cases h3 : m < 3
      · have hm3 : (m : Int) < 3 := by omega
        obtain ⟨sep, hsepm⟩ : ∃ sep, sep = mores.getD m [] := ⟨_, rfl⟩
        obtain ⟨hcuts, htl, us, hus, hsame, hul⟩ := blanks_cut s signs hf.1 hf.2 ts hv hc m hm sep (by rw [hsepm]; exact (more_ok m hm).1)
        have hsl : sep.length ≤ 11 := by rw [hsepm]; have := (more_ok m hm).2.2; omega
        have hall : (ts.map (tkOf (B s))).all isTok = true := List.all_eq_true.2 fun t ht => (hcuts t ht).tok
        have hll0 : (ts.map (tkOf (B s))).length ≤ 3001 := by rw [List.length_map]; exact htl
        have hln : ts.length = (ts.map (tkOf (B s))).length := by rw [List.length_map]
        generalize ts.map (tkOf (B s)) = l at *
        refine loop_a (fun k : Nat => [(1, .sl 1 (strsD signs)), (2, .int .u8 n), (7, .sl 5 (tksD l)), (9, .str (S (mores.getD m []))), (10, .str (S (mores.getD m [] ++ laid sep (l.take k)))), (41, .sl 5 (tksD l)), (42, .int .i64 l.length), (43, .int .i64 k)])
          (fun _ => H) (fun k => k ≤ l.length) (fun k => l.length - k) 0 (Nat.zero_le _) (by simp only [go_sem, reduceIte, Nat.reduceEqDiff, Nat.reduceAdd, Nat.reduceSub, Nat.reduceLT, Nat.reduceLeDiff, reduceCtorEq, Int.reduceToNat, Int.reduceLE, Int.reduceLT, Int.reduceEq, Int.reduceNeg, Int.reduceAdd, Int.reduceSub, Nat.reduceMul]; simp [laid, hln]) ((heap_le_set hb1).trans (heap_le_set hb2)) ?_
        intro k hk
        by_cases hlt : k < l.length
        · have hkd : decide ((k : Int) < l.length) = true := decide_eq_true (by omega)
          have hat : (tksD l).getD k [] = [.int .i64 l[k].kind, .str (S l[k].text), .int .i64 l[k].n, .int .i64 l[k].line, .int .i64 l[k].col] := tksD_at l k hlt
          have htok : isTok l[k] = true := List.all_eq_true.1 hall _ (List.getElem_mem hlt)
          have hin := isTok_int _ htok
          have hfk : l[k].text.length ≤ 4611686018427387904 := tok_text _ htok
          have hsh := shown_le _ htok
          have hll := laid_len sep hsl (l.take k) (all_take l k hall)
          rw [List.length_take] at hll
          have hsn := laid_snoc sep l k hlt
          have hml := (more_ok m hm).2.2
          have e : S (mores.getD m [] ++ laid sep (l.take k)) ++ (S (shown l[k]) ++ S (mores.getD m [])) = S (mores.getD m [] ++ laid sep (l.take (k + 1))) := B_inj (by rw [B_app, B_app, B_S, B_S, B_S, B_S, hsn, hsepm, List.append_assoc])
          repeat' (first | with_reducible refine And.intro ?_ ?_ | intro _ | simp only [go_sem, reduceIte, Nat.reduceEqDiff, Nat.reduceAdd, Nat.reduceSub, Nat.reduceLT, Nat.reduceLeDiff, reduceCtorEq, Int.reduceToNat, Int.reduceLE, Int.reduceLT, Int.reduceEq, Int.reduceNeg, Int.reduceAdd, Int.reduceSub, Nat.reduceMul, hkd, hat, hm6, hm3, e, List.length_append] | simp (disch := omega) only [wrap64] | with_reducible refine rWord_a _ _ hin hfk ?_ | omega)
          exact nx_mk (k + 1) (by omega) (by omega) (by (try simp only [go_sem, reduceIte, Nat.reduceEqDiff, Nat.reduceAdd, Nat.reduceSub, Nat.reduceLT, Nat.reduceLeDiff, reduceCtorEq, Int.reduceToNat, Int.reduceLE, Int.reduceLT, Int.reduceEq, Int.reduceNeg, Int.reduceAdd, Int.reduceSub, Nat.reduceMul]) <;> (try simp (disch := omega) [wrap64]) <;> (try omega)) (heap_le_set (by assumption))
        · have hke : k = l.length := by omega
          subst hke
          have hkd : decide ((l.length : Int) < l.length) = false := decide_eq_false (by omega)
          rw [List.take_of_length_le (Nat.le_refl _)]
          have hll := laid_len sep hsl l hall
          have hml := (more_ok m hm).2.2
          simp only [go_sem, reduceIte, Nat.reduceEqDiff, Nat.reduceAdd, Nat.reduceSub, Nat.reduceLT, Nat.reduceLeDiff, reduceCtorEq, Int.reduceToNat, Int.reduceLE, Int.reduceLT, Int.reduceEq, Int.reduceNeg, Int.reduceAdd, Int.reduceSub, Nat.reduceMul, hkd]
          refine lex_a _ signs (by rw [S_size, List.length_append]; omega) hl _ ?_
          by_cases hbig : 20000 < (mores.getD m [] ++ laid sep l).length
          · have hR : lexR (S (mores.getD m [] ++ laid sep l)) signs = .tuple [.sl 5 [], faultD 3 [] 0 0] := by
              unfold lexR; rw [if_pos (by rw [S_size]; exact hbig)]
            have hbig' : (20000 : Int) < (mores.getD m [] ++ laid sep l).length := by omega
            rw [List.length_append] at hbig'
            rw [hR]
            simp only [go_sem, reduceIte, Nat.reduceEqDiff, Nat.reduceAdd, Nat.reduceSub, Nat.reduceLT, Nat.reduceLeDiff, reduceCtorEq, Int.reduceToNat, Int.reduceLE, Int.reduceLT, Int.reduceEq, Int.reduceNeg, Int.reduceAdd, Int.reduceSub, Nat.reduceMul, faultD]
            intro b9 hb9
            simp only [go_sem, reduceIte, Nat.reduceEqDiff, Nat.reduceAdd, Nat.reduceSub, Nat.reduceLT, Nat.reduceLeDiff, reduceCtorEq, Int.reduceToNat, Int.reduceLE, Int.reduceLT, Int.reduceEq, Int.reduceNeg, Int.reduceAdd, Int.reduceSub, Nat.reduceMul, hbig']
            refine awake_a _ (hT.set _ hb9) ?_
            simp only [go_sem, reduceIte, Nat.reduceEqDiff, Nat.reduceAdd, Nat.reduceSub, Nat.reduceLT, Nat.reduceLeDiff, reduceCtorEq, Int.reduceToNat, Int.reduceLE, Int.reduceLT, Int.reduceEq, Int.reduceNeg, Int.reduceAdd, Int.reduceSub, Nat.reduceMul]
            exact Fin.less (heap_le_set hb9) h
          · rw [hus hbig]
            simp only [go_sem, reduceIte, Nat.reduceEqDiff, Nat.reduceAdd, Nat.reduceSub, Nat.reduceLT, Nat.reduceLeDiff, reduceCtorEq, Int.reduceToNat, Int.reduceLE, Int.reduceLT, Int.reduceEq, Int.reduceNeg, Int.reduceAdd, Int.reduceSub, Nat.reduceMul, faultD]
            intro b9 hb9
            refine same_a l us _ (by omega) hul ?_
            rw [hsame]
            simp only [go_sem, reduceIte, Nat.reduceEqDiff, Nat.reduceAdd, Nat.reduceSub, Nat.reduceLT, Nat.reduceLeDiff, reduceCtorEq, Int.reduceToNat, Int.reduceLE, Int.reduceLT, Int.reduceEq, Int.reduceNeg, Int.reduceAdd, Int.reduceSub, Nat.reduceMul]
            refine awake_a _ (hT.set _ hb9) ?_
            simp only [go_sem, reduceIte, Nat.reduceEqDiff, Nat.reduceAdd, Nat.reduceSub, Nat.reduceLT, Nat.reduceLeDiff, reduceCtorEq, Int.reduceToNat, Int.reduceLE, Int.reduceLT, Int.reduceEq, Int.reduceNeg, Int.reduceAdd, Int.reduceSub, Nat.reduceMul]
            exact Fin.less (heap_le_set hb9) h
      · have hm3 : ¬ (m : Int) < 3 := by omega
        obtain ⟨sep, hsepm⟩ : ∃ sep, sep = mores.getD m [] ++ [32] := ⟨_, rfl⟩
        obtain ⟨hcuts, htl, us, hus, hsame, hul⟩ := blanks_cut s signs hf.1 hf.2 ts hv hc m hm sep (by rw [hsepm]; exact (more_ok m hm).2.1)
        have hsl : sep.length ≤ 11 := by rw [hsepm, List.length_append]; have := (more_ok m hm).2.2; show _ + 1 ≤ 11; omega
        have hall : (ts.map (tkOf (B s))).all isTok = true := List.all_eq_true.2 fun t ht => (hcuts t ht).tok
        have hll0 : (ts.map (tkOf (B s))).length ≤ 3001 := by rw [List.length_map]; exact htl
        have hln : ts.length = (ts.map (tkOf (B s))).length := by rw [List.length_map]
        generalize ts.map (tkOf (B s)) = l at *
        refine loop_a (fun k : Nat => [(1, .sl 1 (strsD signs)), (2, .int .u8 n), (7, .sl 5 (tksD l)), (9, .str (S (mores.getD m []))), (10, .str (S (mores.getD m [] ++ laid sep (l.take k)))), (41, .sl 5 (tksD l)), (42, .int .i64 l.length), (43, .int .i64 k)])
          (fun _ => H) (fun k => k ≤ l.length) (fun k => l.length - k) 0 (Nat.zero_le _) (by simp only [go_sem, reduceIte, Nat.reduceEqDiff, Nat.reduceAdd, Nat.reduceSub, Nat.reduceLT, Nat.reduceLeDiff, reduceCtorEq, Int.reduceToNat, Int.reduceLE, Int.reduceLT, Int.reduceEq, Int.reduceNeg, Int.reduceAdd, Int.reduceSub, Nat.reduceMul]; simp [laid, hln]) ((heap_le_set hb1).trans (heap_le_set hb2)) ?_
        intro k hk
        by_cases hlt : k < l.length
        · have hkd : decide ((k : Int) < l.length) = true := decide_eq_true (by omega)
          have hat : (tksD l).getD k [] = [.int .i64 l[k].kind, .str (S l[k].text), .int .i64 l[k].n, .int .i64 l[k].line, .int .i64 l[k].col] := tksD_at l k hlt
          have htok : isTok l[k] = true := List.all_eq_true.1 hall _ (List.getElem_mem hlt)
          have hin := isTok_int _ htok
          have hfk : l[k].text.length ≤ 4611686018427387904 := tok_text _ htok
          have hsh := shown_le _ htok
          have hll := laid_len sep hsl (l.take k) (all_take l k hall)
          rw [List.length_take] at hll
          have hsn := laid_snoc sep l k hlt
          have hml := (more_ok m hm).2.2
          have e : S (mores.getD m [] ++ laid sep (l.take k)) ++ (S (shown l[k]) ++ S (mores.getD m [])) ++ ⟨#[32]⟩ = S (mores.getD m [] ++ laid sep (l.take (k + 1))) := B_inj (by
            have e32 : B ⟨#[32]⟩ = [32] := B_lit [32]
            rw [B_app, B_app, B_app, B_S, B_S, B_S, B_S, hsn, hsepm, e32]; simp only [List.append_assoc])
          repeat' (first | with_reducible refine And.intro ?_ ?_ | intro _ | simp only [go_sem, reduceIte, Nat.reduceEqDiff, Nat.reduceAdd, Nat.reduceSub, Nat.reduceLT, Nat.reduceLeDiff, reduceCtorEq, Int.reduceToNat, Int.reduceLE, Int.reduceLT, Int.reduceEq, Int.reduceNeg, Int.reduceAdd, Int.reduceSub, Nat.reduceMul, hkd, hat, hm6, hm3, e, List.length_append] | simp (disch := omega) only [wrap64] | with_reducible refine rWord_a _ _ hin hfk ?_ | omega)
          exact nx_mk (k + 1) (by omega) (by omega) (by (try simp only [go_sem, reduceIte, Nat.reduceEqDiff, Nat.reduceAdd, Nat.reduceSub, Nat.reduceLT, Nat.reduceLeDiff, reduceCtorEq, Int.reduceToNat, Int.reduceLE, Int.reduceLT, Int.reduceEq, Int.reduceNeg, Int.reduceAdd, Int.reduceSub, Nat.reduceMul]) <;> (try simp (disch := omega) [wrap64]) <;> (try omega)) (heap_le_set (by assumption))
        · have hke : k = l.length := by omega
          subst hke
          have hkd : decide ((l.length : Int) < l.length) = false := decide_eq_false (by omega)
          rw [List.take_of_length_le (Nat.le_refl _)]
          have hll := laid_len sep hsl l hall
          have hml := (more_ok m hm).2.2
          simp only [go_sem, reduceIte, Nat.reduceEqDiff, Nat.reduceAdd, Nat.reduceSub, Nat.reduceLT, Nat.reduceLeDiff, reduceCtorEq, Int.reduceToNat, Int.reduceLE, Int.reduceLT, Int.reduceEq, Int.reduceNeg, Int.reduceAdd, Int.reduceSub, Nat.reduceMul, hkd]
          refine lex_a _ signs (by rw [S_size, List.length_append]; omega) hl _ ?_
          by_cases hbig : 20000 < (mores.getD m [] ++ laid sep l).length
          · have hR : lexR (S (mores.getD m [] ++ laid sep l)) signs = .tuple [.sl 5 [], faultD 3 [] 0 0] := by
              unfold lexR; rw [if_pos (by rw [S_size]; exact hbig)]
            have hbig' : (20000 : Int) < (mores.getD m [] ++ laid sep l).length := by omega
            rw [List.length_append] at hbig'
            rw [hR]
            simp only [go_sem, reduceIte, Nat.reduceEqDiff, Nat.reduceAdd, Nat.reduceSub, Nat.reduceLT, Nat.reduceLeDiff, reduceCtorEq, Int.reduceToNat, Int.reduceLE, Int.reduceLT, Int.reduceEq, Int.reduceNeg, Int.reduceAdd, Int.reduceSub, Nat.reduceMul, faultD]
            intro b9 hb9
            simp only [go_sem, reduceIte, Nat.reduceEqDiff, Nat.reduceAdd, Nat.reduceSub, Nat.reduceLT, Nat.reduceLeDiff, reduceCtorEq, Int.reduceToNat, Int.reduceLE, Int.reduceLT, Int.reduceEq, Int.reduceNeg, Int.reduceAdd, Int.reduceSub, Nat.reduceMul, hbig']
            refine awake_a _ (hT.set _ hb9) ?_
            simp only [go_sem, reduceIte, Nat.reduceEqDiff, Nat.reduceAdd, Nat.reduceSub, Nat.reduceLT, Nat.reduceLeDiff, reduceCtorEq, Int.reduceToNat, Int.reduceLE, Int.reduceLT, Int.reduceEq, Int.reduceNeg, Int.reduceAdd, Int.reduceSub, Nat.reduceMul]
            exact Fin.less (heap_le_set hb9) h
          · rw [hus hbig]
            simp only [go_sem, reduceIte, Nat.reduceEqDiff, Nat.reduceAdd, Nat.reduceSub, Nat.reduceLT, Nat.reduceLeDiff, reduceCtorEq, Int.reduceToNat, Int.reduceLE, Int.reduceLT, Int.reduceEq, Int.reduceNeg, Int.reduceAdd, Int.reduceSub, Nat.reduceMul, faultD]
            intro b9 hb9
            refine same_a l us _ (by omega) hul ?_
            rw [hsame]
            simp only [go_sem, reduceIte, Nat.reduceEqDiff, Nat.reduceAdd, Nat.reduceSub, Nat.reduceLT, Nat.reduceLeDiff, reduceCtorEq, Int.reduceToNat, Int.reduceLE, Int.reduceLT, Int.reduceEq, Int.reduceNeg, Int.reduceAdd, Int.reduceSub, Nat.reduceMul]
            refine awake_a _ (hT.set _ hb9) ?_
            simp only [go_sem, reduceIte, Nat.reduceEqDiff, Nat.reduceAdd, Nat.reduceSub, Nat.reduceLT, Nat.reduceLeDiff, reduceCtorEq, Int.reduceToNat, Int.reduceLE, Int.reduceLT, Int.reduceEq, Int.reduceNeg, Int.reduceAdd, Int.reduceSub, Nat.reduceMul]
            exact Fin.less (heap_le_set hb9) h
end Go.Proofs.YtlbojoghnapbfaaDoor
