/- The law LexBack, walked. -/
import Derived.Test.YtlbojoghnapbfaaDoorLawAwake
import Derived.Test.YtlbojoghnapbfaaDoorLexLaw
set_option linter.unusedSimpArgs false
set_option linter.unusedVariables false
namespace Go.Proofs.YtlbojoghnapbfaaDoor
open Go Go.Av Go.Lexs
attribute [local irreducible] ACalls at8

def sgOf (l : List Tk) : List ByteArray := (l.filter fun t => decide (t.kind = 4)).map fun t => S t.text
theorem sgOf_snoc (l : List Tk) (k : Nat) (h : k < l.length) : sgOf (l.take (k + 1)) = if l[k].kind = 4 then sgOf (l.take k) ++ [S l[k].text] else sgOf (l.take k) := by
  unfold sgOf
  rw [List.take_succ_eq_append_getElem h, List.filter_append]
  by_cases hk : l[k].kind = 4
  · rw [if_pos hk]; simp [hk]
  · rw [if_neg hk]; simp [hk]
theorem sgOf_len (l : List Tk) : (sgOf l).length ≤ l.length := by
  unfold sgOf
  rw [List.length_map]
  exact List.length_filter_le _ _

theorem comment_a {Q} (s : ByteArray) (hs : s.size ≤ 4611686018427387904) (H : Heap) (h : Q (.bool (List.isPrefixOf [47, 47] (B s))) H) : ACalls Tryd.prog 12 [.str s] H Q := by
  refine acalls_of_wp [] Tryd.mixed Tryd.func12 rfl (by kernel_rfl) (of_decide_eq_true (by kernel_rfl)) (by kernel_rfl) ?_
  simp only [go_sem, reduceIte, Nat.reduceEqDiff, Nat.reduceAdd, Nat.reduceSub, Nat.reduceLT, Nat.reduceLeDiff, reduceCtorEq, Int.reduceToNat, Int.reduceLE, Int.reduceLT, Int.reduceEq, Int.reduceNeg, Int.reduceAdd, Int.reduceSub, Nat.reduceMul, Tryd.results12]
  have hl := B_len s
  by_cases h2 : 2 ≤ s.size
  · have h2' : (2 : Int) ≤ s.size := by omega
    have e : decide ((B s).take 2 = [47, 47]) = List.isPrefixOf [47, 47] (B s) := by
      cases hp : List.isPrefixOf [47, 47] (B s) with
      | true => exact decide_eq_true (List.prefix_iff_eq_take.1 (List.isPrefixOf_iff_prefix.1 hp)).symm
      | false =>
        refine decide_eq_false fun e => ?_
        have : List.isPrefixOf [47, 47] (B s) = true := List.isPrefixOf_iff_prefix.2 (List.prefix_iff_eq_take.2 e.symm)
        rw [hp] at this; cases this
    repeat' (first | with_reducible refine And.intro ?_ ?_ | intro _ | simp only [go_sem, reduceIte, Nat.reduceEqDiff, Nat.reduceAdd, Nat.reduceSub, Nat.reduceLT, Nat.reduceLeDiff, reduceCtorEq, Int.reduceToNat, Int.reduceLE, Int.reduceLT, Int.reduceEq, Int.reduceNeg, Int.reduceAdd, Int.reduceSub, Nat.reduceMul, h2'] | simp (disch := omega) only [wrap64] | omega)
    · rw [e]; exact Fin.same h
  · have h2' : ¬ (2 : Int) ≤ s.size := by omega
    have e : List.isPrefixOf [47, 47] (B s) = false := by
      rw [← Bool.not_eq_true, List.isPrefixOf_iff_prefix]
      intro hp
      have := hp.length_le
      simp at this; omega
    rw [e] at h
    repeat' (first | with_reducible refine And.intro ?_ ?_ | intro _ | simp only [go_sem, reduceIte, Nat.reduceEqDiff, Nat.reduceAdd, Nat.reduceSub, Nat.reduceLT, Nat.reduceLeDiff, reduceCtorEq, Int.reduceToNat, Int.reduceLE, Int.reduceLT, Int.reduceEq, Int.reduceNeg, Int.reduceAdd, Int.reduceSub, Nat.reduceMul, h2'] | simp (disch := omega) only [wrap64] | omega)
    exact Fin.same h

/-- Of the signs among the first tokens none begins a comment, and none is one of a definition's two more. -/
def Quiet (l : List Tk) : Prop := ∀ t ∈ l, t.kind = 4 → List.isPrefixOf [47, 47] t.text = false ∧ t.text ≠ [39] ∧ t.text ≠ [95]

theorem quiet_snoc (l : List Tk) (k : Nat) (hk : k < l.length) (hq : Quiet (l.take k)) (h : l[k].kind = 4 → List.isPrefixOf [47, 47] l[k].text = false ∧ l[k].text ≠ [39] ∧ l[k].text ≠ [95]) : Quiet (l.take (k + 1)) := by
  intro t ht
  rw [List.take_succ_eq_append_getElem hk] at ht
  rcases List.mem_append.1 ht with ht | ht
  · exact hq t ht
  · simp at ht
    subst ht
    exact h

theorem back_cut (l : List Tk) (hall : l.all isTok = true) (hq : Quiet l) (hsum : sumShown l ≤ 20001) (hlen : l.length ≤ 300) :
    ∃ ts, lexR (S (Lib.join (l.map shown) [32])) (sgOf l) = .tuple [.sl 5 (tksD ts), faultD 0 [] 0 0] ∧ sameT l ts = true ∧ ts.length ≤ 1000000 := by
  have hm : (sgOf l).map B = (l.filter fun t => decide (t.kind = 4)).map (·.text) := by
    unfold sgOf
    rw [List.map_map]
    exact List.map_congr_left fun t _ => B_S _
  have hsg : ∀ s ∈ (sgOf l).map B, isSign s = true := by
    intro s hs
    rw [hm] at hs
    obtain ⟨t, ht, rfl⟩ := List.mem_map.1 hs
    obtain ⟨htl, hk⟩ := List.mem_filter.1 ht
    have hk' : t.kind = 4 := by simpa using hk
    have htok := List.all_eq_true.1 hall t htl
    have := hq t htl hk'
    unfold isTok at htok
    rw [if_neg (by omega), if_neg (by omega), if_neg (by omega), if_pos hk'] at htok
    simp only [Bool.and_eq_true, Bool.or_eq_true, decide_eq_true_eq] at htok
    rcases htok.1 with (h | h) | h
    · exact h
    · exact absurd h this.2.1
    · exact absurd h this.2.2
  have hcuts : ∀ t ∈ l, Cuts ((sgOf l).map B) t := fun t ht => by
    refine ⟨List.all_eq_true.1 hall t ht, fun hk => ?_⟩
    have hmem : t.text ∈ (sgOf l).map B := by
      rw [hm]; exact List.mem_map.2 ⟨t, List.mem_filter.2 ⟨ht, by simpa using hk⟩, rfl⟩
    exact ⟨hsg _ hmem, hmem, (hq t ht hk).1⟩
  obtain ⟨ts, h1, h2⟩ := cut_words _ hsg [] (.inl rfl) l _ (chain_joined l) hcuts
  rw [List.nil_append] at h1
  have hj := join_sum l
  have hany : (sgOf l).any (fun x => !isSign (B x)) = false := by
    rw [List.any_eq_false]
    intro x hx
    simp [hsg (B x) (List.mem_map.2 ⟨x, hx, rfl⟩)]
  have hsl := sgOf_len l
  refine ⟨ts.map fun x => ⟨x.1.kind, x.1.text, x.1.n, (place (Lib.join (l.map shown) [32]) x.2).1, (place (Lib.join (l.map shown) [32]) x.2).2⟩, ?_, sameT_words _ l ts h2, ?_⟩
  · unfold lexR
    rw [if_neg (by rw [S_size, hj]; omega), if_neg (by rw [hany]; simp; omega), B_S, h1]
    unfold resD tksD
    rw [List.map_map]
    rfl
  · have := congrArg List.length h2
    rw [List.length_map, List.length_map] at this
    rw [List.length_map]; omega

theorem lexBack_a {Q} (l : List Tk) (hl : l.length ≤ 4611686018427387904) (hf : ∀ t ∈ l, TkFit t) (H : Heap) (hT : Tabs H) (h : Q (.bool true) H) : ACalls Tryd.prog 4 [.sl 5 (tksD l)] H Q := by
  refine acalls_of_wp [] Tryd.mixed Tryd.func4 rfl (by kernel_rfl) (of_decide_eq_true (by kernel_rfl)) (by kernel_rfl) ?_
  simp only [go_sem, reduceIte, Nat.reduceEqDiff, Nat.reduceAdd, Nat.reduceSub, Nat.reduceLT, Nat.reduceLeDiff, reduceCtorEq, Int.reduceToNat, Int.reduceLE, Int.reduceLT, Int.reduceEq, Int.reduceNeg, Int.reduceAdd, Int.reduceSub, Nat.reduceMul, Tryd.results4]
  by_cases hbig : 300 < l.length
  · have hd : (300 : Int) < l.length := by omega
    simp only [go_sem, reduceIte, Nat.reduceEqDiff, Nat.reduceAdd, Nat.reduceSub, Nat.reduceLT, Nat.reduceLeDiff, reduceCtorEq, Int.reduceToNat, Int.reduceLE, Int.reduceLT, Int.reduceEq, Int.reduceNeg, Int.reduceAdd, Int.reduceSub, Nat.reduceMul, hd]
    refine awake_a _ hT ?_
    simp only [go_sem, reduceIte, Nat.reduceEqDiff, Nat.reduceAdd, Nat.reduceSub, Nat.reduceLT, Nat.reduceLeDiff, reduceCtorEq, Int.reduceToNat, Int.reduceLE, Int.reduceLT, Int.reduceEq, Int.reduceNeg, Int.reduceAdd, Int.reduceSub, Nat.reduceMul]
    exact Fin.same h
  · have hd : ¬ (300 : Int) < l.length := by omega
    simp only [go_sem, reduceIte, Nat.reduceEqDiff, Nat.reduceAdd, Nat.reduceSub, Nat.reduceLT, Nat.reduceLeDiff, reduceCtorEq, Int.reduceToNat, Int.reduceLE, Int.reduceLT, Int.reduceEq, Int.reduceNeg, Int.reduceAdd, Int.reduceSub, Nat.reduceMul, hd]
    refine text_a l _ hT (by omega) hf ?_
    cases hall : l.all isTok with
    | false =>
      unfold textR
      rw [if_neg (by simp [hall])]
      simp only [go_sem, reduceIte, Nat.reduceEqDiff, Nat.reduceAdd, Nat.reduceSub, Nat.reduceLT, Nat.reduceLeDiff, reduceCtorEq, Int.reduceToNat, Int.reduceLE, Int.reduceLT, Int.reduceEq, Int.reduceNeg, Int.reduceAdd, Int.reduceSub, Nat.reduceMul]
      refine awake_a _ hT ?_
      simp only [go_sem, reduceIte, Nat.reduceEqDiff, Nat.reduceAdd, Nat.reduceSub, Nat.reduceLT, Nat.reduceLeDiff, reduceCtorEq, Int.reduceToNat, Int.reduceLE, Int.reduceLT, Int.reduceEq, Int.reduceNeg, Int.reduceAdd, Int.reduceSub, Nat.reduceMul]
      exact Fin.same h
    | true =>
      by_cases hsum : 20001 < sumShown l
      · unfold textR
        rw [if_pos hall, if_pos hsum]
        simp only [go_sem, reduceIte, Nat.reduceEqDiff, Nat.reduceAdd, Nat.reduceSub, Nat.reduceLT, Nat.reduceLeDiff, reduceCtorEq, Int.reduceToNat, Int.reduceLE, Int.reduceLT, Int.reduceEq, Int.reduceNeg, Int.reduceAdd, Int.reduceSub, Nat.reduceMul]
        refine awake_a _ hT ?_
        simp only [go_sem, reduceIte, Nat.reduceEqDiff, Nat.reduceAdd, Nat.reduceSub, Nat.reduceLT, Nat.reduceLeDiff, reduceCtorEq, Int.reduceToNat, Int.reduceLE, Int.reduceLT, Int.reduceEq, Int.reduceNeg, Int.reduceAdd, Int.reduceSub, Nat.reduceMul]
        exact Fin.same h
      · unfold textR
        rw [if_pos hall, if_neg hsum]
        simp only [go_sem, reduceIte, Nat.reduceEqDiff, Nat.reduceAdd, Nat.reduceSub, Nat.reduceLT, Nat.reduceLeDiff, reduceCtorEq, Int.reduceToNat, Int.reduceLE, Int.reduceLT, Int.reduceEq, Int.reduceNeg, Int.reduceAdd, Int.reduceSub, Nat.reduceMul]
        refine loop_a (fun (x : Nat × Option Nat) => [(0, .sl 5 (tksD l)), (3, .str (S (Lib.join (l.map shown) [32]))), (5, outG 1 (sgOf (l.take x.1)).length x.2), (34, .sl 5 (tksD l)), (35, .int .i64 l.length), (36, .int .i64 x.1)])
          (fun x => putB H 1 (strsD (sgOf (l.take x.1))) x.2) (fun x => x.1 ≤ l.length ∧ Quiet (l.take x.1) ∧ (x.2 = none → sgOf (l.take x.1) = []) ∧ ∀ c, x.2 = some c → H c = none) (fun x => l.length - x.1) (0, none)
          ⟨Nat.zero_le _, by intro t ht; simp at ht, by intro _; rfl, by simp⟩ (by simp only [go_sem, reduceIte, Nat.reduceEqDiff, Nat.reduceAdd, Nat.reduceSub, Nat.reduceLT, Nat.reduceLeDiff, reduceCtorEq, Int.reduceToNat, Int.reduceLE, Int.reduceLT, Int.reduceEq, Int.reduceNeg, Int.reduceAdd, Int.reduceSub, Nat.reduceMul]; rfl) (Heap.Le.refl _) ?_
        rintro ⟨k, ob⟩ ⟨hk, hq, h0, hob⟩
        simp only at hk hq h0 hob
        have hH : H.Le (putB H 1 (strsD (sgOf (l.take k))) ob) := by
          cases ob with
          | none => exact Heap.Le.refl H
          | some c => exact heap_le_set (hob c rfl)
        have hTp : Tabs (putB H 1 (strsD (sgOf (l.take k))) ob) := hT.le hH
        have hsl := sgOf_len (l.take k)
        rw [List.length_take] at hsl
        by_cases hlt : k < l.length
        · have hkd : decide ((k : Int) < l.length) = true := decide_eq_true (by omega)
          have hat : (tksD l).getD k [] = [.int .i64 l[k].kind, .str (S l[k].text), .int .i64 l[k].n, .int .i64 l[k].line, .int .i64 l[k].col] := tksD_at l k hlt
          have hsn := sgOf_snoc l k hlt
          have hfk : (S l[k].text).size ≤ 4611686018427387904 := by rw [S_size]; exact (hf l[k] (List.getElem_mem hlt)).2
          simp only [go_sem, reduceIte, Nat.reduceEqDiff, Nat.reduceAdd, Nat.reduceSub, Nat.reduceLT, Nat.reduceLeDiff, reduceCtorEq, Int.reduceToNat, Int.reduceLE, Int.reduceLT, Int.reduceEq, Int.reduceNeg, Int.reduceAdd, Int.reduceSub, Nat.reduceMul, hkd, hat]
          refine ⟨⟨by omega, by omega⟩, fun b hb => ?_⟩
          by_cases h4 : l[k].kind = 4
          · rw [if_pos h4] at hsn
            simp only [go_sem, reduceIte, Nat.reduceEqDiff, Nat.reduceAdd, Nat.reduceSub, Nat.reduceLT, Nat.reduceLeDiff, reduceCtorEq, Int.reduceToNat, Int.reduceLE, Int.reduceLT, Int.reduceEq, Int.reduceNeg, Int.reduceAdd, Int.reduceSub, Nat.reduceMul, h4]
            intro b3 hb3
            have good : List.isPrefixOf [47, 47] l[k].text = false → l[k].text ≠ [39] → l[k].text ≠ [95] → Quiet (l.take (k + 1)) := fun g1 g2 g3 => quiet_snoc l k hlt hq fun _ => ⟨g1, g2, g3⟩
            refine apS_out (strsD (sgOf (l.take k))) (by simp) (by simp [strsD]) ?_ (by simp; omega) (by simp; omega) fun b' hb' => ?_
            · cases ob with
              | none => simp only [OutAt]; rw [h0 rfl]; rfl
              | some c => have := hob c rfl; simp only [OutAt, putB] at *; exact (by simp only [Go.Av.Heap.set, Go.Av.Heap.del] at * <;> grind)
            have hb'' : H b' = none := by
              cases ob with
              | none => simp only [delB, putB, set_none] at hb'; exact hb'.2.2
              | some c => have := hob c rfl; simp only [delB, putB] at hb'; exact (by simp only [Go.Av.Heap.set, Go.Av.Heap.del] at * <;> grind)
            have hbx : ((delB (((putB H 1 (strsD (sgOf (l.take k))) ob).set b (.box [.int .i64 4, .str (S l[k].text), .int .i64 l[k].n, .int .i64 l[k].line, .int .i64 l[k].col])).set b3 (.vec 1 [[.str (S l[k].text)]])) ob).set b' (.vec 1 (strsD (sgOf (l.take k)) ++ [[.str (S l[k].text)]]))) b = some (.box [.int .i64 4, .str (S l[k].text), .int .i64 l[k].n, .int .i64 l[k].line, .int .i64 l[k].col]) := by
              cases ob with
              | none => simp only [delB, putB] at *; exact (by simp only [Go.Av.Heap.set, Go.Av.Heap.del] at * <;> grind)
              | some c => have := hob c rfl; simp only [delB, putB] at *; exact (by simp only [Go.Av.Heap.set, Go.Av.Heap.del] at * <;> grind)
            have hle2 : (putB H 1 (strsD (sgOf (l.take (k + 1)))) (some b')).Le ((delB (((putB H 1 (strsD (sgOf (l.take k))) ob).set b (.box [.int .i64 4, .str (S l[k].text), .int .i64 l[k].n, .int .i64 l[k].line, .int .i64 l[k].col])).set b3 (.vec 1 [[.str (S l[k].text)]])) ob).set b' (.vec 1 (strsD (sgOf (l.take k)) ++ [[.str (S l[k].text)]]))) := by
              rw [hsn]
              have e : strsD (sgOf (l.take k) ++ [S l[k].text]) = strsD (sgOf (l.take k)) ++ [[.str (S l[k].text)]] := by simp [strsD]
              rw [e]
              cases ob with
              | none => simp only [delB, putB] at *; exact (by simp only [Go.Av.Heap.Le, Go.Av.Heap.set, Go.Av.Heap.del] at * <;> grind)
              | some c => have := hob c rfl; simp only [delB, putB] at *; exact (by simp only [Go.Av.Heap.Le, Go.Av.Heap.set, Go.Av.Heap.del] at * <;> grind)
            generalize (delB (((putB H 1 (strsD (sgOf (l.take k))) ob).set b (.box [.int .i64 4, .str (S l[k].text), .int .i64 l[k].n, .int .i64 l[k].line, .int .i64 l[k].col])).set b3 (.vec 1 [[.str (S l[k].text)]])) ob).set b' (.vec 1 (strsD (sgOf (l.take k)) ++ [[.str (S l[k].text)]])) = H2 at hbx hle2 ⊢
            have hT2 : Tabs H2 := (hT.le (heap_le_set hb'')).le hle2
            have hHle : H.Le H2 := (heap_le_set hb'').trans hle2
            simp only [go_sem, reduceIte, Nat.reduceEqDiff, Nat.reduceAdd, Nat.reduceSub, Nat.reduceLT, Nat.reduceLeDiff, reduceCtorEq, Int.reduceToNat, Int.reduceLE, Int.reduceLT, Int.reduceEq, Int.reduceNeg, Int.reduceAdd, Int.reduceSub, Nat.reduceMul, hbx]
            refine comment_a _ hfk _ ?_
            have awk : Av.Fin Q (.bool true) H2 := Fin.less hHle h
            cases hcm : List.isPrefixOf [47, 47] l[k].text with
            | true =>
              simp only [go_sem, reduceIte, Nat.reduceEqDiff, Nat.reduceAdd, Nat.reduceSub, Nat.reduceLT, Nat.reduceLeDiff, reduceCtorEq, Int.reduceToNat, Int.reduceLE, Int.reduceLT, Int.reduceEq, Int.reduceNeg, Int.reduceAdd, Int.reduceSub, Nat.reduceMul, hcm]
              refine awake_a _ hT2 ?_
              simp only [go_sem, reduceIte, Nat.reduceEqDiff, Nat.reduceAdd, Nat.reduceSub, Nat.reduceLT, Nat.reduceLeDiff, reduceCtorEq, Int.reduceToNat, Int.reduceLE, Int.reduceLT, Int.reduceEq, Int.reduceNeg, Int.reduceAdd, Int.reduceSub, Nat.reduceMul]
              exact awk
            | false =>
              simp only [go_sem, reduceIte, Nat.reduceEqDiff, Nat.reduceAdd, Nat.reduceSub, Nat.reduceLT, Nat.reduceLeDiff, reduceCtorEq, Int.reduceToNat, Int.reduceLE, Int.reduceLT, Int.reduceEq, Int.reduceNeg, Int.reduceAdd, Int.reduceSub, Nat.reduceMul, hcm, hbx]
              by_cases g2 : l[k].text = [39]
              · simp only [go_sem, reduceIte, Nat.reduceEqDiff, Nat.reduceAdd, Nat.reduceSub, Nat.reduceLT, Nat.reduceLeDiff, reduceCtorEq, Int.reduceToNat, Int.reduceLE, Int.reduceLT, Int.reduceEq, Int.reduceNeg, Int.reduceAdd, Int.reduceSub, Nat.reduceMul, g2]
                refine awake_a _ hT2 ?_
                simp only [go_sem, reduceIte, Nat.reduceEqDiff, Nat.reduceAdd, Nat.reduceSub, Nat.reduceLT, Nat.reduceLeDiff, reduceCtorEq, Int.reduceToNat, Int.reduceLE, Int.reduceLT, Int.reduceEq, Int.reduceNeg, Int.reduceAdd, Int.reduceSub, Nat.reduceMul]
                exact awk
              · simp only [go_sem, reduceIte, Nat.reduceEqDiff, Nat.reduceAdd, Nat.reduceSub, Nat.reduceLT, Nat.reduceLeDiff, reduceCtorEq, Int.reduceToNat, Int.reduceLE, Int.reduceLT, Int.reduceEq, Int.reduceNeg, Int.reduceAdd, Int.reduceSub, Nat.reduceMul, g2, hbx]
                by_cases g3 : l[k].text = [95]
                · simp only [go_sem, reduceIte, Nat.reduceEqDiff, Nat.reduceAdd, Nat.reduceSub, Nat.reduceLT, Nat.reduceLeDiff, reduceCtorEq, Int.reduceToNat, Int.reduceLE, Int.reduceLT, Int.reduceEq, Int.reduceNeg, Int.reduceAdd, Int.reduceSub, Nat.reduceMul, g3]
                  refine awake_a _ hT2 ?_
                  simp only [go_sem, reduceIte, Nat.reduceEqDiff, Nat.reduceAdd, Nat.reduceSub, Nat.reduceLT, Nat.reduceLeDiff, reduceCtorEq, Int.reduceToNat, Int.reduceLE, Int.reduceLT, Int.reduceEq, Int.reduceNeg, Int.reduceAdd, Int.reduceSub, Nat.reduceMul]
                  exact awk
                · simp only [go_sem, reduceIte, Nat.reduceEqDiff, Nat.reduceAdd, Nat.reduceSub, Nat.reduceLT, Nat.reduceLeDiff, reduceCtorEq, Int.reduceToNat, Int.reduceLE, Int.reduceLT, Int.reduceEq, Int.reduceNeg, Int.reduceAdd, Int.reduceSub, Nat.reduceMul, g3]
                  refine nx_mk (k + 1, some b') ⟨by simp only []; omega, good hcm g2 g3, by simp, fun c hc => by simp only [Option.some.injEq] at hc; subst hc; exact hb''⟩ (by simp only []; omega) ?_ hle2
                  have e9 : (sgOf (l.take (k + 1))).length = (sgOf (l.take k)).length + 1 := by rw [hsn]; simp
                  simp only [go_sem, reduceIte, Nat.reduceEqDiff, Nat.reduceAdd, Nat.reduceSub, Nat.reduceLT, Nat.reduceLeDiff, reduceCtorEq, Int.reduceToNat, Int.reduceLE, Int.reduceLT, Int.reduceEq, Int.reduceNeg, Int.reduceAdd, Int.reduceSub, Nat.reduceMul, e9]
                  rw [wrap64 (by omega) (by omega)]
                  simp
          · rw [if_neg h4] at hsn
            simp only [go_sem, reduceIte, Nat.reduceEqDiff, Nat.reduceAdd, Nat.reduceSub, Nat.reduceLT, Nat.reduceLeDiff, reduceCtorEq, Int.reduceToNat, Int.reduceLE, Int.reduceLT, Int.reduceEq, Int.reduceNeg, Int.reduceAdd, Int.reduceSub, Nat.reduceMul, h4]
            refine nx_mk (k + 1, ob) ⟨by simp only []; omega, quiet_snoc l k hlt hq fun e => absurd e h4, by simp only [hsn]; exact h0, hob⟩ (by simp only []; omega) ?_ ?_
            · simp only [go_sem, reduceIte, Nat.reduceEqDiff, Nat.reduceAdd, Nat.reduceSub, Nat.reduceLT, Nat.reduceLeDiff, reduceCtorEq, Int.reduceToNat, Int.reduceLE, Int.reduceLT, Int.reduceEq, Int.reduceNeg, Int.reduceAdd, Int.reduceSub, Nat.reduceMul, hsn]
              rw [wrap64 (by omega) (by omega)]
              simp
            · simp only [hsn]
              exact heap_le_set hb
        · have hke : k = l.length := by omega
          subst hke
          have hkd : decide ((l.length : Int) < l.length) = false := decide_eq_false (by omega)
          have htl : l.take l.length = l := List.take_of_length_le (Nat.le_refl _)
          rw [htl] at hq h0 hH hTp hsl ⊢
          obtain ⟨ts, e1, e2, e3⟩ := back_cut l hall hq (by omega) (by omega)
          have hj := join_sum l
          simp only [go_sem, reduceIte, Nat.reduceEqDiff, Nat.reduceAdd, Nat.reduceSub, Nat.reduceLT, Nat.reduceLeDiff, reduceCtorEq, Int.reduceToNat, Int.reduceLE, Int.reduceLT, Int.reduceEq, Int.reduceNeg, Int.reduceAdd, Int.reduceSub, Nat.reduceMul, hkd]
          refine ACalls.out2 (es := strsD (sgOf l)) (by simp [strsD]) (outAt_put fun e => by rw [h0 e]; rfl) ?_
          have hdel : delB (putB H 1 (strsD (sgOf l)) ob) ob = H := by
            cases ob with
            | none => rfl
            | some c => exact set_del (hob c rfl)
          rw [hdel]
          refine lex_a _ _ (by rw [S_size]; omega) (by omega) _ ?_
          rw [e1]
          simp only [go_sem, reduceIte, Nat.reduceEqDiff, Nat.reduceAdd, Nat.reduceSub, Nat.reduceLT, Nat.reduceLeDiff, reduceCtorEq, Int.reduceToNat, Int.reduceLE, Int.reduceLT, Int.reduceEq, Int.reduceNeg, Int.reduceAdd, Int.reduceSub, Nat.reduceMul, faultD]
          intro b hb
          refine same_a l ts _ (by omega) e3 ?_
          rw [e2]
          simp only [go_sem, reduceIte, Nat.reduceEqDiff, Nat.reduceAdd, Nat.reduceSub, Nat.reduceLT, Nat.reduceLeDiff, reduceCtorEq, Int.reduceToNat, Int.reduceLE, Int.reduceLT, Int.reduceEq, Int.reduceNeg, Int.reduceAdd, Int.reduceSub, Nat.reduceMul]
          refine awake_a _ (hT.set _ hb) ?_
          simp only [go_sem, reduceIte, Nat.reduceEqDiff, Nat.reduceAdd, Nat.reduceSub, Nat.reduceLT, Nat.reduceLeDiff, reduceCtorEq, Int.reduceToNat, Int.reduceLE, Int.reduceLT, Int.reduceEq, Int.reduceNeg, Int.reduceAdd, Int.reduceSub, Nat.reduceMul]
          exact Fin.less (heap_le_set hb) h
end Go.Proofs.YtlbojoghnapbfaaDoor
