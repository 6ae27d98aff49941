/- Walks of the reference's lexer (voussoirref05): all tokens. -/
import Derived.Test.YtlbojoghnapbfaaGreatDoorRefTok2
set_option linter.unusedSimpArgs false
set_option linter.unusedVariables false
namespace Go.Proofs.YtlbojoghnapbfaaGreatDoor
open Go Go.Av Go.Lexs
attribute [local irreducible] ACalls at8

/-- The fault as the cutter holds it. -/
def fltO (l : List UInt8) : Option Nat → List D
  | none => flt 0 (S []) 0 0
  | some i => flt 10 (S ((l.drop i).take 1)) (place l i).1 (place l i).2
def stH (s : ByteArray) (sg : D) (H : Heap) (b1 b2 : Nat) (x : Nat × Nat × List (Tok × Nat) × Option Nat × Option Nat) : Heap :=
  outH (B s) ((H.set b1 (.box (flt 0 (S []) 0 0))).set b2 (.box (ctr s x.2.1 sg (outD x.2.2.1 x.2.2.2.1) (fltO (B s) x.2.2.2.2)))) x.2.2.1 x.2.2.2.1
/-- Where the cutter may stand. -/
structure StI (s : ByteArray) (signs : List (List UInt8)) (H : Heap) (b1 b2 : Nat) (x : Nat × Nat × List (Tok × Nat) × Option Nat × Option Nat) : Prop where
  le : x.2.1 ≤ s.size
  fuel : s.size < x.2.1 + x.1
  cut : match x.2.2.2.2 with
    | none => cutN signs (B s) x.1 x.2.1 x.2.2.1 = Lexs.cut signs (B s)
    | some i => Lexs.cut signs (B s) = .error i
  hacc : x.2.2.1.length ≤ x.2.1
  h0 : x.2.2.2.1 = none → x.2.2.1 = []
  hc : ∀ c, x.2.2.2.1 = some c → H c = none ∧ c ≠ b1 ∧ c ≠ b2

theorem StI.ctr {s : ByteArray} {sg : D} {signs : List (List UInt8)} {H : Heap} {b1 b2 : Nat} {f i : Nat} {acc : List (Tok × Nat)} {ob bad : Option Nat} (h : StI s signs H b1 b2 (f, i, acc, ob, bad)) (h12 : b2 ≠ b1) (hs : s.size ≤ 1000000) :
    Ctr (stH s sg H b1 b2 (f, i, acc, ob, bad)) s i sg acc ob (fltO (B s) bad) b2 := by
  have hacc := h.hacc
  have hle := h.le
  simp only at hacc hle
  refine ⟨?_, h.h0, fun c hc => ?_, by omega⟩
  · cases ob with
    | none => simp [stH, outH, Heap.set]
    | some c =>
      have := h.hc c rfl
      simp [stH, outH, Heap.set, this.2.2.symm]
  · subst hc
    simp [stH, outH, Heap.set]
theorem stH_box {s : ByteArray} {sg : D} {H : Heap} {b1 b2 f i : Nat} {acc : List (Tok × Nat)} {ob bad : Option Nat} (hc : ∀ c, ob = some c → H c = none ∧ c ≠ b1 ∧ c ≠ b2) : stH s sg H b1 b2 (f, i, acc, ob, bad) b2 = some (.box (ctr s i sg (outD acc ob) (fltO (B s) bad))) := by
  cases ob with
  | none => simp [stH, outH, Heap.set]
  | some c =>
    have := hc c rfl
    simp [stH, outH, Heap.set, this.2.2.symm]

set_option maxHeartbeats 4000000 in
theorem rcut_a {Q} (s : ByteArray) (signs : List ByteArray) (H : Heap) (hs : s.size ≤ 4611686018427387904) (hsl : signs.length ≤ 1000000)
    (h : Q (if 20000 < s.size then .tuple [.sl 5 [], faultD 3 [] 0 0] else resD (B s) (cut (signs.map B) (B s))) H) :
    ACalls Tryz.prog 20 [.str s, .sl 1 (strsD signs)] H Q := by
  refine acalls_of_wp [] Tryz.mixed Tryz.func20 rfl (by kernel_rfl) (of_decide_eq_true (by kernel_rfl)) (by kernel_rfl) ?_
  simp only [go_sem, reduceIte, Nat.reduceEqDiff, Nat.reduceAdd, Nat.reduceSub, Nat.reduceLT, Nat.reduceLeDiff, reduceCtorEq, Int.reduceToNat, Int.reduceLE, Int.reduceLT, Int.reduceEq, Int.reduceNeg, Int.reduceAdd, Int.reduceSub, Nat.reduceMul, Tryz.results20]
  have hl := B_len s
  intro b1 hb1
  by_cases hbig : 20000 < s.size
  · have hd : (20000 : Int) < s.size := by omega
    repeat' (first | with_reducible refine And.intro ?_ ?_ | intro _ | simp only [go_sem, reduceIte, Nat.reduceEqDiff, Nat.reduceAdd, Nat.reduceSub, Nat.reduceLT, Nat.reduceLeDiff, reduceCtorEq, Int.reduceToNat, Int.reduceLE, Int.reduceLT, Int.reduceEq, Int.reduceNeg, Int.reduceAdd, Int.reduceSub, Nat.reduceMul, hd] | simp (disch := omega) only [wrap64] | omega)
    rw [if_pos hbig] at h
    exact Fin.nilsl 5 _ (Fin.less (heap_le_set hb1) h)
  · have hd : ¬ (20000 : Int) < s.size := by omega
    rw [if_neg hbig] at h
    simp only [go_sem, reduceIte, Nat.reduceEqDiff, Nat.reduceAdd, Nat.reduceSub, Nat.reduceLT, Nat.reduceLeDiff, reduceCtorEq, Int.reduceToNat, Int.reduceLE, Int.reduceLT, Int.reduceEq, Int.reduceNeg, Int.reduceAdd, Int.reduceSub, Nat.reduceMul, hd]
    intro b2 hb2
    simp only [set_none] at hb2
    obtain ⟨h21, h2⟩ := hb2
    have hs' : s.size ≤ 1000000 := by omega
    have hplace : place (B s) 0 = (1, 1) := rfl
    refine rskip_a s 0 (.sl 1 (strsD signs)) .nilsl 0 (S []) 0 0 b2 _ (by rw [heap_same]; rfl) (Nat.zero_le _) hs' ?_
    simp only [go_sem, reduceIte, Nat.reduceEqDiff, Nat.reduceAdd, Nat.reduceSub, Nat.reduceLT, Nat.reduceLeDiff, reduceCtorEq, Int.reduceToNat, Int.reduceLE, Int.reduceLT, Int.reduceEq, Int.reduceNeg, Int.reduceAdd, Int.reduceSub, Nat.reduceMul]
    refine loop_a (fun (x : Nat × Nat × List (Tok × Nat) × Option Nat × Option Nat) => [(0, .str s), (4, .nilsl), (5, .box b1 0), (6, .box b2 0)]) (stH s (.sl 1 (strsD signs)) H b1 b2) (StI s (signs.map B) H b1 b2) (fun x => if x.2.2.2.2 = none then x.1 + 1 else 0) (s.size + 1, nextAt (B s) 0, [], none, none)
      ⟨?_, by simp only []; omega, by simp only []; rw [cut, hl], Nat.zero_le _, by simp, by simp⟩ (by (try simp only [go_sem, reduceIte, Nat.reduceEqDiff, Nat.reduceAdd, Nat.reduceSub, Nat.reduceLT, Nat.reduceLeDiff, reduceCtorEq, Int.reduceToNat, Int.reduceLE, Int.reduceLT, Int.reduceEq, Int.reduceNeg, Int.reduceAdd, Int.reduceSub, Nat.reduceMul]) <;> (try simp (disch := omega) [wrap64]) <;> (try omega)) (Heap.Le.refl _) ?_
    · have := nextAt_le (B s) 0 (Nat.zero_le _); simp only []; omega
    rintro ⟨f, i, acc, ob, bad⟩ hI
    have hC := hI.ctr (sg := .sl 1 (strsD signs)) h21 hs'
    have hbx := hC.hb
    obtain ⟨hi, hf, hcut, hacc, hnil, hob⟩ := hI
    simp only at hi hf hcut hacc hnil hob
    have hb1x : stH s (.sl 1 (strsD signs)) H b1 b2 (f, i, acc, ob, bad) b1 = some (.box (flt 0 (S []) 0 0)) := by
      cases ob with
      | none => simp [stH, outH, Heap.set, Ne.symm h21]
      | some c => simp [stH, outH, Heap.set, Ne.symm h21, (hob c rfl).2.1.symm]
    simp only [flt] at hb1x
    have hle : ∀ X, H.Le ((stH s (.sl 1 (strsD signs)) H b1 b2 (f, i, acc, ob, bad)).set b1 X) := fun X => by
      cases ob with
      | none => simp only [stH, outH]; exact (by simp only [Go.Av.Heap.Le, Go.Av.Heap.set, Go.Av.Heap.del] at * <;> grind)
      | some c => have := hob c rfl; simp only [stH, outH]; exact (by simp only [Go.Av.Heap.Le, Go.Av.Heap.set, Go.Av.Heap.del] at * <;> grind)
    cases bad with
    | some i0 =>
      simp only at hcut
      rw [hcut] at h
      by_cases hlt : i < s.size
      · have hkd : decide ((i : Int) < s.size) = true := decide_eq_true (by omega)
        simp only [ctr, fltO, flt] at hbx
        simp only [go_sem, reduceIte, Nat.reduceEqDiff, Nat.reduceAdd, Nat.reduceSub, Nat.reduceLT, Nat.reduceLeDiff, reduceCtorEq, Int.reduceToNat, Int.reduceLE, Int.reduceLT, Int.reduceEq, Int.reduceNeg, Int.reduceAdd, Int.reduceSub, Nat.reduceMul, hbx, hkd, hb1x]
        exact Fin.nilsl 5 _ (Fin.less (hle _) h)
      · have hkd : decide ((i : Int) < s.size) = false := decide_eq_false (by omega)
        simp only [ctr, fltO, flt] at hbx
        simp only [go_sem, reduceIte, Nat.reduceEqDiff, Nat.reduceAdd, Nat.reduceSub, Nat.reduceLT, Nat.reduceLeDiff, reduceCtorEq, Int.reduceToNat, Int.reduceLE, Int.reduceLT, Int.reduceEq, Int.reduceNeg, Int.reduceAdd, Int.reduceSub, Nat.reduceMul, hbx, hkd, hb1x]
        exact Fin.nilsl 5 _ (Fin.less (hle _) h)
    | none =>
      simp only at hcut
      by_cases hlt : i < s.size
      · have hkd : decide ((i : Int) < s.size) = true := decide_eq_true (by omega)
        simp only [ctr, fltO, flt] at hbx
        simp only [go_sem, reduceIte, Nat.reduceEqDiff, Nat.reduceAdd, Nat.reduceSub, Nat.reduceLT, Nat.reduceLeDiff, reduceCtorEq, Int.reduceToNat, Int.reduceLE, Int.reduceLT, Int.reduceEq, Int.reduceNeg, Int.reduceAdd, Int.reduceSub, Nat.reduceMul, hbx, hkd]
        refine rtoken_a s i signs 0 (S []) 0 0 b2 ob acc _ hC hlt hs' hsl ?_
        cases ht : tokN (signs.map B) ((B s).drop i) with
        | none =>
          unfold TokQ
          simp only [go_sem, reduceIte, Nat.reduceEqDiff, Nat.reduceAdd, Nat.reduceSub, Nat.reduceLT, Nat.reduceLeDiff, reduceCtorEq, Int.reduceToNat, Int.reduceLE, Int.reduceLT, Int.reduceEq, Int.reduceNeg, Int.reduceAdd, Int.reduceSub, Nat.reduceMul]
          refine rskip_a s i (.sl 1 (strsD signs)) (outD acc ob) _ _ _ _ b2 _ (heap_same _ _) (by omega) hs' ?_
          simp only [go_sem, reduceIte, Nat.reduceEqDiff, Nat.reduceAdd, Nat.reduceSub, Nat.reduceLT, Nat.reduceLeDiff, reduceCtorEq, Int.reduceToNat, Int.reduceLE, Int.reduceLT, Int.reduceEq, Int.reduceNeg, Int.reduceAdd, Int.reduceSub, Nat.reduceMul]
          have hn := nextAt_le (B s) i (by omega)
          have hn2 := nextAt_ge (B s) i
          refine nx_mk (f, nextAt (B s) i, acc, ob, some i) ⟨by simp only []; omega, by simp only []; omega, ?_, by simp only []; omega, hnil, hob⟩ (by simp) (by (try simp only [go_sem, reduceIte, Nat.reduceEqDiff, Nat.reduceAdd, Nat.reduceSub, Nat.reduceLT, Nat.reduceLeDiff, reduceCtorEq, Int.reduceToNat, Int.reduceLE, Int.reduceLT, Int.reduceEq, Int.reduceNeg, Int.reduceAdd, Int.reduceSub, Nat.reduceMul]) <;> (try simp (disch := omega) [wrap64]) <;> (try omega)) ?_
          · simp only []
            rw [← hcut, cutN_bad _ _ f i acc (by omega) (by omega) ht]
          · cases ob with
            | none => simp only [stH, outH, fltO]; exact (by simp only [Go.Av.Heap.Le, Go.Av.Heap.set, Go.Av.Heap.del] at * <;> grind)
            | some c => have := hob c rfl; simp only [stH, outH, fltO]; exact (by simp only [Go.Av.Heap.Le, Go.Av.Heap.set, Go.Av.Heap.del] at * <;> grind)
        | some r =>
          obtain ⟨t, k⟩ := r
          have htp := tokN_pos (by intro e; have := congrArg List.length e; simp at this; omega) ht
          rw [List.length_drop, hl] at htp
          unfold TokQ
          intro c' hc'
          simp only [go_sem, reduceIte, Nat.reduceEqDiff, Nat.reduceAdd, Nat.reduceSub, Nat.reduceLT, Nat.reduceLeDiff, reduceCtorEq, Int.reduceToNat, Int.reduceLE, Int.reduceLT, Int.reduceEq, Int.reduceNeg, Int.reduceAdd, Int.reduceSub, Nat.reduceMul]
          have hcb : c' ≠ b2 ∧ c' ≠ b1 ∧ H c' = none := by
            cases ob with
            | none => simp only [delO, stH, outH] at hc'; simp only [set_none] at hc'; exact ⟨hc'.1, hc'.2.1, hc'.2.2⟩
            | some c =>
              have := hob c rfl
              simp only [delO, stH, outH, Heap.set, Heap.del] at hc'
              grind
          refine rskip_a s (i + k) (.sl 1 (strsD signs)) _ _ _ _ _ b2 _ (by rw [heap_ne _ (Ne.symm hcb.1), heap_same]) (by omega) hs' ?_
          simp only [go_sem, reduceIte, Nat.reduceEqDiff, Nat.reduceAdd, Nat.reduceSub, Nat.reduceLT, Nat.reduceLeDiff, reduceCtorEq, Int.reduceToNat, Int.reduceLE, Int.reduceLT, Int.reduceEq, Int.reduceNeg, Int.reduceAdd, Int.reduceSub, Nat.reduceMul]
          have hn := nextAt_le (B s) (i + k) (by omega)
          have hn2 := nextAt_ge (B s) (i + k)
          refine nx_mk (f - 1, nextAt (B s) (i + k), acc ++ [(t, i)], some c', none) ⟨by simp only []; omega, by simp only []; omega, ?_, by simp only [List.length_append, List.length_cons, List.length_nil]; omega, by simp, ?_⟩ (by simp; omega) (by (try simp only [go_sem, reduceIte, Nat.reduceEqDiff, Nat.reduceAdd, Nat.reduceSub, Nat.reduceLT, Nat.reduceLeDiff, reduceCtorEq, Int.reduceToNat, Int.reduceLE, Int.reduceLT, Int.reduceEq, Int.reduceNeg, Int.reduceAdd, Int.reduceSub, Nat.reduceMul]) <;> (try simp (disch := omega) [wrap64]) <;> (try omega)) ?_
          · simp only []
            rw [← hcut, cutN_tok _ _ f i acc (by omega) (by omega) ht]
          · intro c hc
            simp only [Option.some.injEq] at hc
            subst hc
            exact ⟨hcb.2.2, hcb.2.1, hcb.1⟩
          · cases ob with
            | none => simp only [stH, outH, fltO, delO, outD, List.length_append, List.length_cons, List.length_nil]; exact (by simp only [Go.Av.Heap.Le, Go.Av.Heap.set, Go.Av.Heap.del] at * <;> grind)
            | some c => have := hob c rfl; simp only [stH, outH, fltO, delO, outD, List.length_append, List.length_cons, List.length_nil]; exact (by simp only [Go.Av.Heap.Le, Go.Av.Heap.set, Go.Av.Heap.del] at * <;> grind)
      · have hie : i = s.size := by omega
        have hkd : decide ((i : Int) < s.size) = false := decide_eq_false (by omega)
        rw [cutN_end _ _ _ _ _ (by omega)] at hcut
        rw [← hcut] at h
        simp only [ctr, fltO, flt] at hbx
        simp only [go_sem, reduceIte, Nat.reduceEqDiff, Nat.reduceAdd, Nat.reduceSub, Nat.reduceLT, Nat.reduceLeDiff, reduceCtorEq, Int.reduceToNat, Int.reduceLE, Int.reduceLT, Int.reduceEq, Int.reduceNeg, Int.reduceAdd, Int.reduceSub, Nat.reduceMul, hbx, hkd, hb1x]
        cases ob with
        | none =>
          have hacc0 := hnil rfl
          subst hacc0
          exact Fin.nilsl 5 _ (Fin.less (hle _) h)
        | some c =>
          have := hob c rfl
          refine Fin.slice1 (es := acc.map (tokD (B s))) ?_ (by simp) (Fin.less ?_ h)
          · simp [stH, outH, Heap.set, this.2.1]
          · simp only [stH, outH]; exact (by simp only [Go.Av.Heap.Le, Go.Av.Heap.set, Go.Av.Heap.del] at * <;> grind)
end Go.Proofs.YtlbojoghnapbfaaGreatDoor
