/- The law LexLimits, walked. -/
import Derived.Test.YtlbojoghnapbfaaGreatDoorLawLex
set_option linter.unusedSimpArgs false
set_option linter.unusedVariables false
namespace Go.Proofs.YtlbojoghnapbfaaGreatDoor
open Go Go.Av Go.Lexs
attribute [local irreducible] ACalls at8

/-- Bytes, and line ends behind them. -/
def padded (l : List UInt8) (m : Nat) : List UInt8 := l ++ List.replicate m 10
theorem padded_len (l : List UInt8) (m : Nat) : (padded l m).length = l.length + m := by simp [padded]
theorem bytesE_S (l : List UInt8) : bytesE (S l) = l.map fun c => [D.int .u8 c.toNat] := by
  unfold bytesE
  rw [show (S l).data.toList = l from B_S l]
theorem bytesE_snoc (l : List UInt8) (m : Nat) : bytesE (S (padded l (m + 1))) = bytesE (S (padded l m)) ++ [[.int .u8 10]] := by
  rw [bytesE_S, bytesE_S]
  unfold padded
  rw [List.replicate_succ', ← List.append_assoc, List.map_append]
  rfl

theorem lim_name (m : Nat) (hm : m < 3) : ∃ ts nm ln cl, lexR (S (List.replicate (39 + m) 97)) [] = .tuple [.sl 5 (tksD ts), .agg [.int .i64 (if m = 2 then 10 else 0), .str (S nm), .int .i64 ln, .int .i64 cl]] := by
  match m, hm with
  | 0, _ => exact ⟨[⟨1, List.replicate 39 97, 0, 1, 1⟩], [], 0, 0, by kernel_rfl⟩
  | 1, _ => exact ⟨[⟨1, List.replicate 40 97, 0, 1, 1⟩], [], 0, 0, by kernel_rfl⟩
  | 2, _ => exact ⟨[], [97], 1, 1, by kernel_rfl⟩
theorem lim_text (m : Nat) (hm : m < 3) : ∃ ts nm ln cl, lexR (S (34 :: List.replicate (199 + m) 98 ++ [34])) [] = .tuple [.sl 5 (tksD ts), .agg [.int .i64 (if m = 2 then 10 else 0), .str (S nm), .int .i64 ln, .int .i64 cl]] := by
  match m, hm with
  | 0, _ => exact ⟨[⟨3, List.replicate 199 98, 0, 1, 1⟩], [], 0, 0, by kernel_rfl⟩
  | 1, _ => exact ⟨[⟨3, List.replicate 200 98, 0, 1, 1⟩], [], 0, 0, by kernel_rfl⟩
  | 2, _ => exact ⟨[], [34], 1, 1, by kernel_rfl⟩
def bigs : List ByteArray := [⟨#[50, 49, 52, 55, 52, 56, 51, 54, 52, 54]⟩, ⟨#[50, 49, 52, 55, 52, 56, 51, 54, 52, 55]⟩, ⟨#[50, 49, 52, 55, 52, 56, 51, 54, 52, 56]⟩]
theorem lim_big (m : Nat) (hm : m < bigs.length) : ∃ ts nm ln cl, lexR bigs[m] [] = .tuple [.sl 5 (tksD ts), .agg [.int .i64 (if m = 2 then 10 else 0), .str (S nm), .int .i64 ln, .int .i64 cl]] := by
  match m, hm with
  | 0, _ => exact ⟨[⟨2, [], 2147483646, 1, 1⟩], [], 0, 0, by kernel_rfl⟩
  | 1, _ => exact ⟨[⟨2, [], 2147483647, 1, 1⟩], [], 0, 0, by kernel_rfl⟩
  | 2, _ => exact ⟨[], [50], 1, 1, by kernel_rfl⟩

set_option maxHeartbeats 4000000 in
set_option maxRecDepth 10000 in
theorem lexLimits_a {Q} (s : ByteArray) (n : Int) (hs : s.size ≤ 4611686018427387904) (hn : 0 ≤ n ∧ n ≤ 255) (H : Heap) (hT : Tabs H) (h : Q (.bool true) H) :
    ACalls Tryz.prog 5 [.str s, .int .u8 n] H Q := by
  refine acalls_of_wp [] Tryz.mixed Tryz.func5 rfl (by kernel_rfl) (of_decide_eq_true (by kernel_rfl)) (by kernel_rfl) ?_
  simp only [go_sem, reduceIte, Nat.reduceEqDiff, Nat.reduceAdd, Nat.reduceSub, Nat.reduceLT, Nat.reduceLeDiff, reduceCtorEq, Int.reduceToNat, Int.reduceLE, Int.reduceLT, Int.reduceEq, Int.reduceNeg, Int.reduceAdd, Int.reduceSub, Nat.reduceMul, Tryz.results5]
  have hl := B_len s
  by_cases hbig : 3000 < s.size
  · have hd : (3000 : Int) < s.size := by omega
    simp only [go_sem, reduceIte, Nat.reduceEqDiff, Nat.reduceAdd, Nat.reduceSub, Nat.reduceLT, Nat.reduceLeDiff, reduceCtorEq, Int.reduceToNat, Int.reduceLE, Int.reduceLT, Int.reduceEq, Int.reduceNeg, Int.reduceAdd, Int.reduceSub, Nat.reduceMul, hd]
    refine awake_a _ hT ?_
    simp only [go_sem, reduceIte, Nat.reduceEqDiff, Nat.reduceAdd, Nat.reduceSub, Nat.reduceLT, Nat.reduceLeDiff, reduceCtorEq, Int.reduceToNat, Int.reduceLE, Int.reduceLT, Int.reduceEq, Int.reduceNeg, Int.reduceAdd, Int.reduceSub, Nat.reduceMul]
    exact Fin.same h
  · have hd : ¬ (3000 : Int) < s.size := by omega
    simp only [go_sem, reduceIte, Nat.reduceEqDiff, Nat.reduceAdd, Nat.reduceSub, Nat.reduceLT, Nat.reduceLeDiff, reduceCtorEq, Int.reduceToNat, Int.reduceLE, Int.reduceLT, Int.reduceEq, Int.reduceNeg, Int.reduceAdd, Int.reduceSub, Nat.reduceMul, hd]
    refine s_conv_sb _ _ _ Tryz.base9 Tryz.bytes34 ?_
    simp only [go_sem, reduceIte, Nat.reduceEqDiff, Nat.reduceAdd, Nat.reduceSub, Nat.reduceLT, Nat.reduceLeDiff, reduceCtorEq, Int.reduceToNat, Int.reduceLE, Int.reduceLT, Int.reduceEq, Int.reduceNeg, Int.reduceAdd, Int.reduceSub, Nat.reduceMul]
    intro b1 hb1
    obtain ⟨r, hr, hr1⟩ : ∃ r : Nat, n.tmod 2 = (r : Int) ∧ r ≤ 1 := ⟨(n.tmod 2).toNat, by rw [Int.tmod_eq_emod_of_nonneg hn.1]; omega, by rw [Int.tmod_eq_emod_of_nonneg hn.1]; omega⟩
    obtain ⟨m3, hm3, hm31⟩ : ∃ r : Nat, n.tmod 3 = (r : Int) ∧ r < 3 := ⟨(n.tmod 3).toNat, by rw [Int.tmod_eq_emod_of_nonneg hn.1]; omega, by rw [Int.tmod_eq_emod_of_nonneg hn.1]; omega⟩
    have hw0 : IntKind.i64.wrap (r : Int) = r := wrap64 (by omega) (by omega)
    have hw1 : IntKind.i64.wrap (20000 + (r : Int)) = ((20000 + r : Nat) : Int) := by rw [wrap64 (by omega) (by omega)]; omega
    refine loop_a (fun (x : Nat × Nat) => [(0, .str s), (1, .int .u8 n), (5, .vec x.1 1 0 (s.size + x.2))]) (fun x => H.set x.1 (.vec 1 (bytesE (S (padded (B s) x.2))))) (fun x => H x.1 = none ∧ s.size + x.2 ≤ 20000 + r) (fun x => 20000 + r - x.2) (b1, 0)
      ⟨hb1, by simp only []; omega⟩ (by (try simp only [go_sem, reduceIte, Nat.reduceEqDiff, Nat.reduceAdd, Nat.reduceSub, Nat.reduceLT, Nat.reduceLeDiff, reduceCtorEq, Int.reduceToNat, Int.reduceLE, Int.reduceLT, Int.reduceEq, Int.reduceNeg, Int.reduceAdd, Int.reduceSub, Nat.reduceMul]) <;> (try simp (disch := omega) [wrap64]) <;> (try omega)) (by simp only [padded, List.replicate_zero, List.append_nil, S_B]; exact Heap.Le.refl _) ?_
    rintro ⟨c, m⟩ ⟨hc, hm⟩
    simp only at hc hm
    have htk : List.take (s.size + m) (bytesE (S (padded (B s) m))) = bytesE (S (padded (B s) m)) := List.take_of_length_le (by rw [bytesE_S, List.length_map, padded_len, hl]; omega)
    have hlen : (bytesE (S (padded (B s) m))).length = s.size + m := by rw [bytesE_S, List.length_map, padded_len, hl]
    by_cases hlt : s.size + m < 20000 + r
    · have hkd : decide (((s.size + m : Nat) : Int) < ((20000 + r : Nat) : Int)) = true := decide_eq_true (by omega)
      simp only [go_sem, reduceIte, Nat.reduceEqDiff, Nat.reduceAdd, Nat.reduceSub, Nat.reduceLT, Nat.reduceLeDiff, reduceCtorEq, Int.reduceToNat, Int.reduceLE, Int.reduceLT, Int.reduceEq, Int.reduceNeg, Int.reduceAdd, Int.reduceSub, Nat.reduceMul, hr, hw0, hw1, hkd]
      intro b2 hb2
      have h2 := (set_none.1 hb2)
      simp only [go_sem, reduceIte, Nat.reduceEqDiff, Nat.reduceAdd, Nat.reduceSub, Nat.reduceLT, Nat.reduceLeDiff, reduceCtorEq, Int.reduceToNat, Int.reduceLE, Int.reduceLT, Int.reduceEq, Int.reduceNeg, Int.reduceAdd, Int.reduceSub, Nat.reduceMul, heap_ne _ (Ne.symm h2.1), hlen]
      refine ⟨by omega, by omega, fun b3 hb3 => ?_⟩
      have h3 : H b3 = none := by simp only [Heap.set, Heap.del] at hb3; grind
      refine nx_mk (b3, m + 1) ⟨h3, by simp only []; omega⟩ (by simp only []; omega) ?_ ?_
      · simp only [go_sem, reduceIte, Nat.reduceEqDiff, Nat.reduceAdd, Nat.reduceSub, Nat.reduceLT, Nat.reduceLeDiff, reduceCtorEq, Int.reduceToNat, Int.reduceLE, Int.reduceLT, Int.reduceEq, Int.reduceNeg, Int.reduceAdd, Int.reduceSub, Nat.reduceMul]
        rw [show s.size + (m + 1) = s.size + m + 1 by omega]
      · simp only [bytesE_snoc, htk]
        exact (by simp only [Go.Av.Heap.Le, Go.Av.Heap.set, Go.Av.Heap.del] at * <;> grind)
    · have hme : s.size + m = 20000 + r := by omega
      have hkd : decide (((s.size + m : Nat) : Int) < ((20000 + r : Nat) : Int)) = false := decide_eq_false (by omega)
      have hsz : (S (padded (B s) m)).size = 20000 + r := by rw [S_size, padded_len, hl]; exact hme
      have hTc := hT.set (.vec 1 (bytesE (S (padded (B s) m)))) hc
      simp only [go_sem, reduceIte, Nat.reduceEqDiff, Nat.reduceAdd, Nat.reduceSub, Nat.reduceLT, Nat.reduceLeDiff, reduceCtorEq, Int.reduceToNat, Int.reduceLE, Int.reduceLT, Int.reduceEq, Int.reduceNeg, Int.reduceAdd, Int.reduceSub, Nat.reduceMul, hr, hw0, hw1, hkd]
      refine s_conv_bs _ _ _ (S (padded (B s) m)) Tryz.bytes34 Tryz.base9 (by simp only [go_sem, reduceIte, Nat.reduceEqDiff, Nat.reduceAdd, Nat.reduceSub, Nat.reduceLT, Nat.reduceLeDiff, reduceCtorEq, Int.reduceToNat, Int.reduceLE, Int.reduceLT, Int.reduceEq, Int.reduceNeg, Int.reduceAdd, Int.reduceSub, Nat.reduceMul, hlen, htk]) (by intro z hz; simp only [go_sem, reduceIte, Nat.reduceEqDiff, Nat.reduceAdd, Nat.reduceSub, Nat.reduceLT, Nat.reduceLeDiff, reduceCtorEq, Int.reduceToNat, Int.reduceLE, Int.reduceLT, Int.reduceEq, Int.reduceNeg, Int.reduceAdd, Int.reduceSub, Nat.reduceMul] at hz) ?_
      simp only [go_sem, reduceIte, Nat.reduceEqDiff, Nat.reduceAdd, Nat.reduceSub, Nat.reduceLT, Nat.reduceLeDiff, reduceCtorEq, Int.reduceToNat, Int.reduceLE, Int.reduceLT, Int.reduceEq, Int.reduceNeg, Int.reduceAdd, Int.reduceSub, Nat.reduceMul]
      refine ACalls.nil2 1 (lex_a _ [] (by omega) (by simp) _ ?_)
      obtain ⟨ts, co, nm, ln, cl, hres, hlen2⟩ := lexR_form (S (padded (B s) m)) []
      have hlim : r = 1 → co = 3 ∧ nm = [] ∧ ln = 0 ∧ cl = 0 := fun h1 => by
        have : lexR (S (padded (B s) m)) [] = .tuple [.sl 5 [], faultD 3 [] 0 0] := by
          unfold lexR; rw [if_pos (by rw [hsz]; omega)]
        rw [this] at hres
        simp only [faultD, D.tuple.injEq, List.cons.injEq, D.agg.injEq, D.int.injEq, D.str.injEq, true_and, and_true] at hres
        exact ⟨hres.2.1.symm, (S_inj hres.2.2.1).symm, hres.2.2.2.1.symm, hres.2.2.2.2.symm⟩
      rw [hres]
      simp only [go_sem, reduceIte, Nat.reduceEqDiff, Nat.reduceAdd, Nat.reduceSub, Nat.reduceLT, Nat.reduceLeDiff, reduceCtorEq, Int.reduceToNat, Int.reduceLE, Int.reduceLT, Int.reduceEq, Int.reduceNeg, Int.reduceAdd, Int.reduceSub, Nat.reduceMul]
      intro b4 hb4
      have h4 := (set_none.1 hb4)
      refine s_conv_bs _ _ _ (S (padded (B s) m)) Tryz.bytes34 Tryz.base9 (by simp only [go_sem, reduceIte, Nat.reduceEqDiff, Nat.reduceAdd, Nat.reduceSub, Nat.reduceLT, Nat.reduceLeDiff, reduceCtorEq, Int.reduceToNat, Int.reduceLE, Int.reduceLT, Int.reduceEq, Int.reduceNeg, Int.reduceAdd, Int.reduceSub, Nat.reduceMul, heap_ne _ (Ne.symm h4.1), hlen, htk]) (by intro z hz; simp only [go_sem, reduceIte, Nat.reduceEqDiff, Nat.reduceAdd, Nat.reduceSub, Nat.reduceLT, Nat.reduceLeDiff, reduceCtorEq, Int.reduceToNat, Int.reduceLE, Int.reduceLT, Int.reduceEq, Int.reduceNeg, Int.reduceAdd, Int.reduceSub, Nat.reduceMul] at hz) ?_
      simp only [go_sem, reduceIte, Nat.reduceEqDiff, Nat.reduceAdd, Nat.reduceSub, Nat.reduceLT, Nat.reduceLeDiff, reduceCtorEq, Int.reduceToNat, Int.reduceLE, Int.reduceLT, Int.reduceEq, Int.reduceNeg, Int.reduceAdd, Int.reduceSub, Nat.reduceMul]
      refine ACalls.nil2 1 (rLex_a _ [] (by omega) (by simp) (by simp) _ ?_)
      rw [rlex_lex _ [] (.inr (by simp)), hres]
      simp only [go_sem, reduceIte, Nat.reduceEqDiff, Nat.reduceAdd, Nat.reduceSub, Nat.reduceLT, Nat.reduceLeDiff, reduceCtorEq, Int.reduceToNat, Int.reduceLE, Int.reduceLT, Int.reduceEq, Int.reduceNeg, Int.reduceAdd, Int.reduceSub, Nat.reduceMul]
      intro b5 hb5
      have h5 := (set_none.1 hb5)
      refine placed_a ts _ hlen2 ?_
      have hw2 : IntKind.i64.wrap (m3 : Int) = m3 := wrap64 (by omega) (by omega)
      have hw3 : IntKind.i64.wrap (39 + (m3 : Int)) = ((39 + m3 : Nat) : Int) := by rw [wrap64 (by omega) (by omega)]; omega
      have hw4 : IntKind.i64.wrap (199 + (m3 : Int)) = ((199 + m3 : Nat) : Int) := by rw [wrap64 (by omega) (by omega)]; omega
      rcases (by omega : r = 0 ∨ r = 1) with rfl | rfl
      · have hr' : n.tmod 2 = 0 := by rw [hr]; rfl
        simp only [go_sem, reduceIte, Nat.reduceEqDiff, Nat.reduceAdd, Nat.reduceSub, Nat.reduceLT, Nat.reduceLeDiff, reduceCtorEq, Int.reduceToNat, Int.reduceLE, Int.reduceLT, Int.reduceEq, Int.reduceNeg, Int.reduceAdd, Int.reduceSub, Nat.reduceMul, heap_ne _ (Ne.symm h5.1), hr', hm3, hw2, hw3]
        refine loop_a (fun j : Nat => [(1, .int .u8 n), (10, .str (S (List.replicate j 97))), (11, .str ⟨#[34]⟩), (70, .int .i64 ((39 + m3 : Nat) : Int)), (71, .int .i64 j)]) (fun _ => H) (fun j => j ≤ 39 + m3) (fun j => 39 + m3 - j) 0 (Nat.zero_le _) (by simp only [go_sem, reduceIte, Nat.reduceEqDiff, Nat.reduceAdd, Nat.reduceSub, Nat.reduceLT, Nat.reduceLeDiff, reduceCtorEq, Int.reduceToNat, Int.reduceLE, Int.reduceLT, Int.reduceEq, Int.reduceNeg, Int.reduceAdd, Int.reduceSub, Nat.reduceMul]; exact ⟨rfl, rfl⟩)
          ((heap_le_set hc).trans ((heap_le_set hb4).trans (heap_le_set hb5))) ?_
        intro j hj
        by_cases hjl : j < 39 + m3
        · have hkd : decide ((j : Int) < ((39 + m3 : Nat) : Int)) = true := decide_eq_true (by omega)
          have e : S (List.replicate j 97) ++ ⟨#[97]⟩ = S (List.replicate (j + 1) 97) := B_inj (by rw [B_app, B_S, B_S, List.replicate_succ']; rfl)
          repeat' (first | with_reducible refine And.intro ?_ ?_ | intro _ | simp only [go_sem, reduceIte, Nat.reduceEqDiff, Nat.reduceAdd, Nat.reduceSub, Nat.reduceLT, Nat.reduceLeDiff, reduceCtorEq, Int.reduceToNat, Int.reduceLE, Int.reduceLT, Int.reduceEq, Int.reduceNeg, Int.reduceAdd, Int.reduceSub, Nat.reduceMul, hkd, e, List.length_replicate] | simp (disch := omega) only [wrap64] | omega)
          exact nx_mk (j + 1) (by omega) (by omega) (by (try simp only [go_sem, reduceIte, Nat.reduceEqDiff, Nat.reduceAdd, Nat.reduceSub, Nat.reduceLT, Nat.reduceLeDiff, reduceCtorEq, Int.reduceToNat, Int.reduceLE, Int.reduceLT, Int.reduceEq, Int.reduceNeg, Int.reduceAdd, Int.reduceSub, Nat.reduceMul]) <;> (try simp (disch := omega) [wrap64]) <;> (try omega)) (Heap.Le.refl _)
        · have hje : j = 39 + m3 := by omega
          subst hje
          have hkd : decide (((39 + m3 : Nat) : Int) < ((39 + m3 : Nat) : Int)) = false := decide_eq_false (by omega)
          simp only [go_sem, reduceIte, Nat.reduceEqDiff, Nat.reduceAdd, Nat.reduceSub, Nat.reduceLT, Nat.reduceLeDiff, reduceCtorEq, Int.reduceToNat, Int.reduceLE, Int.reduceLT, Int.reduceEq, Int.reduceNeg, Int.reduceAdd, Int.reduceSub, Nat.reduceMul, hkd, hm3, hw2, hw4]
          refine loop_a (fun j : Nat => [(1, .int .u8 n), (10, .str (S (List.replicate (39 + m3) 97))), (11, .str (S (34 :: List.replicate j 98))), (79, .int .i64 ((199 + m3 : Nat) : Int)), (80, .int .i64 j)]) (fun _ => H) (fun j => j ≤ 199 + m3) (fun j => 199 + m3 - j) 0 (Nat.zero_le _) (by simp only [go_sem, reduceIte, Nat.reduceEqDiff, Nat.reduceAdd, Nat.reduceSub, Nat.reduceLT, Nat.reduceLeDiff, reduceCtorEq, Int.reduceToNat, Int.reduceLE, Int.reduceLT, Int.reduceEq, Int.reduceNeg, Int.reduceAdd, Int.reduceSub, Nat.reduceMul]; exact ⟨rfl, rfl⟩)
            (Heap.Le.refl _) ?_
          intro j hj
          by_cases hjl : j < 199 + m3
          · have hkd : decide ((j : Int) < ((199 + m3 : Nat) : Int)) = true := decide_eq_true (by omega)
            have e : S (34 :: List.replicate j 98) ++ ⟨#[98]⟩ = S (34 :: List.replicate (j + 1) 98) := B_inj (by rw [B_app, B_S, B_S, List.replicate_succ']; rfl)
            repeat' (first | with_reducible refine And.intro ?_ ?_ | intro _ | simp only [go_sem, reduceIte, Nat.reduceEqDiff, Nat.reduceAdd, Nat.reduceSub, Nat.reduceLT, Nat.reduceLeDiff, reduceCtorEq, Int.reduceToNat, Int.reduceLE, Int.reduceLT, Int.reduceEq, Int.reduceNeg, Int.reduceAdd, Int.reduceSub, Nat.reduceMul, hkd, e, List.length_replicate] | simp (disch := omega) only [wrap64] | omega)
            exact nx_mk (j + 1) (by omega) (by omega) (by (try simp only [go_sem, reduceIte, Nat.reduceEqDiff, Nat.reduceAdd, Nat.reduceSub, Nat.reduceLT, Nat.reduceLeDiff, reduceCtorEq, Int.reduceToNat, Int.reduceLE, Int.reduceLT, Int.reduceEq, Int.reduceNeg, Int.reduceAdd, Int.reduceSub, Nat.reduceMul]) <;> (try simp (disch := omega) [wrap64]) <;> (try omega)) (Heap.Le.refl _)
          · have hje : j = 199 + m3 := by omega
            subst hje
            have hkd : decide (((199 + m3 : Nat) : Int) < ((199 + m3 : Nat) : Int)) = false := decide_eq_false (by omega)
            have hbt : [[D.str ⟨#[50, 49, 52, 55, 52, 56, 51, 54, 52, 54]⟩], [D.str ⟨#[50, 49, 52, 55, 52, 56, 51, 54, 52, 55]⟩], [D.str ⟨#[50, 49, 52, 55, 52, 56, 51, 54, 52, 56]⟩]] = strsD bigs := rfl
            have hbl : m3 < bigs.length := by have : bigs.length = 3 := rfl; omega
            have hget : (strsD bigs)[m3]? = some [D.str bigs[m3]] := by simp [strsD, hbl]
            obtain ⟨ts1, n1, l1, c1, e1⟩ := lim_name m3 hm31
            obtain ⟨ts2, n2, l2, c2, e2⟩ := lim_text m3 hm31
            obtain ⟨ts3, n3, l3, c3, e3⟩ := lim_big m3 hbl
            obtain ⟨w, hw⟩ : ∃ w : Int, w = if m3 = 2 then 10 else 0 := ⟨_, rfl⟩
            rw [← hw] at e1 e2 e3
            simp only [go_sem, reduceIte, Nat.reduceEqDiff, Nat.reduceAdd, Nat.reduceSub, Nat.reduceLT, Nat.reduceLeDiff, reduceCtorEq, Int.reduceToNat, Int.reduceLE, Int.reduceLT, Int.reduceEq, Int.reduceNeg, Int.reduceAdd, Int.reduceSub, Nat.reduceMul, hkd, hm3]
            intro b6 hb6
            simp only [go_sem, reduceIte, Nat.reduceEqDiff, Nat.reduceAdd, Nat.reduceSub, Nat.reduceLT, Nat.reduceLeDiff, reduceCtorEq, Int.reduceToNat, Int.reduceLE, Int.reduceLT, Int.reduceEq, Int.reduceNeg, Int.reduceAdd, Int.reduceSub, Nat.reduceMul, hbt, hget]
            refine ⟨⟨by omega, by omega⟩, ?_⟩
            have s1 : (S (List.replicate (39 + m3) 97)).size ≤ 4611686018427387904 := by rw [S_size, List.length_replicate]; omega
            have s2 : (S (34 :: List.replicate (199 + m3) 98 ++ [34])).size ≤ 4611686018427387904 := by rw [S_size]; simp; omega
            have s3 : (bigs[m3]).size ≤ 4611686018427387904 := by
              have : ∀ x ∈ bigs, x.size ≤ 4611686018427387904 := by decide +kernel
              exact this _ (List.getElem_mem hbl)
            have eq2 : S (34 :: List.replicate (199 + m3) 98) ++ ⟨#[34]⟩ = S (34 :: List.replicate (199 + m3) 98 ++ [34]) := B_inj (by rw [B_app, B_S, B_S]; rfl)
            refine ACalls.nil2 1 (lex_a _ [] s1 (by simp) _ ?_)
            rw [e1]
            simp only [go_sem, reduceIte, Nat.reduceEqDiff, Nat.reduceAdd, Nat.reduceSub, Nat.reduceLT, Nat.reduceLeDiff, reduceCtorEq, Int.reduceToNat, Int.reduceLE, Int.reduceLT, Int.reduceEq, Int.reduceNeg, Int.reduceAdd, Int.reduceSub, Nat.reduceMul]
            intro b7 hb7
            repeat' (first | with_reducible refine And.intro ?_ ?_ | intro _ | simp only [go_sem, reduceIte, Nat.reduceEqDiff, Nat.reduceAdd, Nat.reduceSub, Nat.reduceLT, Nat.reduceLeDiff, reduceCtorEq, Int.reduceToNat, Int.reduceLE, Int.reduceLT, Int.reduceEq, Int.reduceNeg, Int.reduceAdd, Int.reduceSub, Nat.reduceMul, eq2, List.length_replicate] | simp (disch := omega) only [wrap64] | omega)
            refine ACalls.nil2 1 (lex_a _ [] s2 (by simp) _ ?_)
            rw [e2]
            simp only [go_sem, reduceIte, Nat.reduceEqDiff, Nat.reduceAdd, Nat.reduceSub, Nat.reduceLT, Nat.reduceLeDiff, reduceCtorEq, Int.reduceToNat, Int.reduceLE, Int.reduceLT, Int.reduceEq, Int.reduceNeg, Int.reduceAdd, Int.reduceSub, Nat.reduceMul]
            intro b8 hb8
            refine ACalls.nil2 1 (lex_a _ [] s3 (by simp) _ ?_)
            rw [e3]
            simp only [go_sem, reduceIte, Nat.reduceEqDiff, Nat.reduceAdd, Nat.reduceSub, Nat.reduceLT, Nat.reduceLeDiff, reduceCtorEq, Int.reduceToNat, Int.reduceLE, Int.reduceLT, Int.reduceEq, Int.reduceNeg, Int.reduceAdd, Int.reduceSub, Nat.reduceMul]
            intro b9 hb9
            have hT6 := ((((hT.set (.vec 1 (strsD bigs)) hb6).set (.box [.int .i64 w, .str (S n1), .int .i64 l1, .int .i64 c1]) hb7).set (.box [.int .i64 w, .str (S n2), .int .i64 l2, .int .i64 c2]) hb8).set (.box [.int .i64 w, .str (S n3), .int .i64 l3, .int .i64 c3]) hb9)
            have hle := ((((heap_le_set (o := .vec 1 (strsD bigs)) hb6).trans (heap_le_set (o := (.box [.int .i64 w, .str (S n1), .int .i64 l1, .int .i64 c1])) hb7)).trans (heap_le_set (o := (.box [.int .i64 w, .str (S n2), .int .i64 l2, .int .i64 c2])) hb8)).trans (heap_le_set (o := (.box [.int .i64 w, .str (S n3), .int .i64 l3, .int .i64 c3])) hb9))
            have g7 : b7 ≠ b8 := by simp only [set_none] at hb8; exact Ne.symm hb8.1
            have g79 : b7 ≠ b9 := by simp only [set_none] at hb9; exact Ne.symm hb9.2.1
            have g89 : b8 ≠ b9 := by simp only [set_none] at hb9; exact Ne.symm hb9.1
            by_cases hm2 : m3 = 2
            · have hm2' : (m3 : Int) = 2 := by omega
              obtain rfl : w = 10 := by rw [hw, if_pos hm2]
              simp only [go_sem, reduceIte, Nat.reduceEqDiff, Nat.reduceAdd, Nat.reduceSub, Nat.reduceLT, Nat.reduceLeDiff, reduceCtorEq, Int.reduceToNat, Int.reduceLE, Int.reduceLT, Int.reduceEq, Int.reduceNeg, Int.reduceAdd, Int.reduceSub, Nat.reduceMul, hm3, hm2', heap_ne, g7, g79, g89]
              refine awake_a _ hT6 ?_
              simp only [go_sem, reduceIte, Nat.reduceEqDiff, Nat.reduceAdd, Nat.reduceSub, Nat.reduceLT, Nat.reduceLeDiff, reduceCtorEq, Int.reduceToNat, Int.reduceLE, Int.reduceLT, Int.reduceEq, Int.reduceNeg, Int.reduceAdd, Int.reduceSub, Nat.reduceMul]
              exact Fin.less hle h
            · have hm2' : ¬ (m3 : Int) = 2 := by omega
              obtain rfl : w = 0 := by rw [hw, if_neg hm2]
              simp only [go_sem, reduceIte, Nat.reduceEqDiff, Nat.reduceAdd, Nat.reduceSub, Nat.reduceLT, Nat.reduceLeDiff, reduceCtorEq, Int.reduceToNat, Int.reduceLE, Int.reduceLT, Int.reduceEq, Int.reduceNeg, Int.reduceAdd, Int.reduceSub, Nat.reduceMul, hm3, hm2', heap_ne, g7, g79, g89]
              refine awake_a _ hT6 ?_
              simp only [go_sem, reduceIte, Nat.reduceEqDiff, Nat.reduceAdd, Nat.reduceSub, Nat.reduceLT, Nat.reduceLeDiff, reduceCtorEq, Int.reduceToNat, Int.reduceLE, Int.reduceLT, Int.reduceEq, Int.reduceNeg, Int.reduceAdd, Int.reduceSub, Nat.reduceMul]
              exact Fin.less hle h
      · have hr' : n.tmod 2 = 1 := by rw [hr]; rfl
        obtain ⟨rfl, rfl, rfl, rfl⟩ := hlim rfl
        simp only [go_sem, reduceIte, Nat.reduceEqDiff, Nat.reduceAdd, Nat.reduceSub, Nat.reduceLT, Nat.reduceLeDiff, reduceCtorEq, Int.reduceToNat, Int.reduceLE, Int.reduceLT, Int.reduceEq, Int.reduceNeg, Int.reduceAdd, Int.reduceSub, Nat.reduceMul, heap_ne _ (Ne.symm h5.1), hr', hm3, hw2, hw3]
        refine loop_a (fun j : Nat => [(1, .int .u8 n), (10, .str (S (List.replicate j 97))), (11, .str ⟨#[34]⟩), (70, .int .i64 ((39 + m3 : Nat) : Int)), (71, .int .i64 j)]) (fun _ => H) (fun j => j ≤ 39 + m3) (fun j => 39 + m3 - j) 0 (Nat.zero_le _) (by simp only [go_sem, reduceIte, Nat.reduceEqDiff, Nat.reduceAdd, Nat.reduceSub, Nat.reduceLT, Nat.reduceLeDiff, reduceCtorEq, Int.reduceToNat, Int.reduceLE, Int.reduceLT, Int.reduceEq, Int.reduceNeg, Int.reduceAdd, Int.reduceSub, Nat.reduceMul]; exact ⟨rfl, rfl⟩)
          ((heap_le_set hc).trans ((heap_le_set hb4).trans (heap_le_set hb5))) ?_
        intro j hj
        by_cases hjl : j < 39 + m3
        · have hkd : decide ((j : Int) < ((39 + m3 : Nat) : Int)) = true := decide_eq_true (by omega)
          have e : S (List.replicate j 97) ++ ⟨#[97]⟩ = S (List.replicate (j + 1) 97) := B_inj (by rw [B_app, B_S, B_S, List.replicate_succ']; rfl)
          repeat' (first | with_reducible refine And.intro ?_ ?_ | intro _ | simp only [go_sem, reduceIte, Nat.reduceEqDiff, Nat.reduceAdd, Nat.reduceSub, Nat.reduceLT, Nat.reduceLeDiff, reduceCtorEq, Int.reduceToNat, Int.reduceLE, Int.reduceLT, Int.reduceEq, Int.reduceNeg, Int.reduceAdd, Int.reduceSub, Nat.reduceMul, hkd, e, List.length_replicate] | simp (disch := omega) only [wrap64] | omega)
          exact nx_mk (j + 1) (by omega) (by omega) (by (try simp only [go_sem, reduceIte, Nat.reduceEqDiff, Nat.reduceAdd, Nat.reduceSub, Nat.reduceLT, Nat.reduceLeDiff, reduceCtorEq, Int.reduceToNat, Int.reduceLE, Int.reduceLT, Int.reduceEq, Int.reduceNeg, Int.reduceAdd, Int.reduceSub, Nat.reduceMul]) <;> (try simp (disch := omega) [wrap64]) <;> (try omega)) (Heap.Le.refl _)
        · have hje : j = 39 + m3 := by omega
          subst hje
          have hkd : decide (((39 + m3 : Nat) : Int) < ((39 + m3 : Nat) : Int)) = false := decide_eq_false (by omega)
          simp only [go_sem, reduceIte, Nat.reduceEqDiff, Nat.reduceAdd, Nat.reduceSub, Nat.reduceLT, Nat.reduceLeDiff, reduceCtorEq, Int.reduceToNat, Int.reduceLE, Int.reduceLT, Int.reduceEq, Int.reduceNeg, Int.reduceAdd, Int.reduceSub, Nat.reduceMul, hkd, hm3, hw2, hw4]
          refine loop_a (fun j : Nat => [(1, .int .u8 n), (10, .str (S (List.replicate (39 + m3) 97))), (11, .str (S (34 :: List.replicate j 98))), (79, .int .i64 ((199 + m3 : Nat) : Int)), (80, .int .i64 j)]) (fun _ => H) (fun j => j ≤ 199 + m3) (fun j => 199 + m3 - j) 0 (Nat.zero_le _) (by simp only [go_sem, reduceIte, Nat.reduceEqDiff, Nat.reduceAdd, Nat.reduceSub, Nat.reduceLT, Nat.reduceLeDiff, reduceCtorEq, Int.reduceToNat, Int.reduceLE, Int.reduceLT, Int.reduceEq, Int.reduceNeg, Int.reduceAdd, Int.reduceSub, Nat.reduceMul]; exact ⟨rfl, rfl⟩)
            (Heap.Le.refl _) ?_
          intro j hj
          by_cases hjl : j < 199 + m3
          · have hkd : decide ((j : Int) < ((199 + m3 : Nat) : Int)) = true := decide_eq_true (by omega)
            have e : S (34 :: List.replicate j 98) ++ ⟨#[98]⟩ = S (34 :: List.replicate (j + 1) 98) := B_inj (by rw [B_app, B_S, B_S, List.replicate_succ']; rfl)
            repeat' (first | with_reducible refine And.intro ?_ ?_ | intro _ | simp only [go_sem, reduceIte, Nat.reduceEqDiff, Nat.reduceAdd, Nat.reduceSub, Nat.reduceLT, Nat.reduceLeDiff, reduceCtorEq, Int.reduceToNat, Int.reduceLE, Int.reduceLT, Int.reduceEq, Int.reduceNeg, Int.reduceAdd, Int.reduceSub, Nat.reduceMul, hkd, e, List.length_replicate] | simp (disch := omega) only [wrap64] | omega)
            exact nx_mk (j + 1) (by omega) (by omega) (by (try simp only [go_sem, reduceIte, Nat.reduceEqDiff, Nat.reduceAdd, Nat.reduceSub, Nat.reduceLT, Nat.reduceLeDiff, reduceCtorEq, Int.reduceToNat, Int.reduceLE, Int.reduceLT, Int.reduceEq, Int.reduceNeg, Int.reduceAdd, Int.reduceSub, Nat.reduceMul]) <;> (try simp (disch := omega) [wrap64]) <;> (try omega)) (Heap.Le.refl _)
          · have hje : j = 199 + m3 := by omega
            subst hje
            have hkd : decide (((199 + m3 : Nat) : Int) < ((199 + m3 : Nat) : Int)) = false := decide_eq_false (by omega)
            have hbt : [[D.str ⟨#[50, 49, 52, 55, 52, 56, 51, 54, 52, 54]⟩], [D.str ⟨#[50, 49, 52, 55, 52, 56, 51, 54, 52, 55]⟩], [D.str ⟨#[50, 49, 52, 55, 52, 56, 51, 54, 52, 56]⟩]] = strsD bigs := rfl
            have hbl : m3 < bigs.length := by have : bigs.length = 3 := rfl; omega
            have hget : (strsD bigs)[m3]? = some [D.str bigs[m3]] := by simp [strsD, hbl]
            obtain ⟨ts1, n1, l1, c1, e1⟩ := lim_name m3 hm31
            obtain ⟨ts2, n2, l2, c2, e2⟩ := lim_text m3 hm31
            obtain ⟨ts3, n3, l3, c3, e3⟩ := lim_big m3 hbl
            obtain ⟨w, hw⟩ : ∃ w : Int, w = if m3 = 2 then 10 else 0 := ⟨_, rfl⟩
            rw [← hw] at e1 e2 e3
            simp only [go_sem, reduceIte, Nat.reduceEqDiff, Nat.reduceAdd, Nat.reduceSub, Nat.reduceLT, Nat.reduceLeDiff, reduceCtorEq, Int.reduceToNat, Int.reduceLE, Int.reduceLT, Int.reduceEq, Int.reduceNeg, Int.reduceAdd, Int.reduceSub, Nat.reduceMul, hkd, hm3]
            intro b6 hb6
            simp only [go_sem, reduceIte, Nat.reduceEqDiff, Nat.reduceAdd, Nat.reduceSub, Nat.reduceLT, Nat.reduceLeDiff, reduceCtorEq, Int.reduceToNat, Int.reduceLE, Int.reduceLT, Int.reduceEq, Int.reduceNeg, Int.reduceAdd, Int.reduceSub, Nat.reduceMul, hbt, hget]
            refine ⟨⟨by omega, by omega⟩, ?_⟩
            have s1 : (S (List.replicate (39 + m3) 97)).size ≤ 4611686018427387904 := by rw [S_size, List.length_replicate]; omega
            have s2 : (S (34 :: List.replicate (199 + m3) 98 ++ [34])).size ≤ 4611686018427387904 := by rw [S_size]; simp; omega
            have s3 : (bigs[m3]).size ≤ 4611686018427387904 := by
              have : ∀ x ∈ bigs, x.size ≤ 4611686018427387904 := by decide +kernel
              exact this _ (List.getElem_mem hbl)
            have eq2 : S (34 :: List.replicate (199 + m3) 98) ++ ⟨#[34]⟩ = S (34 :: List.replicate (199 + m3) 98 ++ [34]) := B_inj (by rw [B_app, B_S, B_S]; rfl)
            refine ACalls.nil2 1 (lex_a _ [] s1 (by simp) _ ?_)
            rw [e1]
            simp only [go_sem, reduceIte, Nat.reduceEqDiff, Nat.reduceAdd, Nat.reduceSub, Nat.reduceLT, Nat.reduceLeDiff, reduceCtorEq, Int.reduceToNat, Int.reduceLE, Int.reduceLT, Int.reduceEq, Int.reduceNeg, Int.reduceAdd, Int.reduceSub, Nat.reduceMul]
            intro b7 hb7
            repeat' (first | with_reducible refine And.intro ?_ ?_ | intro _ | simp only [go_sem, reduceIte, Nat.reduceEqDiff, Nat.reduceAdd, Nat.reduceSub, Nat.reduceLT, Nat.reduceLeDiff, reduceCtorEq, Int.reduceToNat, Int.reduceLE, Int.reduceLT, Int.reduceEq, Int.reduceNeg, Int.reduceAdd, Int.reduceSub, Nat.reduceMul, eq2, List.length_replicate] | simp (disch := omega) only [wrap64] | omega)
            refine ACalls.nil2 1 (lex_a _ [] s2 (by simp) _ ?_)
            rw [e2]
            simp only [go_sem, reduceIte, Nat.reduceEqDiff, Nat.reduceAdd, Nat.reduceSub, Nat.reduceLT, Nat.reduceLeDiff, reduceCtorEq, Int.reduceToNat, Int.reduceLE, Int.reduceLT, Int.reduceEq, Int.reduceNeg, Int.reduceAdd, Int.reduceSub, Nat.reduceMul]
            intro b8 hb8
            refine ACalls.nil2 1 (lex_a _ [] s3 (by simp) _ ?_)
            rw [e3]
            simp only [go_sem, reduceIte, Nat.reduceEqDiff, Nat.reduceAdd, Nat.reduceSub, Nat.reduceLT, Nat.reduceLeDiff, reduceCtorEq, Int.reduceToNat, Int.reduceLE, Int.reduceLT, Int.reduceEq, Int.reduceNeg, Int.reduceAdd, Int.reduceSub, Nat.reduceMul]
            intro b9 hb9
            have hT6 := ((((hT.set (.vec 1 (strsD bigs)) hb6).set (.box [.int .i64 w, .str (S n1), .int .i64 l1, .int .i64 c1]) hb7).set (.box [.int .i64 w, .str (S n2), .int .i64 l2, .int .i64 c2]) hb8).set (.box [.int .i64 w, .str (S n3), .int .i64 l3, .int .i64 c3]) hb9)
            have hle := ((((heap_le_set (o := .vec 1 (strsD bigs)) hb6).trans (heap_le_set (o := (.box [.int .i64 w, .str (S n1), .int .i64 l1, .int .i64 c1])) hb7)).trans (heap_le_set (o := (.box [.int .i64 w, .str (S n2), .int .i64 l2, .int .i64 c2])) hb8)).trans (heap_le_set (o := (.box [.int .i64 w, .str (S n3), .int .i64 l3, .int .i64 c3])) hb9))
            have g7 : b7 ≠ b8 := by simp only [set_none] at hb8; exact Ne.symm hb8.1
            have g79 : b7 ≠ b9 := by simp only [set_none] at hb9; exact Ne.symm hb9.2.1
            have g89 : b8 ≠ b9 := by simp only [set_none] at hb9; exact Ne.symm hb9.1
            by_cases hm2 : m3 = 2
            · have hm2' : (m3 : Int) = 2 := by omega
              obtain rfl : w = 10 := by rw [hw, if_pos hm2]
              simp only [go_sem, reduceIte, Nat.reduceEqDiff, Nat.reduceAdd, Nat.reduceSub, Nat.reduceLT, Nat.reduceLeDiff, reduceCtorEq, Int.reduceToNat, Int.reduceLE, Int.reduceLT, Int.reduceEq, Int.reduceNeg, Int.reduceAdd, Int.reduceSub, Nat.reduceMul, hm3, hm2', heap_ne, g7, g79, g89]
              refine awake_a _ hT6 ?_
              simp only [go_sem, reduceIte, Nat.reduceEqDiff, Nat.reduceAdd, Nat.reduceSub, Nat.reduceLT, Nat.reduceLeDiff, reduceCtorEq, Int.reduceToNat, Int.reduceLE, Int.reduceLT, Int.reduceEq, Int.reduceNeg, Int.reduceAdd, Int.reduceSub, Nat.reduceMul]
              exact Fin.less hle h
            · have hm2' : ¬ (m3 : Int) = 2 := by omega
              obtain rfl : w = 0 := by rw [hw, if_neg hm2]
              simp only [go_sem, reduceIte, Nat.reduceEqDiff, Nat.reduceAdd, Nat.reduceSub, Nat.reduceLT, Nat.reduceLeDiff, reduceCtorEq, Int.reduceToNat, Int.reduceLE, Int.reduceLT, Int.reduceEq, Int.reduceNeg, Int.reduceAdd, Int.reduceSub, Nat.reduceMul, hm3, hm2', heap_ne, g7, g79, g89]
              refine awake_a _ hT6 ?_
              simp only [go_sem, reduceIte, Nat.reduceEqDiff, Nat.reduceAdd, Nat.reduceSub, Nat.reduceLT, Nat.reduceLeDiff, reduceCtorEq, Int.reduceToNat, Int.reduceLE, Int.reduceLT, Int.reduceEq, Int.reduceNeg, Int.reduceAdd, Int.reduceSub, Nat.reduceMul]
              exact Fin.less hle h
end Go.Proofs.YtlbojoghnapbfaaGreatDoor
