/- Part of the proof: what the last text builds on. No condition stands here. -/
import Derived.Test.YtacekpdodelnbaaGreatDoorProg
import Derived.Test.YtacekpdodelnbaaGreatDoorRows
import Derived.Test.YtacekpdodelnbaaGreatDoorCards
import Derived.Test.YtacekpdodelnbaaGreatDoorTie
import Derived.Test.YtacekpdodelnbaaGreatDoorY4
set_option linter.unusedSimpArgs false
set_option linter.unusedVariables false
section
set_option maxRecDepth 20000
namespace Go.Lin
def CS (m : Nat) (c : List Int) : Prop := ∀ x ∈ c, x.natAbs < m
def AP (n m : Nat) (l : List Row) : Prop := ∀ r ∈ l, RowP n m r
def TA (l : List Row) (X : List Row) (i : Nat) : Prop := tidyA l = (tidyA (l.drop i)).map (X ++ ·)
def TS (l X : List Row) (r : Row) (i : Nat) : Prop := tidyA l = (tidy1 r).bind fun x => (tidyA (l.drop (i + 1))).map ((X ++ x) ++ ·)
end Go.Lin
namespace Go.Proofs.YtacekpdodelnbaaGreatDoor
open Go Go.Av Go.Lin
attribute [local irreducible] ACalls at8
set_option maxHeartbeats 4000000 in
theorem tidy_a {Q} (l : List Row) (n : Nat) (hlen : l.length ≤ 1000000) (hn : n ≤ 1000000) (hP : AP n 4611686018427387904 l) (hS : ∀ r ∈ l, CS 4294967296 r.c) (H : Heap) (h : Q (resD (tidyR l)) H) : ACalls Tryz.prog 134 [.sl 4 (Rw rowC l)] H Q := by
 refine acalls_of_wp [(17, .par), (19, .par), (23, .par)] Tryz.mixed Tryz.func134 rfl (by kernel_rfl) (of_decide_eq_true (by kernel_rfl)) (by kernel_rfl) ?_
 simp only [go_sem,seval, Tryz.results134]
 have z0 : D.nilsl = outG 4 0 none := rfl
 unfold tidyR at h
 repeat' (first | with_reducible refine And.intro ?_ ?_ | simp only [go_sem,seval] | simp (disch := omega) only [wrap64, Rw_at] | simp (disch := first | omega | grind) only [heap_ne_] | (intro hx_; try simp only [set_none] at hx_) | omega)
 refine loop_c [15, 16] (fun (p : Nat × List Row × Option Nat) => [(17, .int .i64 p.1), (4, outG 4 p.2.1.length p.2.2)]) (fun (p : Nat × List Row × Option Nat) => putB H 4 (Rw rowC p.2.1) p.2.2) (fun (p : Nat × List Row × Option Nat) => p.1 ≤ l.length ∧ p.2.1.length ≤ p.1 ∧ AP n 4611686018427387904 p.2.1 ∧ TA l p.2.1 p.1 ∧ (p.2.2 = none → p.2.1 = []) ∧ (∀ b, p.2.2 = some b → H b = none)) (fun (p : Nat × List Row × Option Nat) => l.length - p.1) ((0, [], none)) (⟨Nat.zero_le _, Nat.le_refl _, (fun s hs => by cases hs), (by simp [TA]), by simp, by simp⟩) (by (try simp only [go_sem,seval]) <;> (try simp (disch := omega) [wrap64]) <;> (try omega)) (by first | with_reducible exact Heap.Le.refl _ | exact heap_set_le (by assumption) | exact Heap.Le.refl _ | exact heap_le_set (by assumption) | exact (by simp only [Go.Av.Heap.Le, Go.Av.Heap.set, Go.Av.Heap.del] at * <;> grind)) ?_
 rintro Ec rfl ⟨i, X, o1⟩ ⟨hi, hXl, hXP, hT, ho, hob⟩
 simp only at hi hXl hXP hT ho hob
 have h3 := O3.put (H := H) (sz := 4) (es := Rw rowC X) (ob := o1) (fun e => by rw [ho e]; rfl) hob
 generalize putB H 4 (Rw rowC X) o1 = Hp at h3 ⊢
 by_cases hlt : i < l.length
 ·have hkd : decide ((i : Int) < l.length) = true := decide_eq_true (by omega)
  have hti : (i : Int) < l.length := by omega
  have hr := hP _ (List.getElem_mem hlt)
  have hrs := hS _ (List.getElem_mem hlt)
  have st : TS l X l[i] i := tidy_step hlt hT
  obtain ⟨r, hrr⟩ : ∃ r, r = l[i] := ⟨_, rfl⟩
  rw [← hrr] at hr hrs st
  have hrl : r.c.length ≤ 1000000 := by rw [hr.1]; exact hn
  repeat' (first | with_reducible refine And.intro ?_ ?_ | simp only [go_sem,seval, hkd, Rw_at _ _ hlt, Rw_get _ _ hlt, ← hrr] | simp (disch := omega) only [wrap64, Rw_at] | simp (disch := first | omega | grind) only [heap_ne_] | (intro hx_; try simp only [set_none] at hx_) | omega)
  rename_i b6 h6 b7
  have h7 := hx_
  clear hx_
  have n67 : b6 ≠ b7 := Ne.symm h7.1
  have e6 : (Hp.set b6 (.box (rowC r))) b6 = some (.box (rowC r)) := heap_same _ _
  have g7 : (Hp.set b6 (.box (rowC r))) b7 = none := by rw [heap_ne _ h7.1]; exact h7.2
  have hle6 : Hp.Le (Hp.set b6 (.box (rowC r))) := heap_le_set h6
  generalize Hp.set b6 (.box (rowC r)) = B6 at e6 g7 hle6 ⊢
  clear h7
  have gle := gcdT_le r.c 4294967295 (fun x hx => by have := hrs x hx; omega)
  have gc0 : ∀ (a : Int) (_ : Sz a) (H : Heap) (Q : D → Heap → Prop), Q (.agg (bigC (a.natAbs : Nat))) H → ACalls Tryz.prog 168 [.agg (bigC a), .agg [.bool false, .nilsl]] H Q := fun a ha H Q hq => by
   refine ACalls.nilR (args' := [.agg (bigC a), .agg (bigC 0)]) rfl (fun i d d' h1 h2 => ?_) (bgcd_a a 0 ha (by decide) H (by rw [show (0 : Int).natAbs = 0 from rfl, Nat.gcd_zero_right]; exact hq))
   match i with
   | 0 => cases h1; cases h2; exact .same _
   | 1 => cases h1; cases h2; exact nil_big
   | i + 2 => cases h1
  repeat' (first | with_reducible refine And.intro ?_ ?_ | simp only [go_sem,seval, e6, heap_ne _ n67] | simp (disch := omega) only [wrap64, Rw_at] | simp (disch := first | omega | grind) only [heap_ne_] | (intro hx_; try simp only [set_none] at hx_) | omega)
  refine loop_c [4, 6, 7, 15, 16, 17, 22, 23] (fun (j : Nat) => [(24, .int .i64 j)]) (fun (j : Nat) => B6.set b7 (.box (gB j (gcdT r.c j : Nat)))) (fun (j : Nat) => j ≤ r.c.length) (fun (j : Nat) => r.c.length - j) (0) (Nat.zero_le _) (by (try simp only [go_sem,seval]) <;> (try simp (disch := omega) [wrap64]) <;> (try omega)) (by first | with_reducible exact Heap.Le.refl _ | exact heap_set_le (by assumption) | exact Heap.Le.refl _ | exact heap_le_set (by assumption) | exact (by simp only [Go.Av.Heap.Le, Go.Av.Heap.set, Go.Av.Heap.del] at * <;> grind)) ?_
  ·rintro Ec rfl j hj
   by_cases hjt : j < r.c.length
   ·have hkd : decide ((j : Int) < r.c.length) = true := decide_eq_true (by omega)
    have hjr : (j : Int) < r.c.length := by omega
    have c1 := hrs _ (List.getElem_mem hjt)
    have s1 : Sz r.c[j] := sz_two (by omega)
    have gs := gcdT_succ r.c j hjt
    have gj := gle j hj
    cases j with
    | zero =>
     rw [gcdT_zero, Nat.gcd_zero_right] at gs
     have eg : gB 0 (gcdT r.c 0 : Nat) = [.bool false, .nilsl] := rfl
     rw [eg]
     repeat' (first | with_reducible refine And.intro ?_ ?_ | simp only [go_sem,seval, hkd, hjr, Rw_at _ _ hjt, Rw_get _ _ hjt] | simp (disch := omega) only [wrap64, Rw_at] | simp (disch := first | omega | grind) only [heap_ne_] | (intro hx_; try simp only [set_none] at hx_) | with_reducible refine gc0 _ s1 _ _ ?_ | omega)
     rename_i b9
     have h9 := hx_
     clear hx_
     refine nx_mk (0 + 1) (by omega) (by omega) (by (try simp only [go_sem,seval]) <;> (try simp (disch := omega) [wrap64]) <;> (try omega)) ?_
     rw [gB_succ, gs]
     exact (by simp only [Go.Av.Heap.Le, Go.Av.Heap.set, Go.Av.Heap.del] at * <;> grind)
    | succ j =>
     have hg : Sz ((gcdT r.c (j + 1) : Nat) : Int) := sz_two (by omega)
     have gcs : ∀ (H : Heap) (Q : D → Heap → Prop), Q (.agg (bigC ((gcdT r.c (j + 1 + 1) : Nat) : Int))) H → ACalls Tryz.prog 168 [.agg (bigC r.c[j + 1]), .agg (bigC ((gcdT r.c (j + 1) : Nat) : Int))] H Q := fun H Q hq =>
      bgcd_a _ _ s1 (by omega) H (by rw [Int.natAbs_natCast, ← gs]; exact hq)
     rw [gB_succ]
     repeat' (first | with_reducible refine And.intro ?_ ?_ | simp only [go_sem,seval, hkd, hjr, Rw_at _ _ hjt, Rw_get _ _ hjt] | simp (disch := omega) only [wrap64, Rw_at] | simp (disch := first | omega | grind) only [heap_ne_] | (intro hx_; try simp only [set_none] at hx_) | with_reducible refine gcs _ _ ?_ | omega)
     rename_i b9
     have h9 := hx_
     clear hx_
     refine nx_mk (j + 1 + 1) (by omega) (by omega) (by (try simp only [go_sem,seval]) <;> (try simp (disch := omega) [wrap64]) <;> (try omega)) ?_
     rw [gB_succ]
     exact (by simp only [Go.Av.Heap.Le, Go.Av.Heap.set, Go.Av.Heap.del] at * <;> grind)
   ·have hkd : decide ((j : Int) < r.c.length) = false := decide_eq_false (by omega)
    have hje : j = r.c.length := by omega
    subst hje
    rw [gcdT_all]
    have gle := gle _ (Nat.le_refl _)
    rw [gcdT_all] at gle
    have hG : NilR (.agg (gB r.c.length (gcdR r.c : Nat))) (.agg (bigC (gcdR r.c : Nat))) := by have := gB_nil r.c r.c.length; rwa [gcdT_all] at this
    have hG2 : gcdR r.c ≠ 0 → gB r.c.length (gcdR r.c : Nat) = bigC (gcdR r.c : Nat) := fun g => by
     cases hl : r.c.length with
     | zero => rw [List.eq_nil_of_length_eq_zero hl] at g; exact absurd rfl g
     | succ k => exact gB_succ _ _
    obtain ⟨d1, d2, hd⟩ : ∃ d1 d2, gB r.c.length (gcdR r.c : Nat) = [d1, d2] := by
     unfold gB; split
     ·exact ⟨_, _, rfl⟩
     ·exact ⟨_, _, rfl⟩
    rw [hd] at hG hG2 ⊢
    have t1d : tidy1 r = if gcdR r.c = 0 then (if r.k < 0 ∨ (r.eq = true ∧ 0 < r.k) then none else some []) else if gcdR r.c = 1 then some [r] else if r.eq = true ∧ r.k.fdiv (gcdR r.c : Nat) * (gcdR r.c : Nat) - r.k ≠ 0 then none else some [⟨r.c.map (Int.fdiv · (gcdR r.c : Nat)), r.k.fdiv (gcdR r.c : Nat), r.eq⟩] := rfl
    generalize gcdR r.c = g at gle hG hG2 t1d
    have sgn : ∀ (s : Int), (g : Int).sign = s → ∀ (H : Heap) (Q : D → Heap → Prop), Q (.int .i64 s) H → ACalls Tryz.prog 169 [.agg [d1, d2]] H Q := fun s hs H Q hq => by
     refine ACalls.nilR (args' := [.agg (bigC (g : Nat))]) rfl (fun i d d' h1 h2 => ?_) (sign_a (g : Int) H (by rw [hs]; exact hq))
     match i with
     | 0 => cases h1; cases h2; exact hG
     | i + 1 => cases h1
    have e7 : (B6.set b7 (.box [d1, d2])) b7 = some (.box [d1, d2]) := heap_same _ _
    have e6' : (B6.set b7 (.box [d1, d2])) b6 = some (.box (rowC r)) := by rw [heap_ne _ n67]; exact e6
    have hle7 : Hp.Le (B6.set b7 (.box [d1, d2])) := hle6.trans (heap_le_set g7)
    generalize B6.set b7 (.box [d1, d2]) = B7 at e7 e6' hle7 ⊢
    clear e6 g7 hle6 gc0 hd
    have none_ : tidy1 r = none → Q (.tuple [.sl 4 [], .bool false]) H := fun e => by
     unfold TS at st
     rw [e] at st
     rw [st] at h
     exact h
    by_cases g0 : g = 0
    ·rw [if_pos g0] at t1d
     have sg0 : ((g : Nat) : Int).sign = 0 := by rw [g0]; rfl
     have sk := hr.2.1
     by_cases k1 : r.k < 0
     ·rw [if_pos (.inl k1)] at t1d
      have sg : r.k.sign = -1 := Int.sign_eq_neg_one_of_neg k1
      repeat' (first | with_reducible refine And.intro ?_ ?_ | simp only [go_sem,seval, hkd, e7, e6', sg] | simp (disch := omega) only [wrap64, Rw_at] | simp (disch := first | omega | grind) only [heap_ne_] | (intro hx_; try simp only [set_none] at hx_) | with_reducible refine sgn 0 sg0 _ _ ?_ | with_reducible refine sign_a r.k _ ?_ | omega)
      exact Fin.nilsl 4 _ (Fin.less (h3.le.trans hle7) (none_ t1d))
     ·cases hre : r.eq with
      | true =>
       by_cases k2 : 0 < r.k
       ·rw [if_pos (.inr ⟨hre, k2⟩)] at t1d
        have sg : r.k.sign = 1 := Int.sign_eq_one_of_pos k2
        repeat' (first | with_reducible refine And.intro ?_ ?_ | simp only [go_sem,seval, hkd, e7, e6', sg, hre] | simp (disch := omega) only [wrap64, Rw_at] | simp (disch := first | omega | grind) only [heap_ne_] | (intro hx_; try simp only [set_none] at hx_) | with_reducible refine sgn 0 sg0 _ _ ?_ | with_reducible refine sign_a r.k _ ?_ | omega)
        exact Fin.nilsl 4 _ (Fin.less (h3.le.trans hle7) (none_ t1d))
       ·have k0 : r.k = 0 := by omega
        rw [if_neg (by omega)] at t1d
        have sg : r.k.sign = 0 := by rw [k0]; rfl
        repeat' (first | with_reducible refine And.intro ?_ ?_ | simp only [go_sem,seval, hkd, e7, e6', sg, hre] | simp (disch := omega) only [wrap64, Rw_at] | simp (disch := first | omega | grind) only [heap_ne_] | (intro hx_; try simp only [set_none] at hx_) | with_reducible refine sgn 0 sg0 _ _ ?_ | with_reducible refine sign_a r.k _ ?_ | omega)
        refine nx_mk (i + 1, X, o1) ⟨by simp only []; omega, by simp only []; omega, hXP, ?_, ho, hob⟩ (by simp only []; omega) (by (try simp only [go_sem,seval]) <;> (try simp (disch := omega) [wrap64]) <;> (try omega)) (h3.putle.trans hle7)
        unfold TS at st
        rw [t1d] at st
        simp only [TA]
        rw [st]; simp
      | false =>
       have t1e : tidy1 r = some [] := by rw [t1d, if_neg (by rw [hre]; simp; omega)]
       rcases Int.lt_trichotomy 0 r.k with k2 | k2 | k2
       ·have sg : r.k.sign = 1 := Int.sign_eq_one_of_pos k2
        repeat' (first | with_reducible refine And.intro ?_ ?_ | simp only [go_sem,seval, hkd, e7, e6', sg, hre] | simp (disch := omega) only [wrap64, Rw_at] | simp (disch := first | omega | grind) only [heap_ne_] | (intro hx_; try simp only [set_none] at hx_) | with_reducible refine sgn 0 sg0 _ _ ?_ | with_reducible refine sign_a r.k _ ?_ | omega)
        refine nx_mk (i + 1, X, o1) ⟨by simp only []; omega, by simp only []; omega, hXP, ?_, ho, hob⟩ (by simp only []; omega) (by (try simp only [go_sem,seval]) <;> (try simp (disch := omega) [wrap64]) <;> (try omega)) (h3.putle.trans hle7)
        unfold TS at st
        rw [t1e] at st
        simp only [TA]
        rw [st]; simp
       ·have sg : r.k.sign = 0 := by rw [← k2]; rfl
        repeat' (first | with_reducible refine And.intro ?_ ?_ | simp only [go_sem,seval, hkd, e7, e6', sg, hre] | simp (disch := omega) only [wrap64, Rw_at] | simp (disch := first | omega | grind) only [heap_ne_] | (intro hx_; try simp only [set_none] at hx_) | with_reducible refine sgn 0 sg0 _ _ ?_ | with_reducible refine sign_a r.k _ ?_ | omega)
        refine nx_mk (i + 1, X, o1) ⟨by simp only []; omega, by simp only []; omega, hXP, ?_, ho, hob⟩ (by simp only []; omega) (by (try simp only [go_sem,seval]) <;> (try simp (disch := omega) [wrap64]) <;> (try omega)) (h3.putle.trans hle7)
        unfold TS at st
        rw [t1e] at st
        simp only [TA]
        rw [st]; simp
       ·omega
    ·rw [if_neg g0] at t1d
     have hGe := hG2 g0
     rw [hGe] at e7
     clear hG2 hG hGe sgn
     have gi : ((g : Nat) : Int) ≠ 0 := by omega
     have gb : ((g : Nat) : Int).natAbs < 4294967296 := by omega
     have sk := hr.2.1
     have s1 : Sz r.k := sz_two (by omega)
     have s2 : Sz ((g : Nat) : Int) := sz_two (by omega)
     obtain ⟨G, hGd⟩ : ∃ G : Int, G = (g : Nat) := ⟨_, rfl⟩
     rw [← hGd] at t1d e7 gi gb s2
     have sg : ¬ G.sign = 0 := by rw [Int.sign_eq_zero_iff_zero]; exact gi
     by_cases g1 : g = 1
     ·rw [if_pos g1] at t1d
      have o1e : (G.natAbs = 1) = True := by simp [hGd, g1]
      repeat' (first | with_reducible refine And.intro ?_ ?_ | simp only [go_sem,seval, hkd, e7, e6', sg, o1e] | simp (disch := omega) only [wrap64, Rw_at] | simp (disch := first | omega | grind) only [heap_ne_] | (intro hx_; try simp only [set_none] at hx_) | with_reducible refine sign_a G _ ?_ | with_reducible refine one_a G _ ?_ | omega)
      rename_i bx
      have hbx := hx_
      clear hx_
      refine O3.ap h3 (e1' := Rw rowC (X ++ [r])) hle7 hbx (by simp) (by rw [Rw_len]) (by simp only [List.length_cons, List.length_nil]; omega) (by simp only [List.length_cons, List.length_nil]; omega) (by rw [← Rw_app]; rfl) fun b' H' h4 => ?_
      repeat' (first | with_reducible refine And.intro ?_ ?_ | simp only [go_sem,seval] | simp (disch := omega) only [wrap64, Rw_at] | simp (disch := first | omega | grind) only [heap_ne_] | (intro hx_; try simp only [set_none] at hx_) | omega)
      refine nx_mk (i + 1, X ++ [r], some b') ⟨by simp only []; omega, by simp only [List.length_append, List.length_cons, List.length_nil]; omega, fun s hs => ?_, ?_, by simp, fun b e => h4.n1 b e⟩ (by simp only []; omega) (by (try simp only [go_sem,seval, List.length_append, out_some]) <;> (try simp (disch := omega) [wrap64]) <;> (try omega)) h4.putle
      ·rcases List.mem_append.1 hs with q | q
       ·exact hXP s q
       ·simp at q; rw [q]; exact hr
      ·unfold TS at st
       rw [t1d] at st
       exact st
     ·rw [if_neg g1] at t1d
      have o1e : (G.natAbs = 1) = False := by simp; omega
      obtain ⟨K, hK⟩ : ∃ K, K = r.k.fdiv G := ⟨_, rfl⟩
      rw [← hK] at t1d
      have kabs : K.natAbs ≤ r.k.natAbs := by rw [hK, hGd]; exact fdiv_absle _ _ g0
      have s3 : Sz K := sz_two (by omega)
      have flr : ∀ (H : Heap) (Q : D → Heap → Prop), Q (.agg (bigC K)) H → ACalls Tryz.prog 171 [.agg (bigC r.k), .agg (bigC G)] H Q := fun H Q hq => bfloor_a r.k G s1 gi gb H (by rw [← hK]; exact hq)
      repeat' (first | with_reducible refine And.intro ?_ ?_ | simp only [go_sem,seval, hkd, e7, e6', sg, o1e] | simp (disch := omega) only [wrap64, Rw_at] | simp (disch := first | omega | grind) only [heap_ne_] | (intro hx_; try simp only [set_none] at hx_) | with_reducible refine sign_a G _ ?_ | with_reducible refine one_a G _ ?_ | with_reducible refine flr _ _ ?_ | omega)
      rename_i b11
      have h11 := hx_
      clear hx_
      have n711 : b7 ≠ b11 := fun g => by rw [g, h11] at e7; cases e7
      have n611 : b6 ≠ b11 := fun g => by rw [g, h11] at e6'; cases e6'
      have c7 : (B7.set b11 (.box (bigC K))) b7 = some (.box (bigC G)) := by rw [heap_ne _ n711]; exact e7
      have c6 : (B7.set b11 (.box (bigC K))) b6 = some (.box (rowC r)) := by rw [heap_ne _ n611]; exact e6'
      have c11 : (B7.set b11 (.box (bigC K))) b11 = some (.box (bigC K)) := heap_same _ _
      have hle8 : Hp.Le (B7.set b11 (.box (bigC K))) := hle7.trans (heap_le_set h11)
      generalize B7.set b11 (.box (bigC K)) = B8 at c7 c6 c11 hle8 ⊢
      clear e7 e6' hle7 h11
      have m6 : b6 ∈ [b6, b7, b11] := by simp
      have m7 : b7 ∈ [b6, b7, b11] := by simp
      have m11 : b11 ∈ [b6, b7, b11] := by simp
      have n6a : b6 ∈ [b6, b11] := by simp
      have n6b : b11 ∈ [b6, b11] := by simp
      cases hre : r.eq with
      | true =>
       have a3 := mul_abs (a := K) (b := G) (m := 4611686018427387904) (n := 4294967296) (by omega) (by omega)
       have s4 : Sz (K * G) := sz_two (by omega)
       obtain ⟨Z, hZ⟩ : ∃ Z, Z = K * G - r.k := ⟨_, rfl⟩
       have mns : ∀ (H : Heap) (Q : D → Heap → Prop), Q (.agg (bigC Z)) H → ACalls Tryz.prog 173 [.agg (bigC (K * G)), .agg (bigC r.k)] H Q := fun H Q hq => bminus_a (K * G) r.k s4 s1 H (by rw [← hZ]; exact hq)
       refine par_mk (fun i' => if i' = 5 then .agg (bigC (K * G)) else if i' = 8 then .agg (bigC Z) else if i' = 9 then .int .i64 Z.sign else .undef) [b6, b7, b11] ?_
       by_cases z0 : Z = 0
       ·have sz : Z.sign = 0 := by rw [z0]; rfl
        have t1f : tidy1 r = some [⟨r.c.map (Int.fdiv · G), K, r.eq⟩] := by rw [t1d, if_neg (by rw [← hZ, z0]; simp)]
        rw [sz]
        repeat' (first | with_reducible refine And.intro ?_ ?_ | simp only [go_sem,seval, c6, c7, c11, m6, m7, m11, hre] | simp (disch := omega) only [wrap64, Rw_at] | simp (disch := first | omega | grind) only [heap_ne_] | (intro hx_; try simp only [set_none] at hx_) | with_reducible refine pc0 (fun H' Q hro hq => btimes_a K G s3 s2 H' hq) ?_ | with_reducible refine pc0 (fun H' Q hro hq => mns H' Q hq) ?_ | with_reducible refine pc0 (fun H' Q hro hq => sign_a Z H' (by rw [sz]; exact hq)) ?_ | omega)
        obtain ⟨C, hC⟩ : ∃ C, C = r.c.map (Int.fdiv · G) := ⟨_, rfl⟩
        have hCl : C.length = r.c.length := by rw [hC]; simp
        refine par_mk (fun i' => .undef) [b6, b11] ?_
        repeat' (first | with_reducible refine And.intro ?_ ?_ | simp only [go_sem,seval, c6, c7, c11, n6a, n6b] | simp (disch := omega) only [wrap64, Rw_at] | simp (disch := first | omega | grind) only [heap_ne_] | (intro hx_; try simp only [set_none] at hx_) | omega)
        rename_i bv hv b12
        have h12 := hx_
        clear hx_
        have nb : b12 ≠ bv := h12.1
        have k6 : b6 ≠ bv ∧ b6 ≠ b12 := ⟨(fun g => by rw [g, hv] at c6; cases c6), (fun g => by rw [g, h12.2] at c6; cases c6)⟩
        have k7 : b7 ≠ bv ∧ b7 ≠ b12 := ⟨(fun g => by rw [g, hv] at c7; cases c7), (fun g => by rw [g, h12.2] at c7; cases c7)⟩
        rw [show List.replicate r.c.length [D.bool false, .nilsl] = padZ C r.c.length 0 from (padZ_zero _ _).symm]
        obtain ⟨RR, hRR⟩ : ∃ RR : Row, RR = ⟨C, K, r.eq⟩ := ⟨_, rfl⟩
        refine loop_c [4, 6, 7, 12, 15, 16, 17, 76, 77] (fun (j : Nat) => [(78, .int .i64 j)]) (fun (j : Nat) => (B8.set bv (.vec 2 (padZ C r.c.length j))).set b12 (.box [.vec bv 2 0 r.c.length, .bool (decide (K < 0)), .sl 1 (Rw digC (digs K.natAbs)), .bool r.eq])) (fun (j : Nat) => j ≤ r.c.length) (fun (j : Nat) => r.c.length - j) (0) (Nat.zero_le _) (by (try simp only [go_sem,seval]) <;> (try simp (disch := omega) [wrap64]) <;> (try omega)) (by first | with_reducible exact Heap.Le.refl _ | exact heap_set_le (by assumption) | exact Heap.Le.refl _ | exact heap_le_set (by assumption) | exact (by simp only [Go.Av.Heap.Le, Go.Av.Heap.set, Go.Av.Heap.del] at * <;> grind)) ?_
        rintro Ec rfl j hj
        have hpl := padZ_len C r.c.length j hCl hj
        by_cases hjt : j < r.c.length
        ·have hkd2 : decide ((j : Int) < r.c.length) = true := decide_eq_true (by omega)
         have hjr : (j : Int) < r.c.length := by omega
         have c1 := hrs _ (List.getElem_mem hjt)
         have sj : Sz r.c[j] := sz_two (by omega)
         have hjC : j < C.length := by omega
         have hci : C[j] = r.c[j].fdiv G := by simp only [hC, List.getElem_map]
         have hset := padZ_set C r.c.length j hCl hjt (bigC (r.c[j].fdiv G)) (by rw [hci])
         have hpg := padZ_getD C r.c.length j j hCl (Nat.le_refl _) hjt
         have hpg2 := padZ_get C r.c.length j j hCl (Nat.le_refl _) hjt
         repeat' (first | with_reducible refine And.intro ?_ ?_ | simp only [go_sem,seval, hkd2, hjr, Rw_at _ _ hjt, Rw_get _ _ hjt] | simp (disch := omega) only [wrap64, Rw_at] | simp (disch := first | omega | grind) only [heap_ne_] | (intro hx_; try simp only [set_none] at hx_) | omega)
         rename_i b14
         have h14 := hx_
         clear hx_
         have p12 : b12 ∈ [b7, b12, b14] := by simp
         have p14 : b14 ∈ [b7, b12, b14] := by simp
         have p7 : b7 ∈ [b7, b12, b14] := by simp
         have j1 := h14.1
         have j2 := h14.2.1
         have j3 : b7 ≠ b14 := fun g => by have := h14.2.2; rw [← g, c7] at this; cases this
         have v7 : ((B8.set bv (.vec 2 (padZ C r.c.length j))).set b12 (.box [.vec bv 2 0 r.c.length, .bool (decide (K < 0)), .sl 1 (Rw digC (digs K.natAbs)), .bool r.eq])) b7 = some (.box (bigC G)) := by rw [heap_ne _ k7.2, heap_ne _ k7.1]; exact c7
         obtain ⟨y, hy⟩ : ∃ y, y = r.c[j].fdiv G := ⟨_, rfl⟩
         have fl2 : ∀ (H : Heap) (Q : D → Heap → Prop), Q (.agg (bigC y)) H → ACalls Tryz.prog 171 [.agg (bigC r.c[j]), .agg (bigC G)] H Q := fun H Q hq => bfloor_a r.c[j] G sj gi gb H (by rw [← hy]; exact hq)
         rw [← hy] at hset
         refine par_mk (fun i' => if i' = 5 then .agg (bigC y) else .undef) [b7, b12, b14] ?_
         repeat' (first | with_reducible refine And.intro ?_ ?_ | simp only [go_sem,seval, p7, p12, p14, heap_ne _ j3, heap_ne _ k7.2, heap_ne _ k7.1, c7, hjr, hpl, hpg, hpg2, hset] | simp (disch := omega) only [wrap64, Rw_at] | simp (disch := first | omega | grind) only [heap_ne_] | (intro hx_; try simp only [set_none] at hx_) | with_reducible refine pc0 (fun H' Q hro hq => fl2 H' Q hq) ?_ | omega)
         refine nx_mk (j + 1) (by omega) (by omega) (by (try simp only [go_sem,seval]) <;> (try simp (disch := omega) [wrap64]) <;> (try omega)) ?_
         rw [← hset]
         intro k o hk
         have e14 : k ≠ b14 := fun g => by rw [g, heap_ne _ j1, heap_ne _ j2, h14.2.2] at hk; cases hk
         by_cases e : k = bv
         ·subst e; rw [heap_ne _ nb.symm, heap_same] at hk; rw [heap_same]; exact hk
         ·rw [heap_ne _ e, heap_ne _ e14]
          by_cases e12 : k = b12
          ·subst e12; rw [heap_same] at hk ⊢; exact hk
          ·rw [heap_ne _ e12, heap_ne _ e] at hk ⊢; exact hk
        ·have hkd2 : decide ((j : Int) < r.c.length) = false := decide_eq_false (by omega)
         have hje : j = r.c.length := by omega
         subst hje
         rw [padZ_all C _ hCl]
         repeat' (first | with_reducible refine And.intro ?_ ?_ | simp only [go_sem,seval, hkd2, heap_ne _ k6.1, heap_ne _ k6.2, c6] | simp (disch := omega) only [wrap64, Rw_at] | simp (disch := first | omega | grind) only [heap_ne_] | (intro hx_; try simp only [set_none] at hx_) | omega)
         rename_i bx
         have hbx := hx_
         clear hx_
         have hHB : H.Le B8 := h3.le.trans hle8
         have hHb : H bv = none := hHB.none hv
         have q1 : (H.set bv (.vec 2 (Rw bigC C))).Le (((B8.set bv (.vec 2 (Rw bigC C))).set b12 (.box [.vec bv 2 0 r.c.length, .bool (decide (K < 0)), .sl 1 (Rw digC (digs K.natAbs)), .bool r.eq])).set b6 (.box [.vec bv 2 0 r.c.length, .bool (decide (K < 0)), .sl 1 (Rw digC (digs K.natAbs)), .bool r.eq])) := by
          intro k o hk
          by_cases e : k = bv
          ·subst e; rw [heap_ne _ k6.1.symm, heap_ne _ nb.symm, heap_same]; rw [heap_same] at hk; exact hk
          ·rw [heap_ne _ e] at hk
           have e6 : k ≠ b6 := fun g => by have := h3.le _ _ hk; rw [g, h6] at this; cases this
           have e12 : k ≠ b12 := fun g => by have := hHB _ _ hk; rw [g, h12.2] at this; cases this
           rw [heap_ne _ e6, heap_ne _ e12, heap_ne _ e]; exact hHB _ _ hk
         have q2 : Hp.Le (((B8.set bv (.vec 2 (Rw bigC C))).set b12 (.box [.vec bv 2 0 r.c.length, .bool (decide (K < 0)), .sl 1 (Rw digC (digs K.natAbs)), .bool r.eq])).set b6 (.box [.vec bv 2 0 r.c.length, .bool (decide (K < 0)), .sl 1 (Rw digC (digs K.natAbs)), .bool r.eq])) := by
          intro k o hk
          have e : k ≠ bv := fun g => by have := hle8 _ _ hk; rw [g, hv] at this; cases this
          have e6 : k ≠ b6 := fun g => by rw [g, h6] at hk; cases hk
          have e12 : k ≠ b12 := fun g => by have := hle8 _ _ hk; rw [g, h12.2] at this; cases this
          rw [heap_ne _ e6, heap_ne _ e12, heap_ne _ e]; exact hle8 _ _ hk
         have h3b := h3.base q1 q2 (fun b hb1 hb2 => by rw [heap_ne _ (fun g => hb1 (by rw [g]; exact hle8.none hv))]; exact hb2)
         refine O3.ap h3b (e1' := Rw rowC X ++ [[.vec bv 2 0 r.c.length, .bool (decide (K < 0)), .sl 1 (Rw digC (digs K.natAbs)), .bool r.eq]]) (Heap.Le.refl _) (by simp only [set_none]; simp only [hbx, ne_eq, not_false_eq_true, and_self]) (by simp) (by rw [Rw_len]) (by simp only [List.length_cons, List.length_nil]; omega) (by simp only [List.length_cons, List.length_nil]; omega) rfl fun b' H' h4 => ?_
         clear h3b q1 q2 hbx
         repeat' (first | with_reducible refine And.intro ?_ ?_ | simp only [go_sem,seval] | simp (disch := omega) only [wrap64, Rw_at] | simp (disch := first | omega | grind) only [heap_ne_] | (intro hx_; try simp only [set_none] at hx_) | omega)
         have hn4 := h4.n1 _ rfl
         have nbv : bv ≠ b' := fun g => by rw [← g, heap_same] at hn4; cases hn4
         have eX : Rw rowC (X ++ [RR]) = Rw rowC X ++ [.sl 2 (Rw bigC C) :: [.bool (decide (K < 0)), .sl 1 (Rw digC (digs K.natAbs)), .bool r.eq]] := by rw [← Rw_app, hRR]; rfl
         have hRP := tidy1_P hr t1f
         rw [← hC, ← hRR] at hRP t1f
         refine nx_w (i + 1, X ++ [RR], some b') ⟨by simp only []; omega, by simp only [List.length_append, List.length_cons, List.length_nil]; omega, fun s hs => ?_, ?_, by simp, fun b e => ?_⟩ (by simp only []; omega) ?_
         ·rcases List.mem_append.1 hs with q | q
          ·exact hXP s q
          ·exact hRP.1 s q
         ·unfold TS at st
          rw [t1f] at st
          exact st
         ·have := h4.n1 _ e
          rw [heap_ne _ (by cases e; exact nbv.symm)] at this
          exact this
         ·show Weak _ (H.set b' (.vec 4 (Rw rowC (X ++ [RR])))) _ _
          rw [eX]
          refine weak_rowN (by (try simp only [go_sem,seval, List.length_append, out_some]) <;> (try simp (disch := omega) [wrap64]) <;> (try omega)) (by rw [Rw_len, hCl]) h4.a1 (h4.le _ _ (heap_same _ _)) nbv (fun k o hk ho => ?_)
          have hkb : k ≠ bv := fun g => by rw [g, hHb] at ho; cases ho
          exact ⟨hkb, h4.le k o (by rw [heap_ne _ hkb]; exact ho)⟩
       ·have sz : ¬ Z.sign = 0 := by rw [Int.sign_eq_zero_iff_zero]; exact z0
        have t1f : tidy1 r = none := by rw [t1d, if_pos ⟨hre, by rw [← hZ]; exact z0⟩]
        repeat' (first | with_reducible refine And.intro ?_ ?_ | simp only [go_sem,seval, c6, c7, c11, m6, m7, m11, hre, sz] | simp (disch := omega) only [wrap64, Rw_at] | simp (disch := first | omega | grind) only [heap_ne_] | (intro hx_; try simp only [set_none] at hx_) | with_reducible refine pc0 (fun H' Q hro hq => btimes_a K G s3 s2 H' hq) ?_ | with_reducible refine pc0 (fun H' Q hro hq => mns H' Q hq) ?_ | with_reducible refine pc0 (fun H' Q hro hq => sign_a Z H' hq) ?_ | omega)
        exact Fin.nilsl 4 _ (Fin.less (h3.le.trans hle8) (none_ t1f))
      | false =>
       have t1f : tidy1 r = some [⟨r.c.map (Int.fdiv · G), K, r.eq⟩] := by rw [t1d, if_neg (by rw [hre]; simp)]
       refine par_mk (fun i' => .undef) [b6, b7, b11] ?_
       repeat' (first | with_reducible refine And.intro ?_ ?_ | simp only [go_sem,seval, c6, c7, c11, m6, m7, m11, hre] | simp (disch := omega) only [wrap64, Rw_at] | simp (disch := first | omega | grind) only [heap_ne_] | (intro hx_; try simp only [set_none] at hx_) | omega)
       obtain ⟨C, hC⟩ : ∃ C, C = r.c.map (Int.fdiv · G) := ⟨_, rfl⟩
       have hCl : C.length = r.c.length := by rw [hC]; simp
       refine par_mk (fun i' => .undef) [b6, b11] ?_
       repeat' (first | with_reducible refine And.intro ?_ ?_ | simp only [go_sem,seval, c6, c7, c11, n6a, n6b] | simp (disch := omega) only [wrap64, Rw_at] | simp (disch := first | omega | grind) only [heap_ne_] | (intro hx_; try simp only [set_none] at hx_) | omega)
       rename_i bv hv b12
       have h12 := hx_
       clear hx_
       have nb : b12 ≠ bv := h12.1
       have k6 : b6 ≠ bv ∧ b6 ≠ b12 := ⟨(fun g => by rw [g, hv] at c6; cases c6), (fun g => by rw [g, h12.2] at c6; cases c6)⟩
       have k7 : b7 ≠ bv ∧ b7 ≠ b12 := ⟨(fun g => by rw [g, hv] at c7; cases c7), (fun g => by rw [g, h12.2] at c7; cases c7)⟩
       rw [show List.replicate r.c.length [D.bool false, .nilsl] = padZ C r.c.length 0 from (padZ_zero _ _).symm]
       obtain ⟨RR, hRR⟩ : ∃ RR : Row, RR = ⟨C, K, r.eq⟩ := ⟨_, rfl⟩
       refine loop_c [4, 6, 7, 12, 15, 16, 17, 76, 77] (fun (j : Nat) => [(78, .int .i64 j)]) (fun (j : Nat) => (B8.set bv (.vec 2 (padZ C r.c.length j))).set b12 (.box [.vec bv 2 0 r.c.length, .bool (decide (K < 0)), .sl 1 (Rw digC (digs K.natAbs)), .bool r.eq])) (fun (j : Nat) => j ≤ r.c.length) (fun (j : Nat) => r.c.length - j) (0) (Nat.zero_le _) (by (try simp only [go_sem,seval]) <;> (try simp (disch := omega) [wrap64]) <;> (try omega)) (by first | with_reducible exact Heap.Le.refl _ | exact heap_set_le (by assumption) | exact Heap.Le.refl _ | exact heap_le_set (by assumption) | exact (by simp only [Go.Av.Heap.Le, Go.Av.Heap.set, Go.Av.Heap.del] at * <;> grind)) ?_
       rintro Ec rfl j hj
       have hpl := padZ_len C r.c.length j hCl hj
       by_cases hjt : j < r.c.length
       ·have hkd2 : decide ((j : Int) < r.c.length) = true := decide_eq_true (by omega)
        have hjr : (j : Int) < r.c.length := by omega
        have c1 := hrs _ (List.getElem_mem hjt)
        have sj : Sz r.c[j] := sz_two (by omega)
        have hjC : j < C.length := by omega
        have hci : C[j] = r.c[j].fdiv G := by simp only [hC, List.getElem_map]
        have hset := padZ_set C r.c.length j hCl hjt (bigC (r.c[j].fdiv G)) (by rw [hci])
        have hpg := padZ_getD C r.c.length j j hCl (Nat.le_refl _) hjt
        have hpg2 := padZ_get C r.c.length j j hCl (Nat.le_refl _) hjt
        repeat' (first | with_reducible refine And.intro ?_ ?_ | simp only [go_sem,seval, hkd2, hjr, Rw_at _ _ hjt, Rw_get _ _ hjt] | simp (disch := omega) only [wrap64, Rw_at] | simp (disch := first | omega | grind) only [heap_ne_] | (intro hx_; try simp only [set_none] at hx_) | omega)
        rename_i b14
        have h14 := hx_
        clear hx_
        have p12 : b12 ∈ [b7, b12, b14] := by simp
        have p14 : b14 ∈ [b7, b12, b14] := by simp
        have p7 : b7 ∈ [b7, b12, b14] := by simp
        have j1 := h14.1
        have j2 := h14.2.1
        have j3 : b7 ≠ b14 := fun g => by have := h14.2.2; rw [← g, c7] at this; cases this
        have v7 : ((B8.set bv (.vec 2 (padZ C r.c.length j))).set b12 (.box [.vec bv 2 0 r.c.length, .bool (decide (K < 0)), .sl 1 (Rw digC (digs K.natAbs)), .bool r.eq])) b7 = some (.box (bigC G)) := by rw [heap_ne _ k7.2, heap_ne _ k7.1]; exact c7
        obtain ⟨y, hy⟩ : ∃ y, y = r.c[j].fdiv G := ⟨_, rfl⟩
        have fl2 : ∀ (H : Heap) (Q : D → Heap → Prop), Q (.agg (bigC y)) H → ACalls Tryz.prog 171 [.agg (bigC r.c[j]), .agg (bigC G)] H Q := fun H Q hq => bfloor_a r.c[j] G sj gi gb H (by rw [← hy]; exact hq)
        rw [← hy] at hset
        refine par_mk (fun i' => if i' = 5 then .agg (bigC y) else .undef) [b7, b12, b14] ?_
        repeat' (first | with_reducible refine And.intro ?_ ?_ | simp only [go_sem,seval, p7, p12, p14, heap_ne _ j3, heap_ne _ k7.2, heap_ne _ k7.1, c7, hjr, hpl, hpg, hpg2, hset] | simp (disch := omega) only [wrap64, Rw_at] | simp (disch := first | omega | grind) only [heap_ne_] | (intro hx_; try simp only [set_none] at hx_) | with_reducible refine pc0 (fun H' Q hro hq => fl2 H' Q hq) ?_ | omega)
        refine nx_mk (j + 1) (by omega) (by omega) (by (try simp only [go_sem,seval]) <;> (try simp (disch := omega) [wrap64]) <;> (try omega)) ?_
        rw [← hset]
        intro k o hk
        have e14 : k ≠ b14 := fun g => by rw [g, heap_ne _ j1, heap_ne _ j2, h14.2.2] at hk; cases hk
        by_cases e : k = bv
        ·subst e; rw [heap_ne _ nb.symm, heap_same] at hk; rw [heap_same]; exact hk
        ·rw [heap_ne _ e, heap_ne _ e14]
         by_cases e12 : k = b12
         ·subst e12; rw [heap_same] at hk ⊢; exact hk
         ·rw [heap_ne _ e12, heap_ne _ e] at hk ⊢; exact hk
       ·have hkd2 : decide ((j : Int) < r.c.length) = false := decide_eq_false (by omega)
        have hje : j = r.c.length := by omega
        subst hje
        rw [padZ_all C _ hCl]
        repeat' (first | with_reducible refine And.intro ?_ ?_ | simp only [go_sem,seval, hkd2, heap_ne _ k6.1, heap_ne _ k6.2, c6] | simp (disch := omega) only [wrap64, Rw_at] | simp (disch := first | omega | grind) only [heap_ne_] | (intro hx_; try simp only [set_none] at hx_) | omega)
        rename_i bx
        have hbx := hx_
        clear hx_
        have hHB : H.Le B8 := h3.le.trans hle8
        have hHb : H bv = none := hHB.none hv
        have q1 : (H.set bv (.vec 2 (Rw bigC C))).Le (((B8.set bv (.vec 2 (Rw bigC C))).set b12 (.box [.vec bv 2 0 r.c.length, .bool (decide (K < 0)), .sl 1 (Rw digC (digs K.natAbs)), .bool r.eq])).set b6 (.box [.vec bv 2 0 r.c.length, .bool (decide (K < 0)), .sl 1 (Rw digC (digs K.natAbs)), .bool r.eq])) := by
         intro k o hk
         by_cases e : k = bv
         ·subst e; rw [heap_ne _ k6.1.symm, heap_ne _ nb.symm, heap_same]; rw [heap_same] at hk; exact hk
         ·rw [heap_ne _ e] at hk
          have e6 : k ≠ b6 := fun g => by have := h3.le _ _ hk; rw [g, h6] at this; cases this
          have e12 : k ≠ b12 := fun g => by have := hHB _ _ hk; rw [g, h12.2] at this; cases this
          rw [heap_ne _ e6, heap_ne _ e12, heap_ne _ e]; exact hHB _ _ hk
        have q2 : Hp.Le (((B8.set bv (.vec 2 (Rw bigC C))).set b12 (.box [.vec bv 2 0 r.c.length, .bool (decide (K < 0)), .sl 1 (Rw digC (digs K.natAbs)), .bool r.eq])).set b6 (.box [.vec bv 2 0 r.c.length, .bool (decide (K < 0)), .sl 1 (Rw digC (digs K.natAbs)), .bool r.eq])) := by
         intro k o hk
         have e : k ≠ bv := fun g => by have := hle8 _ _ hk; rw [g, hv] at this; cases this
         have e6 : k ≠ b6 := fun g => by rw [g, h6] at hk; cases hk
         have e12 : k ≠ b12 := fun g => by have := hle8 _ _ hk; rw [g, h12.2] at this; cases this
         rw [heap_ne _ e6, heap_ne _ e12, heap_ne _ e]; exact hle8 _ _ hk
        have h3b := h3.base q1 q2 (fun b hb1 hb2 => by rw [heap_ne _ (fun g => hb1 (by rw [g]; exact hle8.none hv))]; exact hb2)
        refine O3.ap h3b (e1' := Rw rowC X ++ [[.vec bv 2 0 r.c.length, .bool (decide (K < 0)), .sl 1 (Rw digC (digs K.natAbs)), .bool r.eq]]) (Heap.Le.refl _) (by simp only [set_none]; simp only [hbx, ne_eq, not_false_eq_true, and_self]) (by simp) (by rw [Rw_len]) (by simp only [List.length_cons, List.length_nil]; omega) (by simp only [List.length_cons, List.length_nil]; omega) rfl fun b' H' h4 => ?_
        clear h3b q1 q2 hbx
        repeat' (first | with_reducible refine And.intro ?_ ?_ | simp only [go_sem,seval] | simp (disch := omega) only [wrap64, Rw_at] | simp (disch := first | omega | grind) only [heap_ne_] | (intro hx_; try simp only [set_none] at hx_) | omega)
        have hn4 := h4.n1 _ rfl
        have nbv : bv ≠ b' := fun g => by rw [← g, heap_same] at hn4; cases hn4
        have eX : Rw rowC (X ++ [RR]) = Rw rowC X ++ [.sl 2 (Rw bigC C) :: [.bool (decide (K < 0)), .sl 1 (Rw digC (digs K.natAbs)), .bool r.eq]] := by rw [← Rw_app, hRR]; rfl
        have hRP := tidy1_P hr t1f
        rw [← hC, ← hRR] at hRP t1f
        refine nx_w (i + 1, X ++ [RR], some b') ⟨by simp only []; omega, by simp only [List.length_append, List.length_cons, List.length_nil]; omega, fun s hs => ?_, ?_, by simp, fun b e => ?_⟩ (by simp only []; omega) ?_
        ·rcases List.mem_append.1 hs with q | q
         ·exact hXP s q
         ·exact hRP.1 s q
        ·unfold TS at st
         rw [t1f] at st
         exact st
        ·have := h4.n1 _ e
         rw [heap_ne _ (by cases e; exact nbv.symm)] at this
         exact this
        ·show Weak _ (H.set b' (.vec 4 (Rw rowC (X ++ [RR])))) _ _
         rw [eX]
         refine weak_rowN (by (try simp only [go_sem,seval, List.length_append, out_some]) <;> (try simp (disch := omega) [wrap64]) <;> (try omega)) (by rw [Rw_len, hCl]) h4.a1 (h4.le _ _ (heap_same _ _)) nbv (fun k o hk ho => ?_)
         have hkb : k ≠ bv := fun g => by rw [g, hHb] at ho; cases ho
         exact ⟨hkb, h4.le k o (by rw [heap_ne _ hkb]; exact ho)⟩
 ·have hkd : decide ((i : Int) < l.length) = false := decide_eq_false (by omega)
  unfold TA at hT
  rw [List.drop_eq_nil_of_le (by omega)] at hT
  have hT : tidyA l = some X := by rw [hT]; simp [tidyA]
  rw [hT] at h
  repeat' (first | with_reducible refine And.intro ?_ ?_ | simp only [go_sem,seval, hkd] | simp (disch := omega) only [wrap64, Rw_at] | simp (disch := first | omega | grind) only [heap_ne_] | (intro hx_; try simp only [set_none] at hx_) | omega)
  refine ACalls.out (by rw [Rw_len]) h3.a1 ?_
  refine pairs_a X n (by omega) hn (fun r hr => ⟨(hXP r hr).1, by have := (hXP r hr).2.1; omega, fun x hx => by have := (hXP r hr).2.2 x hx; omega⟩) _ ?_
  generalize hR : pairs2 [] (pairs1 X) = R
  rw [show ((some X).bind fun l => pairs2 [] (pairs1 l)) = R from hR] at h
  cases R with
  | none =>
   simp only [go_sem,seval, resD]
   exact Fin.less (O3.one h3) h
  | some Y =>
   simp only [go_sem,seval, resD]
   exact Fin.less (O3.one h3) h
end Go.Proofs.YtacekpdodelnbaaGreatDoor
end
section
set_option maxRecDepth 20000
namespace Go.Av
theorem ACalls.freezeH2 {P : Program} {f v sz n : Nat} {es : List (List D)} {a : D} {ds rs : List D} {H : Heap} {Q : D → Heap → Prop} (hb : H v = some (.vec sz es)) (hn : n = es.length) (h : ACalls P f (a :: .agg (.sl sz es :: ds) :: rs) (H.del v) Q) : ACalls P f (a :: .agg (.vec v sz 0 n :: ds) :: rs) H Q := by
 subst hn
 refine ACalls.shift (args' := a :: .agg (.sl sz es :: ds) :: rs) (fun w vs h1 h2 hs => ?_) h
 have hle := Heap.del_le H v
 refine ⟨by simpa using h1, fun i d hd => ?_, hs.less hle, fun k hn => hle.held hn⟩
 match i with
 | 0 => cases hd; exact (h2 0 _ rfl).less hle
 | 1 =>
  cases hd
  have hr1 := h2 1 _ rfl
  revert hr1
  generalize vs.getD 1 undef = v1
  intro hr1
  cases hr1 with
  | agg _ us hlv ho hr =>
   refine .agg _ us (by simpa using hlv) (fun i d' hd' => ?_) (fun i d' hd' => ?_)
   ·cases i with
    | zero => cases hd'; rfl
    | succ i => exact ho (i + 1) d' hd'
   ·cases i with
    | zero =>
     cases hd'
     have hf : Fz v sz es (.vec v sz 0 es.length) (.sl sz es) := .all
     exact hf.R hs hb (hr 0 _ rfl)
    | succ i => exact (hr (i + 1) d' hd').less hle
 | i + 2 => exact (h2 (i + 2) d (by simpa using hd)).less hle
end Go.Av
namespace Go.Lin
open Go Go.Av
theorem near_abs (a b : Int) (hb : 0 < b) : (nearR a b).natAbs ≤ b.natAbs := by
 unfold nearR
 have h0 : (0 : Int) < b * 2 := by omega
 rw [Int.fdiv_eq_ediv_of_nonneg _ (by omega)]
 have h1 := Int.ediv_mul_le (a * 2 + b) (show b * 2 ≠ 0 by omega)
 have h2 := Int.lt_ediv_add_one_mul_self (a * 2 + b) h0
 generalize (a * 2 + b) / (b * 2) = q at h1 h2
 have e1 : q * (b * 2) = 2 * (b * q) := by rw [Int.mul_comm q, Int.mul_assoc, Int.mul_comm 2 q, ← Int.mul_assoc, Int.mul_comm _ 2]
 have e2 : (q + 1) * (b * 2) = 2 * (b * q) + b * 2 := by rw [Int.add_mul, e1]; omega
 rw [e1] at h1
 rw [e2] at h2
 generalize b * q = z at h1 h2
 omega
end Go.Lin
namespace Go.Proofs.YtacekpdodelnbaaGreatDoor
open Go Go.Av Go.Lin
attribute [local irreducible] ACalls at8
set_option maxHeartbeats 4000000 in
theorem equation_a {Q} (l : List Row) (at_ n k : Nat) (hlen : l.length ≤ 10000) (hn0 : 0 < n) (hn : n ≤ 1000) (hat : at_ < l.length) (hw : ∀ r ∈ l, r.c.length = n) (hr : ∀ r ∈ l, RowS r 4611686018427387904) (hrc : ∀ r ∈ l, ∀ x ∈ r.c, x.natAbs < 1073741824)
  (hk : leastR (l.getD at_ default) = some k) (H : Heap) (h : Q (.sl 4 (Rw rowC (equationR l at_))) H) : ACalls Tryz.prog 137 [.sl 4 (Rw rowC l), .int .i64 (at_ : Int)] H Q := by
 refine acalls_of_wp [(14, .par), (18, .par), (20, .par)] Tryz.mixed Tryz.func137 rfl (by kernel_rfl) (of_decide_eq_true (by kernel_rfl)) (by kernel_rfl) ?_
 simp only [go_sem,seval, Tryz.results137]
 have hati : (at_ : Int) < l.length := by omega
 have ge : l.getD at_ default = l[at_] := by simp [hat]
 have hel := List.getElem_mem hat
 obtain ⟨e, he⟩ : ∃ e, e = l[at_] := ⟨_, rfl⟩
 have eqd : equationR l at_ = if (getI e.c k).natAbs = 1 then (l.take at_ ++ l.drop (at_ + 1)).map (replR e k) else ((l.take at_ ++ l.drop (at_ + 1) ++ [e]).map wideR).map (replR ⟨e.c.map (nearR · ((getI e.c k).natAbs + 1)) ++ [-(((getI e.c k).natAbs : Int) + 1)], nearR e.k ((getI e.c k).natAbs + 1), true⟩ k) := by
  unfold equationR
  simp only []
  rw [ge, ← he]
  rw [ge, ← he] at hk
  rw [hk]; rfl
 rw [ge, ← he] at hk
 rw [← he] at hel
 have hew := hw e hel
 have her := hr e hel
 have hec := hrc e hel
 have hkl : k < e.c.length := by
  rw [leastR_T] at hk; exact leastT_lt _ _ _ hk
 have hki : (k : Int) < e.c.length := by omega
 rw [getI_at _ _ hkl] at eqd
 have hoi : optI (leastR e) = k := by rw [hk]; rfl
 have hRl : (l.take at_ ++ l.drop (at_ + 1)).length ≤ 10000 := by rw [List.length_append, List.length_take, List.length_drop]; omega
 have hRm : ∀ r ∈ l.take at_ ++ l.drop (at_ + 1), r ∈ l := fun r hr => (List.mem_append.1 hr).elim List.mem_of_mem_take List.mem_of_mem_drop
 repeat' (first | with_reducible refine And.intro ?_ ?_ | simp only [go_sem,seval, hati, Rw_at _ _ hat, Rw_get _ _ hat, ← he] | simp (disch := omega) only [wrap64, Rw_at, getI_at] | simp (disch := first | omega | grind) only [heap_ne_, del_ne] | (intro hx_; try simp only [set_none] at hx_) | omega)
 rename_i b5 h5 bx
 have hbx := hx_
 clear hx_
 have c5 : (H.set b5 (.box (rowC e))) b5 = some (.box (rowC e)) := heap_same _ _
 have hle5 : H.Le (H.set b5 (.box (rowC e))) := heap_le_set h5
 have hbx2 : (H.set b5 (.box (rowC e))) bx = none := by simp only [set_none]; exact hbx
 change ACalls _ _ _ ((H.set b5 (.box (rowC e))).set bx _) _
 generalize H.set b5 (.box (rowC e)) = B5 at c5 hle5 hbx2 ⊢
 clear h5 hbx
 rw [List.take_of_length_le (show (Rw rowC l).length ≤ l.length by rw [Rw_len]; exact Nat.le_refl _), Rw_take, Rw_drop]
 refine ACalls.vec1 (heap_same _ _) rfl ?_
 rw [set_del hbx2]
 refine concatW_a _ _ (by rw [List.length_append] at hRl; omega) _ ?_
 obtain ⟨R, hR⟩ : ∃ R, R = l.take at_ ++ l.drop (at_ + 1) := ⟨_, rfl⟩
 rw [← hR] at eqd hRl hRm ⊢
 have hup : ∀ r ∈ l, RowS r 18446744073709551616 := fun r hx => ⟨by have := (hr r hx).1; omega, fun x hy => by have := (hr r hx).2 x hy; omega⟩
 have la : ∀ (H : Heap) (Q : D → Heap → Prop), Q (.int .i64 (k : Int)) H → ACalls Tryz.prog 176 [.agg (rowC e)] H Q := fun H Q hq => least_a e (by omega) (hup e hel) H (by rw [hoi]; exact hq)
 obtain ⟨c, hc⟩ : ∃ c, c = e.c[k] := ⟨_, rfl⟩
 rw [← hc] at eqd
 have hcb : c.natAbs < 1073741824 := by rw [hc]; exact hec _ (List.getElem_mem hkl)
 by_cases h1 : c.natAbs = 1
 ·rw [if_pos h1] at eqd
  rw [eqd] at h
  have o1 : ∀ (H : Heap) (Q : D → Heap → Prop), Q (.bool true) H → ACalls Tryz.prog 170 [.agg (bigC c)] H Q := fun H Q hq => one_a c H (by rw [decide_eq_true h1]; exact hq)
  repeat' (first | with_reducible refine And.intro ?_ ?_ | simp only [go_sem,seval, c5, hki, Rw_at _ _ hkl, Rw_get _ _ hkl, ← hc] | simp (disch := omega) only [wrap64, Rw_at, getI_at] | simp (disch := first | omega | grind) only [heap_ne_, del_ne] | (intro hx_; try simp only [set_none] at hx_) | with_reducible refine la _ _ ?_ | with_reducible refine o1 _ _ ?_ | omega)
  refine replace_a R e k n (by omega) (by omega) (fun r hx => hw r (hRm r hx)) hew (by omega) (fun r hx => hup r (hRm r hx)) (hup e hel) (fun r hx x hy => by have := hrc r (hRm r hx) x hy; omega) (fun x hy => by have := hec x hy; omega) _ ?_
  repeat' (first | with_reducible refine And.intro ?_ ?_ | simp only [go_sem,seval] | simp (disch := omega) only [wrap64, Rw_at, getI_at] | simp (disch := first | omega | grind) only [heap_ne_, del_ne] | (intro hx_; try simp only [set_none] at hx_) | omega)
  exact Fin.less hle5 h
 ·rw [if_neg h1] at eqd
  have o1 : ∀ (H : Heap) (Q : D → Heap → Prop), Q (.bool false) H → ACalls Tryz.prog 170 [.agg (bigC c)] H Q := fun H Q hq => one_a c H (by rw [decide_eq_false h1]; exact hq)
  obtain ⟨t, ht⟩ : ∃ t : Int, t = 1 := ⟨1, rfl⟩
  obtain ⟨m, hm⟩ : ∃ m : Int, m = (c.natAbs : Nat) + 1 := ⟨_, rfl⟩
  have hmt : ((c.natAbs : Nat) : Int) + t = m := by rw [ht, hm]
  rw [← hm] at eqd
  have s1 : Sz ((c.natAbs : Nat) : Int) := sz_two (by omega)
  have s2 : Sz t := sz_two (by omega)
  have w1 : ∀ (H : Heap) (Q : D → Heap → Prop), Q (.agg (bigC t)) H → ACalls Tryz.prog 142 [.int .i64 1] H Q := fun H Q hq => whole_a 1 (by omega) (by omega) H (by rw [← ht]; exact hq)
  have p1 : ∀ (H : Heap) (Q : D → Heap → Prop), Q (.agg (bigC m)) H → ACalls Tryz.prog 179 [.agg (bigC ((c.natAbs : Nat) : Int)), .agg (bigC t)] H Q := fun H Q hq => bplus_a _ t s1 s2 H (by rw [hmt]; exact hq)
  repeat' (first | with_reducible refine And.intro ?_ ?_ | simp only [go_sem,seval, c5, hki, Rw_at _ _ hkl, Rw_get _ _ hkl, ← hc] | simp (disch := omega) only [wrap64, Rw_at, getI_at] | simp (disch := first | omega | grind) only [heap_ne_, del_ne] | (intro hx_; try simp only [set_none] at hx_) | with_reducible refine la _ _ ?_ | with_reducible refine o1 _ _ ?_ | with_reducible refine abs_a c _ ?_ | with_reducible refine w1 _ _ ?_ | with_reducible refine p1 _ _ ?_ | omega)
  rename_i b8 h8 b2 h2 bx
  have hbx := hx_
  clear hx_
  have e5 := (heap_le_set (o := .box (bigC m)) h8) _ _ c5
  have e8 : (B5.set b8 (.box (bigC m))) b8 = some (.box (bigC m)) := heap_same _ _
  have hle8 : H.Le (B5.set b8 (.box (bigC m))) := hle5.trans (heap_le_set h8)
  have g2 : (B5.set b8 (.box (bigC m))) b2 = none := by simp only [set_none]; exact h2
  have gx : (B5.set b8 (.box (bigC m))) bx = none ∧ bx ≠ b2 := by simp only [set_none]; exact ⟨⟨hbx.2.1, hbx.2.2⟩, hbx.1⟩
  change ACalls _ _ _ (((B5.set b8 (.box (bigC m))).set b2 (.vec 4 [rowC e])).set bx (.vec 1 [[.sl 4 (Rw rowC R)], [.vec b2 4 0 1]])) _
  generalize B5.set b8 (.box (bigC m)) = B8 at e5 e8 hle8 g2 gx ⊢
  clear h8 h2 hbx c5 hle5 hbx2
  refine ACalls.freezeO (b := b2) (sz := 4) (es := [rowC e]) (H' := B8.set bx (.vec 1 [[.sl 4 (Rw rowC R)], [.sl 4 [rowC e]]])) (by rw [heap_ne _ gx.2.symm, heap_same]) (fun q o' hq => ?_) ?_
  ·by_cases g : q = bx
   ·subst g
    rw [heap_same] at hq
    cases hq
    refine ⟨gx.2, _, heap_same _ _, .vec _ _ _ rfl fun i y y' hy hy' => ?_⟩
    match i with
    | 0 =>
     cases hy; cases hy'
     exact ⟨rfl, fun j d d' h3 h4 => by rw [h3] at h4; cases h4; exact .same _⟩
    | 1 =>
     cases hy; cases hy'
     refine ⟨rfl, fun j d d' h3 h4 => ?_⟩
     cases j with
     | zero => cases h3; cases h4; exact .all
     | succ j => cases h3
    | i + 2 => cases hy
   ·rw [heap_ne _ g] at hq
    have g3 : q ≠ b2 := fun g4 => by rw [g4, g2] at hq; cases hq
    exact ⟨g3, o', by rw [heap_ne _ g, heap_ne _ g3]; exact hq, .same _⟩
  refine ACalls.vec1 (heap_same _ _) rfl ?_
  rw [set_del gx.1, show ([rowC e] : List (List D)) = Rw rowC [e] from rfl]
  refine concatW_a R [e] (by simp only [List.length_cons, List.length_nil]; omega) _ ?_
  obtain ⟨L, hL⟩ : ∃ L, L = R ++ [e] := ⟨_, rfl⟩
  rw [← hL] at eqd ⊢
  have hLl : L.length ≤ 10001 := by rw [hL, List.length_append, List.length_cons, List.length_nil]; omega
  have hLm : ∀ r ∈ L, r ∈ l := fun r hr => by
   rw [hL] at hr
   rcases List.mem_append.1 hr with g | g
   ·exact hRm r g
   ·simp at g; rw [g]; exact hel
  clear hL gx g2
  repeat' (first | with_reducible refine And.intro ?_ ?_ | simp only [go_sem,seval] | simp (disch := omega) only [wrap64, Rw_at, getI_at] | simp (disch := first | omega | grind) only [heap_ne_, del_ne] | (intro hx_; try simp only [set_none] at hx_) | omega)
  refine loop_c [5, 7, 8, 9, 53, 54] (fun (p : Nat × Option Nat × Heap) => [(55, .int .i64 p.1), (10, outG 4 p.1 p.2.1)]) (fun (p : Nat × Option Nat × Heap) => p.2.2) (fun (p : Nat × Option Nat × Heap) => p.1 ≤ L.length ∧ O3 B8 p.2.2 4 (Rw rowC ((L.take p.1).map wideR)) [] [] p.2.1 none none) (fun (p : Nat × Option Nat × Heap) => L.length - p.1) ((0, none, B8)) (⟨Nat.zero_le _, O3.nil B8 4⟩) (by (try simp only [go_sem,seval]) <;> (try simp (disch := omega) [wrap64]) <;> (try omega)) (by first | with_reducible exact Heap.Le.refl _ | exact heap_set_le (by assumption) | exact Heap.Le.refl _ | exact heap_le_set (by assumption) | exact (by simp only [Go.Av.Heap.Le, Go.Av.Heap.set, Go.Av.Heap.del] at * <;> grind)) ?_
  rintro Ec rfl ⟨i, o1, Hp⟩ ⟨hi, h3⟩
  simp only at hi h3
  by_cases hlt : i < L.length
  ·have hkd : decide ((i : Int) < L.length) = true := decide_eq_true (by omega)
   have hti : (i : Int) < L.length := by omega
   have hLi := hLm _ (List.getElem_mem hlt)
   have fs := map_succ wideR L i hlt
   have fl := map_len wideR L i hi
   have hcl : L[i].c.length = n := hw _ hLi
   have hcn : L[i].c ≠ [] := fun g => by rw [g] at hcl; simp at hcl; omega
   repeat' (first | with_reducible refine And.intro ?_ ?_ | simp only [go_sem,seval, hkd, Rw_at _ _ hlt, Rw_get _ _ hlt] | simp (disch := omega) only [wrap64, Rw_at, getI_at] | simp (disch := first | omega | grind) only [heap_ne_, del_ne] | (intro hx_; try simp only [set_none] at hx_) | with_reducible refine wide_a _ hcn (by omega) _ ?_ | omega)
   rename_i b12 h12 bx
   have hbx := hx_
   clear hx_
   have hle9 : Hp.Le (Hp.set b12 (.box (rowC L[i]))) := heap_le_set h12
   refine O3.ap h3 (e1' := Rw rowC ((L.take (i + 1)).map wideR)) hle9 (by simp only [set_none]; exact hbx) (by simp) (by rw [Rw_len, fl]) (by simp only [List.length_cons, List.length_nil]; omega) (by simp only [List.length_cons, List.length_nil]; omega) (by rw [fs, ← Rw_app]; rfl) fun b' H' h4 => ?_
   repeat' (first | with_reducible refine And.intro ?_ ?_ | simp only [go_sem,seval] | simp (disch := omega) only [wrap64, Rw_at, getI_at] | simp (disch := first | omega | grind) only [heap_ne_, del_ne] | (intro hx_; try simp only [set_none] at hx_) | omega)
   refine nx_mk (i + 1, some b', H') ⟨by simp only []; omega, h4⟩ (by simp only []; omega) (by (try simp only [go_sem,seval, out_some]) <;> (try simp (disch := omega) [wrap64]) <;> (try omega)) (Heap.Le.refl _)
  ·have hkd : decide ((i : Int) < L.length) = false := decide_eq_false (by omega)
   have e1 : L.take i = L := List.take_of_length_le (by omega)
   have e2 : i = L.length := by omega
   rw [e1] at h3
   have f5 := h3.le _ _ e5
   have f8 := h3.le _ _ e8
   repeat' (first | with_reducible refine And.intro ?_ ?_ | simp only [go_sem,seval, hkd] | simp (disch := omega) only [wrap64, Rw_at, getI_at] | simp (disch := first | omega | grind) only [heap_ne_, del_ne] | (intro hx_; try simp only [set_none] at hx_) | omega)
   obtain ⟨C, hC⟩ : ∃ C, C = e.c.map (nearR · m) ++ [-m] := ⟨_, rfl⟩
   obtain ⟨K, hK⟩ : ∃ K, K = nearR e.k m := ⟨_, rfl⟩
   rw [← hC, ← hK] at eqd
   have hCl : C.length = e.c.length + 1 := by rw [hC, List.length_append, List.length_map]; rfl
   have hm0 : 0 < m := by omega
   have hm1 : m < 2147483648 := by omega
   have hek : e.k.natAbs ≤ 18446744073709551616 := (hup e hel).1
   have hKa : K.natAbs ≤ m.natAbs := by rw [hK]; exact near_abs _ _ hm0
   have hCa : ∀ x ∈ C, x.natAbs ≤ 4294967296 := fun x hx => by
    rw [hC] at hx
    rcases List.mem_append.1 hx with g | g
    ·simp only [List.mem_map] at g
     obtain ⟨z, _, rfl⟩ := g
     have := near_abs z m hm0
     omega
    ·simp at g; omega
   have nr : ∀ (H : Heap) (Q : D → Heap → Prop), Q (.agg (bigC K)) H → ACalls Tryz.prog 182 [.agg (bigC e.k), .agg (bigC m)] H Q := fun H Q hq => near_a e.k m hek hm0 hm1 H (by rw [← hK]; exact hq)
   have m5 : b5 ∈ [b5, b8] := by simp
   have m8 : b8 ∈ [b5, b8] := by simp
   refine par_mk (fun i' => if i' = 8 then .agg (bigC K) else .undef) [b5, b8] ?_
   repeat' (first | with_reducible refine And.intro ?_ ?_ | simp only [go_sem,seval, f5, f8, m5, m8] | simp (disch := omega) only [wrap64, Rw_at, getI_at] | simp (disch := first | omega | grind) only [heap_ne_, del_ne] | (intro hx_; try simp only [set_none] at hx_) | with_reducible refine pc0 (fun H' Q hro hq => nr H' Q hq) ?_ | omega)
   rename_i bv hv b13
   have h13 := hx_
   clear hx_
   have nb : b13 ≠ bv := h13.1
   have k5 : b5 ≠ bv ∧ b5 ≠ b13 := ⟨(fun g => by rw [g, hv] at f5; cases f5), (fun g => by rw [g, h13.2] at f5; cases f5)⟩
   have k8 : b8 ≠ bv ∧ b8 ≠ b13 := ⟨(fun g => by rw [g, hv] at f8; cases f8), (fun g => by rw [g, h13.2] at f8; cases f8)⟩
   rw [show (([D.bool false, .nilsl] :: List.replicate e.c.length [D.bool false, .nilsl]) : List (List D)) = padZ C (e.c.length + 1) 0 from (padZ_zero C (e.c.length + 1)).symm]
   refine loop_c [5, 7, 8, 10, 13, 77, 78] (fun (j : Nat) => [(79, .int .i64 j)]) (fun (j : Nat) => (Hp.set bv (.vec 2 (padZ C (e.c.length + 1) j))).set b13 (.box [.vec bv 2 0 (e.c.length + 1), .bool (decide (K < 0)), .sl 1 (Rw digC (digs K.natAbs)), .bool true])) (fun (j : Nat) => j ≤ e.c.length) (fun (j : Nat) => e.c.length - j) (0) (Nat.zero_le _) (by (try simp only [go_sem,seval]) <;> (try simp (disch := omega) [wrap64]) <;> (try omega)) (by first | with_reducible exact Heap.Le.refl _ | exact heap_set_le (by assumption) | exact Heap.Le.refl _ | exact heap_le_set (by assumption) | exact (by simp only [Go.Av.Heap.Le, Go.Av.Heap.set, Go.Av.Heap.del] at * <;> grind)) ?_
   rintro Ec rfl j hj
   have hpl := padZ_len C (e.c.length + 1) j hCl (by omega)
   by_cases hjt : j < e.c.length
   ·have hkd2 : decide ((j : Int) < e.c.length) = true := decide_eq_true (by omega)
    have hjr : (j : Int) < e.c.length := by omega
    have hjr1 : (j : Int) < ((e.c.length : Nat) : Int) + 1 := by omega
    have hjC : j < C.length := by omega
    have hci : C[j] = nearR e.c[j] m := by simp only [hC]; rw [List.getElem_append_left (by rw [List.length_map]; exact hjt), List.getElem_map]
    have c1 := hec _ (List.getElem_mem hjt)
    have hset := padZ_set C (e.c.length + 1) j hCl (by omega) (bigC (nearR e.c[j] m)) (by rw [hci])
    have hpg := padZ_getD C (e.c.length + 1) j j hCl (Nat.le_refl _) (by omega)
    have hpg2 := padZ_get C (e.c.length + 1) j j hCl (Nat.le_refl _) (by omega)
    repeat' (first | with_reducible refine And.intro ?_ ?_ | simp only [go_sem,seval, hkd2, hjr, Rw_at _ _ hjt, Rw_get _ _ hjt] | simp (disch := omega) only [wrap64, Rw_at, getI_at] | simp (disch := first | omega | grind) only [heap_ne_, del_ne] | (intro hx_; try simp only [set_none] at hx_) | omega)
    rename_i b15
    have h15 := hx_
    clear hx_
    have p13 : b13 ∈ [b8, b13, b15] := by simp
    have p15 : b15 ∈ [b8, b13, b15] := by simp
    have p8 : b8 ∈ [b8, b13, b15] := by simp
    have j1 := h15.1
    have j2 := h15.2.1
    have j3 : b8 ≠ b15 := fun g => by have := h15.2.2; rw [← g, f8] at this; cases this
    obtain ⟨y, hy⟩ : ∃ y, y = nearR e.c[j] m := ⟨_, rfl⟩
    have nr2 : ∀ (H : Heap) (Q : D → Heap → Prop), Q (.agg (bigC y)) H → ACalls Tryz.prog 182 [.agg (bigC e.c[j]), .agg (bigC m)] H Q := fun H Q hq => near_a e.c[j] m (by omega) hm0 hm1 H (by rw [← hy]; exact hq)
    rw [← hy] at hset
    refine par_mk (fun i' => if i' = 5 then .agg (bigC y) else .undef) [b8, b13, b15] ?_
    repeat' (first | with_reducible refine And.intro ?_ ?_ | simp only [go_sem,seval, p8, p13, p15, heap_ne _ j3, heap_ne _ k8.2, heap_ne _ k8.1, f8, hjr, hjr1, hpl, hpg, hpg2, hset] | simp (disch := omega) only [wrap64, Rw_at, getI_at] | simp (disch := first | omega | grind) only [heap_ne_, del_ne] | (intro hx_; try simp only [set_none] at hx_) | with_reducible refine pc0 (fun H' Q hro hq => nr2 H' Q hq) ?_ | omega)
    refine nx_mk (j + 1) (by omega) (by omega) (by (try simp only [go_sem,seval]) <;> (try simp (disch := omega) [wrap64]) <;> (try omega)) ?_
    rw [← hset]
    intro q o hq
    have e15 : q ≠ b15 := fun g => by rw [g, heap_ne _ j1, heap_ne _ j2, h15.2.2] at hq; cases hq
    by_cases g : q = bv
    ·subst g; rw [heap_ne _ nb.symm, heap_same] at hq; rw [heap_same]; exact hq
    ·rw [heap_ne _ g, heap_ne _ e15]
     by_cases e12 : q = b13
     ·subst e12; rw [heap_same] at hq ⊢; exact hq
     ·rw [heap_ne _ e12, heap_ne _ g] at hq ⊢; exact hq
   ·have hkd2 : decide ((j : Int) < e.c.length) = false := decide_eq_false (by omega)
    have hje : j = e.c.length := by omega
    subst hje
    have hjC : e.c.length < C.length := by omega
    have hci : C[e.c.length] = -m := by simp only [hC]; rw [List.getElem_append_right (by rw [List.length_map]; exact Nat.le_refl _)]; simp
    have hset := padZ_set C (e.c.length + 1) e.c.length hCl (by omega) (bigC (-m)) (by rw [hci])
    have hpg := padZ_getD C (e.c.length + 1) e.c.length e.c.length hCl (Nat.le_refl _) (by omega)
    have hpg2 := padZ_get C (e.c.length + 1) e.c.length e.c.length hCl (Nat.le_refl _) (by omega)
    have hjr1 : (e.c.length : Int) < ((e.c.length : Nat) : Int) + 1 := by omega
    obtain ⟨y, hy⟩ : ∃ y, y = -m := ⟨_, rfl⟩
    rw [← hy, padZ_all C _ hCl] at hset
    have ng : ∀ (H : Heap) (Q : D → Heap → Prop), Q (.agg (bigC y)) H → ACalls Tryz.prog 183 [.agg (bigC m)] H Q := fun H Q hq => bneg_a m H (by rw [← hy]; exact hq)
    have p13 : b13 ∈ [b5, b8, b13] := by simp
    have p5 : b5 ∈ [b5, b8, b13] := by simp
    have p8 : b8 ∈ [b5, b8, b13] := by simp
    repeat' (first | with_reducible refine And.intro ?_ ?_ | simp only [go_sem,seval, hkd2] | simp (disch := omega) only [wrap64, Rw_at, getI_at] | simp (disch := first | omega | grind) only [heap_ne_, del_ne] | (intro hx_; try simp only [set_none] at hx_) | omega)
    refine par_mk (fun i' => if i' = 6 then .agg (bigC y) else .undef) [b5, b8, b13] ?_
    repeat' (first | with_reducible refine And.intro ?_ ?_ | simp only [go_sem,seval, p8, p13, p5, heap_ne _ k8.2, heap_ne _ k8.1, heap_ne _ k5.2, heap_ne _ k5.1, f8, f5, hjr1, hpl, hpg, hpg2, hset] | simp (disch := omega) only [wrap64, Rw_at, getI_at] | simp (disch := first | omega | grind) only [heap_ne_, del_ne] | (intro hx_; try simp only [set_none] at hx_) | with_reducible refine pc0 (fun H' Q hro hq => ng H' Q hq) ?_ | omega)
    have hset2 : (padZ C (e.c.length + 1) e.c.length).set e.c.length ((zB.set 0 (D.bool (decide (y < 0)))).set 1 (D.sl 1 (Rw digC (digs y.natAbs)))) = Rw bigC C := hset
    rw [hset2]
    obtain ⟨Hf, hHf⟩ : ∃ Hf, Hf = ((Hp.set bv (.vec 2 (padZ C (e.c.length + 1) e.c.length))).set b13 (.box [.vec bv 2 0 (e.c.length + 1), .bool (decide (K < 0)), .sl 1 (Rw digC (digs K.natAbs)), .bool true])).set bv (.vec 2 (Rw bigC C)) := ⟨_, rfl⟩
    have hfb : Hf bv = some (.vec 2 (Rw bigC C)) := by rw [hHf]; exact heap_same _ _
    have hpf : Hp.Le Hf := fun q o hq => by
     have g1 : q ≠ bv := fun g => by rw [g, hv] at hq; cases hq
     have g2 : q ≠ b13 := fun g => by rw [g, h13.2] at hq; cases hq
     rw [hHf, heap_ne _ g1, heap_ne _ g2, heap_ne _ g1]; exact hq
    rw [← hHf]
    have hob : o1 ≠ some bv := h3.a1.ne hv
    have hdel : ∀ (q : Nat) (o : Go.Av.Obj), Hf q = some o → o1 ≠ some q → delB Hf o1 q = some o := fun q o hq hn => by
     cases o1 with
     | none => exact hq
     | some c => show (Hf.del c) q = _; rw [del_ne (by rintro rfl; exact hn rfl)]; exact hq
    refine ACalls.out (by rw [Rw_len, List.length_map]; exact e2) (h3.a1.up hpf) ?_
    refine ACalls.freezeH2 (hdel _ _ hfb hob) (by rw [Rw_len, hCl]) ?_
    rw [eqd] at h
    have hwr : ∀ r ∈ L.map wideR, ∃ s ∈ l, r = wideR s := fun r hr => by
     obtain ⟨s, hs, rfl⟩ := List.mem_map.1 hr
     exact ⟨s, hLm s hs, rfl⟩
    refine replace_a (L.map wideR) ⟨C, K, true⟩ k (n + 1) (by rw [List.length_map]; omega) (by omega) (fun r hx => ?_) (by show C.length = n + 1; omega) (by omega) (fun r hx => ?_) ⟨by show K.natAbs ≤ _; omega, fun x hx => by have := hCa x hx; omega⟩ (fun r hx x hy => ?_) hCa _ ?_
    ·obtain ⟨s, hs, rfl⟩ := hwr r hx
     show (s.c ++ [0]).length = n + 1
     rw [List.length_append, hw s hs]; rfl
    ·obtain ⟨s, hs, rfl⟩ := hwr r hx
     refine ⟨(hup s hs).1, fun x hy => ?_⟩
     rcases List.mem_append.1 hy with g | g
     ·exact (hup s hs).2 x g
     ·simp at g; rw [g]; decide
    ·obtain ⟨s, hs, rfl⟩ := hwr r hx
     rcases List.mem_append.1 hy with g | g
     ·have := hrc s hs x g; omega
     ·simp at g; rw [g]; decide
    ·repeat' (first | with_reducible refine And.intro ?_ ?_ | simp only [go_sem,seval] | simp (disch := omega) only [wrap64, Rw_at, getI_at] | simp (disch := first | omega | grind) only [heap_ne_, del_ne] | (intro hx_; try simp only [set_none] at hx_) | omega)
     refine Fin.less (fun q o hq => ?_) h
     have q1 := h3.le _ _ (hle8 _ _ hq)
     have q2 : q ≠ bv := fun g => by rw [g, hv] at q1; cases q1
     rw [del_ne q2]
     exact hdel _ _ (hpf _ _ q1) (fun g => by have := h3.n1 _ g; rw [hle8 _ _ hq] at this; cases this)
end Go.Proofs.YtacekpdodelnbaaGreatDoor
end
section
set_option maxRecDepth 20000
namespace Go.Lin
open Go Go.Av Go.Proofs.YtacekpdodelnbaaGreatDoor
structure OkR (n : Nat) (l : List Row) : Prop where
 len : l.length ≤ 9999
 nn : n ≤ 1000
 w : ∀ r ∈ l, r.c.length = n
 s : ∀ r ∈ l, RowS r 4611686018427387904
 c : ∀ r ∈ l, ∀ x ∈ r.c, x.natAbs < 1073741824
theorem okRows_spec {l : List Row} (h : okRows l = true) : ∃ n, OkR n l := by
 unfold okRows at h
 simp only [Bool.and_eq_true, decide_eq_true_eq] at h
 obtain ⟨h1, h2⟩ := h
 cases l with
 | nil => exact ⟨0, by omega, by omega, by simp, by simp, by simp⟩
 | cons r l =>
  simp only [Bool.and_eq_true, decide_eq_true_eq, List.all_eq_true] at h2
  obtain ⟨h2, h3⟩ := h2
  have key : ∀ s ∈ r :: l, s.c.length = r.c.length ∧ (∀ x ∈ s.c, x.natAbs < 1073741824) ∧ s.k.natAbs < 4611686018427387904 := fun s hs => by
   have := h3 s hs
   unfold okRow at this
   simp only [Bool.and_eq_true, beq_iff_eq, decide_eq_true_eq, List.all_eq_true] at this
   exact ⟨this.1.1, fun x hx => by have := this.1.2 x hx; simpa using this, by have := this.2; simpa using this⟩
  exact ⟨r.c.length, by omega, by omega, fun s hs => (key s hs).1, fun s hs => ⟨by have := (key s hs).2.2; omega, fun x hx => by have := (key s hs).2.1 x hx; omega⟩, fun s hs => (key s hs).2.1⟩
theorem idx_find (p : Row → Bool) : ∀ l : List Row, idxI p l = match l.findIdx? p with | none => -1 | some i => (i : Int)
 | [] => rfl
 | r :: l => by
  rw [idxI, idx_find p l, List.findIdx?_cons]
  by_cases h : p r = true
  ·rw [if_pos h, h]; rfl
  ·simp only [h]
   cases l.findIdx? p with
   | none => simp
   | some i => simp; omega
theorem find_lt {p : Row → Bool} {l : List Row} {i : Nat} (h : l.findIdx? p = some i) : i < l.length := (List.findIdx?_eq_some_iff_findIdx_eq.1 h).1
theorem chT_lt (l : List Row) : ∀ (n k : Nat), (chT l n).best = some k → k < n
 | 0, k, h => by simp [chT] at h
 | n + 1, k, h => by
  rw [chT_succ] at h
  unfold chooseA at h
  simp only [] at h
  split at h
  ·have := chT_lt l n k h; omega
  ·split at h
   ·simp at h; omega
   ·have := chT_lt l n k h; omega
theorem choose_lt {l : List Row} {n k : Nat} (hl : l ≠ []) (hw : ∀ r ∈ l, r.c.length = n) (h : (chooseR l).best = some k) : k < n := by
 have : chooseR l = chT l n := by
  unfold chooseR chT
  cases l with
  | nil => exact absurd rfl hl
  | cons r l => rw [show ((r :: l).headD default).c.length = n from hw r (List.mem_cons_self ..)]
 rw [this] at h
 exact chT_lt l n k h
end Go.Lin
namespace Go.Proofs.YtacekpdodelnbaaGreatDoor
open Go Go.Av Go.Lin
attribute [local irreducible] ACalls at8
theorem isEq_a {Q} (r : Row) (H : Heap) (h : Q (.bool r.eq) H) : ACalls Tryz.prog 136 [.agg (rowC r)] H Q := by
 refine acalls_of_wp [] Tryz.mixed Tryz.func136 rfl (by kernel_rfl) (of_decide_eq_true (by kernel_rfl)) (by kernel_rfl) ?_
 simp only [go_sem,seval, Tryz.results136]
 repeat' (first | with_reducible refine And.intro ?_ ?_ | simp only [go_sem,seval] | intro hx_ | omega)
 exact Fin.less (by simp only [Go.Av.Heap.Le, Go.Av.Heap.set, Go.Av.Heap.del] at * <;> grind) h
set_option maxHeartbeats 1000000 in
theorem solvable_a {Q} (f : Nat) (l : List Row) (b : Bool) (hs : solvF f l = some b) (H : Heap) (h : Q (.bool b) H) : ACalls Tryz.prog 113 [.sl 4 (Rw rowC l)] H Q := by
 refine acalls_of_wp [] Tryz.mixed Tryz.func113 rfl (by kernel_rfl) (of_decide_eq_true (by kernel_rfl)) (by kernel_rfl) ?_
 simp only [go_sem,seval, Tryz.results113]
 repeat' (first | with_reducible refine And.intro ?_ ?_ | simp only [go_sem,seval] | intro hx_ | omega)
 refine loop_c [] (fun (p : Nat × List Row) => [(0, .sl 4 (Rw rowC p.2))]) (fun (p : Nat × List Row) => H) (fun (p : Nat × List Row) => solvF p.1 p.2 = some b) (fun (p : Nat × List Row) => p.1) ((f, l)) (hs) (by (try simp only [go_sem,seval]) <;> (try simp (disch := omega) [wrap64]) <;> (try omega)) (by first | with_reducible exact Heap.Le.refl _ | exact heap_set_le (by assumption) | exact Heap.Le.refl _ | exact heap_le_set (by assumption) | exact (by simp only [Go.Av.Heap.Le, Go.Av.Heap.set, Go.Av.Heap.del] at * <;> grind)) ?_
 rintro Ec rfl ⟨f, l⟩ hs
 simp only at hs
 cases f with
 | zero => simp [solvF] at hs
 | succ f =>
  rw [solvF] at hs
  split at hs
  case isFalse => cases hs
  rename_i hok
  obtain ⟨n, ok⟩ := okRows_spec hok
  have td : ∀ (H : Heap) (Q : D → Heap → Prop), Q (resD (tidyR l)) H → ACalls Tryz.prog 134 [.sl 4 (Rw rowC l)] H Q := fun H Q hq => tidy_a l n (by have := ok.len; omega) (by have := ok.nn; omega) (fun r hr => ⟨ok.w r hr, ok.s r hr⟩) (fun r hr x hx => by have := ok.c r hr x hx; omega) H hq
  clear hok
  repeat' (first | with_reducible refine And.intro ?_ ?_ | simp only [go_sem,seval] | intro hx_ | with_reducible refine td _ _ ?_ | omega)
  cases ht : tidyR l with
  | none =>
   rw [ht] at hs
   simp only [Option.some.injEq] at hs
   simp only [go_sem,seval, resD]
   repeat' (first | with_reducible refine And.intro ?_ ?_ | simp only [go_sem,seval] | intro hx_ | omega)
   rw [← hs] at h
   exact Fin.same h
  | some m =>
   rw [ht] at hs
   cases m with
   | nil =>
    simp only [Option.some.injEq] at hs
    simp only [go_sem,seval, resD]
    repeat' (first | with_reducible refine And.intro ?_ ?_ | simp only [go_sem,seval] | intro hx_ | omega)
    rw [← hs] at h
    exact Fin.same h
   | cons r m =>
    simp only [] at hs
    split at hs
    case isFalse => cases hs
    rename_i hok
    obtain ⟨L, hL⟩ : ∃ L, L = r :: m := ⟨_, rfl⟩
    have hL0 : L ≠ [] := by rw [hL]; simp
    have hL1 : ¬ (L.length : Int) = 0 := by rw [hL]; simp; omega
    rw [← hL] at hs hok
    obtain ⟨n, ok⟩ := okRows_spec hok
    simp only [go_sem,seval, resD]
    rw [← hL]
    clear hok td ht hL
    have ic : ∀ (H : Heap) (Q : D → Heap → Prop), Q (.int .i64 (idxI (·.eq) L)) H → ACalls Tryz.prog 135 [.sl 4 (Rw rowC L), .fn (.func 136) [] []] H Q := fun H Q hq => idxW_a (·.eq) L (by have := ok.len; omega) _ [] [] H (fun a _ Q hq => isEq_a a H hq) hq
    have ix := idx_find (·.eq) L
    cases hf : L.findIdx? (·.eq) with
    | some i =>
     rw [hf] at hs ix
     simp only [] at hs ix
     split at hs
     case isFalse => cases hs
     rename_i hk
     obtain ⟨k, hk⟩ := Option.isSome_iff_exists.1 hk
     have hi := find_lt hf
     have hn0 : 0 < n := by
      have e : L.getD i default = L[i] := by simp [hi]
      rw [e, leastR_T] at hk
      have := leastT_lt _ _ _ hk
      rw [ok.w _ (List.getElem_mem hi)] at this
      omega
     have eqc : ∀ (H : Heap) (Q : D → Heap → Prop), Q (.sl 4 (Rw rowC (equationR L i))) H → ACalls Tryz.prog 137 [.sl 4 (Rw rowC L), .int .i64 (i : Int)] H Q := fun H Q hq => equation_a L i n k (by have := ok.len; omega) hn0 ok.nn hi ok.w ok.s ok.c hk H hq
     have ip : (0 : Int) ≤ i := by omega
     rw [ix] at ic
     repeat' (first | with_reducible refine And.intro ?_ ?_ | simp only [go_sem,seval, hL1, ip] | intro hx_ | with_reducible refine ic _ _ ?_ | with_reducible refine eqc _ _ ?_ | omega)
     exact nx_mk (f, equationR L i) hs (Nat.lt_succ_self f) (by (try simp only [go_sem,seval]) <;> (try simp (disch := omega) [wrap64]) <;> (try omega)) (Heap.Le.refl _)
    | none =>
     rw [hf] at hs ix
     simp only [] at hs ix
     rw [ix] at ic
     have chc : ∀ (H : Heap) (Q : D → Heap → Prop), Q (.tuple [.int .i64 (optI (chooseR L).best), .bool (chooseR L).sure]) H → ACalls Tryz.prog 138 [.sl 4 (Rw rowC L)] H Q := fun H Q hq => choose_a L n hL0 (by have := ok.len; omega) ok.w (by have := ok.nn; omega) H hq
     split at hs
     ·rename_i k cost hch
      rw [hch] at chc
      have hkn : k < n := choose_lt hL0 ok.w (by rw [hch])
      have sh : ∀ (H : Heap) (Q : D → Heap → Prop), Q (.sl 4 (Rw rowC (shadowR L k false))) H → ACalls Tryz.prog 140 [.sl 4 (Rw rowC L), .int .i64 (k : Int), .bool false] H Q := fun H Q hq => shadow_a L k n (by have := ok.len; omega) (by have := ok.nn; omega) ok.w hkn (fun r hr => ⟨by have := (ok.s r hr).1; omega, fun x hx => by have := (ok.s r hr).2 x hx; omega⟩) H hq
      have oi : optI (some k) = k := rfl
      simp only [oi] at chc
      repeat' (first | with_reducible refine And.intro ?_ ?_ | simp only [go_sem,seval, hL1] | intro hx_ | with_reducible refine ic _ _ ?_ | with_reducible refine chc _ _ ?_ | with_reducible refine sh _ _ ?_ | omega)
      exact nx_mk (f, shadowR L k false) hs (Nat.lt_succ_self f) (by (try simp only [go_sem,seval]) <;> (try simp (disch := omega) [wrap64]) <;> (try omega)) (Heap.Le.refl _)
     ·cases hs
end Go.Proofs.YtacekpdodelnbaaGreatDoor
end
section
set_option maxRecDepth 20000
namespace Go.Lin
open Go Go.Av Go.Lexs
theorem name_size {s : ByteArray} (h : nameB (B s) = true) : s.size ≤ 200 := by
 unfold nameB at h
 simp only [Bool.and_eq_true, decide_eq_true_eq] at h
 have := h.1.1.2
 rwa [B_len] at this
theorem names_of {l : List LinV} (hv : ∀ a ∈ l, validL a = true) : (namesL l).length ≤ 12 * l.length ∧ ∀ s ∈ namesL l, s.size ≤ 200 := by
 constructor
 ·have key : ∀ (m : List LinV), (∀ c ∈ m, validL c = true) → (namesL m).length ≤ 12 * m.length := by
   intro m
   induction m with
   | nil => intro _; simp [namesL]
   | cons c m ih =>
    intro hm
    have i1 := ih (fun x hx => hm x (List.mem_cons_of_mem _ hx))
    have i2 := (valid_ok (hm c (List.mem_cons_self ..))).len
    unfold namesL at i1 ⊢
    rw [List.flatMap_cons, List.length_append, List.length_map, List.length_cons]
    omega
  exact key l hv
 ·intro s hs
  unfold namesL at hs
  obtain ⟨c, hc, hs⟩ := List.mem_flatMap.1 hs
  obtain ⟨t, ht, rfl⟩ := List.mem_map.1 hs
  exact name_size (okAt_mem (valid_ok (hv c hc)).t t ht).1
theorem withS_len (l : List ByteArray) (s : ByteArray) : (withS l s).length ≤ l.length + 1 := by
 induction l with
 | nil => simp [withS]
 | cons x l ih =>
  unfold withS
  split
  ·simp; omega
  ·split <;> simp
theorem foldW_len (m : List ByteArray) : ∀ l : List ByteArray, (m.foldl withS l).length ≤ l.length + m.length := by
 induction m with
 | nil => intro l; simp
 | cons s m ih => intro l; have := ih (withS l s); have := withS_len l s; simp only [List.foldl_cons, List.length_cons]; omega
theorem names_mem {l : List LinV} {a : LinV} (ha : a ∈ l) {t : LTm} (ht : t ∈ a.t) : t.v ∈ varsL l := by
 rw [varsL_mem]
 exact List.mem_flatMap.2 ⟨a, ha, List.mem_map.2 ⟨t, ht, rfl⟩⟩
def CanC (P : Program) (can : List LinV → Option Bool) (g : Nat) (cap : List D) (H : Heap) : Prop := ∀ (more : List LinV) (b : Bool), can more = some b → (∀ a ∈ more, validL a = true) → more.length ≤ 2 → ∀ (H' : Heap) (Q : D → Heap → Prop), H.Le H' → Q (.bool b) H' → ACalls P g (.sl 3 (Rw linC more) :: cap) H' Q
theorem valid_one {s : ByteArray} (hs : nameB (B s) = true) (c k : Int) (e : Bool) (hc : c ≠ 0) (hc2 : c.natAbs ≤ 1048576) (hk : k.natAbs ≤ 1099511627776) : validL ⟨[⟨s, c⟩], k, e⟩ = true := by
 unfold validL termsOk okAt within
 simp [hs, hc]
 omega
theorem valid_two {s : ByteArray} (hs : nameB (B s) = true) (n m : Int) (hn : n.natAbs ≤ 1099511627776) (hm : m.natAbs ≤ 1099511627776) : ∀ a ∈ [atLeastL s n, atMostL s m], validL a = true := fun a ha => by
 rcases List.mem_cons.1 ha with rfl | ha
 ·exact valid_one hs 1 _ _ (by decide) (by decide) (by omega)
 ·simp at ha; rw [ha]; exact valid_one hs (-1) _ _ (by decide) (by decide) hm
theorem half_step (can : List LinV → Option Bool) (s : ByteArray) (f : Nat) (low high : Int) : halfF can s (f + 1) low high = if low < high then
      match can [atLeastL s (-((low + high).tdiv 2)), atMostL s ((low + high).tdiv 2)] with
      | none => none
      | some true => halfF can s f low ((low + high).tdiv 2)
      | some false => halfF can s f ((low + high).tdiv 2 + 1) high
    else some low := rfl
end Go.Lin
namespace Go.Proofs.YtacekpdodelnbaaGreatDoor
open Go Go.Av Go.Lexs Go.Lin
attribute [local irreducible] ACalls at8
theorem solv_a {Q} (l : List LinV) (hlen : l.length ≤ 1000) (hv : ∀ a ∈ l, validL a = true) (b : Bool) (hs : solvL l = some b) (H : Heap) (h : Q (.bool b) H) : ACalls Tryz.prog 80 [.sl 3 (Rw linC l)] H Q := by
 refine acalls_of_wp [] Tryz.mixed Tryz.func80 rfl (by kernel_rfl) (of_decide_eq_true (by kernel_rfl)) (by kernel_rfl) ?_
 simp only [go_sem,seval, Tryz.results80]
 obtain ⟨n1, n2⟩ := names_of hv
 have hs2 : solvF 100 (rowsV l (varsL l)) = some b := hs
 have vl : (varsL l).length ≤ 12000 := by have := foldW_len (namesL l) []; simp at this; unfold varsL; omega
 repeat' (first | with_reducible refine And.intro ?_ ?_ | simp only [go_sem,seval] | intro hx_ | with_reducible refine vars_a l (by omega) (by omega) (fun s hs => by have := n2 s hs; omega) (fun c hc => by have := (valid_ok (hv c hc)).len; omega) _ ?_ | with_reducible refine rows_a l (varsL l) (by omega) (by omega) (varsL_up l) hv (fun a ha t ht => names_mem ha ht) _ ?_ | with_reducible refine solvable_a 100 _ b hs2 _ ?_ | omega)
 exact Fin.same h
theorem sat_a {Q} (l : List LinV) (hlen : l.length ≤ 1000) (fl : ∀ c ∈ l, LinFit c) (ha : allL l = true) (hv : ∀ a ∈ l, validL a = true) (b : Bool) (hs : solvL l = some b) (H : Heap) (h : Q (.tuple [.bool b, .int .i64 0]) H) : ACalls Tryz.prog 34 [.sl 3 (Rw linC l)] H Q := by
 refine acalls_of_wp [] Tryz.mixed Tryz.func34 rfl (by kernel_rfl) (of_decide_eq_true (by kernel_rfl)) (by kernel_rfl) ?_
 simp only [go_sem,seval, Tryz.results34]
 have ac : ∀ (H : Heap) (Q : D → Heap → Prop), Q (.bool true) H → ACalls Tryz.prog 17 [.sl 3 (Rw linC l)] H Q := fun H Q hq => all_a l (by omega) fl H (by rw [ha]; exact hq)
 repeat' (first | with_reducible refine And.intro ?_ ?_ | simp only [go_sem,seval] | intro hx_ | with_reducible refine ac _ _ ?_ | with_reducible refine solv_a l hlen hv b hs _ ?_ | omega)
 exact Fin.same h
theorem atLeast_a {Q} (s : ByteArray) (n : Int) (hn : n.natAbs ≤ 1000000000000000) (H : Heap) (h : Q (.agg (linC (atLeastL s n))) H) : ACalls Tryz.prog 85 [.str s, .int .i64 n] H Q := by
 refine acalls_of_wp [] Tryz.mixed Tryz.func85 rfl (by kernel_rfl) (of_decide_eq_true (by kernel_rfl)) (by kernel_rfl) ?_
 simp only [go_sem,seval, Tryz.results85]
 have w : IntKind.i64.wrap (0 - n) = -n := by rw [wrap64 (by omega) (by omega)]; omega
 repeat' (first | with_reducible refine And.intro ?_ ?_ | simp only [go_sem,seval, w] | simp (disch := omega) only [wrap64] | simp (disch := first | omega | grind) only [heap_ne_, del_ne] | (intro hx_; try simp only [set_none] at hx_) | omega)
 rename_i b4 h4 b7
 have h7 := hx_
 clear hx_
 refine Fin.freezeH (es := Rw ltC [⟨s, 1⟩]) (by rw [heap_ne _ h7.1, heap_same]; rfl) rfl (Fin.less (fun k o hk => ?_) h)
 have k1 : k ≠ b4 := fun g => by rw [g, h4] at hk; cases hk
 have k2 : k ≠ b7 := fun g => by rw [g, h7.2] at hk; cases hk
 rw [del_ne k2, heap_ne _ k1, heap_ne _ k2, heap_ne _ k1]; exact hk
theorem atMost_a {Q} (s : ByteArray) (n : Int) (H : Heap) (h : Q (.agg (linC (atMostL s n))) H) : ACalls Tryz.prog 86 [.str s, .int .i64 n] H Q := by
 refine acalls_of_wp [] Tryz.mixed Tryz.func86 rfl (by kernel_rfl) (of_decide_eq_true (by kernel_rfl)) (by kernel_rfl) ?_
 simp only [go_sem,seval, Tryz.results86]
 repeat' (first | with_reducible refine And.intro ?_ ?_ | simp only [go_sem,seval] | simp (disch := first | omega | grind) only [heap_ne_, del_ne] | (intro hx_; try simp only [set_none] at hx_) | omega)
 rename_i b4 h4 b7
 have h7 := hx_
 clear hx_
 refine Fin.freezeH (es := Rw ltC [⟨s, -1⟩]) (by rw [heap_ne _ h7.1, heap_same]; rfl) rfl (Fin.less (fun k o hk => ?_) h)
 have k1 : k ≠ b4 := fun g => by rw [g, h4] at hk; cases hk
 have k2 : k ≠ b7 := fun g => by rw [g, h7.2] at hk; cases hk
 rw [del_ne k2, heap_ne _ k1, heap_ne _ k2, heap_ne _ k1]; exact hk
theorem nearest_a {Q} (can : List LinV → Option Bool) (s : ByteArray) (hns : nameB (B s) = true) (g : Nat) (cap : List D) (H : Heap) (hcan : CanC Tryz.prog can g cap H) (n : Int) (hn : nearF can s = some n) (h : Q (.int .i64 n) H) : ACalls Tryz.prog 82 [.str s, .fn (.func g) [] cap] H Q := by
 refine acalls_of_wp [] Tryz.mixed Tryz.func82 rfl (by kernel_rfl) (of_decide_eq_true (by kernel_rfl)) (by kernel_rfl) ?_
 simp only [go_sem,seval, Tryz.results82]
 unfold nearF at hn
 cases hh : halfF can s 40 0 2147483647 with
 | none => rw [hh] at hn; cases hn
 | some res =>
  rw [hh] at hn
  simp only [] at hn
  repeat' (first | with_reducible refine And.intro ?_ ?_ | simp only [go_sem,seval] | simp (disch := omega) only [wrap64] | intro hx_ | omega)
  refine loop_c [0, 1] (fun (p : Nat × Int × Int) => [(5, .int .i64 p.2.1), (6, .int .i64 p.2.2)]) (fun (p : Nat × Int × Int) => H) (fun (p : Nat × Int × Int) => halfF can s p.1 p.2.1 p.2.2 = some res ∧ 0 ≤ p.2.1 ∧ p.2.1 ≤ p.2.2 ∧ p.2.2 ≤ 2147483647) (fun (p : Nat × Int × Int) => p.1) ((40, 0, 2147483647)) (⟨hh, by simp, by simp, by simp⟩) (by (try simp only [go_sem,seval]) <;> (try simp (disch := omega) [wrap64]) <;> (try omega)) (by first | with_reducible exact Heap.Le.refl _ | exact heap_set_le (by assumption) | exact Heap.Le.refl _ | exact heap_le_set (by assumption) | exact (by simp only [Go.Av.Heap.Le, Go.Av.Heap.set, Go.Av.Heap.del] at * <;> grind)) ?_
  rintro Ec rfl ⟨f, low, high⟩ ⟨q1, q2, q3, q4⟩
  simp only at q1 q2 q3 q4
  cases f with
  | zero => simp [halfF] at q1
  | succ f =>
   rw [half_step] at q1
   by_cases hlt : low < high
   ·rw [if_pos hlt] at q1
    obtain ⟨m, hm⟩ : ∃ m, m = (low + high).tdiv 2 := ⟨_, rfl⟩
    have hmr : low ≤ m ∧ m < high := by
     rw [hm, Int.tdiv_eq_ediv_of_nonneg (by omega)]; omega
    rw [← hm] at q1
    have w1 : IntKind.i64.wrap m = m := wrap64 (by omega) (by omega)
    have w2 : IntKind.i64.wrap (0 - m) = -m := by rw [wrap64 (by omega) (by omega)]; omega
    cases hc : can [atLeastL s (-m), atMostL s m] with
    | none => rw [hc] at q1; cases q1
    | some b =>
     rw [hc] at q1
     repeat' (first | with_reducible refine And.intro ?_ ?_ | simp only [go_sem,seval, hlt, ← hm, w1, w2, Int.zero_sub] | simp (disch := omega) only [wrap64] | intro hx_ | with_reducible refine atLeast_a s (-m) (by omega) _ ?_ | with_reducible refine atMost_a s m _ ?_ | omega)
     rename_i bs
     have hbs := hx_
     clear hx_
     refine ACalls.vec1 (es := Rw linC [atLeastL s (-m), atMostL s m]) (heap_same _ _) rfl ?_
     rw [set_del hbs]
     refine hcan _ b hc (valid_two hns _ _ (by omega) (by omega)) (by simp) _ _ (Heap.Le.refl _) ?_
     cases b with
     | true =>
      repeat' (first | with_reducible refine And.intro ?_ ?_ | simp only [go_sem,seval] | simp (disch := omega) only [wrap64] | intro hx_ | omega)
      exact nx_mk (f, low, m) ⟨q1, q2, by simp only []; omega, by simp only []; omega⟩ (Nat.lt_succ_self f) (by (try simp only [go_sem,seval]) <;> (try simp (disch := omega) [wrap64]) <;> (try omega)) (Heap.Le.refl _)
     | false =>
      repeat' (first | with_reducible refine And.intro ?_ ?_ | simp only [go_sem,seval] | simp (disch := omega) only [wrap64] | intro hx_ | omega)
      exact nx_mk (f, m + 1, high) ⟨q1, by simp only []; omega, by simp only []; omega, q4⟩ (Nat.lt_succ_self f) (by (try simp only [go_sem,seval]) <;> (try simp (disch := omega) [wrap64]) <;> (try omega)) (Heap.Le.refl _)
   ·rw [if_neg hlt] at q1
    simp only [Option.some.injEq] at q1
    subst q1
    by_cases h0 : 0 < low
    ·rw [if_pos h0] at hn
     cases hc : can [atLeastL s low, atMostL s low] with
     | none => rw [hc] at hn; cases hn
     | some b =>
      rw [hc] at hn
      repeat' (first | with_reducible refine And.intro ?_ ?_ | simp only [go_sem,seval, hlt, h0, Int.zero_sub] | simp (disch := omega) only [wrap64] | intro hx_ | with_reducible refine atLeast_a s low (by omega) _ ?_ | with_reducible refine atMost_a s low _ ?_ | omega)
      rename_i bs
      have hbs := hx_
      clear hx_
      refine ACalls.vec1 (es := Rw linC [atLeastL s low, atMostL s low]) (heap_same _ _) rfl ?_
      rw [set_del hbs]
      refine hcan _ b hc (valid_two hns _ _ (by omega) (by omega)) (by simp) _ _ (Heap.Le.refl _) ?_
      cases b with
      | true =>
       simp only [Option.some.injEq] at hn
       subst hn
       repeat' (first | with_reducible refine And.intro ?_ ?_ | simp only [go_sem,seval] | simp (disch := omega) only [wrap64] | intro hx_ | omega)
       exact Fin.same h
      | false =>
       simp only [Option.some.injEq] at hn
       subst hn
       repeat' (first | with_reducible refine And.intro ?_ ?_ | simp only [go_sem,seval, Int.zero_sub] | simp (disch := omega) only [wrap64] | intro hx_ | omega)
       exact Fin.same h
    ·rw [if_neg h0] at hn
     simp only [Option.some.injEq] at hn
     subst hn
     repeat' (first | with_reducible refine And.intro ?_ ?_ | simp only [go_sem,seval, hlt, h0] | simp (disch := omega) only [wrap64] | intro hx_ | omega)
     exact Fin.same h
theorem edge_step (can : Int → Option Bool) (f : Nat) (low high : Int) : edgeF can (f + 1) low high = if low < high then
      match can (low + (high - low + 1).tdiv 2) with
      | none => none
      | some true => edgeF can f (low + (high - low + 1).tdiv 2) high
      | some false => edgeF can f low (low + (high - low + 1).tdiv 2 - 1)
    else some low := rfl
theorem edge_a {Q} (can : Int → Option Bool) (g : Nat) (cap : List D) (H : Heap) (hcan : ∀ (n : Int) (b : Bool), n.natAbs ≤ 2147483647 → can n = some b → ∀ (Q : D → Heap → Prop), Q (.bool b) H → ACalls Tryz.prog g (.int .i64 n :: cap) H Q) (n : Int) (hn : edgeF can 40 (-2147483647) 2147483647 = some n) (h : Q (.int .i64 n) H) :
  ACalls Tryz.prog 90 [.fn (.func g) [] cap] H Q := by
 refine acalls_of_wp [] Tryz.mixed Tryz.func90 rfl (by kernel_rfl) (of_decide_eq_true (by kernel_rfl)) (by kernel_rfl) ?_
 simp only [go_sem,seval, Tryz.results90]
 repeat' (first | with_reducible refine And.intro ?_ ?_ | simp only [go_sem,seval] | simp (disch := omega) only [wrap64] | intro hx_ | omega)
 refine loop_c [0] (fun (p : Nat × Int × Int) => [(3, .int .i64 p.2.1), (4, .int .i64 p.2.2)]) (fun (p : Nat × Int × Int) => H) (fun (p : Nat × Int × Int) => edgeF can p.1 p.2.1 p.2.2 = some n ∧ -2147483647 ≤ p.2.1 ∧ p.2.1 ≤ p.2.2 ∧ p.2.2 ≤ 2147483647) (fun (p : Nat × Int × Int) => p.1) ((40, -2147483647, 2147483647)) (⟨hn, by simp, by simp, by simp⟩) (by (try simp only [go_sem,seval]) <;> (try simp (disch := omega) [wrap64]) <;> (try omega)) (by first | with_reducible exact Heap.Le.refl _ | exact heap_set_le (by assumption) | exact Heap.Le.refl _ | exact heap_le_set (by assumption) | exact (by simp only [Go.Av.Heap.Le, Go.Av.Heap.set, Go.Av.Heap.del] at * <;> grind)) ?_
 rintro Ec rfl ⟨f, low, high⟩ ⟨q1, q2, q3, q4⟩
 simp only at q1 q2 q3 q4
 cases f with
 | zero => simp [edgeF] at q1
 | succ f =>
  rw [edge_step] at q1
  by_cases hlt : low < high
  ·rw [if_pos hlt] at q1
   obtain ⟨d, hd⟩ : ∃ d, d = (high - low + 1).tdiv 2 := ⟨_, rfl⟩
   have hdr : 1 ≤ d ∧ low + d ≤ high := by
    rw [hd, Int.tdiv_eq_ediv_of_nonneg (by omega)]; omega
   rw [← hd] at q1
   have w1 : IntKind.i64.wrap d = d := wrap64 (by omega) (by omega)
   cases hc : can (low + d) with
   | none => rw [hc] at q1; cases q1
   | some b =>
    rw [hc] at q1
    have cc := hcan (low + d) b (by omega) hc
    cases b with
    | true =>
     repeat' (first | with_reducible refine And.intro ?_ ?_ | simp only [go_sem,seval, hlt, ← hd, w1] | simp (disch := omega) only [wrap64] | intro hx_ | with_reducible refine cc _ ?_ | omega)
     exact nx_mk (f, low + d, high) ⟨q1, by simp only []; omega, by simp only []; omega, q4⟩ (Nat.lt_succ_self f) (by (try simp only [go_sem,seval]) <;> (try simp (disch := omega) [wrap64]) <;> (try omega)) (Heap.Le.refl _)
    | false =>
     repeat' (first | with_reducible refine And.intro ?_ ?_ | simp only [go_sem,seval, hlt, ← hd, w1] | simp (disch := omega) only [wrap64] | intro hx_ | with_reducible refine cc _ ?_ | omega)
     exact nx_mk (f, low, low + d - 1) ⟨q1, q2, by simp only []; omega, by simp only []; omega⟩ (Nat.lt_succ_self f) (by (try simp only [go_sem,seval]) <;> (try simp (disch := omega) [wrap64]) <;> (try omega)) (Heap.Le.refl _)
  ·rw [if_neg hlt] at q1
   simp only [Option.some.injEq] at q1
   subst q1
   repeat' (first | with_reducible refine And.intro ?_ ?_ | simp only [go_sem,seval, hlt] | simp (disch := omega) only [wrap64] | intro hx_ | omega)
   exact Fin.same h
end Go.Proofs.YtacekpdodelnbaaGreatDoor
end
section
namespace Go.Av
inductive View (H : Heap) : D → D → Prop
 | same (d : D) : View H d d
 | vec (b sz n : Nat) (es es' : List (List D)) (hb : H b = some (.vec sz es)) (hn : n = es.length) (hl : es.length = es'.length) (h1 : ∀ (i : Nat) (e e' : List D), es[i]? = some e → es'[i]? = some e' → e.length = e'.length)
   (h : ∀ (i : Nat) (e e' : List D) (j : Nat) (d d' : D), es[i]? = some e → es'[i]? = some e' → e[j]? = some d → e'[j]? = some d' → View H d d') : View H (.vec b sz 0 n) (.sl sz es')
 | nil (sz : Nat) : View H .nilsl (.sl sz [])
 | box (b : Nat) (cs cs' : List D) (Z : Option TypeId) (hb : H b = some (.box cs Z)) (hl : cs.length = cs'.length) (h : ∀ (i : Nat) (d d' : D), cs[i]? = some d → cs'[i]? = some d' → View H d d') : View H (.box b 0) (.ro cs')
 | agg (cs cs' : List D) (hl : cs.length = cs'.length) (h : ∀ (i : Nat) (d d' : D), cs[i]? = some d → cs'[i]? = some d' → View H d d') : View H (.agg cs) (.agg cs')
theorem View.one {H : Heap} {d d' : D} (h : View H d d') (ho : d.one = true) : d'.one = true := by
 cases h with
 | same => exact ho
 | vec => rfl
 | nil => rfl
 | box => rfl
 | agg => cases ho
theorem View.R {H : Heap} {w : World} (hs : Sat H w) {d d' : D} (h : View H d d') : ∀ {v : Value}, R w H d v → R w (roH H) d' v := by
 induction h with
 | same d => exact fun hr => hr.less (roH_le H)
 | vec b sz n es es' hb hn hl h1 h ih =>
  intro v hr
  have hlt := hs.lt hb
  -- the block itself
  obtain ⟨c, T, x, y, k1, _, k3, k4, k5, k6⟩ := hs b _ hb
  cases hr with
  | vec0 b sz lo off =>
   have : es' = [] := List.eq_nil_of_length_eq_zero (by omega)
   subst this
   exact .sl0 _ _ _
  | vec _ _ _ _ cap T2 m hb' hs' hsz hn' =>
   rw [hn, hl]
   refine .sl sz es' b _ cap (fun i j => c.getD (i * sz + j) Go.undef) hlt (roH_held H b) (fun i e' he' => ?_) (by omega) (fun i j hi hj => ?_) (fun i e' j d' he' hd' => ?_) (fun i e' j d' he' hd' => ?_)
   ·obtain ⟨e, he⟩ := get_of_len hl he'
    rw [← h1 i e e' he he']; exact k5 i e he
   ·have h5 : (i + 1) * sz ≤ es.length * sz := Nat.mul_le_mul_right _ (by omega)
    rw [Nat.add_mul, Nat.one_mul] at h5
    rw [Nat.zero_mul, Nat.zero_add, cell_at k1]
    have hsz : i * sz + j < c.size := by omega
    simp [hsz]
   ·obtain ⟨e, he⟩ := get_of_len hl he'
    obtain ⟨d, hd⟩ := get_of_len (h1 i e e' he he') hd'
    exact (h i e e' j d d' he he' hd hd').one (k6 i e j d he hd).1
   ·obtain ⟨e, he⟩ := get_of_len hl he'
    obtain ⟨d, hd⟩ := get_of_len (h1 i e e' he he') hd'
    exact ih i e e' j d d' he he' hd hd' (k6 i e j d he hd).2
 | nil sz => intro v hr; cases hr; exact .sl0 _ _ _
 | box b cs cs' Z hb hl h ih =>
  intro v hr
  have hlt := hs.lt hb
  obtain ⟨c, T, lo, hi, k1, _, k3, k4, _⟩ := hs b _ hb
  cases hr
  refine .ro cs' b 0 (fun j => c.getD j Go.undef) hlt (roH_held H b) (fun j hj => ?_) (fun j d' hd' => ?_) (fun j d' hd' => ?_)
  ·rw [Nat.zero_add, cell_at k1]
   have : j < c.size := by omega
   simp [this]
  ·obtain ⟨d, hd⟩ := get_of_len hl hd'
   exact (h j d d' hd hd').one (k4 j d hd).1
  ·obtain ⟨d, hd⟩ := get_of_len hl hd'
   exact ih j d d' hd hd' (k4 j d hd).2
 | agg cs cs' hl h ih =>
  intro v hr
  cases hr with
  | agg _ vs hlv ho hr =>
   refine .agg cs' vs (by omega) (fun i d' hd' => ?_) (fun i d' hd' => ?_)
   ·obtain ⟨d, hd⟩ := get_of_len hl hd'
    exact (h i d d' hd hd').one (ho i d hd)
   ·obtain ⟨d, hd⟩ := get_of_len hl hd'
    exact ih i d d' hd hd' (hr i d hd)
theorem ACalls.lend {P : Program} {f : Nat} {args args' : List D} {H : Heap} {Q : D → Heap → Prop} (hl : args.length = args'.length) (hv : ∀ (i : Nat) d d', args[i]? = some d → args'[i]? = some d' → View H d d')
  (h : ACalls P f args' (roH H) (fun d _ => flatD d = true ∧ Q d H)) : ACalls P f args H Q := by
 refine ⟨h.1, fun w vs h1 h2 h3 => ?_⟩
 refine (h.2 w vs (by omega) (fun i d' hd' => ?_) (h3.less (roH_le H))).mono fun e w' ⟨v, he, hp⟩ => ⟨v, he, post_sub h3 (roH_le H) (by rw [sub_ro]; exact hp)⟩
 obtain ⟨d, hd⟩ := get_of_len hl hd'
 exact (hv i d d' hd hd').R h3 (h2 i d hd)
end Go.Av
end
section
namespace Go.Av
theorem p_apS {P : Program} {c : CR} {bl : Bl} {ev : Operand → D} {H : Heap} {KD : D → Heap → Prop} {s x : Operand} {t t' : Nat} (e by_ : Nat) {sz n m bx : Nat} {ob : Option Nat} {es xs : List (List D)}
  (hT : elemT P t = some (e, sz, by_)) (hz : 0 < sz) (h1 : apT (baseT P t')) (h2 : apZ (zeroD P e) sz) (hs : ev s = outG sz n ob) (hx : ev x = .vec bx sz 0 m) (hbx : H bx = some (.vec sz xs)) (hm : m = xs.length) (hne : xs ≠ [])
  (hout : OutAt H sz es ob) (hn : n = es.length) (hxb : bx ∉ bl.l) (hob : ob ≠ some bx) (hcb : ∀ c, ob = some c → c ∉ bl.l)
  (h3 : (n + xs.length) * by_ ≤ 140737488355328) (h4 : n + xs.length ≤ 9223372036854775807)
  (h : ∀ b', delB (H.del bx) ob b' = none → KD (.vec b' sz 0 (n + xs.length)) ((delB (H.del bx) ob).set b' (.vec sz (es ++ xs)))) : pOp P c bl ev H KD (.call ⟨.builtin .append, #[s, x], #[t, t']⟩) := by
 refine p_append_mk ?_
 rw [hT, paK_some]
 refine ⟨hz, h1, h2, ?_⟩
 have hel : elemsD H sz (ev x) = some xs := by
  rw [hx]; unfold elemsD; simp [hbx, hm]
 have ho : outB bl.l [bx] = [bx] := by rw [outB_out bx [] hxb, outB_nil]
 have hxk : xOk bl H [bx] := xOk_one bx _ hbx rfl (.inl hxb)
 rw [hel, paX_some, hs, hx]
 show paS _ bl [bx] sz by_ xs H KD
 cases ob with
 | none =>
  have e0 : es = [] := hout
  subst e0
  subst hn
  simp only [List.length_nil, Nat.zero_add, List.nil_append] at h3 h4 h
  show paS .nilsl bl [bx] sz by_ xs H KD
  rw [paS_nil]
  refine ⟨h3, h4, by cases xs <;> simp_all, hxk, fun b hb => ?_⟩
  rw [ho, minus_cons, minus_nil]
  refine h b ?_
  show (H.del bx) b = none
  unfold Heap.del
  rw [ho] at hb
  rcases hb with hb | hb
  ·split <;> simp_all
  ·simp at hb; rw [if_pos hb]
 | some k =>
  have hk : H k = some (.vec sz es) := hout
  have hkb : k ≠ bx := fun e => hob (by rw [e])
  show paS (.vec k sz 0 n) bl [bx] sz by_ xs H KD
  rw [paS_vec, hk, paV_vec]
  refine ⟨rfl, rfl, rfl, by omega, h3, h4, .inl (hcb k rfl), hxk, fun b' hb' => ?_⟩
  rw [ho, List.take_of_length_le (by omega), minus_cons, minus_cons, minus_nil]
  have hdd : (H.del k).del bx = (H.del bx).del k := by funext q; simp only [Heap.del]; split <;> split <;> rfl
  rw [hdd]
  refine h b' ?_
  show ((H.del bx).del k) b' = none
  rw [ho] at hb'
  simp only [Heap.del]
  rcases hb' with hb' | hb'
  ·split
   ·rfl
   ·split
    ·rfl
    ·exact hb'
  ·simp at hb'
   rcases hb' with hb' | hb'
   ·rw [if_pos hb']
   ·split
    ·rfl
    ·first | rfl | rw [if_pos hb']
theorem p_apZ {P : Program} {c : CR} {bl : Bl} {ev : Operand → D} {H0 : Heap} {KD : D → Heap → Prop} {s x : Operand} {t t' : Nat} (e by_ : Nat) {sz n m bx : Nat} {ob : Option Nat} {es xs : List (List D)}
  (hT : elemT P t = some (e, sz, by_)) (hz : 0 < sz) (h1 : apT (baseT P t')) (h2 : apZ (zeroD P e) sz) (hs : ev s = outG sz n ob) (hx : ev x = .vec bx sz 0 m) (hx0 : H0 bx = none) (hm : m = xs.length) (hne : xs ≠ [])
  (hout : OutAt H0 sz es ob) (hn : n = es.length) (hbl : ∀ c ∈ bl.l, ∃ o, H0 c = some o ∧ o ≠ .vec sz es)
  (h3 : (n + xs.length) * by_ ≤ 140737488355328) (h4 : n + xs.length ≤ 9223372036854775807)
  (h : ∀ b' H', Apd H0 sz ob (es ++ xs) b' H' → KD (.vec b' sz 0 (n + xs.length)) H') : pOp P c bl ev (H0.set bx (.vec sz xs)) KD (.call ⟨.builtin .append, #[s, x], #[t, t']⟩) := by
 have hob : ob ≠ some bx := fun e => by subst e; have : H0 bx = some (.vec sz es) := hout; rw [hx0] at this; cases this
 have hout2 : OutAt (H0.set bx (.vec sz xs)) sz es ob := by
  cases ob with
  | none => exact hout
  | some c => show Heap.set _ bx _ c = _; rw [heap_ne _ (fun e => hob (by rw [e]))]; exact hout
 refine p_apS e by_ hT hz h1 h2 hs hx (heap_same _ _) hm hne hout2 hn (fun hb => ?_) hob (fun c hc hb => ?_) h3 h4 fun b' hb' => ?_
 ·obtain ⟨o, h5, _⟩ := hbl bx hb; rw [hx0] at h5; cases h5
 ·obtain ⟨o, h5, h7⟩ := hbl c hb
  subst hc
  have h6 : H0 c = some (.vec sz es) := hout
  rw [h5] at h6; exact h7 (Option.some.inj h6)
 ·rw [set_del hx0] at hb' ⊢
  exact h b' _ ⟨heap_same _ _, fun q x hq hqo => keepK hq hqo hb', newK hb'⟩
end Go.Av
end
section
set_option maxRecDepth 20000
namespace Go.Lin
open Go Go.Av Go.Lexs
theorem linC_view (H : Heap) (l : List LinV) {b : Nat} (hb : H b = some (.vec 3 (Rw linC l))) : View H (.vec b 3 0 l.length) (.sl 3 (Rw linC l)) :=
 .vec b 3 l.length _ _ hb (by rw [Rw_len]) rfl (fun i e e' h1 h2 => by rw [h1] at h2; cases h2; rfl) (fun i e e' j d d' h1 h2 h3 h4 => by rw [h1] at h2; cases h2; rw [h3] at h4; cases h4; exact .same _)
theorem box_view (H : Heap) (l : List LinV) {b c : Nat} (hc : H c = some (.box [.vec b 3 0 l.length])) (hb : H b = some (.vec 3 (Rw linC l))) : View H (.box c 0) (.ro [.sl 3 (Rw linC l)]) := by
 refine .box c _ _ none hc rfl fun i d d' h1 h2 => ?_
 match i with
 | 0 => cases h1; cases h2; exact linC_view H l hb
 | i + 1 => cases h1
theorem half_range (can : List LinV → Option Bool) (s : ByteArray) : ∀ (f : Nat) (low high r : Int), halfF can s f low high = some r → 0 ≤ low → low ≤ high → low ≤ r ∧ r ≤ high
 | 0, low, high, r, h, _, _ => by simp [halfF] at h
 | f + 1, low, high, r, h, h0, h1 => by
  rw [half_step] at h
  by_cases hlt : low < high
  ·rw [if_pos hlt] at h
   have hm : low ≤ (low + high).tdiv 2 ∧ (low + high).tdiv 2 < high := by
    rw [Int.tdiv_eq_ediv_of_nonneg (by omega)]; omega
   split at h
   ·cases h
   ·have := half_range can s f _ _ r h h0 (by omega); omega
   ·have := half_range can s f _ _ r h (by omega) (by omega); omega
  ·rw [if_neg hlt] at h
   cases h; omega
theorem near_range {can : List LinV → Option Bool} {s : ByteArray} {n : Int} (h : nearF can s = some n) : n.natAbs ≤ 2147483647 := by
 unfold nearF at h
 split at h
 ·cases h
 ·rename_i low hh
  have := half_range can s 40 0 2147483647 low hh (by decide) (by decide)
  split at h
  ·split at h
   ·cases h
   ·cases h; omega
   ·cases h; omega
  ·cases h; omega
theorem first_cons (s : ByteArray) (ns : List ByteArray) (so : List LinV) : firstF (s :: ns) so = match nearF (fun more => solvL (so ++ more)) s with
  | none => none
  | some n => (firstF ns (so ++ [atLeastL s n, atMostL s n])).map (⟨s, n⟩ :: ·) := rfl
structure FI (H : Heap) (b5 bv : Nat) (so : List LinV) (out : List VlV) (ob : Option Nat) (Hp : Heap) : Prop where
 le : H.Le Hp
 h5 : H b5 = none
 hv : H bv = none
 e5 : Hp b5 = some (.box [.vec bv 3 0 so.length])
 ev : Hp bv = some (.vec 3 (Rw linC so))
 eo : OutAt Hp 2 (Rw vlC out) ob
 no : ∀ b, ob = some b → H b = none
 n5 : ob ≠ some b5
 nv : ob ≠ some bv
end Go.Lin
namespace Go.Proofs.YtacekpdodelnbaaGreatDoor
open Go Go.Av Go.Lexs Go.Lin
attribute [local irreducible] ACalls at8
theorem cloneL_a {Q} (c : List LinV) (hc : c ≠ []) (hl : c.length ≤ 1000000) (H : Heap) (h : ∀ b, H b = none → Q (.vec b 3 0 c.length) (H.set b (.vec 3 (Rw linC c)))) : ACalls Tryz.prog 81 [.sl 3 (Rw linC c)] H Q := by
 refine acalls_of_wp [] Tryz.mixed Tryz.func81 rfl (by kernel_rfl) (of_decide_eq_true (by kernel_rfl)) (by kernel_rfl) ?_
 simp only [go_sem,seval, Tryz.results81]
 have hne : Rw linC c ≠ [] := fun e => hc (List.eq_nil_of_length_eq_zero (by rw [← Rw_len (f := linC), e]; rfl))
 have hq : ∀ (x : Nat), binD Tryz.prog .eql 25 (isConst (.tmp x) || isConst (.const (.slice none 0 0))) (.sl 3 (Rw linC c)) .nilsl = some (.bool false) := fun x => b_eql_sl hne (by kernel_rfl)
 repeat' (first | with_reducible refine And.intro ?_ ?_ | simp only [go_sem,seval, hq] | intro hx_ | omega)
 rename_i b0 h0 b'
 have hb' := hx_
 clear hx_
 have hs : (H.set b0 (.vec 3 [])).del b0 = H := set_del h0
 rw [hs] at hb' ⊢
 exact Fin.same (h b' hb')
theorem first1_a {Q} (so more : List LinV) (hlen : (so ++ more).length ≤ 1000) (hv : ∀ a ∈ so ++ more, validL a = true) (b : Bool) (hs : solvL (so ++ more) = some b) (H : Heap) (h : Q (.bool b) H) : ACalls Tryz.prog 83 [.sl 3 (Rw linC more), .ro [.sl 3 (Rw linC so)]] H Q := by
 refine acalls_of_wp [] Tryz.mixed Tryz.func83 rfl (by kernel_rfl) (of_decide_eq_true (by kernel_rfl)) (by kernel_rfl) ?_
 simp only [go_sem,seval, Tryz.results83]
 repeat' (first | with_reducible refine And.intro ?_ ?_ | simp only [go_sem,seval] | intro hx_ | omega)
 rename_i bs
 have hbs := hx_
 clear hx_
 refine ACalls.vec1 (heap_same _ _) rfl ?_
 rw [set_del hbs]
 repeat' (first | with_reducible refine And.intro ?_ ?_ | simp only [go_sem,seval] | intro hx_ | with_reducible refine concatL_a so more (by rw [List.length_append] at hlen; omega) _ ?_ | with_reducible refine solv_a _ hlen hv b hs _ ?_ | omega)
 exact Fin.same h
set_option maxHeartbeats 1000000 in
theorem first_a {Q} (l : List LinV) (hl : l ≠ []) (hlen : l.length ≤ 900) (fl : ∀ c ∈ l, LinFit c) (ha : allL l = true) (hv : ∀ a ∈ l, validL a = true) (hs : solvL l = some true) (vs : List VlV) (hf : firstF (varsL l) l = some vs) (H : Heap) (h : Q (.tuple [.sl 2 (Rw vlC vs), .int .i64 0]) H) :
  ACalls Tryz.prog 35 [.sl 3 (Rw linC l)] H Q := by
 refine acalls_of_wp [(11, .par)] Tryz.mixed Tryz.func35 rfl (by kernel_rfl) (of_decide_eq_true (by kernel_rfl)) (by kernel_rfl) ?_
 simp only [go_sem,seval, Tryz.results35]
 have ac : ∀ (H : Heap) (Q : D → Heap → Prop), Q (.bool true) H → ACalls Tryz.prog 17 [.sl 3 (Rw linC l)] H Q := fun H Q hq => all_a l (by omega) fl H (by rw [ha]; exact hq)
 obtain ⟨n1, n2⟩ := names_of hv
 obtain ⟨ns, hns⟩ : ∃ ns, ns = varsL l := ⟨_, rfl⟩
 have n12 : ns.length ≤ 12 := by
  unfold allL at ha
  simp only [Bool.and_eq_true, decide_eq_true_eq] at ha
  rw [hns]; exact ha.2
 have nsv : ∀ s ∈ ns, nameB (B s) = true := fun s hs => by
  rw [hns, varsL_mem] at hs
  unfold namesL at hs
  obtain ⟨c, hc, hs⟩ := List.mem_flatMap.1 hs
  obtain ⟨t, ht, rfl⟩ := List.mem_map.1 hs
  exact (okAt_mem (valid_ok (hv c hc)).t t ht).1
 have vc : ∀ (H : Heap) (Q : D → Heap → Prop), Q (.sl 1 (Rw strC ns)) H → ACalls Tryz.prog 54 [.sl 3 (Rw linC l)] H Q := fun H Q hq => vars_a l (by omega) (by omega) (fun s hs => by have := n2 s hs; omega) (fun c hc => by have := (valid_ok (hv c hc)).len; omega) H (by rw [← hns]; exact hq)
 rw [← hns] at hf
 repeat' (first | with_reducible refine And.intro ?_ ?_ | simp only [go_sem,seval] | simp (disch := omega) only [wrap64, Rw_at] | simp (disch := first | omega | grind) only [del_ne] | (intro hx_; try simp only [set_none] at hx_) | with_reducible refine ac _ _ ?_ | with_reducible refine solv_a l (by omega) hv true hs _ ?_ | omega)
 refine cloneL_a l hl (by omega) _ fun bv hbv => ?_
 repeat' (first | with_reducible refine And.intro ?_ ?_ | simp only [go_sem,seval] | simp (disch := omega) only [wrap64, Rw_at] | simp (disch := first | omega | grind) only [del_ne] | (intro hx_; try simp only [set_none] at hx_) | with_reducible refine vc _ _ ?_ | omega)
 rename_i b5
 have h5 := hx_
 clear hx_
 have f0 : FI H b5 bv l [] none ((H.set bv (.vec 3 (Rw linC l))).set b5 (.box [.vec bv 3 0 l.length])) := by
  have n5v : b5 ≠ bv := fun e => by rw [e] at h5; simp at h5
  have h5' : H b5 = none := by first | exact h5 | exact h5.2
  refine ⟨(heap_le_set hbv).trans (heap_le_set (by rw [heap_ne _ n5v]; exact h5')), h5', hbv, heap_same _ _, ?_, rfl, by simp, by simp, by simp⟩
  rw [heap_ne _ n5v.symm]; exact heap_same _ _
 have hf0 : (firstF (ns.drop 0) l).map (([] : List VlV) ++ ·) = some vs := by rw [List.drop_zero, hf]; rfl
 generalize (H.set bv (.vec 3 (Rw linC l))).set b5 (.box [.vec bv 3 0 l.length]) = Hq at f0 ⊢
 clear h5 hbv
 refine loop_c [5, 18, 19] (fun (p : Nat × Nat × List LinV × List VlV × Option Nat × Heap) => [(20, .int .i64 p.1), (4, outG 2 p.1 p.2.2.2.2.1)]) (fun (p : Nat × Nat × List LinV × List VlV × Option Nat × Heap) => p.2.2.2.2.2) (fun (p : Nat × Nat × List LinV × List VlV × Option Nat × Heap) => p.1 ≤ ns.length ∧ p.2.2.2.1.length = p.1 ∧ (firstF (ns.drop p.1) p.2.2.1).map (p.2.2.2.1 ++ ·) = some vs ∧ p.2.2.1.length ≤ 900 + 2 * p.1 ∧ (∀ a ∈ p.2.2.1, validL a = true) ∧ FI H b5 p.2.1 p.2.2.1 p.2.2.2.1 p.2.2.2.2.1 p.2.2.2.2.2) (fun (p : Nat × Nat × List LinV × List VlV × Option Nat × Heap) => ns.length - p.1) ((0, bv, l, [], none, Hq)) (⟨Nat.zero_le _, rfl, hf0, by simpa using hlen, hv, f0⟩) (by (try simp only [go_sem,seval]) <;> (try simp (disch := omega) [wrap64]) <;> (try omega)) (by first | with_reducible exact Heap.Le.refl _ | exact heap_set_le (by assumption) | exact Heap.Le.refl _ | exact heap_le_set (by assumption) | exact (by simp only [Go.Av.Heap.Le, Go.Av.Heap.set, Go.Av.Heap.del] at * <;> grind)) ?_
 clear f0 hf0
 rintro Ec rfl ⟨i, bv, so, out, ob, Hp⟩ ⟨hi, hol, hF, hsl, hsv, fi⟩
 simp only at hi hol hF hsl hsv fi
 by_cases hlt : i < ns.length
 ·have hkd : decide ((i : Int) < ns.length) = true := decide_eq_true (by omega)
  have hti : (i : Int) < ns.length := by omega
  have hnm := nsv _ (List.getElem_mem hlt)
  rw [List.drop_eq_getElem_cons hlt, first_cons] at hF
  obtain ⟨s, hss⟩ : ∃ s, s = ns[i] := ⟨_, rfl⟩
  rw [← hss] at hnm hF
  cases hn : nearF (fun more => solvL (so ++ more)) s with
  | none => rw [hn] at hF; cases hF
  | some n =>
   rw [hn] at hF
   simp only [Option.map_map] at hF
   have hnr := near_range hn
   have e5 := fi.e5
   have can : CanC Tryz.prog (fun more => solvL (so ++ more)) 83 [.box b5 0] Hp := fun more b hc hv2 hl2 H' Q hle hq => by
    refine ACalls.lend (args' := [.sl 3 (Rw linC more), .ro [.sl 3 (Rw linC so)]]) rfl (fun i d d' h1 h2 => ?_) (first1_a so more (by rw [List.length_append]; omega) (fun a ha => (List.mem_append.1 ha).elim (hsv a) (hv2 a)) b hc (roH H') ⟨rfl, hq⟩)
    match i with
    | 0 => cases h1; cases h2; exact .same _
    | 1 => cases h1; cases h2; exact box_view H' so (hle _ _ fi.e5) (hle _ _ fi.ev)
    | i + 2 => cases h1
   have nc : ∀ (H' : Heap) (Q : D → Heap → Prop), H' = Hp → Q (.int .i64 n) H' → ACalls Tryz.prog 82 [.str s, .fn (.func 83) [] [.box b5 0]] H' Q := fun H' Q e hq => by subst e; exact nearest_a _ s hnm _ _ _ can n hn hq
   have nc := nc Hp
   have m5 : b5 ∈ [b5] := by simp
   repeat' (first | with_reducible refine And.intro ?_ ?_ | simp only [go_sem,seval, hkd, hti, Rw_at _ _ hlt, Rw_get _ _ hlt, ← hss] | simp (disch := omega) only [wrap64, Rw_at] | simp (disch := first | omega | grind) only [del_ne] | (intro hx_; try simp only [set_none] at hx_) | with_reducible refine nc _ rfl ?_ | omega)
   refine par_mk (fun i' => if i' = 3 then .agg (linC (atLeastL s n)) else if i' = 6 then .agg (linC (atMostL s n)) else .undef) [b5] ?_
   repeat' (first | with_reducible refine And.intro ?_ ?_ | simp only [go_sem,seval, e5, m5] | simp (disch := omega) only [wrap64, Rw_at] | simp (disch := first | omega | grind) only [del_ne] | (intro hx_; try simp only [set_none] at hx_) | with_reducible refine pc0 (fun H' Q hro hq => atLeast_a s n (by omega) H' hq) ?_ | with_reducible refine pc0 (fun H' Q hro hq => atMost_a s n H' hq) ?_ | omega)
   rename_i bs
   have hbs := hx_
   clear hx_
   have nbv : bv ≠ b5 := fun e => by have := fi.ev; rw [e, e5] at this; cases this
   obtain ⟨so2, hso⟩ : ∃ so2, so2 = so ++ [atLeastL s n, atMostL s n] := ⟨_, rfl⟩
   have hso3 : Rw linC so2 = Rw linC so ++ [linC (atLeastL s n), linC (atMostL s n)] := by rw [hso, ← Rw_app]; rfl
   have hsl2 : so2.length = so.length + 2 := by rw [hso, List.length_append]; rfl
   refine p_apZ 24 40 (n := so.length) (m := 2) (ob := some bv) (es := Rw linC so) (xs := [linC (atLeastL s n), linC (atMostL s n)]) (by simp only [go_sem,seval]) (by decide) (by simp only [go_sem,seval]) (by simp only [go_sem,seval]) (by simp only [go_sem,seval]) (by simp only [go_sem,seval]) hbs rfl (by simp) fi.ev (by rw [Rw_len]) (fun c hc => by simp only [List.mem_cons, List.not_mem_nil, or_false] at hc; subst hc; exact ⟨_, e5, by simp⟩) (by simp only [List.length_cons, List.length_nil]; omega) (by simp only [List.length_cons, List.length_nil]; omega) fun b' H3 hA3 => ?_
   rw [← hso3] at hA3
   have g5 := hA3.2.1 b5 _ e5 (fun e => nbv (by cases e; rfl))
   have gH : H.Le H3 := fun k o hk => hA3.2.1 k o (fi.le _ _ hk) (fun e => by cases e; rw [fi.hv] at hk; cases hk)
   have go : OutAt H3 2 (Rw vlC out) ob := by
    have h1 := fi.eo
    cases ob with
    | none => exact h1
    | some c => exact hA3.2.1 c _ h1 (fun e => fi.nv (by rw [e]))
   have gb' : H b' = none := by
    rcases hA3.2.2 with g | g
    ·exact fi.le.none g
    ·cases g; exact fi.hv
   have gb5 : b' ≠ b5 := fun e => by have := hA3.1; rw [e, g5] at this; cases this
   have gbo : ob ≠ some b' := fun e => by
    have h1 := fi.eo.some_of e
    rcases hA3.2.2 with g | g
    ·rw [g] at h1; cases h1
    ·cases g; exact fi.nv e
   have gb := hA3.1
   clear can nc hbs hA3
   repeat' (first | with_reducible refine And.intro ?_ ?_ | simp only [go_sem,seval, g5] | simp (disch := omega) only [wrap64, Rw_at] | simp (disch := first | omega | grind) only [del_ne] | (intro hx_; try simp only [set_none] at hx_) | omega)
   rename_i bx
   have hbx := hx_
   clear hx_
   have hH4 : OutAt (H3.set b5 (.box [.vec b' 3 0 (so.length + 2)])) 2 (Rw vlC out) ob := by
    cases ob with
    | none => exact go
    | some c => show (H3.set b5 _) c = _; rw [heap_ne _ (fun e => fi.n5 (by rw [e]))]; exact go
   refine apS_z (P := Tryz.prog) (H0 := H3.set b5 (.box [.vec b' 3 0 (so.length + 2)])) (es := Rw vlC out) (by simp only [set_none]; exact hbx) (by simp) hH4 (by rw [Rw_len]; exact hol.symm) (by simp only [List.length_cons, List.length_nil]; omega) (by simp only [List.length_cons, List.length_nil]; omega) fun b2 H4 hA4 => ?_
   repeat' (first | with_reducible refine And.intro ?_ ?_ | simp only [go_sem,seval] | simp (disch := omega) only [wrap64, Rw_at] | simp (disch := first | omega | grind) only [del_ne] | (intro hx_; try simp only [set_none] at hx_) | omega)
   have q5 : ob ≠ some b5 := fi.n5
   have e1 : H4 b5 = some (.box [.vec b' 3 0 so2.length]) := by rw [hsl2]; exact hA4.2.1 b5 _ (heap_same _ _) q5
   have e2 : H4 b' = some (.vec 3 (Rw linC so2)) := hA4.2.1 b' _ (by rw [heap_ne _ gb5]; exact gb) gbo
   have e3 : H4 b2 = some (.vec 2 (Rw vlC (out ++ [⟨s, n⟩]))) := by rw [← Rw_app]; exact hA4.1
   refine nx_mk (i + 1, b', so2, out ++ [(⟨s, n⟩ : VlV)], some b2, H4) ⟨by simp only []; omega, by simp only [List.length_append, hol]; rfl, ?_, by simp only []; omega, fun a ha => ?_, ⟨fun k o hk => ?_, fi.h5, gb', e1, e2, e3, fun b e => ?_, fun e => ?_, fun e => ?_⟩⟩ (by simp only []; omega) (by (try simp only [go_sem,seval, out_some]) <;> (try simp (disch := omega) [wrap64]) <;> (try omega)) (Heap.Le.refl _)
   ·simp only []
    rw [hso, ← hF]
    congr 1
    funext r
    simp
   ·simp only [hso] at ha
    rcases List.mem_append.1 ha with g | g
    ·exact hsv a g
    ·exact valid_two hnm n n (by omega) (by omega) a g
   ·have k5 : k ≠ b5 := fun e => by rw [e, fi.h5] at hk; cases hk
    exact hA4.2.1 k o (by rw [heap_ne _ k5]; exact gH _ _ hk) (fun e => by have := fi.no _ e; rw [this] at hk; cases hk)
   ·cases e
    rcases hA4.2.2 with g | g
    ·rw [set_none] at g
     exact gH.none g.2
    ·exact fi.no _ g
   ·have e : some b2 = some b5 := e
    cases e; rw [e1] at e3; cases e3
   ·have e : some b2 = some b' := e
    cases e; rw [e2] at e3; cases e3
 ·have hkd : decide ((i : Int) < ns.length) = false := decide_eq_false (by omega)
  rw [List.drop_eq_nil_of_le (by omega)] at hF
  simp only [firstF, Option.map_some, List.append_nil, Option.some.injEq] at hF
  subst hF
  repeat' (first | with_reducible refine And.intro ?_ ?_ | simp only [go_sem,seval, hkd] | simp (disch := omega) only [wrap64, Rw_at] | simp (disch := first | omega | grind) only [del_ne] | (intro hx_; try simp only [set_none] at hx_) | omega)
  refine Fin.out1 (by rw [Rw_len]; exact hol.symm) fi.eo (Fin.less (fun k o hk => ?_) h)
  cases ob with
  | none => exact fi.le _ _ hk
  | some c => show (Hp.del c) k = _; rw [del_ne (by rintro rfl; have := fi.no _ rfl; rw [this] at hk; cases hk)]; exact fi.le _ _ hk
end Go.Proofs.YtacekpdodelnbaaGreatDoor
end
section
set_option maxRecDepth 20000
namespace Go.Proofs.YtacekpdodelnbaaGreatDoor
open Go Go.Av Go.Lexs Go.Lin
attribute [local irreducible] ACalls at8
theorem solvV_a {Q} (l : List LinV) (n v : Nat) (hn : n = l.length) (hlen : l.length ≤ 1000) (hv : ∀ a ∈ l, validL a = true) (b : Bool) (hs : solvL l = some b) (H : Heap) (hb : H v = some (.vec 3 (Rw linC l))) (h : Q (.bool b) (H.del v)) : ACalls Tryz.prog 80 [.vec v 3 0 n] H Q :=
 ACalls.vec1 hb (by rw [Rw_len]; exact hn) (solv_a l hlen hv b hs _ h)
theorem with_a {Q} (l : List LinV) (c : LinV) (hl : l ≠ []) (hlen : l.length ≤ 900) (hv0 : ∀ a ∈ l ++ [c], validL a = true) (b : Bool) (hs : solvL (l ++ [c]) = some b) (b2 : Nat) (H : Heap) (hb : H b2 = some (.box [.sl 3 (Rw linC l)])) (h : Q (.bool b) H) :
  ACalls Tryz.prog 89 [.agg (linC c), .box b2 0] H Q := by
 refine acalls_of_wp [(1, .par)] Tryz.mixed Tryz.func89 rfl (by kernel_rfl) (of_decide_eq_true (by kernel_rfl)) (by kernel_rfl) ?_
 simp only [go_sem,seval, Tryz.results89]
 intro b1 h1
 have e1 : (H.set b1 (.box (linC c))) b1 = some (.box (linC c)) := heap_same _ _
 have e2 : (H.set b1 (.box (linC c))) b2 = some (.box [.sl 3 (Rw linC l)]) := (heap_le_set h1) _ _ hb
 have hle : H.Le (H.set b1 (.box (linC c))) := heap_le_set h1
 generalize H.set b1 (.box (linC c)) = Bs at e1 e2 hle ⊢
 have m1 : b1 ∈ [b1, b2] := by simp
 have m2 : b2 ∈ [b1, b2] := by simp
 refine par_mk2 (fun i' => if i' = 1 then .mk' (fun v => .vec v 3 0 l.length) (.vec 3 (Rw linC l)) else if i' = 5 then .c (.bool b) else .c .undef) [b1, b2] ?_
 repeat' (first | with_reducible refine And.intro ?_ ?_ | simp only [go_sem,seval, e1, e2, m1, m2] | simp (disch := first | omega | grind) only [heap_ne_, del_ne] | (intro hx_; try simp only [set_none] at hx_) | with_reducible refine pcm rfl (fun H' Q hro hq => cloneL_a l hl (by omega) H' hq) ?_ | omega)
 rename_i v hv bx
 have hbx := hx_
 clear hx_
 have hbx2 : (Bs.set v (.vec 3 (Rw linC l))) bx = none := by simp only [set_none]; exact hbx
 have hvl : (Bs.set v (.vec 3 (Rw linC l))) v = some (.vec 3 (Rw linC l)) := heap_same _ _
 have n1 : b1 ≠ v := fun e => by rw [e, hv] at e1; cases e1
 have n2 : b2 ≠ v := fun e => by rw [e, hv] at e2; cases e2
 have lc : Rw linC l ++ [linC c] = Rw linC (l ++ [c]) := by rw [← Rw_app]; rfl
 refine p_apZ (H0 := Bs.set v (.vec 3 (Rw linC l))) 24 40 (n := l.length) (m := 1) (ob := some v) (es := Rw linC l) (xs := [linC c]) (by simp only [go_sem,seval]) (by decide) (by simp only [go_sem,seval]) (by simp only [go_sem,seval]) (by simp only [go_sem,seval]) (by simp only [go_sem,seval]) hbx2 rfl (by simp) hvl (by rw [Rw_len]) (fun k hk => by
  simp only [List.mem_cons, List.not_mem_nil, or_false] at hk
  rcases hk with rfl | rfl
  ·exact ⟨_, by rw [heap_ne _ n1]; exact e1, by simp⟩
  ·exact ⟨_, by rw [heap_ne _ n2]; exact e2, by simp⟩) (by simp only [List.length_cons, List.length_nil]; omega) (by simp only [List.length_cons, List.length_nil]; omega) fun b' H' hA => ?_
 rw [lc] at hA
 have hB : Bs.Le (H'.del b') := fun k o hk => by
  have kv : k ≠ v := fun e => by rw [e, hv] at hk; cases hk
  have h3 := hA.2.1 k o (by rw [heap_ne _ kv]; exact hk) (fun e => kv (by cases e; rfl))
  have kb : k ≠ b' := fun e => by
   rcases hA.2.2 with g | g
   ·rw [← e, heap_ne _ kv, hk] at g; cases g
   ·cases g; exact kv e
  rw [del_ne kb]; exact h3
 have nb1 : b' ≠ b1 := fun e => by have := hB _ _ e1; rw [← e] at this; simp [Heap.del] at this
 have nb2 : b' ≠ b2 := fun e => by have := hB _ _ e2; rw [← e] at this; simp [Heap.del] at this
 have hnb : b' ∉ [b1, b2] := by simp [nb1, nb2]
 have sc : ∀ (H'' : Heap) (Q : D → Heap → Prop), H'' b' = some (.vec 3 (Rw linC (l ++ [c]))) → Q (.bool b) (H''.del b') → ACalls Tryz.prog 80 [.vec b' 3 0 (l.length + 1)] H'' Q := fun H'' Q h1 h2 => solvV_a (l ++ [c]) _ b' (by simp) (by simp; omega) hv0 b hs H'' h1 h2
 have hb1 := hA.1
 repeat' (first | with_reducible refine And.intro ?_ ?_ | simp only [go_sem,seval] | simp (disch := first | omega | grind) only [heap_ne_, del_ne] | (intro hx_; try simp only [set_none] at hx_) | with_reducible refine pc1 hb1 rfl hnb (fun H'' Q hro hb2 hq => sc H'' Q hb2 hq) ?_ | omega)
 exact Fin.less (hle.trans hB) h
theorem hiC_a {Q} (l : List LinV) (hl : l ≠ []) (hlen : l.length ≤ 900) (hv : ∀ a ∈ l, validL a = true) (s : ByteArray) (hs : nameB (B s) = true) (n : Int) (hn : n.natAbs ≤ 1099511627776) (b : Bool) (hb : solvL (l ++ [atLeastL s n]) = some b) (b2 b3 b7 : Nat) (H : Heap) (e2 : H b2 = some (.box [.sl 3 (Rw linC l)])) (e3 : H b3 = some (.box [.str s])) (e7 : H b7 = some (.box [.fn (.func 89) [] [.box b2 0]])) (h : Q (.bool b) H) :
  ACalls Tryz.prog 91 [.int .i64 n, .box b7 0, .box b3 0] H Q := by
 refine acalls_of_wp [(1, .par)] Tryz.mixed Tryz.func91 rfl (by kernel_rfl) (of_decide_eq_true (by kernel_rfl)) (by kernel_rfl) ?_
 simp only [go_sem,seval, Tryz.results91]
 have m2 : b2 ∈ [b2, b3, b7] := by simp
 have m3 : b3 ∈ [b2, b3, b7] := by simp
 have m7 : b7 ∈ [b2, b3, b7] := by simp
 have va : ∀ a ∈ l ++ [atLeastL s n], validL a = true := fun a ha => (List.mem_append.1 ha).elim (hv a) (fun g => valid_two hs n 0 hn (by decide) a (List.mem_cons.2 (.inl (by simpa using g))))
 refine par_mk (fun i' => if i' = 3 then .agg (linC (atLeastL s n)) else if i' = 4 then .bool b else .undef) [b2, b3, b7] ?_
 repeat' (first | with_reducible refine And.intro ?_ ?_ | simp only [go_sem,seval, e3, e7, m3, m7] | intro hx_ | with_reducible refine pc0 (fun H' Q hro hq => atLeast_a s n (by omega) H' hq) ?_ | with_reducible refine pcr e2 m2 (by simp) (fun H' Q hro hb2 hq => with_a l _ hl hlen va b hb b2 H' hb2 hq) ?_ | omega)
 exact Fin.same h
theorem loC_a {Q} (l : List LinV) (hl : l ≠ []) (hlen : l.length ≤ 900) (hv : ∀ a ∈ l, validL a = true) (s : ByteArray) (hs : nameB (B s) = true) (n : Int) (hn : n.natAbs ≤ 1099511627776) (b : Bool) (hb : solvL (l ++ [atMostL s (-n)]) = some b) (b2 b3 b7 : Nat) (H : Heap) (e2 : H b2 = some (.box [.sl 3 (Rw linC l)])) (e3 : H b3 = some (.box [.str s])) (e7 : H b7 = some (.box [.fn (.func 89) [] [.box b2 0]])) (h : Q (.bool b) H) :
  ACalls Tryz.prog 92 [.int .i64 n, .box b7 0, .box b3 0] H Q := by
 refine acalls_of_wp [(1, .par)] Tryz.mixed Tryz.func92 rfl (by kernel_rfl) (of_decide_eq_true (by kernel_rfl)) (by kernel_rfl) ?_
 simp only [go_sem,seval, Tryz.results92]
 have m2 : b2 ∈ [b2, b3, b7] := by simp
 have m3 : b3 ∈ [b2, b3, b7] := by simp
 have m7 : b7 ∈ [b2, b3, b7] := by simp
 have va : ∀ a ∈ l ++ [atMostL s (-n)], validL a = true := fun a ha => (List.mem_append.1 ha).elim (hv a) (fun g => valid_two hs 0 (-n) (by decide) (by omega) a (by simp at g; rw [g]; simp))
 refine par_mk (fun i' => if i' = 4 then .agg (linC (atMostL s (-n))) else if i' = 5 then .bool b else .undef) [b2, b3, b7] ?_
 repeat' (first | with_reducible refine And.intro ?_ ?_ | simp only [go_sem,seval, e3, e7, m3, m7, Int.zero_sub] | simp (disch := omega) only [wrap64] | intro hx_ | with_reducible refine pc0 (fun H' Q hro hq => atMost_a s (-n) H' hq) ?_ | with_reducible refine pcr e2 m2 (by simp) (fun H' Q hro hb2 hq => with_a l _ hl hlen va b hb b2 H' hb2 hq) ?_ | omega)
 exact Fin.same h
theorem bounds_a {Q} (l : List LinV) (hl : l ≠ []) (hlen : l.length ≤ 900) (fl : ∀ c ∈ l, LinFit c) (ha : allL l = true) (hv : ∀ a ∈ l, validL a = true) (s : ByteArray) (hs : nameB (B s) = true) (hs0 : solvL l = some true) (hi lo : Int)
  (h1 : edgeF (fun n => solvL (l ++ [atLeastL s n])) 40 (-2147483647) 2147483647 = some hi) (h2 : edgeF (fun n => solvL (l ++ [atMostL s (-n)])) 40 (-2147483647) 2147483647 = some lo) (hlo : lo.natAbs ≤ 2147483647) (H : Heap)
  (h : Q (.tuple [.int .i64 (-lo), .int .i64 hi, .int .i64 0]) H) : ACalls Tryz.prog 40 [.sl 3 (Rw linC l), .str s] H Q := by
 refine acalls_of_wp [] Tryz.mixed Tryz.func40 rfl (by kernel_rfl) (of_decide_eq_true (by kernel_rfl)) (by kernel_rfl) ?_
 simp only [go_sem,seval, Tryz.results40]
 intro b2 g2 b3 g3
 simp only [set_none] at g3
 have e2 : ((H.set b2 (.box [.sl 3 (Rw linC l)])).set b3 (.box [.str s])) b2 = some (.box [.sl 3 (Rw linC l)]) := by rw [heap_ne _ g3.1.symm, heap_same]
 have e3 : ((H.set b2 (.box [.sl 3 (Rw linC l)])).set b3 (.box [.str s])) b3 = some (.box [.str s]) := heap_same _ _
 have hle : H.Le ((H.set b2 (.box [.sl 3 (Rw linC l)])).set b3 (.box [.str s])) := (heap_le_set g2).trans (heap_le_set (by simp only [set_none]; exact g3))
 generalize (H.set b2 (.box [.sl 3 (Rw linC l)])).set b3 (.box [.str s]) = Bs at e2 e3 hle ⊢
 have ac : ∀ (H : Heap) (Q : D → Heap → Prop), Q (.bool true) H → ACalls Tryz.prog 17 [.sl 3 (Rw linC l)] H Q := fun H Q hq => all_a l (by omega) fl H (by rw [ha]; exact hq)
 have nc : ∀ (H : Heap) (Q : D → Heap → Prop), Q (.bool true) H → ACalls Tryz.prog 50 [.str s] H Q := fun H Q hq => named_a s H (by rw [hs]; exact hq)
 repeat' (first | with_reducible refine And.intro ?_ ?_ | simp only [go_sem,seval, e2, e3] | simp (disch := omega) only [wrap64] | (intro hx_; try simp only [set_none] at hx_) | with_reducible refine ac _ _ ?_ | with_reducible refine nc _ _ ?_ | with_reducible refine solv_a l (by omega) hv true hs0 _ ?_ | omega)
 rename_i b7
 have g7 := hx_
 clear hx_
 have f7 : (Bs.set b7 (.box [.fn (.func 89) [] [.box b2 0]])) b7 = some (.box [.fn (.func 89) [] [.box b2 0]]) := heap_same _ _
 have f2 := (heap_le_set (o := .box [.fn (.func 89) [] [.box b2 0]]) g7) _ _ e2
 have f3 := (heap_le_set (o := .box [.fn (.func 89) [] [.box b2 0]]) g7) _ _ e3
 have hle2 := hle.trans (heap_le_set (o := .box [.fn (.func 89) [] [.box b2 0]]) g7)
 generalize Bs.set b7 (.box [.fn (.func 89) [] [.box b2 0]]) = Bt at f7 f2 f3 hle2 ⊢
 refine edge_a (fun n => solvL (l ++ [atLeastL s n])) 91 [.box b7 0, .box b3 0] _ (fun n b hn hb Q hq => hiC_a l hl hlen hv s hs n (by omega) b hb b2 b3 b7 _ f2 f3 f7 hq) hi h1 ?_
 repeat' (first | with_reducible refine And.intro ?_ ?_ | simp only [go_sem,seval] | simp (disch := omega) only [wrap64] | (intro hx_; try simp only [set_none] at hx_) | omega)
 refine edge_a (fun n => solvL (l ++ [atMostL s (-n)])) 92 [.box b7 0, .box b3 0] _ (fun n b hn hb Q hq => loC_a l hl hlen hv s hs n (by omega) b hb b2 b3 b7 _ f2 f3 f7 hq) lo h2 ?_
 repeat' (first | with_reducible refine And.intro ?_ ?_ | simp only [go_sem,seval, Int.zero_sub] | simp (disch := omega) only [wrap64] | (intro hx_; try simp only [set_none] at hx_) | omega)
 exact Fin.less hle2 h
end Go.Proofs.YtacekpdodelnbaaGreatDoor
end
section
set_option maxRecDepth 20000
namespace Go.Av
theorem ACalls.fin {P : Program} {f : Nat} {args : List D} {H : Heap} {Q : D → Heap → Prop} (h : ACalls P f args H (Fin Q)) : ACalls P f args H Q := by
 refine ⟨h.1, fun w vs h1 h2 h3 => (h.2 w vs h1 h2 h3).mono fun e w' ⟨v, he, hp⟩ => ⟨v, he, ?_⟩⟩
 obtain ⟨d, H1, p1, p2, p3, p4, hf⟩ := hp
 unfold Fin at hf
 obtain ⟨H2, d2, hs, hq⟩ := hf
 obtain ⟨q1, q2, q3⟩ := hs w' v p1 p2
 exact ⟨d2, H2, q1, q2, p3, fun k hk hn => q3 k (p4 k hk hn), hq⟩
structure BxI (H : Heap) (bx sz n : Nat) (X : List (List D)) (rest : List D) (ob : Option Nat) (Hp : Heap) : Prop where
 le : H.Le Hp
 hx : H bx = none
 ex : Hp bx = some (.box (outG sz n ob :: rest))
 eo : OutAt Hp sz X ob
 no : ∀ b, ob = some b → H b = none
 nx : ob ≠ some bx
theorem BxI.start {H : Heap} {bx : Nat} (h : H bx = none) (sz : Nat) (rest : List D) : BxI H bx sz 0 [] rest none (H.set bx (.box (.nilsl :: rest))) :=
 ⟨heap_le_set h, h, heap_same _ _, rfl, by simp, by simp⟩
theorem BxI.up {H Hp H' : Heap} {bx sz n : Nat} {X : List (List D)} {rest : List D} {ob : Option Nat} (h : BxI H bx sz n X rest ob Hp) (hle : Hp.Le H') : BxI H bx sz n X rest ob H' :=
 ⟨h.le.trans hle, h.hx, hle _ _ h.ex, h.eo.up hle, h.no, h.nx⟩
theorem BxI.ap {H Hp H0 H' : Heap} {bx sz n m : Nat} {X Y : List (List D)} {rest : List D} {ob : Option Nat} {b' : Nat} (h : BxI H bx sz n X rest ob Hp) (hle : Hp.Le H0) (ha : Apd H0 sz ob Y b' H') : BxI H bx sz m Y rest (some b') (H'.set bx (.box (.vec b' sz 0 m :: rest))) ∧ H' bx = some (.box (outG sz n ob :: rest)) := by
 have e5 : H' bx = some (.box (outG sz n ob :: rest)) := ha.2.1 bx _ (hle _ _ h.ex) h.nx
 have nb : b' ≠ bx := fun e => by have := ha.1; rw [e, e5] at this; cases this
 have gb : H b' = none := by
  rcases ha.2.2 with g | g
  ·exact h.le.none (hle.none g)
  ·exact h.no _ g
 refine ⟨⟨fun k o hk => ?_, h.hx, heap_same _ _, ?_, fun b e => by cases e; exact gb, fun e => nb (by cases e; rfl)⟩, e5⟩
 ·rw [heap_ne _ (fun e => by rw [e, h.hx] at hk; cases hk)]
  exact ha.2.1 k o (hle _ _ (h.le _ _ hk)) (fun e => by have := h.no _ e; rw [this] at hk; cases hk)
 ·show (H'.set bx _) b' = _
  rw [heap_ne _ nb]; exact ha.1
theorem BxI.put {H Hp : Heap} {bx sz n : Nat} {X : List (List D)} {rest : List D} {ob : Option Nat} (h : BxI H bx sz n X rest ob Hp) : (putB H sz X ob).Le Hp := by
 cases ob with
 | none => exact h.le
 | some b =>
  intro k o hk
  by_cases e : k = b
  ·subst e
   have : (H.set k (.vec sz X)) k = some o := hk
   rw [heap_same] at this
   cases this; exact h.eo
  ·have : (H.set b (.vec sz X)) k = some o := hk
   rw [heap_ne _ e] at this
   exact h.le _ _ this
theorem BxI.putr {H0 H Hp : Heap} {bx sz n b4 : Nat} {X : List (List D)} {rest cs : List D} {T : Option TypeId} {x : Go.Av.Obj} {ob : Option Nat} (h : BxI H bx sz n X rest ob Hp) (hle : H0.Le H) (h4 : H0 b4 = none) (e4 : Hp b4 = some (.box cs T)) : (putB H0 sz X ob).Le (Hp.set b4 x) := by
 have hl : (putB H0 sz X ob).Le Hp := fun k o hk => by
  cases ob with
  | none => exact h.le _ _ (hle _ _ hk)
  | some b =>
   by_cases e : k = b
   ·subst e
    have : (H0.set k (.vec sz X)) k = some o := hk
    rw [heap_same] at this
    cases this; exact h.eo
   ·have : (H0.set b (.vec sz X)) k = some o := hk
    rw [heap_ne _ e] at this
    exact h.le _ _ (hle _ _ this)
 intro k o hk
 have : k ≠ b4 := fun e => by
  subst e
  have g := hl _ _ hk
  cases ob with
  | none => (have hk : H0 k = some o := hk); rw [h4] at hk; cases hk
  | some b =>
   by_cases e : k = b
   ·subst e
    have := h.eo.some_of rfl
    rw [e4] at this; cases this
   ·have h1 : (H0.set b (.vec sz X)) k = some o := hk
    rw [heap_ne _ e, h4] at h1; cases h1
 rw [heap_ne _ this]; exact hl _ _ hk
end Go.Av
namespace Go.Lin
open Go Go.Av Go.Lexs
theorem timesT_snoc (a : LinV) (n : Int) (i : Nat) (h : i < a.t.length) (hn : n ≠ 0) : (timesL ⟨a.t.take (i + 1), a.k, a.e⟩ n).t = (timesL ⟨a.t.take i, a.k, a.e⟩ n).t ++ [⟨a.t[i].v, a.t[i].c * n⟩] := by
 unfold timesL
 simp only [if_neg hn]
 rw [List.take_succ_eq_append_getElem h, List.map_append, List.map_cons]; rfl
theorem timesT_len (a : LinV) (n : Int) (i : Nat) : (timesL ⟨a.t.take i, a.k, a.e⟩ n).t.length ≤ a.t.length := by
 unfold timesL
 simp only
 split
 ·exact Nat.zero_le _
 ·rw [List.length_map, List.length_take]; omega
theorem timesT_zero (a : LinV) (n : Int) : (timesL ⟨a.t.take 0, a.k, a.e⟩ n).t = [] := by
 unfold timesL
 simp
theorem timesT_all (a : LinV) (n : Int) : (timesL ⟨a.t.take a.t.length, a.k, a.e⟩ n).t = (timesL a n).t := by rw [List.take_length]
theorem agg_nil (sz : Nat) (ds : List D) : NilR (.agg (.nilsl :: ds)) (.agg (.sl sz [] :: ds)) := by
 refine .agg _ _ rfl fun i d d' h1 h2 => ?_
 match i with
 | 0 => cases h1; cases h2; exact .nil _
 | i + 1 => simp only [List.getElem?_cons_succ] at h1 h2; rw [h1] at h2; cases h2; exact .same _
theorem Fin.aggO {Q : D → Heap → Prop} {ds : List D} {H : Heap} {n sz : Nat} {es : List (List D)} {ob : Option Nat} (h0 : ob = none → es = []) (hb : ∀ b, ob = some b → H b = none) (hn : n = es.length) (h : Q (.agg (.sl sz es :: ds)) H) : Fin Q (.agg (outG sz n ob :: ds)) (putB H sz es ob) := by
 cases ob with
 | none => rw [h0 rfl] at h; exact Fin.nilR (agg_nil sz ds) (Fin.same h)
 | some b =>
  refine Fin.freezeH (heap_same _ _) hn (Fin.same ?_)
  show Q _ ((H.set b (.vec sz es)).del b)
  rw [set_del (hb b rfl)]; exact h
end Go.Lin
namespace Go.Proofs.YtacekpdodelnbaaGreatDoor
open Go Go.Av Go.Lexs Go.Lin
attribute [local irreducible] ACalls at8
theorem times_o {Q} (a : LinV) (fa : LinFit a) (n : Int) (hk : (a.k * n).natAbs ≤ 4611686018427387904) (ht : ∀ t ∈ a.t, (t.c * n).natAbs ≤ 4611686018427387904) (H : Heap)
  (h : ∀ ob : Option Nat, (ob = none → Rw ltC (timesL a n).t = []) → (∀ b, ob = some b → H b = none) → Q (.agg [outG 2 (timesL a n).t.length ob, .int .i64 (a.k * n), .bool a.e]) (putB H 2 (Rw ltC (timesL a n).t) ob)) :
  ACalls Tryz.prog 61 [.agg (linC a), .int .i64 n] H Q := by
 refine acalls_of_wp [] Tryz.mixed Tryz.func61 rfl (by kernel_rfl) (of_decide_eq_true (by kernel_rfl)) (by kernel_rfl) ?_
 simp only [go_sem,seval, Tryz.results61]
 intro b2 g2 b4 g4
 simp only [set_none] at g4
 have e2 : ((H.set b2 (.box (linC a))).set b4 (.box [.nilsl, .int .i64 0, .bool false])) b2 = some (.box (linC a)) := by rw [heap_ne _ g4.1.symm, heap_same]
 have e4 : ((H.set b2 (.box (linC a))).set b4 (.box [.nilsl, .int .i64 0, .bool false])) b4 = some (.box [.nilsl, .int .i64 0, .bool false]) := heap_same _ _
 have hle : H.Le ((H.set b2 (.box (linC a))).set b4 (.box [.nilsl, .int .i64 0, .bool false])) := (heap_le_set g2).trans (heap_le_set (by simp only [set_none]; exact g4))
 generalize (H.set b2 (.box (linC a))).set b4 (.box [.nilsl, .int .i64 0, .bool false]) = Bs at e2 e4 hle ⊢
 have hlen := fa.len
 have w1 : IntKind.i64.wrap (a.k * n) = a.k * n := wrap64 (by omega) (by omega)
 repeat' (first | with_reducible refine And.intro ?_ ?_ | simp only [go_sem,seval, e2, e4, w1] | simp (disch := omega) only [wrap64, Rw_at] | simp (disch := first | omega | grind) only [heap_ne_] | (intro hx_; try simp only [set_none] at hx_) | omega)
 rename_i b5
 have h5 := hx_
 clear hx_
 have f0 := BxI.start h5 2 [.int .i64 (a.k * n), .bool a.e]
 generalize Bs.set b5 (.box [.nilsl, .int .i64 (a.k * n), .bool a.e]) = Hq at f0 ⊢
 have e2q := f0.le _ _ e2
 repeat' (first | with_reducible refine And.intro ?_ ?_ | simp only [go_sem,seval, e2q] | simp (disch := omega) only [wrap64, Rw_at] | simp (disch := first | omega | grind) only [heap_ne_] | (intro hx_; try simp only [set_none] at hx_) | omega)
 refine loop_c [1, 4, 5, 16, 17] (fun (p : Nat × Option Nat × Heap) => [(18, .int .i64 p.1)]) (fun (p : Nat × Option Nat × Heap) => p.2.2) (fun (p : Nat × Option Nat × Heap) => p.1 ≤ a.t.length ∧ BxI Bs b5 2 (timesL ⟨a.t.take p.1, a.k, a.e⟩ n).t.length (Rw ltC (timesL ⟨a.t.take p.1, a.k, a.e⟩ n).t) [.int .i64 (a.k * n), .bool a.e] p.2.1 p.2.2) (fun (p : Nat × Option Nat × Heap) => a.t.length - p.1) ((0, none, Hq)) (⟨Nat.zero_le _, by rw [timesT_zero]; exact f0⟩) (by (try simp only [go_sem,seval]) <;> (try simp (disch := omega) [wrap64]) <;> (try omega)) (by first | with_reducible exact Heap.Le.refl _ | exact heap_set_le (by assumption) | exact Heap.Le.refl _ | exact heap_le_set (by assumption) | exact (by simp only [Go.Av.Heap.Le, Go.Av.Heap.set, Go.Av.Heap.del] at * <;> grind)) ?_
 clear f0 e2q h5
 rintro Ec rfl ⟨i, ob, Hp⟩ ⟨hi, fi⟩
 simp only at hi fi
 by_cases hlt : i < a.t.length
 ·have hkd : decide ((i : Int) < a.t.length) = true := decide_eq_true (by omega)
  have hti : (i : Int) < a.t.length := by omega
  have hm := ht _ (List.getElem_mem hlt)
  have w2 : IntKind.i64.wrap (a.t[i].c * n) = a.t[i].c * n := wrap64 (by omega) (by omega)
  by_cases hn : n = 0
  ·subst hn
   have hz : ∀ j, (timesL ⟨a.t.take j, a.k, a.e⟩ 0).t = [] := fun j => by unfold timesL; simp
   repeat' (first | with_reducible refine And.intro ?_ ?_ | simp only [go_sem,seval, hkd, hti, Rw_at _ _ hlt, Rw_get _ _ hlt, decide_true, Bool.not_true] | simp (disch := omega) only [wrap64, Rw_at] | simp (disch := first | omega | grind) only [heap_ne_] | (intro hx_; try simp only [set_none] at hx_) | omega)
   refine nx_mk (i + 1, ob, _) ⟨by simp only []; omega, ?_⟩ (by simp only []; omega) (by (try simp only [go_sem,seval]) <;> (try simp (disch := omega) [wrap64]) <;> (try omega)) (Heap.Le.refl _)
   simp only []
   rw [hz] at fi ⊢
   exact fi.up (heap_le_set (by assumption))
  ·have hl := timesT_len a n i
   have e5 := fi.ex
   have hnd : decide (n = 0) = false := decide_eq_false hn
   repeat' (first | with_reducible refine And.intro ?_ ?_ | simp only [go_sem,seval, hkd, hti, Rw_at _ _ hlt, Rw_get _ _ hlt, hnd, e5, w2] | simp (disch := omega) only [wrap64, Rw_at] | simp (disch := first | omega | grind) only [heap_ne_] | (intro hx_; try simp only [set_none] at hx_) | omega)
   ·rename_i b7 h7 bx
    have hbx := hx_
    clear hx_
    refine apS_z (P := Tryz.prog) (H0 := Hp.set b7 (.box [.str a.t[i].v, .int .i64 a.t[i].c])) (es := Rw ltC (timesL ⟨a.t.take i, a.k, a.e⟩ n).t) (by simp only [set_none]; exact hbx) (by simp) (fi.eo.up (heap_le_set h7)) (by rw [Rw_len]) (by simp only [List.length_cons, List.length_nil]; omega) (by simp only [List.length_cons, List.length_nil]; omega) fun b' H' hA => ?_
    have hY : Rw ltC (timesL ⟨a.t.take i, a.k, a.e⟩ n).t ++ [[D.str a.t[i].v, .int .i64 (a.t[i].c * n)]] = Rw ltC (timesL ⟨a.t.take (i + 1), a.k, a.e⟩ n).t := by rw [timesT_snoc a n i hlt hn, ← Rw_app]; rfl
    rw [hY] at hA
    obtain ⟨f1, e5'⟩ := fi.ap (m := (timesL ⟨a.t.take (i + 1), a.k, a.e⟩ n).t.length) (heap_le_set h7) hA
    have hlen1 : (timesL ⟨a.t.take i, a.k, a.e⟩ n).t.length + 1 = (timesL ⟨a.t.take (i + 1), a.k, a.e⟩ n).t.length := by rw [timesT_snoc a n i hlt hn]; simp
    repeat' (first | with_reducible refine And.intro ?_ ?_ | simp only [go_sem,seval, e5'] | simp (disch := omega) only [wrap64, Rw_at] | simp (disch := first | omega | grind) only [heap_ne_] | (intro hx_; try simp only [set_none] at hx_) | omega)
    rw [← hlen1] at f1
    refine nx_mk (i + 1, some b', _) ⟨by simp only []; omega, ?_⟩ (by simp only []; omega) (by (try simp only [go_sem,seval, out_some]) <;> (try simp (disch := omega) [wrap64]) <;> (try omega)) (Heap.Le.refl _)
    simp only []
    rw [← hlen1]; exact f1
 ·have hkd : decide ((i : Int) < a.t.length) = false := decide_eq_false (by omega)
  have hie : i = a.t.length := by omega
  subst hie
  have e5 := fi.ex
  have e4p := fi.le _ _ e4
  have o1 : (match outG 2 (timesL ⟨a.t.take a.t.length, a.k, a.e⟩ n).t.length ob with | D.undef => false | D.agg cs => false | D.tuple cs => false | x => true) = true := by cases ob <;> rfl
  repeat' (first | with_reducible refine And.intro ?_ ?_ | simp only [go_sem,seval, hkd, e5, e4p, o1] | simp (disch := omega) only [wrap64, Rw_at] | simp (disch := first | omega | grind) only [heap_ne_] | (intro hx_; try simp only [set_none] at hx_) | omega)
  rw [timesT_all] at fi ⊢
  refine Fin.less (fun k o hk => ?_) (h ob (fun e => ?_) (fun b e => hle.none (fi.no b e)))
  ·exact fi.putr hle g4.2 e4p k o hk
  ·rw [e] at fi; exact fi.eo
theorem times_f {Q} (a : LinV) (fa : LinFit a) (n : Int) (hk : (a.k * n).natAbs ≤ 4611686018427387904) (ht : ∀ t ∈ a.t, (t.c * n).natAbs ≤ 4611686018427387904) (H : Heap) (h : Q (.agg (linC (timesL a n))) H) : ACalls Tryz.prog 61 [.agg (linC a), .int .i64 n] H Q :=
 ACalls.fin (times_o a fa n hk ht H fun ob h0 hb => Fin.aggO h0 hb (by rw [Rw_len]) h)
end Go.Proofs.YtacekpdodelnbaaGreatDoor
end
section
namespace Go.Av
def flatT : D → Bool
 | .tuple ds => ds.all flatD
 | d => flatD d
theorem flat_R {w : World} {H H' : Heap} {d : D} {v : Value} (hf : flatD d = true) (hr : R w H d v) : R w H' d v := by
 cases hr <;> first | (cases hf; done) | constructor
theorem flatT_R {w : World} {H H' : Heap} {d : D} {v : Value} (hf : flatT d = true) (hr : R w H d v) : R w H' d v := by
 cases hr with
 | tuple ds vs hl hr => exact .tuple ds vs hl fun i d hd => flat_R (List.all_eq_true.1 hf d (List.mem_of_getElem? hd)) (hr i d hd)
 | _ => first | (cases hf; done) | constructor
theorem post_subT {H Hc : Heap} {w w' : World} {K : D → Heap → Prop} {v : Value} (hs : Sat H w) (hle : Hc.Le H) (h : Post Hc w (fun d _ => flatT d = true ∧ K d (H.sub Hc)) v w') : Post H w K v w' := by
 obtain ⟨d, H1, hr, hs1, he, hf, hfl, hk⟩ := h
 have heH : Ext H w w' := ⟨he.os, he.tape, he.output, he.size, fun k hk hn => he.block k hk (hle.held hn), he.shape⟩
 have hfH : From w H (H.sub Hc) := fun k hk hn => (sub_le H Hc).held hn
 refine ⟨d, H.sub Hc, flatT_R hfl hr, fun b o hb => ?_, heH, hfH, hk⟩
 have hc : Hc.held b = false := by
  unfold Heap.sub at hb
  split at hb
  ·cases hb
  ·rename_i h; simpa using h
 have hb' := sub_le H Hc b o hb
 exact (hs b o hb').mono heH hfH (he.block b (hs.lt hb') hc)
theorem ACalls.lendT {P : Program} {f : Nat} {args args' : List D} {H : Heap} {Q : D → Heap → Prop} (hl : args.length = args'.length) (hv : ∀ (i : Nat) d d', args[i]? = some d → args'[i]? = some d' → View H d d')
  (h : ACalls P f args' (roH H) (fun d _ => flatT d = true ∧ Q d H)) : ACalls P f args H Q := by
 refine ⟨h.1, fun w vs h1 h2 h3 => ?_⟩
 refine (h.2 w vs (by omega) (fun i d' hd' => ?_) (h3.less (roH_le H))).mono fun e w' ⟨v, he, hp⟩ => ⟨v, he, post_subT h3 (roH_le H) (by rw [sub_ro]; exact hp)⟩
 obtain ⟨d, hd⟩ := get_of_len hl hd'
 exact (hv i d d' hd hd').R h3 (h2 i d hd)
theorem View.aggO {H : Heap} {n sz : Nat} {es : List (List D)} {ob : Option Nat} {ds : List D} (hn : n = es.length) (ho : OutAt H sz es ob) : View H (.agg (outG sz n ob :: ds)) (.agg (.sl sz es :: ds)) := by
 refine .agg _ _ rfl fun i d d' h1 h2 => ?_
 match i with
 | 0 =>
  cases h1; cases h2
  cases ob with
  | none => rw [show es = [] from ho]; exact .nil sz
  | some b => exact .vec b sz n es es ho hn rfl (fun i e e' h1 h2 => by rw [h1] at h2; cases h2; rfl) (fun i e e' j d d' h1 h2 h3 h4 => by rw [h1] at h2; cases h2; rw [h3] at h4; cases h4; exact .same _)
 | i + 1 => simp only [List.getElem?_cons_succ] at h1 h2; rw [h1] at h2; cases h2; exact .same _
theorem ACalls.lendA {P : Program} {f n sz : Nat} {es : List (List D)} {ob : Option Nat} {ds rs : List D} {H : Heap} {Q : D → Heap → Prop} (hn : n = es.length) (ho : OutAt H sz es ob) (h : ACalls P f (.agg (.sl sz es :: ds) :: rs) (roH H) (fun d _ => flatT d = true ∧ Q d H)) :
  ACalls P f (.agg (outG sz n ob :: ds) :: rs) H Q := by
 refine ACalls.lendT (args' := .agg (.sl sz es :: ds) :: rs) rfl (fun i d d' h1 h2 => ?_) h
 match i with
 | 0 => cases h1; cases h2; exact View.aggO hn ho
 | i + 1 => simp only [List.getElem?_cons_succ] at h1 h2; rw [h1] at h2; cases h2; exact .same _
end Go.Av
end
section
set_option maxRecDepth 20000
namespace Go.Lin
open Go Go.Av Go.Lexs
theorem Fin.aggT {Q : D → Heap → Prop} {ds : List D} {x : D} {H : Heap} {b sz n : Nat} {es : List (List D)} (hb : H b = some (.vec sz es)) (hn : n = es.length) (h : Fin Q (.tuple [.agg (.sl sz es :: ds), x]) (H.del b)) : Fin Q (.tuple [.agg (.vec b sz 0 n :: ds), x]) H := by
 subst hn
 refine Fin.freezeT hb (by simp) (fun i d d' h1 h2 => ?_) h
 match i with
 | 0 => cases h1; cases h2; exact .all
 | i + 1 =>
  simp only [List.getElem?_cons_succ] at h1 h2
  rw [h1] at h2; cases h2; exact .same _
theorem lin_o1 (sz n : Nat) (ob : Option Nat) : (match outG sz n ob with | D.undef => false | D.agg cs => false | D.tuple cs => false | x => true) = true := by cases ob <;> rfl
def OwnQ (Q : D → Heap → Prop) (H : Heap) (r : LinV × Int) : Prop := ∀ ob : Option Nat, (ob = none → Rw ltC r.1.t = []) → (∀ b, ob = some b → H b = none) →
 Q (.tuple [.agg [outG 2 r.1.t.length ob, .int .i64 r.1.k, .bool r.1.e], .int .i64 r.2]) (putB H 2 (Rw ltC r.1.t) ob)
theorem OwnQ.nil {Q : D → Heap → Prop} {H : Heap} {n : Int} (h : OwnQ Q H (nilL, n)) : Q (.tuple [.agg [.nilsl, .int .i64 0, .bool false], .int .i64 n]) H := h none (fun _ => rfl) (by simp)
theorem le_set4 {H Bs : Heap} {b : Nat} {x : Go.Av.Obj} (hle : H.Le Bs) (h : H b = none) : H.Le (Bs.set b x) := fun k o hk => by
 rw [heap_ne _ (fun e => by rw [e, h] at hk; cases hk)]; exact hle _ _ hk
theorem putB_to {H H' : Heap} {sz : Nat} {X : List (List D)} {ob : Option Nat} (h : H.Le H') : (putB H sz X ob).Le (putB H' sz X ob) := by
 cases ob with
 | none => exact h
 | some b =>
  intro k o hk
  show (H'.set b (.vec sz X)) k = _
  by_cases e : k = b
  ·subst e
   have : (H.set k (.vec sz X)) k = some o := hk
   rw [heap_same] at this ⊢; exact this
  ·have : (H.set b (.vec sz X)) k = some o := hk
   rw [heap_ne _ e] at this ⊢; exact h _ _ this
theorem putB_set {H H' : Heap} {sz : Nat} {X : List (List D)} {ob : Option Nat} {b : Nat} {x : Go.Av.Obj} (h : (putB H sz X ob).Le H') (hb : H b = none) (hn : ob ≠ some b) : (putB H sz X ob).Le (H'.set b x) := fun k o hk => by
 have : k ≠ b := by
  rintro rfl
  cases ob with
  | none => (have hk : H k = some o := hk); rw [hb] at hk; cases hk
  | some c =>
   have hc : k ≠ c := fun e => hn (by rw [e])
   have hk : (H.set c (.vec sz X)) k = some o := hk
   rw [heap_ne _ hc, hb] at hk; cases hk
 rw [heap_ne _ this]; exact h _ _ hk
end Go.Lin
namespace Go.Proofs.YtacekpdodelnbaaGreatDoor
open Go Go.Av Go.Lexs Go.Lin
attribute [local irreducible] ACalls at8
theorem own_fin {Q : D → Heap → Prop} {H : Heap} {r : LinV × Int} (h : Q (.tuple [.agg (linC r.1), .int .i64 r.2]) H) : OwnQ (Fin Q) H r := fun ob h0 hb => by
 obtain ⟨⟨T, K, E⟩, n⟩ := r
 cases ob with
 | none =>
  have hz : T = [] := List.eq_nil_of_length_eq_zero (by have := congrArg List.length (h0 rfl); rwa [Rw_len] at this)
  subst hz
  exact Fin.nilR (nil_lin K n E) (Fin.same h)
 | some b => exact Fin.aggT (heap_same _ _) (by rw [Rw_len]) (Fin.same (by show Q _ ((H.set b _).del b); rw [set_del (hb b rfl)]; exact h))
theorem limited_o {Q} (a : LinV) (fa : LinFit a) (ob : Option Nat) (H : Heap) (ho : OutAt H 2 (Rw ltC a.t) ob)
  (h1 : validL a = true → Q (.tuple [.agg [outG 2 a.t.length ob, .int .i64 a.k, .bool a.e], .int .i64 0]) H) (h2 : validL a = false → Q (.tuple [.agg [.nilsl, .int .i64 0, .bool false], .int .i64 3]) H) :
  ACalls Tryz.prog 58 [.agg [outG 2 a.t.length ob, .int .i64 a.k, .bool a.e]] H Q := by
 refine acalls_of_wp [] Tryz.mixed Tryz.func58 rfl (by kernel_rfl) (of_decide_eq_true (by kernel_rfl)) (by kernel_rfl) ?_
 simp only [go_sem,seval, Tryz.results58]
 have o1 := lin_o1 2 a.t.length ob
 refine ⟨o1, ?_⟩
 intro b1 g1 b2 g2
 have g2' : (H.set b1 (.box [outG 2 a.t.length ob, .int .i64 a.k, .bool a.e])) b2 = none := g2
 have f0 : H.Le (H.set b1 (.box [outG 2 a.t.length ob, .int .i64 a.k, .bool a.e])) := heap_le_set g1
 have e1 := (heap_le_set (o := .box [.nilsl, .int .i64 0, .bool false]) g2') _ _ (heap_same b1 (.box [outG 2 a.t.length ob, .int .i64 a.k, .bool a.e]))
 have e2 : ((H.set b1 (.box [outG 2 a.t.length ob, .int .i64 a.k, .bool a.e])).set b2 (.box [.nilsl, .int .i64 0, .bool false])) b2 = some (.box [.nilsl, .int .i64 0, .bool false]) := heap_same _ _
 have g2h : H b2 = none := f0.none g2'
 have hle := f0.trans (heap_le_set (o := .box [.nilsl, .int .i64 0, .bool false]) g2')
 generalize (H.set b1 (.box [outG 2 a.t.length ob, .int .i64 a.k, .bool a.e])).set b2 (.box [.nilsl, .int .i64 0, .bool false]) = Bs at e1 e2 hle ⊢
 have hls : ∀ x, H.Le (Bs.set b2 x) := fun x => le_set4 hle g2h
 have vc : ∀ (Q : D → Heap → Prop), Q (.bool (validL a)) Bs → ACalls Tryz.prog 15 [.agg [outG 2 a.t.length ob, .int .i64 a.k, .bool a.e]] Bs Q := fun Q hq => ACalls.lendA (by rw [Rw_len]) (ho.up hle) (valid_a a fa _ ⟨rfl, hq⟩)
 cases hv : validL a with
 | true =>
  rw [hv] at vc
  repeat' (first | with_reducible refine And.intro ?_ ?_ | simp only [go_sem,seval, e1, e2, o1] | intro hx_ | with_reducible refine vc _ ?_ | omega)
  exact Fin.less (hls _) (h1 hv)
 | false =>
  rw [hv] at vc
  repeat' (first | with_reducible refine And.intro ?_ ?_ | simp only [go_sem,seval, e1, e2, o1] | intro hx_ | with_reducible refine vc _ ?_ | omega)
  exact Fin.less (hls _) (h2 hv)
end Go.Proofs.YtacekpdodelnbaaGreatDoor
end
section
set_option maxRecDepth 20000
namespace Go.Lin
open Go Go.Av Go.Lexs
theorem times_fit {a : LinV} (fa : LinFit a) {n : Int} (hk : (a.k * n).natAbs ≤ 4611686018427387904) (ht : ∀ t ∈ a.t, (t.c * n).natAbs ≤ 4611686018427387904) : LinFit (timesL a n) := by
 unfold timesL
 refine ⟨?_, fun t h => ?_, fun t h => ?_, by unfold i64; simp only; omega⟩ <;> simp only at *
 ·split
  ·simp
  ·rw [List.length_map]; exact fa.len
 ·split at h
  ·cases h
  ·obtain ⟨x, hx, rfl⟩ := List.mem_map.1 h; exact fa.str x hx
 ·split at h
  ·cases h
  ·obtain ⟨x, hx, rfl⟩ := List.mem_map.1 h
   have := ht x hx
   unfold i64; simp only; omega
theorem times_in {a : LinV} (h : validL a = true) {n : Int} (hn : n.natAbs ≤ 1048576) : (a.k * n).natAbs ≤ 1152921504606846976 ∧ ∀ t ∈ a.t, (t.c * n).natAbs ≤ 1152921504606846976 := by
 have h1 := valid_ok h
 refine ⟨?_, fun t ht => ?_⟩
 ·rw [Int.natAbs_mul]
  exact Nat.le_trans (Nat.mul_le_mul h1.k hn) (by decide)
 ·rw [Int.natAbs_mul]
  have := (okAt_mem h1.t t ht).2.2
  exact Nat.le_trans (Nat.mul_le_mul (show t.c.natAbs ≤ 1048576 by omega) hn) (by decide)
theorem putB_get {H : Heap} {sz : Nat} {X : List (List D)} {ob : Option Nat} (h : ∀ b, ob = some b → H b = none) {k : Nat} {o : Go.Av.Obj} (hk : H k = some o) : (putB H sz X ob) k = some o := by
 cases ob with
 | none => exact hk
 | some b => show (H.set b _) k = _; rw [heap_ne _ (fun e => by have := h b rfl; rw [← e, hk] at this; cases this)]; exact hk
theorem ob_ne {H : Heap} {ob : Option Nat} (h : ∀ b, ob = some b → H b = none) {k : Nat} {o : Go.Av.Obj} (hk : H k = some o) : ob ≠ some k := fun e => by have := h k e; rw [hk] at this; cases this
end Go.Lin
namespace Go.Proofs.YtacekpdodelnbaaGreatDoor
open Go Go.Av Go.Lexs Go.Lin
attribute [local irreducible] ACalls at8
theorem mul_o {Q} (a : LinV) (fa : LinFit a) (n : Int) (H : Heap) (h : OwnQ Q H (timesR a n)) : ACalls Tryz.prog 21 [.agg (linC a), .int .i64 n] H Q := by
 refine acalls_of_wp [(3, .wk), (5, .wk)] Tryz.mixed Tryz.func21 rfl (by kernel_rfl) (of_decide_eq_true (by kernel_rfl)) (by kernel_rfl) ?_
 simp only [go_sem,seval, Tryz.results21]
 intro b2 g2 b4 g4
 simp only [set_none] at g4
 have e2 : ((H.set b2 (.box (linC a))).set b4 (.box [.nilsl, .int .i64 0, .bool false])) b2 = some (.box (linC a)) := by rw [heap_ne _ g4.1.symm, heap_same]
 have e4 : ((H.set b2 (.box (linC a))).set b4 (.box [.nilsl, .int .i64 0, .bool false])) b4 = some (.box [.nilsl, .int .i64 0, .bool false]) := heap_same _ _
 have hle : H.Le ((H.set b2 (.box (linC a))).set b4 (.box [.nilsl, .int .i64 0, .bool false])) := (heap_le_set g2).trans (heap_le_set (by simp only [set_none]; exact g4))
 have g4' := g4.2
 clear g4
 generalize (H.set b2 (.box (linC a))).set b4 (.box [.nilsl, .int .i64 0, .bool false]) = Bs at e2 e4 hle ⊢
 have hls : ∀ x, H.Le (Bs.set b4 x) := fun x => le_set4 hle g4'
 by_cases c : validL a = true
 ·by_cases w : within n 1048576 = true
  ·have wn : n.natAbs ≤ 1048576 := by unfold within at w; simp only [Bool.and_eq_true, decide_eq_true_eq] at w; omega
   obtain ⟨t1, t2⟩ := times_in c wn
   have fm := times_fit fa (n := n) (by omega) (fun t ht => by have := t2 t ht; omega)
   by_cases bad : n < 0 ∧ a.e = false
   ·have e : timesR a n = (nilL, 5) := by unfold timesR; rw [if_pos ⟨c, w⟩, if_pos bad]
    rw [e] at h
    obtain ⟨T, K, E⟩ := a
    obtain ⟨n0, ae⟩ := bad
    change E = false at ae
    subst ae
    repeat' (first | with_reducible refine And.intro ?_ ?_ | simp only [go_sem,seval, e2, e4, c, w] | (intro hx_; try simp only [set_none] at hx_) | with_reducible refine valid_a _ fa _ ?_ | with_reducible refine within_a _ _ (by omega) (by omega) _ ?_ | omega)
    refine wk_mk [(1, .int .i64 n), (2, .box b2 0), (4, .box b4 0)] Bs (by (try simp only [go_sem,seval]) <;> (try simp (disch := omega) [wrap64]) <;> (try omega)) (Heap.Le.refl _) ?_
    repeat' (first | with_reducible refine And.intro ?_ ?_ | simp only [go_sem,seval, e2, e4, n0] | (intro hx_; try simp only [set_none] at hx_) | omega)
    exact Fin.less (hls _) h.nil
   ·have e : timesR a n = limitedL (timesL a n) := by unfold timesR; rw [if_pos ⟨c, w⟩, if_neg bad]
    rw [e] at h
    apply tail_join (C := True)
    ·intro hJ
     by_cases n0 : n < 0
     ·have ae : a.e = true := by
       cases he : a.e with
       | true => rfl
       | false => exact absurd ⟨n0, he⟩ bad
      repeat' (first | with_reducible refine And.intro ?_ ?_ | simp only [go_sem,seval, e2, e4, c, w] | (intro hx_; try simp only [set_none] at hx_) | with_reducible refine valid_a a fa _ ?_ | with_reducible refine within_a _ _ (by omega) (by omega) _ ?_ | omega)
      refine wk_mk [(1, .int .i64 n), (2, .box b2 0), (4, .box b4 0)] Bs (by (try simp only [go_sem,seval]) <;> (try simp (disch := omega) [wrap64]) <;> (try omega)) (Heap.Le.refl _) ?_
      repeat' (first | with_reducible refine And.intro ?_ ?_ | simp only [go_sem,seval, e2, n0, ae] | (intro hx_; try simp only [set_none] at hx_) | omega)
      exact wk_mk [(1, .int .i64 n), (2, .box b2 0), (4, .box b4 0)] Bs (by (try simp only [go_sem,seval]) <;> (try simp (disch := omega) [wrap64]) <;> (try omega)) (Heap.Le.refl _) (hJ trivial)
     ·repeat' (first | with_reducible refine And.intro ?_ ?_ | simp only [go_sem,seval, e2, e4, c, w] | (intro hx_; try simp only [set_none] at hx_) | with_reducible refine valid_a a fa _ ?_ | with_reducible refine within_a _ _ (by omega) (by omega) _ ?_ | omega)
      refine wk_mk [(1, .int .i64 n), (2, .box b2 0), (4, .box b4 0)] Bs (by (try simp only [go_sem,seval]) <;> (try simp (disch := omega) [wrap64]) <;> (try omega)) (Heap.Le.refl _) ?_
      repeat' (first | with_reducible refine And.intro ?_ ?_ | simp only [go_sem,seval, e2, n0] | (intro hx_; try simp only [set_none] at hx_) | omega)
      exact wk_mk [(1, .int .i64 n), (2, .box b2 0), (4, .box b4 0)] Bs (by (try simp only [go_sem,seval]) <;> (try simp (disch := omega) [wrap64]) <;> (try omega)) (Heap.Le.refl _) (hJ trivial)
    intro _
    repeat' (first | with_reducible refine And.intro ?_ ?_ | simp only [go_sem,seval, e2] | (intro hx_; try simp only [set_none] at hx_) | omega)
    refine times_o a fa n (by omega) (fun t ht => by have := t2 t ht; omega) _ fun ob h0 hb => ?_
    have o1 := lin_o1 2 (timesL a n).t.length ob
    have e4p := putB_get hb (sz := 2) (X := Rw ltC (timesL a n).t) e4
    have hls2 : ∀ x, (putB H 2 (Rw ltC (timesL a n).t) ob).Le ((putB Bs 2 (Rw ltC (timesL a n).t) ob).set b4 x) := fun x => putB_set (putB_to hle) g4' (ob_ne hb e4)
    repeat' (first | with_reducible refine And.intro ?_ ?_ | simp only [go_sem,seval] | (intro hx_; try simp only [set_none] at hx_) | omega)
    refine limited_o (timesL a n) fm ob _ (outAt_put h0) (fun hv => ?_) (fun hv => ?_)
    ·have el : limitedL (timesL a n) = (timesL a n, 0) := if_pos hv
     rw [el] at h
     repeat' (first | with_reducible refine And.intro ?_ ?_ | simp only [go_sem,seval, e4p, o1] | (intro hx_; try simp only [set_none] at hx_) | omega)
     exact Fin.less (hls2 _) (h ob h0 fun b e => hle.none (hb b e))
    ·have el : limitedL (timesL a n) = (nilL, 3) := if_neg (by rw [hv]; decide)
     rw [el] at h
     repeat' (first | with_reducible refine And.intro ?_ ?_ | simp only [go_sem,seval, e4p] | (intro hx_; try simp only [set_none] at hx_) | omega)
     exact Fin.less (fun k o hk => hls2 _ k o (putB_get (fun b e => hle.none (hb b e)) hk)) h.nil
  ·have w : within n 1048576 = false := by simpa using w
   have e : timesR a n = (nilL, 2) := by unfold timesR; rw [if_neg (by rw [w]; simp)]
   rw [e] at h
   repeat' (first | with_reducible refine And.intro ?_ ?_ | simp only [go_sem,seval, e2, e4, c, w] | (intro hx_; try simp only [set_none] at hx_) | with_reducible refine valid_a a fa _ ?_ | with_reducible refine within_a _ _ (by omega) (by omega) _ ?_ | omega)
   exact Fin.less (hls _) h.nil
 ·have c : validL a = false := by simpa using c
  have e : timesR a n = (nilL, 2) := by unfold timesR; rw [if_neg (by rw [c]; simp)]
  rw [e] at h
  repeat' (first | with_reducible refine And.intro ?_ ?_ | simp only [go_sem,seval, e2, e4, c] | (intro hx_; try simp only [set_none] at hx_) | with_reducible refine valid_a a fa _ ?_ | omega)
  exact Fin.less (hls _) h.nil
theorem mulL_a {Q} (a : LinV) (fa : LinFit a) (n : Int) (H : Heap) (h : Q (.tuple [.agg (linC (timesR a n).1), .int .i64 (timesR a n).2]) H) : ACalls Tryz.prog 21 [.agg (linC a), .int .i64 n] H Q :=
 ACalls.fin (mul_o a fa n H (own_fin h))
theorem negate_o {Q} (a : LinV) (fa : LinFit a) (H : Heap) (h : OwnQ Q H (negateR a)) : ACalls Tryz.prog 23 [.agg (linC a)] H Q := by
 refine acalls_of_wp [] Tryz.mixed Tryz.func23 rfl (by kernel_rfl) (of_decide_eq_true (by kernel_rfl)) (by kernel_rfl) ?_
 simp only [go_sem,seval, Tryz.results23]
 intro b2 g2 b4 g4
 simp only [set_none] at g4
 have e2 : ((H.set b2 (.box (linC a))).set b4 (.box [.nilsl, .int .i64 0, .bool false])) b2 = some (.box (linC a)) := by rw [heap_ne _ g4.1.symm, heap_same]
 have e4 : ((H.set b2 (.box (linC a))).set b4 (.box [.nilsl, .int .i64 0, .bool false])) b4 = some (.box [.nilsl, .int .i64 0, .bool false]) := heap_same _ _
 have hle : H.Le ((H.set b2 (.box (linC a))).set b4 (.box [.nilsl, .int .i64 0, .bool false])) := (heap_le_set g2).trans (heap_le_set (by simp only [set_none]; exact g4))
 have g4' := g4.2
 clear g4
 generalize (H.set b2 (.box (linC a))).set b4 (.box [.nilsl, .int .i64 0, .bool false]) = Bs at e2 e4 hle ⊢
 have hls : ∀ x, H.Le (Bs.set b4 x) := fun x => le_set4 hle g4'
 by_cases c : validL a = true
 ·obtain ⟨T, K, E⟩ := a
  cases E with
  | true =>
   have e : negateR ⟨T, K, true⟩ = (nilL, 5) := by unfold negateR; rw [if_pos c, if_pos rfl]
   rw [e] at h
   repeat' (first | with_reducible refine And.intro ?_ ?_ | simp only [go_sem,seval, e2, e4, c] | simp (disch := omega) only [wrap64] | (intro hx_; try simp only [set_none] at hx_) | with_reducible refine valid_a _ fa _ ?_ | omega)
   exact Fin.less (hls _) h.nil
  | false =>
   have e : negateR ⟨T, K, false⟩ = limitedL (negL ⟨T, K, false⟩) := by unfold negateR; rw [if_pos c, if_neg (by simp)]
   rw [e] at h
   obtain ⟨t1, t2⟩ := times_in c (n := -1) (by decide)
   have t1' : (K * -1).natAbs ≤ 1152921504606846976 := t1
   have fm := times_fit fa (n := -1) (by omega) (fun t ht => by have := t2 t ht; omega)
   have fn : LinFit (negL ⟨T, K, false⟩) := ⟨fm.len, fm.str, fm.co, by show i64 (K * -1 - 1); unfold i64; omega⟩
   repeat' (first | with_reducible refine And.intro ?_ ?_ | simp only [go_sem,seval, e2, e4, c] | simp (disch := omega) only [wrap64] | (intro hx_; try simp only [set_none] at hx_) | with_reducible refine valid_a _ fa _ ?_ | omega)
   refine times_o ⟨T, K, false⟩ fa (-1) (by omega) (fun t ht => by have := t2 t ht; omega) _ fun ob h0 hb => ?_
   obtain ⟨k1, hk1⟩ : ∃ k1, k1 = K * -1 := ⟨_, rfl⟩
   have hN : negL ⟨T, K, false⟩ = ⟨(timesL ⟨T, K, false⟩ (-1)).t, k1 - 1, false⟩ := by rw [hk1]; rfl
   rw [hN] at fn h
   simp only []
   rw [← hk1] at t1' ⊢
   generalize (timesL ⟨T, K, false⟩ (-1)).t = M at h0 fn h ⊢
   have w1 : IntKind.i64.wrap (k1 - 1) = k1 - 1 := wrap64 (by omega) (by omega)
   have o1 := lin_o1 2 M.length ob
   have e4p := putB_get hb (sz := 2) (X := Rw ltC M) e4
   have hls2 : (putB H 2 (Rw ltC M) ob).Le (putB Bs 2 (Rw ltC M) ob) := putB_to hle
   have ho := outAt_put (H := Bs) (sz := 2) h0
   have hbH : ∀ b, ob = some b → H b = none := fun b e => hle.none (hb b e)
   have hnb := ob_ne hb e4
   have hHp : H.Le (putB Bs 2 (Rw ltC M) ob) := fun k o hk => hls2 k o (putB_get hbH hk)
   generalize putB Bs 2 (Rw ltC M) ob = Hp at e4p hls2 ho hHp ⊢
   repeat' (first | with_reducible refine And.intro ?_ ?_ | simp only [go_sem,seval, w1, o1] | simp (disch := omega) only [wrap64] | (intro hx_; try simp only [set_none] at hx_) | omega)
   rename_i b7
   have h7 := hx_
   clear hx_
   have u7 := heap_le_set (o := .box [outG 2 M.length ob, .int .i64 (k1 - 1), .bool false]) h7
   have e4q := u7 _ _ e4p
   have hoq := ho.up u7
   have hls3 := hls2.trans u7
   have hHq := hHp.trans u7
   generalize Hp.set b7 (.box [outG 2 M.length ob, .int .i64 (k1 - 1), .bool false]) = Hq at e4q hoq hls3 hHq ⊢
   refine limited_o ⟨M, k1 - 1, false⟩ fn ob _ hoq (fun hv => ?_) (fun hv => ?_)
   ·have el : limitedL ⟨M, k1 - 1, false⟩ = (⟨M, k1 - 1, false⟩, 0) := if_pos hv
    rw [el] at h
    repeat' (first | with_reducible refine And.intro ?_ ?_ | simp only [go_sem,seval, e4q, o1] | simp (disch := omega) only [wrap64] | (intro hx_; try simp only [set_none] at hx_) | omega)
    exact Fin.less (putB_set hls3 g4' hnb) (h ob h0 hbH)
   ·have el : limitedL ⟨M, k1 - 1, false⟩ = (nilL, 3) := if_neg (by rw [hv]; decide)
    rw [el] at h
    repeat' (first | with_reducible refine And.intro ?_ ?_ | simp only [go_sem,seval, e4q] | simp (disch := omega) only [wrap64] | (intro hx_; try simp only [set_none] at hx_) | omega)
    exact Fin.less (le_set4 hHq g4') h.nil
 ·have c : validL a = false := by simpa using c
  have e : negateR a = (nilL, 2) := by unfold negateR; rw [if_neg (by rw [c]; simp)]
  rw [e] at h
  repeat' (first | with_reducible refine And.intro ?_ ?_ | simp only [go_sem,seval, e2, e4, c] | simp (disch := omega) only [wrap64] | (intro hx_; try simp only [set_none] at hx_) | with_reducible refine valid_a a fa _ ?_ | omega)
  exact Fin.less (hls _) h.nil
theorem negateL_a {Q} (a : LinV) (fa : LinFit a) (H : Heap) (h : Q (.tuple [.agg (linC (negateR a).1), .int .i64 (negateR a).2]) H) : ACalls Tryz.prog 23 [.agg (linC a)] H Q :=
 ACalls.fin (negate_o a fa H (own_fin h))
end Go.Proofs.YtacekpdodelnbaaGreatDoor
end
section
set_option maxRecDepth 20000
namespace Go.Av
end Go.Av
namespace Go.Lin
open Go Go.Av Go.Lexs
theorem gcdL_snoc (l : List LTm) (t : LTm) : gcdL (l ++ [t]) = Nat.gcd t.c.natAbs (gcdL l) := by
 unfold gcdL; rw [List.foldl_append]; rfl
theorem gcdL_take (l : List LTm) (i : Nat) (h : i < l.length) : gcdL (l.take (i + 1)) = Nat.gcd l[i].c.natAbs (gcdL (l.take i)) := by
 rw [List.take_succ_eq_append_getElem h, gcdL_snoc]
theorem gcdL_dvd {l : List LTm} : ∀ t ∈ l, (gcdL l : Int) ∣ t.c := by
 have key : ∀ (l : List LTm) (g : Nat), (l.foldl (fun g t => Nat.gcd t.c.natAbs g) g ∣ g) ∧ ∀ t ∈ l, l.foldl (fun g t => Nat.gcd t.c.natAbs g) g ∣ t.c.natAbs := by
  intro l
  induction l with
  | nil => intro g; exact ⟨Nat.dvd_refl _, fun t h => by cases h⟩
  | cons x l ih =>
   intro g
   obtain ⟨h1, h2⟩ := ih (Nat.gcd x.c.natAbs g)
   refine ⟨Nat.dvd_trans h1 (Nat.gcd_dvd_right _ _), fun t ht => ?_⟩
   rcases List.mem_cons.1 ht with rfl | ht
   ·exact Nat.dvd_trans h1 (Nat.gcd_dvd_left _ _)
   ·exact h2 t ht
 intro t ht
 exact Int.ofNat_dvd_left.2 ((key l 0).2 t ht)
theorem gcdL_le {l : List LTm} {m : Nat} (h : ∀ t ∈ l, t.c ≠ 0 ∧ t.c.natAbs ≤ m) : gcdL l ≤ m := by
 cases l with
 | nil => exact Nat.zero_le _
 | cons t l =>
  have h1 := h t (List.mem_cons_self ..)
  have h2 := gcdL_dvd (l := t :: l) t (List.mem_cons_self ..)
  have h3 := Int.ofNat_dvd_left.1 h2
  exact Nat.le_trans (Nat.le_of_dvd (by omega) h3) h1.2
theorem gcdL_pos {l : List LTm} (hl : l ≠ []) (h : ∀ t ∈ l, t.c ≠ 0) : 0 < gcdL l := by
 cases l with
 | nil => exact absurd rfl hl
 | cons t l =>
  have h2 := gcdL_dvd (l := t :: l) t (List.mem_cons_self ..)
  refine Nat.pos_of_ne_zero fun e => h t (List.mem_cons_self ..) ?_
  rw [e] at h2
  exact Int.zero_dvd.1 h2
def divT (d : Int) (l : List LTm) : List LTm := l.map fun t => ⟨t.v, t.c.tdiv d⟩
theorem divT_len (d : Int) (l : List LTm) (i : Nat) : (divT d (l.take i)).length = min i l.length := by unfold divT; rw [List.length_map, List.length_take]
theorem divT_snoc (d : Int) (l : List LTm) (i : Nat) (h : i < l.length) : divT d (l.take (i + 1)) = divT d (l.take i) ++ [⟨l[i].v, l[i].c.tdiv d⟩] := by
 unfold divT; rw [List.take_succ_eq_append_getElem h, List.map_append]; rfl
theorem tdiv_abs (c d : Int) : (c.tdiv d).natAbs ≤ c.natAbs := by rw [Int.natAbs_tdiv]; exact Nat.div_le_self _ _
theorem divL_one {a : LinV} (h : sgnL a = 1) : divL a = ⟨divT (gcdL a.t) a.t, a.k.fdiv (gcdL a.t), a.e⟩ := by
 unfold divL divT
 rw [h, Int.mul_one]
 congr 1
 refine List.map_congr_left fun t _ => ?_
 rw [Int.mul_one]
theorem divL_neg {a : LinV} (h : sgnL a = -1) : divL a = ⟨divT (-(gcdL a.t : Int)) a.t, -(a.k.fdiv (gcdL a.t)), a.e⟩ := by
 unfold divL divT
 rw [h, show a.k.fdiv (gcdL a.t) * -1 = -(a.k.fdiv (gcdL a.t)) by omega]
 congr 1
 refine List.map_congr_left fun t _ => ?_
 rw [Int.tdiv_neg]
 congr 1
 omega
theorem valid_terms {a : LinV} (h : validL a = true) : ∀ t ∈ a.t, t.c ≠ 0 ∧ t.c.natAbs ≤ 1048576 := fun t ht => by
 have := (okAt_mem (valid_ok h).t t ht)
 exact ⟨this.2.1, by have := this.2.2; omega⟩
theorem _root_.Go.Av.BxI.fin {H0 H Hp : Heap} {bx sz n b4 b : Nat} {X : List (List D)} {rest cs : List D} {T : Option TypeId} {x : Go.Av.Obj} (h : BxI H bx sz n X rest (some b) Hp) (hle : H0.Le H) (h4 : H0 b4 = none) (e4 : Hp b4 = some (.box cs T)) : (Hp.set b4 x) b = some (.vec sz X) ∧ H0.Le ((Hp.set b4 x).del b) := by
 have hb : Hp b = some (.vec sz X) := h.eo
 have nb : b ≠ b4 := fun e => by rw [e, e4] at hb; cases hb
 refine ⟨by rw [heap_ne _ nb]; exact hb, fun k o hk => ?_⟩
 have h1 := hle _ _ hk
 have k1 : k ≠ b := fun e => by have := h.no b rfl; rw [← e, h1] at this; cases this
 rw [del_ne k1, heap_ne _ (fun e => by rw [e, h4] at hk; cases hk)]
 exact h.le _ _ h1
theorem _root_.Go.Av.BxI.re {H Hp : Heap} {bx sz n : Nat} {X : List (List D)} {rest : List D} {ob : Option Nat} (h : BxI H bx sz n X rest ob Hp) (rest' : List D) : BxI H bx sz n X rest' ob (Hp.set bx (.box (outG sz n ob :: rest'))) := by
 refine ⟨fun k o hk => ?_, h.hx, heap_same _ _, ?_, h.no, h.nx⟩
 ·rw [heap_ne _ (fun e => by rw [e, h.hx] at hk; cases hk)]; exact h.le _ _ hk
 ·have := h.eo
  cases ob with
  | none => exact this
  | some b =>
   show (Hp.set bx _) b = _
   rw [heap_ne _ (fun e => h.nx (by rw [e]))]; exact this
theorem sgn_head {T : List LTm} {K : Int} (h : 0 < T.length) : sgnL ⟨T, K, true⟩ = if T[0].c < 0 then -1 else 1 := by
 cases T with
 | nil => simp at h
 | cons t T => unfold sgnL; simp
theorem OwnQ.nilk {Q : D → Heap → Prop} {H : Heap} {k n : Int} {e : Bool} (h : OwnQ Q H (⟨[], k, e⟩, n)) : Q (.tuple [.agg [.nilsl, .int .i64 k, .bool e], .int .i64 n]) H := h none (fun _ => rfl) (by simp)
theorem tail_join2 {C T : Nat → Heap → Prop} {G : Prop} (h : (∀ b H, C b H → T b H) → G) (t : ∀ b H, C b H → T b H) : G := h t
end Go.Lin
namespace Go.Proofs.YtacekpdodelnbaaGreatDoor
open Go Go.Av Go.Lexs Go.Lin
attribute [local irreducible] ACalls at8
theorem decided_o {Q} (b : Bool) (H : Heap) (h : Q (.agg [.nilsl, .int .i64 (if b = true then 0 else -1), .bool false]) H) : ACalls Tryz.prog 63 [.bool b] H Q := by
 refine acalls_of_wp [] Tryz.mixed Tryz.func63 rfl (by kernel_rfl) (of_decide_eq_true (by kernel_rfl)) (by kernel_rfl) ?_
 simp only [go_sem,seval, Tryz.results63]
 intro b2 g2
 cases b
 ·repeat' (first | with_reducible refine And.intro ?_ ?_ | simp only [go_sem,seval] | intro hx_ | omega)
  exact Fin.less (heap_le_set g2) h
 ·repeat' (first | with_reducible refine And.intro ?_ ?_ | simp only [go_sem,seval] | intro hx_ | omega)
  exact Fin.less (heap_le_set g2) h
set_option maxHeartbeats 1000000 in
theorem normal_o {Q} (a : LinV) (fa : LinFit a) (H : Heap) (h : OwnQ Q H (normalR a)) : ACalls Tryz.prog 25 [.agg (linC a)] H Q := by
 refine acalls_of_wp [(13, .par), (15, .par), (16, .wk), (19, .par)] Tryz.mixed Tryz.func25 rfl (by kernel_rfl) (of_decide_eq_true (by kernel_rfl)) (by kernel_rfl) ?_
 simp only [go_sem,seval, Tryz.results25]
 intro b2 g2 b4 g4
 simp only [set_none] at g4
 have e2 : ((H.set b2 (.box (linC a))).set b4 (.box [.nilsl, .int .i64 0, .bool false])) b2 = some (.box (linC a)) := by rw [heap_ne _ g4.1.symm, heap_same]
 have e4 : ((H.set b2 (.box (linC a))).set b4 (.box [.nilsl, .int .i64 0, .bool false])) b4 = some (.box [.nilsl, .int .i64 0, .bool false]) := heap_same _ _
 have hle : H.Le ((H.set b2 (.box (linC a))).set b4 (.box [.nilsl, .int .i64 0, .bool false])) := (heap_le_set g2).trans (heap_le_set (by simp only [set_none]; exact g4))
 have g4' := g4.2
 have n24 : b4 ≠ b2 := g4.1
 clear g4
 generalize (H.set b2 (.box (linC a))).set b4 (.box [.nilsl, .int .i64 0, .bool false]) = Bs at e2 e4 hle ⊢
 have hls : ∀ x, H.Le (Bs.set b4 x) := fun x => le_set4 hle g4'
 have m2 : b2 ∈ [b2] := by simp
 by_cases c : validL a = true
 ·have vt := valid_terms c
  have vk := (valid_ok c).k
  have hlen := fa.len
  by_cases t0 : a.t = []
  ·obtain ⟨T, K, E⟩ := a
   change T = [] at t0
   subst t0
   have e : normalR ⟨[], K, E⟩ = (⟨[], if holdsL ⟨[], K, E⟩ K = true then 0 else -1, false⟩, 0) := by unfold normalR; rw [if_pos c, if_pos rfl]; split <;> rfl
   rw [e] at h
   have hd : ∀ (H : Heap) (Q : D → Heap → Prop), Q (.agg [.nilsl, .int .i64 (if holdsL ⟨[], K, E⟩ K = true then 0 else -1), .bool false]) H → ACalls Tryz.prog 63 [.bool (holdsL ⟨[], K, E⟩ K)] H Q := fun H Q hq => decided_o _ H hq
   have hh : holdsL ⟨[], K, E⟩ K = (decide (K = 0) || (decide (0 < K) && !E)) := rfl
   obtain ⟨z, hz⟩ : ∃ z : Int, z = if holdsL ⟨[], K, E⟩ K = true then 0 else -1 := ⟨_, rfl⟩
   rw [← hz] at hd h
   rw [hh] at hd
   by_cases k0 : K = 0
   ·subst k0
    simp only [decide_true, Bool.true_or] at hd
    repeat' (first | with_reducible refine And.intro ?_ ?_ | simp only [go_sem,seval, e2, e4, c] | simp (disch := omega) only [wrap64, Rw_at] | simp (disch := first | omega | grind) only [heap_ne_] | (intro hx_; try simp only [set_none] at hx_) | with_reducible refine valid_a _ fa _ ?_ | with_reducible refine hd _ _ ?_ | omega)
    exact Fin.less (hls _) h.nilk
   ·rw [decide_eq_false k0, Bool.false_or] at hd
    by_cases k1 : 0 < K
    ·rw [decide_eq_true k1, Bool.true_and] at hd
     cases E <;> simp only [Bool.not_true, Bool.not_false] at hd
     ·repeat' (first | with_reducible refine And.intro ?_ ?_ | simp only [go_sem,seval, e2, e4, c, k0, k1] | simp (disch := omega) only [wrap64, Rw_at] | simp (disch := first | omega | grind) only [heap_ne_] | (intro hx_; try simp only [set_none] at hx_) | with_reducible refine valid_a _ fa _ ?_ | with_reducible refine hd _ _ ?_ | omega)
      exact Fin.less (hls _) h.nilk
     ·repeat' (first | with_reducible refine And.intro ?_ ?_ | simp only [go_sem,seval, e2, e4, c, k0, k1] | simp (disch := omega) only [wrap64, Rw_at] | simp (disch := first | omega | grind) only [heap_ne_] | (intro hx_; try simp only [set_none] at hx_) | with_reducible refine valid_a _ fa _ ?_ | with_reducible refine hd _ _ ?_ | omega)
      exact Fin.less (hls _) h.nilk
    ·rw [decide_eq_false k1, Bool.false_and] at hd
     repeat' (first | with_reducible refine And.intro ?_ ?_ | simp only [go_sem,seval, e2, e4, c, k0, k1] | simp (disch := omega) only [wrap64, Rw_at] | simp (disch := first | omega | grind) only [heap_ne_] | (intro hx_; try simp only [set_none] at hx_) | with_reducible refine valid_a _ fa _ ?_ | with_reducible refine hd _ _ ?_ | omega)
     exact Fin.less (hls _) h.nilk
  ·have tl : ¬ a.t.length = 0 := fun e => t0 (List.eq_nil_of_length_eq_zero e)
   have e : normalR a = if a.e = true ∧ a.k.tmod (gcdL a.t) ≠ 0 then (noL, 0) else (divL a, 0) := by unfold normalR; rw [if_pos c, if_neg t0]
   have gp := gcdL_pos t0 fun t ht => (vt t ht).1
   have gl := gcdL_le vt
   have tl' : ¬ (a.t.length : Int) = 0 := by omega
   repeat' (first | with_reducible refine And.intro ?_ ?_ | simp only [go_sem,seval, e2, e4, c, tl'] | simp (disch := omega) only [wrap64, Rw_at] | simp (disch := first | omega | grind) only [heap_ne_] | (intro hx_; try simp only [set_none] at hx_) | with_reducible refine valid_a a fa _ ?_ | omega)
   refine loop_c [1, 2, 33, 34] (fun (p : Nat × Nat × Heap) => [(35, .int .i64 p.1), (4, .int .i64 (p.2.1 : Nat))]) (fun (p : Nat × Nat × Heap) => p.2.2) (fun (p : Nat × Nat × Heap) => p.1 ≤ a.t.length ∧ p.2.1 = gcdL (a.t.take p.1) ∧ Bs.Le p.2.2) (fun (p : Nat × Nat × Heap) => a.t.length - p.1) ((0, 0, Bs)) (⟨Nat.zero_le _, rfl, Heap.Le.refl _⟩) (by (try simp only [go_sem,seval]) <;> (try simp (disch := omega) [wrap64]) <;> (try omega)) (by first | with_reducible exact Heap.Le.refl _ | exact heap_set_le (by assumption) | exact Heap.Le.refl _ | exact heap_le_set (by assumption) | exact (by simp only [Go.Av.Heap.Le, Go.Av.Heap.set, Go.Av.Heap.del] at * <;> grind)) ?_
   rintro Ec rfl ⟨i, g, Hp⟩ ⟨hi, hg, hp⟩
   simp only at hi hg hp
   by_cases hlt : i < a.t.length
   ·have hkd : decide ((i : Int) < a.t.length) = true := decide_eq_true (by omega)
    have hti : (i : Int) < a.t.length := by omega
    obtain ⟨x0, x1⟩ := vt _ (List.getElem_mem hlt)
    have gt := gcdL_le (l := a.t.take i) (m := 1048576) fun t ht => vt t (List.mem_of_mem_take ht)
    rw [← hg] at gt
    have w : IntKind.i64.wrap (0 - a.t[i].c) = -a.t[i].c := by rw [wrap64 (by omega) (by omega)]; omega
    have em : (if a.t[i].c < -a.t[i].c then -a.t[i].c else a.t[i].c) = ((a.t[i].c.natAbs : Nat) : Int) := by split <;> omega
    repeat' (first | with_reducible refine And.intro ?_ ?_ | simp only [go_sem,seval, hkd, hti, Rw_at _ _ hlt, Rw_get _ _ hlt, w, em] | simp (disch := omega) only [wrap64, Rw_at] | simp (disch := first | omega | grind) only [heap_ne_] | (intro hx_; try simp only [set_none] at hx_) | with_reducible refine gcd_a _ _ (by omega) (by omega) _ ?_ | omega)
    refine nx_mk (i + 1, Nat.gcd a.t[i].c.natAbs g, _) ⟨by simp only []; omega, by simp only []; rw [gcdL_take _ _ hlt, ← hg], hp.trans (heap_le_set (by assumption))⟩ (by simp only []; omega) (by (try simp only [go_sem,seval]) <;> (try simp (disch := omega) [wrap64]) <;> (try omega)) (Heap.Le.refl _)
   ·have hkd : decide ((i : Int) < a.t.length) = false := decide_eq_false (by omega)
    have hie : i = a.t.length := by omega
    subst hie
    rw [List.take_length] at hg
    have e2p := hp _ _ e2
    have e4p := hp _ _ e4
    rw [← hg] at gp gl e
    have g0 : ¬ (g : Int) = 0 := by omega
    obtain ⟨T, K, E⟩ := a
    have hlenT : T.length ≤ 5864062014639 := hlen
    have vtT : ∀ t ∈ T, t.c ≠ 0 ∧ t.c.natAbs ≤ 1048576 := vt
    have t0T : T ≠ [] := t0
    have hT0 : 0 < T.length := List.length_pos_iff.2 t0T
    have vk' : K.natAbs ≤ 1099511627776 := vk
    have fk := fdiv_absle K g (by omega)
    have wf := wrap64 (x := K.fdiv g) (by omega) (by omega)
    clear hlen vt t0 tl tl' c hi hlt
    by_cases ae : E = true ∧ K.tmod g ≠ 0
    ·rw [if_pos ae] at e
     rw [e] at h
     obtain ⟨ae, ak⟩ := ae
     subst ae
     repeat' (first | with_reducible refine And.intro ?_ ?_ | simp only [go_sem,seval, hkd, e2p, e4p, g0, ak] | simp (disch := omega) only [wrap64, Rw_at] | simp (disch := first | omega | grind) only [heap_ne_] | (intro hx_; try simp only [set_none] at hx_) | with_reducible refine decided_o false _ ?_ | omega)
     exact Fin.less (le_set4 (hle.trans hp) g4') h.nilk
    ·rw [if_neg ae] at e
     rw [e] at h
     have sg := sgn_head (K := K) hT0
     obtain ⟨d, hd⟩ : ∃ d : Int, d = if E = true ∧ T[0].c < 0 then -(g : Int) else g := ⟨_, rfl⟩
     obtain ⟨q, hq⟩ : ∃ q : Int, q = if E = true ∧ T[0].c < 0 then -(K.fdiv g) else K.fdiv g := ⟨_, rfl⟩
     have sE : E = true ∧ T[0].c < 0 → sgnL ⟨T, K, E⟩ = -1 := fun ⟨x, y⟩ => by subst x; rw [sg, if_pos y]
     have sF : ¬ (E = true ∧ T[0].c < 0) → sgnL ⟨T, K, E⟩ = 1 := fun x => by
      cases E with
      | true => rw [sg, if_neg (fun y => x ⟨rfl, y⟩)]
      | false => unfold sgnL; rw [if_neg (by simp)]
     have hdiv : divL ⟨T, K, E⟩ = ⟨divT d T, q, E⟩ := by
      rw [hd, hq]
      by_cases x : E = true ∧ T[0].c < 0
      ·rw [divL_neg (sE x), if_pos x, if_pos x, ← hg]
      ·rw [divL_one (sF x), if_neg x, if_neg x, ← hg]
     rw [hdiv] at h
     have dn : ¬ d = 0 := by rw [hd]; split <;> omega
     clear hdiv sE sF sg e
     apply tail_join2 (C := fun b7 Hq => BxI Hp b7 2 0 [] [.int .i64 q, .bool E] none Hq)
     ·intro hJ
      have pr : ∀ (H' : Heap) (Q : D → Heap → Prop), Q (.int .i64 (K.fdiv g)) H' → ACalls Tryz.prog 65 [.int .i64 K, .int .i64 (g : Nat)] H' Q := fun H' Q hq => floor_a K g (by omega) (by omega) (by omega) H' hq
      by_cases hE : E = true
      ·have kr : K.tmod g = 0 := by
        by_cases kk : K.tmod g = 0
        ·exact kk
        ·exact absurd ⟨hE, kk⟩ ae
       by_cases c0 : T[0].c < 0
       ·rw [if_pos ⟨hE, c0⟩] at hd hq
        have wg : IntKind.i64.wrap (0 - (g : Int)) = d := by rw [wrap64 (by omega) (by omega)]; omega
        have wk : IntKind.i64.wrap (0 - K.fdiv g) = q := by rw [wrap64 (by omega) (by omega)]; omega
        repeat' (first | with_reducible refine And.intro ?_ ?_ | simp only [go_sem,seval, hkd, e2p, e4p, g0, kr, hE] | simp (disch := omega) only [wrap64, Rw_at] | simp (disch := first | omega | grind) only [heap_ne_] | (intro hx_; try simp only [set_none] at hx_) | omega)
        refine par_mk (fun i' => if i' = 3 then .int .i64 (K.fdiv g) else .undef) [b2] ?_
        repeat' (first | with_reducible refine And.intro ?_ ?_ | simp only [go_sem,seval, e2p, m2, Rw_at _ _ hT0, Rw_get _ _ hT0, c0, hE] | simp (disch := omega) only [wrap64, Rw_at] | simp (disch := first | omega | grind) only [heap_ne_] | (intro hx_; try simp only [set_none] at hx_) | with_reducible refine pc0 (fun H' Q hro hq => pr H' Q hq) ?_ | omega)
        rename_i b7
        have f0 := BxI.start hx_ 2 [.int .i64 (K.fdiv g), .bool true]
        generalize Hp.set b7 (.box [.nilsl, .int .i64 (K.fdiv g), .bool true]) = Hq at f0 ⊢
        have e7 := f0.ex
        have m7 : b7 ∈ [b7] := by simp
        refine par_mk (fun i' => .undef) [b7] ?_
        repeat' (first | with_reducible refine And.intro ?_ ?_ | simp only [go_sem,seval, e7, m7, wg, wk] | simp (disch := omega) only [wrap64, Rw_at] | simp (disch := first | omega | grind) only [heap_ne_] | (intro hx_; try simp only [set_none] at hx_) | omega)
        exact wk_mk [(1, .box b2 0), (2, .box b4 0), (4, .int .i64 d), (7, .box b7 0)] _ (by (try simp only [go_sem,seval]) <;> (try simp (disch := omega) [wrap64]) <;> (try omega)) (Heap.Le.refl _) (hJ _ _ (by rw [hE]; exact f0.re [.int .i64 q, .bool true]))
       ·rw [if_neg (fun x => c0 x.2)] at hd hq
        repeat' (first | with_reducible refine And.intro ?_ ?_ | simp only [go_sem,seval, hkd, e2p, e4p, g0, kr, hE] | simp (disch := omega) only [wrap64, Rw_at] | simp (disch := first | omega | grind) only [heap_ne_] | (intro hx_; try simp only [set_none] at hx_) | omega)
        refine par_mk (fun i' => if i' = 3 then .int .i64 (K.fdiv g) else .undef) [b2] ?_
        repeat' (first | with_reducible refine And.intro ?_ ?_ | simp only [go_sem,seval, e2p, m2, Rw_at _ _ hT0, Rw_get _ _ hT0, c0, hE] | simp (disch := omega) only [wrap64, Rw_at] | simp (disch := first | omega | grind) only [heap_ne_] | (intro hx_; try simp only [set_none] at hx_) | with_reducible refine pc0 (fun H' Q hro hq => pr H' Q hq) ?_ | omega)
        rename_i b7
        have f0 := BxI.start hx_ 2 [.int .i64 (K.fdiv g), .bool true]
        exact wk_mk [(1, .box b2 0), (2, .box b4 0), (4, .int .i64 d), (7, .box b7 0)] _ (by (try simp only [go_sem,seval, hd]) <;> (try simp (disch := omega) [wrap64]) <;> (try omega)) (Heap.Le.refl _) (hJ _ _ (by rw [hE, hq]; exact f0))
      ·have hE : E = false := by simpa using hE
       rw [if_neg (by rw [hE]; simp)] at hd hq
       repeat' (first | with_reducible refine And.intro ?_ ?_ | simp only [go_sem,seval, hkd, e2p, e4p, g0, hE] | simp (disch := omega) only [wrap64, Rw_at] | simp (disch := first | omega | grind) only [heap_ne_] | (intro hx_; try simp only [set_none] at hx_) | omega)
       refine par_mk (fun i' => if i' = 3 then .int .i64 (K.fdiv g) else .undef) [b2] ?_
       repeat' (first | with_reducible refine And.intro ?_ ?_ | simp only [go_sem,seval, e2p, m2, hE] | simp (disch := omega) only [wrap64, Rw_at] | simp (disch := first | omega | grind) only [heap_ne_] | (intro hx_; try simp only [set_none] at hx_) | with_reducible refine pc0 (fun H' Q hro hq => pr H' Q hq) ?_ | omega)
       rename_i b7
       have f0 := BxI.start hx_ 2 [.int .i64 (K.fdiv g), .bool false]
       exact wk_mk [(1, .box b2 0), (2, .box b4 0), (4, .int .i64 d), (7, .box b7 0)] _ (by (try simp only [go_sem,seval, hd]) <;> (try simp (disch := omega) [wrap64]) <;> (try omega)) (Heap.Le.refl _) (hJ _ _ (by rw [hE, hq]; exact f0))
     intro b7 Hq f0
     have e2q := f0.le _ _ e2p
     have dl2 : d.natAbs ≤ 1048576 := by rw [hd]; split <;> omega
     repeat' (first | with_reducible refine And.intro ?_ ?_ | simp only [go_sem,seval, e2q] | simp (disch := omega) only [wrap64, Rw_at] | simp (disch := first | omega | grind) only [heap_ne_] | (intro hx_; try simp only [set_none] at hx_) | omega)
     refine loop_c [2, 4, 7, 82, 83] (fun (p : Nat × Option Nat × Heap) => [(84, .int .i64 p.1)]) (fun (p : Nat × Option Nat × Heap) => p.2.2) (fun (p : Nat × Option Nat × Heap) => p.1 ≤ T.length ∧ BxI Hp b7 2 (divT d (T.take p.1)).length (Rw ltC (divT d (T.take p.1))) [.int .i64 q, .bool E] p.2.1 p.2.2) (fun (p : Nat × Option Nat × Heap) => T.length - p.1) ((0, none, Hq)) (⟨Nat.zero_le _, f0⟩) (by (try simp only [go_sem,seval]) <;> (try simp (disch := omega) [wrap64]) <;> (try omega)) (by first | with_reducible exact Heap.Le.refl _ | exact heap_set_le (by assumption) | exact Heap.Le.refl _ | exact heap_le_set (by assumption) | exact (by simp only [Go.Av.Heap.Le, Go.Av.Heap.set, Go.Av.Heap.del] at * <;> grind)) ?_
     clear f0
     rintro Ec rfl ⟨i, ob, Hr⟩ ⟨hi, fi⟩
     simp only at hi fi
     by_cases hlt : i < T.length
     ·have hkd : decide ((i : Int) < T.length) = true := decide_eq_true (by omega)
      have hti : (i : Int) < T.length := by omega
      obtain ⟨x0, x1⟩ := vtT _ (List.getElem_mem hlt)
      have ta := tdiv_abs T[i].c d
      have w2 : IntKind.i64.wrap (T[i].c.tdiv d) = T[i].c.tdiv d := wrap64 (by omega) (by omega)
      have dl := divT_len d T i
      repeat' (first | with_reducible refine And.intro ?_ ?_ | simp only [go_sem,seval, hkd, hti, Rw_at _ _ hlt, Rw_get _ _ hlt] | simp (disch := omega) only [wrap64, Rw_at] | simp (disch := first | omega | grind) only [heap_ne_] | (intro hx_; try simp only [set_none] at hx_) | omega)
      rename_i b9
      have h9 := hx_
      clear hx_
      have fj := fi.up (heap_le_set (o := .box [.str T[i].v, .int .i64 T[i].c]) h9)
      have e9 : (Hr.set b9 (.box [.str T[i].v, .int .i64 T[i].c])) b9 = some (.box [.str T[i].v, .int .i64 T[i].c]) := heap_same _ _
      generalize Hr.set b9 (.box [.str T[i].v, .int .i64 T[i].c]) = Hs at fj e9 ⊢
      have e7 := fj.ex
      have k7 : b7 ∈ [b7, b9] := by simp
      have k9 : b9 ∈ [b7, b9] := by simp
      refine par_mk (fun i' => .undef) [b7, b9] ?_
      repeat' (first | with_reducible refine And.intro ?_ ?_ | simp only [go_sem,seval, e7, e9, k7, k9, dn, w2] | simp (disch := omega) only [wrap64, Rw_at] | simp (disch := first | omega | grind) only [heap_ne_] | (intro hx_; try simp only [set_none] at hx_) | omega)
      rename_i bx
      have hbx := hx_
      clear hx_
      refine p_apZ 72 24 (n := (divT d (T.take i)).length) (m := 1) (ob := ob) (es := Rw ltC (divT d (T.take i))) (xs := [[.str T[i].v, .int .i64 (T[i].c.tdiv d)]]) (by simp only [go_sem,seval]) (by decide) (by simp only [go_sem,seval]) (by simp only [go_sem,seval]) (by simp only [go_sem,seval]) (by simp only [go_sem,seval]) hbx rfl (by simp) fj.eo (by rw [Rw_len]) (fun c hc => by
       simp only [List.mem_cons, List.not_mem_nil, or_false] at hc
       rcases hc with rfl | rfl
       ·exact ⟨_, e7, by simp⟩
       ·exact ⟨_, e9, by simp⟩) (by simp only [List.length_cons, List.length_nil]; omega) (by simp only [List.length_cons, List.length_nil]; omega) fun b' H' hA => ?_
      have hY : Rw ltC (divT d (T.take i)) ++ [[D.str T[i].v, .int .i64 (T[i].c.tdiv d)]] = Rw ltC (divT d (T.take (i + 1))) := by rw [divT_snoc _ _ i hlt, ← Rw_app]; rfl
      have hlen1 : (divT d (T.take i)).length + 1 = (divT d (T.take (i + 1))).length := by rw [divT_snoc _ _ i hlt]; simp
      rw [hY] at hA
      obtain ⟨f1, e7'⟩ := fj.ap (m := (divT d (T.take (i + 1))).length) (Heap.Le.refl _) hA
      repeat' (first | with_reducible refine And.intro ?_ ?_ | simp only [go_sem,seval, e7'] | simp (disch := omega) only [wrap64, Rw_at] | simp (disch := first | omega | grind) only [heap_ne_] | (intro hx_; try simp only [set_none] at hx_) | omega)
      rw [← hlen1] at f1
      refine nx_mk (i + 1, some b', _) ⟨by simp only []; omega, ?_⟩ (by simp only []; omega) (by (try simp only [go_sem,seval, out_some]) <;> (try simp (disch := omega) [wrap64]) <;> (try omega)) (Heap.Le.refl _)
      simp only []
      rw [← hlen1]; exact f1
     ·have hkd : decide ((i : Int) < T.length) = false := decide_eq_false (by omega)
      have hie : i = T.length := by omega
      subst hie
      have e4r := fi.le _ _ e4p
      rw [List.take_length] at fi
      have e7 := fi.ex
      have o1 := lin_o1 2 (divT d T).length ob
      repeat' (first | with_reducible refine And.intro ?_ ?_ | simp only [go_sem,seval, hkd, e7, e4r, o1] | simp (disch := omega) only [wrap64, Rw_at] | simp (disch := first | omega | grind) only [heap_ne_] | (intro hx_; try simp only [set_none] at hx_) | omega)
      exact Fin.less (fi.putr (hle.trans hp) g4' e4r) (h ob (fun x => by rw [x] at fi; exact fi.eo) fun b x => (hle.trans hp).none (fi.no b x))
 ·have c : validL a = false := by simpa using c
  have e : normalR a = (nilL, 2) := by unfold normalR; rw [if_neg (by rw [c]; simp)]
  rw [e] at h
  repeat' (first | with_reducible refine And.intro ?_ ?_ | simp only [go_sem,seval, e2, e4, c] | simp (disch := omega) only [wrap64, Rw_at] | simp (disch := first | omega | grind) only [heap_ne_] | (intro hx_; try simp only [set_none] at hx_) | with_reducible refine valid_a a fa _ ?_ | omega)
  exact Fin.less (hls _) h.nil
theorem normalL_a {Q} (a : LinV) (fa : LinFit a) (H : Heap) (h : Q (.tuple [.agg (linC (normalR a).1), .int .i64 (normalR a).2]) H) : ACalls Tryz.prog 25 [.agg (linC a)] H Q :=
 ACalls.fin (normal_o a fa H (own_fin h))
end Go.Proofs.YtacekpdodelnbaaGreatDoor
end
section
set_option maxRecDepth 20000
namespace Go.Proofs.YtacekpdodelnbaaGreatDoor
open Go Go.Av Go.Lexs Go.Lin
attribute [local irreducible] ACalls at8
set_option maxHeartbeats 4000000 in
theorem implies_a {Q} (l : List LinV) (c : LinV) (hl : l ≠ []) (hlen : l.length ≤ 900) (fl : ∀ c ∈ l, LinFit c) (fc : LinFit c) (ha : allL l = true) (hv : ∀ a ∈ l, validL a = true) (vc : validL c = true) (hn : (varsL (l ++ [c])).length ≤ 12) (hce : c.e = false)
  (vb : validL (below c) = true) (hs : solvL (l ++ [below c]) = some false) (H : Heap) (h : Q (.tuple [.bool true, .int .i64 0]) H) : ACalls Tryz.prog 45 [.sl 3 (Rw linC l), .agg (linC c)] H Q := by
 refine acalls_of_wp [(1, .par), (6, .par), (13, .par)] Tryz.mixed Tryz.func45 rfl (by kernel_rfl) (of_decide_eq_true (by kernel_rfl)) (by kernel_rfl) ?_
 simp only [go_sem,seval, Tryz.results45]
 intro b3 g3
 have e3 : (H.set b3 (.box (linC c))) b3 = some (.box (linC c)) := heap_same _ _
 have hle : H.Le (H.set b3 (.box (linC c))) := heap_le_set g3
 generalize H.set b3 (.box (linC c)) = Bs at e3 hle ⊢
 have m3 : b3 ∈ [b3] := by simp
 have ac : ∀ (H : Heap) (Q : D → Heap → Prop), Q (.bool true) H → ACalls Tryz.prog 17 [.sl 3 (Rw linC l)] H Q := fun H Q hq => all_a l (by omega) fl H (by rw [ha]; exact hq)
 have vac : ∀ (H : Heap) (Q : D → Heap → Prop), Q (.bool true) H → ACalls Tryz.prog 15 [.agg (linC c)] H Q := fun H Q hq => valid_a c fc H (by rw [vc]; exact hq)
 have hvc : ∀ a ∈ l ++ [c], validL a = true := fun a ha => (List.mem_append.1 ha).elim (hv a) (fun g => by rw [List.mem_singleton] at g; rw [g]; exact vc)
 have hvb : ∀ a ∈ l ++ [below c], validL a = true := fun a ha => (List.mem_append.1 ha).elim (hv a) (fun g => by rw [List.mem_singleton] at g; rw [g]; exact vb)
 have hlc : (l ++ [c]).length = l.length + 1 := by rw [List.length_append]; rfl
 obtain ⟨n1, n2⟩ := names_of hvc
 obtain ⟨ns, hns⟩ : ∃ ns, ns = varsL (l ++ [c]) := ⟨_, rfl⟩
 rw [← hns] at hn
 have lc : Rw linC l ++ [linC c] = Rw linC (l ++ [c]) := by rw [← Rw_app]; rfl
 have vsc : ∀ (v : Nat) (H : Heap) (Q : D → Heap → Prop), H v = some (.vec 3 (Rw linC (l ++ [c]))) → Q (.sl 1 (Rw strC ns)) (H.del v) → ACalls Tryz.prog 54 [.vec v 3 0 (l.length + 1)] H Q := fun v H Q hb hq =>
  ACalls.vec1 hb (by rw [Rw_len, hlc]) (vars_a (l ++ [c]) (by omega) (by omega) (fun s hs => by have := n2 s hs; omega) (fun c hc => by have := (valid_ok (hvc c hc)).len; omega) _ (by rw [← hns]; exact hq))
 have hnd : ¬ ((12 : Int) < ns.length) := by omega
 repeat' (first | with_reducible refine And.intro ?_ ?_ | simp only [go_sem,seval] | simp (disch := omega) only [wrap64] | simp (disch := first | omega | grind) only [heap_ne_, del_ne] | (intro hx_; try simp only [set_none] at hx_) | omega)
 refine par_mk2 (fun i' => if i' = 1 then .c (.bool true) else if i' = 5 then .c (.bool true) else if i' = 10 then .mk' (fun v => .vec v 3 0 l.length) (.vec 3 (Rw linC l)) else if i' = 14 then .c (.sl 1 (Rw strC ns)) else .c .undef) [b3] ?_
 repeat' (first | with_reducible refine And.intro ?_ ?_ | simp only [go_sem,seval, e3, m3] | simp (disch := omega) only [wrap64] | simp (disch := first | omega | grind) only [heap_ne_, del_ne] | (intro hx_; try simp only [set_none] at hx_) | with_reducible refine pc0 (fun H' Q hro hq => ac H' Q hq) ?_ | with_reducible refine pc0 (fun H' Q hro hq => vac H' Q hq) ?_ | with_reducible refine pcm rfl (fun H' Q hro hq => cloneL_a l hl (by omega) H' hq) ?_ | omega)
 rename_i v hv2 bx
 have hbx := hx_
 clear hx_
 have hbx2 : (Bs.set v (.vec 3 (Rw linC l))) bx = none := by simp only [set_none]; exact hbx
 have hvl : (Bs.set v (.vec 3 (Rw linC l))) v = some (.vec 3 (Rw linC l)) := heap_same _ _
 have n1 : b3 ≠ v := fun e => by rw [e, hv2] at e3; cases e3
 refine p_apZ (H0 := Bs.set v (.vec 3 (Rw linC l))) 24 40 (n := l.length) (m := 1) (ob := some v) (es := Rw linC l) (xs := [linC c]) (by simp only [go_sem,seval]) (by decide) (by simp only [go_sem,seval]) (by simp only [go_sem,seval]) (by simp only [go_sem,seval]) (by simp only [go_sem,seval]) hbx2 rfl (by simp) hvl (by rw [Rw_len]) (fun k hk => by
  simp only [List.mem_cons, List.not_mem_nil, or_false] at hk
  subst hk
  exact ⟨_, by rw [heap_ne _ n1]; exact e3, by simp⟩) (by simp only [List.length_cons, List.length_nil]; omega) (by simp only [List.length_cons, List.length_nil]; omega) fun b' H' hA => ?_
 rw [lc] at hA
 have hB : Bs.Le (H'.del b') := fun k o hk => by
  have kv : k ≠ v := fun e => by rw [e, hv2] at hk; cases hk
  have h3 := hA.2.1 k o (by rw [heap_ne _ kv]; exact hk) (fun e => kv (by cases e; rfl))
  have kb : k ≠ b' := fun e => by
   rcases hA.2.2 with g | g
   ·rw [← e, heap_ne _ kv, hk] at g; cases g
   ·cases g; exact kv e
  rw [del_ne kb]; exact h3
 have nb3 : b' ≠ b3 := fun e => by have := hB _ _ e3; rw [← e] at this; simp [Heap.del] at this
 have hnb : b' ∉ [b3] := by simp [nb3]
 have hb1 := hA.1
 have e3' := hB _ _ e3
 have hle' := hle.trans hB
 have e3h : H' b3 = some (.box (linC c)) := by rw [del_ne nb3.symm] at e3'; exact e3'
 clear hA hbx hbx2 hvl
 repeat' (first | with_reducible refine And.intro ?_ ?_ | simp only [go_sem,seval, hnd, e3h] | simp (disch := omega) only [wrap64] | simp (disch := first | omega | grind) only [heap_ne_, del_ne] | (intro hx_; try simp only [set_none] at hx_) | with_reducible refine pc1 hb1 rfl hnb (fun H'' Q hro hb2 hq => vsc b' H'' Q hb2 hq) ?_ | omega)
 generalize H'.del b' = Bt at e3' hle' ⊢
 clear hB hb1
 have vk := (valid_ok vc).k
 have vt := valid_terms vc
 have hmul : (c.k * -1).natAbs ≤ 4611686018427387904 := by omega
 obtain ⟨k1, hk1⟩ : ∃ k1, k1 = c.k * -1 := ⟨_, rfl⟩
 obtain ⟨M, hM⟩ : ∃ M, M = (timesL c (-1)).t := ⟨_, rfl⟩
 obtain ⟨E, hE⟩ : ∃ E, E = c.e := ⟨_, rfl⟩
 have tc : ∀ (H : Heap) (Q : D → Heap → Prop), Q (.agg [.sl 2 (Rw ltC M), .int .i64 k1, .bool E]) H → ACalls Tryz.prog 61 [.agg [.sl 2 (Rw ltC c.t), .int .i64 c.k, .bool c.e], .int .i64 (-1)] H Q := fun H Q hq =>
  times_f c fc (-1) hmul (fun t ht => by have := (vt t ht).2; omega) H (by rw [hk1, hM, hE] at hq; exact hq)
 have w1 : IntKind.i64.wrap (k1 - 1) = k1 - 1 := wrap64 (by omega) (by omega)
 have hbel : linC (below c) = [.sl 2 (Rw ltC M), .int .i64 (k1 - 1), .bool false] := by rw [hM, hk1]; rfl
 refine tc _ _ ?_
 repeat' (first | with_reducible refine And.intro ?_ ?_ | simp only [go_sem,seval, w1] | simp (disch := omega) only [wrap64] | simp (disch := first | omega | grind) only [heap_ne_, del_ne] | (intro hx_; try simp only [set_none] at hx_) | omega)
 rename_i b6
 have h6 := hx_
 clear hx_
 rw [← hbel]
 have e3q := (heap_le_set (o := .box (linC (below c))) h6) _ _ e3'
 have e6 : (Bt.set b6 (.box (linC (below c)))) b6 = some (.box (linC (below c))) := heap_same _ _
 have hle6 := hle'.trans (heap_le_set (o := .box (linC (below c))) h6)
 generalize Bt.set b6 (.box (linC (below c))) = Bu at e3q e6 hle6 ⊢
 clear hle' h6 e3' tc hbel e3h e3
 have m6 : b6 ∈ [b3, b6] := by simp
 have m3' : b3 ∈ [b3, b6] := by simp
 have lc2 : Rw linC l ++ [linC (below c)] = Rw linC (l ++ [below c]) := by rw [← Rw_app]; rfl
 refine par_mk2 (fun i' => if i' = 1 then .mk' (fun v => .vec v 3 0 l.length) (.vec 3 (Rw linC l)) else if i' = 5 then .c (.bool false) else .c .undef) [b3, b6] ?_
 repeat' (first | with_reducible refine And.intro ?_ ?_ | simp only [go_sem,seval, e6, m6] | simp (disch := omega) only [wrap64] | simp (disch := first | omega | grind) only [heap_ne_, del_ne] | (intro hx_; try simp only [set_none] at hx_) | with_reducible refine pcm rfl (fun H' Q hro hq => cloneL_a l hl (by omega) H' hq) ?_ | omega)
 rename_i v hv2 bx
 have hbx := hx_
 clear hx_
 have hbx2 : (Bu.set v (.vec 3 (Rw linC l))) bx = none := by simp only [set_none]; exact hbx
 have hvl : (Bu.set v (.vec 3 (Rw linC l))) v = some (.vec 3 (Rw linC l)) := heap_same _ _
 have q3 : b3 ≠ v := fun e => by rw [e, hv2] at e3q; cases e3q
 have q6 : b6 ≠ v := fun e => by rw [e, hv2] at e6; cases e6
 refine p_apZ (H0 := Bu.set v (.vec 3 (Rw linC l))) 24 40 (n := l.length) (m := 1) (ob := some v) (es := Rw linC l) (xs := [linC (below c)]) (by simp only [go_sem,seval]) (by decide) (by simp only [go_sem,seval]) (by simp only [go_sem,seval]) (by simp only [go_sem,seval]) (by simp only [go_sem,seval]) hbx2 rfl (by simp) hvl (by rw [Rw_len]) (fun k hk => by
  simp only [List.mem_cons, List.not_mem_nil, or_false] at hk
  rcases hk with rfl | rfl
  ·exact ⟨_, by rw [heap_ne _ q3]; exact e3q, by simp⟩
  ·exact ⟨_, by rw [heap_ne _ q6]; exact e6, by simp⟩) (by simp only [List.length_cons, List.length_nil]; omega) (by simp only [List.length_cons, List.length_nil]; omega) fun b' H' hA => ?_
 rw [lc2] at hA
 have hB : Bu.Le (H'.del b') := fun k o hk => by
  have kv : k ≠ v := fun e => by rw [e, hv2] at hk; cases hk
  have h3 := hA.2.1 k o (by rw [heap_ne _ kv]; exact hk) (fun e => kv (by cases e; rfl))
  have kb : k ≠ b' := fun e => by
   rcases hA.2.2 with g | g
   ·rw [← e, heap_ne _ kv, hk] at g; cases g
   ·cases g; exact kv e
  rw [del_ne kb]; exact h3
 have z3 : b' ≠ b3 := fun e => by have := hB _ _ e3q; rw [← e] at this; simp [Heap.del] at this
 have z6 : b' ≠ b6 := fun e => by have := hB _ _ e6; rw [← e] at this; simp [Heap.del] at this
 have hnb : b' ∉ [b3, b6] := by simp [z3, z6]
 have hb1 := hA.1
 have e3h := hB _ _ e3q
 have e3g : H' b3 = some (.box (linC c)) := by rw [del_ne z3.symm] at e3h; exact e3h
 have sc : ∀ (H'' : Heap) (Q : D → Heap → Prop), H'' b' = some (.vec 3 (Rw linC (l ++ [below c]))) → Q (.bool false) (H''.del b') → ACalls Tryz.prog 80 [.vec b' 3 0 (l.length + 1)] H'' Q := fun H'' Q h1 h2 => solvV_a (l ++ [below c]) _ b' (by simp) (by simp; omega) hvb false hs H'' h1 h2
 have hle7 := hle6.trans hB
 clear hA hbx hbx2 hvl hB
 obtain ⟨T, K, E'⟩ := c
 change E' = false at hce
 subst hce
 repeat' (first | with_reducible refine And.intro ?_ ?_ | simp only [go_sem,seval, e3h, e3g] | simp (disch := omega) only [wrap64] | simp (disch := first | omega | grind) only [heap_ne_, del_ne] | (intro hx_; try simp only [set_none] at hx_) | with_reducible refine pc1 hb1 rfl hnb (fun H'' Q hro hb2 hq => sc H'' Q hb2 hq) ?_ | omega)
 exact Fin.less hle7 h
end Go.Proofs.YtacekpdodelnbaaGreatDoor
end
section
set_option maxRecDepth 20000
namespace Go.Lin
open Go Go.Av Go.Lexs
def nsD : List ByteArray → D
 | [] => .nilsl
 | x :: l => .sl 1 (Rw strC (x :: l))
@[simp] theorem nsD_e : nsD [] = .nilsl := rfl
end Go.Lin
namespace Go.Proofs.YtacekpdodelnbaaGreatDoor
open Go Go.Av Go.Lexs Go.Lin
attribute [local irreducible] ACalls at8
end Go.Proofs.YtacekpdodelnbaaGreatDoor
end
section
set_option maxRecDepth 20000
namespace Go.Lin
open Go Go.Av Go.Lexs
theorem names_len : ∀ (m : List LinV), (∀ c ∈ m, validL c = true) → (namesL m).length ≤ 12 * m.length := by
 intro m
 induction m with
 | nil => intro _; simp [namesL]
 | cons c m ih =>
  intro hm
  have i1 := ih (fun x hx => hm x (List.mem_cons_of_mem _ hx))
  have i2 := (valid_ok (hm c (List.mem_cons_self ..))).len
  unfold namesL at i1 ⊢
  rw [List.flatMap_cons, List.length_append, List.length_map, List.length_cons]
  omega
end Go.Lin
namespace Go.Proofs.YtacekpdodelnbaaGreatDoor
open Go Go.Av Go.Lexs Go.Lin
attribute [local irreducible] ACalls at8
end Go.Proofs.YtacekpdodelnbaaGreatDoor
end
section
set_option maxRecDepth 20000
namespace Go.Av
end Go.Av
namespace Go.Lin
open Go Go.Av Go.Lexs
theorem sumT_len (f : ByteArray → Int) (l : List ByteArray) : (sumT f l).length ≤ l.length := List.length_filterMap_le _ _
theorem sumT_next (f : ByteArray → Int) (l : List ByteArray) (i : Nat) (h : i < l.length) : sumT f (l.take (i + 1)) = sumT f (l.take i) ++ if f l[i] ≠ 0 then [⟨l[i], f l[i]⟩] else [] := by
 rw [List.take_succ_eq_append_getElem h, sumT_snoc]
theorem coefL_abs {l : List LTm} {m : Nat} (h : ∀ t ∈ l, t.c.natAbs ≤ m) (s : ByteArray) : (coefL l s).natAbs ≤ m := by
 induction l with
 | nil => simp [coefL]
 | cons t l ih =>
  rw [coefL]
  split
  ·exact h t (List.mem_cons_self ..)
  ·exact ih fun x hx => h x (List.mem_cons_of_mem _ hx)
theorem plus_fit {a b : LinV} (fa : LinFit a) (fb : LinFit b) (va : validL a = true) (vb : validL b = true) : LinFit (plusL a b) := by
 have ha := valid_ok va
 have hb := valid_ok vb
 have v2 : ∀ c ∈ [a, b], validL c = true := fun c hc => by simp at hc; rcases hc with rfl | rfl <;> assumption
 have hn := names_len [a, b] v2
 have hw := foldW_len (namesL [a, b]) []
 simp only [List.length_cons, List.length_nil] at hn hw
 have hs := sumT_len (fun s => coefL a.t s + coefL b.t s) (varsL [a, b])
 refine ⟨?_, fun t ht => ?_, fun t ht => ?_, ?_⟩
 ·show (sumT _ _).length ≤ _
  have : (varsL [a, b]).length ≤ (namesL [a, b]).length := by unfold varsL; omega
  omega
 ·unfold plusL sumT at ht
  simp only [List.mem_filterMap] at ht
  obtain ⟨s, hs, ht⟩ := ht
  split at ht
  ·cases ht
   rw [varsL_mem] at hs
   unfold namesL at hs
   obtain ⟨c, hc, hs⟩ := List.mem_flatMap.1 hs
   obtain ⟨t, ht, rfl⟩ := List.mem_map.1 hs
   simp at hc
   rcases hc with rfl | rfl
   ·exact fa.str t ht
   ·exact fb.str t ht
  ·cases ht
 ·unfold plusL sumT at ht
  simp only [List.mem_filterMap] at ht
  obtain ⟨s, hs, ht⟩ := ht
  split at ht
  ·cases ht
   have h1 := coefL_abs (fun t ht => (valid_terms va t ht).2) s
   have h2 := coefL_abs (fun t ht => (valid_terms vb t ht).2) s
   unfold i64; simp only; omega
  ·cases ht
 ·have h1 := ha.k
  have h2 := hb.k
  unfold plusL i64; simp only; omega
end Go.Lin
namespace Go.Proofs.YtacekpdodelnbaaGreatDoor
open Go Go.Av Go.Lexs Go.Lin
attribute [local irreducible] ACalls at8
end Go.Proofs.YtacekpdodelnbaaGreatDoor
end
section
set_option maxRecDepth 20000
namespace Go.Lin
open Go Go.Av Go.Lexs
def mF (L : List LTm) (i : Nat) : ByteArray → D := fun s => .int .i64 (sumN (L.take i) s)
noncomputable def mK (L : List LTm) (i : Nat) : List ByteArray := ((L.take i).map (·.v)).foldl insK []
theorem mK_nodup (L : List LTm) (i : Nat) : (mK L i).Nodup := foldK_nodup _ [] List.nodup_nil
theorem mK_mem (L : List LTm) (i : Nat) (s : ByteArray) : s ∈ mK L i ↔ ∃ t ∈ L.take i, t.v = s := by
 unfold mK; rw [foldK_mem]; simp only [List.not_mem_nil, false_or, List.mem_map]
theorem mK_next (L : List LTm) (i : Nat) (h : i < L.length) : insK (mK L i) L[i].v = mK L (i + 1) := by
 unfold mK
 rw [List.take_succ_eq_append_getElem h, List.map_append, List.map_cons, List.map_nil, foldK_snoc]
theorem mF_next (L : List LTm) (i : Nat) (h : i < L.length) : updF (mF L i) L[i].v (.int .i64 (sumN (L.take i) L[i].v + L[i].c)) = mF L (i + 1) := by
 funext s
 unfold updF mF
 rw [List.take_succ_eq_append_getElem h, sumN_app]
 by_cases e : s = L[i].v
 ·subst e; rw [if_pos rfl]; simp [sumN]
 ·rw [if_neg e]
  have : ¬ L[i].v = s := fun g => e g.symm
  simp [sumN, this]
theorem mF_look (L : List LTm) (i : Nat) (s : ByteArray) : (findD (.one .str) (.str s) (strM (mF L i) (mK L i)) 0).map (foundD false (.int .i64 0)) = some (.int .i64 (sumN (L.take i) s)) := by
 rw [look_strM]
 split
 ·rfl
 ·rename_i g
  rw [mK_mem] at g
  rw [sumN_none fun t ht e => g ⟨t, ht, e⟩]
theorem sumN_abs {m : Nat} (s : ByteArray) : ∀ (L : List LTm), (∀ t ∈ L, t.c.natAbs ≤ m) → (sumN L s).natAbs ≤ L.length * m
 | [], _ => by simp [sumN]
 | t :: L, h => by
  have h1 := h t (List.mem_cons_self ..)
  have h2 := sumN_abs s L fun x hx => h x (List.mem_cons_of_mem _ hx)
  rw [sumN, List.length_cons, Nat.add_mul, Nat.one_mul]
  split <;> omega
theorem names_two (a b : LinV) (s : ByteArray) : s ∈ varsL [a, b] ↔ ∃ t ∈ a.t ++ b.t, t.v = s := by
 rw [varsL_mem]
 show s ∈ a.t.map (·.v) ++ (b.t.map (·.v) ++ []) ↔ _
 rw [List.append_nil, ← List.map_append, List.mem_map]
theorem sum_two {a b : LinV} (va : validL a = true) (vb : validL b = true) (s : ByteArray) : sumN (a.t ++ b.t) s = coefL a.t s + coefL b.t s := by
 rw [sumN_app, sum_coef (termsOk_up (valid_ok va).t), sum_coef (termsOk_up (valid_ok vb).t)]
end Go.Lin
namespace Go.Proofs.YtacekpdodelnbaaGreatDoor
open Go Go.Av Go.Lexs Go.Lin
attribute [local irreducible] ACalls at8
set_option maxHeartbeats 1000000 in
theorem add_o {Q} (a b : LinV) (fa : LinFit a) (fb : LinFit b) (H : Heap) (h : OwnQ Q H (addL a b)) : ACalls Tryz.prog 19 [.agg (linC a), .agg (linC b)] H Q := by
 refine acalls_of_wp [(3, .wk), (4, .wk)] Tryz.mixed Tryz.func19 rfl (by kernel_rfl) (of_decide_eq_true (by kernel_rfl)) (by kernel_rfl) ?_
 simp only [go_sem,seval, Tryz.results19]
 intro b2 g2 b3 g3 b4 g4
 simp only [set_none] at g3 g4
 have e2 : (((H.set b2 (.box (linC a))).set b3 (.box (linC b))).set b4 (.box [.nilsl, .int .i64 0, .bool false])) b2 = some (.box (linC a)) := by rw [heap_ne _ g4.2.1.symm, heap_ne _ g3.1.symm, heap_same]
 have e3 : (((H.set b2 (.box (linC a))).set b3 (.box (linC b))).set b4 (.box [.nilsl, .int .i64 0, .bool false])) b3 = some (.box (linC b)) := by rw [heap_ne _ g4.1.symm, heap_same]
 have e4 : (((H.set b2 (.box (linC a))).set b3 (.box (linC b))).set b4 (.box [.nilsl, .int .i64 0, .bool false])) b4 = some (.box [.nilsl, .int .i64 0, .bool false]) := heap_same _ _
 have hle : H.Le (((H.set b2 (.box (linC a))).set b3 (.box (linC b))).set b4 (.box [.nilsl, .int .i64 0, .bool false])) := ((heap_le_set g2).trans (heap_le_set (by simp only [set_none]; exact g3))).trans (heap_le_set (by simp only [set_none]; exact g4))
 have g4' := g4.2.2
 clear g4 g3
 generalize ((H.set b2 (.box (linC a))).set b3 (.box (linC b))).set b4 (.box [.nilsl, .int .i64 0, .bool false]) = Bs at e2 e3 e4 hle ⊢
 have hls : ∀ x, H.Le (Bs.set b4 x) := fun x => le_set4 hle g4'
 have m2 : b2 ∈ [b2, b3] := by simp
 have m3 : b3 ∈ [b2, b3] := by simp
 by_cases va : validL a = true
 ·by_cases vb : validL b = true
  ·have e : addL a b = limitedL (plusL a b) := by unfold addL; rw [if_pos ⟨va, vb⟩]
   rw [e] at h
   have ha := (valid_ok va).k
   have hb := (valid_ok vb).k
   have ta := (valid_ok va).len
   have tb := (valid_ok vb).len
   have wk : IntKind.i64.wrap (a.k + b.k) = a.k + b.k := wrap64 (by omega) (by omega)
   have fp := plus_fit fa fb va vb
   obtain ⟨E, hE⟩ : ∃ E, E = (plusL a b).e := ⟨_, rfl⟩
   have hE2 : E = (a.e && b.e) := hE
   apply tail_join2 (C := fun b6 Hq => BxI Bs b6 2 0 [] [.int .i64 (a.k + b.k), .bool E] none Hq)
   ·intro hJ
    repeat' (first | with_reducible refine And.intro ?_ ?_ | simp only [go_sem,seval, e2, e3, e4, va, vb] | simp (disch := omega) only [wrap64, Rw_at] | simp (disch := first | omega | grind) only [heap_ne_] | (intro hx_; try simp only [set_none] at hx_) | with_reducible refine valid_a a fa _ ?_ | with_reducible refine valid_a b fb _ ?_ | omega)
    refine wk_mk [(2, .box b2 0), (3, .box b3 0), (4, .box b4 0)] Bs (by (try simp only [go_sem,seval]) <;> (try simp (disch := omega) [wrap64]) <;> (try omega)) (Heap.Le.refl _) ?_
    by_cases ae : a.e = true
    ·rw [ae, Bool.true_and] at hE2
     repeat' (first | with_reducible refine And.intro ?_ ?_ | simp only [go_sem,seval, e2, e3, wk, ae] | simp (disch := omega) only [wrap64, Rw_at] | simp (disch := first | omega | grind) only [heap_ne_] | (intro hx_; try simp only [set_none] at hx_) | omega)
     rename_i b6
     exact wk_mk [(2, .box b2 0), (3, .box b3 0), (4, .box b4 0), (6, .box b6 0)] _ (by (try simp only [go_sem,seval]) <;> (try simp (disch := omega) [wrap64]) <;> (try omega)) (Heap.Le.refl _) (hJ _ _ (by rw [hE2]; exact BxI.start hx_ 2 _))
    ·have ae : a.e = false := by simpa using ae
     rw [ae, Bool.false_and] at hE2
     repeat' (first | with_reducible refine And.intro ?_ ?_ | simp only [go_sem,seval, e2, e3, wk, ae] | simp (disch := omega) only [wrap64, Rw_at] | simp (disch := first | omega | grind) only [heap_ne_] | (intro hx_; try simp only [set_none] at hx_) | omega)
     rename_i b6
     exact wk_mk [(2, .box b2 0), (3, .box b3 0), (4, .box b4 0), (6, .box b6 0)] _ (by (try simp only [go_sem,seval]) <;> (try simp (disch := omega) [wrap64]) <;> (try omega)) (Heap.Le.refl _) (hJ _ _ (by rw [hE2]; exact BxI.start hx_ 2 _))
   intro b6 Hq f0
   have e2q := f0.le _ _ e2
   have e3q := f0.le _ _ e3
   repeat' (first | with_reducible refine And.intro ?_ ?_ | simp only [go_sem,seval, e2q, e3q] | simp (disch := omega) only [wrap64, Rw_at] | simp (disch := first | omega | grind) only [heap_ne_] | (intro hx_; try simp only [set_none] at hx_) | omega)
   rename_i bm hm bs
   have hbs := hx_
   clear hx_ e2q e3q
   refine ACalls.vec1 (heap_same _ _) rfl ?_
   rw [set_del (by simp only [set_none]; exact hbs)]
   clear hbs
   refine concatT_a a.t b.t (by omega) _ ?_
   have hc2 : ∀ t ∈ a.t ++ b.t, t.c.natAbs ≤ 1048576 := fun t ht => (List.mem_append.1 ht).elim (fun g => (valid_terms va t g).2) (fun g => (valid_terms vb t g).2)
   have hn2 := names_two a b
   have hs2 := sum_two va vb
   have hl2 : (a.t ++ b.t).length ≤ 24 := by rw [List.length_append]; omega
   have hst : ∀ t ∈ a.t ++ b.t, t.v.size ≤ 140737488351232 := fun t ht => (List.mem_append.1 ht).elim (fa.str t) (fb.str t)
   have hpt : (plusL a b).t = sumT (fun s => sumN (a.t ++ b.t) s) (varsL [a, b]) := sumT_congr fun s _ => (hs2 s).symm
   generalize a.t ++ b.t = L at hc2 hn2 hl2 hst hpt ⊢
   have hsa : ∀ i s, i ≤ L.length → (sumN (L.take i) s).natAbs ≤ 25165824 := fun i s hi => by
    have := sumN_abs s (L.take i) (fun t ht => hc2 t (List.mem_of_mem_take ht))
    rw [List.length_take, Nat.min_eq_left hi] at this
    have h3 : i * 1048576 ≤ 24 * 1048576 := Nat.mul_le_mul_right _ (by omega)
    omega
   repeat' (first | with_reducible refine And.intro ?_ ?_ | simp only [go_sem,seval] | simp (disch := omega) only [wrap64, Rw_at] | simp (disch := first | omega | grind) only [heap_ne_] | (intro hx_; try simp only [set_none] at hx_) | omega)
   rw [show ([] : List (D × D)) = strM (mF L 0) (mK L 0) from rfl]
   refine loop_c [4, 6, 7, 40, 41] (fun (i : Nat) => [(42, .int .i64 i)]) (fun (i : Nat) => Hq.set bm (.map (strM (mF L i) (mK L i)))) (fun (i : Nat) => i ≤ L.length) (fun (i : Nat) => L.length - i) (0) (Nat.zero_le _) (by (try simp only [go_sem,seval]) <;> (try simp (disch := omega) [wrap64]) <;> (try omega)) (by first | with_reducible exact Heap.Le.refl _ | exact heap_set_le (by assumption) | exact Heap.Le.refl _ | exact heap_le_set (by assumption) | exact (by simp only [Go.Av.Heap.Le, Go.Av.Heap.set, Go.Av.Heap.del] at * <;> grind)) ?_
   rintro Ec rfl i hi
   by_cases hlt : i < L.length
   ·have hkd : decide ((i : Int) < L.length) = true := decide_eq_true (by omega)
    have hti : (i : Int) < L.length := by omega
    have hnd := mK_nodup L i
    have h1 := hsa i L[i].v (by omega)
    have h2 := hc2 _ (List.getElem_mem hlt)
    have wn : IntKind.i64.wrap (sumN (L.take i) L[i].v + L[i].c) = sumN (L.take i) L[i].v + L[i].c := wrap64 (by omega) (by omega)
    repeat' (first | with_reducible refine And.intro ?_ ?_ | simp only [go_sem,seval, hkd, hti, Rw_at _ _ hlt, Rw_get _ _ hlt, mF_look, wn, putH_strM _ _ _ _ hnd, mF_next _ _ hlt, mK_next _ _ hlt] | simp (disch := omega) only [wrap64, Rw_at] | simp (disch := first | omega | grind) only [heap_ne_] | (intro hx_; try simp only [set_none] at hx_) | omega)
    rename_i b9
    have h9 := hx_
    clear hx_
    refine nx_mk (i + 1) (by omega) (by omega) (by (try simp only [go_sem,seval]) <;> (try simp (disch := omega) [wrap64]) <;> (try omega)) ?_
    refine Heap.Le.trans (heap_le_set (b := b9) (o := .box (ltC L[i])) (by simp only [set_none]; exact h9)) (le_swap h9.1)
   ·have hkd : decide ((i : Int) < L.length) = false := decide_eq_false (by omega)
    have hie : i = L.length := by omega
    subst hie
    have hkm : ∀ s, s ∈ mK L L.length ↔ ∃ t ∈ L, t.v = s := fun s => by rw [mK_mem, List.take_length]
    have hkl : (mK L L.length).length ≤ 24 := by
     have := foldK_len ((L.take L.length).map (·.v)) []
     rw [List.length_nil, List.length_map, List.length_take] at this
     unfold mK; omega
    have hlk := mF_look L L.length
    rw [List.take_length] at hlk
    generalize mK L L.length = ks at hkm hkl hlk ⊢
    generalize mF L L.length = fm at hlk ⊢
    repeat' (first | with_reducible refine And.intro ?_ ?_ | simp only [go_sem,seval, hkd] | simp (disch := omega) only [wrap64, Rw_at] | simp (disch := first | omega | grind) only [heap_ne_] | (intro hx_; try simp only [set_none] at hx_) | omega)
    refine keysI_a bm _ fun bk hbk => ?_
    have f1 : ((Hq.set bm (.map (strM fm ks))).set bk (.box [.map bm])) bk = some (.box [.map bm]) := heap_same _ _
    have em : ((Hq.set bm (.map (strM fm ks))).set bk (.box [.map bm])) bm = some (.map (strM fm ks)) := (heap_le_set hbk) _ _ (heap_same _ _)
    replace f0 := f0.up ((heap_le_set (o := .map (strM fm ks)) hm).trans (heap_le_set (o := .box [.map bm]) hbk))
    generalize (Hq.set bm (.map (strM fm ks))).set bk (.box [.map bm]) = Hr at f0 f1 em ⊢
    repeat' (first | with_reducible refine And.intro ?_ ?_ | simp only [go_sem,seval] | simp (disch := omega) only [wrap64, Rw_at] | simp (disch := first | omega | grind) only [heap_ne_] | (intro hx_; try simp only [set_none] at hx_) | omega)
    refine sortI_a bk bm fm ks (by omega) (fun s hs => by obtain ⟨t, ht, rfl⟩ := (hkm s).1 hs; have := hst t ht; omega) _ f1 em fun v hv hm2 => ?_
    have ev : v = varsL [a, b] := up_ext hv (varsL_up _) fun s => by rw [hm2, hkm, hn2]
    have hvl : v.length ≤ 24 := by
     have hw := foldW_len (namesL [a, b]) []
     have hnl := names_len [a, b] (fun c hc => by simp at hc; rcases hc with rfl | rfl <;> assumption)
     simp only [List.length_cons, List.length_nil] at hw hnl
     rw [ev]; unfold varsL; omega
    rw [← ev] at hpt
    clear ev hm2 hkm f1 hbk hm
    have z0 : sumT (fun s => sumN L s) (v.take 0) = [] := by simp [sumT]
    repeat' (first | with_reducible refine And.intro ?_ ?_ | simp only [go_sem,seval] | simp (disch := omega) only [wrap64, Rw_at] | simp (disch := first | omega | grind) only [heap_ne_] | (intro hx_; try simp only [set_none] at hx_) | omega)
    refine loop_c [4, 6, 7, 56, 57] (fun (p : Nat × Option Nat × Heap) => [(58, .int .i64 p.1)]) (fun (p : Nat × Option Nat × Heap) => p.2.2) (fun (p : Nat × Option Nat × Heap) => p.1 ≤ v.length ∧ BxI Bs b6 2 (sumT (fun s => sumN L s) (v.take p.1)).length (Rw ltC (sumT (fun s => sumN L s) (v.take p.1))) [.int .i64 (a.k + b.k), .bool E] p.2.1 p.2.2 ∧ p.2.2 bm = some (.map (strM fm ks))) (fun (p : Nat × Option Nat × Heap) => v.length - p.1) ((0, none, Hr)) (⟨Nat.zero_le _, by rw [z0]; exact f0, em⟩) (by (try simp only [go_sem,seval]) <;> (try simp (disch := omega) [wrap64]) <;> (try omega)) (by first | with_reducible exact Heap.Le.refl _ | exact heap_set_le (by assumption) | exact Heap.Le.refl _ | exact heap_le_set (by assumption) | exact (by simp only [Go.Av.Heap.Le, Go.Av.Heap.set, Go.Av.Heap.del] at * <;> grind)) ?_
    clear f0 z0 em
    rintro Ec rfl ⟨i, ob, Hp⟩ ⟨hi, fi, em⟩
    simp only at hi fi em
    have e6 := fi.ex
    by_cases hlt : i < v.length
    ·have hkd : decide ((i : Int) < v.length) = true := decide_eq_true (by omega)
     have hti : (i : Int) < v.length := by omega
     have hx := sumT_next (fun s => sumN L s) v i hlt
     have hsl := sumT_len (fun s => sumN L s) (v.take i)
     rw [List.length_take] at hsl
     have lk := hlk v[i]
     by_cases n0 : sumN L v[i] = 0
     ·have nd : decide (sumN L v[i] = 0) = true := decide_eq_true n0
      simp only [n0, ne_eq, not_true, if_false, List.append_nil] at hx
      repeat' (first | with_reducible refine And.intro ?_ ?_ | simp only [go_sem,seval, hkd, hti, Rw_at _ _ hlt, Rw_get _ _ hlt, em, lk, nd] | simp (disch := omega) only [wrap64, Rw_at] | simp (disch := first | omega | grind) only [heap_ne_] | (intro hx_; try simp only [set_none] at hx_) | omega)
      refine nx_mk (i + 1, ob, _) ⟨by simp only []; omega, ?_, em⟩ (by simp only []; omega) (by (try simp only [go_sem,seval]) <;> (try simp (disch := omega) [wrap64]) <;> (try omega)) (Heap.Le.refl _)
      simp only []
      rw [hx]; exact fi
     ·have nd : decide (sumN L v[i] = 0) = false := decide_eq_false n0
      simp only [n0, ne_eq, not_false_eq_true, if_true] at hx
      repeat' (first | with_reducible refine And.intro ?_ ?_ | simp only [go_sem,seval, hkd, hti, Rw_at _ _ hlt, Rw_get _ _ hlt, em, lk, nd, e6] | simp (disch := omega) only [wrap64, Rw_at] | simp (disch := first | omega | grind) only [heap_ne_] | (intro hx_; try simp only [set_none] at hx_) | omega)
      rename_i bx
      have hbx := hx_
      clear hx_
      refine apS_z (P := Tryz.prog) (es := Rw ltC (sumT (fun s => sumN L s) (v.take i))) hbx (by simp) fi.eo (by rw [Rw_len]) (by simp only [List.length_cons, List.length_nil]; omega) (by simp only [List.length_cons, List.length_nil]; omega) fun b' H' hA => ?_
      have hY : Rw ltC (sumT (fun s => sumN L s) (v.take i)) ++ [[D.str v[i], .int .i64 (sumN L v[i])]] = Rw ltC (sumT (fun s => sumN L s) (v.take (i + 1))) := by rw [hx, ← Rw_app]; rfl
      have hlen1 : (sumT (fun s => sumN L s) (v.take i)).length + 1 = (sumT (fun s => sumN L s) (v.take (i + 1))).length := by rw [hx]; simp
      rw [hY] at hA
      obtain ⟨g1, e6'⟩ := fi.ap (m := (sumT (fun s => sumN L s) (v.take (i + 1))).length) (Heap.Le.refl _) hA
      have em' := hA.2.1 bm _ em (fun e => by have := fi.eo.some_of e; rw [em] at this; cases this)
      have nm6 : bm ≠ b6 := fun e => by rw [e, e6] at em; cases em
      repeat' (first | with_reducible refine And.intro ?_ ?_ | simp only [go_sem,seval, e6'] | simp (disch := omega) only [wrap64, Rw_at] | simp (disch := first | omega | grind) only [heap_ne_] | (intro hx_; try simp only [set_none] at hx_) | omega)
      rw [← hlen1] at g1
      refine nx_mk (i + 1, some b', _) ⟨by simp only []; omega, ?_, (heap_ne _ nm6).trans em'⟩ (by simp only []; omega) (by (try simp only [go_sem,seval, out_some]) <;> (try simp (disch := omega) [wrap64]) <;> (try omega)) (Heap.Le.refl _)
      simp only []
      rw [← hlen1]; exact g1
    ·have hkd : decide ((i : Int) < v.length) = false := decide_eq_false (by omega)
     have hie : i = v.length := by omega
     subst hie
     rw [List.take_length, ← hpt] at fi e6
     have o1 := lin_o1 2 (plusL a b).t.length ob
     have e4d := fi.le _ _ e4
     have hbH : ∀ x, ob = some x → H x = none := fun x e => hle.none (fi.no x e)
     have hnb := ob_ne fi.no e4
     have hpu : (putB H 2 (Rw ltC (plusL a b).t) ob).Le Hp := fun k o hk => fi.put k o (putB_to hle k o hk)
     repeat' (first | with_reducible refine And.intro ?_ ?_ | simp only [go_sem,seval, hkd, e6] | simp (disch := omega) only [wrap64, Rw_at] | simp (disch := first | omega | grind) only [heap_ne_] | (intro hx_; try simp only [set_none] at hx_) | omega)
     rw [hE]
     refine limited_o (plusL a b) fp ob _ fi.eo (fun hv => ?_) (fun hv => ?_)
     ·have el : limitedL (plusL a b) = (plusL a b, 0) := if_pos hv
      rw [el] at h
      repeat' (first | with_reducible refine And.intro ?_ ?_ | simp only [go_sem,seval, e4d, o1] | simp (disch := omega) only [wrap64, Rw_at] | simp (disch := first | omega | grind) only [heap_ne_] | (intro hx_; try simp only [set_none] at hx_) | omega)
      exact Fin.less (putB_set hpu g4' hnb) (h ob (fun x => by rw [x] at fi; exact fi.eo) hbH)
     ·have el : limitedL (plusL a b) = (nilL, 3) := if_neg (by rw [hv]; decide)
      rw [el] at h
      repeat' (first | with_reducible refine And.intro ?_ ?_ | simp only [go_sem,seval, e4d] | simp (disch := omega) only [wrap64, Rw_at] | simp (disch := first | omega | grind) only [heap_ne_] | (intro hx_; try simp only [set_none] at hx_) | omega)
      exact Fin.less (le_set4 (hle.trans fi.le) g4') h.nil
  ·have vb : validL b = false := by simpa using vb
   have e : addL a b = (nilL, 2) := by unfold addL; rw [if_neg (by rw [vb]; simp)]
   rw [e] at h
   repeat' (first | with_reducible refine And.intro ?_ ?_ | simp only [go_sem,seval, e2, e3, e4, va, vb] | simp (disch := omega) only [wrap64, Rw_at] | simp (disch := first | omega | grind) only [heap_ne_] | (intro hx_; try simp only [set_none] at hx_) | with_reducible refine valid_a a fa _ ?_ | with_reducible refine valid_a b fb _ ?_ | omega)
   exact Fin.less (hls _) h.nil
 ·have va : validL a = false := by simpa using va
  have e : addL a b = (nilL, 2) := by unfold addL; rw [if_neg (by rw [va]; simp)]
  rw [e] at h
  repeat' (first | with_reducible refine And.intro ?_ ?_ | simp only [go_sem,seval, e2, e3, e4, va] | simp (disch := omega) only [wrap64, Rw_at] | simp (disch := first | omega | grind) only [heap_ne_] | (intro hx_; try simp only [set_none] at hx_) | with_reducible refine valid_a a fa _ ?_ | omega)
  exact Fin.less (hls _) h.nil
theorem add_a {Q} (a b : LinV) (fa : LinFit a) (fb : LinFit b) (H : Heap) (h : Q (.tuple [.agg (linC (addL a b).1), .int .i64 (addL a b).2]) H) : ACalls Tryz.prog 19 [.agg (linC a), .agg (linC b)] H Q :=
 ACalls.fin (add_o a b fa fb H (own_fin h))
end Go.Proofs.YtacekpdodelnbaaGreatDoor
end
section
set_option maxRecDepth 20000
namespace Go.Proofs.YtacekpdodelnbaaGreatDoor
open Go Go.Av Go.Lexs Go.Lin
attribute [local irreducible] ACalls at8
theorem lSame_a {Q} (l : List VlV) (fl : VlFit l) (H : Heap) (h : Q (.bool true) H) : ACalls Tryz.prog 38 [.sl 2 (Rw vlC l), .sl 2 (Rw vlC l)] H Q := by
 refine acalls_of_wp [(6, .par)] Tryz.mixed Tryz.func38 rfl (by kernel_rfl) (of_decide_eq_true (by kernel_rfl)) (by kernel_rfl) ?_
 simp only [go_sem,seval, Tryz.results38]
 have hlen := fl.len
 refine loop_c [0, 1, 12] (fun (i : Nat) => [(13, .int .i64 i)]) (fun (i : Nat) => H) (fun (i : Nat) => i ≤ l.length) (fun (i : Nat) => l.length - i) (0) (Nat.zero_le _) (by (try simp only [go_sem,seval]) <;> (try simp (disch := omega) [wrap64]) <;> (try omega)) (by first | with_reducible exact Heap.Le.refl _ | exact heap_set_le (by assumption) | exact Heap.Le.refl _ | exact heap_le_set (by assumption) | exact (by simp only [Go.Av.Heap.Le, Go.Av.Heap.set, Go.Av.Heap.del] at * <;> grind)) ?_
 rintro Ec rfl i hi
 by_cases hlt : i < l.length
 ·have hkd : decide ((i : Int) < l.length) = true := decide_eq_true (by omega)
  have hti : (i : Int) < l.length := by omega
  repeat' (first | with_reducible refine And.intro ?_ ?_ | simp only [go_sem,seval, hkd, hti, Rw_at _ _ hlt, Rw_get _ _ hlt] | simp (disch := omega) only [wrap64, Rw_at] | intro hx_ | omega)
  refine par_mk (fun i' => .undef) [] ?_
  repeat' (first | with_reducible refine And.intro ?_ ?_ | simp only [go_sem,seval, hkd, hti, Rw_at _ _ hlt, Rw_get _ _ hlt] | simp (disch := omega) only [wrap64, Rw_at] | intro hx_ | omega)
  exact nx_mk (i + 1) (by omega) (by omega) (by (try simp only [go_sem,seval]) <;> (try simp (disch := omega) [wrap64]) <;> (try omega)) (by simp only [Go.Av.Heap.Le, Go.Av.Heap.set, Go.Av.Heap.del] at * <;> grind)
 ·have hkd : decide ((i : Int) < l.length) = false := decide_eq_false (by omega)
  repeat' (first | with_reducible refine And.intro ?_ ?_ | simp only [go_sem,seval, hkd] | simp (disch := omega) only [wrap64, Rw_at] | intro hx_ | omega)
  exact Fin.same h
theorem rSame_a {Q} (a : LinV) (fa : LinFit a) (H : Heap) (h : Q (.bool true) H) : ACalls Tryz.prog 27 [.agg (linC a), .agg (linC a)] H Q := by
 refine acalls_of_wp [(6, .par)] Tryz.mixed Tryz.func27 rfl (by kernel_rfl) (of_decide_eq_true (by kernel_rfl)) (by kernel_rfl) ?_
 simp only [go_sem,seval, Tryz.results27]
 intro b2 g2 b3 g3
 simp only [set_none] at g3
 have e2 : ((H.set b2 (.box (linC a))).set b3 (.box (linC a))) b2 = some (.box (linC a)) := by rw [heap_ne _ g3.1.symm, heap_same]
 have e3 : ((H.set b2 (.box (linC a))).set b3 (.box (linC a))) b3 = some (.box (linC a)) := heap_same _ _
 have hle : H.Le ((H.set b2 (.box (linC a))).set b3 (.box (linC a))) := (heap_le_set g2).trans (heap_le_set (by simp only [set_none]; exact g3))
 generalize (H.set b2 (.box (linC a))).set b3 (.box (linC a)) = Bs at e2 e3 hle ⊢
 have m2 : b2 ∈ [b2, b3] := by simp
 have m3 : b3 ∈ [b2, b3] := by simp
 have hlen := fa.len
 obtain ⟨T, K, E⟩ := a
 have hlen : T.length ≤ 5864062014639 := hlen
 have hee : (E == E) = true := by cases E <;> rfl
 repeat' (first | with_reducible refine And.intro ?_ ?_ | simp only [go_sem,seval, e2, e3, hee] | simp (disch := omega) only [wrap64, Rw_at] | (intro hx_; try simp only [set_none] at hx_) | omega)
 refine loop_c [2, 3, 29] (fun (i : Nat) => [(30, .int .i64 i)]) (fun (i : Nat) => Bs) (fun (i : Nat) => i ≤ T.length) (fun (i : Nat) => T.length - i) (0) (Nat.zero_le _) (by (try simp only [go_sem,seval]) <;> (try simp (disch := omega) [wrap64]) <;> (try omega)) (by first | with_reducible exact Heap.Le.refl _ | exact heap_set_le (by assumption) | exact Heap.Le.refl _ | exact heap_le_set (by assumption) | exact (by simp only [Go.Av.Heap.Le, Go.Av.Heap.set, Go.Av.Heap.del] at * <;> grind)) ?_
 rintro Ec rfl i hi
 by_cases hlt : i < T.length
 ·have hkd : decide ((i : Int) < T.length) = true := decide_eq_true (by omega)
  have hti : (i : Int) < T.length := by omega
  repeat' (first | with_reducible refine And.intro ?_ ?_ | simp only [go_sem,seval, hkd, hti, Rw_at _ _ hlt, Rw_get _ _ hlt] | simp (disch := omega) only [wrap64, Rw_at] | (intro hx_; try simp only [set_none] at hx_) | omega)
  refine par_mk (fun i' => .undef) [b2, b3] ?_
  repeat' (first | with_reducible refine And.intro ?_ ?_ | simp only [go_sem,seval, hkd, hti, Rw_at _ _ hlt, Rw_get _ _ hlt, e2, e3, m2, m3] | simp (disch := omega) only [wrap64, Rw_at] | (intro hx_; try simp only [set_none] at hx_) | omega)
  exact nx_mk (i + 1) (by omega) (by omega) (by (try simp only [go_sem,seval]) <;> (try simp (disch := omega) [wrap64]) <;> (try omega)) (by simp only [Go.Av.Heap.Le, Go.Av.Heap.set, Go.Av.Heap.del] at * <;> grind)
 ·have hkd : decide ((i : Int) < T.length) = false := decide_eq_false (by omega)
  repeat' (first | with_reducible refine And.intro ?_ ?_ | simp only [go_sem,seval, hkd] | simp (disch := omega) only [wrap64, Rw_at] | (intro hx_; try simp only [set_none] at hx_) | omega)
  exact Fin.less hle h
theorem few_a {Q} (l : List LinV) (hl : l.length ≤ 5864062014639) (fl : ∀ c ∈ l, LinFit c) (H : Heap) (h : ∀ b, Q (.bool b) H) : ACalls Tryz.prog 13 [.sl 3 (Rw linC l)] H Q := by
 refine acalls_of_wp [] Tryz.mixed Tryz.func13 rfl (by kernel_rfl) (of_decide_eq_true (by kernel_rfl)) (by kernel_rfl) ?_
 simp only [go_sem,seval, Tryz.results13]
 refine loop_c [8, 9] (fun (p : Nat × Int) => [(10, .int .i64 p.1), (3, .int .i64 p.2)]) (fun (p : Nat × Int) => H) (fun (p : Nat × Int) => p.1 ≤ l.length) (fun (p : Nat × Int) => l.length - p.1) ((0, 0)) (Nat.zero_le _) (by (try simp only [go_sem,seval]) <;> (try simp (disch := omega) [wrap64]) <;> (try omega)) (by first | with_reducible exact Heap.Le.refl _ | exact heap_set_le (by assumption) | exact Heap.Le.refl _ | exact heap_le_set (by assumption) | exact (by simp only [Go.Av.Heap.Le, Go.Av.Heap.set, Go.Av.Heap.del] at * <;> grind)) ?_
 rintro Ec rfl ⟨i, n⟩ hi
 simp only at hi
 by_cases hlt : i < l.length
 ·have hkd : decide ((i : Int) < l.length) = true := decide_eq_true (by omega)
  have hti : (i : Int) < l.length := by omega
  have fc := fl _ (List.getElem_mem hlt)
  have hcl := fc.len
  repeat' (first | with_reducible refine And.intro ?_ ?_ | simp only [go_sem,seval, hkd, Rw_at _ _ hlt, Rw_get _ _ hlt] | simp (disch := omega) only [wrap64, Rw_at] | intro hx_ | omega)
  rename_i b5
  have h5 := hx_
  clear hx_
  have hle : H.Le (H.set b5 (.box (linC l[i]))) := heap_le_set h5
  obtain ⟨n1, hn1⟩ : ∃ n1, n1 = IntKind.i64.wrap (n + (1 + (l[i].t.length : Int))) := ⟨_, rfl⟩
  refine loop_c [8, 9, 10, 21, 22] (fun (p : Nat × Int) => [(23, .int .i64 p.1), (3, .int .i64 p.2)]) (fun (p : Nat × Int) => H) (fun (p : Nat × Int) => p.1 ≤ l[i].t.length) (fun (p : Nat × Int) => l[i].t.length - p.1) ((0, n1)) (Nat.zero_le _) (by (try simp only [go_sem,seval]) <;> (try simp (disch := omega) [wrap64]) <;> (try omega)) (by first | with_reducible exact Heap.Le.refl _ | exact heap_set_le (by assumption) | exact Heap.Le.refl _ | exact heap_le_set (by assumption) | exact (by simp only [Go.Av.Heap.Le, Go.Av.Heap.set, Go.Av.Heap.del] at * <;> grind)) ?_
  rintro Ec rfl ⟨j, n⟩ hj
  simp only at hj
  by_cases hjt : j < l[i].t.length
  ·have hkd2 : decide ((j : Int) < l[i].t.length) = true := decide_eq_true (by omega)
   have hjr : (j : Int) < l[i].t.length := by omega
   have hsz := fc.str _ (List.getElem_mem hjt)
   repeat' (first | with_reducible refine And.intro ?_ ?_ | simp only [go_sem,seval, hkd2, hjr, Rw_at _ _ hjt, Rw_get _ _ hjt] | simp (disch := omega) only [wrap64, Rw_at] | intro hx_ | omega)
   exact nx_mk (j + 1, IntKind.i64.wrap (n + (l[i].t[j].v.size : Int) / 100)) (by simp only []; omega) (by simp only []; omega) (by (try simp only [go_sem,seval]) <;> (try simp (disch := omega) [wrap64]) <;> (try omega)) (by simp only [Go.Av.Heap.Le, Go.Av.Heap.set, Go.Av.Heap.del] at * <;> grind)
  ·have hkd2 : decide ((j : Int) < l[i].t.length) = false := decide_eq_false (by omega)
   repeat' (first | with_reducible refine And.intro ?_ ?_ | simp only [go_sem,seval, hkd2] | simp (disch := omega) only [wrap64, Rw_at] | intro hx_ | omega)
   exact nx_mk (i + 1, n) (by simp only []; omega) (by simp only []; omega) (by (try simp only [go_sem,seval]) <;> (try simp (disch := omega) [wrap64]) <;> (try omega)) (by simp only [Go.Av.Heap.Le, Go.Av.Heap.set, Go.Av.Heap.del] at * <;> grind)
 ·have hkd : decide ((i : Int) < l.length) = false := decide_eq_false (by omega)
  repeat' (first | with_reducible refine And.intro ?_ ?_ | simp only [go_sem,seval, hkd] | simp (disch := omega) only [wrap64, Rw_at] | intro hx_ | omega)
  exact Fin.same (h _)
end Go.Proofs.YtacekpdodelnbaaGreatDoor
end
section
set_option maxRecDepth 20000
namespace Go.Lin
open Go Go.Av Go.Lexs
theorem itoa_any (n : Int) : Lib.itoa n = (if n < 0 then [45] else []) ++ dec n.natAbs := by
 unfold Lib.itoa dec
 by_cases h : n < 0
 ·rw [if_pos h, if_pos h]; rfl
 ·rw [if_neg h, if_neg h]
  have : n.toNat = n.natAbs := by omega
  rw [this]; rfl
theorem itoa_len (n : Int) (h : n.natAbs < 10000000000000000000) : (Lib.itoa n).length ≤ 20 := by
 rw [itoa_any, List.length_append]
 have := dec_len 18 n.natAbs (by omega)
 split <;> simp <;> omega
theorem take_emp {α : Type} (T : List α) (i : Nat) (h : i < T.length) : (T.take i).isEmpty = decide (i = 0) := by
 cases T with
 | nil => simp at h
 | cons x T => cases i <;> simp
end Go.Lin
namespace Go.Proofs.YtacekpdodelnbaaGreatDoor
open Go Go.Av Go.Lexs Go.Lin
attribute [local irreducible] ACalls at8
set_option maxHeartbeats 1000000 in
theorem text_a {Q} (a : LinV) (fa : LinFit a) (H : Heap) (hT : Tabs H) (h : Q (.tuple [.str (if validL a = true then S (textB a) else S []), .int .i64 (if validL a = true then 0 else 2)]) H) : ACalls Tryz.prog 30 [.agg (linC a)] H Q := by
 refine acalls_of_wp [] Tryz.mixed Tryz.func30 rfl (by kernel_rfl) (of_decide_eq_true (by kernel_rfl)) (by kernel_rfl) ?_
 simp only [go_sem,seval, Tryz.results30]
 intro b2 g2
 have e2 : (H.set b2 (.box (linC a))) b2 = some (.box (linC a)) := heap_same _ _
 have hle : H.Le (H.set b2 (.box (linC a))) := heap_le_set g2
 generalize H.set b2 (.box (linC a)) = Bs at e2 hle ⊢
 have hTb := hT.le hle
 by_cases c : validL a = true
 ·rw [if_pos c, if_pos c] at h
  have hlen := (valid_ok c).len
  have vt := valid_terms c
  have nm : ∀ t ∈ a.t, t.v.size ≤ 200 := fun t ht => name_size ((okAt_mem (valid_ok c).t t ht).1)
  repeat' (first | with_reducible refine And.intro ?_ ?_ | simp only [go_sem,seval, e2, c] | simp (disch := omega) only [wrap64, Rw_at] | intro hx_ | with_reducible refine valid_a a fa _ ?_ | omega)
  refine loop_c [1, 12, 13] (fun (p : Nat × ByteArray × Heap) => [(14, .int .i64 p.1), (4, .str p.2.1)]) (fun (p : Nat × ByteArray × Heap) => p.2.2) (fun (p : Nat × ByteArray × Heap) => p.1 ≤ a.t.length ∧ B p.2.1 = termsB true (a.t.take p.1) ∧ p.2.1.size ≤ 1000 * p.1 ∧ Bs.Le p.2.2) (fun (p : Nat × ByteArray × Heap) => a.t.length - p.1) ((0, ⟨#[]⟩, Bs)) (⟨Nat.zero_le _, rfl, Nat.zero_le _, Heap.Le.refl _⟩) (by (try simp only [go_sem,seval]) <;> (try simp (disch := omega) [wrap64]) <;> (try omega)) (by first | with_reducible exact Heap.Le.refl _ | exact heap_set_le (by assumption) | exact Heap.Le.refl _ | exact heap_le_set (by assumption) | exact (by simp only [Go.Av.Heap.Le, Go.Av.Heap.set, Go.Av.Heap.del] at * <;> grind)) ?_
  rintro Ec rfl ⟨i, x, Hp⟩ ⟨hi, hX, hXl, hp⟩
  simp only at hi hX hXl hp
  by_cases hlt : i < a.t.length
  ·have hkd : decide ((i : Int) < a.t.length) = true := decide_eq_true (by omega)
   have hti : (i : Int) < a.t.length := by omega
   obtain ⟨x0, x1⟩ := vt _ (List.getElem_mem hlt)
   have hnm := nm _ (List.getElem_mem hlt)
   have hTp := hTb.le hp
   have hz : ∀ b o, Hp b = none → Tabs (Hp.set b o) := fun b o hb => hTp.le (heap_le_set hb)
   have z45 : (⟨#[45]⟩ : ByteArray).size = 1 := rfl
   have z43 : (⟨#[43]⟩ : ByteArray).size = 1 := rfl
   have z42 : (⟨#[42]⟩ : ByteArray).size = 1 := rfl
   have tk : termsB true (a.t.take (i + 1)) = termsB true (a.t.take i) ++ termB (decide (i = 0)) a.t[i] := by rw [List.take_succ_eq_append_getElem hlt, termsB_snoc, take_emp _ _ hlt, Bool.true_and]
   have ws : IntKind.i64.wrap (0 - a.t[i].c) = -a.t[i].c := by rw [wrap64 (by omega) (by omega)]; omega
   have hil := itoa_len a.t[i].c (by omega)
   by_cases q1 : a.t[i].c < 0
   ·have hil := itoa_len (-a.t[i].c) (by omega)
    by_cases q2 : -a.t[i].c = 1
    ·have q3 : True := trivial
     repeat' (first | with_reducible refine And.intro ?_ ?_ | simp only [go_sem,seval, hkd, hti, Rw_at _ _ hlt, Rw_get _ _ hlt, ws, q1, q2, q3, hil] | simp (disch := omega) only [wrap64, Rw_at] | intro hx_ | with_reducible refine itoa_a _ (by omega) (by omega) _ (hz _ _ (by assumption)) ?_ | omega)
     have qa : a.t[i].c.natAbs = 1 := by omega
     have qi : Lib.itoa (-a.t[i].c) = dec a.t[i].c.natAbs := by rw [itoa_any, if_neg (by omega), List.nil_append] <;> (try (congr 1; omega))
     skip
     refine nx_mk (i + 1, x ++ ⟨#[45]⟩ ++ a.t[i].v, _) ⟨by simp only []; omega, ?_, ?_, hp.trans (heap_le_set (by assumption))⟩ (by simp only []; omega) (by (try simp only [go_sem,seval]) <;> (try simp (disch := omega) [wrap64]) <;> (try omega)) (Heap.Le.refl _)
     ·simp only [B_app, B_S, B_lit, hX, tk, termB, qa, q1, qi, if_true, if_false]
      simp
     ·simp only [ByteArray.size_append, S_size, z45, z43, z42]; omega
    ·have q3 : True := trivial
     repeat' (first | with_reducible refine And.intro ?_ ?_ | simp only [go_sem,seval, hkd, hti, Rw_at _ _ hlt, Rw_get _ _ hlt, ws, q1, q2, q3, hil] | simp (disch := omega) only [wrap64, Rw_at] | intro hx_ | with_reducible refine itoa_a _ (by omega) (by omega) _ (hz _ _ (by assumption)) ?_ | omega)
     have qa : ¬ a.t[i].c.natAbs = 1 := by omega
     have qi : Lib.itoa (-a.t[i].c) = dec a.t[i].c.natAbs := by rw [itoa_any, if_neg (by omega), List.nil_append] <;> (try (congr 1; omega))
     skip
     refine nx_mk (i + 1, x ++ ⟨#[45]⟩ ++ (S (Lib.itoa (-a.t[i].c)) ++ ⟨#[42]⟩) ++ a.t[i].v, _) ⟨by simp only []; omega, ?_, ?_, hp.trans (heap_le_set (by assumption))⟩ (by simp only []; omega) (by (try simp only [go_sem,seval]) <;> (try simp (disch := omega) [wrap64]) <;> (try omega)) (Heap.Le.refl _)
     ·simp only [B_app, B_S, B_lit, hX, tk, termB, qa, q1, qi, if_true, if_false]
      simp
     ·simp only [ByteArray.size_append, S_size, z45, z43, z42]; omega
   ·by_cases q3 : (0 : Int) < i
    ·by_cases q2 : a.t[i].c = 1
     ·repeat' (first | with_reducible refine And.intro ?_ ?_ | simp only [go_sem,seval, hkd, hti, Rw_at _ _ hlt, Rw_get _ _ hlt, ws, q1, q2, q3, hil] | simp (disch := omega) only [wrap64, Rw_at] | intro hx_ | with_reducible refine itoa_a _ (by omega) (by omega) _ (hz _ _ (by assumption)) ?_ | omega)
      have qa : a.t[i].c.natAbs = 1 := by omega
      have qi : Lib.itoa a.t[i].c = dec a.t[i].c.natAbs := by rw [itoa_any, if_neg (by omega), List.nil_append] <;> (try (congr 1; omega))
      have qz : decide (i = 0) = false := by simp; omega
      refine nx_mk (i + 1, x ++ ⟨#[43]⟩ ++ a.t[i].v, _) ⟨by simp only []; omega, ?_, ?_, hp.trans (heap_le_set (by assumption))⟩ (by simp only []; omega) (by (try simp only [go_sem,seval]) <;> (try simp (disch := omega) [wrap64]) <;> (try omega)) (Heap.Le.refl _)
      ·simp only [B_app, B_S, B_lit, hX, tk, termB, qa, q1, qi, qz, if_true, if_false]
       simp
      ·simp only [ByteArray.size_append, S_size, z45, z43, z42]; omega
     ·repeat' (first | with_reducible refine And.intro ?_ ?_ | simp only [go_sem,seval, hkd, hti, Rw_at _ _ hlt, Rw_get _ _ hlt, ws, q1, q2, q3, hil] | simp (disch := omega) only [wrap64, Rw_at] | intro hx_ | with_reducible refine itoa_a _ (by omega) (by omega) _ (hz _ _ (by assumption)) ?_ | omega)
      have qa : ¬ a.t[i].c.natAbs = 1 := by omega
      have qi : Lib.itoa a.t[i].c = dec a.t[i].c.natAbs := by rw [itoa_any, if_neg (by omega), List.nil_append] <;> (try (congr 1; omega))
      have qz : decide (i = 0) = false := by simp; omega
      refine nx_mk (i + 1, x ++ ⟨#[43]⟩ ++ (S (Lib.itoa a.t[i].c) ++ ⟨#[42]⟩) ++ a.t[i].v, _) ⟨by simp only []; omega, ?_, ?_, hp.trans (heap_le_set (by assumption))⟩ (by simp only []; omega) (by (try simp only [go_sem,seval]) <;> (try simp (disch := omega) [wrap64]) <;> (try omega)) (Heap.Le.refl _)
      ·simp only [B_app, B_S, B_lit, hX, tk, termB, qa, q1, qi, qz, if_true, if_false]
       simp
      ·simp only [ByteArray.size_append, S_size, z45, z43, z42]; omega
    ·by_cases q2 : a.t[i].c = 1
     ·repeat' (first | with_reducible refine And.intro ?_ ?_ | simp only [go_sem,seval, hkd, hti, Rw_at _ _ hlt, Rw_get _ _ hlt, ws, q1, q2, q3, hil] | simp (disch := omega) only [wrap64, Rw_at] | intro hx_ | with_reducible refine itoa_a _ (by omega) (by omega) _ (hz _ _ (by assumption)) ?_ | omega)
      have qa : a.t[i].c.natAbs = 1 := by omega
      have qi : Lib.itoa a.t[i].c = dec a.t[i].c.natAbs := by rw [itoa_any, if_neg (by omega), List.nil_append] <;> (try (congr 1; omega))
      have qz : decide (i = 0) = true := by simp; omega
      refine nx_mk (i + 1, x ++ a.t[i].v, _) ⟨by simp only []; omega, ?_, ?_, hp.trans (heap_le_set (by assumption))⟩ (by simp only []; omega) (by (try simp only [go_sem,seval]) <;> (try simp (disch := omega) [wrap64]) <;> (try omega)) (Heap.Le.refl _)
      ·simp only [B_app, B_S, B_lit, hX, tk, termB, qa, q1, qi, qz, if_true, if_false]
       simp
      ·simp only [ByteArray.size_append, S_size, z45, z43, z42]; omega
     ·repeat' (first | with_reducible refine And.intro ?_ ?_ | simp only [go_sem,seval, hkd, hti, Rw_at _ _ hlt, Rw_get _ _ hlt, ws, q1, q2, q3, hil] | simp (disch := omega) only [wrap64, Rw_at] | intro hx_ | with_reducible refine itoa_a _ (by omega) (by omega) _ (hz _ _ (by assumption)) ?_ | omega)
      have qa : ¬ a.t[i].c.natAbs = 1 := by omega
      have qi : Lib.itoa a.t[i].c = dec a.t[i].c.natAbs := by rw [itoa_any, if_neg (by omega), List.nil_append] <;> (try (congr 1; omega))
      have qz : decide (i = 0) = true := by simp; omega
      refine nx_mk (i + 1, x ++ (S (Lib.itoa a.t[i].c) ++ ⟨#[42]⟩) ++ a.t[i].v, _) ⟨by simp only []; omega, ?_, ?_, hp.trans (heap_le_set (by assumption))⟩ (by simp only []; omega) (by (try simp only [go_sem,seval]) <;> (try simp (disch := omega) [wrap64]) <;> (try omega)) (Heap.Le.refl _)
      ·simp only [B_app, B_S, B_lit, hX, tk, termB, qa, q1, qi, qz, if_true, if_false]
       simp
      ·simp only [ByteArray.size_append, S_size, z45, z43, z42]; omega
  ·have hkd : decide ((i : Int) < a.t.length) = false := decide_eq_false (by omega)
   have hie : i = a.t.length := by omega
   subst hie
   have e2p := hp _ _ e2
   have hTp := hTb.le hp
   rw [List.take_length] at hX
   have vk := (valid_ok c).k
   have hil := itoa_len a.k (by omega)
   have z43 : (⟨#[43]⟩ : ByteArray).size = 1 := rfl
   by_cases t0 : a.t = []
   ·have l0 : (a.t.length : Int) = 0 := by rw [t0]; rfl
    have x0 : x = ⟨#[]⟩ := B_inj (by rw [hX, t0]; rfl)
    by_cases ae : a.e = true
    ·have ae : a.e = true := ae
     have hB : B (x ++ S (Lib.itoa a.k) ++ ⟨#[61, 48]⟩) = textB a := by
      unfold textB bodyB constB
      simp [B_app, B_S, B_lit, hX, ae, konB, itoa_any, t0]
     have hs : S (textB a) = x ++ S (Lib.itoa a.k) ++ ⟨#[61, 48]⟩ := B_inj (by rw [B_S, hB])
     rw [hs] at h
     repeat' (first | with_reducible refine And.intro ?_ ?_ | simp only [go_sem,seval, hkd, e2p, ae, l0] | simp (disch := omega) only [wrap64, Rw_at] | intro hx_ | with_reducible refine itoa_a _ (by omega) (by omega) _ hTp ?_ | omega)
     exact Fin.less (hle.trans hp) h
    ·have ae : a.e = false := by simpa using ae
     have hB : B (x ++ S (Lib.itoa a.k) ++ ⟨#[62, 61, 48]⟩) = textB a := by
      unfold textB bodyB constB
      simp [B_app, B_S, B_lit, hX, ae, konB, itoa_any, t0]
     have hs : S (textB a) = x ++ S (Lib.itoa a.k) ++ ⟨#[62, 61, 48]⟩ := B_inj (by rw [B_S, hB])
     rw [hs] at h
     repeat' (first | with_reducible refine And.intro ?_ ?_ | simp only [go_sem,seval, hkd, e2p, ae, l0] | simp (disch := omega) only [wrap64, Rw_at] | intro hx_ | with_reducible refine itoa_a _ (by omega) (by omega) _ hTp ?_ | omega)
     exact Fin.less (hle.trans hp) h
   ·have l0 : ¬ (a.t.length : Int) = 0 := fun e => t0 (List.eq_nil_of_length_eq_zero (by omega))
    have l1 : (0 : Int) < a.t.length := by omega
    have le : a.t.isEmpty = false := by cases h : a.t with | nil => exact absurd h t0 | cons => rfl
    by_cases k0 : a.k = 0
    ·by_cases ae : a.e = true
     ·have ae : a.e = true := ae
      have hB : B (x ++ ⟨#[61, 48]⟩) = textB a := by
       unfold textB bodyB constB
       simp [B_app, B_S, B_lit, hX, ae, konB, itoa_any, k0, t0]
      have hs : S (textB a) = x ++ ⟨#[61, 48]⟩ := B_inj (by rw [B_S, hB])
      rw [hs] at h
      repeat' (first | with_reducible refine And.intro ?_ ?_ | simp only [go_sem,seval, hkd, e2p, ae, l0, l1, k0] | simp (disch := omega) only [wrap64, Rw_at] | intro hx_ | with_reducible refine itoa_a _ (by omega) (by omega) _ hTp ?_ | omega)
      exact Fin.less (hle.trans hp) h
     ·have ae : a.e = false := by simpa using ae
      have hB : B (x ++ ⟨#[62, 61, 48]⟩) = textB a := by
       unfold textB bodyB constB
       simp [B_app, B_S, B_lit, hX, ae, konB, itoa_any, k0, t0]
      have hs : S (textB a) = x ++ ⟨#[62, 61, 48]⟩ := B_inj (by rw [B_S, hB])
      rw [hs] at h
      repeat' (first | with_reducible refine And.intro ?_ ?_ | simp only [go_sem,seval, hkd, e2p, ae, l0, l1, k0] | simp (disch := omega) only [wrap64, Rw_at] | intro hx_ | with_reducible refine itoa_a _ (by omega) (by omega) _ hTp ?_ | omega)
      exact Fin.less (hle.trans hp) h
    ·by_cases k1 : 0 < a.k
     ·have k2 : ¬ a.k < 0 := by omega
      by_cases ae : a.e = true
      ·have ae : a.e = true := ae
       have hB : B (x ++ ⟨#[43]⟩ ++ S (Lib.itoa a.k) ++ ⟨#[61, 48]⟩) = textB a := by
        unfold textB bodyB constB
        simp [B_app, B_S, B_lit, hX, ae, konB, itoa_any, k0, t0, k2, le]
       have hs : S (textB a) = x ++ ⟨#[43]⟩ ++ S (Lib.itoa a.k) ++ ⟨#[61, 48]⟩ := B_inj (by rw [B_S, hB])
       rw [hs] at h
       repeat' (first | with_reducible refine And.intro ?_ ?_ | simp only [go_sem,seval, hkd, e2p, ae, l0, l1, k0, k1] | simp (disch := omega) only [wrap64, Rw_at] | intro hx_ | with_reducible refine itoa_a _ (by omega) (by omega) _ hTp ?_ | omega)
       exact Fin.less (hle.trans hp) h
      ·have ae : a.e = false := by simpa using ae
       have hB : B (x ++ ⟨#[43]⟩ ++ S (Lib.itoa a.k) ++ ⟨#[62, 61, 48]⟩) = textB a := by
        unfold textB bodyB constB
        simp [B_app, B_S, B_lit, hX, ae, konB, itoa_any, k0, t0, k2, le]
       have hs : S (textB a) = x ++ ⟨#[43]⟩ ++ S (Lib.itoa a.k) ++ ⟨#[62, 61, 48]⟩ := B_inj (by rw [B_S, hB])
       rw [hs] at h
       repeat' (first | with_reducible refine And.intro ?_ ?_ | simp only [go_sem,seval, hkd, e2p, ae, l0, l1, k0, k1] | simp (disch := omega) only [wrap64, Rw_at] | intro hx_ | with_reducible refine itoa_a _ (by omega) (by omega) _ hTp ?_ | omega)
       exact Fin.less (hle.trans hp) h
     ·have k2 : a.k < 0 := by omega
      by_cases ae : a.e = true
      ·have ae : a.e = true := ae
       have hB : B (x ++ S (Lib.itoa a.k) ++ ⟨#[61, 48]⟩) = textB a := by
        unfold textB bodyB constB
        simp [B_app, B_S, B_lit, hX, ae, konB, itoa_any, k0, t0, k2, le]
       have hs : S (textB a) = x ++ S (Lib.itoa a.k) ++ ⟨#[61, 48]⟩ := B_inj (by rw [B_S, hB])
       rw [hs] at h
       repeat' (first | with_reducible refine And.intro ?_ ?_ | simp only [go_sem,seval, hkd, e2p, ae, l0, l1, k0, k1] | simp (disch := omega) only [wrap64, Rw_at] | intro hx_ | with_reducible refine itoa_a _ (by omega) (by omega) _ hTp ?_ | omega)
       exact Fin.less (hle.trans hp) h
      ·have ae : a.e = false := by simpa using ae
       have hB : B (x ++ S (Lib.itoa a.k) ++ ⟨#[62, 61, 48]⟩) = textB a := by
        unfold textB bodyB constB
        simp [B_app, B_S, B_lit, hX, ae, konB, itoa_any, k0, t0, k2, le]
       have hs : S (textB a) = x ++ S (Lib.itoa a.k) ++ ⟨#[62, 61, 48]⟩ := B_inj (by rw [B_S, hB])
       rw [hs] at h
       repeat' (first | with_reducible refine And.intro ?_ ?_ | simp only [go_sem,seval, hkd, e2p, ae, l0, l1, k0, k1] | simp (disch := omega) only [wrap64, Rw_at] | intro hx_ | with_reducible refine itoa_a _ (by omega) (by omega) _ hTp ?_ | omega)
       exact Fin.less (hle.trans hp) h
 ·rw [if_neg c, if_neg c] at h
  have c : validL a = false := by simpa using c
  repeat' (first | with_reducible refine And.intro ?_ ?_ | simp only [go_sem,seval, e2, c] | simp (disch := omega) only [wrap64, Rw_at] | intro hx_ | with_reducible refine valid_a a fa _ ?_ | omega)
  exact Fin.less hle h
end Go.Proofs.YtacekpdodelnbaaGreatDoor
end
section
set_option maxRecDepth 20000
namespace Go.Lin
open Go Go.Av Go.Lexs
theorem idx_take (l : List UInt8) (c : UInt8) (h : c ∈ l) : Lib.indexByte l c = ((l.takeWhile (· != c)).length : Int) ∧ (l.takeWhile (· != c)).length < l.length := by
 induction l with
 | nil => cases h
 | cons b l ih =>
  unfold Lib.indexByte
  by_cases e : b = c
  ·subst e; simp
  ·have e1 : (b == c) = false := by simpa using e
   have hm : c ∈ l := (List.mem_cons.1 h).resolve_left (fun g => e g.symm)
   obtain ⟨i1, i2⟩ := ih hm
   have e2 : (b != c) = true := by simp [e]
   rw [e1, i1, List.takeWhile_cons, if_pos e2]
   have e3 : (((l.takeWhile (· != c)).length : Int) == -1) = false := by
    simp only [beq_eq_false_iff_ne, ne_eq]; omega
   rw [e3]
   simp only [Bool.false_eq_true, if_false, List.length_cons]
   omega
theorem idx_none (l : List UInt8) (c : UInt8) (h : c ∉ l) : Lib.indexByte l c = -1 := by
 induction l with
 | nil => rfl
 | cons b l ih =>
  unfold Lib.indexByte
  have e1 : (b == c) = false := by
   simp only [beq_eq_false_iff_ne, ne_eq]; rintro rfl; exact h (List.mem_cons_self ..)
  rw [e1, ih (fun g => h (List.mem_cons_of_mem _ g))]
  rfl
theorem take_tw (l : List UInt8) (p : UInt8 → Bool) : l.take (l.takeWhile p).length = l.takeWhile p := by
 induction l with
 | nil => rfl
 | cons b l ih => rw [List.takeWhile_cons]; split <;> simp [ih]
theorem drop_tw (l : List UInt8) (p : UInt8 → Bool) : l.drop (l.takeWhile p).length = l.dropWhile p := by
 induction l with
 | nil => rfl
 | cons b l ih => rw [List.takeWhile_cons, List.dropWhile_cons]; split <;> simp [ih]
theorem cutS_yes {l c n : List UInt8} (h : cutS l = some (c, n)) : Lib.indexByte l 42 = (c.length : Int) ∧ c.length < l.length ∧ l.take c.length = c ∧ l.drop (c.length + 1) = n := by
 unfold cutS at h
 split at h
 ·rename_i hm
  injection h with h
  have h1 : l.takeWhile (· != 42) = c := congrArg Prod.fst h
  have h2 : (l.dropWhile (· != 42)).drop 1 = n := congrArg Prod.snd h
  obtain ⟨i1, i2⟩ := idx_take l 42 hm
  have t := take_tw l (· != 42)
  have d := drop_tw l (· != 42)
  rw [h1] at i1 i2 t d
  refine ⟨i1, i2, t, ?_⟩
  rw [← h2, ← d, List.drop_drop]
 ·cases h
theorem cutS_not {l : List UInt8} (h : cutS l = none) : Lib.indexByte l 42 = -1 := by
 unfold cutS at h
 split at h
 ·cases h
 ·rename_i hm; exact idx_none l 42 hm
end Go.Lin
namespace Go.Proofs.YtacekpdodelnbaaGreatDoor
open Go Go.Av Go.RowKit Go.Lexs Go.Lin
attribute [local irreducible] ACalls at8
theorem index_a {Q} (s : ByteArray) (H : Heap) (h : Q (.int .i64 (Lib.indexByte (B s) 42)) H) : ACalls Tryz.prog 162 [.str s, .str ⟨#[42]⟩] H Q :=
 acalls_kit (by kernel_rfl) (fun w vs hl hr hs => by
  obtain ⟨a, b, rfl, ha, hb⟩ := args2 hl hr
  rw [ha.str_inv, hb.str_inv]
  refine (Tryz.stringslite_Index_one s 42 w).mono fun e w' ⟨he, hw⟩ => ?_
  subst hw
  exact ⟨_, he, Below.refl _ _, .int _ _⟩) h
theorem cutL_a {Q} (s : ByteArray) (c n : List UInt8) (hc : cutS (B s) = some (c, n)) (hsz : s.size ≤ 1000000000000) (H : Heap) (h : Q (.tuple [.str (S c), .str (S n), .bool true]) H) : ACalls Tryz.prog 131 [.str s, .str ⟨#[42]⟩] H Q := by
 refine acalls_of_wp [] Tryz.mixed Tryz.func131 rfl (by kernel_rfl) (of_decide_eq_true (by kernel_rfl)) (by kernel_rfl) ?_
 simp only [go_sem,seval, Tryz.results131]
 obtain ⟨h1, h2, h3, h4⟩ := cutS_yes hc
 have hl := B_len s
 have z42 : ((⟨#[42]⟩ : ByteArray).size : Int) = 1 := rfl
 have hw : IntKind.i64.wrap ((c.length : Int) + 1) = (c.length : Int) + 1 := wrap64 (by omega) (by omega)
 have hk0 : (0 : Int) ≤ (c.length : Int) + 1 := by omega
 have hk : (c.length : Int) ≤ s.size := by omega
 have hk2 : (c.length : Int) + 1 ≤ s.size := by omega
 repeat' (first | with_reducible refine And.intro ?_ ?_ | simp only [go_sem,seval, h1, z42, hw, hk, hk2, hk0] | simp (disch := omega) only [wrap64] | intro hx_ | with_reducible refine index_a s _ ?_ | omega)
 rw [h3, h4]
 exact Fin.same h
theorem cutY_a {Q} (s : ByteArray) (c n : List UInt8) (hc : cutS (B s) = some (c, n)) (hsz : s.size ≤ 1000000000000) (H : Heap) (h : Q (.tuple [.str (S c), .str (S n), .bool true]) H) : ACalls Tryz.prog 111 [.str s, .str ⟨#[42]⟩] H Q := by
 refine acalls_of_wp [] Tryz.mixed Tryz.func111 rfl (by kernel_rfl) (of_decide_eq_true (by kernel_rfl)) (by kernel_rfl) ?_
 simp only [go_sem,seval, Tryz.results111]
 repeat' (first | with_reducible refine And.intro ?_ ?_ | simp only [go_sem,seval] | intro hx_ | with_reducible refine cutL_a s c n hc hsz _ ?_ | omega)
 exact Fin.same h
theorem cutM_a {Q} (s : ByteArray) (hc : cutS (B s) = none) (H : Heap) (h : Q (.tuple [.str s, .str ⟨#[]⟩, .bool false]) H) : ACalls Tryz.prog 131 [.str s, .str ⟨#[42]⟩] H Q := by
 refine acalls_of_wp [] Tryz.mixed Tryz.func131 rfl (by kernel_rfl) (of_decide_eq_true (by kernel_rfl)) (by kernel_rfl) ?_
 simp only [go_sem,seval, Tryz.results131]
 have h1 := cutS_not hc
 repeat' (first | with_reducible refine And.intro ?_ ?_ | simp only [go_sem,seval, h1] | intro hx_ | with_reducible refine index_a s _ ?_ | omega)
 exact Fin.same h
theorem cutN_a {Q} (s : ByteArray) (hc : cutS (B s) = none) (H : Heap) (h : Q (.tuple [.str s, .str ⟨#[]⟩, .bool false]) H) : ACalls Tryz.prog 111 [.str s, .str ⟨#[42]⟩] H Q := by
 refine acalls_of_wp [] Tryz.mixed Tryz.func111 rfl (by kernel_rfl) (of_decide_eq_true (by kernel_rfl)) (by kernel_rfl) ?_
 simp only [go_sem,seval, Tryz.results111]
 repeat' (first | with_reducible refine And.intro ?_ ?_ | simp only [go_sem,seval] | intro hx_ | with_reducible refine cutM_a s hc _ ?_ | omega)
 exact Fin.same h
theorem atoiY_a {Q} (s : ByteArray) (hsz : s.size ≤ 1000000000000) (v : Int) (hv : Lib.atoiAll (B s) = .ok v) (H : Heap) (h : Q (.tuple [.int .i64 v, .nilif]) H) : ACalls Tryz.prog 112 [.str s] H Q :=
 acalls_kit (by kernel_rfl) (fun w vs hl hr hs => by
  obtain ⟨a, rfl, ha⟩ := args1 hl hr
  rw [ha.str_inv]
  refine (Tryz.strconv_Atoi_ok s (by omega) v hv w).mono fun e w' ⟨he, hw⟩ => ?_
  have hB : Below w.heap.size w w' := by
   rcases hw with rfl | ⟨t, rfl⟩
   ·exact Below.refl _ _
   ·exact below_bytes _ _ _
  exact ⟨_, he, hB, .tuple _ _ rfl fun i d hd => (match i, hd with | 0, hd => by simp at hd; subst hd; exact .int _ _ | 1, hd => by simp at hd; subst hd; exact .nilif | i + 2, hd => by simp at hd)⟩) h
theorem err_cell {w : World} {H : Heap} {g t : Nat} (hs : Sat H w) (h : H g = some (.ro [.iface t .undef])) : ∃ v, w.cell? ⟨g, 0, none⟩ = some (.iface t v) := by
 obtain ⟨c, T, fz, h1, h2, h3⟩ := hs g _ h
 have h4 := (h3 0 _ rfl).2
 have hz : c.size = 1 := h2
 have e : w.cell? ⟨g, 0, none⟩ = some (c.getD 0 Go.undef) := by
  rw [cell_at h1]
  have : 0 < c.size := by omega
  simp [this]
 generalize c.getD 0 Go.undef = x at h4 e
 cases h4 with
 | iface _ _ v hr => exact ⟨v, e⟩
theorem atoiN_a {Q} (s : ByteArray) (hsz : s.size ≤ 1000000000000) (hv : ∀ v, Lib.atoiAll (B s) ≠ .ok v) (H : Heap) (hT : Tabs H) (h : ∀ n t, Q (.tuple [.int .i64 n, .iface t .undef]) H) : ACalls Tryz.prog 112 [.str s] H Q := by
 have tp : ∀ (w : World) (n : Int) (t : Nat) (v : Value), R w H (.tuple [.int .i64 n, .iface t .undef]) (.tuple #[.int .i64 n, .iface t v]) := fun w n t v =>
  .tuple _ _ rfl fun i d hd => (match i, hd with | 0, hd => by simp at hd; subst hd; exact .int _ _ | 1, hd => by simp at hd; subst hd; exact .iface _ _ _ (.undef _) | i + 2, hd => by simp at hd)
 cases hc : Lib.atoiAll (B s) with
 | ok v => exact absurd hc (hv v)
 | range =>
  refine acalls_kit (r := .tuple [.int .i64 (Lib.atoiSat (B s)), .iface 187 .undef]) (by kernel_rfl) (fun w vs hl hr hs => ?_) (h _ _)
  obtain ⟨a, rfl, ha⟩ := args1 hl hr
  rw [ha.str_inv]
  obtain ⟨t, ht⟩ := hT.rng
  obtain ⟨x, hx⟩ := err_cell hs ht
  refine (Tryz.strconv_Atoi_range s (by omega) hc _ w hx (.inr ⟨_, _, rfl⟩)).mono fun e w' ⟨N, he, _, _, hB⟩ => ⟨_, he, hB, tp w' _ _ _⟩
 | _ =>
  refine acalls_kit (r := .tuple [.int .i64 0, .iface 187 .undef]) (by kernel_rfl) (fun w vs hl hr hs => ?_) (h _ _)
  obtain ⟨a, rfl, ha⟩ := args1 hl hr
  rw [ha.str_inv]
  obtain ⟨t, ht⟩ := hT.syn
  obtain ⟨x, hx⟩ := err_cell hs ht
  refine (Tryz.strconv_Atoi_syntax s (by omega) hc _ w hx (.inr ⟨_, _, rfl⟩)).mono fun e w' ⟨N, he, _, _, hB⟩ => ⟨_, he, hB, tp w' _ _ _⟩
end Go.Proofs.YtacekpdodelnbaaGreatDoor
end
section
set_option maxRecDepth 20000
namespace Go.Lin
open Go Go.Av Go.Lexs
theorem nth_get {l : List UInt8} {k : Nat} (h : k < l.length) : nth l k = (l[k].toNat : Int) := by simp [nth, h]
theorem sgn_nth {l : List UInt8} {k : Nat} (h : k < l.length) : sgn l[k] = true ↔ (nth l k = 43 ∨ nth l k = 45) := by
 rw [nth_get h]
 unfold sgn
 simp only [Bool.or_eq_true, beq_iff_eq]
 constructor
 ·rintro (e | e)
  ·left; rw [e]; rfl
  ·right; rw [e]; rfl
 ·rintro (e | e)
  ·left; apply UInt8.toNat_inj.1; show _ = 43; omega
  ·right; apply UInt8.toNat_inj.1; show _ = 45; omega
theorem S_emp : S [] = ⟨#[]⟩ := rfl
theorem S_49 : S [49] = ⟨#[49]⟩ := rfl
theorem eq_nilif {P : Program} {t : Nat} (hb : baseT P t = .iface) : binD P .eql t true .nilif .nilif = some (.bool true) := by simp [binD, eqNil, nilD, hb]
theorem eq_iface {P : Program} {t u : Nat} {d : D} (hb : baseT P t = .iface) : binD P .eql t true (.iface u d) .nilif = some (.bool false) := by simp [binD, eqNil, nilD, hb]
theorem run_end {p : UInt8 → Bool} : ∀ (l : List UInt8) (k : Nat), k ≤ l.length → (∀ c ∈ l.take k, p c = true) → (∀ h : k < l.length, p l[k] = false) → l.takeWhile p = l.take k ∧ l.dropWhile p = l.drop k
 | [], k, hk, _, _ => by simp
 | c :: l, 0, _, _, h => by
  have : p c = false := h (by simp)
  simp [this]
 | c :: l, k + 1, hk, h1, h2 => by
  have hc : p c = true := h1 c (by simp)
  obtain ⟨a, b⟩ := run_end l k (by simpa using hk) (fun x hx => h1 x (by simp [hx])) (fun h => h2 (by simpa using h))
  simp [hc, a, b]
theorem take_snoc_all {p : UInt8 → Bool} {v : Bool} {l : List UInt8} {k : Nat} (h : k < l.length) (h1 : ∀ c ∈ l.take k, p c = v) (h2 : p l[k] = v) : ∀ c ∈ l.take (k + 1), p c = v := fun c hc => by
 rw [List.take_succ_eq_append_getElem h] at hc
 rcases List.mem_append.1 hc with g | g
 ·exact h1 c g
 ·rw [List.mem_singleton] at g; subst g; exact h2
theorem split_none {b : List UInt8} (h : splitP b = none) : b = [] := by
 unfold splitP at h
 cases hc : cutS b with
 | some p => rw [hc] at h; cases h
 | none =>
  rw [hc] at h
  simp only [] at h
  split at h
  ·cases h
  ·split at h
   ·rename_i e; exact e
   ·cases h
theorem split_some {b c n : List UInt8} (h : splitP b = some (c, n)) : cutS b = some (c, n) ∨ (cutS b = none ∧ b ≠ [] ∧ ((headDigit b = true ∧ c = b ∧ n = []) ∨ (headDigit b = false ∧ c = [49] ∧ n = b))) := by
 unfold splitP at h
 cases hc : cutS b with
 | some p => rw [hc] at h; left; exact h
 | none =>
  rw [hc] at h
  simp only [] at h
  right
  split at h
  ·rename_i hd
   injection h with h
   refine ⟨rfl, ?_, .inl ⟨hd, (congrArg Prod.fst h).symm, (congrArg Prod.snd h).symm⟩⟩
   rintro rfl; cases hd
  ·rename_i hd
   split at h
   ·cases h
   ·rename_i e
    injection h with h
    exact ⟨rfl, e, .inr ⟨by simpa using hd, (congrArg Prod.fst h).symm, (congrArg Prod.snd h).symm⟩⟩
theorem split_len {b c n : List UInt8} (h : splitP b = some (c, n)) : c.length ≤ b.length + 1 := by
 rcases split_some h with h | ⟨_, h0, ⟨_, rfl, _⟩ | ⟨_, rfl, _⟩⟩
 ·have := (cutS_yes h).2.1; omega
 ·omega
 ·have := List.length_pos_iff.2 h0; simp
end Go.Lin
namespace Go.Proofs.YtacekpdodelnbaaGreatDoor
open Go Go.Av Go.Lexs Go.Lin
attribute [local irreducible] ACalls at8
set_option maxHeartbeats 4000000 in
theorem part_a {Q} (s : ByteArray) (x : UInt8) (r : List UInt8) (hB : B s = x :: r) (hs : s.size ≤ 1000000000) (H : Heap) (hT : Tabs H)
  (hN : pieceP (x :: r.takeWhile (!sgn ·)) = none → ∀ v n z, Q (.tuple [.agg [.str v, .int .i64 n], .str z, .bool false]) H)
  (hY : ∀ n v, pieceP (x :: r.takeWhile (!sgn ·)) = some (n, v) → Q (.tuple [.agg [.str (S n), .int .i64 v], .str (S (r.dropWhile (!sgn ·))), .bool true]) H) :
  ACalls Tryz.prog 78 [.str s] H Q := by
 refine acalls_of_wp [(4, .wk), (8, .wk), (15, .wk)] Tryz.mixed Tryz.func78 rfl (by kernel_rfl) (of_decide_eq_true (by kernel_rfl)) (by kernel_rfl) ?_
 simp only [go_sem,seval, Tryz.results78]
 have hl := B_len s
 have hrl : s.size = r.length + 1 := by rw [← hl, hB]; rfl
 intro b2 g2
 have e2 : (H.set b2 (.box [.str ⟨#[]⟩, .int .i64 0])) b2 = some (.box [.str ⟨#[]⟩, .int .i64 0]) := heap_same _ _
 have hle : H.Le (H.set b2 (.box [.str ⟨#[]⟩, .int .i64 0])) := heap_le_set g2
 generalize H.set b2 (.box [.str ⟨#[]⟩, .int .i64 0]) = Bs at e2 hle ⊢
 have hTb := hT.le hle
 refine loop_c [0, 2] (fun (n : Nat) => [(5, .int .i64 n)]) (fun (n : Nat) => Bs) (fun (n : Nat) => 1 ≤ n ∧ n - 1 ≤ r.length ∧ ∀ c ∈ r.take (n - 1), sgn c = false) (fun (n : Nat) => r.length + 1 - n) (1) (⟨Nat.le_refl _, Nat.zero_le _, by simp⟩) (by (try simp only [go_sem,seval]) <;> (try simp (disch := omega) [wrap64]) <;> (try omega)) (by first | with_reducible exact Heap.Le.refl _ | exact heap_set_le (by assumption) | exact Heap.Le.refl _ | exact heap_le_set (by assumption) | exact (by simp only [Go.Av.Heap.Le, Go.Av.Heap.set, Go.Av.Heap.del] at * <;> grind)) ?_
 rintro Ec rfl n ⟨hn1, hk, hall⟩
 obtain ⟨k, hkn⟩ : ∃ k, k = n - 1 := ⟨_, rfl⟩
 rw [← hkn] at hk hall
 have hnk1 : n = k + 1 := by omega
 apply tail_join (C := ∀ h : k < r.length, sgn r[k] = true)
 ·intro hJ
  have hw : IntKind.i64.wrap ((n : Int) + 1) = (n : Int) + 1 := wrap64 (by omega) (by omega)
  have hn : at8 s (n : Int) = nth r k := by
   rw [at8_nth, hB, show (n : Int).toNat = k + 1 by omega]; rfl
  by_cases hlt : k < r.length
  ·have hkd : decide ((n : Int) < s.size) = true := decide_eq_true (by omega)
   have hti : (n : Int) < s.size := by omega
   by_cases q1 : nth r k = 43
   ·repeat' (first | with_reducible refine And.intro ?_ ?_ | simp only [go_sem,seval, hkd, hti, hn, q1, decide_true, decide_false, Bool.not_true] | simp (disch := omega) only [wrap64] | intro hx_ | omega)
    exact wk_mk [(0, .str s), (2, .box b2 0), (5, .int .i64 n)] Bs (by (try simp only [go_sem,seval]) <;> (try simp (disch := omega) [wrap64]) <;> (try omega)) (Heap.Le.refl _) (hJ fun _ => (sgn_nth hlt).2 (.inl q1))
   ·by_cases q2 : nth r k = 45
    ·repeat' (first | with_reducible refine And.intro ?_ ?_ | simp only [go_sem,seval, hkd, hti, hn, q1, q2, decide_true, decide_false, Bool.not_false, Bool.not_true] | simp (disch := omega) only [wrap64] | intro hx_ | omega)
     exact wk_mk [(0, .str s), (2, .box b2 0), (5, .int .i64 n)] Bs (by (try simp only [go_sem,seval]) <;> (try simp (disch := omega) [wrap64]) <;> (try omega)) (Heap.Le.refl _) (hJ fun _ => (sgn_nth hlt).2 (.inr q2))
    ·have hsg : sgn r[k] = false := by
      rw [← Bool.not_eq_true, sgn_nth hlt]; rintro (g | g)
      ·exact q1 g
      ·exact q2 g
     repeat' (first | with_reducible refine And.intro ?_ ?_ | simp only [go_sem,seval, hkd, hti, hn, q1, q2, decide_false, Bool.not_false] | simp (disch := omega) only [wrap64] | intro hx_ | omega)
     exact nx_mk (n + 1) ⟨by omega, by omega, by rw [show n + 1 - 1 = k + 1 by omega]; exact take_snoc_all hlt hall hsg⟩ (by omega) (by (try simp only [go_sem,seval]) <;> (try simp (disch := omega) [wrap64]) <;> (try omega)) (by simp only [Go.Av.Heap.Le, Go.Av.Heap.set, Go.Av.Heap.del] at * <;> grind)
  ·have hkd : decide ((n : Int) < s.size) = false := decide_eq_false (by omega)
   repeat' (first | with_reducible refine And.intro ?_ ?_ | simp only [go_sem,seval, hkd] | simp (disch := omega) only [wrap64] | intro hx_ | omega)
   exact wk_mk [(0, .str s), (2, .box b2 0), (5, .int .i64 n)] Bs (by (try simp only [go_sem,seval]) <;> (try simp (disch := omega) [wrap64]) <;> (try omega)) (Heap.Le.refl _) (hJ fun h => absurd h hlt)
 intro hend
 obtain ⟨tw, dw⟩ := run_end (p := (!sgn ·)) r k hk (fun c hc => by rw [hall c hc]; rfl) (fun h => by rw [hend h]; rfl)
 rw [tw] at hN hY
 rw [dw] at hY
 have hP : (B s).take n = x :: r.take k := by rw [hB, hnk1]; rfl
 have hD : (B s).drop n = r.drop k := by rw [hB, hnk1]; rfl
 obtain ⟨P, hPd⟩ : ∃ P, P = x :: r.take k := ⟨_, rfl⟩
 rw [← hPd] at hN hY hP
 have hPl : P.length ≤ r.length + 1 := by rw [hPd]; simp; omega
 have hnk : (n : Int) ≤ s.size := by omega
 have hnr : n ≤ s.size := by omega
 have tc : ∀ (H : Heap) (Q : D → Heap → Prop), Q (.str (S (Lib.trimPrefix P [43]))) H → ACalls Tryz.prog 109 [.str (S P), .str ⟨#[43]⟩] H Q := fun H Q hq => trimPrefix_a _ _ H (by rw [B_S]; exact hq)
 obtain ⟨b0, hb0⟩ : ∃ b0, b0 = Lib.trimPrefix P [43] := ⟨_, rfl⟩
 rw [← hb0] at tc
 have hb0l : b0.length ≤ r.length + 1 := by
  rw [hb0]; unfold Lib.trimPrefix
  split
  ·rw [List.length_drop]; omega
  ·exact hPl
 have hpx : ∀ (H : Heap) (Q : D → Heap → Prop), Q (.bool (Lib.hasPrefix b0 [45])) H → ACalls Tryz.prog 110 [.str (S b0), .str ⟨#[45]⟩] H Q := fun H Q hq => hasPrefix_a _ _ H (by rw [B_S]; exact hq)
 obtain ⟨sg, hsg⟩ : ∃ sg : Int, sg = if (bodyP P).1 = true then -1 else 1 := ⟨_, rfl⟩
 obtain ⟨b, hb⟩ : ∃ b, b = (bodyP P).2 := ⟨_, rfl⟩
 have hbl : b.length ≤ r.length + 1 := by
  rw [hb]; unfold bodyP; simp only []; rw [← hb0]
  split
  ·simp only [List.length_drop]; omega
  ·exact hb0l
 apply tail_join (C := True)
 ·intro hJ
  by_cases hp : Lib.hasPrefix b0 [45] = true
  ·have hbp : bodyP P = (true, b0.drop 1) := by unfold bodyP; simp only []; rw [← hb0, if_pos hp]
   have hbz : 1 ≤ b0.length := by
    cases b0 with
    | nil => cases hp
    | cons _ _ => simp
   have hsb : 1 ≤ (S b0).size := by rw [S_size]; exact hbz
   have hsbi : (1 : Int) ≤ (S b0).size := by omega
   rw [hbp] at hsg hb
   simp only [if_true] at hsg hb
   have hsd : S ((B (S b0)).drop 1) = S b := by rw [B_S, hb]
   repeat' (first | with_reducible refine And.intro ?_ ?_ | simp only [go_sem,seval, hnk, hnr, hP, hp, hsb, hsbi, hsd] | simp (disch := omega) only [wrap64] | intro hx_ | with_reducible refine tc _ _ ?_ | with_reducible refine hpx _ _ ?_ | omega)
   exact wk_mk [(0, .str s), (2, .box b2 0), (5, .int .i64 n), (6, .str (S b)), (7, .int .i64 sg)] Bs (by (try simp only [go_sem,seval, hsg, hb]) <;> (try simp (disch := omega) [wrap64]) <;> (try omega)) (Heap.Le.refl _) (hJ trivial)
  ·have hbp : bodyP P = (false, b0) := by unfold bodyP; simp only []; rw [← hb0, if_neg hp]
   have hp : Lib.hasPrefix b0 [45] = false := by simpa using hp
   rw [hbp] at hsg hb
   simp only [Bool.false_eq_true, if_false] at hsg hb
   repeat' (first | with_reducible refine And.intro ?_ ?_ | simp only [go_sem,seval, hnk, hnr, hP, hp] | simp (disch := omega) only [wrap64] | intro hx_ | with_reducible refine tc _ _ ?_ | with_reducible refine hpx _ _ ?_ | omega)
   exact wk_mk [(0, .str s), (2, .box b2 0), (5, .int .i64 n), (6, .str (S b)), (7, .int .i64 sg)] Bs (by (try simp only [go_sem,seval, hsg, hb]) <;> (try simp (disch := omega) [wrap64]) <;> (try omega)) (Heap.Le.refl _) (hJ trivial)
 intro _
 have sbz := S_size b
 cases hsp : splitP b with
 | none =>
  have b0 := split_none hsp
  have hpn : pieceP P = none := by unfold pieceP; rw [← hb, hsp]
  subst b0
  have cc : ∀ (H : Heap) (Q : D → Heap → Prop), Q (.tuple [.str (S []), .str ⟨#[]⟩, .bool false]) H → ACalls Tryz.prog 111 [.str (S []), .str ⟨#[42]⟩] H Q := fun H Q hq => cutN_a (S []) (by rw [B_S]; rfl) H hq
  repeat' (first | with_reducible refine And.intro ?_ ?_ | simp only [go_sem,seval, e2] | simp (disch := omega) only [wrap64] | intro hx_ | with_reducible refine cc _ _ ?_ | omega)
  exact Fin.less (le_set4 hle g2) (hN hpn _ _ _)
 | some p =>
  obtain ⟨c, m⟩ := p
  have hcl := split_len hsp
  apply tail_join (C := True)
  ·intro hJ
   rcases split_some hsp with hcut | ⟨hcut, b0, hd⟩
   ·repeat' (first | with_reducible refine And.intro ?_ ?_ | simp only [go_sem,seval] | simp (disch := omega) only [wrap64] | intro hx_ | with_reducible refine cutY_a (S b) c m (by rw [B_S]; exact hcut) (by omega) _ ?_ | omega)
    exact wk_mk [(0, .str s), (2, .box b2 0), (5, .int .i64 n), (7, .int .i64 sg), (8, .str (S c)), (9, .str (S m))] Bs (by (try simp only [go_sem,seval]) <;> (try simp (disch := omega) [wrap64]) <;> (try omega)) (Heap.Le.refl _) (hJ trivial)
   ·have b1 : ¬ S b = ⟨#[]⟩ := fun e => b0 (by have := congrArg B e; rwa [B_S] at this)
    have bz : 0 < (S b).size := by rw [S_size]; exact List.length_pos_iff.2 b0
    have bi : (0 : Int) < (S b).size := by omega
    have hcN : cutS (B (S b)) = none := by rw [B_S]; exact hcut
    rcases hd with ⟨hd, rfl, rfl⟩ | ⟨hd, rfl, rfl⟩
    ·have q : 48 ≤ nth c 0 ∧ nth c 0 ≤ 57 := by unfold headDigit at hd; simp only [Bool.and_eq_true] at hd; exact (digitI_iff _).1 hd.2
     obtain ⟨q1, q2⟩ := q
     repeat' (first | with_reducible refine And.intro ?_ ?_ | simp only [go_sem,seval, b0, b1, bz, bi, q1, q2] | simp (disch := omega) only [wrap64] | intro hx_ | with_reducible refine cutN_a (S c) hcN _ ?_ | omega)
     exact wk_mk [(0, .str s), (2, .box b2 0), (5, .int .i64 n), (7, .int .i64 sg), (8, .str (S c)), (9, .str (S []))] Bs (by (try simp only [go_sem,seval, S_emp]) <;> (try simp (disch := omega) [wrap64]) <;> (try omega)) (Heap.Le.refl _) (hJ trivial)
    ·have q : ¬ (48 ≤ nth m 0 ∧ nth m 0 ≤ 57) := fun g => by
      unfold headDigit at hd; rw [(digitI_iff _).2 g] at hd; simp [b0] at hd
     by_cases q1 : 48 ≤ nth m 0
     ·have q2 : ¬ nth m 0 ≤ 57 := fun g => q ⟨q1, g⟩
      repeat' (first | with_reducible refine And.intro ?_ ?_ | simp only [go_sem,seval, b0, b1, bz, bi, q1, q2] | simp (disch := omega) only [wrap64] | intro hx_ | with_reducible refine cutN_a (S m) hcN _ ?_ | omega)
      exact wk_mk [(0, .str s), (2, .box b2 0), (5, .int .i64 n), (7, .int .i64 sg), (8, .str (S [49])), (9, .str (S m))] Bs (by (try simp only [go_sem,seval, S_49]) <;> (try simp (disch := omega) [wrap64]) <;> (try omega)) (Heap.Le.refl _) (hJ trivial)
     ·repeat' (first | with_reducible refine And.intro ?_ ?_ | simp only [go_sem,seval, b0, b1, bz, bi, q1] | simp (disch := omega) only [wrap64] | intro hx_ | with_reducible refine cutN_a (S m) hcN _ ?_ | omega)
      exact wk_mk [(0, .str s), (2, .box b2 0), (5, .int .i64 n), (7, .int .i64 sg), (8, .str (S [49])), (9, .str (S m))] Bs (by (try simp only [go_sem,seval, S_49]) <;> (try simp (disch := omega) [wrap64]) <;> (try omega)) (Heap.Le.refl _) (hJ trivial)
  intro _
  by_cases hv : ∃ v, Lib.atoiAll c = .ok v
  ·obtain ⟨v, hv⟩ := hv
   have hpc : pieceP P = some (m, IntKind.i64.wrap (sg * v)) := by unfold pieceP; rw [← hb, hsp, hsg]; simp only []; rw [hv]
   have hq : ∀ x, binD Tryz.prog .eql 126 (isConst (.tmp x) || isConst (.const .nilIface)) .nilif .nilif = some (.bool true) := fun x => eq_nilif (by kernel_rfl)
   repeat' (first | with_reducible refine And.intro ?_ ?_ | simp only [go_sem,seval, e2, hnk, hnr, hD, hq] | simp (disch := omega) only [wrap64] | intro hx_ | with_reducible refine atoiY_a (S c) (by rw [S_size]; omega) v (by rw [B_S]; exact hv) _ ?_ | omega)
   exact Fin.less (le_set4 hle g2) (hY _ _ hpc)
  ·have hv : ∀ v, Lib.atoiAll c ≠ .ok v := fun v g => hv ⟨v, g⟩
   have hpn : pieceP P = none := by
    unfold pieceP; rw [← hb, hsp]
    cases hq : Lib.atoiAll c with
    | ok v => exact absurd hq (hv v)
    | _ => simp only []
   have hq : ∀ x t, binD Tryz.prog .eql 126 (isConst (.tmp x) || isConst (.const .nilIface)) (.iface t .undef) .nilif = some (.bool false) := fun x t => eq_iface (by kernel_rfl)
   repeat' (first | with_reducible refine And.intro ?_ ?_ | simp only [go_sem,seval, e2, hnk, hnr, hD] | simp (disch := omega) only [wrap64] | intro hx_ | omega)
   refine atoiN_a (S c) (by rw [S_size]; omega) (fun v => by rw [B_S]; exact hv v) _ hTb fun z t => ?_
   repeat' (first | with_reducible refine And.intro ?_ ?_ | simp only [go_sem,seval, e2, hnk, hnr, hD, hq] | simp (disch := omega) only [wrap64] | intro hx_ | omega)
   exact Fin.less (le_set4 hle g2) (hN hpn _ _ _)
end Go.Proofs.YtacekpdodelnbaaGreatDoor
end
