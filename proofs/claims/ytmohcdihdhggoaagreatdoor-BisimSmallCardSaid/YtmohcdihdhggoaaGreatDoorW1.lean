/- BisimSmall, proved: for every input the law returns true, and the arguments read as before; the listed tables hold what the program's text lays (the card). No other condition than the row's own. -/
import Derived.Test.YtmohcdihdhggoaaGreatDoorCards
import Derived.Test.YtmohcdihdhggoaaGreatDoorTie
import Derived.Test.YtmohcdihdhggoaaGreatDoorK6
set_option linter.unusedSimpArgs false
set_option linter.unusedVariables false
section
namespace Go.Bis
theorem Rch.lt {nx : Nat → List Nat} {n i k : Nat} (hx : ∀ k, k < n → ∀ m ∈ nx k, m < n) (hi : i < n) (h : Rch nx i k) : k < n := by
 induction h with
 | refl => exact hi
 | step _ hm ih => exact hx _ ih _ hm
theorem Rch.trans {nx : Nat → List Nat} {i j k : Nat} (h : Rch nx i j) (g : Rch nx j k) : Rch nx i k := by
 induction g with
 | refl => exact h
 | step _ hm ih => exact .step ih hm
section
variable (e0 : Nat → Nat → Bool) (R : List Nat → Nat → Nat → Bool) (n : Nat)
variable {e0 R n}
theorem fixC_iff (h : Fine e0 R n) (i j : Nat) (hi : i < n) (hj : j < n) : (fixC e0 R n).getD i 0 = (fixC e0 R n).getD j 0 ↔ R (fixC e0 R n) i j = true := by
 obtain ⟨u, hu, hs⟩ := itC_ends h
 have h1 := itC_fix h hs
 have h2 : (numE (R (fixC e0 R n)) n).1 = fixC e0 R n := by
  rw [← h1]; exact hs
 have := numE_iff (h.eq (fixC e0 R n)) i j hi hj
 rwa [h2] at this
end
end Go.Bis
end
section
set_option maxRecDepth 20000
namespace Go.Bis
open Go Go.Av Go.Lexs
noncomputable def leadsV (s : Sy) : List (List Bool) := (List.range s.seen.length).map (rowV (nxS s) s.seen.length)
theorem leadsV_length (s : Sy) : (leadsV s).length = s.seen.length := by simp [leadsV]
end Go.Bis
namespace Go.Proofs.YtmohcdihdhggoaaGreatDoor
open Go Go.Av Go.Lexs Go.Bis
attribute [local irreducible] ACalls at8
theorem rLeads_a {Q} (s : Sy) (hs : SyFit s) (ho : SyOk s) (H : Heap) (h : Q (.sl 1 (Rw boolsC (leadsV s))) H) : ACalls Tryz.prog 51 [.agg (syC s)] H Q := by
 refine acalls_of_wp [] Tryz.mixed Tryz.func51 rfl (by kernel_rfl) (of_decide_eq_true (by kernel_rfl)) (by kernel_rfl) ?_
 simp only [go_sem,seval, Tryz.results51]
 have hn := ho.n
 have hxl := ho.x
 intro b1 hb1
 repeat' (first | with_reducible refine And.intro ?_ ?_ | simp only [go_sem,seval] | simp (disch := omega) only [wrap64, cell_at, Rw_at, nxS_at] | simp (disch := first | omega | grind) only [heap_ne_, del_ne] | (intro hx_; try simp only [set_none] at hx_) | omega)
 refine loop_c [1, 3, 16] (fun (p : Nat × Option Nat) => [(17, .int .i64 p.1), (4, outG 1 p.1 p.2)]) (fun (p : Nat × Option Nat) => putB (H.set b1 (.box (syC s))) 1 (Rw boolsC ((leadsV s).take p.1)) p.2) (fun (p : Nat × Option Nat) => p.1 ≤ s.seen.length ∧ (p.2 = none → p.1 = 0) ∧ ∀ b, p.2 = some b → (H.set b1 (.box (syC s))) b = none) (fun (p : Nat × Option Nat) => s.seen.length - p.1) ((0, none)) (⟨Nat.zero_le _, fun _ => rfl, fun b e => by cases e⟩) (by (try simp only [go_sem,seval]) <;> (try simp (disch := omega) [wrap64]) <;> (try omega)) (by first | with_reducible exact Heap.Le.refl _ | exact heap_set_le (by assumption) | exact Heap.Le.refl _ | exact heap_le_set (by assumption) | exact (by simp only [Go.Av.Heap.Le, Go.Av.Heap.set, Go.Av.Heap.del] at * <;> grind)) ?_
 rintro Ec rfl ⟨i, ob⟩ ⟨hi, h0, h1⟩
 simp only at hi h0 h1
 have hin := OutIn.mk (H := H.set b1 (.box (syC s))) (sz := 1) (es := Rw boolsC ((leadsV s).take i)) (ob := ob) (fun e => by rw [h0 e]; rfl) h1
 by_cases hlt : i < s.seen.length
 ·have hkd : decide ((i : Int) < s.seen.length) = true := decide_eq_true (by omega)
  have hrp : i < (List.replicate s.seen.length false).length := by simp; omega
  repeat' (first | with_reducible refine And.intro ?_ ?_ | simp only [go_sem,seval, hkd, List.length_replicate, rep_b, Rw_at _ _ hrp, set_b] | simp (disch := omega) only [wrap64, cell_at, Rw_at, nxS_at] | simp (disch := first | omega | grind) only [heap_ne_, del_ne] | (intro hx_; try simp only [set_none] at hx_) | omega)
  rename_i b2
  have hf2 := hx_
  clear hx_
  generalize hHc : putB (H.set b1 (.box (syC s))) 1 (Rw boolsC ((leadsV s).take i)) ob = Hc at hf2 hin ⊢
  have hbx : Hc b1 = some (.box (syC s)) := hin.1 _ _ (heap_same _ _)
  have hn0 : ((List.replicate s.seen.length false).set i true).length = s.seen.length := by simp
  refine loop_c [1, 3, 4, 6, 16, 17] (fun (p : List Bool × Bool) => [(7, .bool p.2)]) (fun (p : List Bool × Bool) => Hc.set b2 (.vec 1 (Rw boolC p.1))) (fun (p : List Bool × Bool) => p.1.length = s.seen.length ∧ p.1[i]? = some true ∧ Snd (nxS s) i p.1 ∧ (p.2 = false → ∀ k, ClAt (nxS s) p.1 k)) (fun (p : List Bool × Bool) => p.1.count false + (if p.2 then 1 else 0)) (((List.replicate s.seen.length false).set i true, true)) (⟨hn0, mark_there (by simp; omega), Snd.start, fun e => by cases e⟩) (by (try simp only [go_sem,seval]) <;> (try simp (disch := omega) [wrap64]) <;> (try omega)) (by first | with_reducible exact Heap.Le.refl _ | exact heap_set_le (by assumption) | exact Heap.Le.refl _ | exact heap_le_set (by assumption) | exact (by simp only [Go.Av.Heap.Le, Go.Av.Heap.set, Go.Av.Heap.del] at * <;> grind)) ?_
  rintro Ec2 rfl ⟨v, more⟩ ⟨v1, v2, v3, v4⟩
  simp only at v1 v2 v3 v4
  have hin2 : OutIn (H.set b1 (.box (syC s))) 1 (Rw boolsC ((leadsV s).take i)) ob (Hc.set b2 (.vec 1 (Rw boolC v))) := OutIn.set hin hf2 _
  cases more with
  | false =>
   have hrow : v = rowV (nxS s) s.seen.length i := rowV_of v1 v2 v3 (v4 rfl)
   repeat' (first | with_reducible refine And.intro ?_ ?_ | simp only [go_sem,seval] | simp (disch := omega) only [wrap64, cell_at, Rw_at, nxS_at] | simp (disch := first | omega | grind) only [heap_ne_, del_ne] | (intro hx_; try simp only [set_none] at hx_) | omega)
   rename_i b3
   have hb3 := hx_
   clear hx_
   have h32 : b3 ≠ b2 := by intro e; rw [e] at hb3; simp [Heap.set] at hb3
   have hd2 : delB ((Hc.set b2 (.vec 1 (Rw boolC v))).set b3 (.vec 1 [[.vec b2 1 0 s.seen.length]])) ob b2 = some (.vec 1 (Rw boolC v)) := by
    cases ob with
    | none => simp [delB, Heap.set, Ne.symm h32]
    | some c =>
     have hc2 : c ≠ b2 := by
      intro e
      have := hin.2.1
      rw [e] at this
      exact absurd (this.symm.trans hf2) (by simp)
     simp [delB, Heap.del, Heap.set, Ne.symm h32, Ne.symm hc2]
   have hlv : i < (leadsV s).length := by rw [leadsV_length]; exact hlt
   refine apS_q (by first | exact hin2 | exact OutIn.set (hin2) (by first | assumption | (refine set_none.2 ?_; assumption) | (simp only [set_none]; assumption) | (simp only [set_none] at *; simp_all; done)) _ | exact OutIn.set (OutIn.set (hin2) (by first | assumption | (refine set_none.2 ?_; assumption) | (simp only [set_none]; assumption) | (simp only [set_none] at *; simp_all; done)) _) (by first | assumption | (refine set_none.2 ?_; assumption) | (simp only [set_none]; assumption) | (simp only [set_none] at *; simp_all; done)) _ | exact OutIn.set (OutIn.set (OutIn.set (hin2) (by first | assumption | (refine set_none.2 ?_; assumption) | (simp only [set_none]; assumption) | (simp only [set_none] at *; simp_all; done)) _) (by first | assumption | (refine set_none.2 ?_; assumption) | (simp only [set_none]; assumption) | (simp only [set_none] at *; simp_all; done)) _) (by first | assumption | (refine set_none.2 ?_; assumption) | (simp only [set_none]; assumption) | (simp only [set_none] at *; simp_all; done)) _ | exact OutIn.set (OutIn.set (OutIn.set (OutIn.set (hin2) (by first | assumption | (refine set_none.2 ?_; assumption) | (simp only [set_none]; assumption) | (simp only [set_none] at *; simp_all; done)) _) (by first | assumption | (refine set_none.2 ?_; assumption) | (simp only [set_none]; assumption) | (simp only [set_none] at *; simp_all; done)) _) (by first | assumption | (refine set_none.2 ?_; assumption) | (simp only [set_none]; assumption) | (simp only [set_none] at *; simp_all; done)) _) (by first | assumption | (refine set_none.2 ?_; assumption) | (simp only [set_none]; assumption) | (simp only [set_none] at *; simp_all; done)) _ ) (by simp) (by first | rfl | (simp only [go_sem,seval, Rw_take_len]; done) | (simp only [go_sem,seval, Rw_take_len]; omega) | simp | (simp; omega)) (by simp only [List.length_cons, List.length_nil]; omega) (by simp only [List.length_cons, List.length_nil]; omega) fun b' hb' hb2 hle => ?_
   have hne : b2 ≠ b' := by intro e; rw [← e] at hb2; rw [hd2] at hb2; cases hb2
   repeat' (first | with_reducible refine And.intro ?_ ?_ | simp only [go_sem,seval] | simp (disch := omega) only [wrap64, cell_at, Rw_at, nxS_at] | simp (disch := first | omega | grind) only [heap_ne_, del_ne] | (intro hx_; try simp only [set_none] at hx_) | omega)
   refine nx_w (i + 1, some b') ⟨by simp only []; omega, (fun e => by cases e), fun b e => by cases e; exact hb'⟩ (by simp only []; omega) ?_
   have hrow2 : (leadsV s)[i] = v := by rw [hrow]; simp [leadsV]
   have e5 : Rw boolsC ((leadsV s).take (i + 1)) = Rw boolsC ((leadsV s).take i) ++ [[.sl 1 (Rw boolC v)]] := by rw [Rw_take_succ _ _ hlv, hrow2]; rfl
   have hb2n : (H.set b1 (.box (syC s))) b2 = none := hin.1.none hf2
   simp only [putB]
   rw [e5]
   refine weak_row (m := b2) ?_ ?_ (by rw [heap_same]) (by rw [heap_ne _ hne]; exact hd2) hne (fun k o hk ho => ⟨fun e => ?_, hle _ k o ?_⟩)
   ·exact (by (try simp only [go_sem,seval]) <;> (try simp (disch := omega) [wrap64]) <;> (try omega))
   ·rw [Rw_len, v1]
   ·rw [e] at ho
    exact absurd (ho.symm.trans hb2n) (by simp)
   ·unfold Heap.set at ho ⊢
    rw [if_neg hk]; exact ho
  | true =>
   repeat' (first | with_reducible refine And.intro ?_ ?_ | simp only [go_sem,seval] | simp (disch := omega) only [wrap64, cell_at, Rw_at, nxS_at] | simp (disch := first | omega | grind) only [heap_ne_, del_ne] | (intro hx_; try simp only [set_none] at hx_) | omega)
   refine loop_c [1, 3, 4, 6, 16, 17, 27] (fun (p : Nat × List Bool × Bool) => [(28, .int .i64 p.1), (7, .bool p.2.2)]) (fun (p : Nat × List Bool × Bool) => Hc.set b2 (.vec 1 (Rw boolC p.2.1))) (fun (p : Nat × List Bool × Bool) => p.1 ≤ s.seen.length ∧ p.2.1.length = s.seen.length ∧ p.2.1[i]? = some true ∧ Snd (nxS s) i p.2.1 ∧ p.2.1.count false ≤ v.count false ∧ (p.2.2 = true → p.2.1.count false < v.count false) ∧ (p.2.2 = false → p.2.1 = v ∧ ∀ j, j < p.1 → ClAt (nxS s) v j)) (fun (p : Nat × List Bool × Bool) => s.seen.length - p.1) ((0, v, false)) (⟨Nat.zero_le _, v1, v2, v3, Nat.le_refl _, (fun e => by cases e), fun _ => ⟨rfl, fun j hj => absurd hj (Nat.not_lt_zero _)⟩⟩) (by (try simp only [go_sem,seval]) <;> (try simp (disch := omega) [wrap64]) <;> (try omega)) (by first | with_reducible exact Heap.Le.refl _ | exact heap_set_le (by assumption) | exact Heap.Le.refl _ | exact heap_le_set (by assumption) | exact (by simp only [Go.Av.Heap.Le, Go.Av.Heap.set, Go.Av.Heap.del] at * <;> grind)) ?_
   rintro Ec3 rfl ⟨k, u, m2⟩ ⟨u0, u1, u2, u3, u4, u5, u6⟩
   simp only at u0 u1 u2 u3 u4 u5 u6
   by_cases hkt : k < s.seen.length
   ·have hkk : decide ((k : Int) < s.seen.length) = true := decide_eq_true (by omega)
    have hku : k < u.length := by omega
    have hki : (k : Int) < s.seen.length := by omega
    have hkx : k < s.next.length := by omega
    have hil := hs.il s.next[k] (List.getElem_mem hkx)
    cases huk : u[k] with
    | false =>
     repeat' (first | with_reducible refine And.intro ?_ ?_ | simp only [go_sem,seval, hkk, hki, hbx, Rw_get _ _ hku, huk] | simp (disch := omega) only [wrap64, cell_at, Rw_at, nxS_at] | simp (disch := first | omega | grind) only [heap_ne_, del_ne] | (intro hx_; try simp only [set_none] at hx_) | omega)
     refine nx_mk (k + 1, u, m2) ⟨by simp only []; omega, u1, u2, u3, u4, u5, fun e => ?_⟩ (by simp only []; omega) (by (try simp only [go_sem,seval]) <;> (try simp (disch := omega) [wrap64]) <;> (try omega)) (Heap.Le.refl _)
     obtain ⟨e1, e2⟩ := u6 e
     refine ⟨e1, fun j hj => ?_⟩
     by_cases hjk : j = k
     ·subst hjk
      intro hv
      rw [← e1, List.getElem?_eq_getElem hku, huk] at hv
      cases hv
     ·exact e2 j (by simp only [] at hj; omega)
    | true =>
     repeat' (first | with_reducible refine And.intro ?_ ?_ | simp only [go_sem,seval, hkk, hki, hbx, Rw_get _ _ hku, huk, Rw_at _ _ hkx] | simp (disch := omega) only [wrap64, cell_at, Rw_at, nxS_at] | simp (disch := first | omega | grind) only [heap_ne_, del_ne] | (intro hx_; try simp only [set_none] at hx_) | omega)
     have hnx := nxS_at hkx
     refine loop_c [1, 3, 4, 6, 16, 17, 27, 28, 40, 41] (fun (p : Nat × List Bool × Bool) => [(42, .int .i64 p.1), (7, .bool p.2.2)]) (fun (p : Nat × List Bool × Bool) => Hc.set b2 (.vec 1 (Rw boolC p.2.1))) (fun (p : Nat × List Bool × Bool) => p.1 ≤ s.next[k].length ∧ p.2.1.length = s.seen.length ∧ p.2.1[i]? = some true ∧ Snd (nxS s) i p.2.1 ∧ p.2.1.count false ≤ v.count false ∧ (p.2.2 = true → p.2.1.count false < v.count false) ∧ p.2.1[k]? = some true ∧ (p.2.2 = false → p.2.1 = v ∧ (∀ j, j < k → ClAt (nxS s) v j) ∧ ∀ m ∈ (s.next[k].take p.1).map Int.toNat, v[m]? = some true)) (fun (p : Nat × List Bool × Bool) => s.next[k].length - p.1) ((0, u, m2)) (⟨Nat.zero_le _, u1, u2, u3, u4, u5, (by rw [List.getElem?_eq_getElem hku, huk]), fun e => ⟨(u6 e).1, (u6 e).2, fun m hm => by simp at hm⟩⟩) (by (try simp only [go_sem,seval]) <;> (try simp (disch := omega) [wrap64]) <;> (try omega)) (by first | with_reducible exact Heap.Le.refl _ | exact heap_set_le (by assumption) | exact Heap.Le.refl _ | exact heap_le_set (by assumption) | exact (by simp only [Go.Av.Heap.Le, Go.Av.Heap.set, Go.Av.Heap.del] at * <;> grind)) ?_
     rintro Ec4 rfl ⟨j, q, m3⟩ ⟨w0, w1, w2, w3, w4, w5, w7, w6⟩
     simp only at w0 w1 w2 w3 w4 w5 w6 w7
     by_cases hjt : j < s.next[k].length
     ·have hjj : decide ((j : Int) < s.next[k].length) = true := decide_eq_true (by omega)
      obtain ⟨r1, r2⟩ := ho.r _ (List.getElem_mem hkx) _ (List.getElem_mem hjt)
      have hqm : (s.next[k][j]).toNat < q.length := by omega
      have hmem : (s.next[k][j]).toNat ∈ nxS s k := by rw [hnx]; exact List.mem_map.2 ⟨_, List.getElem_mem hjt, rfl⟩
      have htk : s.next[k].take (j + 1) = s.next[k].take j ++ [s.next[k][j]] := List.take_succ_eq_append_getElem hjt
      cases hqv : q[(s.next[k][j]).toNat] with
      | false =>
       have hq2 : q[(s.next[k][j]).toNat]? = some false := by rw [List.getElem?_eq_getElem hqm, hqv]
       have hct := mark_count hq2
       repeat' (first | with_reducible refine And.intro ?_ ?_ | simp only [go_sem,seval, hjj, r1, r2, hbx, Rw_at _ _ hjt, Rw_get _ _ hqm, Rw_at _ _ hqm, hqv, set_b] | simp (disch := omega) only [wrap64, cell_at, Rw_at, nxS_at] | simp (disch := first | omega | grind) only [heap_ne_, del_ne] | (intro hx_; try simp only [set_none] at hx_) | omega)
       refine nx_mk (j + 1, q.set (s.next[k][j]).toNat true, true) ⟨by simp only []; omega, by simp only [List.length_set]; exact w1, mark_keep w2, w3.set w7 hmem, by simp only []; omega, fun _ => by simp only []; omega, mark_keep w7, fun e => by cases e⟩ (by simp only []; omega) (by (try simp only [go_sem,seval]) <;> (try simp (disch := omega) [wrap64]) <;> (try omega)) (Heap.Le.refl _)
      | true =>
       repeat' (first | with_reducible refine And.intro ?_ ?_ | simp only [go_sem,seval, hjj, r1, r2, hbx, Rw_at _ _ hjt, Rw_get _ _ hqm, hqv] | simp (disch := omega) only [wrap64, cell_at, Rw_at, nxS_at] | simp (disch := first | omega | grind) only [heap_ne_, del_ne] | (intro hx_; try simp only [set_none] at hx_) | omega)
       refine nx_mk (j + 1, q, m3) ⟨by simp only []; omega, w1, w2, w3, w4, w5, w7, fun e => ⟨(w6 e).1, (w6 e).2.1, fun m hm => ?_⟩⟩ (by simp only []; omega) (by (try simp only [go_sem,seval]) <;> (try simp (disch := omega) [wrap64]) <;> (try omega)) (Heap.Le.refl _)
       simp only [] at hm
       rw [htk, List.map_append, List.mem_append] at hm
       rcases hm with hm | hm
       ·exact (w6 e).2.2 m hm
       ·simp only [List.map_cons, List.map_nil, List.mem_singleton] at hm
        rw [hm, ← (w6 e).1, List.getElem?_eq_getElem hqm, hqv]
     ·have hjj : decide ((j : Int) < s.next[k].length) = false := decide_eq_false (by omega)
      repeat' (first | with_reducible refine And.intro ?_ ?_ | simp only [go_sem,seval, hjj] | simp (disch := omega) only [wrap64, cell_at, Rw_at, nxS_at] | simp (disch := first | omega | grind) only [heap_ne_, del_ne] | (intro hx_; try simp only [set_none] at hx_) | omega)
      refine nx_mk (k + 1, q, m3) ⟨by simp only []; omega, w1, w2, w3, w4, w5, fun e => ⟨(w6 e).1, fun j' hj' => ?_⟩⟩ (by simp only []; omega) (by (try simp only [go_sem,seval]) <;> (try simp (disch := omega) [wrap64]) <;> (try omega)) (Heap.Le.refl _)
      by_cases hjk : j' < k
      ·exact (w6 e).2.1 j' hjk
      ·obtain rfl : j' = k := by simp only [] at hj'; omega
       intro _ m hm
       rw [hnx] at hm
       exact (w6 e).2.2 m (by rw [List.take_of_length_le (by omega)]; exact hm)
   ·have hkk : decide ((k : Int) < s.seen.length) = false := decide_eq_false (by omega)
    repeat' (first | with_reducible refine And.intro ?_ ?_ | simp only [go_sem,seval, hkk] | simp (disch := omega) only [wrap64, cell_at, Rw_at, nxS_at] | simp (disch := first | omega | grind) only [heap_ne_, del_ne] | (intro hx_; try simp only [set_none] at hx_) | omega)
    refine nx_mk (u, m2) ⟨u1, u2, u3, fun e => ?_⟩ ?_ (by (try simp only [go_sem,seval]) <;> (try simp (disch := omega) [wrap64]) <;> (try omega)) (Heap.Le.refl _)
    ·obtain ⟨e1, e2⟩ := u6 e
     intro j
     by_cases hj : j < k
     ·simp only []; rw [e1]; exact e2 j hj
     ·intro hv
      have := (List.getElem?_eq_some_iff.1 hv).1
      simp only [] at this
      omega
    ·cases m2 with
     | true => have := u5 rfl; simp; omega
     | false => have := u4; simp; omega
 ·have hkd : decide ((i : Int) < s.seen.length) = false := decide_eq_false (by omega)
  repeat' (first | with_reducible refine And.intro ?_ ?_ | simp only [go_sem,seval, hkd] | simp (disch := omega) only [wrap64, cell_at, Rw_at, nxS_at] | simp (disch := first | omega | grind) only [heap_ne_, del_ne] | (intro hx_; try simp only [set_none] at hx_) | omega)
  exact Fin.o (hin.less (heap_le_set hb1)) (Rw_take_len _ i (by rw [leadsV_length]; omega)).symm (by rw [Rw_take_all _ i (by rw [leadsV_length]; omega)]; exact h)
end Go.Proofs.YtmohcdihdhggoaaGreatDoor
end
section
set_option maxRecDepth 20000
namespace Go.Proofs.YtmohcdihdhggoaaGreatDoor
open Go Go.Av Go.Lexs Go.Bis
attribute [local irreducible] ACalls at8
theorem rsame_a {Q} (l m : List Bool) (hl : l.length ≤ 140737488351232) (hm : m.length = l.length) (H : Heap) (h : Q (.bool (decide (l = m))) H) : ACalls Tryz.prog 68 [.sl 1 (Rw boolC l), .sl 1 (Rw boolC m)] H Q := by
 refine acalls_of_wp [] Tryz.mixed Tryz.func68 rfl (by kernel_rfl) (of_decide_eq_true (by kernel_rfl)) (by kernel_rfl) ?_
 simp only [go_sem,seval, Tryz.results68]
 refine loop_c [0, 1, 7] (fun (k : Nat) => [(8, .int .i64 k)]) (fun (k : Nat) => H) (fun (k : Nat) => k ≤ l.length ∧ decide (l = m) = decide (l.drop k = m.drop k)) (fun (k : Nat) => l.length - k) (0) (⟨Nat.zero_le _, rfl⟩) (by (try simp only [go_sem,seval]) <;> (try simp (disch := omega) [wrap64]) <;> (try omega)) (by first | with_reducible exact Heap.Le.refl _ | exact heap_set_le (by assumption) | exact Heap.Le.refl _ | exact heap_le_set (by assumption) | exact (by simp only [Go.Av.Heap.Le, Go.Av.Heap.set, Go.Av.Heap.del] at * <;> grind)) ?_
 rintro Ec rfl k ⟨hk, hp⟩
 by_cases hlt : k < l.length
 ·have hkd : decide ((k : Int) < l.length) = true := decide_eq_true (by omega)
  have hm2 : k < m.length := by omega
  rw [drop_beq hlt hm2] at hp
  rw [hp] at h
  have hm3 : (k : Int) < m.length := by omega
  by_cases he : l[k] = m[k]
  ·have hb : (l[k] == m[k]) = true := by rw [he]; exact beq_self_eq_true _
   rw [decide_eq_true he, Bool.true_and] at h hp
   repeat' (first | with_reducible refine And.intro ?_ ?_ | simp only [go_sem,seval, hkd, hm3, Rw_at _ _ hlt, Rw_at _ _ hm2, hb, Bool.not_true] | simp (disch := omega) only [wrap64, cell_at, Rw_at] | simp (disch := first | omega | grind) only [heap_ne_, del_ne] | (intro hx_; try simp only [set_none] at hx_) | omega)
   exact nx_mk (k + 1) ⟨by omega, hp⟩ (by omega) (by (try simp only [go_sem,seval]) <;> (try simp (disch := omega) [wrap64]) <;> (try omega)) (Heap.Le.refl _)
  ·have hb : (l[k] == m[k]) = false := by simpa using he
   rw [decide_eq_false he, Bool.false_and] at h
   repeat' (first | with_reducible refine And.intro ?_ ?_ | simp only [go_sem,seval, hkd, hm3, Rw_at _ _ hlt, Rw_at _ _ hm2, hb, Bool.not_false] | simp (disch := omega) only [wrap64, cell_at, Rw_at] | simp (disch := first | omega | grind) only [heap_ne_, del_ne] | (intro hx_; try simp only [set_none] at hx_) | omega)
   all_goals (refine Av.Fin.less (H' := H) (by first | with_reducible exact Heap.Le.refl _ | exact heap_le_set (by assumption) | exact (heap_le_set (by assumption)).trans (heap_le_set (by assumption)) | exact (heap_le_set (by assumption)).trans ((heap_le_set (by assumption)).trans (heap_le_set (by assumption))) | exact (by simp only [Go.Av.Heap.Le, Go.Av.Heap.set, Go.Av.Heap.del] at * <;> grind)) ?_; first | exact h | (simp_all; done) | simpa [*] using h)
 ·have hkd : decide ((k : Int) < l.length) = false := decide_eq_false (by omega)
  rw [hp, List.drop_eq_nil_of_le (by omega), List.drop_eq_nil_of_le (by omega)] at h
  repeat' (first | with_reducible refine And.intro ?_ ?_ | simp only [go_sem,seval, hkd] | simp (disch := omega) only [wrap64, cell_at, Rw_at] | simp (disch := first | omega | grind) only [heap_ne_, del_ne] | (intro hx_; try simp only [set_none] at hx_) | omega)
  (refine Av.Fin.less (H' := H) (by first | with_reducible exact Heap.Le.refl _ | exact heap_le_set (by assumption) | exact (heap_le_set (by assumption)).trans (heap_le_set (by assumption)) | exact (heap_le_set (by assumption)).trans ((heap_le_set (by assumption)).trans (heap_le_set (by assumption))) | exact (by simp only [Go.Av.Heap.Le, Go.Av.Heap.set, Go.Av.Heap.del] at * <;> grind)) ?_; first | exact h | (simp_all; done) | simpa [*] using h)
end Go.Proofs.YtmohcdihdhggoaaGreatDoor
end
section
set_option maxRecDepth 20000
namespace Go.Bis
open Go Go.Av Go.Lexs
theorem numI_snoc {cl : Nat → Nat} {reps : List Nat} {k x : Nat} : numI cl (reps ++ [k]) x = if numI cl reps x = -1 ∧ cl k = x then (reps.length : Int) else numI cl reps x := by
 by_cases hn : numI cl reps x = -1
 ·rw [hn]
  have h1 := numI_none.1 hn
  have h2 : reps.findIdx? (fun r => cl r == x) = none := by simpa [List.findIdx?_eq_none_iff] using h1
  by_cases hk : cl k = x
  ·rw [if_pos ⟨rfl, hk⟩]
   unfold numI
   rw [List.findIdx?_append, h2]
   simp [hk]
  ·rw [if_neg (fun e => hk e.2)]
   refine numI_none.2 fun r hr => ?_
   rcases List.mem_append.1 hr with hr | hr
   ·exact h1 r hr
   ·simp at hr; rw [hr]; exact hk
 ·rw [if_neg (fun e => hn e.1)]
  unfold numI at hn ⊢
  cases h : reps.findIdx? (fun r => cl r == x) with
  | none => rw [h] at hn; simp at hn
  | some j => rw [List.findIdx?_append, h]; simp
theorem repsTo_lt (s : Sy) : ∀ k, ∀ r ∈ repsTo s k, r < k
 | 0 => by rw [repsTo]; simp
 | k + 1 => by
  rw [repsTo]
  have := repsTo_lt s k
  split
  ·intro r hr
   rcases List.mem_append.1 hr with hr | hr
   ·have := this r hr; omega
   ·simp at hr; omega
  ·intro r hr; have := this r hr; omega
end Go.Bis
end
section
set_option maxRecDepth 20000
namespace Go.Bis
open Go Go.Av Go.Lexs
def padI (n i : Nat) : List Int := (List.range n).map fun j => if j < i then -1 else 0
theorem padI_length (n i : Nat) : (padI n i).length = n := by simp [padI]
theorem padI_zero (n : Nat) : padI n 0 = List.replicate n 0 := by
 unfold padI; apply List.ext_getElem (by simp); intro j h1 h2; simp
theorem padI_set (n i : Nat) (h : i < n) : (padI n i).set i (-1) = padI n (i + 1) := by
 apply List.ext_getElem (by simp [padI])
 intro j h1 h2
 rw [List.getElem_set]
 simp only [padI, List.getElem_map, List.getElem_range]
 by_cases e : i = j
 ·subst e; simp
 ·rw [if_neg e]
  by_cases h3 : j < i
  ·rw [if_pos h3, if_pos (by omega)]
  ·rw [if_neg h3, if_neg (by omega)]
noncomputable def numL (s : Sy) (k : Nat) : List Int := (List.range s.seen.length).map fun x => numI (clN s) (repsTo s k) x
theorem numL_length (s : Sy) (k : Nat) : (numL s k).length = s.seen.length := by simp [numL]
theorem padI_all (s : Sy) : padI s.seen.length s.seen.length = numL s 0 := by
 unfold padI numL
 refine List.map_congr_left fun j hj => ?_
 rw [if_pos (List.mem_range.1 hj), repsTo]
 exact (numI_none.2 (by simp)).symm
theorem fixS_lt (s : Sy) : ∀ c ∈ fixS s, c < s.seen.length := itS_lt s s.seen.length
noncomputable def seenR (s : Sy) (k : Nat) : List Tm := (repsTo s k).map fun r => s.seen.getD r default
noncomputable def finR (s : Sy) (k : Nat) : List Bool := (repsTo s k).map fun r => s.final.getD r false
theorem seenR_length (s : Sy) (k : Nat) : (seenR s k).length = (repsTo s k).length := by simp [seenR]
theorem finR_length (s : Sy) (k : Nat) : (finR s k).length = (repsTo s k).length := by simp [finR]
theorem reps_keep {s : Sy} {k : Nat} (h : ¬ (reS s k = true ∧ numI (clN s) (repsTo s k) (clN s k) < 0)) : repsTo s (k + 1) = repsTo s k := by
 rw [repsTo, if_neg]; simpa using h
theorem repsTo_mono (s : Sy) (k : Nat) (h : repsTo s k ≠ []) : repsTo s (k + 1) ≠ [] := by
 rw [repsTo]; split
 ·simp
 ·exact h
theorem repsTo_ne {s : Sy} (h : 1 ≤ s.seen.length) : ∀ k, 1 ≤ k → repsTo s k ≠ []
 | 0, h1 => by omega
 | 1, _ => by
  have h2 : numI (clN s) (repsTo s 0) (clN s 0) < 0 := by rw [repsTo, numI_none.2 (by simp)]; omega
  rw [reps_new (reS_zero h) h2]; simp
 | k + 2, _ => repsTo_mono s (k + 1) (repsTo_ne h (k + 1) (by omega))
theorem lstS_succ (s : Sy) (e k : Nat) : lstS s e (k + 1) = lstS s e k ++ if stepS s e k = true ∧ k ≠ e then [(k : Int)] else [] := by
 unfold lstS
 rw [List.range_succ, List.filter_append, List.map_append]
 congr 1
 by_cases h : stepS s e k = true ∧ k ≠ e
 ·rw [if_pos h]; simp [h.1, h.2]
 ·rw [if_neg h]
  have : (stepS s e k && k != e) = false := by
   rw [← Bool.not_eq_true, Bool.and_eq_true, bne_iff_ne]; exact h
  simp [this]
theorem lstS_le (s : Sy) (e k : Nat) : (lstS s e k).length ≤ k := by
 unfold lstS
 rw [List.length_map]
 exact Nat.le_trans (List.length_filter_le _ _) (by simp)
theorem numL_at (s : Sy) (k x : Nat) (h : x < s.seen.length) : (numL s k)[x]'(by rw [numL_length]; exact h) = numI (clN s) (repsTo s k) x := by simp [numL]
theorem numL_new {s : Sy} {k : Nat} (h1 : reS s k = true) (h2 : numI (clN s) (repsTo s k) (clN s k) < 0) (hc : clN s k < s.seen.length) : (numL s k).set (clN s k) ((repsTo s k).length : Int) = numL s (k + 1) := by
 have hr := reps_new h1 h2
 have h3 : numI (clN s) (repsTo s k) (clN s k) = -1 := by have := numI_range (clN s) (repsTo s k) (clN s k); omega
 apply List.ext_getElem (by simp [numL])
 intro j g1 g2
 have hj : j < s.seen.length := by rw [numL_length] at g2; exact g2
 rw [List.getElem_set, numL_at s (k + 1) j hj, hr, numI_snoc]
 by_cases e : clN s k = j
 ·subst e; rw [if_pos rfl, if_pos ⟨h3, rfl⟩]
 ·rw [if_neg e, if_neg (fun g => e g.2), numL_at s k j hj]
end Go.Bis
end
section
set_option maxRecDepth 20000
namespace Go.Bis
open Go Go.Av Go.Lexs Go.Proofs.YtmohcdihdhggoaaGreatDoor
theorem mem_toN {s : Sy} (ho : SyOk s) {i k : Nat} (hi : i < s.seen.length) : k ∈ toN s i ↔ Rch (nxS s) i k := by
 unfold toN
 rw [mem_rowL]
 exact ⟨fun h => h.2, fun h => ⟨Rch.lt (nxS_lt ho) hi h, h⟩⟩
theorem Beh.symm {a b : Sy} {B : Nat → Nat → Prop} (h : Beh a b B) : Beh b a (fun i j => B j i) :=
 ⟨fun i j g => (h.la j i g).symm, fun i j g => ⟨(h.see j i g).1.symm, (h.see j i g).2.symm⟩, fun i j k g hr => h.bw j i k g hr, fun i j k g hr => h.fw j i k g hr⟩
theorem Beh.comp {a b c : Sy} {B C : Nat → Nat → Prop} (h : Beh a b B) (g : Beh b c C) : Beh a c (fun i k => ∃ j, B i j ∧ C j k) := by
 refine ⟨fun i k ⟨j, h1, h2⟩ => ⟨(h.la i j h1).1, (g.la j k h2).2⟩, fun i k ⟨j, h1, h2⟩ => ?_, fun i k x ⟨j, h1, h2⟩ hr => ?_, fun i k x ⟨j, h1, h2⟩ hr => ?_⟩
 ·obtain ⟨p1, p2⟩ := h.see i j h1
  obtain ⟨q1, q2⟩ := g.see j k h2
  exact ⟨p1.trans q1, p2.trans q2⟩
 ·obtain ⟨m, hm, hB⟩ := h.fw i j x h1 hr
  obtain ⟨y, hy, hC⟩ := g.fw j k m h2 hm
  exact ⟨y, hy, m, hB, hC⟩
 ·obtain ⟨m, hm, hC⟩ := g.bw j k x h2 hr
  obtain ⟨y, hy, hB⟩ := h.bw i j m h1 hm
  exact ⟨y, hy, m, hB, hC⟩
theorem itC_e0 {e0 : Nat → Nat → Bool} {R : List Nat → Nat → Nat → Bool} {n : Nat} (h : Fine e0 R n) : ∀ (t i j : Nat), i < n → j < n → (itC e0 R n t).1.getD i 0 = (itC e0 R n t).1.getD j 0 → e0 i j = true
 | 0, i, j, hi, hj, g => (numE_iff h.e0 i j hi hj).1 g
 | t + 1, i, j, hi, hj, g => itC_e0 h t i j hi hj (h.fine _ i j hi hj ((numE_iff (h.eq _) i j hi hj).1 g))
theorem clE_see {s : Sy} {i j : Nat} : clE s i j = true ↔ s.final.getD i false = s.final.getD j false ∧ s.seen.getD i default = s.seen.getD j default := by
 simp only [clE, Bool.and_eq_true, beq_iff_eq, eqT_iff]
theorem it_lt {s : Sy} (t : Nat) {k : Nat} (hk : k < s.seen.length) : (itS s t).getD k 0 < s.seen.length := by
 have hk' : k < (itS s t).length := by rw [itS_length]; exact hk
 have : (itS s t).getD k 0 = (itS s t)[k] := by simp [hk']
 rw [this]
 exact itS_lt s t _ (List.getElem_mem hk')
theorem fix_beh {s : Sy} (ho : SyOk s) : Beh s s (fun i j => i < s.seen.length ∧ j < s.seen.length ∧ clN s i = clN s j) := by
 have key : ∀ i j k, i < s.seen.length → j < s.seen.length → clN s i = clN s j → Rch (nxS s) i k → ∃ m, Rch (nxS s) j m ∧ k < s.seen.length ∧ m < s.seen.length ∧ clN s k = clN s m := by
  intro i j k hi hj he hr
  have h1 := (fixC_iff (fineS s) i j hi hj).1 he
  simp only [relR, Bool.and_eq_true, beq_iff_eq] at h1
  have h2 := (seesB_iff (fun k hk => it_lt (s := s) s.seen.length (by rcases hk with hk | hk <;> exact toN_mem hk))).1 h1.2 (clN s k)
  obtain ⟨m, hm, hme⟩ := h2.1 ⟨k, (mem_toN ho hi).2 hr, rfl⟩
  exact ⟨m, (mem_toN ho hj).1 hm, Rch.lt (nxS_lt ho) hi hr, toN_mem hm, hme.symm⟩
 refine ⟨fun i j h => ⟨h.1, h.2.1⟩, fun i j h => ?_, fun i j k h hr => ?_, fun i j k h hr => ?_⟩
 ·exact clE_see.1 (itC_e0 (fineS s) s.seen.length i j h.1 h.2.1 h.2.2)
 ·exact key i j k h.1 h.2.1 h.2.2 hr
 ·obtain ⟨m, h1, h2, h3, h4⟩ := key j i k h.2.1 h.1 h.2.2.symm hr
  exact ⟨m, h1, h3, h2, h4.symm⟩
theorem beh_it {s : Sy} (ho : SyOk s) {B : Nat → Nat → Prop} (hB : Beh s s B) : ∀ (t i j : Nat), B i j → (itS s t).getD i 0 = (itS s t).getD j 0
 | 0, i, j, h => by
  obtain ⟨hi, hj⟩ := hB.la i j h
  exact (numE_iff (clE_eqv s s.seen.length) i j hi hj).2 (clE_see.2 (hB.see i j h))
 | t + 1, i, j, h => by
  obtain ⟨hi, hj⟩ := hB.la i j h
  refine (numE_iff (relR_eqv (toN s) s.seen.length (itS s t) s.seen.length) i j hi hj).2 ?_
  simp only [relR, Bool.and_eq_true, beq_iff_eq]
  refine ⟨beh_it ho hB t i j h, (seesB_iff (fun k hk => it_lt (s := s) t (by rcases hk with hk | hk <;> exact toN_mem hk))).2 fun m => ⟨?_, ?_⟩⟩
  ·rintro ⟨k, hk, rfl⟩
   obtain ⟨x, hx, hb⟩ := hB.fw i j k h ((mem_toN ho hi).1 hk)
   exact ⟨x, (mem_toN ho hj).2 hx, (beh_it ho hB t k x hb).symm⟩
  ·rintro ⟨k, hk, rfl⟩
   obtain ⟨x, hx, hb⟩ := hB.bw i j k h ((mem_toN ho hj).1 hk)
   exact ⟨x, (mem_toN ho hi).2 hx, beh_it ho hB t x k hb⟩
theorem beh_fix {s : Sy} (ho : SyOk s) {B : Nat → Nat → Prop} (hB : Beh s s B) {i j : Nat} (h : B i j) : clN s i = clN s j := beh_it ho hB s.seen.length i j h
theorem nx_left {a b : Sy} (ha : SyOk a) {i : Nat} (h : i < a.seen.length) : nxS (unionS a b) i = nxS a i := by
 have := ha.x
 simp only [nxS, unionS]
 rw [List.getD_eq_getElem?_getD, List.getD_eq_getElem?_getD, List.getElem?_append_left (by omega)]
theorem nx_right {a b : Sy} (ha : SyOk a) (hb : SyOk b) {j : Nat} (h : j < b.seen.length) : nxS (unionS a b) (a.seen.length + j) = (nxS b j).map (a.seen.length + ·) := by
 have h1 := ha.x; have h2 := hb.x
 have hj : j < b.next.length := by omega
 simp only [nxS, unionS]
 rw [List.getD_eq_getElem?_getD, List.getElem?_append_right (by omega), show a.seen.length + j - a.next.length = j by omega, List.getElem?_map, List.getElem?_eq_getElem hj]
 simp only [Option.map_some, Option.getD_some, shiftL, List.map_map, List.getD_eq_getElem?_getD, List.getElem?_eq_getElem hj]
 refine List.map_congr_left fun x hx => ?_
 have := hb.r _ (List.getElem_mem hj) x hx
 simp only [Function.comp]
 omega
theorem rch_left {a b : Sy} (ha : SyOk a) {i k : Nat} (hi : i < a.seen.length) : Rch (nxS (unionS a b)) i k ↔ Rch (nxS a) i k := by
 constructor
 ·intro h
  have : Rch (nxS a) i k ∧ k < a.seen.length := by
   induction h with
   | refl => exact ⟨.refl, hi⟩
   | step _ hm ih => rw [nx_left ha ih.2] at hm; exact ⟨.step ih.1 hm, nxS_lt ha _ ih.2 _ hm⟩
  exact this.1
 ·intro h
  induction h with
  | refl => exact .refl
  | step hr hm ih => exact .step ih (by rw [nx_left ha (Rch.lt (nxS_lt ha) hi hr)]; exact hm)
theorem rch_right {a b : Sy} (ha : SyOk a) (hb : SyOk b) {j m : Nat} (hj : j < b.seen.length) : Rch (nxS (unionS a b)) (a.seen.length + j) m ↔ ∃ k, m = a.seen.length + k ∧ Rch (nxS b) j k := by
 constructor
 ·intro h
  have : ∃ k, m = a.seen.length + k ∧ k < b.seen.length ∧ Rch (nxS b) j k := by
   induction h with
   | refl => exact ⟨j, rfl, hj, .refl⟩
   | step _ hm ih =>
    obtain ⟨k, rfl, hk, hr⟩ := ih
    rw [nx_right ha hb hk, List.mem_map] at hm
    obtain ⟨x, hx, rfl⟩ := hm
    exact ⟨x, rfl, nxS_lt hb _ hk _ hx, .step hr hx⟩
  obtain ⟨k, h1, _, h2⟩ := this
  exact ⟨k, h1, h2⟩
 ·rintro ⟨k, rfl, h⟩
  induction h with
  | refl => exact .refl
  | step hr hm ih => exact .step ih (by rw [nx_right ha hb (Rch.lt (nxS_lt hb) hj hr)]; exact List.mem_map.2 ⟨_, hm, rfl⟩)
theorem see_left {a b : Sy} (ha : SyOk a) {i : Nat} (hi : i < a.seen.length) : (unionS a b).final.getD i false = a.final.getD i false ∧ (unionS a b).seen.getD i default = a.seen.getD i default := by
 have := ha.f
 simp only [unionS, List.getD_eq_getElem?_getD]
 rw [List.getElem?_append_left (by omega), List.getElem?_append_left (by omega)]
 exact ⟨rfl, rfl⟩
theorem see_right {a b : Sy} (ha : SyOk a) (j : Nat) : (unionS a b).final.getD (a.seen.length + j) false = b.final.getD j false ∧ (unionS a b).seen.getD (a.seen.length + j) default = b.seen.getD j default := by
 have := ha.f
 simp only [unionS, List.getD_eq_getElem?_getD]
 rw [List.getElem?_append_right (by omega), List.getElem?_append_right (by omega), show a.seen.length + j - a.final.length = j by omega, show a.seen.length + j - a.seen.length = j by omega]
 exact ⟨rfl, rfl⟩
theorem union_len (a b : Sy) : (unionS a b).seen.length = a.seen.length + b.seen.length := by simp [unionS]
theorem beh_union {a b : Sy} (ha : SyOk a) (hb : SyOk b) {B : Nat → Nat → Prop} (h : Beh a b B) : Beh (unionS a b) (unionS a b) (fun i m => ∃ j, B i j ∧ m = a.seen.length + j) := by
 have hl := union_len a b
 refine ⟨fun i m ⟨j, g, e⟩ => ?_, fun i m ⟨j, g, e⟩ => ?_, fun i m k ⟨j, g, e⟩ hr => ?_, fun i m k ⟨j, g, e⟩ hr => ?_⟩
 all_goals (subst e; obtain ⟨li, lj⟩ := h.la i j g)
 ·omega
 ·obtain ⟨p1, p2⟩ := see_left (b := b) ha li
  obtain ⟨q1, q2⟩ := see_right (b := b) ha j
  obtain ⟨r1, r2⟩ := h.see i j g
  exact ⟨by rw [p1, q1, r1], by rw [p2, q2, r2]⟩
 ·obtain ⟨x, hx, hB⟩ := h.fw i j k g ((rch_left ha li).1 hr)
  exact ⟨a.seen.length + x, (rch_right ha hb lj).2 ⟨x, rfl, hx⟩, x, hB, rfl⟩
 ·obtain ⟨x, rfl, hx⟩ := (rch_right ha hb lj).1 hr
  obtain ⟨y, hy, hB⟩ := h.bw i j x g hx
  exact ⟨y, (rch_left ha li).2 hy, x, hB, rfl⟩
theorem union_beh {a b : Sy} (ha : SyOk a) (hb : SyOk b) {C : Nat → Nat → Prop} (h : Beh (unionS a b) (unionS a b) C) : Beh a b (fun i j => i < a.seen.length ∧ j < b.seen.length ∧ C i (a.seen.length + j)) := by
 refine ⟨fun i j g => ⟨g.1, g.2.1⟩, fun i j g => ?_, fun i j k g hr => ?_, fun i j m g hr => ?_⟩
 all_goals obtain ⟨li, lj, g⟩ := g
 ·obtain ⟨p1, p2⟩ := see_left (b := b) ha li
  obtain ⟨q1, q2⟩ := see_right (b := b) ha j
  obtain ⟨r1, r2⟩ := h.see i _ g
  exact ⟨by rw [← p1, ← q1, r1], by rw [← p2, ← q2, r2]⟩
 ·obtain ⟨x, hx, hB⟩ := h.fw i _ k g ((rch_left ha li).2 hr)
  obtain ⟨y, rfl, hy⟩ := (rch_right ha hb lj).1 hx
  exact ⟨y, hy, Rch.lt (nxS_lt ha) li hr, Rch.lt (nxS_lt hb) lj hy, hB⟩
 ·obtain ⟨x, hx, hB⟩ := h.bw i _ _ g ((rch_right ha hb lj).2 ⟨m, rfl, hr⟩)
  have hx' := (rch_left ha li).1 hx
  exact ⟨x, hx', Rch.lt (nxS_lt ha) li hx', Rch.lt (nxS_lt hb) lj hr, hB⟩
theorem alike_iff {a b : Sy} (ha : SyOk a) (hb : SyOk b) (h0 : 0 < a.seen.length) (h1 : 0 < b.seen.length) (hn : a.seen.length + b.seen.length ≤ 1000) : alikeV a b = true ↔ ∃ B, Beh a b B ∧ B 0 0 := by
 have ou := union_ok ha hb hn
 have hl := union_len a b
 have hf := fixS_length (unionS a b)
 have eA : (clA a b).getD 0 0 = clN (unionS a b) 0 := by
  simp only [clA, clN, List.getD_eq_getElem?_getD]; rw [List.getElem?_take_of_lt h0]
 have eB : (clB a b).getD 0 0 = clN (unionS a b) a.seen.length := by
  simp only [clB, clN, List.getD_eq_getElem?_getD]; rw [List.getElem?_drop, Nat.add_zero]
 unfold alikeV
 rw [decide_eq_true_eq, eA, eB]
 constructor
 ·intro h
  exact ⟨_, union_beh ha hb (fix_beh ou), h0, h1, by omega, by omega, by rw [Nat.add_zero]; exact h⟩
 ·rintro ⟨B, hB, g⟩
  exact beh_fix ou (beh_union ha hb hB) ⟨0, g, rfl⟩
theorem reps_re (s : Sy) : ∀ k, ∀ r ∈ repsTo s k, reS s r = true
 | 0 => by rw [repsTo]; simp
 | k + 1 => by
  rw [repsTo]
  have := reps_re s k
  split
  ·rename_i h
   rw [Bool.and_eq_true] at h
   intro r hr
   rcases List.mem_append.1 hr with hr | hr
   ·exact this r hr
   ·simp at hr; rw [hr]; exact h.1
  ·exact this
theorem numI_some {cl : Nat → Nat} {reps : List Nat} {x e : Nat} (h : numI cl reps x = e) : ∃ he : e < reps.length, cl reps[e] = x := by
 unfold numI at h
 cases hf : reps.findIdx? (fun r => cl r == x) with
 | none => rw [hf] at h; simp only [] at h; omega
 | some j =>
  rw [hf] at h
  simp only [] at h
  obtain ⟨h1, h2, _⟩ := List.findIdx?_eq_some_iff_getElem.1 hf
  have hj : j = e := by omega
  subst hj
  exact ⟨h1, by simpa using h2⟩
theorem num_cl {s : Sy} {i j e : Nat} (h1 : numS' s i = e) (h2 : numS' s j = e) : clN s i = clN s j := by
 obtain ⟨he, g1⟩ := numI_some h1
 obtain ⟨_, g2⟩ := numI_some h2
 rw [← g1, ← g2]
theorem mem_nx_small {s : Sy} {e f : Nat} (he : e < (repsS s).length) : f ∈ nxS (smallS s) e ↔ f < (repsS s).length ∧ stepS s e f = true ∧ f ≠ e := by
 have hl : e < (smallS s).next.length := by rw [(small_len s).2.2]; exact he
 rw [nxS_at hl]
 simp only [smallS, List.getElem_map, List.getElem_range, List.map_map, List.mem_map, List.mem_filter, List.mem_range, Function.comp, Bool.and_eq_true, bne_iff_ne]
 constructor
 ·rintro ⟨x, h, rfl⟩; exact ⟨by simpa using h.1, by simpa using h.2.1, by simpa using h.2.2⟩
 ·intro h; exact ⟨f, ⟨h.1, h.2⟩, by simp⟩
theorem small_ok {s : Sy} (ho : SyOk s) : SyOk (smallS s) := by
 obtain ⟨l1, l2, l3⟩ := small_len s
 have hle : (repsS s).length ≤ s.seen.length := repsTo_le s _
 have := ho.n
 refine ⟨by omega, by omega, by omega, fun l hl k hk => ?_⟩
 simp only [smallS, List.mem_map, List.mem_range] at hl
 obtain ⟨e, he, rfl⟩ := hl
 simp only [List.mem_map, List.mem_filter, List.mem_range] at hk
 obtain ⟨f, hf, rfl⟩ := hk
 rw [l1]; omega
theorem small_beh {s : Sy} (ho : SyOk s) (h0 : 0 < s.seen.length) : Beh s (smallS s) (fun i e => i < s.seen.length ∧ reS s i = true ∧ numS' s i = e) := by
 obtain ⟨l1, l2, l3⟩ := small_len s
 have hstep : ∀ k m, k < s.seen.length → reS s k = true → Rch (nxS s) k m → m < s.seen.length ∧ reS s m = true := fun k m hk hr h => by
  have hm := Rch.lt (nxS_lt ho) hk h
  exact ⟨hm, (reS_iff hm).2 (((reS_iff hk).1 hr).trans h)⟩
 refine ⟨fun i e ⟨hi, hr, hn⟩ => ?_, fun i e ⟨hi, hr, hn⟩ => ?_, fun i e k ⟨hi, hr, hn⟩ hk => ?_, fun i e f ⟨hi, hr, hn⟩ hk => ?_⟩
 ·obtain ⟨x, hx, hx2⟩ := num_nat hi hr
  exact ⟨hi, by omega⟩
 ·obtain ⟨x, hx, hx2⟩ := num_nat hi hr
  have hxe : x = e := by omega
  subst hxe
  have hrx := num_rep s x hx
  have hlt := repsTo_lt s _ _ (List.getElem_mem hx)
  obtain ⟨q1, q2⟩ := (fix_beh ho).see i (repsS s)[x] ⟨hi, hlt, num_cl hn hrx⟩
  rw [q1, q2]
  simp only [smallS, List.getD_eq_getElem?_getD, List.getElem?_map, List.getElem?_eq_getElem hx, Option.map_some, Option.getD_some]
  exact ⟨trivial, trivial⟩
 ·have key : ∃ m, Rch (nxS (smallS s)) e m ∧ numS' s k = m := by
   induction hk with
   | refl => exact ⟨e, .refl, hn⟩
   | step hr1 hm ih =>
    rename_i k m
    obtain ⟨x, hx, hkx⟩ := ih
    obtain ⟨hk, hkr⟩ := hstep i k hi hr hr1
    obtain ⟨hm1, hmr⟩ := hstep i m hi hr (.step hr1 hm)
    obtain ⟨y, hy, hy2⟩ := num_nat hm1 hmr
    obtain ⟨x', hx', hx2⟩ := num_nat hk hkr
    have hxx : x' = x := by omega
    subst hxx
    by_cases hyx : y = x'
    ·subst hyx; exact ⟨y, hx, hy2⟩
    ·exact ⟨y, .step hx ((mem_nx_small hx').2 ⟨hy, step_iff.2 ⟨k, hk, hkr, hkx, m, hm, hy2⟩, hyx⟩), hy2⟩
  obtain ⟨m, h1, h2⟩ := key
  obtain ⟨g1, g2⟩ := hstep i k hi hr hk
  exact ⟨m, h1, g1, g2, h2⟩
 ·induction hk with
  | refl => exact ⟨i, .refl, hi, hr, hn⟩
  | step hr1 hm ih =>
   rename_i x m
   obtain ⟨k, hk1, hk2, hk3, hk4⟩ := ih
   obtain ⟨x', hx', hx2⟩ := num_nat hk2 hk3
   have hxx : x' = x := by omega
   subst hxx
   obtain ⟨_, hst, _⟩ := (mem_nx_small hx').1 hm
   obtain ⟨i0, a1, a2, a3, k0, a4, a5⟩ := step_iff.1 hst
   have hk0 := nxS_lt ho _ a1 _ a4
   have hk0r : reS s k0 = true := (reS_iff hk0).2 (.step ((reS_iff a1).1 a2) a4)
   obtain ⟨z, hz, hz1, hz2, hz3⟩ := (fix_beh ho).fw i0 k k0 ⟨a1, hk2, num_cl a3 hk4⟩ (.step .refl a4)
   obtain ⟨g1, g2⟩ := hstep k z hk2 hk3 hz
   refine ⟨z, hk1.trans hz, g1, g2, ?_⟩
   rw [← a5]
   unfold numS'
   rw [hz3]
theorem small_alike {s : Sy} (ho : SyOk s) (h0 : 1 ≤ s.seen.length) (hn : s.seen.length ≤ 400) : alikeV s (smallS s) = true := by
 obtain ⟨z1, z2⟩ := num_zero h0
 have hle : (repsS s).length ≤ s.seen.length := repsTo_le s _
 have hl := (small_len s).1
 refine (alike_iff ho (small_ok ho) (by omega) (by omega) (by omega)).2 ⟨_, small_beh ho (by omega), by omega, reS_zero h0, by rw [z1]; rfl⟩
theorem small_valid {s : Sy} (h : validY s = true) : validY (smallS s) = true := by
 have ho := validY_ok h
 have hn := validY_n h
 obtain ⟨l1, l2, l3⟩ := small_len s
 obtain ⟨z1, z2⟩ := num_zero hn.1
 have hle : (repsS s).length ≤ s.seen.length := repsTo_le s _
 have so := small_ok ho
 unfold validY at h ⊢
 simp only [Bool.and_eq_true, decide_eq_true_eq, List.all_eq_true] at h ⊢
 refine ⟨⟨⟨⟨⟨by omega, by omega⟩, by omega⟩, by omega⟩, fun t ht => ?_⟩, fun l hl => ?_⟩
 ·simp only [smallS, List.mem_map] at ht
  obtain ⟨r, hr, rfl⟩ := ht
  have hlt := repsTo_lt s _ _ hr
  have : s.seen.getD r default = s.seen[r] := by simp [hlt]
  rw [this]
  exact h.1.2 _ (List.getElem_mem hlt)
 ·unfold inR
  rw [List.all_eq_true]
  intro k hk
  have := so.r l hl k hk
  simpa using this
theorem small_fit {s : Sy} (hs : SyFit s) (ho : SyOk s) : SyFit (smallS s) := by
 obtain ⟨l1, l2, l3⟩ := small_len s
 have hle : (repsS s).length ≤ s.seen.length := repsTo_le s _
 have := ho.n
 refine ⟨by omega, by omega, by omega, fun t ht => ?_, fun l hl => ?_⟩
 ·simp only [smallS, List.mem_map] at ht
  obtain ⟨r, hr, rfl⟩ := ht
  have hlt := repsTo_lt s _ _ hr
  have : s.seen.getD r default = s.seen[r] := by simp [hlt]
  rw [this]
  exact hs.tm _ (List.getElem_mem hlt)
 ·simp only [smallS, List.mem_map, List.mem_range] at hl
  obtain ⟨e, he, rfl⟩ := hl
  rw [List.length_map]
  exact Nat.le_trans (List.length_filter_le _ _) (by simp; omega)
theorem small_reach {s : Sy} (ho : SyOk s) (h0 : 1 ≤ s.seen.length) {e : Nat} (he : e < (repsS s).length) : reS (smallS s) e = true := by
 obtain ⟨z1, z2⟩ := num_zero h0
 have hr := reps_re s _ _ (List.getElem_mem he)
 have hlt := repsTo_lt s _ _ (List.getElem_mem he)
 obtain ⟨m, hm, _, _, hm2⟩ := (small_beh ho (by omega)).fw 0 0 _ ⟨by omega, reS_zero h0, by rw [z1]; rfl⟩ ((reS_iff hlt).1 hr)
 have hrx := num_rep s e he
 have hme : m = e := by
  have : (numS' s (repsTo s s.seen.length)[e]) = (e : Int) := hrx
  omega
 subst hme
 exact (reS_iff (by rw [(small_len s).1]; exact he)).2 hm
theorem small_inj {s : Sy} (ho : SyOk s) (h0 : 1 ≤ s.seen.length) {e f : Nat} (he : e < (repsS s).length) (hf : f < (repsS s).length) (h : clN (smallS s) e = clN (smallS s) f) : e = f := by
 have sb := small_beh ho (by omega)
 have so := small_ok ho
 obtain ⟨l1, _⟩ := small_len s
 have hc := (sb.comp (fix_beh so)).comp sb.symm
 have me := List.getElem_mem he
 have mf := List.getElem_mem hf
 have := beh_fix ho hc (i := (repsS s)[e]) (j := (repsS s)[f]) ⟨f, ⟨e, ⟨repsTo_lt s _ _ me, reps_re s _ _ me, num_rep s e he⟩, by omega, by omega, h⟩, ⟨repsTo_lt s _ _ mf, reps_re s _ _ mf, num_rep s f hf⟩⟩
 have ee := num_rep s e he
 have ef := num_rep s f hf
 unfold numS' at ee ef
 rw [this] at ee
 rw [ee] at ef
 exact_mod_cast ef
theorem small_reps {s : Sy} (ho : SyOk s) (h0 : 1 ≤ s.seen.length) : ∀ k, k ≤ (repsS s).length → repsTo (smallS s) k = List.range k
 | 0, _ => by rw [repsTo]; rfl
 | k + 1, hk => by
  have ih := small_reps ho h0 k (by omega)
  have h2 : numI (clN (smallS s)) (repsTo (smallS s) k) (clN (smallS s) k) < 0 := by
   rw [numI_none.2 (fun r hr => ?_)]
   ·omega
   ·rw [ih, List.mem_range] at hr
    exact fun e => by have := small_inj ho h0 (by omega) (by omega) e; omega
  rw [reps_new (small_reach ho h0 (by omega)) h2, ih, List.range_succ]
theorem small_num {s : Sy} (ho : SyOk s) (h0 : 1 ≤ s.seen.length) {e : Nat} (he : e < (repsS s).length) : numS' (smallS s) e = e := by
 have hr : repsS (smallS s) = List.range (repsS s).length := by
  unfold repsS; rw [(small_len s).1]; exact small_reps ho h0 _ (Nat.le_refl _)
 have hl : e < (repsS (smallS s)).length := by rw [hr]; simpa using he
 have := num_rep (smallS s) e hl
 simp only [hr, List.getElem_range] at this
 exact this
theorem small_small {s : Sy} (ho : SyOk s) (h0 : 1 ≤ s.seen.length) : smallS (smallS s) = smallS s := by
 obtain ⟨l1, l2, l3⟩ := small_len s
 have so := small_ok ho
 have hr : repsS (smallS s) = List.range (repsS s).length := by
  unfold repsS; rw [l1]; exact small_reps ho h0 _ (Nat.le_refl _)
 have idm : ∀ {α : Type} (l : List α) (d : α), l.length = (repsS s).length → ((List.range (repsS s).length).map fun r => l.getD r d) = l := fun l d hl => by
  apply List.ext_getElem (by simp [hl])
  intro j h1 h2
  simp [h2]
 have e1 : (repsS (smallS s)).map (fun r => (smallS s).seen.getD r default) = (smallS s).seen := by rw [hr]; exact idm _ _ l1
 have e2 : (repsS (smallS s)).map (fun r => (smallS s).final.getD r false) = (smallS s).final := by rw [hr]; exact idm _ _ l2
 have e3 : ((List.range (repsS (smallS s)).length).map fun e => ((List.range (repsS (smallS s)).length).filter fun f => stepS (smallS s) e f && f != e).map fun (f : Nat) => (f : Int)) = (smallS s).next := by
  rw [hr, List.length_range]
  show _ = (List.range (repsS s).length).map fun e => ((List.range (repsS s).length).filter fun f => stepS s e f && f != e).map fun (f : Nat) => (f : Int)
  refine List.map_congr_left fun e he => ?_
  have he := List.mem_range.1 he
  congr 1
  refine List.filter_congr fun f hf => ?_
  have hf := List.mem_range.1 hf
  rw [Bool.eq_iff_iff, Bool.and_eq_true, Bool.and_eq_true, bne_iff_ne, step_iff]
  constructor
  ·rintro ⟨⟨i, a1, a2, a3, k, a4, a5⟩, hne⟩
   rw [l1] at a1
   have hk := nxS_lt so i (by omega) k a4
   rw [small_num ho h0 a1] at a3
   rw [small_num ho h0 (by omega)] at a5
   have hie : i = e := by omega
   have hkf : k = f := by omega
   subst hie; subst hkf
   exact ⟨((mem_nx_small he).1 a4).2.1, hne⟩
  ·rintro ⟨hst, hne⟩
   exact ⟨⟨e, by omega, small_reach ho h0 he, small_num ho h0 he, f, (mem_nx_small he).2 ⟨hf, hst, hne⟩, small_num ho h0 hf⟩, hne⟩
 show (⟨_, _, _⟩ : Sy) = smallS s
 rw [e1, e2, e3]
end Go.Bis
end
section
set_option maxRecDepth 20000
namespace Go.Bis
open Go Go.Av Go.Lexs
def padZ (l : List Nat) (n : Nat) : List Nat := l ++ List.replicate (n - l.length) 0
theorem padZ_length {l : List Nat} {n : Nat} (h : l.length ≤ n) : (padZ l n).length = n := by simp [padZ]; omega
theorem padZ_at {l : List Nat} {n k : Nat} (h : k < l.length) : (padZ l n)[k]? = some (l.getD k 0) := by
 unfold padZ; rw [List.getElem?_append_left h]; simp [h]
theorem padZ_set {l : List Nat} {n : Nat} (x : Nat) (h : l.length < n) : (padZ l n).set l.length x = padZ (l ++ [x]) n := by
 unfold padZ
 rw [List.set_append_right _ _ (Nat.le_refl _), Nat.sub_self]
 have : n - l.length = (n - (l ++ [x]).length) + 1 := by simp; omega
 rw [this, List.replicate_succ, List.set_cons_zero]
 simp
theorem padZ_all {l : List Nat} {n : Nat} (h : l.length = n) : padZ l n = l := by simp [padZ, h]
noncomputable def manyS (s : Sy) (t : Nat) : Nat := (itC (clE s) (relR (toN s) s.seen.length) s.seen.length t).2
theorem itS_lt2 (s : Sy) (t : Nat) : ∀ c ∈ itS s t, c < manyS s t := fun c hc => by
 unfold itS manyS at *
 cases t with
 | zero => exact numE_lt _ _ _ hc
 | succ t => exact numE_lt _ _ _ hc
noncomputable def seesL (s : Sy) (t : Nat) : List (List Bool) := (List.range s.seen.length).map fun i => seesB (itS s t) (manyS s t) (toN s i)
theorem seesL_length (s : Sy) (t : Nat) : (seesL s t).length = s.seen.length := by simp [seesL]
theorem relR_at (s : Sy) (t i k : Nat) (hi : i < s.seen.length) (hk : k < s.seen.length) : relR (toN s) s.seen.length (itS s t) i k = (((itS s t).getD i 0 == (itS s t).getD k 0) && decide ((seesL s t).getD i [] = (seesL s t).getD k [])) := by
 unfold relR
 congr 1
 have e1 : ∀ j, j < s.seen.length → (seesL s t).getD j [] = seesB (itS s t) (manyS s t) (toN s j) := fun j hj => by simp [seesL, hj]
 rw [e1 i hi, e1 k hk, Bool.eq_iff_iff, beq_iff_eq, decide_eq_true_eq]
 have hl : ∀ j, j ∈ toN s i ∨ j ∈ toN s k → (itS s t).getD j 0 < manyS s t := fun j hj => by
  have hj : j < s.seen.length := by rcases hj with h | h <;> exact toN_mem h
  have hj' : j < (itS s t).length := by rw [itS_length]; exact hj
  have : (itS s t).getD j 0 = (itS s t)[j] := by simp [hj']
  rw [this]; exact itS_lt2 s t _ (List.getElem_mem hj')
 rw [seesB_iff hl, seesB_iff (fun j hj => Nat.lt_of_lt_of_le (hl j hj) (itC_le t))]
theorem padZ_snoc {l : List Nat} {n i : Nat} (x : Nat) (h : l.length = i) (hi : i < n) : (Rw natC (padZ (l ++ [x]) n))[i]? = some (natC x) := by
 have : (padZ (l ++ [x]) n)[i]? = some x := by rw [padZ_at (by simp; omega)]; simp [← h]
 unfold Rw; rw [List.getElem?_map, this]; rfl
theorem padZ_old {l : List Nat} {n k : Nat} (x : Nat) (hk : k < l.length) (hi : l.length < n) : (Rw natC (padZ (l ++ [x]) n))[k]? = some (natC (l.getD k 0)) := by
 have : (padZ (l ++ [x]) n)[k]? = some (l.getD k 0) := by rw [padZ_at (by simp; omega), List.getD_eq_getElem?_getD, List.getElem?_append_left hk, ← List.getD_eq_getElem?_getD]
 unfold Rw; rw [List.getElem?_map, this]; rfl
theorem padZ_put {l : List Nat} {n i : Nat} (x y : Nat) (h : l.length = i) (hi : i < n) : (Rw natC (padZ (l ++ [x]) n)).set i [.int .i64 y] = Rw natC (padZ (l ++ [y]) n) := by
 rw [show [D.int .i64 (y : Int)] = natC y from rfl, Rw_set _ _ _ _ rfl]
 congr 1
 unfold padZ
 subst h
 rw [List.append_assoc, List.append_assoc, List.set_append_right _ _ (Nat.le_refl _), Nat.sub_self]
 simp
theorem find_first {e : Nat → Bool} {i k : Nat} (hk : k < i) (he : e k = true) (hno : ∀ j, j < k → e j = false) : (List.range i).find? e = some k := by
 induction i with
 | zero => omega
 | succ i ih =>
  rw [List.range_succ, List.find?_append]
  by_cases h : k < i
  ·rw [ih h]; rfl
  ·obtain rfl : k = i := by omega
   rw [List.find?_eq_none.2 (fun x hx => by rw [hno x (List.mem_range.1 hx)]; simp)]
   simp [he]
theorem find_not {e : Nat → Bool} {i : Nat} (hno : ∀ j, j < i → e j = false) : (List.range i).find? e = none :=
 List.find?_eq_none.2 fun x hx => by rw [hno x (List.mem_range.1 hx)]; simp
theorem numE_hit {e : Nat → Nat → Bool} {i k : Nat} (hk : k < i) (he : e i k = true) (hno : ∀ j, j < k → e i j = false) : numE e (i + 1) = ((numE e i).1 ++ [(numE e i).1.getD k 0], (numE e i).2) := by
 rw [numE, find_first hk he hno]
theorem numE_miss {e : Nat → Nat → Bool} {i : Nat} (hno : ∀ j, j < i → e i j = false) : numE e (i + 1) = ((numE e i).1 ++ [(numE e i).2], (numE e i).2 + 1) := by
 rw [numE, find_not hno]
end Go.Bis
namespace Go.Proofs.YtmohcdihdhggoaaGreatDoor
open Go Go.Av Go.Lexs Go.Bis
attribute [local irreducible] ACalls at8
set_option maxHeartbeats 4000000 in
theorem rclasses_a {Q} (s : Sy) (hs : SyFit s) (ho : SyOk s) (hn1 : 1 ≤ s.seen.length) (H : Heap) (h : Q (.sl 1 (Rw natC (fixS s))) H) : ACalls Tryz.prog 36 [.agg (syC s)] H Q := by
 refine acalls_of_wp [] Tryz.mixed Tryz.func36 rfl (by kernel_rfl) (of_decide_eq_true (by kernel_rfl)) (by kernel_rfl) ?_
 simp only [go_sem,seval, Tryz.results36]
 have hn := ho.n
 have hfl := ho.f
 intro b1 hb1
 have e1 : (H.set b1 (.box (syC s))) b1 = some (.box (syC s)) := heap_same _ _
 have hle : H.Le (H.set b1 (.box (syC s))) := heap_le_set hb1
 generalize H.set b1 (.box (syC s)) = Bs at *
 repeat' (first | with_reducible refine And.intro ?_ ?_ | simp only [go_sem,seval, e1] | simp (disch := omega) only [wrap64, cell_at, Rw_at, seesB_at, relR_at] | simp (disch := first | omega | grind) only [heap_ne_, del_ne] | (intro hx_; try simp only [set_none] at hx_) | with_reducible refine rLeads_a s hs ho _ ?_ | omega)
 rename_i c0
 have hf0 := hx_
 clear hx_
 have hrep : List.replicate s.seen.length [D.int .i64 0] = Rw natC (padZ (numE (clE s) 0).1 s.seen.length) := by
  rw [show padZ (numE (clE s) 0).1 s.seen.length = List.replicate s.seen.length 0 by simp [padZ, numE]]; exact Rw_rep _ _ _ rfl
 rw [hrep]
 refine loop_c [1, 3, 4, 5, 26] (fun (i : Nat) => [(27, .int .i64 i), (6, .int .i64 (numE (clE s) i).2)]) (fun (i : Nat) => Bs.set c0 (.vec 1 (Rw natC (padZ (numE (clE s) i).1 s.seen.length)))) (fun (i : Nat) => i ≤ s.seen.length) (fun (i : Nat) => s.seen.length - i) (0) (Nat.zero_le _) (by (try simp only [go_sem,seval]) <;> (try simp (disch := omega) [wrap64]) <;> (try omega)) (by first | with_reducible exact Heap.Le.refl _ | exact heap_set_le (by assumption) | exact Heap.Le.refl _ | exact heap_le_set (by assumption) | exact (by simp only [Go.Av.Heap.Le, Go.Av.Heap.set, Go.Av.Heap.del] at * <;> grind)) ?_
 rintro Ec rfl i hi
 have hlN := numE_length (clE s) i
 have hmN := numE_le (clE s) i
 have hpl := padZ_length (l := (numE (clE s) i).1) (n := s.seen.length) (by omega)
 by_cases hlt : i < s.seen.length
 ·have hkd : decide ((i : Int) < s.seen.length) = true := decide_eq_true (by omega)
  have hip : i < (padZ (numE (clE s) i).1 s.seen.length).length := by omega
  have hset : ∀ x : Nat, (Rw natC (padZ (numE (clE s) i).1 s.seen.length)).set i [.int .i64 x] = Rw natC (padZ ((numE (clE s) i).1 ++ [x]) s.seen.length) := fun x => by
   rw [show [D.int .i64 (x : Int)] = natC x from rfl, ← padZ_set x (by omega), hlN]
   exact Rw_set _ _ _ _ rfl
  repeat' (first | with_reducible refine And.intro ?_ ?_ | simp only [go_sem,seval, hkd, hpl, hset] | simp (disch := omega) only [wrap64, cell_at, Rw_at, seesB_at, relR_at] | simp (disch := first | omega | grind) only [heap_ne_, del_ne] | (intro hx_; try simp only [set_none] at hx_) | omega)
  refine loop_c [1, 3, 4, 5, 6, 7, 26, 27] (fun (k : Nat) => [(8, .int .i64 k)]) (fun (k : Nat) => Bs.set c0 (.vec 1 (Rw natC (padZ ((numE (clE s) i).1 ++ [(numE (clE s) i).2]) s.seen.length)))) (fun (k : Nat) => k ≤ i ∧ ∀ j, j < k → clE s i j = false) (fun (k : Nat) => i - k) (0) (⟨Nat.zero_le _, fun j hj => absurd hj (Nat.not_lt_zero _)⟩) (by (try simp only [go_sem,seval]) <;> (try simp (disch := omega) [wrap64]) <;> (try omega)) (by first | with_reducible exact Heap.Le.refl _ | exact heap_set_le (by assumption) | exact Heap.Le.refl _ | exact heap_le_set (by assumption) | exact (by simp only [Go.Av.Heap.Le, Go.Av.Heap.set, Go.Av.Heap.del] at * <;> grind)) ?_
  rintro Ec2 rfl k ⟨hk, hno⟩
  by_cases hki : k < i
  ·have hkd2 : decide ((k : Int) < i) = true := decide_eq_true (by omega)
   have hii : (i : Int) < s.final.length := by omega
   have hik : (k : Int) < s.final.length := by omega
   have hkn : (k : Int) < s.seen.length := by omega
   have hin : (i : Int) < s.seen.length := by omega
   have fi : i < s.final.length := by omega
   have fk : k < s.final.length := by omega
   have sk : k < s.seen.length := by omega
   have hcl : clE s i k = ((s.final[i] == s.final[k]) && eqT s.seen[i] s.seen[k]) := by simp [clE, fi, fk, hlt, sk]
   by_cases hf : s.final[i] = s.final[k]
   ·cases heq : eqT s.seen[i] s.seen[k] with
    | true =>
     have he : clE s i k = true := by rw [hcl, heq]; simp [hf]
     have hhit := numE_hit hki he hno
     have hv := numE_lt (clE s) i _ (show (numE (clE s) i).1.getD k 0 ∈ (numE (clE s) i).1 by rw [List.getD_eq_getElem?_getD, List.getElem?_eq_getElem (by omega)]; exact List.getElem_mem _)
     have hm1 : (numE (clE s) (i + 1)).2 = (numE (clE s) i).2 := by rw [hhit]
     have hm2 : (numE (clE s) (i + 1)).1 = (numE (clE s) i).1 ++ [(numE (clE s) i).1.getD k 0] := by rw [hhit]
     have hip2 : i < (padZ ((numE (clE s) i).1 ++ [(numE (clE s) i).2]) s.seen.length).length := by rw [padZ_length (by simp; omega)]; exact hlt
     have hvd : ¬ (((numE (clE s) i).1.getD k 0 : Nat) : Int) = ((numE (clE s) i).2 : Nat) := by omega
     repeat' (first | with_reducible refine And.intro ?_ ?_ | simp only [go_sem,seval, hkd2, e1, hii, hik, hkn, hin, Rw_at _ _ fi, Rw_at _ _ fk, Rw_at _ _ hlt, Rw_at _ _ sk, hf, heq, padZ_old _ (show k < (numE (clE s) i).1.length by omega) (show (numE (clE s) i).1.length < s.seen.length by omega), Rw_at _ _ hip2, padZ_put _ _ hlN hlt, padZ_snoc _ hlN hlt, hvd] | simp (disch := omega) only [wrap64, cell_at, Rw_at, seesB_at, relR_at] | simp (disch := first | omega | grind) only [heap_ne_, del_ne] | (intro hx_; try simp only [set_none] at hx_) | with_reducible refine rSame_a _ _ (hs.tm _ (List.getElem_mem hlt)) (hs.tm _ (List.getElem_mem sk)) _ ?_ | omega)
     exact nx_mk (i + 1) (by omega) (by omega) (by (try simp only [go_sem,seval, hm1]) <;> (try simp (disch := omega) [wrap64]) <;> (try omega)) (by rw [hm2]; exact Heap.Le.refl _)
    | false =>
     have he : clE s i k = false := by rw [hcl, heq]; simp
     repeat' (first | with_reducible refine And.intro ?_ ?_ | simp only [go_sem,seval, hkd2, e1, hii, hik, hkn, hin, Rw_at _ _ fi, Rw_at _ _ fk, Rw_at _ _ hlt, Rw_at _ _ sk, hf, heq] | simp (disch := omega) only [wrap64, cell_at, Rw_at, seesB_at, relR_at] | simp (disch := first | omega | grind) only [heap_ne_, del_ne] | (intro hx_; try simp only [set_none] at hx_) | with_reducible refine rSame_a _ _ (hs.tm _ (List.getElem_mem hlt)) (hs.tm _ (List.getElem_mem sk)) _ ?_ | omega)
     exact nx_mk (k + 1) ⟨by omega, fun j hj => by
      by_cases e : j = k
      ·rw [e]; exact he
      ·exact hno j (by omega)⟩ (by first | omega | (simp only []; omega)) (by (try simp only [go_sem,seval]) <;> (try simp (disch := omega) [wrap64]) <;> (try omega)) (Heap.Le.refl _)
   ·have he : clE s i k = false := by rw [hcl]; simp [hf]
    repeat' (first | with_reducible refine And.intro ?_ ?_ | simp only [go_sem,seval, hkd2, e1, hii, hik, hkn, hin, Rw_at _ _ fi, Rw_at _ _ fk, Rw_at _ _ hlt, Rw_at _ _ sk, hf] | simp (disch := omega) only [wrap64, cell_at, Rw_at, seesB_at, relR_at] | simp (disch := first | omega | grind) only [heap_ne_, del_ne] | (intro hx_; try simp only [set_none] at hx_) | omega)
    exact nx_mk (k + 1) ⟨by omega, fun j hj => by
     by_cases e : j = k
     ·rw [e]; exact he
     ·exact hno j (by omega)⟩ (by first | omega | (simp only []; omega)) (by (try simp only [go_sem,seval]) <;> (try simp (disch := omega) [wrap64]) <;> (try omega)) (Heap.Le.refl _)
  ·have hkd2 : decide ((k : Int) < i) = false := decide_eq_false (by omega)
   have hki2 : k = i := by omega
   subst hki2
   have hmis := numE_miss hno
   have hm1 : (numE (clE s) (k + 1)).2 = (numE (clE s) k).2 + 1 := by rw [hmis]
   have hm2 : (numE (clE s) (k + 1)).1 = (numE (clE s) k).1 ++ [(numE (clE s) k).2] := by rw [hmis]
   repeat' (first | with_reducible refine And.intro ?_ ?_ | simp only [go_sem,seval, hkd2, padZ_snoc _ hlN hlt] | simp (disch := omega) only [wrap64, cell_at, Rw_at, seesB_at, relR_at] | simp (disch := first | omega | grind) only [heap_ne_, del_ne] | (intro hx_; try simp only [set_none] at hx_) | omega)
   exact nx_mk (k + 1) (by omega) (by first | omega | (simp only []; omega)) (by (try simp only [go_sem,seval, hm1]) <;> (try simp (disch := omega) [wrap64]) <;> (try omega)) (by rw [hm2]; exact Heap.Le.refl _)
 ·have hkd : decide ((i : Int) < s.seen.length) = false := decide_eq_false (by omega)
  have hin : i = s.seen.length := by omega
  subst hin
  have hN0 : padZ (numE (clE s) s.seen.length).1 s.seen.length = itS s 0 := padZ_all hlN
  have hM0 : (numE (clE s) s.seen.length).2 = manyS s 0 := rfl
  rw [hN0, hM0]
  repeat' (first | with_reducible refine And.intro ?_ ?_ | simp only [go_sem,seval, hkd] | simp (disch := omega) only [wrap64, cell_at, Rw_at, seesB_at, relR_at] | simp (disch := first | omega | grind) only [heap_ne_, del_ne] | (intro hx_; try simp only [set_none] at hx_) | omega)
  refine loop_c [3, 4] (fun (p : Nat × Nat) => [(5, .vec p.2 1 0 s.seen.length), (6, .int .i64 (manyS s p.1))]) (fun (p : Nat × Nat) => Bs.set p.2 (.vec 1 (Rw natC (itS s p.1)))) (fun (p : Nat × Nat) => Bs p.2 = none) (fun (p : Nat × Nat) => s.seen.length - manyS s p.1) ((0, c0)) (hf0) (by (try simp only [go_sem,seval]) <;> (try simp (disch := omega) [wrap64]) <;> (try omega)) (by first | with_reducible exact Heap.Le.refl _ | exact heap_set_le (by assumption) | exact Heap.Le.refl _ | exact heap_le_set (by assumption) | exact (by simp only [Go.Av.Heap.Le, Go.Av.Heap.set, Go.Av.Heap.del] at * <;> grind)) ?_
  rintro Ec rfl ⟨t, c5⟩ hc5
  simp only at hc5
  have hlS := itS_length s t
  have hmS : manyS s t ≤ s.seen.length := itC_le t
  have hltS := itS_lt2 s t
  generalize hHc : Bs.set c5 (.vec 1 (Rw natC (itS s t))) = Hc
  have g5 : Hc c5 = some (.vec 1 (Rw natC (itS s t))) := by rw [← hHc, heap_same]
  have gle : Bs.Le Hc := by rw [← hHc]; exact heap_le_set hc5
  repeat' (first | with_reducible refine And.intro ?_ ?_ | simp only [go_sem,seval] | simp (disch := omega) only [wrap64, cell_at, Rw_at, seesB_at, relR_at] | simp (disch := first | omega | grind) only [heap_ne_, del_ne] | (intro hx_; try simp only [set_none] at hx_) | omega)
  have hm1000 : manyS s t ≤ 1000 := by omega
  clear hHc hi hlt hkd
  refine loop_c [3, 4, 5, 6, 80] (fun (p : Nat × Option Nat) => [(81, .int .i64 p.1), (9, outG 1 p.1 p.2)]) (fun (p : Nat × Option Nat) => putB Hc 1 (Rw boolsC ((seesL s t).take p.1)) p.2) (fun (p : Nat × Option Nat) => p.1 ≤ s.seen.length ∧ (p.2 = none → p.1 = 0) ∧ ∀ b, p.2 = some b → Hc b = none) (fun (p : Nat × Option Nat) => s.seen.length - p.1) ((0, none)) (⟨Nat.zero_le _, fun _ => rfl, fun b e => by cases e⟩) (by (try simp only [go_sem,seval]) <;> (try simp (disch := omega) [wrap64]) <;> (try omega)) (by first | with_reducible exact Heap.Le.refl _ | exact heap_set_le (by assumption) | exact Heap.Le.refl _ | exact heap_le_set (by assumption) | exact (by simp only [Go.Av.Heap.Le, Go.Av.Heap.set, Go.Av.Heap.del] at * <;> grind)) ?_
  rintro Ec rfl ⟨i, ob⟩ ⟨hi, h0, h1⟩
  simp only at hi h0 h1
  have hin := OutIn.mk (H := Hc) (sz := 1) (es := Rw boolsC ((seesL s t).take i)) (ob := ob) (fun e => by rw [h0 e]; rfl) h1
  have hsl := seesL_length s t
  by_cases hlt : i < s.seen.length
  ·have hkd : decide ((i : Int) < s.seen.length) = true := decide_eq_true (by omega)
   have hli : i < (leadsV s).length := by rw [leadsV_length]; exact hlt
   have hrow : (leadsV s)[i] = rowV (nxS s) s.seen.length i := by simp [leadsV]
   have hrl := rowV_length (nxS s) s.seen.length i
   have hg5 := hin.get g5
   generalize hHp : putB Hc 1 (Rw boolsC ((seesL s t).take i)) ob = Hp at hin hg5 ⊢
   repeat' (first | with_reducible refine And.intro ?_ ?_ | simp only [go_sem,seval, hkd, rep_b, Rw_at _ _ hli, hrow, hrl, leadsV_length] | simp (disch := omega) only [wrap64, cell_at, Rw_at, seesB_at, relR_at] | simp (disch := first | omega | grind) only [heap_ne_, del_ne] | (intro hx_; try simp only [set_none] at hx_) | omega)
   rename_i b2
   have hf2 := hx_
   clear hx_
   refine loop_c [3, 4, 5, 6, 9, 11, 80, 81, 89, 90] (fun (p : Nat × List Bool) => [(91, .int .i64 p.1)]) (fun (p : Nat × List Bool) => Hp.set b2 (.vec 1 (Rw boolC p.2))) (fun (p : Nat × List Bool) => p.1 ≤ s.seen.length ∧ p.2.length = manyS s t ∧ ∀ x, p.2[x]? = some true ↔ ∃ j, j < p.1 ∧ (rowV (nxS s) s.seen.length i)[j]? = some true ∧ (itS s t).getD j 0 = x) (fun (p : Nat × List Bool) => s.seen.length - p.1) ((0, List.replicate (manyS s t) false)) (⟨Nat.zero_le _, by simp, fun x => by simp [List.getElem?_replicate]⟩) (by (try simp only [go_sem,seval]) <;> (try simp (disch := omega) [wrap64]) <;> (try omega)) (by first | with_reducible exact Heap.Le.refl _ | exact heap_set_le (by assumption) | exact Heap.Le.refl _ | exact heap_le_set (by assumption) | exact (by simp only [Go.Av.Heap.Le, Go.Av.Heap.set, Go.Av.Heap.del] at * <;> grind)) ?_
   rintro Ec2 rfl ⟨k, v⟩ ⟨hk, hvl, hvx⟩
   simp only at hk hvl hvx
   have hin2 : OutIn Hc 1 (Rw boolsC ((seesL s t).take i)) ob (Hp.set b2 (.vec 1 (Rw boolC v))) := OutIn.set hin hf2 _
   by_cases hkt : k < s.seen.length
   ·have hkk : decide ((k : Int) < s.seen.length) = true := decide_eq_true (by omega)
    have hkr : k < (rowV (nxS s) s.seen.length i).length := by omega
    have hkl : k < (itS s t).length := by omega
    have hki : (k : Int) < s.seen.length := by omega
    have hcl := hltS _ (List.getElem_mem hkl)
    have hcv : (itS s t)[k] < v.length := by omega
    have hcv2 : (((itS s t)[k] : Nat) : Int) < manyS s t := by omega
    have hgd : (itS s t).getD k 0 = (itS s t)[k] := by simp [hkl]
    have hc2 : c5 ≠ b2 := by rintro rfl; rw [hg5] at hf2; cases hf2
    have hg52 : ∀ o, (Hp.set b2 o) c5 = some (.vec 1 (Rw natC (itS s t))) := fun o => by rw [heap_ne _ hc2]; exact hg5
    cases hrk : (rowV (nxS s) s.seen.length i)[k] with
    | false =>
     repeat' (first | with_reducible refine And.intro ?_ ?_ | simp only [go_sem,seval, hkk, Rw_at _ _ hkr, Rw_get _ _ hkr, hrk] | simp (disch := omega) only [wrap64, cell_at, Rw_at, seesB_at, relR_at] | simp (disch := first | omega | grind) only [heap_ne_, del_ne] | (intro hx_; try simp only [set_none] at hx_) | omega)
     refine nx_mk (k + 1, v) ⟨by simp only []; omega, hvl, fun x => ?_⟩ (by simp only []; omega) (by (try simp only [go_sem,seval]) <;> (try simp (disch := omega) [wrap64]) <;> (try omega)) (Heap.Le.refl _)
     rw [hvx x]
     constructor
     ·rintro ⟨j, h1, h2, h3⟩; exact ⟨j, Nat.lt_succ_of_lt h1, h2, h3⟩
     ·rintro ⟨j, h1, h2, h3⟩
      have hjk : j ≠ k := fun e => by rw [e, List.getElem?_eq_getElem hkr, hrk] at h2; cases h2
      exact ⟨j, by simp only [] at h1; omega, h2, h3⟩
    | true =>
     repeat' (first | with_reducible refine And.intro ?_ ?_ | simp only [go_sem,seval, hkk, hki, Rw_at _ _ hkr, Rw_get _ _ hkr, hrk, hg52, Rw_at _ _ hkl, Rw_get _ _ hkl, hcv2, hvl, Rw_at _ _ hcv, set_b] | simp (disch := omega) only [wrap64, cell_at, Rw_at, seesB_at, relR_at] | simp (disch := first | omega | grind) only [heap_ne_, del_ne] | (intro hx_; try simp only [set_none] at hx_) | omega)
     refine nx_mk (k + 1, v.set (itS s t)[k] true) ⟨by simp only []; omega, by simp only [List.length_set]; exact hvl, fun x => ?_⟩ (by simp only []; omega) (by (try simp only [go_sem,seval]) <;> (try simp (disch := omega) [wrap64]) <;> (try omega)) (Heap.Le.refl _)
     simp only []
     by_cases hx : (itS s t)[k] = x
     ·subst hx
      refine ⟨fun _ => ⟨k, Nat.lt_succ_self k, by rw [List.getElem?_eq_getElem hkr, hrk], hgd⟩, fun _ => by simp [hcv]⟩
     ·rw [List.getElem?_set_ne hx, hvx x]
      constructor
      ·rintro ⟨j, h1, h2, h3⟩; exact ⟨j, Nat.lt_succ_of_lt h1, h2, h3⟩
      ·rintro ⟨j, h1, h2, h3⟩
       have hjk : j ≠ k := fun e => by rw [e, hgd] at h3; exact hx h3
       exact ⟨j, by omega, h2, h3⟩
   ·have hkk : decide ((k : Int) < s.seen.length) = false := decide_eq_false (by omega)
    have hvs : v = (seesL s t)[i]'(by omega) := by
     have h2 : (seesL s t)[i]'(by omega) = seesB (itS s t) (manyS s t) (toN s i) := by simp [seesL]
     rw [h2]
     apply List.ext_getElem (by rw [hvl]; simp [seesB])
     intro x hx1 hx2
     have hxm : x < manyS s t := by omega
     have h3 := seesB_at (c := itS s t) (l := toN s i) hxm
     rw [List.getElem?_eq_getElem hx2] at h3
     rw [Option.some.inj h3, Bool.eq_iff_iff]
     have h4 := hvx x
     rw [List.getElem?_eq_getElem hx1] at h4
     rw [show (v[x] = true) = (some v[x] = some true) by simp, h4, List.any_eq_true]
     constructor
     ·rintro ⟨j, h5, h6, h7⟩
      exact ⟨j, mem_rowL.2 ⟨by omega, by simpa [rowV, show j < s.seen.length by omega] using h6⟩, by simpa using h7⟩
     ·rintro ⟨j, h5, h6⟩
      obtain ⟨h7, h8⟩ := mem_rowL.1 h5
      exact ⟨j, by omega, by simp [rowV, h7, h8], by simpa using h6⟩
    repeat' (first | with_reducible refine And.intro ?_ ?_ | simp only [go_sem,seval, hkk] | simp (disch := omega) only [wrap64, cell_at, Rw_at, seesB_at, relR_at] | simp (disch := first | omega | grind) only [heap_ne_, del_ne] | (intro hx_; try simp only [set_none] at hx_) | omega)
    rename_i b3
    have hb3 := hx_
    clear hx_
    have h32 : b3 ≠ b2 := by intro e; rw [e] at hb3; simp [Heap.set] at hb3
    have hd2 : delB ((Hp.set b2 (.vec 1 (Rw boolC v))).set b3 (.vec 1 [[.vec b2 1 0 (manyS s t)]])) ob b2 = some (.vec 1 (Rw boolC v)) := by
     cases ob with
     | none => simp [delB, Heap.set, Ne.symm h32]
     | some c =>
      have hc2 : c ≠ b2 := by
       intro e
       have := hin.2.1
       rw [e] at this
       exact absurd (this.symm.trans hf2) (by simp)
      simp [delB, Heap.del, Heap.set, Ne.symm h32, Ne.symm hc2]
    refine apS_q (by first | exact hin2 | exact OutIn.set (hin2) (by first | assumption | (refine set_none.2 ?_; assumption) | (simp only [set_none]; assumption) | (simp only [set_none] at *; simp_all; done)) _ | exact OutIn.set (OutIn.set (hin2) (by first | assumption | (refine set_none.2 ?_; assumption) | (simp only [set_none]; assumption) | (simp only [set_none] at *; simp_all; done)) _) (by first | assumption | (refine set_none.2 ?_; assumption) | (simp only [set_none]; assumption) | (simp only [set_none] at *; simp_all; done)) _ | exact OutIn.set (OutIn.set (OutIn.set (hin2) (by first | assumption | (refine set_none.2 ?_; assumption) | (simp only [set_none]; assumption) | (simp only [set_none] at *; simp_all; done)) _) (by first | assumption | (refine set_none.2 ?_; assumption) | (simp only [set_none]; assumption) | (simp only [set_none] at *; simp_all; done)) _) (by first | assumption | (refine set_none.2 ?_; assumption) | (simp only [set_none]; assumption) | (simp only [set_none] at *; simp_all; done)) _ | exact OutIn.set (OutIn.set (OutIn.set (OutIn.set (hin2) (by first | assumption | (refine set_none.2 ?_; assumption) | (simp only [set_none]; assumption) | (simp only [set_none] at *; simp_all; done)) _) (by first | assumption | (refine set_none.2 ?_; assumption) | (simp only [set_none]; assumption) | (simp only [set_none] at *; simp_all; done)) _) (by first | assumption | (refine set_none.2 ?_; assumption) | (simp only [set_none]; assumption) | (simp only [set_none] at *; simp_all; done)) _) (by first | assumption | (refine set_none.2 ?_; assumption) | (simp only [set_none]; assumption) | (simp only [set_none] at *; simp_all; done)) _ ) (by simp) (by first | rfl | (simp only [go_sem,seval, Rw_take_len]; done) | (simp only [go_sem,seval, Rw_take_len]; omega) | simp | (simp; omega)) (by simp only [List.length_cons, List.length_nil]; omega) (by simp only [List.length_cons, List.length_nil]; omega) fun b' hb' hb2 hle => ?_
    have hne : b2 ≠ b' := by intro e; rw [← e] at hb2; rw [hd2] at hb2; cases hb2
    repeat' (first | with_reducible refine And.intro ?_ ?_ | simp only [go_sem,seval] | simp (disch := omega) only [wrap64, cell_at, Rw_at, seesB_at, relR_at] | simp (disch := first | omega | grind) only [heap_ne_, del_ne] | (intro hx_; try simp only [set_none] at hx_) | omega)
    refine nx_w (i + 1, some b') ⟨by simp only []; omega, (fun e => by cases e), fun b e => by cases e; exact hb'⟩ (by simp only []; omega) ?_
    have e5 : Rw boolsC ((seesL s t).take (i + 1)) = Rw boolsC ((seesL s t).take i) ++ [[.sl 1 (Rw boolC v)]] := by rw [Rw_take_succ _ _ (by rw [hsl]; exact hlt), ← hvs]; rfl
    have hb2n : Hc b2 = none := hin.1.none hf2
    simp only [putB]
    rw [e5]
    refine weak_row (m := b2) ?_ ?_ (by rw [heap_same]) (by rw [heap_ne _ hne]; exact hd2) hne (fun k o hk ho => ⟨fun e => ?_, hle _ k o ?_⟩)
    ·exact (by (try simp only [go_sem,seval]) <;> (try simp (disch := omega) [wrap64]) <;> (try omega))
    ·rw [Rw_len, hvl]
    ·rw [e] at ho
     exact absurd (ho.symm.trans hb2n) (by simp)
    ·unfold Heap.set at ho ⊢
     rw [if_neg hk]; exact ho
  ·have hkd : decide ((i : Int) < s.seen.length) = false := decide_eq_false (by omega)
   have hin3 : i = s.seen.length := by omega
   cases ob with
   | none => have := h0 rfl; omega
   | some c9 =>
    rw [Rw_take_all _ i (by omega)] at hin ⊢
    have h9 := h1 c9 rfl
    have hg5 := hin.get g5
    have hg1 := hin.get (gle _ _ e1)
    have hg9 : putB Hc 1 (Rw boolsC (seesL s t)) (some c9) c9 = some (.vec 1 (Rw boolsC (seesL s t))) := hin.2.1
    have hleP : Bs.Le (putB Hc 1 (Rw boolsC (seesL s t)) (some c9)) := gle.trans hin.1
    generalize putB Hc 1 (Rw boolsC (seesL s t)) (some c9) = Hp at hin hg5 hg1 hg9 hleP ⊢
    subst hin3
    generalize hRd : relR (toN s) s.seen.length (itS s t) = R
    have hrp : List.replicate s.seen.length [D.int .i64 0] = Rw natC (padZ (numE R 0).1 s.seen.length) := by
     rw [show padZ (numE R 0).1 s.seen.length = List.replicate s.seen.length 0 by simp [padZ, numE]]; exact Rw_rep _ _ _ rfl
    repeat' (first | with_reducible refine And.intro ?_ ?_ | simp only [go_sem,seval, hkd, hrp] | simp (disch := omega) only [wrap64, cell_at, Rw_at, seesB_at, relR_at] | simp (disch := first | omega | grind) only [heap_ne_, del_ne] | (intro hx_; try simp only [set_none] at hx_) | omega)
    rename_i b14
    have hf14 := hx_
    clear hx_ hin h9 h0 h1
    refine loop_c [3, 4, 5, 6, 9, 14, 112] (fun (i : Nat) => [(113, .int .i64 i), (15, .int .i64 (numE R i).2)]) (fun (i : Nat) => Hp.set b14 (.vec 1 (Rw natC (padZ (numE R i).1 s.seen.length)))) (fun (i : Nat) => i ≤ s.seen.length) (fun (i : Nat) => s.seen.length - i) (0) (Nat.zero_le _) (by (try simp only [go_sem,seval]) <;> (try simp (disch := omega) [wrap64]) <;> (try omega)) (by first | with_reducible exact Heap.Le.refl _ | exact heap_set_le (by assumption) | exact Heap.Le.refl _ | exact heap_le_set (by assumption) | exact (by simp only [Go.Av.Heap.Le, Go.Av.Heap.set, Go.Av.Heap.del] at * <;> grind)) ?_
    rintro Ec rfl i hi
    have hlN := numE_length R i
    have hmN := numE_le R i
    have hpl := padZ_length (l := (numE R i).1) (n := s.seen.length) (by omega)
    have hc14 : c5 ≠ b14 := by rintro rfl; rw [hg5] at hf14; cases hf14
    have hc149 : c9 ≠ b14 := by rintro rfl; rw [hg9] at hf14; cases hf14
    have r5 : ∀ o, (Hp.set b14 o) c5 = some (.vec 1 (Rw natC (itS s t))) := fun o => by rw [heap_ne _ hc14]; exact hg5
    have r9 : ∀ o, (Hp.set b14 o) c9 = some (.vec 1 (Rw boolsC (seesL s t))) := fun o => by rw [heap_ne _ hc149]; exact hg9
    by_cases hlt : i < s.seen.length
    ·have hkd : decide ((i : Int) < s.seen.length) = true := decide_eq_true (by omega)
     have hip : i < (padZ (numE R i).1 s.seen.length).length := by omega
     have hset : ∀ x : Nat, (Rw natC (padZ (numE R i).1 s.seen.length)).set i [.int .i64 x] = Rw natC (padZ ((numE R i).1 ++ [x]) s.seen.length) := fun x => by
      rw [show [D.int .i64 (x : Int)] = natC x from rfl, ← padZ_set x (by omega), hlN]
      exact Rw_set _ _ _ _ rfl
     repeat' (first | with_reducible refine And.intro ?_ ?_ | simp only [go_sem,seval, hkd, hpl, hset] | simp (disch := omega) only [wrap64, cell_at, Rw_at, seesB_at, relR_at] | simp (disch := first | omega | grind) only [heap_ne_, del_ne] | (intro hx_; try simp only [set_none] at hx_) | omega)
     refine loop_c [3, 4, 5, 6, 9, 14, 15, 16, 112, 113] (fun (k : Nat) => [(17, .int .i64 k)]) (fun (k : Nat) => Hp.set b14 (.vec 1 (Rw natC (padZ ((numE R i).1 ++ [(numE R i).2]) s.seen.length)))) (fun (k : Nat) => k ≤ i ∧ ∀ j, j < k → R i j = false) (fun (k : Nat) => i - k) (0) (⟨Nat.zero_le _, fun j hj => absurd hj (Nat.not_lt_zero _)⟩) (by (try simp only [go_sem,seval]) <;> (try simp (disch := omega) [wrap64]) <;> (try omega)) (by first | with_reducible exact Heap.Le.refl _ | exact heap_set_le (by assumption) | exact Heap.Le.refl _ | exact heap_le_set (by assumption) | exact (by simp only [Go.Av.Heap.Le, Go.Av.Heap.set, Go.Av.Heap.del] at * <;> grind)) ?_
     rintro Ec2 rfl k ⟨hk, hno⟩
     by_cases hki : k < i
     ·have hkd2 : decide ((k : Int) < i) = true := decide_eq_true (by omega)
      have sk : k < s.seen.length := by omega
      have fi : i < (itS s t).length := by omega
      have fk : k < (itS s t).length := by omega
      have li : i < (seesL s t).length := by omega
      have lk : k < (seesL s t).length := by omega
      have hcl : R i k = (((itS s t)[i] == (itS s t)[k]) && decide ((seesL s t)[i] = (seesL s t)[k])) := by
       rw [← hRd, relR_at s t i k hlt sk]; simp [fi, fk, li, lk]
      have hrl : ∀ j (h : j < (seesL s t).length), (seesL s t)[j].length = manyS s t := fun j h => by simp [seesL, seesB]
      by_cases hf : (itS s t)[i] = (itS s t)[k]
      ·by_cases heq : (seesL s t)[i] = (seesL s t)[k]
       ·have he : R i k = true := by rw [hcl]; simp [hf, heq]
        have hhit := numE_hit hki he hno
        have hv := numE_lt R i _ (show (numE R i).1.getD k 0 ∈ (numE R i).1 by rw [List.getD_eq_getElem?_getD, List.getElem?_eq_getElem (by omega)]; exact List.getElem_mem _)
        have hm1 : (numE R (i + 1)).2 = (numE R i).2 := by rw [hhit]
        have hm2 : (numE R (i + 1)).1 = (numE R i).1 ++ [(numE R i).1.getD k 0] := by rw [hhit]
        have hip2 : i < (padZ ((numE R i).1 ++ [(numE R i).2]) s.seen.length).length := by rw [padZ_length (by simp; omega)]; exact hlt
        have hvd : ¬ (((numE R i).1.getD k 0 : Nat) : Int) = ((numE R i).2 : Nat) := by omega
        repeat' (first | with_reducible refine And.intro ?_ ?_ | simp only [go_sem,seval, hkd2, r5, r9, Rw_at _ _ fi, Rw_at _ _ fk, Rw_get _ _ fi, Rw_get _ _ fk, Rw_at _ _ li, Rw_at _ _ lk, Rw_get _ _ li, Rw_get _ _ lk, hf, heq, decide_true, eq_self, padZ_old _ (show k < (numE R i).1.length by omega) (show (numE R i).1.length < s.seen.length by omega), Rw_at _ _ hip2, padZ_put _ _ hlN hlt, padZ_snoc _ hlN hlt, hvd] | simp (disch := omega) only [wrap64, cell_at, Rw_at, seesB_at, relR_at] | simp (disch := first | omega | grind) only [heap_ne_, del_ne] | (intro hx_; try simp only [set_none] at hx_) | with_reducible refine rsame_a _ _ (by rw [hrl]; omega) (by simp only [hrl]) _ ?_ | omega)
        exact nx_mk (i + 1) (by omega) (by omega) (by (try simp only [go_sem,seval, hm1]) <;> (try simp (disch := omega) [wrap64]) <;> (try omega)) (by rw [hm2]; exact Heap.Le.refl _)
       ·have he : R i k = false := by rw [hcl]; simp [heq]
        have hed := decide_eq_false heq
        repeat' (first | with_reducible refine And.intro ?_ ?_ | simp only [go_sem,seval, hkd2, r5, r9, Rw_at _ _ fi, Rw_at _ _ fk, Rw_get _ _ fi, Rw_get _ _ fk, Rw_at _ _ li, Rw_at _ _ lk, Rw_get _ _ li, Rw_get _ _ lk, hf, hed] | simp (disch := omega) only [wrap64, cell_at, Rw_at, seesB_at, relR_at] | simp (disch := first | omega | grind) only [heap_ne_, del_ne] | (intro hx_; try simp only [set_none] at hx_) | with_reducible refine rsame_a _ _ (by rw [hrl]; omega) (by simp only [hrl]) _ ?_ | omega)
        exact nx_mk (k + 1) ⟨by omega, fun j hj => by
         by_cases e : j = k
         ·rw [e]; exact he
         ·exact hno j (by omega)⟩ (by first | omega | (simp only []; omega)) (by (try simp only [go_sem,seval]) <;> (try simp (disch := omega) [wrap64]) <;> (try omega)) (Heap.Le.refl _)
      ·have he : R i k = false := by rw [hcl]; simp [hf]
       have hf2 : ¬ ((itS s t)[i] : Int) = ((itS s t)[k] : Nat) := by omega
       repeat' (first | with_reducible refine And.intro ?_ ?_ | simp only [go_sem,seval, hkd2, r5, r9, Rw_at _ _ fi, Rw_at _ _ fk, Rw_get _ _ fi, Rw_get _ _ fk, hf2] | simp (disch := omega) only [wrap64, cell_at, Rw_at, seesB_at, relR_at] | simp (disch := first | omega | grind) only [heap_ne_, del_ne] | (intro hx_; try simp only [set_none] at hx_) | omega)
       exact nx_mk (k + 1) ⟨by omega, fun j hj => by
        by_cases e : j = k
        ·rw [e]; exact he
        ·exact hno j (by omega)⟩ (by first | omega | (simp only []; omega)) (by (try simp only [go_sem,seval]) <;> (try simp (disch := omega) [wrap64]) <;> (try omega)) (Heap.Le.refl _)
     ·have hkd2 : decide ((k : Int) < i) = false := decide_eq_false (by omega)
      have hki2 : k = i := by omega
      subst hki2
      have hmis := numE_miss hno
      have hm1 : (numE R (k + 1)).2 = (numE R k).2 + 1 := by rw [hmis]
      have hm2 : (numE R (k + 1)).1 = (numE R k).1 ++ [(numE R k).2] := by rw [hmis]
      repeat' (first | with_reducible refine And.intro ?_ ?_ | simp only [go_sem,seval, hkd2, padZ_snoc _ hlN hlt] | simp (disch := omega) only [wrap64, cell_at, Rw_at, seesB_at, relR_at] | simp (disch := first | omega | grind) only [heap_ne_, del_ne] | (intro hx_; try simp only [set_none] at hx_) | omega)
      exact nx_mk (k + 1) (by omega) (by first | omega | (simp only []; omega)) (by (try simp only [go_sem,seval, hm1]) <;> (try simp (disch := omega) [wrap64]) <;> (try omega)) (by rw [hm2]; exact Heap.Le.refl _)
    ·have hkd : decide ((i : Int) < s.seen.length) = false := decide_eq_false (by omega)
     have hi2 : i = s.seen.length := by omega
     subst hi2
     have hpa : padZ (numE R s.seen.length).1 s.seen.length = itS s (t + 1) := by rw [padZ_all hlN, ← hRd]; rfl
     have hma : (numE R s.seen.length).2 = manyS s (t + 1) := by rw [← hRd]; rfl
     rw [hpa, hma]
     have hmon := itC_mono (fineS s) t
     have hsam := itC_same (fineS s) t
     have hlt1 : manyS s t ≤ manyS s (t + 1) := hmon.1
     have hle1 : manyS s (t + 1) ≤ s.seen.length := itC_le (t + 1)
     by_cases hme : manyS s (t + 1) = manyS s t
     ·have hse : itS s (t + 1) = itS s t := hsam.2 hme
      repeat' (first | with_reducible refine And.intro ?_ ?_ | simp only [go_sem,seval, hkd, hme] | simp (disch := omega) only [wrap64, cell_at, Rw_at, seesB_at, relR_at] | simp (disch := first | omega | grind) only [heap_ne_, del_ne] | (intro hx_; try simp only [set_none] at hx_) | omega)
      refine Fin.out (ob := some b14) (by rw [Rw_len, itS_length]) (heap_same _ _) (Fin.less (H' := H) ?_ ?_)
      ·show H.Le ((Hp.set b14 _).del b14)
       rw [set_del hf14]; exact hle.trans hleP
      ·rw [hse, itS_fix hse]; exact h
     ·have hmi : ¬ ((manyS s (t + 1) : Nat) : Int) = (manyS s t : Nat) := by omega
      repeat' (first | with_reducible refine And.intro ?_ ?_ | simp only [go_sem,seval, hkd, hmi] | simp (disch := omega) only [wrap64, cell_at, Rw_at, seesB_at, relR_at] | simp (disch := first | omega | grind) only [heap_ne_, del_ne] | (intro hx_; try simp only [set_none] at hx_) | omega)
      exact nx_mk (t + 1, b14) (hleP.none hf14) (by simp only []; omega) (by (try simp only [go_sem,seval]) <;> (try simp (disch := omega) [wrap64]) <;> (try omega)) (fun q o hq => by
       unfold Heap.set at hq ⊢
       by_cases hqb : q = b14
       ·rw [if_pos hqb] at hq ⊢; exact hq
       ·rw [if_neg hqb] at hq ⊢; exact hleP q o hq)
end Go.Proofs.YtmohcdihdhggoaaGreatDoor
end
section
set_option maxRecDepth 20000
namespace Go.Bis
open Go Go.Av Go.Lexs
theorem validY_lens {s : Sy} (h : validY s = true) : s.seen.length ≤ 400 ∧ s.final.length ≤ 400 ∧ s.next.length ≤ 400 := by
 unfold validY at h
 simp only [Bool.and_eq_true, decide_eq_true_eq] at h
 omega
end Go.Bis
namespace Go.Proofs.YtmohcdihdhggoaaGreatDoor
open Go Go.Av Go.Lexs Go.Bis
attribute [local irreducible] ACalls at8
theorem wrap_ok {z : Int} (h1 : -9223372036854775808 ≤ z) (h2 : z ≤ 9223372036854775807) : IntKind.i64.wrap z = z := wrap64 h1 h2
set_option maxHeartbeats 2000000 in
theorem fewT_a {Q} (l : List Sy) (hl : l.length ≤ 2) (fl : ∀ s ∈ l, SyFit s) (H : Heap) (h : ∀ b, (b = true → (∀ s ∈ l, validY s = true) → ∀ s ∈ l, ∀ m ∈ s.next, m.length ≤ 900) → Q (.bool b) H) : ACalls Tryz.prog 10 [.sl 3 (Rw syC l)] H Q := by
 refine acalls_of_wp [] Tryz.mixed Tryz.func10 rfl (by kernel_rfl) (of_decide_eq_true (by kernel_rfl)) (by kernel_rfl) ?_
 simp only [go_sem,seval, Tryz.results10]
 have hF : Q (.bool false) H := h false (fun e => by cases e)
 repeat' (first | with_reducible refine And.intro ?_ ?_ | simp only [go_sem,seval] | simp (disch := omega) only [wrap64, cell_at, Rw_at] | simp (disch := first | omega | grind) only [heap_ne_, del_ne] | (intro hx_; try simp only [set_none] at hx_) | omega)
 refine loop_c [8, 9] (fun (p : Nat × Int) => [(10, .int .i64 p.1), (3, .int .i64 p.2)]) (fun (p : Nat × Int) => H) (fun (p : Nat × Int) => p.1 ≤ l.length ∧ ((∀ s ∈ l, validY s = true) → 0 ≤ p.2 ∧ p.2 ≤ 900 ∧ ∀ (i : Nat) (hi : i < l.length), i < p.1 → ∀ m ∈ l[i].next, m.length ≤ 900)) (fun (p : Nat × Int) => l.length - p.1) ((0, 0)) (⟨Nat.zero_le _, fun _ => ⟨by simp only []; omega, by simp only []; omega, fun i _ g => absurd g (Nat.not_lt_zero _)⟩⟩) (by (try simp only [go_sem,seval]) <;> (try simp (disch := omega) [wrap64]) <;> (try omega)) (by first | with_reducible exact Heap.Le.refl _ | exact heap_set_le (by assumption) | exact Heap.Le.refl _ | exact heap_le_set (by assumption) | exact (by simp only [Go.Av.Heap.Le, Go.Av.Heap.set, Go.Av.Heap.del] at * <;> grind)) ?_
 rintro Ec rfl ⟨k, c⟩ ⟨hk, hI⟩
 simp only at hk hI
 by_cases hlt : k < l.length
 ·have hlk : decide ((k : Int) < l.length) = true := decide_eq_true (by omega)
  have hmem := List.getElem_mem hlt
  have hs := fl _ hmem
  repeat' (first | with_reducible refine And.intro ?_ ?_ | simp only [go_sem,seval, hlk, Rw_at _ _ hlt] | simp (disch := omega) only [wrap64, cell_at, Rw_at] | simp (disch := first | omega | grind) only [heap_ne_, del_ne] | (intro hx_; try simp only [set_none] at hx_) | omega)
  rename_i b5
  have hf5 := hx_
  clear hx_
  have hst : (∀ s ∈ l, validY s = true) → IntKind.i64.wrap (c + IntKind.i64.wrap (IntKind.i64.wrap ((l[k].seen.length : Int) + l[k].final.length) + l[k].next.length)) = c + (l[k].seen.length + l[k].final.length + l[k].next.length) ∧ 0 ≤ c ∧ c ≤ 900 := fun hv => by
   obtain ⟨v1, v2, v3⟩ := validY_lens (hv _ hmem)
   obtain ⟨c1, c2, _⟩ := hI hv
   rw [wrap_ok (z := (l[k].seen.length : Int) + l[k].final.length) (by omega) (by omega), wrap_ok (z := (l[k].seen.length : Int) + l[k].final.length + l[k].next.length) (by omega) (by omega), wrap_ok (by omega) (by omega)]
   exact ⟨rfl, c1, c2⟩
  generalize IntKind.i64.wrap (c + IntKind.i64.wrap (IntKind.i64.wrap ((l[k].seen.length : Int) + l[k].final.length) + l[k].next.length)) = d0 at hst ⊢
  refine loop_c [5, 8, 9, 10, 28, 29] (fun (p : Nat × Int) => [(30, .int .i64 p.1), (3, .int .i64 p.2)]) (fun (p : Nat × Int) => H.set b5 (.box (syC l[k]))) (fun (p : Nat × Int) => p.1 ≤ l[k].next.length ∧ ((∀ s ∈ l, validY s = true) → 0 ≤ p.2 ∧ p.2 ≤ 2100 + p.1 * 17592186043904 ∧ ∀ (j : Nat) (hj : j < l[k].next.length), j < p.1 → (l[k].next[j].length : Int) ≤ p.2)) (fun (p : Nat × Int) => l[k].next.length - p.1) ((0, d0)) (⟨Nat.zero_le _, fun hv => by
   obtain ⟨v1, v2, v3⟩ := validY_lens (hv _ hmem)
   obtain ⟨s1, s2, s3⟩ := hst hv
   exact ⟨by simp only []; omega, by simp only []; omega, fun j _ g => absurd g (Nat.not_lt_zero _)⟩⟩) (by (try simp only [go_sem,seval]) <;> (try simp (disch := omega) [wrap64]) <;> (try omega)) (by first | with_reducible exact Heap.Le.refl _ | exact heap_set_le (by assumption) | exact Heap.Le.refl _ | exact heap_le_set (by assumption) | exact (by simp only [Go.Av.Heap.Le, Go.Av.Heap.set, Go.Av.Heap.del] at * <;> grind)) ?_
  rintro Ec2 rfl ⟨j, d⟩ ⟨hj, hJ⟩
  simp only at hj hJ
  have hnl := hs.nl
  by_cases hjt : j < l[k].next.length
  ·have hjk : decide ((j : Int) < l[k].next.length) = true := decide_eq_true (by omega)
   have hil := hs.il _ (List.getElem_mem hjt)
   repeat' (first | with_reducible refine And.intro ?_ ?_ | simp only [go_sem,seval, hjk, Rw_at _ _ hjt] | simp (disch := omega) only [wrap64, cell_at, Rw_at] | simp (disch := first | omega | grind) only [heap_ne_, del_ne] | (intro hx_; try simp only [set_none] at hx_) | omega)
   refine nx_mk (j + 1, IntKind.i64.wrap (d + l[k].next[j].length)) ⟨by simp only []; omega, fun hv => ?_⟩ (by simp only []; omega) (by (try simp only [go_sem,seval]) <;> (try simp (disch := omega) [wrap64]) <;> (try omega)) (Heap.Le.refl _)
   obtain ⟨v1, v2, v3⟩ := validY_lens (hv _ hmem)
   obtain ⟨j1, j2, j3⟩ := hJ hv
   have hw : IntKind.i64.wrap (d + l[k].next[j].length) = d + l[k].next[j].length := wrap_ok (by omega) (by omega)
   simp only [hw]
   refine ⟨by omega, by omega, fun i hi g => ?_⟩
   by_cases e : i = j
   ·subst e; omega
   ·have := j3 i hi (by omega); omega
  ·have hjk : decide ((j : Int) < l[k].next.length) = false := decide_eq_false (by omega)
   by_cases h9 : 900 < d
   ·have h9d : decide (900 < d) = true := decide_eq_true h9
    repeat' (first | with_reducible refine And.intro ?_ ?_ | simp only [go_sem,seval, hjk, h9d] | simp (disch := omega) only [wrap64, cell_at, Rw_at] | simp (disch := first | omega | grind) only [heap_ne_, del_ne] | (intro hx_; try simp only [set_none] at hx_) | omega)
    exact Fin.less (heap_le_set hf5) hF
   ·have h9d : decide (900 < d) = false := decide_eq_false h9
    repeat' (first | with_reducible refine And.intro ?_ ?_ | simp only [go_sem,seval, hjk, h9d] | simp (disch := omega) only [wrap64, cell_at, Rw_at] | simp (disch := first | omega | grind) only [heap_ne_, del_ne] | (intro hx_; try simp only [set_none] at hx_) | omega)
    refine few_a _ hs.sl hs.tm _ (fun bb => ?_)
    cases bb with
    | false =>
     repeat' (first | with_reducible refine And.intro ?_ ?_ | simp only [go_sem,seval] | simp (disch := omega) only [wrap64, cell_at, Rw_at] | simp (disch := first | omega | grind) only [heap_ne_, del_ne] | (intro hx_; try simp only [set_none] at hx_) | omega)
     exact Fin.less (heap_le_set hf5) hF
    | true =>
     repeat' (first | with_reducible refine And.intro ?_ ?_ | simp only [go_sem,seval] | simp (disch := omega) only [wrap64, cell_at, Rw_at] | simp (disch := first | omega | grind) only [heap_ne_, del_ne] | (intro hx_; try simp only [set_none] at hx_) | omega)
     refine nx_mk (k + 1, d) ⟨by simp only []; omega, fun hv => ?_⟩ (by simp only []; omega) (by (try simp only [go_sem,seval]) <;> (try simp (disch := omega) [wrap64]) <;> (try omega)) (heap_le_set hf5)
     simp only []
     obtain ⟨j1, j2, j3⟩ := hJ hv
     refine ⟨j1, by omega, fun i hi g m hm => ?_⟩
     by_cases e : i = k
     ·subst e
      obtain ⟨q, hq, rfl⟩ := List.mem_iff_getElem.1 hm
      have := j3 q hq (by omega)
      omega
     ·exact (hI hv).2.2 i hi (by omega) m hm
 ·have hlk : decide ((k : Int) < l.length) = false := decide_eq_false (by omega)
  repeat' (first | with_reducible refine And.intro ?_ ?_ | simp only [go_sem,seval, hlk] | simp (disch := omega) only [wrap64, cell_at, Rw_at] | simp (disch := first | omega | grind) only [heap_ne_, del_ne] | (intro hx_; try simp only [set_none] at hx_) | omega)
  refine Fin.same (h _ (fun _ hv s hs m hm => ?_))
  obtain ⟨i, hi, rfl⟩ := List.mem_iff_getElem.1 hs
  exact (hI hv).2.2 i hi (by omega) m hm
end Go.Proofs.YtmohcdihdhggoaaGreatDoor
end
section
set_option maxRecDepth 20000
namespace Go.Proofs.YtmohcdihdhggoaaGreatDoor
open Go Go.Av Go.Lexs Go.Bis
attribute [local irreducible] ACalls at8
set_option maxHeartbeats 4000000 in
theorem rSmall_a {Q} (s : Sy) (hs : SyFit s) (H : Heap) (h : Q (smallR s) H) : ACalls Tryz.prog 25 [.agg (syC s)] H Q := by
 refine acalls_of_wp [(3, .par), (16, .par)] Tryz.mixed Tryz.func25 rfl (by kernel_rfl) (of_decide_eq_true (by kernel_rfl)) (by kernel_rfl) ?_
 simp only [go_sem,seval, Tryz.results25]
 unfold smallR at h
 intro b1 hb1 b2 hb2
 have e1 : ((H.set b1 (.box (syC s))).set b2 (.box [.nilsl, .nilsl, .nilsl])) b1 = some (.box (syC s)) := by rw [heap_ne _ (by rintro rfl; rw [heap_same] at hb2; cases hb2)]; exact heap_same _ _
 have e2 : ((H.set b1 (.box (syC s))).set b2 (.box [.nilsl, .nilsl, .nilsl])) b2 = some (.box [.nilsl, .nilsl, .nilsl]) := heap_same _ _
 have hle : H.Le ((H.set b1 (.box (syC s))).set b2 (.box [.nilsl, .nilsl, .nilsl])) := (heap_le_set hb1).trans (heap_le_set hb2)
 have hH2 : H b2 = none := (heap_le_set hb1).none hb2
 generalize (H.set b1 (.box (syC s))).set b2 (.box [.nilsl, .nilsl, .nilsl]) = Bs at e1 e2 hle ⊢
 cases hvs : validY s with
 | false =>
  rw [hvs, if_neg (by simp)] at h
  repeat' (first | with_reducible refine And.intro ?_ ?_ | simp only [go_sem,seval, e1, e2, hvs] | simp (disch := omega) only [wrap64, cell_at, Rw_at, nxS_at, numL_at] | simp (disch := first | omega | grind) only [heap_ne_, del_ne] | (intro hx_; try simp only [set_none] at hx_) | with_reducible refine rvalid_a s hs _ ?_ | omega)
  refine Fin.less (H' := H) (fun q o hq => ?_) h
  rw [heap_ne _ (fun e => by rw [e, hH2] at hq; cases hq)]
  exact hle q o hq
 | true =>
  rw [hvs, if_pos rfl] at h
  have ho := validY_ok hvs
  have hn1 := validY_n hvs
  have l0 : 0 < (leadsV s).length := by rw [leadsV_length]; omega
  have hrow : (leadsV s)[0] = rowV (nxS s) s.seen.length 0 := by simp [leadsV]
  have hfl := fixS_length s
  repeat' (first | with_reducible refine And.intro ?_ ?_ | simp only [go_sem,seval, e1, e2, hvs] | simp (disch := omega) only [wrap64, cell_at, Rw_at, nxS_at, numL_at] | simp (disch := first | omega | grind) only [heap_ne_, del_ne] | (intro hx_; try simp only [set_none] at hx_) | with_reducible refine rvalid_a s hs _ ?_ | omega)
  refine par_mk (fun i => if i = 1 then .sl 1 (Rw natC (fixS s)) else .sl 1 (Rw boolsC (leadsV s))) [b1] ?_
  have m1 : b1 ∈ [b1] := by simp
  have hl0 : (0 : Int) < s.seen.length := by omega
  repeat' (first | with_reducible refine And.intro ?_ ?_ | simp only [go_sem,seval, e1, m1, Rw_at _ _ l0, Rw_get _ _ l0, hrow, leadsV_length, hfl, hl0] | simp (disch := omega) only [wrap64, cell_at, Rw_at, nxS_at, numL_at] | simp (disch := first | omega | grind) only [heap_ne_, del_ne] | (intro hx_; try simp only [set_none] at hx_) | with_reducible refine pc0 (fun H' Q hro hq => rclasses_a s hs ho hn1.1 H' hq) ?_ | with_reducible refine pc0 (fun H' Q hro hq => rLeads_a s hs ho H' hq) ?_ | omega)
  rename_i bN
  have hfN := hx_
  clear hx_
  have hrp : List.replicate s.seen.length [D.int .i64 0] = Rw intC (padI s.seen.length 0) := by
   rw [padI_zero]; exact Rw_rep _ _ _ rfl
  rw [hrp]
  refine loop_c [1, 2, 4, 5, 6, 33] (fun (i : Nat) => [(34, .int .i64 i)]) (fun (i : Nat) => Bs.set bN (.vec 1 (Rw intC (padI s.seen.length i)))) (fun (i : Nat) => i ≤ s.seen.length) (fun (i : Nat) => s.seen.length - i) (0) (Nat.zero_le _) (by (try simp only [go_sem,seval]) <;> (try simp (disch := omega) [wrap64]) <;> (try omega)) (by first | with_reducible exact Heap.Le.refl _ | exact heap_set_le (by assumption) | exact Heap.Le.refl _ | exact heap_le_set (by assumption) | exact (by simp only [Go.Av.Heap.Le, Go.Av.Heap.set, Go.Av.Heap.del] at * <;> grind)) ?_
  rintro Ec rfl i hi
  have hpl := padI_length s.seen.length i
  by_cases hlt : i < s.seen.length
  ·have hkd : decide ((i : Int) < s.seen.length) = true := decide_eq_true (by omega)
   have hip : i < (padI s.seen.length i).length := by omega
   have hps := padI_set s.seen.length i hlt
   have hsi : (Rw intC (padI s.seen.length i)).set i [D.int .i64 (-1)] = Rw intC (padI s.seen.length (i + 1)) := by rw [← hps]; exact Rw_set _ _ _ _ rfl
   repeat' (first | with_reducible refine And.intro ?_ ?_ | simp only [go_sem,seval, hkd, hpl, Rw_at _ _ hip, hsi] | simp (disch := omega) only [wrap64, cell_at, Rw_at, nxS_at, numL_at] | simp (disch := first | omega | grind) only [heap_ne_, del_ne] | (intro hx_; try simp only [set_none] at hx_) | omega)
   exact nx_mk (i + 1) (by omega) (by omega) (by (try simp only [go_sem,seval]) <;> (try simp (disch := omega) [wrap64]) <;> (try omega)) (Heap.Le.refl _)
  ·have hkd : decide ((i : Int) < s.seen.length) = false := decide_eq_false (by omega)
   have hin : i = s.seen.length := by omega
   subst hin
   rw [padI_all]
   repeat' (first | with_reducible refine And.intro ?_ ?_ | simp only [go_sem,seval, hkd] | simp (disch := omega) only [wrap64, cell_at, Rw_at, nxS_at, numL_at] | simp (disch := first | omega | grind) only [heap_ne_, del_ne] | (intro hx_; try simp only [set_none] at hx_) | omega)
   rename_i b8
   have hf8 := hx_
   clear hx_
   have hN1 : b1 ≠ bN := fun e => by rw [e, hfN] at e1; cases e1
   have hf8' : (Bs.set bN (.vec 1 (Rw intC (numL s 0)))) b8 = none := by simpa only [set_none] using hf8
   have h8N : b8 ≠ bN := fun e => by rw [e, heap_same] at hf8'; cases hf8'
   have hB8 : Bs b8 = none := by rwa [heap_ne _ h8N] at hf8'
   clear hf8 hf8'
   refine loop_c [1, 2, 4, 5, 6, 8, 41, 42] (fun (p : Nat × Option Nat × Option Nat) => [(43, .int .i64 p.1)]) (fun (p : Nat × Option Nat × Option Nat) => (putB (putB (Bs.set bN (.vec 1 (Rw intC (numL s p.1)))) 6 (Rw tmC (seenR s p.1)) p.2.1) 1 (Rw boolC (finR s p.1)) p.2.2).set b8 (.box [outG 6 (repsTo s p.1).length p.2.1, outG 1 (repsTo s p.1).length p.2.2, .nilsl])) (fun (p : Nat × Option Nat × Option Nat) => p.1 ≤ s.seen.length ∧ (p.2.1 = none → repsTo s p.1 = []) ∧ (p.2.2 = none → repsTo s p.1 = []) ∧ (∀ c, p.2.1 = some c → Bs c = none ∧ c ≠ bN ∧ c ≠ b8 ∧ p.2.2 ≠ some c) ∧ (∀ c, p.2.2 = some c → Bs c = none ∧ c ≠ bN ∧ c ≠ b8)) (fun (p : Nat × Option Nat × Option Nat) => s.seen.length - p.1) ((0, none, none)) (⟨Nat.zero_le _, fun _ => rfl, fun _ => rfl, (fun c e => by cases e), (fun c e => by cases e)⟩) (by (try simp only [go_sem,seval]) <;> (try simp (disch := omega) [wrap64]) <;> (try omega)) (by first | with_reducible exact Heap.Le.refl _ | exact heap_set_le (by assumption) | exact Heap.Le.refl _ | exact heap_le_set (by assumption) | exact (by simp only [Go.Av.Heap.Le, Go.Av.Heap.set, Go.Av.Heap.del] at * <;> grind)) ?_
   rintro Ec rfl ⟨k, oT, oF⟩ ⟨hk, hT0, hF0, hT1, hF1⟩
   simp only at hk hT0 hF0 hT1 hF1
   have hml := repsTo_le s k
   have hnl := numL_length s k
   have hsl := seenR_length s k
   have hfr := finR_length s k
   have hK : ∃ Hs, Hs = (putB (putB (Bs.set bN (.vec 1 (Rw intC (numL s k)))) 6 (Rw tmC (seenR s k)) oT) 1 (Rw boolC (finR s k)) oF).set b8 (.box [outG 6 (repsTo s k).length oT, outG 1 (repsTo s k).length oF, .nilsl]) ∧ Hs bN = some (.vec 1 (Rw intC (numL s k))) ∧ Hs b8 = some (.box [outG 6 (repsTo s k).length oT, outG 1 (repsTo s k).length oF, .nilsl]) ∧ OutAt Hs 6 (Rw tmC (seenR s k)) oT ∧ OutAt Hs 1 (Rw boolC (finR s k)) oF ∧ (∀ q o, Bs q = some o → Hs q = some o) := by
    refine ⟨_, rfl, ?_, heap_same _ _, ?_, ?_, fun q o hq => ?_⟩
    ·rcases oT with _ | cT <;> rcases oF with _ | cF <;> simp only [putB, Heap.set] <;> grind
    ·rcases oT with _ | cT
     ·show Rw tmC (seenR s k) = []
      unfold seenR; rw [hT0 rfl]; rfl
     ·show Heap.set _ b8 _ cT = _
      rcases oF with _ | cF <;> simp only [putB, Heap.set] <;> grind
    ·rcases oF with _ | cF
     ·show Rw boolC (finR s k) = []
      unfold finR; rw [hF0 rfl]; rfl
     ·show Heap.set _ b8 _ cF = _
      simp only [putB, Heap.set]; grind
    ·rcases oT with _ | cT <;> rcases oF with _ | cF <;> simp only [putB, Heap.set] <;> grind
   obtain ⟨Hs, hHs, rN, r8, rT, rF, rK⟩ := hK
   rw [← hHs]
   have r1 := rK _ _ e1
   by_cases hlt : k < s.seen.length
   ·have hkd : decide ((k : Int) < (fixS s).length) = true := decide_eq_true (by omega)
    have hrl := rowV_length (nxS s) s.seen.length 0
    have hkr : k < (rowV (nxS s) s.seen.length 0).length := by omega
    have hki : (k : Int) < s.seen.length := by omega
    have hrv : (rowV (nxS s) s.seen.length 0)[k] = reS s k := by simp [reS, hkr]
    have hkf : k < (fixS s).length := by omega
    have hcl : (fixS s)[k] = clN s k := by simp [clN, hkf]
    have hcn : clN s k < s.seen.length := by rw [← hcl]; exact fixS_lt s _ (List.getElem_mem _)
    have hcN : clN s k < (numL s k).length := by omega
    have hci : ((clN s k : Nat) : Int) < s.seen.length := by omega
    have hnv := numL_at s k (clN s k) hcn
    cases hre : reS s k with
    | false =>
     have hkeep := reps_keep (s := s) (k := k) (fun e => by rw [hre] at e; cases e.1)
     have hnk : numL s (k + 1) = numL s k := by unfold numL; rw [hkeep]
     repeat' (first | with_reducible refine And.intro ?_ ?_ | simp only [go_sem,seval, hkd, r1, r8, rN, hrl, hki, Rw_at _ _ hkr, Rw_get _ _ hkr, hrv, hre, Rw_at _ _ hkf, Rw_get _ _ hkf, hcl] | simp (disch := omega) only [wrap64, cell_at, Rw_at, nxS_at, numL_at] | simp (disch := first | omega | grind) only [heap_ne_, del_ne] | (intro hx_; try simp only [set_none] at hx_) | omega)
     exact nx_mk (k + 1, oT, oF) ⟨by simp only []; omega, (fun e => by simp only []; rw [hkeep]; exact hT0 e), (fun e => by simp only []; rw [hkeep]; exact hF0 e), hT1, hF1⟩ (by simp only []; omega) (by (try simp only [go_sem,seval]) <;> (try simp (disch := omega) [wrap64]) <;> (try omega)) (by
      simp only []
      rw [hnk, show seenR s (k + 1) = seenR s k by unfold seenR; rw [hkeep], show finR s (k + 1) = finR s k by unfold finR; rw [hkeep], hkeep, ← hHs]; exact Heap.Le.refl _)
    | true =>
     have hlenT : lenD Tryz.prog 22 (outG 6 (repsTo s k).length oT) = some (.int .i64 (repsTo s k).length) := by
      rcases oT with _ | cT
      ·rw [hT0 rfl]; first | (simp only [outG, go_sem,seval]; done) | (simp only [outG, go_sem,seval]; rfl)
      ·first | (simp only [outG, go_sem,seval]; done) | (simp only [outG, go_sem,seval]; rfl)
     by_cases hng : numI (clN s) (repsTo s k) (clN s k) < 0
     ·have hgd : decide (numI (clN s) (repsTo s k) (clN s k) < 0) = true := decide_eq_true hng
      have hnew := reps_new hre hng
      have hnln := numL_new hre hng hcn
      have hsi : (Rw intC (numL s k)).set (clN s k) [D.int .i64 ((repsTo s k).length : Int)] = Rw intC (numL s (k + 1)) := by rw [← hnln]; exact Rw_set _ _ _ _ rfl
      repeat' (first | with_reducible refine And.intro ?_ ?_ | simp only [go_sem,seval, hkd, r1, r8, rN, hrl, hki, hci, hnl, Rw_at _ _ hkr, Rw_get _ _ hkr, hrv, hre, Rw_at _ _ hkf, Rw_get _ _ hkf, hcl, Rw_at _ _ hcN, Rw_get _ _ hcN, hnv, hgd, hlenT, hsi] | simp (disch := omega) only [wrap64, cell_at, Rw_at, nxS_at, numL_at] | simp (disch := first | omega | grind) only [heap_ne_, del_ne] | (intro hx_; try simp only [set_none] at hx_) | omega)
      have q1 : (Hs.set bN (.vec 1 (Rw intC (numL s (k + 1))))) b1 = some (.box (syC s)) := by rw [heap_ne _ hN1]; exact r1
      have q8 : (Hs.set bN (.vec 1 (Rw intC (numL s (k + 1))))) b8 = some (.box [outG 6 (repsTo s k).length oT, outG 1 (repsTo s k).length oF, .nilsl]) := by rw [heap_ne _ h8N]; exact r8
      have qT : OutAt (Hs.set bN (.vec 1 (Rw intC (numL s (k + 1))))) 6 (Rw tmC (seenR s k)) oT := by
       rcases oT with _ | cT
       ·exact rT
       ·show Heap.set _ bN _ cT = _; rw [heap_ne _ (hT1 cT rfl).2.1]; exact rT
      have qF : OutAt (Hs.set bN (.vec 1 (Rw intC (numL s (k + 1))))) 1 (Rw boolC (finR s k)) oF := by
       rcases oF with _ | cF
       ·exact rF
       ·show Heap.set _ bN _ cF = _; rw [heap_ne _ (hF1 cF rfl).2.1]; exact rF
      have qK : ∀ q o, q ≠ bN → Hs q = some o → (Hs.set bN (.vec 1 (Rw intC (numL s (k + 1))))) q = some o := fun q o hq ho => by rw [heap_ne _ hq]; exact ho
      have qN : (Hs.set bN (.vec 1 (Rw intC (numL s (k + 1))))) bN = some (.vec 1 (Rw intC (numL s (k + 1)))) := heap_same _ _
      generalize hHq : Hs.set bN (.vec 1 (Rw intC (numL s (k + 1)))) = Hq at q1 q8 qT qF qK qN ⊢
      have kf : k < s.final.length := by have := ho.f; omega
      have kfi : (k : Int) < s.final.length := by omega
      refine par_mk2 (fun i => .c .undef) [b1, b8] ?_
      have m1 : b1 ∈ [b1, b8] := by simp
      have m2 : b8 ∈ [b1, b8] := by simp
      have hone1 : (outG 6 (repsTo s k).length oT).one = true := by cases oT <;> rfl
      have hone2 : (outG 1 (repsTo s k).length oF).one = true := by cases oF <;> rfl
      unfold D.one at hone1 hone2
      repeat' (first | with_reducible refine And.intro ?_ ?_ | simp only [go_sem,seval, q1, q8, m1, m2, hki, kfi, Rw_at _ _ hlt, Rw_at _ _ kf, hone1, hone2] | simp (disch := omega) only [wrap64, cell_at, Rw_at, nxS_at, numL_at] | simp (disch := first | omega | grind) only [heap_ne_, del_ne] | (intro hx_; try simp only [set_none] at hx_) | omega)
      rename_i x1
      have hx1 := hx_
      clear hx_
      have hTq : ∀ c, oT = some c → Hq c = some (.vec 6 (Rw tmC (seenR s k))) := fun c e => by subst e; exact qT
      have hFq : ∀ c, oF = some c → Hq c = some (.vec 1 (Rw boolC (finR s k))) := fun c e => by subst e; exact qF
      have qTx : OutAt (Hq.set x1 (.vec 6 [tmC s.seen[k]])) 6 (Rw tmC (seenR s k)) oT := by
       rcases oT with _ | cT
       ·exact qT
       ·have := hTq cT rfl
        show Heap.set _ x1 _ cT = _; rw [heap_ne _ (fun e => by rw [e, hx1] at this; cases this)]; exact this
      have hxb : x1 ∉ [b1, b8] := by
       simp only [List.mem_cons, List.not_mem_nil, or_false, not_or]
       exact ⟨fun e => (by rw [e, q1] at hx1; cases hx1), fun e => (by rw [e, q8] at hx1; cases hx1)⟩
      have hcb : ∀ c, oT = some c → c ∉ [b1, b8] := fun c e => by
       simp only [List.mem_cons, List.not_mem_nil, or_false, not_or]
       exact ⟨fun e2 => (by have := (hT1 c e).1; rw [e2, e1] at this; cases this), (hT1 c e).2.2.1⟩
      refine p_apS 41 96 (n := (repsTo s k).length) (m := 1) (bx := x1) (ob := oT) (es := Rw tmC (seenR s k)) (xs := [tmC s.seen[k]]) (by simp only [go_sem,seval]) (by decide) (by simp only [go_sem,seval]) (by simp only [go_sem,seval]) (by simp only [go_sem,seval]) (by simp only [go_sem,seval]) (heap_same _ _) rfl (by simp) qTx (by rw [Rw_len, hsl]) hxb (fun e => by have := hTq x1 e; rw [hx1] at this; cases this) hcb (by simp only [List.length_cons, List.length_nil]; omega) (by simp only [List.length_cons, List.length_nil]; omega) fun bT hbT => ?_
      rw [set_del hx1] at hbT ⊢
      have oT1 : oT ≠ some b1 := fun e => by have := (hT1 b1 e).1; rw [e1] at this; cases this
      have oT8 : oT ≠ some b8 := fun e => (hT1 b8 e).2.2.1 rfl
      have oTN : oT ≠ some bN := fun e => (hT1 bN e).2.1 rfl
      have s1 : ((delB Hq oT).set bT (.vec 6 (Rw tmC (seenR s k) ++ [tmC s.seen[k]]))) b1 = some (.box (syC s)) := by rw [keep_k q1 oT1 hbT]; exact q1
      have s8 : ((delB Hq oT).set bT (.vec 6 (Rw tmC (seenR s k) ++ [tmC s.seen[k]]))) b8 = some (.box [outG 6 (repsTo s k).length oT, outG 1 (repsTo s k).length oF, .nilsl]) := by rw [keep_k q8 oT8 hbT]; exact q8
      have sN : ((delB Hq oT).set bT (.vec 6 (Rw tmC (seenR s k) ++ [tmC s.seen[k]]))) bN = some (.vec 1 (Rw intC (numL s (k + 1)))) := by rw [keep_k qN oTN hbT]; exact qN
      have sF : ∀ c, oF = some c → ((delB Hq oT).set bT (.vec 6 (Rw tmC (seenR s k) ++ [tmC s.seen[k]]))) c = some (.vec 1 (Rw boolC (finR s k))) := fun c e => by
       have h2 := hFq c e
       rw [keep_k h2 (fun e2 => (hT1 c e2).2.2.2 e) hbT]; exact h2
      have sT : ((delB Hq oT).set bT (.vec 6 (Rw tmC (seenR s k) ++ [tmC s.seen[k]]))) bT = some (.vec 6 (Rw tmC (seenR s k) ++ [tmC s.seen[k]])) := heap_same _ _
      have sK : ∀ q o, Bs q = some o → ((delB Hq oT).set bT (.vec 6 (Rw tmC (seenR s k) ++ [tmC s.seen[k]]))) q = some o := fun q o hq => by
       have h2 := qK q o (fun e => by rw [e, hfN] at hq; cases hq) (rK q o hq)
       rw [keep_k h2 (fun e2 => by rw [(hT1 q e2).1] at hq; cases hq) hbT]; exact h2
      have hbTn : Hq bT = none ∨ oT = some bT := by
       rcases oT with _ | c
       ·exact .inl hbT
       ·change (Hq.del c) bT = none at hbT
        simp only [Heap.del] at hbT
        by_cases e : bT = c
        ·exact .inr (by rw [e])
        ·rw [if_neg e] at hbT; exact .inl hbT
      generalize (delB Hq oT).set bT (.vec 6 (Rw tmC (seenR s k) ++ [tmC s.seen[k]])) = Hr at s1 s8 sN sF sT sK ⊢
      repeat' (first | with_reducible refine And.intro ?_ ?_ | simp only [go_sem,seval, m1, m2, s1, s8, hki, kfi, Rw_at _ _ hlt, Rw_at _ _ kf, hone1, hone2] | simp (disch := omega) only [wrap64, cell_at, Rw_at, nxS_at, numL_at] | simp (disch := first | omega | grind) only [heap_ne_, del_ne] | (intro hx_; try simp only [set_none] at hx_) | omega)
      rename_i x2
      have hx2 := hx_
      clear hx_
      have hbT8 : bT ≠ b8 := fun e => by rw [e, s8] at sT; cases sT
      have hbTN : bT ≠ bN := fun e => by rw [e, sN] at sT; cases sT
      have qFx : OutAt (Hr.set x2 (.vec 1 [[.bool s.final[k]]])) 1 (Rw boolC (finR s k)) oF := by
       rcases oF with _ | cF
       ·exact qF
       ·have := sF cF rfl
        show Heap.set _ x2 _ cF = _; rw [heap_ne _ (fun e => by rw [e, hx2] at this; cases this)]; exact this
      have hxb2 : x2 ∉ [b1, b8] := by
       simp only [List.mem_cons, List.not_mem_nil, or_false, not_or]
       exact ⟨fun e => (by rw [e, s1] at hx2; cases hx2), fun e => (by rw [e, s8] at hx2; cases hx2)⟩
      have hcb2 : ∀ c, oF = some c → c ∉ [b1, b8] := fun c e => by
       simp only [List.mem_cons, List.not_mem_nil, or_false, not_or]
       exact ⟨fun e2 => (by have := (hF1 c e).1; rw [e2, e1] at this; cases this), (hF1 c e).2.2⟩
      refine p_apS 4 1 (n := (repsTo s k).length) (m := 1) (bx := x2) (ob := oF) (es := Rw boolC (finR s k)) (xs := [[.bool s.final[k]]]) (by simp only [go_sem,seval]) (by decide) (by simp only [go_sem,seval]) (by simp only [go_sem,seval]) (by simp only [go_sem,seval]) (by simp only [go_sem,seval]) (heap_same _ _) rfl (by simp) qFx (by rw [Rw_len, hfr]) hxb2 (fun e => by have := sF x2 e; rw [hx2] at this; cases this) hcb2 (by simp only [List.length_cons, List.length_nil]; omega) (by simp only [List.length_cons, List.length_nil]; omega) fun bF hbF => ?_
      rw [set_del hx2] at hbF ⊢
      have oF8 : oF ≠ some b8 := fun e => (hF1 b8 e).2.2 rfl
      have oFN : oF ≠ some bN := fun e => (hF1 bN e).2.1 rfl
      have v8 : ((delB Hr oF).set bF (.vec 1 (Rw boolC (finR s k) ++ [[.bool s.final[k]]]))) b8 = some (.box [outG 6 (repsTo s k).length oT, outG 1 (repsTo s k).length oF, .nilsl]) := by rw [keep_k s8 oF8 hbF]; exact s8
      have vN : ((delB Hr oF).set bF (.vec 1 (Rw boolC (finR s k) ++ [[.bool s.final[k]]]))) bN = some (.vec 1 (Rw intC (numL s (k + 1)))) := by rw [keep_k sN oFN hbF]; exact sN
      have oFT : oF ≠ some bT := fun e => by have := sF bT e; rw [sT] at this; cases this
      have vT : ((delB Hr oF).set bF (.vec 1 (Rw boolC (finR s k) ++ [[.bool s.final[k]]]))) bT = some (.vec 6 (Rw tmC (seenR s k) ++ [tmC s.seen[k]])) := by rw [keep_k sT oFT hbF]; exact sT
      have vF : ((delB Hr oF).set bF (.vec 1 (Rw boolC (finR s k) ++ [[.bool s.final[k]]]))) bF = some (.vec 1 (Rw boolC (finR s k) ++ [[.bool s.final[k]]])) := heap_same _ _
      have vK : ∀ q o, Bs q = some o → ((delB Hr oF).set bF (.vec 1 (Rw boolC (finR s k) ++ [[.bool s.final[k]]]))) q = some o := fun q o hq => by
       have h2 := sK q o hq
       rw [keep_k h2 (fun e2 => by rw [(hF1 q e2).1] at hq; cases hq) hbF]; exact h2
      have hbFn : Hr bF = none ∨ oF = some bF := by
       rcases oF with _ | c
       ·exact .inl hbF
       ·change (Hr.del c) bF = none at hbF
        simp only [Heap.del] at hbF
        by_cases e : bF = c
        ·exact .inr (by rw [e])
        ·rw [if_neg e] at hbF; exact .inl hbF
      have hFB : Bs bF = none ∧ bF ≠ bN ∧ bF ≠ b8 := by
       rcases hbFn with e | e
       ·refine ⟨?_, fun g => (by rw [g, sN] at e; cases e), fun g => (by rw [g, s8] at e; cases e)⟩
        cases hb : Bs bF with
        | none => rfl
        | some o => have := sK bF o hb; rw [e] at this; cases this
       ·exact hF1 bF e
      have hTB : Bs bT = none := by
       rcases hbTn with e | e
       ·cases hb : Bs bT with
        | none => rfl
        | some o => have := qK bT o hbTN (rK bT o hb); rw [e] at this; cases this
       ·exact (hT1 bT e).1
      generalize (delB Hr oF).set bF (.vec 1 (Rw boolC (finR s k) ++ [[.bool s.final[k]]])) = Hv at v8 vN vT vF vK ⊢
      repeat' (first | with_reducible refine And.intro ?_ ?_ | simp only [go_sem,seval, m1, m2, v8] | simp (disch := omega) only [wrap64, cell_at, Rw_at, nxS_at, numL_at] | simp (disch := first | omega | grind) only [heap_ne_, del_ne] | (intro hx_; try simp only [set_none] at hx_) | omega)
      have hTF : bF ≠ bT := fun e => by rw [e, vT] at vF; cases vF
      have hls : (repsTo s (k + 1)).length = (repsTo s k).length + 1 := by rw [hnew]; simp
      have hss : Rw tmC (seenR s (k + 1)) = Rw tmC (seenR s k) ++ [tmC s.seen[k]] := by unfold seenR; rw [hnew]; simp [Rw, hlt]
      have hff : Rw boolC (finR s (k + 1)) = Rw boolC (finR s k) ++ [[.bool s.final[k]]] := by unfold finR; rw [hnew]; simp [Rw, boolC, kf]
      refine nx_mk (k + 1, some bT, some bF) ⟨by simp only []; omega, (fun e => by cases e), (fun e => by cases e), (fun c e => by cases e; exact ⟨hTB, hbTN, hbT8, fun e => hTF (Option.some.inj e)⟩), (fun c e => by cases e; exact hFB)⟩ (by simp only []; omega) (by (try simp only [go_sem,seval]) <;> (try simp (disch := omega) [wrap64]) <;> (try omega)) (fun q o hq => ?_)
      simp only [hls, hss, hff, putB] at hq
      unfold Heap.set at hq ⊢
      by_cases h8 : q = b8
      ·rw [if_pos h8] at hq ⊢; exact hq
      rw [if_neg h8] at hq ⊢
      by_cases hF : q = bF
      ·rw [if_pos hF] at hq; rw [hF, vF]; exact hq
      rw [if_neg hF] at hq
      by_cases hT : q = bT
      ·rw [if_pos hT] at hq; rw [hT, vT]; exact hq
      rw [if_neg hT] at hq
      by_cases hN : q = bN
      ·rw [if_pos hN] at hq; rw [hN, vN]; exact hq
      rw [if_neg hN] at hq
      exact vK q o hq
     ·have hgd : decide (numI (clN s) (repsTo s k) (clN s k) < 0) = false := decide_eq_false hng
      have hkeep := reps_keep (s := s) (k := k) (fun e => hng e.2)
      have hnk : numL s (k + 1) = numL s k := by unfold numL; rw [hkeep]
      repeat' (first | with_reducible refine And.intro ?_ ?_ | simp only [go_sem,seval, hkd, r1, r8, rN, hrl, hki, hci, hnl, Rw_at _ _ hkr, Rw_get _ _ hkr, hrv, hre, Rw_at _ _ hkf, Rw_get _ _ hkf, hcl, Rw_at _ _ hcN, Rw_get _ _ hcN, hnv, hgd] | simp (disch := omega) only [wrap64, cell_at, Rw_at, nxS_at, numL_at] | simp (disch := first | omega | grind) only [heap_ne_, del_ne] | (intro hx_; try simp only [set_none] at hx_) | omega)
      exact nx_mk (k + 1, oT, oF) ⟨by simp only []; omega, (fun e => by simp only []; rw [hkeep]; exact hT0 e), (fun e => by simp only []; rw [hkeep]; exact hF0 e), hT1, hF1⟩ (by simp only []; omega) (by (try simp only [go_sem,seval]) <;> (try simp (disch := omega) [wrap64]) <;> (try omega)) (by
       simp only []
       rw [hnk, show seenR s (k + 1) = seenR s k by unfold seenR; rw [hkeep], show finR s (k + 1) = finR s k by unfold finR; rw [hkeep], hkeep, ← hHs]; exact Heap.Le.refl _)
   ·have hkd : decide ((k : Int) < (fixS s).length) = false := decide_eq_false (by omega)
    have hkn : k = s.seen.length := by omega
    subst hkn
    have hne := repsTo_ne hn1.1 s.seen.length hn1.1
    rcases oT with _ | cT
    ·exact absurd (hT0 rfl) hne
    rcases oF with _ | cF
    ·exact absurd (hF0 rfl) hne
    repeat' (first | with_reducible refine And.intro ?_ ?_ | simp only [go_sem,seval, hkd, r8] | simp (disch := omega) only [wrap64, cell_at, Rw_at, nxS_at, numL_at] | simp (disch := first | omega | grind) only [heap_ne_, del_ne] | (intro hx_; try simp only [set_none] at hx_) | omega)
    have zT : Hs cT = some (.vec 6 (Rw tmC (seenR s s.seen.length))) := rT
    have zF : Hs cF = some (.vec 1 (Rw boolC (finR s s.seen.length))) := rF
    obtain ⟨t1, t2, t3, t4⟩ := hT1 cT rfl
    obtain ⟨f1, f2, f3⟩ := hF1 cF rfl
    have hTF : cT ≠ cF := fun e => t4 (by rw [e])
    have z2 : Hs b2 = some (.box [.nilsl, .nilsl, .nilsl]) := rK _ _ e2
    have hleS : H.Le Hs := fun q o hq => rK q o (hle q o hq)
    have hHT : H cT = none ∧ H cF = none ∧ H bN = none ∧ H b8 = none := ⟨hle.none t1, hle.none f1, hle.none hfN, hle.none hB8⟩
    clear hHs rT rF rK hT0 hF0 hT1 hF1 t1 f1 e1 e2 hle
    refine loop_c [1, 2, 4, 5, 6, 8, 88] (fun (p : Nat × Option Nat) => [(89, .int .i64 p.1)]) (fun (p : Nat × Option Nat) => (putB Hs 1 (Rw intsC ((smallS s).next.take p.1)) p.2).set b8 (.box [.vec cT 6 0 (repsTo s s.seen.length).length, .vec cF 1 0 (repsTo s s.seen.length).length, outG 1 p.1 p.2])) (fun (p : Nat × Option Nat) => p.1 ≤ (repsTo s s.seen.length).length ∧ (p.2 = none → p.1 = 0) ∧ ∀ b, p.2 = some b → Hs b = none) (fun (p : Nat × Option Nat) => (repsTo s s.seen.length).length - p.1) ((0, none)) (⟨Nat.zero_le _, fun _ => rfl, fun b e => by cases e⟩) (by (try simp only [go_sem,seval]) <;> (try simp (disch := omega) [wrap64]) <;> (try omega)) (by first | with_reducible exact Heap.Le.refl _ | exact heap_set_le (by assumption) | exact Heap.Le.refl _ | exact heap_le_set (by assumption) | exact (by simp only [Go.Av.Heap.Le, Go.Av.Heap.set, Go.Av.Heap.del] at * <;> grind)) ?_
    rintro Ec rfl ⟨e, oN⟩ ⟨he, hN0, hN1'⟩
    simp only at he hN0 hN1'
    have hin := OutIn.mk (H := Hs) (sz := 1) (es := Rw intsC ((smallS s).next.take e)) (ob := oN) (fun g => by rw [hN0 g]; rfl) hN1'
    have hsn : (smallS s).next.length = (repsTo s s.seen.length).length := by simp [smallS, repsS]
    have n18 : b1 ≠ b8 := fun g => by rw [g, r8] at r1; cases r1
    have n28 : b2 ≠ b8 := fun g => by rw [g, r8] at z2; cases z2
    have nT8 : cT ≠ b8 := t3
    have nF8 : cF ≠ b8 := f3
    have nb8 : ∀ c, oN = some c → c ≠ b8 := fun c g g2 => by have := hN1' c g; rw [g2, r8] at this; cases this
    have y1 : ((putB Hs 1 (Rw intsC ((smallS s).next.take e)) oN).set b8 (.box [.vec cT 6 0 (repsTo s s.seen.length).length, .vec cF 1 0 (repsTo s s.seen.length).length, outG 1 e oN])) b1 = some (.box (syC s)) := by rw [heap_ne _ n18]; exact hin.get r1
    have y8 : ((putB Hs 1 (Rw intsC ((smallS s).next.take e)) oN).set b8 (.box [.vec cT 6 0 (repsTo s s.seen.length).length, .vec cF 1 0 (repsTo s s.seen.length).length, outG 1 e oN])) b8 = some (.box [.vec cT 6 0 (repsTo s s.seen.length).length, .vec cF 1 0 (repsTo s s.seen.length).length, outG 1 e oN]) := heap_same _ _
    have yN : ((putB Hs 1 (Rw intsC ((smallS s).next.take e)) oN).set b8 (.box [.vec cT 6 0 (repsTo s s.seen.length).length, .vec cF 1 0 (repsTo s s.seen.length).length, outG 1 e oN])) bN = some (.vec 1 (Rw intC (numL s s.seen.length))) := by rw [heap_ne _ (Ne.symm h8N)]; exact hin.get rN
    have yK : ∀ q o, q ≠ b8 → Hs q = some o → ((putB Hs 1 (Rw intsC ((smallS s).next.take e)) oN).set b8 (.box [.vec cT 6 0 (repsTo s s.seen.length).length, .vec cF 1 0 (repsTo s s.seen.length).length, outG 1 e oN])) q = some o := fun q o hq ho => by rw [heap_ne _ hq]; exact hin.get ho
    have yO : ∀ c, oN = some c → ((putB Hs 1 (Rw intsC ((smallS s).next.take e)) oN).set b8 (.box [.vec cT 6 0 (repsTo s s.seen.length).length, .vec cF 1 0 (repsTo s s.seen.length).length, outG 1 e oN])) c = some (.vec 1 (Rw intsC ((smallS s).next.take e))) := fun c g => by
     rw [heap_ne _ (nb8 c g)]; subst g; exact hin.2.1
    generalize hHe : (putB Hs 1 (Rw intsC ((smallS s).next.take e)) oN).set b8 (.box [.vec cT 6 0 (repsTo s s.seen.length).length, .vec cF 1 0 (repsTo s s.seen.length).length, outG 1 e oN]) = He at y1 y8 yN yK yO ⊢
    by_cases het : e < (repsTo s s.seen.length).length
    ·have hed : decide ((e : Int) < (repsTo s s.seen.length).length) = true := decide_eq_true (by omega)
     repeat' (first | with_reducible refine And.intro ?_ ?_ | simp only [go_sem,seval, hed, y8, rep_b] | simp (disch := omega) only [wrap64, cell_at, Rw_at, nxS_at, numL_at] | simp (disch := first | omega | grind) only [heap_ne_, del_ne] | (intro hx_; try simp only [set_none] at hx_) | omega)
     rename_i bM
     have hfM := hx_
     clear hx_
     have w18 : b1 ≠ bM := fun g => by rw [g, hfM] at y1; cases y1
     have wN : bN ≠ bM := fun g => by rw [g, hfM] at yN; cases yN
     have w8 : b8 ≠ bM := fun g => by rw [g, hfM] at y8; cases y8
     have x1 : ∀ o, (He.set bM o) b1 = some (.box (syC s)) := fun o => by rw [heap_ne _ w18]; exact y1
     have xN : ∀ o, (He.set bM o) bN = some (.vec 1 (Rw intC (numL s s.seen.length))) := fun o => by rw [heap_ne _ wN]; exact yN
     refine loop_c [1, 2, 4, 5, 6, 8, 11, 12, 88, 89, 97] (fun (p : Nat × List Bool) => [(98, .int .i64 p.1)]) (fun (p : Nat × List Bool) => He.set bM (.vec 1 (Rw boolC p.2))) (fun (p : Nat × List Bool) => p.1 ≤ s.seen.length ∧ p.2.length = (repsTo s s.seen.length).length ∧ ∀ x : Nat, p.2[x]? = some true ↔ ∃ j, j < p.1 ∧ reS s j = true ∧ numS' s j = e ∧ ∃ k ∈ nxS s j, numS' s k = x) (fun (p : Nat × List Bool) => s.seen.length - p.1) ((0, List.replicate (repsTo s s.seen.length).length false)) (⟨Nat.zero_le _, by simp, fun x => by simp [List.getElem?_replicate]⟩) (by (try simp only [go_sem,seval]) <;> (try simp (disch := omega) [wrap64]) <;> (try omega)) (by first | with_reducible exact Heap.Le.refl _ | exact heap_set_le (by assumption) | exact Heap.Le.refl _ | exact heap_le_set (by assumption) | exact (by simp only [Go.Av.Heap.Le, Go.Av.Heap.set, Go.Av.Heap.del] at * <;> grind)) ?_
     rintro Ec3 rfl ⟨i, v⟩ ⟨hi, hv, hvx⟩
     simp only at hi hv hvx
     by_cases hit : i < s.seen.length
     ·have hid : decide ((i : Int) < (fixS s).length) = true := decide_eq_true (by omega)
      have hrl := rowV_length (nxS s) s.seen.length 0
      have hir : i < (rowV (nxS s) s.seen.length 0).length := by omega
      have hii : (i : Int) < s.seen.length := by omega
      have hrv : (rowV (nxS s) s.seen.length 0)[i] = reS s i := by simp [reS, hir]
      have hif : i < (fixS s).length := by omega
      have hcl : (fixS s)[i] = clN s i := by simp [clN, hif]
      have hcn : clN s i < s.seen.length := by rw [← hcl]; exact fixS_lt s _ (List.getElem_mem _)
      have hcN : clN s i < (numL s s.seen.length).length := by rw [numL_length]; exact hcn
      have hci : ((clN s i : Nat) : Int) < s.seen.length := by omega
      have hnv : (numL s s.seen.length)[clN s i] = numS' s i := numL_at s _ _ hcn
      have hskip : ¬ (reS s i = true ∧ numS' s i = e) → ∀ x : Nat, v[x]? = some true ↔ ∃ j, j < i + 1 ∧ reS s j = true ∧ numS' s j = e ∧ ∃ k ∈ nxS s j, numS' s k = x := fun hno x => by
       rw [hvx x]
       constructor
       ·rintro ⟨j, g1, g2, g3, g4⟩; exact ⟨j, by omega, g2, g3, g4⟩
       ·rintro ⟨j, g1, g2, g3, g4⟩
        have hji : j ≠ i := fun g => hno (by rw [← g]; exact ⟨g2, g3⟩)
        exact ⟨j, by omega, g2, g3, g4⟩
      cases hre : reS s i with
      | false =>
       repeat' (first | with_reducible refine And.intro ?_ ?_ | simp only [go_sem,seval, hid, x1, xN, hrl, hii, Rw_at _ _ hir, Rw_get _ _ hir, hrv, hre] | simp (disch := omega) only [wrap64, cell_at, Rw_at, nxS_at, numL_at] | simp (disch := first | omega | grind) only [heap_ne_, del_ne] | (intro hx_; try simp only [set_none] at hx_) | omega)
       exact nx_mk (i + 1, v) ⟨by simp only []; omega, hv, hskip (fun g => by rw [hre] at g; cases g.1)⟩ (by simp only []; omega) (by (try simp only [go_sem,seval]) <;> (try simp (disch := omega) [wrap64]) <;> (try omega)) (Heap.Le.refl _)
      | true =>
       by_cases hne2 : numS' s i = e
       ·have hxl := ho.x
        have hix : i < s.next.length := by omega
        have hixi : (i : Int) < s.next.length := by omega
        have hnx := nxS_at hix
        have hil := hs.il _ (List.getElem_mem hix)
        repeat' (first | with_reducible refine And.intro ?_ ?_ | simp only [go_sem,seval, hid, x1, xN, hrl, hii, hixi, hci, hnl, Rw_at _ _ hir, Rw_get _ _ hir, hrv, hre, Rw_at _ _ hif, Rw_get _ _ hif, hcl, Rw_at _ _ hcN, Rw_get _ _ hcN, hnv, hne2, Rw_at _ _ hix, Rw_get _ _ hix] | simp (disch := omega) only [wrap64, cell_at, Rw_at, nxS_at, numL_at] | simp (disch := first | omega | grind) only [heap_ne_, del_ne] | (intro hx_; try simp only [set_none] at hx_) | omega)
        refine loop_c [1, 2, 4, 5, 6, 8, 11, 12, 88, 89, 97, 98, 121, 122] (fun (p : Nat × List Bool) => [(123, .int .i64 p.1)]) (fun (p : Nat × List Bool) => He.set bM (.vec 1 (Rw boolC p.2))) (fun (p : Nat × List Bool) => p.1 ≤ s.next[i].length ∧ p.2.length = (repsTo s s.seen.length).length ∧ ∀ x : Nat, p.2[x]? = some true ↔ (∃ j, j < i ∧ reS s j = true ∧ numS' s j = e ∧ ∃ k ∈ nxS s j, numS' s k = x) ∨ ∃ k ∈ (s.next[i].take p.1).map Int.toNat, numS' s k = x) (fun (p : Nat × List Bool) => s.next[i].length - p.1) ((0, v)) (⟨Nat.zero_le _, hv, fun x => by simp only [List.take_zero, List.map_nil, List.not_mem_nil, false_and, exists_false, or_false]; exact hvx x⟩) (by (try simp only [go_sem,seval]) <;> (try simp (disch := omega) [wrap64]) <;> (try omega)) (by first | with_reducible exact Heap.Le.refl _ | exact heap_set_le (by assumption) | exact Heap.Le.refl _ | exact heap_le_set (by assumption) | exact (by simp only [Go.Av.Heap.Le, Go.Av.Heap.set, Go.Av.Heap.del] at * <;> grind)) ?_
        rintro Ec4 rfl ⟨j, u⟩ ⟨hj, hu, hux⟩
        simp only at hj hu hux
        by_cases hjt : j < s.next[i].length
        ·have hjd : decide ((j : Int) < s.next[i].length) = true := decide_eq_true (by omega)
         obtain ⟨z1, z2'⟩ := ho.r _ (List.getElem_mem hix) _ (List.getElem_mem hjt)
         have hkn : (s.next[i][j]).toNat < s.seen.length := by omega
         have hmem : (s.next[i][j]).toNat ∈ nxS s i := by rw [hnx]; exact List.mem_map.2 ⟨_, List.getElem_mem hjt, rfl⟩
         have hrek : reS s (s.next[i][j]).toNat = true := (reS_iff hkn).2 (.step ((reS_iff hit).1 hre) hmem)
         obtain ⟨np1, np2⟩ := numS'_pos hkn hrek
         have hkf : (s.next[i][j]).toNat < (fixS s).length := by omega
         have hkcl : (fixS s)[(s.next[i][j]).toNat] = clN s (s.next[i][j]).toNat := by simp [clN, hkf]
         have hkcn : clN s (s.next[i][j]).toNat < s.seen.length := by rw [← hkcl]; exact fixS_lt s _ (List.getElem_mem _)
         have hkcN : clN s (s.next[i][j]).toNat < (numL s s.seen.length).length := by rw [numL_length]; exact hkcn
         have hkci : ((clN s (s.next[i][j]).toNat : Nat) : Int) < s.seen.length := by omega
         have hknv : (numL s s.seen.length)[clN s (s.next[i][j]).toNat] = numS' s (s.next[i][j]).toNat := numL_at s _ _ hkcn
         have hnu : (numS' s (s.next[i][j]).toNat).toNat < u.length := by omega
         have htk : s.next[i].take (j + 1) = s.next[i].take j ++ [s.next[i][j]] := List.take_succ_eq_append_getElem hjt
         have hfxl : (s.next[i][j]) < ((fixS s).length : Nat) := by omega
         repeat' (first | with_reducible refine And.intro ?_ ?_ | simp only [go_sem,seval, hjd, x1, xN, Rw_at _ _ hjt, z1, z2', hfl, hkci, hnl, Rw_at _ _ hkf, Rw_get _ _ hkf, hkcl, Rw_at _ _ hkcN, Rw_get _ _ hkcN, hknv, np1, np2, hu, Rw_at _ _ hnu, set_b] | simp (disch := omega) only [wrap64, cell_at, Rw_at, nxS_at, numL_at] | simp (disch := first | omega | grind) only [heap_ne_, del_ne] | (intro hx_; try simp only [set_none] at hx_) | omega)
         refine nx_mk (j + 1, u.set (numS' s (s.next[i][j]).toNat).toNat true) ⟨by simp only []; omega, by simp only [List.length_set]; exact hu, fun x => ?_⟩ (by simp only []; omega) (by (try simp only [go_sem,seval]) <;> (try simp (disch := omega) [wrap64]) <;> (try omega)) (Heap.Le.refl _)
         simp only []
         by_cases hx : (numS' s (s.next[i][j]).toNat).toNat = x
         ·subst hx
          refine ⟨fun _ => .inr ⟨(s.next[i][j]).toNat, ?_, by omega⟩, fun _ => by simp [hnu]⟩
          rw [htk, List.map_append]; exact List.mem_append_right _ (by simp)
         ·rw [List.getElem?_set_ne hx, hux x, htk, List.map_append]
          constructor
          ·rintro (g | ⟨k, g1, g2⟩)
           ·exact .inl g
           ·exact .inr ⟨k, List.mem_append_left _ g1, g2⟩
          ·rintro (g | ⟨k, g1, g2⟩)
           ·exact .inl g
           ·rcases List.mem_append.1 g1 with g1 | g1
            ·exact .inr ⟨k, g1, g2⟩
            ·simp only [List.map_cons, List.map_nil, List.mem_singleton] at g1
             rw [g1] at g2; omega
        ·have hjd : decide ((j : Int) < s.next[i].length) = false := decide_eq_false (by omega)
         repeat' (first | with_reducible refine And.intro ?_ ?_ | simp only [go_sem,seval, hjd] | simp (disch := omega) only [wrap64, cell_at, Rw_at, nxS_at, numL_at] | simp (disch := first | omega | grind) only [heap_ne_, del_ne] | (intro hx_; try simp only [set_none] at hx_) | omega)
         refine nx_mk (i + 1, u) ⟨by simp only []; omega, hu, fun x => ?_⟩ (by simp only []; omega) (by (try simp only [go_sem,seval]) <;> (try simp (disch := omega) [wrap64]) <;> (try omega)) (Heap.Le.refl _)
         simp only []
         rw [hux x, List.take_of_length_le (by omega), ← hnx]
         constructor
         ·rintro (⟨j, g1, g2⟩ | ⟨k, g1, g2⟩)
          ·exact ⟨j, by omega, g2⟩
          ·exact ⟨i, by omega, hre, hne2, k, g1, g2⟩
         ·rintro ⟨j', g1, g2, g3, k, g4, g5⟩
          by_cases hji : j' = i
          ·right; rw [← hji]; exact ⟨k, g4, g5⟩
          ·left; exact ⟨j', by omega, g2, g3, k, g4, g5⟩
       ·repeat' (first | with_reducible refine And.intro ?_ ?_ | simp only [go_sem,seval, hid, x1, xN, hrl, hii, hci, hnl, Rw_at _ _ hir, Rw_get _ _ hir, hrv, hre, Rw_at _ _ hif, Rw_get _ _ hif, hcl, Rw_at _ _ hcN, Rw_get _ _ hcN, hnv, hne2] | simp (disch := omega) only [wrap64, cell_at, Rw_at, nxS_at, numL_at] | simp (disch := first | omega | grind) only [heap_ne_, del_ne] | (intro hx_; try simp only [set_none] at hx_) | omega)
        exact nx_mk (i + 1, v) ⟨by simp only []; omega, hv, hskip (fun g => hne2 g.2)⟩ (by simp only []; omega) (by (try simp only [go_sem,seval]) <;> (try simp (disch := omega) [wrap64]) <;> (try omega)) (Heap.Le.refl _)
     ·have hid : decide ((i : Int) < (fixS s).length) = false := decide_eq_false (by omega)
      repeat' (first | with_reducible refine And.intro ?_ ?_ | simp only [go_sem,seval, hid] | simp (disch := omega) only [wrap64, cell_at, Rw_at, nxS_at, numL_at] | simp (disch := first | omega | grind) only [heap_ne_, del_ne] | (intro hx_; try simp only [set_none] at hx_) | omega)
      have hvs : ∀ x : Nat, x < (repsTo s s.seen.length).length → v[x]? = some (stepS s e x) := fun x hx => by
       have hxv : x < v.length := by omega
       rw [List.getElem?_eq_getElem hxv, Option.some.injEq, Bool.eq_iff_iff]
       have h2 := hvx x
       rw [List.getElem?_eq_getElem hxv, Option.some.injEq] at h2
       rw [h2]
       unfold stepS
       rw [decide_eq_true_eq, show i = s.seen.length by omega]
      have yz8 : (He.set bM (.vec 1 (Rw boolC v))) b8 = some (.box [.vec cT 6 0 (repsTo s s.seen.length).length, .vec cF 1 0 (repsTo s s.seen.length).length, outG 1 e oN]) := by rw [heap_ne _ w8]; exact y8
      have yzM : (He.set bM (.vec 1 (Rw boolC v))) bM = some (.vec 1 (Rw boolC v)) := heap_same _ _
      have hMs : ∀ q o, Hs q = some o → q ≠ b8 → q ≠ bM := fun q o hq h8 g => by have := yK q o h8 hq; rw [g, hfM] at this; cases this
      have yzK : ∀ q o, q ≠ b8 → Hs q = some o → (He.set bM (.vec 1 (Rw boolC v))) q = some o := fun q o hq ho => by rw [heap_ne _ (hMs q o ho hq)]; exact yK q o hq ho
      have yzO : ∀ c, oN = some c → (He.set bM (.vec 1 (Rw boolC v))) c = some (.vec 1 (Rw intsC ((smallS s).next.take e))) := fun c g => by
       have := yO c g
       rw [heap_ne _ (fun g2 => by rw [g2, hfM] at this; cases this)]; exact this
      generalize He.set bM (.vec 1 (Rw boolC v)) = Hz at yz8 yzM yzK yzO ⊢
      refine loop_c [1, 2, 4, 5, 6, 8, 11, 88, 89, 138, 139] (fun (p : Nat × Option Nat) => [(140, .int .i64 p.1), (16, outG 1 (lstS s e p.1).length p.2)]) (fun (p : Nat × Option Nat) => putB Hz 1 (Rw intC (lstS s e p.1)) p.2) (fun (p : Nat × Option Nat) => p.1 ≤ (repsTo s s.seen.length).length ∧ (p.2 = none → lstS s e p.1 = []) ∧ ∀ b, p.2 = some b → Hz b = none) (fun (p : Nat × Option Nat) => (repsTo s s.seen.length).length - p.1) ((0, none)) (⟨Nat.zero_le _, fun _ => rfl, fun b e => by cases e⟩) (by (try simp only [go_sem,seval]) <;> (try simp (disch := omega) [wrap64]) <;> (try omega)) (by first | with_reducible exact Heap.Le.refl _ | exact heap_set_le (by assumption) | exact Heap.Le.refl _ | exact heap_le_set (by assumption) | exact (by simp only [Go.Av.Heap.Le, Go.Av.Heap.set, Go.Av.Heap.del] at * <;> grind)) ?_
      rintro Ec5 rfl ⟨k, oL⟩ ⟨hk2, hL0, hL1⟩
      simp only at hk2 hL0 hL1
      have hinL := OutIn.mk (H := Hz) (sz := 1) (es := Rw intC (lstS s e k)) (ob := oL) (fun g => by rw [hL0 g]; rfl) hL1
      have hvM := hinL.get yzM
      have hll := lstS_le s e k
      by_cases hkt : k < (repsTo s s.seen.length).length
      ·have hkd2 : decide ((k : Int) < (repsTo s s.seen.length).length) = true := decide_eq_true (by omega)
       have hkv : k < v.length := by omega
       have hvk := hvs k hkt
       rw [List.getElem?_eq_getElem hkv, Option.some.injEq] at hvk
       have hsu := lstS_succ s e k
       by_cases hst : stepS s e k = true ∧ k ≠ e
       ·rw [if_pos hst] at hsu
        have hv1 : v[k] = true := by rw [hvk]; exact hst.1
        have hke : ¬ (k : Int) = (e : Int) := by have := hst.2; omega
        have hlen : (lstS s e (k + 1)).length = (lstS s e k).length + 1 := by rw [hsu]; simp
        repeat' (first | with_reducible refine And.intro ?_ ?_ | simp only [go_sem,seval, hkd2, hvM, hv, Rw_at _ _ hkv, Rw_get _ _ hkv, hv1, hke] | simp (disch := omega) only [wrap64, cell_at, Rw_at, nxS_at, numL_at] | simp (disch := first | omega | grind) only [heap_ne_, del_ne] | (intro hx_; try simp only [set_none] at hx_) | omega)
        rename_i b6
        have hf6 := hx_
        clear hx_
        refine apS_q (by first | exact hinL | exact OutIn.set (hinL) (by first | assumption | (refine set_none.2 ?_; assumption) | (simp only [set_none]; assumption) | (simp only [set_none] at *; simp_all; done)) _ | exact OutIn.set (OutIn.set (hinL) (by first | assumption | (refine set_none.2 ?_; assumption) | (simp only [set_none]; assumption) | (simp only [set_none] at *; simp_all; done)) _) (by first | assumption | (refine set_none.2 ?_; assumption) | (simp only [set_none]; assumption) | (simp only [set_none] at *; simp_all; done)) _ | exact OutIn.set (OutIn.set (OutIn.set (hinL) (by first | assumption | (refine set_none.2 ?_; assumption) | (simp only [set_none]; assumption) | (simp only [set_none] at *; simp_all; done)) _) (by first | assumption | (refine set_none.2 ?_; assumption) | (simp only [set_none]; assumption) | (simp only [set_none] at *; simp_all; done)) _) (by first | assumption | (refine set_none.2 ?_; assumption) | (simp only [set_none]; assumption) | (simp only [set_none] at *; simp_all; done)) _ | exact OutIn.set (OutIn.set (OutIn.set (OutIn.set (hinL) (by first | assumption | (refine set_none.2 ?_; assumption) | (simp only [set_none]; assumption) | (simp only [set_none] at *; simp_all; done)) _) (by first | assumption | (refine set_none.2 ?_; assumption) | (simp only [set_none]; assumption) | (simp only [set_none] at *; simp_all; done)) _) (by first | assumption | (refine set_none.2 ?_; assumption) | (simp only [set_none]; assumption) | (simp only [set_none] at *; simp_all; done)) _) (by first | assumption | (refine set_none.2 ?_; assumption) | (simp only [set_none]; assumption) | (simp only [set_none] at *; simp_all; done)) _ ) (by simp) (by first | rfl | (simp only [go_sem,seval, Rw_take_len]; done) | (simp only [go_sem,seval, Rw_take_len]; omega) | simp | (simp; omega)) (by simp only [List.length_cons, List.length_nil]; omega) (by simp only [List.length_cons, List.length_nil]; omega) fun b' hb' hb2 hle => ?_
        repeat' (first | with_reducible refine And.intro ?_ ?_ | simp only [go_sem,seval] | simp (disch := omega) only [wrap64, cell_at, Rw_at, nxS_at, numL_at] | simp (disch := first | omega | grind) only [heap_ne_, del_ne] | (intro hx_; try simp only [set_none] at hx_) | omega)
        exact nx_mk (k + 1, some b') ⟨by simp only []; omega, (fun e => by cases e), fun b e => by cases e; exact hb'⟩ (by simp only []; omega) (by (try simp only [go_sem,seval, hlen]) <;> (try simp (disch := omega) [wrap64]) <;> (try omega)) (putB_le hle (by rw [hsu]; simp [Rw, intC]))
       ·rw [if_neg hst, List.append_nil] at hsu
        cases hv0 : v[k] with
        | false =>
         repeat' (first | with_reducible refine And.intro ?_ ?_ | simp only [go_sem,seval, hkd2, hvM, hv, Rw_at _ _ hkv, Rw_get _ _ hkv, hv0] | simp (disch := omega) only [wrap64, cell_at, Rw_at, nxS_at, numL_at] | simp (disch := first | omega | grind) only [heap_ne_, del_ne] | (intro hx_; try simp only [set_none] at hx_) | omega)
         exact nx_mk (k + 1, oL) ⟨by simp only []; omega, (fun e => by simp only []; rw [hsu]; exact hL0 e), hL1⟩ (by simp only []; omega) (by (try simp only [go_sem,seval, hsu]) <;> (try simp (disch := omega) [wrap64]) <;> (try omega)) (by simp only [hsu]; exact Heap.Le.refl _)
        | true =>
         have hke : ((k : Int) = (e : Int)) = True := by
          have h1 : stepS s e k = true := by rw [← hvk]; exact hv0
          have h2 : ¬ k ≠ e := fun g => hst ⟨h1, g⟩
          exact eq_true (by omega)
         repeat' (first | with_reducible refine And.intro ?_ ?_ | simp only [go_sem,seval, hkd2, hvM, hv, Rw_at _ _ hkv, Rw_get _ _ hkv, hv0, hke] | simp (disch := omega) only [wrap64, cell_at, Rw_at, nxS_at, numL_at] | simp (disch := first | omega | grind) only [heap_ne_, del_ne] | (intro hx_; try simp only [set_none] at hx_) | omega)
         exact nx_mk (k + 1, oL) ⟨by simp only []; omega, (fun e => by simp only []; rw [hsu]; exact hL0 e), hL1⟩ (by simp only []; omega) (by (try simp only [go_sem,seval, hsu]) <;> (try simp (disch := omega) [wrap64]) <;> (try omega)) (by simp only [hsu]; exact Heap.Le.refl _)
      ·have hkd2 : decide ((k : Int) < (repsTo s s.seen.length).length) = false := decide_eq_false (by omega)
       have hone : (outG 1 (lstS s e k).length oL).one = true := by cases oL <;> rfl
       unfold D.one at hone
       have l8 := hinL.get yz8
       have lK : ∀ q o, Hz q = some o → (putB Hz 1 (Rw intC (lstS s e k)) oL) q = some o := fun q o hq => hinL.get hq
       have lm : ∀ m, oL = some m → (putB Hz 1 (Rw intC (lstS s e k)) oL) m = some (.vec 1 (Rw intC (lstS s e k))) ∧ Hz m = none := fun m g => by subst g; exact ⟨heap_same _ _, hL1 m rfl⟩
       generalize putB Hz 1 (Rw intC (lstS s e k)) oL = Hl at l8 lK lm ⊢
       repeat' (first | with_reducible refine And.intro ?_ ?_ | simp only [go_sem,seval, hkd2, l8, hone] | simp (disch := omega) only [wrap64, cell_at, Rw_at, nxS_at, numL_at] | simp (disch := first | omega | grind) only [heap_ne_, del_ne] | (intro hx_; try simp only [set_none] at hx_) | omega)
       rename_i bX
       have hfX : Hl bX = none := hx_
       clear hx_
       have hkK : k = (repsTo s s.seen.length).length := by omega
       have lO : OutAt Hl 1 (Rw intsC ((smallS s).next.take e)) oN := by
        cases oN with
        | none => show Rw intsC _ = []; rw [hN0 rfl]; rfl
        | some c => exact lK _ _ (yzO c rfl)
       have hte : ((smallS s).next.take e).length = e := by rw [List.length_take]; omega
       refine apS_z (P := Tryz.prog) (es := Rw intsC ((smallS s).next.take e)) hfX (by simp) lO (by rw [Rw_len, hte]) (by simp only [List.length_cons, List.length_nil]; omega) (by simp only [List.length_cons, List.length_nil]; omega) fun bR Hn hA => ?_
       obtain ⟨vN, vK, vW⟩ := hA
       have o8 : oN ≠ some b8 := fun g => nb8 b8 g rfl
       have v8 := vK _ _ l8 o8
       repeat' (first | with_reducible refine And.intro ?_ ?_ | simp only [go_sem,seval, v8] | simp (disch := omega) only [wrap64, cell_at, Rw_at, nxS_at, numL_at] | simp (disch := first | omega | grind) only [heap_ne_, del_ne] | (intro hx_; try simp only [set_none] at hx_) | omega)
       have hR8 : bR ≠ b8 := fun g => by
        rcases vW with w | w
        ·rw [g, l8] at w; cases w
        ·exact o8 (by rw [w, g])
       have hRs : Hs bR = none := by
        rcases vW with w | w
        ·cases hb : Hs bR with
         | none => rfl
         | some o => rw [lK _ _ (yzK _ _ hR8 hb)] at w; cases w
        ·exact hN1' _ w
       have heK : e < (smallS s).next.length := by omega
       have hnx : Rw intsC ((smallS s).next.take (e + 1)) = Rw intsC ((smallS s).next.take e) ++ [[.sl 1 (Rw intC (lstS s e k))]] := by
        rw [Rw_take_succ _ _ heK, small_next s e het, hkK]; rfl
       refine nx_w (e + 1, some bR) ⟨by simp only []; omega, (fun g => by cases g), fun b g => by cases g; exact hRs⟩ (by simp only []; omega) ?_
       simp only [hnx]
       show Weak _ ((Hs.set bR _).set b8 _) _ _
       rw [heap_comm _ (Ne.symm hR8)]
       have hLm : ∀ m, oL = some m → m ≠ bR := fun m g g2 => by
        rcases vW with w | w
        ·rw [← g2, (lm m g).1] at w; cases w
        ·have := yzO _ w; rw [← g2, (lm m g).2] at this; cases this
       have hL8 : ∀ m, oL = some m → m ≠ b8 := fun m g g2 => by have := (lm m g).2; rw [g2, yz8] at this; cases this
       refine weak_rowO (n := (lstS s e k).length) (ob := oL) ?_ (by rw [Rw_len]) (by rw [heap_ne _ hR8]; exact vN) (fun g => by rw [hL0 g]; rfl) (fun m g => ?_) (fun q o hq ho => ?_)
       ·exact (by (try simp only [go_sem,seval]) <;> (try simp (disch := omega) [wrap64]) <;> (try omega))
       ·refine ⟨?_, hLm m g⟩
        rw [heap_ne _ (hL8 m g)]
        exact vK _ _ (lm m g).1 (fun g2 => by have := yzO _ g2; rw [(lm m g).2] at this; cases this)
       ·by_cases hq8 : q = b8
        ·subst hq8
         rw [heap_same] at ho ⊢
         exact ⟨fun m g g2 => hL8 m g g2.symm, ho⟩
        ·rw [heap_ne _ hq8] at ho ⊢
         have h3 := yzK _ _ hq8 ho
         exact ⟨fun m g g2 => (by rw [g2, (lm m g).2] at h3; cases h3), vK _ _ (lK _ _ h3) (fun g => (by have := hN1' _ g; rw [ho] at this; cases this))⟩
    ·have hed : decide ((e : Int) < (repsTo s s.seen.length).length) = false := decide_eq_false (by omega)
     have q2 := yK _ _ n28 z2
     have heE : e = (repsTo s s.seen.length).length := by omega
     have hK0 : 0 < (repsTo s s.seen.length).length := List.length_pos_iff.2 hne
     rcases oN with _ | cN
     ·exact absurd (hN0 rfl) (by omega)
     have hcN := hN1' cN rfl
     have qT := yK _ _ nT8 zT
     have qF := yK _ _ nF8 zF
     have qN := yO cN rfl
     rw [List.take_of_length_le (by omega)] at qN
     repeat' (first | with_reducible refine And.intro ?_ ?_ | simp only [go_sem,seval, hed, y8, q2] | simp (disch := omega) only [wrap64, cell_at, Rw_at, nxS_at, numL_at] | simp (disch := first | omega | grind) only [heap_ne_, del_ne] | (intro hx_; try simp only [set_none] at hx_) | omega)
     have n2 : ∀ q o, He q = some o → (∀ cs, o ≠ .box cs) → q ≠ b2 := fun q o hq h g => by rw [g, q2] at hq; exact h _ (Option.some.inj hq).symm
     have hTN : cT ≠ cN := fun g => by rw [g, hcN] at zT; cases zT
     have hFN : cF ≠ cN := fun g => by rw [g, hcN] at zF; cases zF
     obtain ⟨sl1, sl2, sl3⟩ := small_len s
     have eS : seenR s s.seen.length = (smallS s).seen := rfl
     have eF : finR s s.seen.length = (smallS s).final := rfl
     rw [eS] at qT
     rw [eF] at qF
     have r1 : (repsTo s s.seen.length).length = (Rw tmC (smallS s).seen).length := by rw [Rw_len, sl1]; rfl
     have r2 : (repsTo s s.seen.length).length = (Rw boolC (smallS s).final).length := by rw [Rw_len, sl2]; rfl
     have r3 : e = (Rw intsC (smallS s).next).length := by rw [Rw_len]; omega
     refine Fin.freezeT (cs' := [.vec cT 6 0 (repsTo s s.seen.length).length, .vec cF 1 0 (repsTo s s.seen.length).length, .sl 1 (Rw intsC (smallS s).next)]) (b := cN) (by rw [heap_ne _ (n2 _ _ qN (by simp))]; exact qN) rfl (fun q d d' h1 h2 => ?_) ?_
     ·match q with
      | 0 => cases h1; cases h2; exact .same _
      | 1 => cases h1; cases h2; exact .same _
      | 2 => cases h1; cases h2; rw [r3]; exact .all
      | q + 3 => cases h1
     refine Fin.freezeT (cs' := [.vec cT 6 0 (repsTo s s.seen.length).length, .sl 1 (Rw boolC (smallS s).final), .sl 1 (Rw intsC (smallS s).next)]) (b := cF) (by rw [del_ne hFN, heap_ne _ (n2 _ _ qF (by simp))]; exact qF) rfl (fun q d d' h1 h2 => ?_) ?_
     ·match q with
      | 0 => cases h1; cases h2; exact .same _
      | 1 => cases h1; cases h2; rw [r2]; exact .all
      | 2 => cases h1; cases h2; exact .same _
      | q + 3 => cases h1
     refine Fin.freezeT (cs' := syC (smallS s)) (b := cT) (by rw [del_ne hTF, del_ne hTN, heap_ne _ (n2 _ _ qT (by simp))]; exact qT) rfl (fun q d d' h1 h2 => ?_) (Fin.less (fun q o hq => ?_) h)
     ·match q with
      | 0 => cases h1; cases h2; rw [r1]; exact .all
      | 1 => cases h1; cases h2; exact .same _
      | 2 => cases h1; cases h2; exact .same _
      | q + 3 => cases h1
     ·have hb := hleS q o hq
      have hq8 : q ≠ b8 := fun g => by rw [g, hHT.2.2.2] at hq; cases hq
      rw [del_ne (fun g => by rw [g, hHT.1] at hq; cases hq), del_ne (fun g => by rw [g, hHT.2.1] at hq; cases hq), del_ne (fun g => by rw [g, hcN] at hb; cases hb), heap_ne _ (fun g => by rw [g, hH2] at hq; cases hq)]
      exact yK _ _ hq8 hb
end Go.Proofs.YtmohcdihdhggoaaGreatDoor
end
section
set_option maxRecDepth 20000
namespace Go.Proofs.YtmohcdihdhggoaaGreatDoor
open Go Go.Av Go.Lexs Go.Bis
attribute [local irreducible] ACalls at8
theorem rSameY_t {Q} (x : Sy) (hx : SyFit x) (H : Heap) (h : Q (.bool true) H) : ACalls Tryz.prog 26 [.agg (syC x), .agg (syC x)] H Q :=
 rSameY_a x x hx hx H (by rw [eqY_iff.2 rfl]; exact h)
theorem rSameN_a {Q} (H : Heap) (h : Q (.bool true) H) : ACalls Tryz.prog 26 [.agg [.nilsl, .nilsl, .nilsl], .agg [.nilsl, .nilsl, .nilsl]] H Q := by
 have hn : NilR (.agg [.nilsl, .nilsl, .nilsl]) (.agg (syC ⟨[], [], []⟩)) := .agg _ _ rfl fun q d d' h1 h2 => by
  match q with
  | 0 => cases h1; cases h2; exact .nil _
  | 1 => cases h1; cases h2; exact .nil _
  | 2 => cases h1; cases h2; exact .nil _
  | q + 3 => cases h1
 refine ACalls.nilR (args' := [.agg (syC ⟨[], [], []⟩), .agg (syC ⟨[], [], []⟩)]) rfl (fun i d d' h1 h2 => ?_) (rSameY_t ⟨[], [], []⟩ ⟨by simp, by simp, by simp, by simp, by simp⟩ H h)
 match i with
 | 0 => cases h1; cases h2; exact hn
 | 1 => cases h1; cases h2; exact hn
 | i + 2 => cases h1
theorem rows_le {s : Sy} (h : validY s = true) : ∀ l ∈ (smallS s).next, l.length ≤ 900 := by
 have hn := validY_n h
 intro l hl
 simp only [smallS, List.mem_map, List.mem_range] at hl
 obtain ⟨e, _, rfl⟩ := hl
 rw [List.length_map]
 have h1 := repsTo_le s s.seen.length
 have h2 := List.length_filter_le (fun f => stepS s e f && f != e) (List.range (repsS s).length)
 rw [List.length_range] at h2
 unfold repsS at h2 ⊢
 omega
set_option maxHeartbeats 4000000 in
theorem lawSmall_a {Q} (s : Sy) (fs : SyFit s) (H : Heap) (hT : Tabs H) (h : Q (.bool true) H) : ACalls Tryz.prog 6 [.agg (syC s)] H Q := by
 refine acalls_of_wp [] Tryz.mixed Tryz.func6 rfl (by kernel_rfl) (of_decide_eq_true (by kernel_rfl)) (by kernel_rfl) ?_
 simp only [go_sem,seval, Tryz.results6]
 intro b1 hb1
 have e1 : (H.set b1 (.box (syC s))) b1 = some (.box (syC s)) := heap_same _ _
 have hle : H.Le (H.set b1 (.box (syC s))) := heap_le_set hb1
 have hTB : Tabs (H.set b1 (.box (syC s))) := hT.le hle
 generalize H.set b1 (.box (syC s)) = Bs at e1 hle hTB ⊢
 repeat' (first | with_reducible refine And.intro ?_ ?_ | simp only [go_sem,seval, e1] | simp (disch := omega) only [wrap64, cell_at] | simp (disch := first | omega | grind) only [heap_ne_, del_ne] | (intro hx_; try simp only [set_none] at hx_) | omega)
 rename_i x
 have hx := hx_
 clear hx_
 refine ACalls.vec1 (es := Rw syC [s]) (by rw [heap_same]; rfl) rfl ?_
 refine fewT_a [s] (by simp) (fun y hy => by simp only [List.mem_cons, List.not_mem_nil, or_false] at hy; rw [hy]; exact fs) _ (fun bb hfw => ?_)
 rw [set_del hx]
 cases bb with
 | false =>
  repeat' (first | with_reducible refine And.intro ?_ ?_ | simp only [go_sem,seval, e1] | simp (disch := omega) only [wrap64, cell_at] | simp (disch := first | omega | grind) only [heap_ne_, del_ne] | (intro hx_; try simp only [set_none] at hx_) | with_reducible refine awake_a _ hTB ?_ | omega)
  exact Fin.less hle h
 | true =>
  have hfw := hfw rfl
  repeat' (first | with_reducible refine And.intro ?_ ?_ | simp only [go_sem,seval, e1] | simp (disch := omega) only [wrap64, cell_at] | simp (disch := first | omega | grind) only [heap_ne_, del_ne] | (intro hx_; try simp only [set_none] at hx_) | omega)
  cases vs : validY s with
  | false =>
   have hS : smallR s = .tuple [.agg [.nilsl, .nilsl, .nilsl], .int .i64 2] := by unfold smallR; rw [vs]; rfl
   refine bSmall_a s fs (fun g => by rw [vs] at g; cases g) _ hTB ?_
   rw [hS]
   repeat' (first | with_reducible refine And.intro ?_ ?_ | simp only [go_sem,seval, e1] | simp (disch := omega) only [wrap64, cell_at] | simp (disch := first | omega | grind) only [heap_ne_, del_ne] | (intro hx_; try simp only [set_none] at hx_) | omega)
   rename_i y
   have hy := hx_
   clear hx_
   have k1 : ∀ q o, Bs q = some o → (Bs.set y (.box [.nilsl, .nilsl, .nilsl])) q = some o := fun q o hq => by rw [heap_ne _ (fun e => by rw [e, hy] at hq; cases hq)]; exact hq
   have y1 := heap_same (H := Bs) y (.box [.nilsl, .nilsl, .nilsl])
   have hT1 : Tabs (Bs.set y (.box [.nilsl, .nilsl, .nilsl])) := hTB.le (heap_le_set hy)
   have c1 := k1 _ _ e1
   generalize Bs.set y (.box [.nilsl, .nilsl, .nilsl]) = B1 at k1 y1 hT1 c1 ⊢
   refine rSmall_a s fs _ ?_
   rw [hS]
   repeat' (first | with_reducible refine And.intro ?_ ?_ | simp only [go_sem,seval, y1] | simp (disch := omega) only [wrap64, cell_at] | simp (disch := first | omega | grind) only [heap_ne_, del_ne] | (intro hx_; try simp only [set_none] at hx_) | omega)
   rename_i z
   have hz := hx_
   clear hx_
   have k2 : ∀ q o, Bs q = some o → (B1.set z (.box [.nilsl, .nilsl, .nilsl])) q = some o := fun q o hq => by rw [heap_ne _ (fun e => by rw [← e, k1 q o hq] at hz; cases hz)]; exact k1 q o hq
   have z1 := heap_same (H := B1) z (.box [.nilsl, .nilsl, .nilsl])
   have z2 : (B1.set z (.box [.nilsl, .nilsl, .nilsl])) y = some (.box [.nilsl, .nilsl, .nilsl]) := by rw [heap_ne _ (fun e => by rw [← e, y1] at hz; cases hz)]; exact y1
   have hT2 : Tabs (B1.set z (.box [.nilsl, .nilsl, .nilsl])) := hT1.le (heap_le_set hz)
   generalize B1.set z (.box [.nilsl, .nilsl, .nilsl]) = B2 at k2 z1 z2 hT2 ⊢
   repeat' (first | with_reducible refine And.intro ?_ ?_ | simp only [go_sem,seval, z1, z2] | simp (disch := omega) only [wrap64, cell_at] | simp (disch := first | omega | grind) only [heap_ne_, del_ne] | (intro hx_; try simp only [set_none] at hx_) | with_reducible refine rSameN_a _ ?_ | with_reducible refine awake_a _ hT2 ?_ | omega)
   exact Fin.less (fun q o hq => k2 q o (hle q o hq)) h
  | true =>
   have hw := hfw (fun y hy => by simp only [List.mem_cons, List.not_mem_nil, or_false] at hy; rw [hy]; exact vs) s (by simp)
   have ns := validY_n vs
   have os := validY_ok vs
   have hS : smallR s = .tuple [.agg (syC (smallS s)), .int .i64 0] := by unfold smallR; rw [vs]; rfl
   have hSS : smallR (smallS s) = .tuple [.agg (syC (smallS s)), .int .i64 0] := by unfold smallR; rw [small_valid vs, small_small os ns.1]; rfl
   have hAl : alikeR s (smallS s) = .tuple [.bool true, .int .i64 0] := by unfold alikeR; rw [vs, small_valid vs, small_alike os ns.1 ns.2]; rfl
   have fm := small_fit fs os
   refine bSmall_a s fs (fun _ => hw) _ hTB ?_
   rw [hS]
   repeat' (first | with_reducible refine And.intro ?_ ?_ | simp only [go_sem,seval, e1] | simp (disch := omega) only [wrap64, cell_at] | simp (disch := first | omega | grind) only [heap_ne_, del_ne] | (intro hx_; try simp only [set_none] at hx_) | omega)
   rename_i y
   have hy := hx_
   clear hx_
   have k1 : ∀ q o, Bs q = some o → (Bs.set y (.box (syC (smallS s)))) q = some o := fun q o hq => by rw [heap_ne _ (fun e => by rw [e, hy] at hq; cases hq)]; exact hq
   have y1 := heap_same (H := Bs) y (.box (syC (smallS s)))
   have hT1 : Tabs (Bs.set y (.box (syC (smallS s)))) := hTB.le (heap_le_set hy)
   have c1 := k1 _ _ e1
   generalize Bs.set y (.box (syC (smallS s))) = B1 at k1 y1 hT1 c1 ⊢
   refine rSmall_a s fs _ ?_
   rw [hS]
   repeat' (first | with_reducible refine And.intro ?_ ?_ | simp only [go_sem,seval, y1] | simp (disch := omega) only [wrap64, cell_at] | simp (disch := first | omega | grind) only [heap_ne_, del_ne] | (intro hx_; try simp only [set_none] at hx_) | omega)
   rename_i z
   have hz := hx_
   clear hx_
   have k2 : ∀ q o, Bs q = some o → (B1.set z (.box (syC (smallS s)))) q = some o := fun q o hq => by rw [heap_ne _ (fun e => by rw [← e, k1 q o hq] at hz; cases hz)]; exact k1 q o hq
   have z1 := heap_same (H := B1) z (.box (syC (smallS s)))
   have z2 : (B1.set z (.box (syC (smallS s)))) y = some (.box (syC (smallS s))) := by rw [heap_ne _ (fun e => by rw [← e, y1] at hz; cases hz)]; exact y1
   have z3 := k2 _ _ e1
   have hT2 : Tabs (B1.set z (.box (syC (smallS s)))) := hT1.le (heap_le_set hz)
   generalize B1.set z (.box (syC (smallS s))) = B2 at k2 z1 z2 z3 hT2 ⊢
   repeat' (first | with_reducible refine And.intro ?_ ?_ | simp only [go_sem,seval, z1, z2, z3] | simp (disch := omega) only [wrap64, cell_at] | simp (disch := first | omega | grind) only [heap_ne_, del_ne] | (intro hx_; try simp only [set_none] at hx_) | with_reducible refine rSameY_t _ fm _ ?_ | omega)
   refine bAlike_a s (smallS s) fs fm _ hT2 ?_
   rw [hAl]
   repeat' (first | with_reducible refine And.intro ?_ ?_ | simp only [go_sem,seval, z1, z2, z3] | simp (disch := omega) only [wrap64, cell_at] | simp (disch := first | omega | grind) only [heap_ne_, del_ne] | (intro hx_; try simp only [set_none] at hx_) | omega)
   refine bSmall_a (smallS s) fm (fun _ => rows_le vs) _ hT2 ?_
   rw [hSS]
   repeat' (first | with_reducible refine And.intro ?_ ?_ | simp only [go_sem,seval, z1, z2, z3] | simp (disch := omega) only [wrap64, cell_at] | simp (disch := first | omega | grind) only [heap_ne_, del_ne] | (intro hx_; try simp only [set_none] at hx_) | omega)
   rename_i v
   have hv := hx_
   clear hx_
   have v1 := heap_same (H := B2) v (.box (syC (smallS s)))
   have v2 : (B2.set v (.box (syC (smallS s)))) y = some (.box (syC (smallS s))) := by rw [heap_ne _ (fun e => by rw [← e, z2] at hv; cases hv)]; exact z2
   have k3 : ∀ q o, Bs q = some o → (B2.set v (.box (syC (smallS s)))) q = some o := fun q o hq => by rw [heap_ne _ (fun e => by rw [← e, k2 q o hq] at hv; cases hv)]; exact k2 q o hq
   have hT3 : Tabs (B2.set v (.box (syC (smallS s)))) := hT2.le (heap_le_set hv)
   generalize B2.set v (.box (syC (smallS s))) = B3 at k3 v1 v2 hT3 ⊢
   repeat' (first | with_reducible refine And.intro ?_ ?_ | simp only [go_sem,seval, v1, v2] | simp (disch := omega) only [wrap64, cell_at] | simp (disch := first | omega | grind) only [heap_ne_, del_ne] | (intro hx_; try simp only [set_none] at hx_) | with_reducible refine rSameY_t _ fm _ ?_ | with_reducible refine awake_a _ hT3 ?_ | omega)
   exact Fin.less (fun q o hq => k3 q o (hle q o hq)) h
end Go.Proofs.YtmohcdihdhggoaaGreatDoor
end
section
set_option maxRecDepth 100000
namespace Go.Proofs.YtmohcdihdhggoaaGreatDoor.bisimSmall
open Go Go.Av Go.Lexs Go.Bis Go.ChangeShapes Go.WideShapes Go.RowKit
theorem lifted (os : Os) (started : os.Started) (H : Type) (enc : TypeId × Value → H) (F : Stop.Interp) :
  ReturnsInHanded { calm := true } Tryz.checked os 6 .any (fun w args => (Rows.bisimSmallSpec.pre enc Tryz.prog Tryz.f6 Rows.bisimSmallRow.domain false w args ∧ laidMetH Tryz.prog Rows.bisimSmallRow.laid w) ∧ sizedMet enc Tryz.prog Tryz.f6 (OpenSpec.ofChange Rows.bisimSmallSpec) false w args)
   ((OpenSpec.ofChange Rows.bisimSmallSpec).postWith enc Tryz.prog Tryz.f6 F (outsideKept [.timePasses]) false true false) := by
 refine Go.Clock.returns_of_change (C := Tryz.checked) (X := fun w _ => laidMetH Tryz.prog Rows.bisimSmallRow.laid w) (fun _ _ _ hh h => h.of_heap hh) own started (by kernel_rfl) Tryz.func6
  (Go.Clock.witness_at (enc := enc) (C := Tryz.checked) (X := fun w _ => laidMetH Tryz.prog Rows.bisimSmallRow.laid w) (World.laidAll Tryz.prog os Rows.bisimSmallRow.laid) #[.agg #[.slice none 0 0, .slice none 0 0, .slice none 0 0]] 8 (World.laidAll_os _ _ _)
   (World.shaped_of_ZipB (by kernel_rfl) (by kernel_rfl)) (by kernel_rfl) (by kernel_rfl) (by kernel_rfl)
   (by rw [MakeChecks.laidMetH_plain _ _ _ (by kernel_rfl)]; exact laidMet_laidAll _ (by kernel_rfl) (by kernel_rfl))) ?_
 intro W base args ds gs before hval hW _ hsz hL _
 rw [MakeChecks.laidMetH_plain _ _ _ (by kernel_rfl)] at hL
 have hS := tabs_sat hL (by simp [Rows.bisimSmallRow]) (by simp [Rows.bisimSmallRow]) (by simp [Rows.bisimSmallRow]) (by simp [Rows.bisimSmallRow]) (by simp [Rows.bisimSmallRow]) (by simp [Rows.bisimSmallRow]) (by simp [Rows.bisimSmallRow])
 have hW' := hW
 obtain ⟨p, q, hA0, hV, _, _, _⟩ := hW
 rw [Tryz.params6] at hA0 hval hsz
 obtain ⟨v0, d0, rfl, rfl, h0⟩ := trodAll_one hA0
 obtain ⟨rfl, rfl⟩ := trodVars_none hV
 obtain ⟨x0, k0, r0⟩ := arg_fits plain28 tabs_held (by simp) (hval 0 _ _ rfl rfl) h0 (weightsEach_at hsz 0 _ _ rfl rfl)
 obtain ⟨s, rfl, fs⟩ := fits_sy k0
 have hre : reachBytes = 140737488351232 := rfl
 refine law_callsT laidOut (by kernel_rfl) rfl (tb := 4) (by kernel_rfl) (by kernel_rfl) rfl hW' tabs tabs_held hS [.agg (syC s)] rfl (fun i d hd => ?_) (fun Q hQ => lawSmall_a s fs _ tabs_tabs hQ)
 match i, hd with
 | 0, hd => simp at hd; subst hd; exact r0
 | i + 1, hd => simp at hd
theorem said : Rows.BisimSmallSaid :=
 Go.Clock.holds_of_wide_time 6 Tryz.f6 rfl rfl rfl rfl rfl rfl rfl ⟨rfl, rfl, rfl, rfl, rfl⟩ rfl rfl rfl rfl rfl (by kernel_rfl) Tryz.func6 (by kernel_rfl)
  (of_decide_eq_true (by kernel_rfl)) (by unfold Func.isWrapper; first | (rw [if_pos (by decide +kernel)]; kernel_rfl) | (rw [if_neg (by decide +kernel)]; exact ⟨rfl, rfl⟩))
  (fun os started H enc _ F => lifted os started H enc F)
theorem plain (f : FuncId) (fn : Func) (hf : Tryz.pinned.checked.prog.funcNamed "voussoir/voussoirlaw28.BisimSmall" = some f) (hfn : Tryz.pinned.checked.prog.funcs[f]? = some fn) :
  false = Tryz.pinned.checked.prog.looks [] ∧ ∀ (j : Nat) t, fn.params[j]? = some t → Tryz.pinned.checked.prog.wantsStandIn t = false := by
 obtain rfl : f = 6 := Option.some.inj ((show Tryz.prog.funcNamed "voussoir/voussoirlaw28.BisimSmall" = some 6 by kernel_rfl).symm.trans hf) |>.symm
 obtain rfl : fn = Tryz.f6 := (Option.some.inj (Tryz.func6.symm.trans hfn)).symm
 refine ⟨by kernel_rfl, fun j t ht => ?_⟩
 have hall : ((Tryz.f6.params.toList).all fun u => !Tryz.prog.wantsStandIn u) = true := by kernel_rfl
 have := List.all_eq_true.1 hall t (by rw [Array.mem_toList_iff]; exact Array.mem_of_getElem? ht)
 exact (by simpa using this : Tryz.prog.wantsStandIn t = false)
theorem card : Rows.BisimSmallCardSaid :=
 Claim7.holds_tied_plain_at .later [] _ _ _ _ said (fun _ h => by cases h) (by kernel_rfl) (fun _ h => by cases h) bisimSmall_row_tie rfl ⟨rfl, rfl⟩ (by kernel_rfl) rfl plain (by kernel_rfl)
end Go.Proofs.YtmohcdihdhggoaaGreatDoor.bisimSmall
namespace Go.Proofs.YtmohcdihdhggoaaGreatDoor
theorem bisimSmall_holds : Rows.BisimSmallCardSaid := bisimSmall.card
end Go.Proofs.YtmohcdihdhggoaaGreatDoor
end
