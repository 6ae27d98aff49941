/- LinearAt, proved: for every input the law returns true, and the arguments read as before; the listed tables hold what the program's text lays (the card). No other condition than the row's own. -/
import Derived.Test.YtacekpdodelnbaaGreatDoorRows
import Derived.Test.YtacekpdodelnbaaGreatDoorCards
import Derived.Test.YtacekpdodelnbaaGreatDoorTie
import Derived.Test.YtacekpdodelnbaaGreatDoorK6
set_option linter.unusedSimpArgs false
set_option linter.unusedVariables false
section
namespace Go.Av
section
variable {P : Program} {Z : List (Nat × Rc)} {Q : AX → Env → Heap → Prop} {E : Env} {H : Heap} {K : Env → Heap → Prop} {gs : List (Option Nat)} {l : List Oper} {KD : D → Heap → Prop} {ev : Operand → D} {bl : List Nat}
attribute [go_sem low] condA_bool
attribute [go_sem low] guardK_bool
attribute [go_sem low] guardF_bool
variable {sx : Bool} {bl : List Nat}
variable {t : Nat} {c : Bool} {k : IntKind} {a b : Int}
variable {t : Nat}
end
theorem at8_nat (s : ByteArray) (k : Nat) : at8 s k = nth (B s) k := rfl
end Go.Av
end
section
set_option maxRecDepth 20000
namespace Go.Lin
open Go Go.Av Go.Lexs
end Go.Lin
namespace Go.Proofs.YtacekpdodelnbaaGreatDoor
open Go Go.Av Go.Lexs Go.Lin
attribute [local irreducible] ACalls at8
theorem rName_a {Q} (s : ByteArray) (hs : s.size ≤ 4611686018427387904) (H : Heap) (h : Q (.bool (nameB (B s))) H) : ACalls Tryz.prog 39 [.str s] H Q := by
 refine acalls_of_wp [] Tryz.mixed Tryz.func39 rfl (by kernel_rfl) (of_decide_eq_true (by kernel_rfl)) (by kernel_rfl) ?_
 simp only [go_sem,seval, Tryz.results39]
 have hl := B_len s
 have hd0 : at8 s 0 = nth (B s) 0 := at8_zero s
 refine loop_c [0] (fun (i : Nat) => [(3, .int .i64 i)]) (fun (i : Nat) => H) (fun (i : Nat) => i ≤ s.size ∧ ((B s).take i).all (ofB nameC) = true) (fun (i : Nat) => s.size - i) (0) (⟨Nat.zero_le _, by simp⟩) (by (try simp only [go_sem,seval]) <;> (try simp (disch := omega) [wrap64]) <;> (try omega)) (by first | with_reducible exact Heap.Le.refl _ | exact heap_set_le (by assumption) | exact Heap.Le.refl _ | exact heap_le_set (by assumption) | exact (by simp only [Go.Av.Heap.Le, Go.Av.Heap.set, Go.Av.Heap.del] at * <;> grind)) ?_
 rintro Ec rfl i ⟨hi, hall⟩
 by_cases hlt : i < s.size
 ·have hkd : decide ((i : Int) < s.size) = true := decide_eq_true (by omega)
  have hki : (i : Int) < s.size := by omega
  have hlb : i < (B s).length := by omega
  obtain ⟨x, hx⟩ : ∃ x, x = nth (B s) i := ⟨_, rfl⟩
  have hat : at8 s (i : Int) = x := by rw [hx]; exact at8_nat s i
  by_cases c4 : nameC x = true
  ·have c := (nameC_iff x).1 c4
   obtain ⟨d1, d2, d3, d4, d5, d6, d7, d8⟩ := c
   have d1' : ¬ x < 33 := by omega
   have d2' : ¬ 126 < x := by omega
   repeat' (first | with_reducible refine And.intro ?_ ?_ | simp only [go_sem,seval, hkd, hki, hat, d1', d2', d3, d4, d5, d6, d7, d8, decide_false] | simp (disch := omega) only [wrap64] | intro hx_ | omega)
   exact nx_mk (i + 1) ⟨by omega, by rw [all_take_succ _ _ _ hlb, hall, ← hx, c4]; rfl⟩ (by omega) (by (try simp only [go_sem,seval]) <;> (try simp (disch := omega) [wrap64]) <;> (try omega)) (Heap.Le.refl _)
  ·have c5 : nameC x = false := by simpa using c4
   have hf : nameB (B s) = false := by
    unfold nameB
    rw [all_false_of nameC (B s) i hlb (by rw [← hx]; exact c5), Bool.and_false]
   rw [hf] at h
   have hor : x < 33 ∨ 126 < x ∨ x = 43 ∨ x = 45 ∨ x = 42 ∨ x = 60 ∨ x = 62 ∨ x = 61 := by
    have := mt (nameC_iff x).2 c4; omega
   rcases hor with g | g | g | g | g | g | g | g
   ·repeat' (first | with_reducible refine And.intro ?_ ?_ | simp only [go_sem,seval, hkd, hki, hat, g, decide_true] | simp (disch := omega) only [wrap64] | intro hx_ | omega)
    exact Fin.same h
   ·have g0 : ¬ x < 33 := by omega
    repeat' (first | with_reducible refine And.intro ?_ ?_ | simp only [go_sem,seval, hkd, hki, hat, g0, g, decide_true, decide_false] | simp (disch := omega) only [wrap64] | intro hx_ | omega)
    exact Fin.same h
   ·rw [g] at hat
    repeat' (first | with_reducible refine And.intro ?_ ?_ | simp only [go_sem,seval, hkd, hki, hat, decide_true, decide_false] | simp (disch := omega) only [wrap64] | intro hx_ | omega)
    exact Fin.same h
   ·rw [g] at hat
    repeat' (first | with_reducible refine And.intro ?_ ?_ | simp only [go_sem,seval, hkd, hki, hat, decide_true, decide_false] | simp (disch := omega) only [wrap64] | intro hx_ | omega)
    exact Fin.same h
   ·rw [g] at hat
    repeat' (first | with_reducible refine And.intro ?_ ?_ | simp only [go_sem,seval, hkd, hki, hat, decide_true, decide_false] | simp (disch := omega) only [wrap64] | intro hx_ | omega)
    exact Fin.same h
   ·rw [g] at hat
    repeat' (first | with_reducible refine And.intro ?_ ?_ | simp only [go_sem,seval, hkd, hki, hat, decide_true, decide_false] | simp (disch := omega) only [wrap64] | intro hx_ | omega)
    exact Fin.same h
   ·rw [g] at hat
    repeat' (first | with_reducible refine And.intro ?_ ?_ | simp only [go_sem,seval, hkd, hki, hat, decide_true, decide_false] | simp (disch := omega) only [wrap64] | intro hx_ | omega)
    exact Fin.same h
   ·rw [g] at hat
    repeat' (first | with_reducible refine And.intro ?_ ?_ | simp only [go_sem,seval, hkd, hki, hat, decide_true, decide_false] | simp (disch := omega) only [wrap64] | intro hx_ | omega)
    exact Fin.same h
 ·have hkd : decide ((i : Int) < s.size) = false := decide_eq_false (by omega)
  rw [List.take_of_length_le (by omega)] at hall
  have hnb : nameB (B s) = (decide (B s ≠ []) && decide ((B s).length ≤ 200) && !digitI (nth (B s) 0)) := by unfold nameB; rw [hall, Bool.and_true]
  rw [hnb] at h
  by_cases v1 : B s = []
  ·have vs : s.size = 0 := by rw [← hl, v1]; rfl
   have e : (decide (B s ≠ []) && decide ((B s).length ≤ 200) && !digitI (nth (B s) 0)) = false := by rw [decide_eq_false (by simpa using v1)]; rfl
   rw [e] at h
   have vsi : ¬ ((1 : Int) ≤ s.size) := by omega
   repeat' (first | with_reducible refine And.intro ?_ ?_ | simp only [go_sem,seval, hkd, vsi, decide_false] | simp (disch := omega) only [wrap64] | intro hx_ | omega)
   all_goals exact Fin.same h
  ·have vs : 0 < s.size := by have := List.length_pos_iff.2 v1; omega
   have vsi : (1 : Int) ≤ s.size := by omega
   have vs0 : (0 : Int) < s.size := by omega
   rw [decide_eq_true (show B s ≠ [] from v1)] at h
   by_cases v2 : (s.size : Int) ≤ 200
   ·rw [decide_eq_true (show (B s).length ≤ 200 by omega)] at h
    by_cases q1 : nth (B s) 0 < 48
    ·have e : digitI (nth (B s) 0) = false := by rw [← Bool.not_eq_true, digitI_iff]; omega
     rw [e] at h
     repeat' (first | with_reducible refine And.intro ?_ ?_ | simp only [go_sem,seval, hkd, vsi, vs0, v2, hd0, q1, decide_true] | simp (disch := omega) only [wrap64] | intro hx_ | omega)
     all_goals exact Fin.same h
    ·have e : digitI (nth (B s) 0) = !decide (57 < nth (B s) 0) := by
      by_cases q2 : 57 < nth (B s) 0
      ·rw [decide_eq_true q2]; rw [show (!true) = false from rfl, ← Bool.not_eq_true, digitI_iff]; omega
      ·rw [decide_eq_false q2]; rw [show (!false) = true from rfl, digitI_iff]; omega
     rw [e] at h
     repeat' (first | with_reducible refine And.intro ?_ ?_ | simp only [go_sem,seval, hkd, vsi, vs0, v2, hd0, q1, decide_true, decide_false] | simp (disch := omega) only [wrap64] | intro hx_ | omega)
     all_goals exact Fin.same (by simpa using h)
   ·rw [decide_eq_false (show ¬ (B s).length ≤ 200 by omega)] at h
    repeat' (first | with_reducible refine And.intro ?_ ?_ | simp only [go_sem,seval, hkd, vsi, v2, decide_true, decide_false] | simp (disch := omega) only [wrap64] | intro hx_ | omega)
    all_goals exact Fin.same h
theorem rValid_a {Q} (a : LinV) (fa : LinFit a) (H : Heap) (h : Q (.bool (validL a)) H) : ACalls Tryz.prog 16 [.agg (linC a)] H Q := by
 refine acalls_of_wp [] Tryz.mixed Tryz.func16 rfl (by kernel_rfl) (of_decide_eq_true (by kernel_rfl)) (by kernel_rfl) ?_
 simp only [go_sem,seval, Tryz.results16]
 intro b1 hb1
 have e1 : (H.set b1 (.box (linC a))) b1 = some (.box (linC a)) := heap_same _ _
 have hle : H.Le (H.set b1 (.box (linC a))) := heap_le_set hb1
 generalize H.set b1 (.box (linC a)) = Bs at e1 hle ⊢
 have hlen := fa.len
 by_cases c1 : (12 : Int) < a.t.length
 ·have hv : validL a = false := by unfold validL; rw [decide_eq_false (show ¬ a.t.length ≤ 12 by omega)]; simp
  rw [hv] at h
  repeat' (first | with_reducible refine And.intro ?_ ?_ | simp only [go_sem,seval, e1, c1, decide_true] | simp (disch := omega) only [wrap64, Rw_at] | simp (disch := first | omega | grind) only [heap_ne_] | intro hx_ | omega)
  exact Fin.less (by simp only [Go.Av.Heap.Le, Go.Av.Heap.set, Go.Av.Heap.del] at * <;> grind) h
 by_cases c2 : a.k < -1099511627776
 ·have hv : validL a = false := by unfold validL within; rw [decide_eq_false (show ¬ -1099511627776 ≤ a.k by omega)]; simp
  rw [hv] at h
  repeat' (first | with_reducible refine And.intro ?_ ?_ | simp only [go_sem,seval, e1, c1, c2, decide_true, decide_false] | simp (disch := omega) only [wrap64, Rw_at] | simp (disch := first | omega | grind) only [heap_ne_] | intro hx_ | omega)
  exact Fin.less (by simp only [Go.Av.Heap.Le, Go.Av.Heap.set, Go.Av.Heap.del] at * <;> grind) h
 by_cases c3 : 1099511627776 < a.k
 ·have hv : validL a = false := by unfold validL within; rw [decide_eq_false (show ¬ a.k ≤ 1099511627776 by omega)]; simp
  rw [hv] at h
  repeat' (first | with_reducible refine And.intro ?_ ?_ | simp only [go_sem,seval, e1, c1, c2, c3, decide_true, decide_false] | simp (disch := omega) only [wrap64, Rw_at] | simp (disch := first | omega | grind) only [heap_ne_] | intro hx_ | omega)
  exact Fin.less (by simp only [Go.Av.Heap.Le, Go.Av.Heap.set, Go.Av.Heap.del] at * <;> grind) h
 repeat' (first | with_reducible refine And.intro ?_ ?_ | simp only [go_sem,seval, e1, c1, c2, c3, decide_true, decide_false] | simp (disch := omega) only [wrap64, Rw_at] | simp (disch := first | omega | grind) only [heap_ne_] | intro hx_ | omega)
 refine loop_c [1, 20, 21] (fun (i : Nat) => [(22, .int .i64 i)]) (fun (i : Nat) => Bs) (fun (i : Nat) => i ≤ a.t.length ∧ (List.range i).all (okAt a.t) = true) (fun (i : Nat) => a.t.length - i) (0) (⟨Nat.zero_le _, rfl⟩) (by (try simp only [go_sem,seval]) <;> (try simp (disch := omega) [wrap64]) <;> (try omega)) (by first | with_reducible exact Heap.Le.refl _ | exact heap_set_le (by assumption) | exact Heap.Le.refl _ | exact heap_le_set (by assumption) | exact (by simp only [Go.Av.Heap.Le, Go.Av.Heap.set, Go.Av.Heap.del] at * <;> grind)) ?_
 rintro Ec rfl i ⟨hi, hall⟩
 by_cases hlt : i < a.t.length
 ·have hkd : decide ((i : Int) < a.t.length) = true := decide_eq_true (by omega)
  have hti : (i : Int) < a.t.length := by omega
  have hco := fa.co _ (List.getElem_mem hlt)
  have hst : a.t[i].v.size ≤ 4611686018427387904 := by have := fa.str _ (List.getElem_mem hlt); omega
  have e : a.t.getD i default = a.t[i] := by simp [hlt]
  have e2 : ∀ hj : i - 1 < a.t.length, a.t.getD (i - 1) default = a.t[i - 1] := fun hj => by simp [hj]
  have hok : okAt a.t i = (nameB (B a.t[i].v) && (decide (i = 0) || ltS (a.t.getD (i - 1) default).v a.t[i].v) && decide (a.t[i].c ≠ 0) && within a.t[i].c 1048576) := by unfold okAt; rw [e]
  have bad : okAt a.t i = false → validL a = false := fun g => by
   unfold validL termsOk
   have : (List.range a.t.length).all (okAt a.t) = false := by rw [List.all_eq_false]; exact ⟨i, List.mem_range.2 hlt, by rw [g]; decide⟩
   rw [this]; rfl
  by_cases n1 : nameB (B a.t[i].v) = true
  ·by_cases c0 : a.t[i].c = 0
   ·rw [bad (by rw [hok, c0]; simp)] at h
    repeat' (first | with_reducible refine And.intro ?_ ?_ | simp only [go_sem,seval, hkd, e1, n1, Rw_at _ _ hlt, Rw_get _ _ hlt, c0, Bool.not_true, Bool.not_false, decide_true, decide_false] | simp (disch := omega) only [wrap64, Rw_at] | simp (disch := first | omega | grind) only [heap_ne_] | intro hx_ | with_reducible refine rName_a _ hst _ ?_ | omega)
    exact Fin.less (by simp only [Go.Av.Heap.Le, Go.Av.Heap.set, Go.Av.Heap.del] at * <;> grind) h
   ·by_cases w1 : a.t[i].c < -1048576
    ·rw [bad (by rw [hok]; unfold within; rw [decide_eq_false (show ¬ -1048576 ≤ a.t[i].c by omega)]; simp)] at h
     repeat' (first | with_reducible refine And.intro ?_ ?_ | simp only [go_sem,seval, hkd, e1, n1, Rw_at _ _ hlt, Rw_get _ _ hlt, c0, w1, Bool.not_true, Bool.not_false, decide_true, decide_false] | simp (disch := omega) only [wrap64, Rw_at] | simp (disch := first | omega | grind) only [heap_ne_] | intro hx_ | with_reducible refine rName_a _ hst _ ?_ | omega)
     exact Fin.less (by simp only [Go.Av.Heap.Le, Go.Av.Heap.set, Go.Av.Heap.del] at * <;> grind) h
    ·by_cases w2 : 1048576 < a.t[i].c
     ·rw [bad (by rw [hok]; unfold within; rw [decide_eq_false (show ¬ a.t[i].c ≤ 1048576 by omega)]; simp)] at h
      repeat' (first | with_reducible refine And.intro ?_ ?_ | simp only [go_sem,seval, hkd, e1, n1, Rw_at _ _ hlt, Rw_get _ _ hlt, c0, w1, w2, Bool.not_true, Bool.not_false, decide_true, decide_false] | simp (disch := omega) only [wrap64, Rw_at] | simp (disch := first | omega | grind) only [heap_ne_] | intro hx_ | with_reducible refine rName_a _ hst _ ?_ | omega)
      exact Fin.less (by simp only [Go.Av.Heap.Le, Go.Av.Heap.set, Go.Av.Heap.del] at * <;> grind) h
     ·have w : within a.t[i].c 1048576 = true := by unfold within; rw [decide_eq_true (show -1048576 ≤ a.t[i].c by omega), decide_eq_true (show a.t[i].c ≤ 1048576 by omega)]; rfl
      by_cases n2 : i = 0
      ·have z0 : ¬ ((0 : Int) < i) := by omega
       have okt : okAt a.t i = true := by rw [hok, n1, w, decide_eq_true n2, decide_eq_true (show a.t[i].c ≠ 0 from c0)]; rfl
       repeat' (first | with_reducible refine And.intro ?_ ?_ | simp only [go_sem,seval, hkd, e1, n1, Rw_at _ _ hlt, Rw_get _ _ hlt, c0, w1, w2, z0, Bool.not_true, Bool.not_false, decide_true, decide_false] | simp (disch := omega) only [wrap64, Rw_at] | simp (disch := first | omega | grind) only [heap_ne_] | intro hx_ | with_reducible refine rName_a _ hst _ ?_ | omega)
       exact nx_mk (i + 1) ⟨by omega, by rw [List.range_succ, List.all_append, hall]; simp [okt]⟩ (by omega) (by (try simp only [go_sem,seval]) <;> (try simp (disch := omega) [wrap64]) <;> (try omega)) (by simp only [Go.Av.Heap.Le, Go.Av.Heap.set, Go.Av.Heap.del] at * <;> grind)
      ·have hj : i - 1 < a.t.length := by omega
       have z0 : (0 : Int) < i := by omega
       have ek : (i : Int) - 1 = ((i - 1 : Nat) : Int) := by omega
       have hji : ((i - 1 : Nat) : Int) < a.t.length := by omega
       by_cases l : ltS a.t[i - 1].v a.t[i].v = true
       ·have lb : Op.bytesLess a.t[i - 1].v.data.toList a.t[i].v.data.toList = true := l
        have okt : okAt a.t i = true := by rw [hok, n1, w, e2 hj, l, Bool.or_true, decide_eq_true (show a.t[i].c ≠ 0 from c0)]; rfl
        repeat' (first | with_reducible refine And.intro ?_ ?_ | simp only [go_sem,seval, hkd, e1, n1, Rw_at _ _ hlt, Rw_get _ _ hlt, c0, w1, w2, z0, ek, hji, Rw_at _ _ hj, Rw_get _ _ hj, bs_geq, lb, Bool.not_true, Bool.not_false, decide_true, decide_false] | simp (disch := omega) only [wrap64, Rw_at] | simp (disch := first | omega | grind) only [heap_ne_] | intro hx_ | with_reducible refine rName_a _ hst _ ?_ | omega)
        exact nx_mk (i + 1) ⟨by omega, by rw [List.range_succ, List.all_append, hall]; simp [okt]⟩ (by omega) (by (try simp only [go_sem,seval]) <;> (try simp (disch := omega) [wrap64]) <;> (try omega)) (by simp only [Go.Av.Heap.Le, Go.Av.Heap.set, Go.Av.Heap.del] at * <;> grind)
       ·have l : ltS a.t[i - 1].v a.t[i].v = false := by simpa using l
        have lb : Op.bytesLess a.t[i - 1].v.data.toList a.t[i].v.data.toList = false := l
        rw [bad (by rw [hok, n1, e2 hj, l, decide_eq_false n2]; rfl)] at h
        repeat' (first | with_reducible refine And.intro ?_ ?_ | simp only [go_sem,seval, hkd, e1, n1, Rw_at _ _ hlt, Rw_get _ _ hlt, c0, w1, w2, z0, ek, hji, Rw_at _ _ hj, Rw_get _ _ hj, bs_geq, lb, Bool.not_true, Bool.not_false, decide_true, decide_false] | simp (disch := omega) only [wrap64, Rw_at] | simp (disch := first | omega | grind) only [heap_ne_] | intro hx_ | with_reducible refine rName_a _ hst _ ?_ | omega)
        exact Fin.less (by simp only [Go.Av.Heap.Le, Go.Av.Heap.set, Go.Av.Heap.del] at * <;> grind) h
  ·have n1 : nameB (B a.t[i].v) = false := by simpa using n1
   rw [bad (by rw [hok, n1]; rfl)] at h
   repeat' (first | with_reducible refine And.intro ?_ ?_ | simp only [go_sem,seval, hkd, e1, n1, Rw_at _ _ hlt, Rw_get _ _ hlt, Bool.not_true, Bool.not_false, decide_true, decide_false] | simp (disch := omega) only [wrap64, Rw_at] | simp (disch := first | omega | grind) only [heap_ne_] | intro hx_ | with_reducible refine rName_a _ hst _ ?_ | omega)
   exact Fin.less (by simp only [Go.Av.Heap.Le, Go.Av.Heap.set, Go.Av.Heap.del] at * <;> grind) h
 ·have hkd : decide ((i : Int) < a.t.length) = false := decide_eq_false (by omega)
  have hie : i = a.t.length := by omega
  subst hie
  have hv : validL a = true := by
   unfold validL termsOk within
   rw [hall, decide_eq_true (show a.t.length ≤ 12 by omega), decide_eq_true (show -1099511627776 ≤ a.k by omega), decide_eq_true (show a.k ≤ 1099511627776 by omega)]; rfl
  rw [hv] at h
  repeat' (first | with_reducible refine And.intro ?_ ?_ | simp only [go_sem,seval, hkd, e1] | simp (disch := omega) only [wrap64, Rw_at] | simp (disch := first | omega | grind) only [heap_ne_] | intro hx_ | omega)
  exact Fin.less (by simp only [Go.Av.Heap.Le, Go.Av.Heap.set, Go.Av.Heap.del] at * <;> grind) h
end Go.Proofs.YtacekpdodelnbaaGreatDoor
end
section
set_option maxRecDepth 20000
namespace Go.Lin
open Go Go.Av Go.Lexs
theorem getL_take {l : List VlV} {s : ByteArray} {i : Nat} (hi : i < l.length) (h : ∀ (k : Nat) (hk : k < l.length), k < i → l[k].v ≠ s) (e : l[i].v = s) : getL l s = some l[i].n := by
 induction l generalizing i with
 | nil => simp at hi
 | cons t l ih =>
  cases i with
  | zero => simp only [List.getElem_cons_zero] at e; simp [getL, e]
  | succ i =>
   have h0 := h 0 (by simp) (by omega)
   simp only [List.getElem_cons_zero] at h0
   simp only [getL, if_neg h0, List.getElem_cons_succ] at e ⊢
   exact ih (by simpa using hi) (fun k hk hki => by have := h (k + 1) (by simpa using hk) (by omega); simpa using this) e
theorem getL_all {l : List VlV} {s : ByteArray} (h : ∀ (k : Nat) (hk : k < l.length), l[k].v ≠ s) : getL l s = none :=
 getL_none fun t ht => by obtain ⟨k, hk, rfl⟩ := List.mem_iff_getElem.1 ht; exact h k hk
end Go.Lin
namespace Go.Proofs.YtacekpdodelnbaaGreatDoor
open Go Go.Av Go.Lexs Go.Lin
attribute [local irreducible] ACalls at8
theorem rValues_a {Q} (l : List VlV) (fl : VlFit l) (H : Heap) (h : Q (.bool (valuesL l)) H) : ACalls Tryz.prog 71 [.sl 2 (Rw vlC l)] H Q := by
 refine acalls_of_wp [] Tryz.mixed Tryz.func71 rfl (by kernel_rfl) (of_decide_eq_true (by kernel_rfl)) (by kernel_rfl) ?_
 simp only [go_sem,seval, Tryz.results71]
 have hlen := fl.len
 refine loop_c [0, 5, 6] (fun (i : Nat) => [(7, .int .i64 i)]) (fun (i : Nat) => H) (fun (i : Nat) => i ≤ l.length ∧ (List.range i).all (okV l) = true) (fun (i : Nat) => l.length - i) (0) (⟨Nat.zero_le _, rfl⟩) (by (try simp only [go_sem,seval]) <;> (try simp (disch := omega) [wrap64]) <;> (try omega)) (by first | with_reducible exact Heap.Le.refl _ | exact heap_set_le (by assumption) | exact Heap.Le.refl _ | exact heap_le_set (by assumption) | exact (by simp only [Go.Av.Heap.Le, Go.Av.Heap.set, Go.Av.Heap.del] at * <;> grind)) ?_
 rintro Ec rfl i ⟨hi, hall⟩
 by_cases hlt : i < l.length
 ·have hkd : decide ((i : Int) < l.length) = true := decide_eq_true (by omega)
  have hti : (i : Int) < l.length := by omega
  have e : l.getD i default = l[i] := by simp [hlt]
  have e2 : ∀ hj : i - 1 < l.length, l.getD (i - 1) default = l[i - 1] := fun hj => by simp [hj]
  have hok : okV l i = (nameB (B l[i].v) && (decide (i = 0) || ltS (l.getD (i - 1) default).v l[i].v) && within l[i].n 2147483647) := by unfold okV; rw [e]
  have bad : okV l i = false → valuesL l = false := fun g => by
   unfold valuesL
   have : (List.range l.length).all (okV l) = false := by rw [List.all_eq_false]; exact ⟨i, List.mem_range.2 hlt, by rw [g]; decide⟩
   rw [this]; rfl
  have hst : l[i].v.size ≤ 4611686018427387904 := by have := fl.str _ (List.getElem_mem hlt); omega
  by_cases n1 : nameB (B l[i].v) = true
  ·by_cases w1 : l[i].n < -2147483647
   ·rw [bad (by rw [hok]; unfold within; rw [decide_eq_false (show ¬ -2147483647 ≤ l[i].n by omega)]; simp)] at h
    repeat' (first | with_reducible refine And.intro ?_ ?_ | simp only [go_sem,seval, hkd, n1, Rw_at _ _ hlt, Rw_get _ _ hlt, w1, Bool.not_true, Bool.not_false, decide_true, decide_false] | simp (disch := omega) only [wrap64, Rw_at] | intro hx_ | with_reducible refine rName_a _ hst _ ?_ | omega)
    exact Fin.less (by simp only [Go.Av.Heap.Le, Go.Av.Heap.set, Go.Av.Heap.del] at * <;> grind) h
   ·by_cases w2 : 2147483647 < l[i].n
    ·rw [bad (by rw [hok]; unfold within; rw [decide_eq_false (show ¬ l[i].n ≤ 2147483647 by omega)]; simp)] at h
     repeat' (first | with_reducible refine And.intro ?_ ?_ | simp only [go_sem,seval, hkd, n1, Rw_at _ _ hlt, Rw_get _ _ hlt, w1, w2, Bool.not_true, Bool.not_false, decide_true, decide_false] | simp (disch := omega) only [wrap64, Rw_at] | intro hx_ | with_reducible refine rName_a _ hst _ ?_ | omega)
     exact Fin.less (by simp only [Go.Av.Heap.Le, Go.Av.Heap.set, Go.Av.Heap.del] at * <;> grind) h
    ·have w : within l[i].n 2147483647 = true := by unfold within; rw [decide_eq_true (show -2147483647 ≤ l[i].n by omega), decide_eq_true (show l[i].n ≤ 2147483647 by omega)]; rfl
     by_cases n2 : i = 0
     ·have z0 : ¬ ((0 : Int) < i) := by omega
      have okt : okV l i = true := by rw [hok, n1, w, decide_eq_true n2]; rfl
      repeat' (first | with_reducible refine And.intro ?_ ?_ | simp only [go_sem,seval, hkd, n1, Rw_at _ _ hlt, Rw_get _ _ hlt, w1, w2, z0, Bool.not_true, Bool.not_false, decide_true, decide_false] | simp (disch := omega) only [wrap64, Rw_at] | intro hx_ | with_reducible refine rName_a _ hst _ ?_ | omega)
      exact nx_mk (i + 1) ⟨by omega, by rw [List.range_succ, List.all_append, hall]; simp [okt]⟩ (by omega) (by (try simp only [go_sem,seval]) <;> (try simp (disch := omega) [wrap64]) <;> (try omega)) (by simp only [Go.Av.Heap.Le, Go.Av.Heap.set, Go.Av.Heap.del] at * <;> grind)
     ·have hj : i - 1 < l.length := by omega
      have z0 : (0 : Int) < i := by omega
      have ek : (i : Int) - 1 = ((i - 1 : Nat) : Int) := by omega
      have hji : ((i - 1 : Nat) : Int) < l.length := by omega
      by_cases g : ltS l[i - 1].v l[i].v = true
      ·have lb : Op.bytesLess l[i - 1].v.data.toList l[i].v.data.toList = true := g
       have okt : okV l i = true := by rw [hok, n1, w, e2 hj, g, Bool.or_true]; rfl
       repeat' (first | with_reducible refine And.intro ?_ ?_ | simp only [go_sem,seval, hkd, n1, Rw_at _ _ hlt, Rw_get _ _ hlt, w1, w2, z0, ek, hji, Rw_at _ _ hj, Rw_get _ _ hj, bs_geq, lb, Bool.not_true, Bool.not_false, decide_true, decide_false] | simp (disch := omega) only [wrap64, Rw_at] | intro hx_ | with_reducible refine rName_a _ hst _ ?_ | omega)
       exact nx_mk (i + 1) ⟨by omega, by rw [List.range_succ, List.all_append, hall]; simp [okt]⟩ (by omega) (by (try simp only [go_sem,seval]) <;> (try simp (disch := omega) [wrap64]) <;> (try omega)) (by simp only [Go.Av.Heap.Le, Go.Av.Heap.set, Go.Av.Heap.del] at * <;> grind)
      ·have g : ltS l[i - 1].v l[i].v = false := by simpa using g
       have lb : Op.bytesLess l[i - 1].v.data.toList l[i].v.data.toList = false := g
       rw [bad (by rw [hok, n1, e2 hj, g, decide_eq_false n2]; rfl)] at h
       repeat' (first | with_reducible refine And.intro ?_ ?_ | simp only [go_sem,seval, hkd, n1, Rw_at _ _ hlt, Rw_get _ _ hlt, w1, w2, z0, ek, hji, Rw_at _ _ hj, Rw_get _ _ hj, bs_geq, lb, Bool.not_true, Bool.not_false, decide_true, decide_false] | simp (disch := omega) only [wrap64, Rw_at] | intro hx_ | with_reducible refine rName_a _ hst _ ?_ | omega)
       exact Fin.less (by simp only [Go.Av.Heap.Le, Go.Av.Heap.set, Go.Av.Heap.del] at * <;> grind) h
  ·have n1 : nameB (B l[i].v) = false := by simpa using n1
   rw [bad (by rw [hok, n1]; rfl)] at h
   repeat' (first | with_reducible refine And.intro ?_ ?_ | simp only [go_sem,seval, hkd, n1, Rw_at _ _ hlt, Rw_get _ _ hlt, Bool.not_true, Bool.not_false, decide_true, decide_false] | simp (disch := omega) only [wrap64, Rw_at] | intro hx_ | with_reducible refine rName_a _ hst _ ?_ | omega)
   exact Fin.less (by simp only [Go.Av.Heap.Le, Go.Av.Heap.set, Go.Av.Heap.del] at * <;> grind) h
 ·have hkd : decide ((i : Int) < l.length) = false := decide_eq_false (by omega)
  have hie : i = l.length := by omega
  subst hie
  have hv : valuesL l = decide ((l.length : Int) ≤ 24) := by
   unfold valuesL; rw [hall]; by_cases g : l.length ≤ 24
   ·rw [decide_eq_true g, decide_eq_true (show (l.length : Int) ≤ 24 by omega)]; rfl
   ·rw [decide_eq_false g, decide_eq_false (show ¬ (l.length : Int) ≤ 24 by omega)]; rfl
  rw [hv] at h
  repeat' (first | with_reducible refine And.intro ?_ ?_ | simp only [go_sem,seval, hkd] | simp (disch := omega) only [wrap64, Rw_at] | intro hx_ | omega)
  exact Fin.less (by simp only [Go.Av.Heap.Le, Go.Av.Heap.set, Go.Av.Heap.del] at * <;> grind) h
theorem rValue_a {Q} (l : List VlV) (fl : VlFit l) (s : ByteArray) (H : Heap) (h : Q (.tuple [.int .i64 ((getL l s).getD 0), .bool (getL l s).isSome]) H) : ACalls Tryz.prog 72 [.sl 2 (Rw vlC l), .str s] H Q := by
 refine acalls_of_wp [] Tryz.mixed Tryz.func72 rfl (by kernel_rfl) (of_decide_eq_true (by kernel_rfl)) (by kernel_rfl) ?_
 simp only [go_sem,seval, Tryz.results72]
 have hlen := fl.len
 refine loop_c [1, 8, 9] (fun (i : Nat) => [(10, .int .i64 i)]) (fun (i : Nat) => H) (fun (i : Nat) => i ≤ l.length ∧ ∀ (k : Nat) (hk : k < l.length), k < i → l[k].v ≠ s) (fun (i : Nat) => l.length - i) (0) (⟨Nat.zero_le _, fun _ _ h => by omega⟩) (by (try simp only [go_sem,seval]) <;> (try simp (disch := omega) [wrap64]) <;> (try omega)) (by first | with_reducible exact Heap.Le.refl _ | exact heap_set_le (by assumption) | exact Heap.Le.refl _ | exact heap_le_set (by assumption) | exact (by simp only [Go.Av.Heap.Le, Go.Av.Heap.set, Go.Av.Heap.del] at * <;> grind)) ?_
 rintro Ec rfl i ⟨hi, hall⟩
 by_cases hlt : i < l.length
 ·have hkd : decide ((i : Int) < l.length) = true := decide_eq_true (by omega)
  have hti : (i : Int) < l.length := by omega
  by_cases c : l[i].v = s
  ·have cb : decide (B l[i].v = B s) = true := decide_eq_true (by rw [c])
   rw [getL_take hlt hall c] at h
   simp only [Option.getD_some, Option.isSome_some] at h
   repeat' (first | with_reducible refine And.intro ?_ ?_ | simp only [go_sem,seval, hkd, Rw_at _ _ hlt, Rw_get _ _ hlt, cb] | simp (disch := omega) only [wrap64, Rw_at] | intro hx_ | omega)
   exact Fin.less (by simp only [Go.Av.Heap.Le, Go.Av.Heap.set, Go.Av.Heap.del] at * <;> grind) h
  ·have cb : decide (B l[i].v = B s) = false := decide_eq_false fun g => c (B_inj g)
   repeat' (first | with_reducible refine And.intro ?_ ?_ | simp only [go_sem,seval, hkd, Rw_at _ _ hlt, Rw_get _ _ hlt, cb] | simp (disch := omega) only [wrap64, Rw_at] | intro hx_ | omega)
   exact nx_mk (i + 1) ⟨by omega, fun k hk hki => (Nat.lt_or_ge k i).elim (fun g => hall k hk g) (fun g => by have : k = i := (by omega); subst this; exact c)⟩ (by omega) (by (try simp only [go_sem,seval]) <;> (try simp (disch := omega) [wrap64]) <;> (try omega)) (by simp only [Go.Av.Heap.Le, Go.Av.Heap.set, Go.Av.Heap.del] at * <;> grind)
 ·have hkd : decide ((i : Int) < l.length) = false := decide_eq_false (by omega)
  rw [getL_all fun k hk => hall k hk (by omega)] at h
  simp only [Option.getD_none, Option.isSome_none] at h
  repeat' (first | with_reducible refine And.intro ?_ ?_ | simp only [go_sem,seval, hkd] | simp (disch := omega) only [wrap64, Rw_at] | intro hx_ | omega)
  exact Fin.less (by simp only [Go.Av.Heap.Le, Go.Av.Heap.set, Go.Av.Heap.del] at * <;> grind) h
end Go.Proofs.YtacekpdodelnbaaGreatDoor
end
section
set_option maxRecDepth 20000
namespace Go.Lin
open Go Go.Av Go.Lexs
end Go.Lin
namespace Go.Proofs.YtacekpdodelnbaaGreatDoor
open Go Go.Av Go.Lexs Go.Lin
attribute [local irreducible] ACalls at8
theorem rAt_a {Q} (a : LinV) (fa : LinFit a) (vs : List VlV) (fv : VlFit vs) (H : Heap) (h : Q (.tuple [.bool (atR a vs).1, .int .i64 (atR a vs).2]) H) : ACalls Tryz.prog 29 [.agg (linC a), .sl 2 (Rw vlC vs)] H Q := by
 refine acalls_of_wp [] Tryz.mixed Tryz.func29 rfl (by kernel_rfl) (of_decide_eq_true (by kernel_rfl)) (by kernel_rfl) ?_
 simp only [go_sem,seval, Tryz.results29]
 intro b1 hb1
 have e1 : (H.set b1 (.box (linC a))) b1 = some (.box (linC a)) := heap_same _ _
 have hle : H.Le (H.set b1 (.box (linC a))) := heap_le_set hb1
 generalize H.set b1 (.box (linC a)) = Bs at e1 hle ⊢
 have hvl := fv.len
 unfold atR at h
 cases ha : validL a with
 | false =>
  rw [ha] at h
  simp only [Bool.false_eq_true, false_and, if_false] at h
  repeat' (first | with_reducible refine And.intro ?_ ?_ | simp only [go_sem,seval, e1, ha] | simp (disch := omega) only [wrap64, Rw_at] | intro hx_ | with_reducible refine rValid_a a fa _ ?_ | omega)
  exact Fin.less hle h
 | true =>
  cases hv : valuesL vs with
  | false =>
   rw [ha, hv] at h
   simp only [Bool.false_eq_true, and_false, if_false] at h
   repeat' (first | with_reducible refine And.intro ?_ ?_ | simp only [go_sem,seval, e1, ha, hv] | simp (disch := omega) only [wrap64, Rw_at] | intro hx_ | with_reducible refine rValid_a a fa _ ?_ | with_reducible refine rValues_a vs fv _ ?_ | omega)
   exact Fin.less hle h
  | true =>
   rw [ha, hv] at h
   simp only [and_self, if_true] at h
   have ok := valid_ok ha
   have okl := ok.len
   have okk := ok.k
   repeat' (first | with_reducible refine And.intro ?_ ?_ | simp only [go_sem,seval, e1, ha, hv] | simp (disch := omega) only [wrap64, Rw_at] | intro hx_ | with_reducible refine rValid_a a fa _ ?_ | with_reducible refine rValues_a vs fv _ ?_ | omega)
   refine loop_c [1, 2, 22, 23] (fun (p : Nat × Int) => [(24, .int .i64 p.1), (6, .int .i64 p.2)]) (fun (p : Nat × Int) => Bs) (fun (p : Nat × Int) => p.1 ≤ a.t.length ∧ totalL a.k a.t vs = totalL p.2 (a.t.drop p.1) vs ∧ p.2.natAbs ≤ 1099511627776 + p.1 * 2251799812636672) (fun (p : Nat × Int) => a.t.length - p.1) ((0, a.k)) (⟨Nat.zero_le _, rfl, by simpa using okk⟩) (by (try simp only [go_sem,seval]) <;> (try simp (disch := omega) [wrap64]) <;> (try omega)) (by first | with_reducible exact Heap.Le.refl _ | exact heap_set_le (by assumption) | exact Heap.Le.refl _ | exact heap_le_set (by assumption) | exact (by simp only [Go.Av.Heap.Le, Go.Av.Heap.set, Go.Av.Heap.del] at * <;> grind)) ?_
   rintro Ec rfl ⟨i, s⟩ ⟨hi, hT, hs⟩
   simp only at hi hT hs
   by_cases hlt : i < a.t.length
   ·have hkd : decide ((i : Int) < a.t.length) = true := decide_eq_true (by omega)
    have hti : (i : Int) < a.t.length := by omega
    have ot := okAt_get ok.t hlt
    rw [totalL_step _ _ _ _ hlt] at hT
    cases hg : getL vs a.t[i].v with
    | none =>
     rw [hg] at hT
     have hT : totalL a.k a.t vs = none := hT
     rw [hT] at h
     have gc : ∀ (H : Heap) (Q : D → Heap → Prop), Q (.tuple [.int .i64 0, .bool false]) H → ACalls Tryz.prog 72 [.sl 2 (Rw vlC vs), .str a.t[i].v] H Q := fun H Q hq => rValue_a vs fv _ H (by rw [hg]; exact hq)
     repeat' (first | with_reducible refine And.intro ?_ ?_ | simp only [go_sem,seval, hkd, hti, Rw_at _ _ hlt, Rw_get _ _ hlt] | simp (disch := omega) only [wrap64, Rw_at] | intro hx_ | with_reducible refine gc _ _ ?_ | omega)
     exact Fin.less (by simp only [Go.Av.Heap.Le, Go.Av.Heap.set, Go.Av.Heap.del] at * <;> grind) h
    | some n =>
     rw [hg] at hT
     have hT : totalL a.k a.t vs = totalL (s + a.t[i].c * n) (a.t.drop (i + 1)) vs := hT
     have hn := getL_abs hv hg
     have hp := prod_abs ot.2.2.1 hn
     have gc : ∀ (H : Heap) (Q : D → Heap → Prop), Q (.tuple [.int .i64 n, .bool true]) H → ACalls Tryz.prog 72 [.sl 2 (Rw vlC vs), .str a.t[i].v] H Q := fun H Q hq => rValue_a vs fv _ H (by rw [hg]; exact hq)
     obtain ⟨z, hz⟩ : ∃ z, z = a.t[i].c * n := ⟨_, rfl⟩
     rw [← hz] at hT hp
     repeat' (first | with_reducible refine And.intro ?_ ?_ | simp only [go_sem,seval, hkd, hti, Rw_at _ _ hlt, Rw_get _ _ hlt, ← hz] | simp (disch := omega) only [wrap64, Rw_at] | intro hx_ | with_reducible refine gc _ _ ?_ | omega)
     refine nx_mk (i + 1, s + z) ⟨by simp only []; omega, hT, by simp only []; omega⟩ (by simp only []; omega) (by (try simp only [go_sem,seval]) <;> (try simp (disch := omega) [wrap64]) <;> (try omega)) (by simp only [Go.Av.Heap.Le, Go.Av.Heap.set, Go.Av.Heap.del] at * <;> grind)
   ·have hkd : decide ((i : Int) < a.t.length) = false := decide_eq_false (by omega)
    rw [List.drop_eq_nil_of_le (by omega), totalL] at hT
    rw [hT] at h
    simp only [holdsL] at h
    rcases Int.lt_trichotomy s 0 with g | g | g
    ·have g1 : ¬ s = 0 := by omega
     have g2 : ¬ 0 < s := by omega
     rw [decide_eq_false g1, decide_eq_false g2] at h
     repeat' (first | with_reducible refine And.intro ?_ ?_ | simp only [go_sem,seval, hkd, e1, g1, g2, decide_false] | simp (disch := omega) only [wrap64, Rw_at] | intro hx_ | omega)
     exact Fin.less hle h
    ·rw [decide_eq_true g] at h
     subst g
     repeat' (first | with_reducible refine And.intro ?_ ?_ | simp only [go_sem,seval, hkd, e1] | simp (disch := omega) only [wrap64, Rw_at] | intro hx_ | omega)
     exact Fin.less hle h
    ·have g1 : ¬ s = 0 := by omega
     rw [decide_eq_false g1, decide_eq_true g] at h
     repeat' (first | with_reducible refine And.intro ?_ ?_ | simp only [go_sem,seval, hkd, e1, g1, g, decide_false, decide_true] | simp (disch := omega) only [wrap64, Rw_at] | intro hx_ | omega)
     exact Fin.less hle h
end Go.Proofs.YtacekpdodelnbaaGreatDoor
end
section
set_option maxRecDepth 20000
namespace Go.Lin
open Go Go.Av Go.Lexs
end Go.Lin
namespace Go.Proofs.YtacekpdodelnbaaGreatDoor
open Go Go.Av Go.Lexs Go.Lin
attribute [local irreducible] ACalls at8
theorem fits1 {c : LinV} (fc : LinFit c) : ∀ x ∈ [c], LinFit x := fun x hx => by rw [List.mem_singleton] at hx; rw [hx]; exact fc
theorem lawAt_a {Q} (c : LinV) (vs : List VlV) (fc : LinFit c) (fv : VlFit vs) (H : Heap) (hT : Tabs H) (h : Q (.bool true) H) : ACalls Tryz.prog 5 [.agg (linC c), .sl 2 (Rw vlC vs)] H Q := by
 refine acalls_of_wp [] Tryz.mixed Tryz.func5 rfl (by kernel_rfl) (of_decide_eq_true (by kernel_rfl)) (by kernel_rfl) ?_
 simp only [go_sem,seval, Tryz.results5]
 intro b2 g2
 have e2 : (H.set b2 (.box (linC c))) b2 = some (.box (linC c)) := heap_same _ _
 have hle : H.Le (H.set b2 (.box (linC c))) := heap_le_set g2
 generalize H.set b2 (.box (linC c)) = Bs at e2 hle ⊢
 have hTb := hT.le hle
 have hvl := fv.len
 repeat' (first | with_reducible refine And.intro ?_ ?_ | simp only [go_sem,seval, e2] | intro hx_ | omega)
 refine few1_a (by assumption) [c] rfl (by simp) (fits1 fc) fun x => ?_
 cases x with
 | false =>
  repeat' (first | with_reducible refine And.intro ?_ ?_ | simp only [go_sem,seval] | intro hx_ | with_reducible refine awake_a _ hTb ?_ | omega)
  exact Fin.less hle h
 | true =>
  by_cases h60 : (60 : Int) < vs.length
  ·repeat' (first | with_reducible refine And.intro ?_ ?_ | simp only [go_sem,seval, h60] | intro hx_ | with_reducible refine awake_a _ hTb ?_ | omega)
   exact Fin.less hle h
  ·repeat' (first | with_reducible refine And.intro ?_ ?_ | simp only [go_sem,seval, h60, e2] | intro hx_ | with_reducible refine at_a c fc vs fv _ ?_ | with_reducible refine rAt_a c fc vs fv _ ?_ | with_reducible refine awake_a _ hTb ?_ | omega)
   exact Fin.less hle h
end Go.Proofs.YtacekpdodelnbaaGreatDoor
end
section
namespace Go.Av
open Go.RowKit Go.ChangeShapes Go.WideShapes
section
variable {H : Type} {enc : TypeId × Value → H} {P : Program}
theorem fitsV_sl {t e : TypeId} {x : D} (hu : P.underlying t = some (.slice e)) (h : FitsV P t x) : ∃ es, x = .sl (P.cellsOf e) es ∧ es.length * P.bytesOf e ≤ reachBytes ∧ ∀ y ∈ es, Fits P e y := by
 obtain ⟨s, h1, h2⟩ := fits_sl hu (fitsV_leaf (by simp [hu]) h)
 simp at h1
 exact ⟨s, h1, h2⟩
end
end Go.Av
end
section
set_option maxRecDepth 100000
namespace Go.Proofs.YtacekpdodelnbaaGreatDoor
open Go Go.Av Go.Lexs Go.Lin
theorem fits_vl {el : List D} (h : Fits Tryz.prog 76 el) : ∃ t : VlV, el = vlC t ∧ (t.v.size ≤ 140737488351232 ∧ i64 t.n) := by
 have hre : reachBytes = 140737488351232 := rfl
 obtain ⟨ps, rfl, hl, hp⟩ := fits_struct Tryz.underlying76 h
 obtain ⟨p0, p1, rfl⟩ := list_two ps hl
 obtain ⟨s, rfl, hs⟩ := fits_str (by kernel_rfl) (hp 0 _ _ rfl rfl)
 obtain ⟨n, rfl, hn⟩ := fits_int (k := .i64) (by kernel_rfl) (hp 1 _ _ rfl rfl)
 exact ⟨⟨s, n⟩, rfl, by simp only []; omega, wf_i64 hn⟩
theorem fitsV_vals {x : D} (h : FitsV Tryz.prog 38 x) : ∃ l : List VlV, x = .sl 2 (Rw vlC l) ∧ VlFit l := by
 have hre : reachBytes = 140737488351232 := rfl
 obtain ⟨es, rfl, he, hes⟩ := fitsV_sl (e := 76) (by kernel_rfl) h
 have c1 : Tryz.prog.cellsOf 76 = 2 := by kernel_rfl
 have b1 : Tryz.prog.bytesOf 76 = 24 := by kernel_rfl
 rw [b1] at he
 obtain ⟨l, rfl, hl⟩ := rw_ex (f := vlC) (p := fun t => t.v.size ≤ 140737488351232 ∧ i64 t.n) es (fun y hy => fits_vl (hes y hy))
 rw [Rw_len] at he
 rw [c1]
 exact ⟨l, rfl, by omega, fun t ht => (hl t ht).1, fun t ht => (hl t ht).2⟩
end Go.Proofs.YtacekpdodelnbaaGreatDoor
end
section
set_option maxRecDepth 100000
namespace Go.Proofs.YtacekpdodelnbaaGreatDoor.linearAt
open Go Go.Av Go.Lexs Go.Lin Go.ChangeShapes Go.WideShapes Go.RowKit
theorem lifted (os : Os) (started : os.Started) (H : Type) (enc : TypeId × Value → H) :
  ReturnsInHanded {} Tryz.checked os 5 .any (fun w args => (Rows.linearAtSpec.pre enc Tryz.prog Tryz.f5 Rows.linearAtRow.domain false w args ∧ laidMetH Tryz.prog Rows.linearAtRow.laid w) ∧ sizedMet enc Tryz.prog Tryz.f5 (OpenSpec.ofChange Rows.linearAtSpec) false w args)
   (Rows.linearAtSpec.post enc Tryz.prog Tryz.f5 false true false false) := by
 refine returnsInHanded_of_change_and (C := Tryz.checked) (X := fun w _ => laidMetH Tryz.prog Rows.linearAtRow.laid w) (fun _ _ _ hh h => h.of_heap hh) own started (by kernel_rfl) Tryz.func5
  (ChangeSpec.witness_shaped (enc := enc) (C := Tryz.checked) (os := os) (X := fun w _ => laidMetH Tryz.prog Rows.linearAtRow.laid w) false (World.laidAll Tryz.prog os Rows.linearAtRow.laid) #[.agg #[.slice none 0 0, .int .i64 0, .bool false], .slice none 0 0] 8 (World.laidAll_os _ _ _)
   (World.shaped_of_ZipB (by kernel_rfl) (by kernel_rfl)) (by kernel_rfl) (by kernel_rfl) (by kernel_rfl)
   (by rw [MakeChecks.laidMetH_plain _ _ _ (by kernel_rfl)]; exact laidMet_laidAll _ (by kernel_rfl) (by kernel_rfl))) ?_
 intro W base args ds gs before hval hW _ hsz hL _
 rw [MakeChecks.laidMetH_plain _ _ _ (by kernel_rfl)] at hL
 obtain ⟨tu, tv, hS⟩ := tabs_sat hL (by simp [Rows.linearAtRow]) (by simp [Rows.linearAtRow]) (by simp [Rows.linearAtRow])
 have hW' := hW
 obtain ⟨p, q, hA0, hV, _, _, _⟩ := hW
 rw [Tryz.params5] at hA0 hval hsz
 obtain ⟨v0, v1, d0, d1, p0, p1, rfl, rfl, rfl, h0, h1⟩ := trodAll_two hA0
 obtain ⟨rfl, rfl⟩ := trodVars_none hV
 obtain ⟨x0, k0, r0⟩ := arg_fits plain19 (tabs_held tu tv) (by simp) (hval 0 _ _ rfl rfl) h0 (weightsEach_at hsz 0 _ _ rfl rfl)
 obtain ⟨x1, k1, r1⟩ := arg_fits plain19 (tabs_held tu tv) (by simp) (hval 1 _ _ rfl rfl) h1 (weightsEach_at hsz 1 _ _ rfl rfl)
 obtain ⟨c, rfl, fc⟩ := fitsV_lin k0
 obtain ⟨vs, rfl, fvs⟩ := fitsV_vals k1
 have hre : reachBytes = 140737488351232 := rfl
 refine law_calls laidOut (by kernel_rfl) rfl (tb := 4) (by kernel_rfl) (by kernel_rfl) rfl hW' (tabs tu tv) (tabs_held tu tv) hS [.agg (linC c), .sl 2 (Rw vlC vs)] rfl (fun i d hd => ?_) (fun Q hQ => lawAt_a c vs fc fvs _ (tabs_tabs tu tv) hQ)
 match i, hd with
 | 0, hd => simp at hd; subst hd; exact r0
 | 1, hd => simp at hd; subst hd; exact r1
 | i + 2, hd => simp at hd
theorem said : Rows.LinearAtSaid :=
 OpenClaim.holds_of_wide 5 Tryz.f5 rfl rfl rfl rfl rfl rfl rfl ⟨rfl, rfl, rfl, rfl, rfl⟩ rfl rfl rfl rfl rfl (by kernel_rfl) Tryz.func5 (by kernel_rfl)
  (of_decide_eq_true (by kernel_rfl)) (by unfold Func.isWrapper; first | (rw [if_pos (by decide +kernel)]; kernel_rfl) | (rw [if_neg (by decide +kernel)]; exact ⟨rfl, rfl⟩))
  (fun os started H enc _ => lifted os started H enc)
theorem plain (f : FuncId) (fn : Func) (hf : Tryz.pinned.checked.prog.funcNamed "voussoir/voussoirlaw19.LinearAt" = some f) (hfn : Tryz.pinned.checked.prog.funcs[f]? = some fn) :
  true = Tryz.pinned.checked.prog.looks [] ∧ ∀ (j : Nat) t, fn.params[j]? = some t → Tryz.pinned.checked.prog.wantsStandIn t = false := by
 obtain rfl : f = 5 := Option.some.inj ((show Tryz.prog.funcNamed "voussoir/voussoirlaw19.LinearAt" = some 5 by kernel_rfl).symm.trans hf) |>.symm
 obtain rfl : fn = Tryz.f5 := (Option.some.inj (Tryz.func5.symm.trans hfn)).symm
 refine ⟨by kernel_rfl, fun j t ht => ?_⟩
 have hall : ((Tryz.f5.params.toList).all fun u => !Tryz.prog.wantsStandIn u) = true := by kernel_rfl
 have := List.all_eq_true.1 hall t (by rw [Array.mem_toList_iff]; exact Array.mem_of_getElem? ht)
 exact (by simpa using this : Tryz.prog.wantsStandIn t = false)
theorem card : Rows.LinearAtCardSaid :=
 Claim7.holds_tied_plain_at .later [] _ _ _ _ said (fun _ h => by cases h) (by kernel_rfl) (fun _ h => by cases h) linearAt_row_tie rfl ⟨rfl, rfl⟩ (by kernel_rfl) rfl plain (by kernel_rfl)
end Go.Proofs.YtacekpdodelnbaaGreatDoor.linearAt
namespace Go.Proofs.YtacekpdodelnbaaGreatDoor
theorem linearAt_holds : Rows.LinearAtCardSaid := linearAt.card
end Go.Proofs.YtacekpdodelnbaaGreatDoor
end
