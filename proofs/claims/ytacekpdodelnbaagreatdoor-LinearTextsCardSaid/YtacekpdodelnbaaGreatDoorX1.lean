/- LinearTexts, proved: for every input the law returns true, and the arguments read as before; the listed tables hold what the program's text lays (the card). No other condition than the row's own. -/
import Derived.Test.YtacekpdodelnbaaGreatDoorProg
import Derived.Test.YtacekpdodelnbaaGreatDoorCards
import Derived.Test.YtacekpdodelnbaaGreatDoorTie
import Derived.Test.YtacekpdodelnbaaGreatDoorK6
set_option linter.unusedSimpArgs false
set_option linter.unusedVariables false
section
namespace Go.Av
section
variable {P : Program} {Z : List (Nat × Rc)} {Q : AX → Env → Heap → Prop} {E : Env} {H : Heap} {K : Env → Heap → Prop} {gs : List (Option Nat)} {l : List Oper} {KD : D → Heap → Prop} {ev : Operand → D} {bl : List Nat}
attribute [go_sem low] condA_bool
attribute [go_sem low] guardK_bool
attribute [go_sem low] guardF_bool
variable {sx : Bool} {bl : List Nat}
variable {t : Nat} {c : Bool} {k : IntKind} {a b : Int}
@[go_sem] theorem s_conv_is (s t : Nat) (x : Operand) (h1 : (intT P s).isSome = true) (h2 : baseT P t = .str) : wpOp P ev H KD (.convert s t x) = cvIS (ev x) H KD := by
 have ht : P.underlying t = some .string := by
  unfold baseT at h2
  split at h2 <;> simp_all
 unfold intT at h1
 split at h1
 ·rename_i k1 e1
  have hc : cls P (.convert s t x) = .pure := by simp [cls, e1, ht]
  simp only [wpOp, hc, pureD]
  unfold cvIS
  cases hx : ev x <;> simp [convD, e1, ht, hx, base_of_int e1]
 ·cases h1
variable {t : Nat}
end
theorem at8_nat (s : ByteArray) (k : Nat) : at8 s k = nth (B s) k := rfl
theorem nth_range (l : List UInt8) (k : Nat) : 0 ≤ nth l k ∧ nth l k ≤ 255 := ⟨by unfold nth; omega, by unfold nth; have := (l.getD k 0).toNat_lt; omega⟩
end Go.Av
end
section
namespace Go.Proofs
open Go.Av
@[go_sem] theorem Tryz.int5 : intT Tryz.prog 5 = some .u8 := by kernel_rfl
@[go_sem] theorem Tryz.int21 : intT Tryz.prog 21 = some .i32 := by kernel_rfl
end Go.Proofs
end
section
namespace Go.Av
section
variable {P : Program} {E : Env} {H : Heap} {K : Env → Heap → Prop} {l : List Oper} {KD : D → Heap → Prop} {ev : Operand → D} {cs : Nat → CR} {bs : Nat → Bl} {bl : Bl} {c : CR} {gs : List (Option Nat)}
attribute [go_sem low] guardP_bool
@[go_sem] theorem p_slice (t : Nat) (x : Operand) (lo hi mx : Option Operand) : pOp P c bl ev H KD (.slice t x lo hi mx) = wpOp P ev H KD (.slice t x lo hi mx) := p_pure rfl rfl
end
end Go.Av
end
section
namespace Go.Lin
open Go Go.Av Go.Lexs
theorem parseL_R (s : List UInt8) : parseL s = if validL (readR s) = true ∧ textB (readR s) = s then some (readR s) else none := by
 unfold parseL
 by_cases h : ∃ a, validL a = true ∧ textB a = s
 ·obtain ⟨a, ha, rfl⟩ := h
  obtain ⟨h1, h2⟩ := read_text a ha
  rw [h1, h2]; rfl
 ·have n : ∀ a, ¬ (validL a = true ∧ textB a = s) := fun a g => h ⟨a, g⟩
  rw [if_neg (n _)]
  cases readP s with
  | none => rfl
  | some a => show (if _ then _ else _) = _; rw [if_neg (n a)]
end Go.Lin
end
section
set_option maxRecDepth 20000
namespace Go.Lin
open Go Go.Av Go.Lexs
end Go.Lin
namespace Go.Proofs.YtacekpdodelnbaaGreatDoor
open Go Go.Av Go.Lexs Go.Lin
attribute [local irreducible] ACalls at8
theorem rName_a {Q} (s : ByteArray) (hs : s.size ≤ 4611686018427387904) (H : Heap) (h : Q (.bool (nameB (B s))) H) : ACalls Tryz.prog 39 [.str s] H Q := by
 refine acalls_of_wp [] Tryz.mixed Tryz.func39 rfl (by kernel_rfl) (of_decide_eq_true (by kernel_rfl)) (by kernel_rfl) ?_
 simp only [go_sem,seval, Tryz.results39]
 have hl := B_len s
 have hd0 : at8 s 0 = nth (B s) 0 := at8_zero s
 refine loop_c [0] (fun (i : Nat) => [(3, .int .i64 i)]) (fun (i : Nat) => H) (fun (i : Nat) => i ≤ s.size ∧ ((B s).take i).all (ofB nameC) = true) (fun (i : Nat) => s.size - i) (0) (⟨Nat.zero_le _, by simp⟩) (by (try simp only [go_sem,seval]) <;> (try simp (disch := omega) [wrap64]) <;> (try omega)) (by first | with_reducible exact Heap.Le.refl _ | exact heap_set_le (by assumption) | exact Heap.Le.refl _ | exact heap_le_set (by assumption) | exact (by simp only [Go.Av.Heap.Le, Go.Av.Heap.set, Go.Av.Heap.del] at * <;> grind)) ?_
 rintro Ec rfl i ⟨hi, hall⟩
 by_cases hlt : i < s.size
 ·have hkd : decide ((i : Int) < s.size) = true := decide_eq_true (by omega)
  have hki : (i : Int) < s.size := by omega
  have hlb : i < (B s).length := by omega
  obtain ⟨x, hx⟩ : ∃ x, x = nth (B s) i := ⟨_, rfl⟩
  have hat : at8 s (i : Int) = x := by rw [hx]; exact at8_nat s i
  by_cases c4 : nameC x = true
  ·have c := (nameC_iff x).1 c4
   obtain ⟨d1, d2, d3, d4, d5, d6, d7, d8⟩ := c
   have d1' : ¬ x < 33 := by omega
   have d2' : ¬ 126 < x := by omega
   repeat' (first | with_reducible refine And.intro ?_ ?_ | simp only [go_sem,seval, hkd, hki, hat, d1', d2', d3, d4, d5, d6, d7, d8, decide_false] | simp (disch := omega) only [wrap64] | intro hx_ | omega)
   exact nx_mk (i + 1) ⟨by omega, by rw [all_take_succ _ _ _ hlb, hall, ← hx, c4]; rfl⟩ (by omega) (by (try simp only [go_sem,seval]) <;> (try simp (disch := omega) [wrap64]) <;> (try omega)) (Heap.Le.refl _)
  ·have c5 : nameC x = false := by simpa using c4
   have hf : nameB (B s) = false := by
    unfold nameB
    rw [all_false_of nameC (B s) i hlb (by rw [← hx]; exact c5), Bool.and_false]
   rw [hf] at h
   have hor : x < 33 ∨ 126 < x ∨ x = 43 ∨ x = 45 ∨ x = 42 ∨ x = 60 ∨ x = 62 ∨ x = 61 := by
    have := mt (nameC_iff x).2 c4; omega
   rcases hor with g | g | g | g | g | g | g | g
   ·repeat' (first | with_reducible refine And.intro ?_ ?_ | simp only [go_sem,seval, hkd, hki, hat, g, decide_true] | simp (disch := omega) only [wrap64] | intro hx_ | omega)
    exact Fin.same h
   ·have g0 : ¬ x < 33 := by omega
    repeat' (first | with_reducible refine And.intro ?_ ?_ | simp only [go_sem,seval, hkd, hki, hat, g0, g, decide_true, decide_false] | simp (disch := omega) only [wrap64] | intro hx_ | omega)
    exact Fin.same h
   ·rw [g] at hat
    repeat' (first | with_reducible refine And.intro ?_ ?_ | simp only [go_sem,seval, hkd, hki, hat, decide_true, decide_false] | simp (disch := omega) only [wrap64] | intro hx_ | omega)
    exact Fin.same h
   ·rw [g] at hat
    repeat' (first | with_reducible refine And.intro ?_ ?_ | simp only [go_sem,seval, hkd, hki, hat, decide_true, decide_false] | simp (disch := omega) only [wrap64] | intro hx_ | omega)
    exact Fin.same h
   ·rw [g] at hat
    repeat' (first | with_reducible refine And.intro ?_ ?_ | simp only [go_sem,seval, hkd, hki, hat, decide_true, decide_false] | simp (disch := omega) only [wrap64] | intro hx_ | omega)
    exact Fin.same h
   ·rw [g] at hat
    repeat' (first | with_reducible refine And.intro ?_ ?_ | simp only [go_sem,seval, hkd, hki, hat, decide_true, decide_false] | simp (disch := omega) only [wrap64] | intro hx_ | omega)
    exact Fin.same h
   ·rw [g] at hat
    repeat' (first | with_reducible refine And.intro ?_ ?_ | simp only [go_sem,seval, hkd, hki, hat, decide_true, decide_false] | simp (disch := omega) only [wrap64] | intro hx_ | omega)
    exact Fin.same h
   ·rw [g] at hat
    repeat' (first | with_reducible refine And.intro ?_ ?_ | simp only [go_sem,seval, hkd, hki, hat, decide_true, decide_false] | simp (disch := omega) only [wrap64] | intro hx_ | omega)
    exact Fin.same h
 ·have hkd : decide ((i : Int) < s.size) = false := decide_eq_false (by omega)
  rw [List.take_of_length_le (by omega)] at hall
  have hnb : nameB (B s) = (decide (B s ≠ []) && decide ((B s).length ≤ 200) && !digitI (nth (B s) 0)) := by unfold nameB; rw [hall, Bool.and_true]
  rw [hnb] at h
  by_cases v1 : B s = []
  ·have vs : s.size = 0 := by rw [← hl, v1]; rfl
   have e : (decide (B s ≠ []) && decide ((B s).length ≤ 200) && !digitI (nth (B s) 0)) = false := by rw [decide_eq_false (by simpa using v1)]; rfl
   rw [e] at h
   have vsi : ¬ ((1 : Int) ≤ s.size) := by omega
   repeat' (first | with_reducible refine And.intro ?_ ?_ | simp only [go_sem,seval, hkd, vsi, decide_false] | simp (disch := omega) only [wrap64] | intro hx_ | omega)
   all_goals exact Fin.same h
  ·have vs : 0 < s.size := by have := List.length_pos_iff.2 v1; omega
   have vsi : (1 : Int) ≤ s.size := by omega
   have vs0 : (0 : Int) < s.size := by omega
   rw [decide_eq_true (show B s ≠ [] from v1)] at h
   by_cases v2 : (s.size : Int) ≤ 200
   ·rw [decide_eq_true (show (B s).length ≤ 200 by omega)] at h
    by_cases q1 : nth (B s) 0 < 48
    ·have e : digitI (nth (B s) 0) = false := by rw [← Bool.not_eq_true, digitI_iff]; omega
     rw [e] at h
     repeat' (first | with_reducible refine And.intro ?_ ?_ | simp only [go_sem,seval, hkd, vsi, vs0, v2, hd0, q1, decide_true] | simp (disch := omega) only [wrap64] | intro hx_ | omega)
     all_goals exact Fin.same h
    ·have e : digitI (nth (B s) 0) = !decide (57 < nth (B s) 0) := by
      by_cases q2 : 57 < nth (B s) 0
      ·rw [decide_eq_true q2]; rw [show (!true) = false from rfl, ← Bool.not_eq_true, digitI_iff]; omega
      ·rw [decide_eq_false q2]; rw [show (!false) = true from rfl, digitI_iff]; omega
     rw [e] at h
     repeat' (first | with_reducible refine And.intro ?_ ?_ | simp only [go_sem,seval, hkd, vsi, vs0, v2, hd0, q1, decide_true, decide_false] | simp (disch := omega) only [wrap64] | intro hx_ | omega)
     all_goals exact Fin.same (by simpa using h)
   ·rw [decide_eq_false (show ¬ (B s).length ≤ 200 by omega)] at h
    repeat' (first | with_reducible refine And.intro ?_ ?_ | simp only [go_sem,seval, hkd, vsi, v2, decide_true, decide_false] | simp (disch := omega) only [wrap64] | intro hx_ | omega)
    all_goals exact Fin.same h
theorem rValid_a {Q} (a : LinV) (fa : LinFit a) (H : Heap) (h : Q (.bool (validL a)) H) : ACalls Tryz.prog 16 [.agg (linC a)] H Q := by
 refine acalls_of_wp [] Tryz.mixed Tryz.func16 rfl (by kernel_rfl) (of_decide_eq_true (by kernel_rfl)) (by kernel_rfl) ?_
 simp only [go_sem,seval, Tryz.results16]
 intro b1 hb1
 have e1 : (H.set b1 (.box (linC a))) b1 = some (.box (linC a)) := heap_same _ _
 have hle : H.Le (H.set b1 (.box (linC a))) := heap_le_set hb1
 generalize H.set b1 (.box (linC a)) = Bs at e1 hle ⊢
 have hlen := fa.len
 by_cases c1 : (12 : Int) < a.t.length
 ·have hv : validL a = false := by unfold validL; rw [decide_eq_false (show ¬ a.t.length ≤ 12 by omega)]; simp
  rw [hv] at h
  repeat' (first | with_reducible refine And.intro ?_ ?_ | simp only [go_sem,seval, e1, c1, decide_true] | simp (disch := omega) only [wrap64, Rw_at] | simp (disch := first | omega | grind) only [heap_ne_] | intro hx_ | omega)
  exact Fin.less (by simp only [Go.Av.Heap.Le, Go.Av.Heap.set, Go.Av.Heap.del] at * <;> grind) h
 by_cases c2 : a.k < -1099511627776
 ·have hv : validL a = false := by unfold validL within; rw [decide_eq_false (show ¬ -1099511627776 ≤ a.k by omega)]; simp
  rw [hv] at h
  repeat' (first | with_reducible refine And.intro ?_ ?_ | simp only [go_sem,seval, e1, c1, c2, decide_true, decide_false] | simp (disch := omega) only [wrap64, Rw_at] | simp (disch := first | omega | grind) only [heap_ne_] | intro hx_ | omega)
  exact Fin.less (by simp only [Go.Av.Heap.Le, Go.Av.Heap.set, Go.Av.Heap.del] at * <;> grind) h
 by_cases c3 : 1099511627776 < a.k
 ·have hv : validL a = false := by unfold validL within; rw [decide_eq_false (show ¬ a.k ≤ 1099511627776 by omega)]; simp
  rw [hv] at h
  repeat' (first | with_reducible refine And.intro ?_ ?_ | simp only [go_sem,seval, e1, c1, c2, c3, decide_true, decide_false] | simp (disch := omega) only [wrap64, Rw_at] | simp (disch := first | omega | grind) only [heap_ne_] | intro hx_ | omega)
  exact Fin.less (by simp only [Go.Av.Heap.Le, Go.Av.Heap.set, Go.Av.Heap.del] at * <;> grind) h
 repeat' (first | with_reducible refine And.intro ?_ ?_ | simp only [go_sem,seval, e1, c1, c2, c3, decide_true, decide_false] | simp (disch := omega) only [wrap64, Rw_at] | simp (disch := first | omega | grind) only [heap_ne_] | intro hx_ | omega)
 refine loop_c [1, 20, 21] (fun (i : Nat) => [(22, .int .i64 i)]) (fun (i : Nat) => Bs) (fun (i : Nat) => i ≤ a.t.length ∧ (List.range i).all (okAt a.t) = true) (fun (i : Nat) => a.t.length - i) (0) (⟨Nat.zero_le _, rfl⟩) (by (try simp only [go_sem,seval]) <;> (try simp (disch := omega) [wrap64]) <;> (try omega)) (by first | with_reducible exact Heap.Le.refl _ | exact heap_set_le (by assumption) | exact Heap.Le.refl _ | exact heap_le_set (by assumption) | exact (by simp only [Go.Av.Heap.Le, Go.Av.Heap.set, Go.Av.Heap.del] at * <;> grind)) ?_
 rintro Ec rfl i ⟨hi, hall⟩
 by_cases hlt : i < a.t.length
 ·have hkd : decide ((i : Int) < a.t.length) = true := decide_eq_true (by omega)
  have hti : (i : Int) < a.t.length := by omega
  have hco := fa.co _ (List.getElem_mem hlt)
  have hst : a.t[i].v.size ≤ 4611686018427387904 := by have := fa.str _ (List.getElem_mem hlt); omega
  have e : a.t.getD i default = a.t[i] := by simp [hlt]
  have e2 : ∀ hj : i - 1 < a.t.length, a.t.getD (i - 1) default = a.t[i - 1] := fun hj => by simp [hj]
  have hok : okAt a.t i = (nameB (B a.t[i].v) && (decide (i = 0) || ltS (a.t.getD (i - 1) default).v a.t[i].v) && decide (a.t[i].c ≠ 0) && within a.t[i].c 1048576) := by unfold okAt; rw [e]
  have bad : okAt a.t i = false → validL a = false := fun g => by
   unfold validL termsOk
   have : (List.range a.t.length).all (okAt a.t) = false := by rw [List.all_eq_false]; exact ⟨i, List.mem_range.2 hlt, by rw [g]; decide⟩
   rw [this]; rfl
  by_cases n1 : nameB (B a.t[i].v) = true
  ·by_cases c0 : a.t[i].c = 0
   ·rw [bad (by rw [hok, c0]; simp)] at h
    repeat' (first | with_reducible refine And.intro ?_ ?_ | simp only [go_sem,seval, hkd, e1, n1, Rw_at _ _ hlt, Rw_get _ _ hlt, c0, Bool.not_true, Bool.not_false, decide_true, decide_false] | simp (disch := omega) only [wrap64, Rw_at] | simp (disch := first | omega | grind) only [heap_ne_] | intro hx_ | with_reducible refine rName_a _ hst _ ?_ | omega)
    exact Fin.less (by simp only [Go.Av.Heap.Le, Go.Av.Heap.set, Go.Av.Heap.del] at * <;> grind) h
   ·by_cases w1 : a.t[i].c < -1048576
    ·rw [bad (by rw [hok]; unfold within; rw [decide_eq_false (show ¬ -1048576 ≤ a.t[i].c by omega)]; simp)] at h
     repeat' (first | with_reducible refine And.intro ?_ ?_ | simp only [go_sem,seval, hkd, e1, n1, Rw_at _ _ hlt, Rw_get _ _ hlt, c0, w1, Bool.not_true, Bool.not_false, decide_true, decide_false] | simp (disch := omega) only [wrap64, Rw_at] | simp (disch := first | omega | grind) only [heap_ne_] | intro hx_ | with_reducible refine rName_a _ hst _ ?_ | omega)
     exact Fin.less (by simp only [Go.Av.Heap.Le, Go.Av.Heap.set, Go.Av.Heap.del] at * <;> grind) h
    ·by_cases w2 : 1048576 < a.t[i].c
     ·rw [bad (by rw [hok]; unfold within; rw [decide_eq_false (show ¬ a.t[i].c ≤ 1048576 by omega)]; simp)] at h
      repeat' (first | with_reducible refine And.intro ?_ ?_ | simp only [go_sem,seval, hkd, e1, n1, Rw_at _ _ hlt, Rw_get _ _ hlt, c0, w1, w2, Bool.not_true, Bool.not_false, decide_true, decide_false] | simp (disch := omega) only [wrap64, Rw_at] | simp (disch := first | omega | grind) only [heap_ne_] | intro hx_ | with_reducible refine rName_a _ hst _ ?_ | omega)
      exact Fin.less (by simp only [Go.Av.Heap.Le, Go.Av.Heap.set, Go.Av.Heap.del] at * <;> grind) h
     ·have w : within a.t[i].c 1048576 = true := by unfold within; rw [decide_eq_true (show -1048576 ≤ a.t[i].c by omega), decide_eq_true (show a.t[i].c ≤ 1048576 by omega)]; rfl
      by_cases n2 : i = 0
      ·have z0 : ¬ ((0 : Int) < i) := by omega
       have okt : okAt a.t i = true := by rw [hok, n1, w, decide_eq_true n2, decide_eq_true (show a.t[i].c ≠ 0 from c0)]; rfl
       repeat' (first | with_reducible refine And.intro ?_ ?_ | simp only [go_sem,seval, hkd, e1, n1, Rw_at _ _ hlt, Rw_get _ _ hlt, c0, w1, w2, z0, Bool.not_true, Bool.not_false, decide_true, decide_false] | simp (disch := omega) only [wrap64, Rw_at] | simp (disch := first | omega | grind) only [heap_ne_] | intro hx_ | with_reducible refine rName_a _ hst _ ?_ | omega)
       exact nx_mk (i + 1) ⟨by omega, by rw [List.range_succ, List.all_append, hall]; simp [okt]⟩ (by omega) (by (try simp only [go_sem,seval]) <;> (try simp (disch := omega) [wrap64]) <;> (try omega)) (by simp only [Go.Av.Heap.Le, Go.Av.Heap.set, Go.Av.Heap.del] at * <;> grind)
      ·have hj : i - 1 < a.t.length := by omega
       have z0 : (0 : Int) < i := by omega
       have ek : (i : Int) - 1 = ((i - 1 : Nat) : Int) := by omega
       have hji : ((i - 1 : Nat) : Int) < a.t.length := by omega
       by_cases l : ltS a.t[i - 1].v a.t[i].v = true
       ·have lb : Op.bytesLess a.t[i - 1].v.data.toList a.t[i].v.data.toList = true := l
        have okt : okAt a.t i = true := by rw [hok, n1, w, e2 hj, l, Bool.or_true, decide_eq_true (show a.t[i].c ≠ 0 from c0)]; rfl
        repeat' (first | with_reducible refine And.intro ?_ ?_ | simp only [go_sem,seval, hkd, e1, n1, Rw_at _ _ hlt, Rw_get _ _ hlt, c0, w1, w2, z0, ek, hji, Rw_at _ _ hj, Rw_get _ _ hj, bs_geq, lb, Bool.not_true, Bool.not_false, decide_true, decide_false] | simp (disch := omega) only [wrap64, Rw_at] | simp (disch := first | omega | grind) only [heap_ne_] | intro hx_ | with_reducible refine rName_a _ hst _ ?_ | omega)
        exact nx_mk (i + 1) ⟨by omega, by rw [List.range_succ, List.all_append, hall]; simp [okt]⟩ (by omega) (by (try simp only [go_sem,seval]) <;> (try simp (disch := omega) [wrap64]) <;> (try omega)) (by simp only [Go.Av.Heap.Le, Go.Av.Heap.set, Go.Av.Heap.del] at * <;> grind)
       ·have l : ltS a.t[i - 1].v a.t[i].v = false := by simpa using l
        have lb : Op.bytesLess a.t[i - 1].v.data.toList a.t[i].v.data.toList = false := l
        rw [bad (by rw [hok, n1, e2 hj, l, decide_eq_false n2]; rfl)] at h
        repeat' (first | with_reducible refine And.intro ?_ ?_ | simp only [go_sem,seval, hkd, e1, n1, Rw_at _ _ hlt, Rw_get _ _ hlt, c0, w1, w2, z0, ek, hji, Rw_at _ _ hj, Rw_get _ _ hj, bs_geq, lb, Bool.not_true, Bool.not_false, decide_true, decide_false] | simp (disch := omega) only [wrap64, Rw_at] | simp (disch := first | omega | grind) only [heap_ne_] | intro hx_ | with_reducible refine rName_a _ hst _ ?_ | omega)
        exact Fin.less (by simp only [Go.Av.Heap.Le, Go.Av.Heap.set, Go.Av.Heap.del] at * <;> grind) h
  ·have n1 : nameB (B a.t[i].v) = false := by simpa using n1
   rw [bad (by rw [hok, n1]; rfl)] at h
   repeat' (first | with_reducible refine And.intro ?_ ?_ | simp only [go_sem,seval, hkd, e1, n1, Rw_at _ _ hlt, Rw_get _ _ hlt, Bool.not_true, Bool.not_false, decide_true, decide_false] | simp (disch := omega) only [wrap64, Rw_at] | simp (disch := first | omega | grind) only [heap_ne_] | intro hx_ | with_reducible refine rName_a _ hst _ ?_ | omega)
   exact Fin.less (by simp only [Go.Av.Heap.Le, Go.Av.Heap.set, Go.Av.Heap.del] at * <;> grind) h
 ·have hkd : decide ((i : Int) < a.t.length) = false := decide_eq_false (by omega)
  have hie : i = a.t.length := by omega
  subst hie
  have hv : validL a = true := by
   unfold validL termsOk within
   rw [hall, decide_eq_true (show a.t.length ≤ 12 by omega), decide_eq_true (show -1099511627776 ≤ a.k by omega), decide_eq_true (show a.k ≤ 1099511627776 by omega)]; rfl
  rw [hv] at h
  repeat' (first | with_reducible refine And.intro ?_ ?_ | simp only [go_sem,seval, hkd, e1] | simp (disch := omega) only [wrap64, Rw_at] | simp (disch := first | omega | grind) only [heap_ne_] | intro hx_ | omega)
  exact Fin.less (by simp only [Go.Av.Heap.Le, Go.Av.Heap.set, Go.Av.Heap.del] at * <;> grind) h
end Go.Proofs.YtacekpdodelnbaaGreatDoor
end
section
set_option maxRecDepth 20000
namespace Go.Lin
open Go Go.Av Go.Lexs
end Go.Lin
namespace Go.Proofs.YtacekpdodelnbaaGreatDoor
open Go Go.Av Go.Lexs Go.Lin
attribute [local irreducible] ACalls at8
theorem size_a {Q} (n : Int) (h0 : -9223372036854775807 ≤ n) (h1 : n ≤ 9223372036854775807) (H : Heap) (h : Q (.int .i64 ((n.natAbs : Nat) : Int)) H) : ACalls Tryz.prog 67 [.int .i64 n] H Q := by
 refine acalls_of_wp [] Tryz.mixed Tryz.func67 rfl (by kernel_rfl) (of_decide_eq_true (by kernel_rfl)) (by kernel_rfl) ?_
 simp only [go_sem,seval, Tryz.results67]
 have w : IntKind.i64.wrap (0 - n) = -n := by rw [wrap64 (by omega) (by omega)]; omega
 have e : (if n < -n then -n else n) = ((n.natAbs : Nat) : Int) := by split <;> omega
 repeat' (first | with_reducible refine And.intro ?_ ?_ | simp only [go_sem,seval, w, e] | simp (disch := omega) only [wrap64] | intro hx_ | omega)
 exact Fin.same h
end Go.Proofs.YtacekpdodelnbaaGreatDoor
end
section
set_option maxRecDepth 20000
namespace Go.Lin
open Go Go.Av Go.Lexs
end Go.Lin
namespace Go.Proofs.YtacekpdodelnbaaGreatDoor
open Go Go.Av Go.Lexs Go.Lin
attribute [local irreducible] ACalls at8
theorem fits1 {c : LinV} (fc : LinFit c) : ∀ x ∈ [c], LinFit x := fun x hx => by rw [List.mem_singleton] at hx; rw [hx]; exact fc
end Go.Proofs.YtacekpdodelnbaaGreatDoor
end
section
set_option maxRecDepth 20000
namespace Go.Lin
open Go Go.Av Go.Lexs
end Go.Lin
namespace Go.Proofs.YtacekpdodelnbaaGreatDoor
open Go Go.Av Go.Lexs Go.Lin
attribute [local irreducible] ACalls at8
theorem rSameL_a {Q} (a : LinV) (hlen : a.t.length ≤ 12) (H : Heap) (h : Q (.bool true) H) : ACalls Tryz.prog 27 [.agg (linC a), .agg (linC a)] H Q := by
 refine acalls_of_wp [(6, .par)] Tryz.mixed Tryz.func27 rfl (by kernel_rfl) (of_decide_eq_true (by kernel_rfl)) (by kernel_rfl) ?_
 simp only [go_sem,seval, Tryz.results27]
 intro b2 g2 b3 g3
 simp only [set_none] at g3
 have e2 : ((H.set b2 (.box (linC a))).set b3 (.box (linC a))) b2 = some (.box (linC a)) := by rw [heap_ne _ g3.1.symm, heap_same]
 have e3 : ((H.set b2 (.box (linC a))).set b3 (.box (linC a))) b3 = some (.box (linC a)) := heap_same _ _
 have hle : H.Le ((H.set b2 (.box (linC a))).set b3 (.box (linC a))) := (heap_le_set g2).trans (heap_le_set (by simp only [set_none]; exact g3))
 generalize (H.set b2 (.box (linC a))).set b3 (.box (linC a)) = Bs at e2 e3 hle ⊢
 have m2 : b2 ∈ [b2, b3] := by simp
 have m3 : b3 ∈ [b2, b3] := by simp
 obtain ⟨T, K, E⟩ := a
 have hlen : T.length ≤ 12 := hlen
 have hee : (E == E) = true := by cases E <;> rfl
 repeat' (first | with_reducible refine And.intro ?_ ?_ | simp only [go_sem,seval, e2, e3, hee] | simp (disch := omega) only [wrap64, Rw_at] | (intro hx_; try simp only [set_none] at hx_) | omega)
 refine loop_c [2, 3, 29] (fun (i : Nat) => [(30, .int .i64 i)]) (fun (i : Nat) => Bs) (fun (i : Nat) => i ≤ T.length) (fun (i : Nat) => T.length - i) (0) (Nat.zero_le _) (by (try simp only [go_sem,seval]) <;> (try simp (disch := omega) [wrap64]) <;> (try omega)) (by first | with_reducible exact Heap.Le.refl _ | exact heap_set_le (by assumption) | exact Heap.Le.refl _ | exact heap_le_set (by assumption) | exact (by simp only [Go.Av.Heap.Le, Go.Av.Heap.set, Go.Av.Heap.del] at * <;> grind)) ?_
 rintro Ec rfl i hi
 by_cases hlt : i < T.length
 ·have hkd : decide ((i : Int) < T.length) = true := decide_eq_true (by omega)
  have hti : (i : Int) < T.length := by omega
  repeat' (first | with_reducible refine And.intro ?_ ?_ | simp only [go_sem,seval, hkd, hti, Rw_at _ _ hlt, Rw_get _ _ hlt] | simp (disch := omega) only [wrap64, Rw_at] | (intro hx_; try simp only [set_none] at hx_) | omega)
  refine par_mk (fun i' => .undef) [b2, b3] ?_
  repeat' (first | with_reducible refine And.intro ?_ ?_ | simp only [go_sem,seval, hkd, hti, Rw_at _ _ hlt, Rw_get _ _ hlt, e2, e3, m2, m3] | simp (disch := omega) only [wrap64, Rw_at] | (intro hx_; try simp only [set_none] at hx_) | omega)
  exact nx_mk (i + 1) (by omega) (by omega) (by (try simp only [go_sem,seval]) <;> (try simp (disch := omega) [wrap64]) <;> (try omega)) (by simp only [Go.Av.Heap.Le, Go.Av.Heap.set, Go.Av.Heap.del] at * <;> grind)
 ·have hkd : decide ((i : Int) < T.length) = false := decide_eq_false (by omega)
  repeat' (first | with_reducible refine And.intro ?_ ?_ | simp only [go_sem,seval, hkd] | simp (disch := omega) only [wrap64, Rw_at] | (intro hx_; try simp only [set_none] at hx_) | omega)
  exact Fin.less hle h
end Go.Proofs.YtacekpdodelnbaaGreatDoor
end
section
set_option maxRecDepth 20000
namespace Go.Lin
open Go Go.Av Go.Lexs
theorem enc_digit (d : Nat) (h : d < 10) : Utf8.encode (48 + (d : Int)) = S [UInt8.ofNat (48 + d)] := by
 have key : ∀ d : Fin 10, Utf8.encode (48 + ((d.val : Nat) : Int)) = S [UInt8.ofNat (48 + d.val)] := by decide +kernel
 exact key ⟨d, h⟩
theorem terms_ne {l : List LTm} (h : ∀ t ∈ l, nameB (B t.v) = true) (h0 : l ≠ []) (f : Bool) : termsB f l ≠ [] := by
 cases l with
 | nil => exact absurd rfl h0
 | cons t l =>
  intro e
  rw [termsB] at e
  have e1 := (List.append_eq_nil_iff.1 e).1
  unfold termB at e1
  have e2 := (List.append_eq_nil_iff.1 (List.append_eq_nil_iff.1 e1).2).2
  exact name_ne (h t (List.mem_cons_self ..)) e2
end Go.Lin
namespace Go.Proofs.YtacekpdodelnbaaGreatDoor
open Go Go.Av Go.Lexs Go.Lin
attribute [local irreducible] ACalls at8
theorem digits_a (n : Nat) : ∀ {Q} (hn : n < 1000000000000000000) (H : Heap) (h : Q (.str (S (dec n))) H), ACalls Tryz.prog 74 [.int .i64 n] H Q := by
 induction n using Nat.strongRecOn with
 | ind n ih =>
 intro Q hn H h
 refine acalls_of_wp [] Tryz.mixed Tryz.func74 rfl (by kernel_rfl) (of_decide_eq_true (by kernel_rfl)) (by kernel_rfl) ?_
 simp only [go_sem,seval, Tryz.results74]
 have h10 : ¬ (10 : Int) = 0 := by decide
 have t1 : ((n : Nat) : Int).tmod 10 = ((n % 10 : Nat) : Int) := by rw [Int.tmod_eq_emod_of_nonneg (by omega)]; omega
 have t2 : ((n : Nat) : Int).tdiv 10 = ((n / 10 : Nat) : Int) := by rw [Int.tdiv_eq_ediv_of_nonneg (by omega)]; omega
 have w1 : IntKind.i64.wrap (48 + ((n % 10 : Nat) : Int)) = 48 + ((n % 10 : Nat) : Int) := wrap64 (by omega) (by omega)
 have w2 : IntKind.i64.wrap ((n / 10 : Nat) : Int) = ((n / 10 : Nat) : Int) := wrap64 (by omega) (by omega)
 have w3 : IntKind.i32.wrap (48 + ((n % 10 : Nat) : Int)) = 48 + ((n % 10 : Nat) : Int) := IntWalk.i32_in _ (by omega)
 have en := enc_digit (n % 10) (by omega)
 by_cases hlt : n < 10
 ·have g : ¬ (10 : Int) ≤ n := by omega
  rw [dec_lo hlt] at h
  have e10 : n % 10 = n := Nat.mod_eq_of_lt hlt
  rw [e10] at t1 w1 w3 en
  repeat' (first | with_reducible refine And.intro ?_ ?_ | simp only [go_sem,seval, h10, t1, w1, w3, en, g] | simp (disch := omega) only [wrap64] | intro hx_ | omega)
  exact Fin.same h
 ·have g : (10 : Int) ≤ n := by omega
  have dl := dec_len 17 (n / 10) (by omega)
  rw [dec_hi hlt] at h
  have es : S (dec (n / 10)) ++ S [UInt8.ofNat (48 + n % 10)] = S (dec (n / 10) ++ [UInt8.ofNat (48 + n % 10)]) := B_inj (by rw [B_app, B_S, B_S, B_S])
  repeat' (first | with_reducible refine And.intro ?_ ?_ | simp only [go_sem,seval, h10, t1, t2, w1, w2, w3, en, g] | simp (disch := omega) only [wrap64] | intro hx_ | with_reducible refine ih (n / 10) (by omega) (by omega) _ ?_ | omega)
  rw [es]
  exact Fin.same h
theorem bs_size {y : ByteArray} {l : List UInt8} (h : B y = l) : y.size = l.length := by rw [← B_len, h]
set_option maxHeartbeats 1000000 in
theorem rText_a {Q} (a : LinV) (fa : LinFit a) (H : Heap) (h : Q (.tuple [.str (if validL a = true then S (textB a) else S []), .int .i64 (if validL a = true then 0 else 2)]) H) : ACalls Tryz.prog 31 [.agg (linC a)] H Q := by
 refine acalls_of_wp [(7, .wk), (11, .wk), (20, .wk), (21, .wk)] Tryz.mixed Tryz.func31 rfl (by kernel_rfl) (of_decide_eq_true (by kernel_rfl)) (by kernel_rfl) ?_
 simp only [go_sem,seval, Tryz.results31]
 intro b2 g2
 have e2 : (H.set b2 (.box (linC a))) b2 = some (.box (linC a)) := heap_same _ _
 have hle : H.Le (H.set b2 (.box (linC a))) := heap_le_set g2
 generalize H.set b2 (.box (linC a)) = Bs at e2 hle ⊢
 by_cases c : validL a = true
 ·rw [if_pos c, if_pos c] at h
  have hlen := (valid_ok c).len
  have vt := valid_terms c
  have nb : ∀ t ∈ a.t, nameB (B t.v) = true := fun t ht => (okAt_mem (valid_ok c).t t ht).1
  have nm : ∀ t ∈ a.t, t.v.size ≤ 200 := fun t ht => name_size (nb t ht)
  have z45 : (⟨#[45]⟩ : ByteArray).size = 1 := rfl
  have z43 : (⟨#[43]⟩ : ByteArray).size = 1 := rfl
  have z42 : (⟨#[42]⟩ : ByteArray).size = 1 := rfl
  have z3 : (⟨#[62, 61, 48]⟩ : ByteArray).size = 3 := rfl
  have z2 : (⟨#[61, 48]⟩ : ByteArray).size = 2 := rfl
  repeat' (first | with_reducible refine And.intro ?_ ?_ | simp only [go_sem,seval, e2, c] | simp (disch := omega) only [wrap64, Rw_at] | intro hx_ | with_reducible refine rValid_a a fa _ ?_ | omega)
  refine loop_c [1, 11, 12] (fun (p : Nat × ByteArray × Heap) => [(13, .int .i64 p.1), (4, .str p.2.1)]) (fun (p : Nat × ByteArray × Heap) => p.2.2) (fun (p : Nat × ByteArray × Heap) => p.1 ≤ a.t.length ∧ B p.2.1 = termsB true (a.t.take p.1) ∧ p.2.1.size ≤ 1000 * p.1 ∧ Bs.Le p.2.2) (fun (p : Nat × ByteArray × Heap) => a.t.length - p.1) ((0, ⟨#[]⟩, Bs)) (⟨Nat.zero_le _, rfl, Nat.zero_le _, Heap.Le.refl _⟩) (by (try simp only [go_sem,seval]) <;> (try simp (disch := omega) [wrap64]) <;> (try omega)) (by first | with_reducible exact Heap.Le.refl _ | exact heap_set_le (by assumption) | exact Heap.Le.refl _ | exact heap_le_set (by assumption) | exact (by simp only [Go.Av.Heap.Le, Go.Av.Heap.set, Go.Av.Heap.del] at * <;> grind)) ?_
  rintro Ec rfl ⟨i, x, Hp⟩ ⟨hi, hX, hXl, hp⟩
  simp only at hi hX hXl hp
  by_cases hlt : i < a.t.length
  ·have hkd : decide ((i : Int) < a.t.length) = true := decide_eq_true (by omega)
   have hti : (i : Int) < a.t.length := by omega
   obtain ⟨x0, x1⟩ := vt _ (List.getElem_mem hlt)
   have hnm := nm _ (List.getElem_mem hlt)
   have tk : termsB true (a.t.take (i + 1)) = termsB true (a.t.take i) ++ termB (decide (i = 0)) a.t[i] := by rw [List.take_succ_eq_append_getElem hlt, termsB_snoc, take_emp _ _ hlt, Bool.true_and]
   obtain ⟨y, hy⟩ : ∃ y, B y = B x ++ (if a.t[i].c < 0 then [45] else if decide (i = 0) = true then [] else [43]) := ⟨S _, B_S _⟩
   have hyl : y.size ≤ x.size + 1 := by
    rw [bs_size hy, List.length_append, B_len]
    split
    ·simp
    ·split <;> simp
   repeat' (first | with_reducible refine And.intro ?_ ?_ | simp only [go_sem,seval, hkd, hti, Rw_at _ _ hlt, Rw_get _ _ hlt] | simp (disch := omega) only [wrap64, Rw_at] | intro hx_ | omega)
   rename_i b6
   have h6 := hx_
   clear hx_
   have e6 : (Hp.set b6 (.box (ltC a.t[i]))) b6 = some (.box (ltC a.t[i])) := heap_same _ _
   have hp6 := hp.trans (heap_le_set (o := .box (ltC a.t[i])) h6)
   generalize Hp.set b6 (.box (ltC a.t[i])) = Hq at e6 hp6 ⊢
   apply tail_join (C := True)
   ·intro hJ
    by_cases q1 : a.t[i].c < 0
    ·have ey : x ++ ⟨#[45]⟩ = y := B_inj (by rw [B_app, hy, if_pos q1]; rfl)
     refine wk_mk [(1, .box b2 0), (4, .str x), (5, .int .i64 i), (6, .box b6 0), (11, .sl 2 (Rw ltC a.t)), (12, .int .i64 a.t.length), (13, .int .i64 i)] Hq (by (try simp only [go_sem,seval]) <;> (try simp (disch := omega) [wrap64]) <;> (try omega)) (Heap.Le.refl _) ?_
     repeat' (first | with_reducible refine And.intro ?_ ?_ | simp only [go_sem,seval, e6, q1] | simp (disch := omega) only [wrap64, Rw_at] | intro hx_ | omega)
     exact wk_mk [(1, .box b2 0), (4, .str y), (6, .box b6 0), (11, .sl 2 (Rw ltC a.t)), (12, .int .i64 a.t.length), (13, .int .i64 i)] Hq (by (try simp only [go_sem,seval, ey]) <;> (try simp (disch := omega) [wrap64]) <;> (try omega)) (Heap.Le.refl _) (hJ trivial)
    ·by_cases q3 : (0 : Int) < i
     ·have ey : x ++ ⟨#[43]⟩ = y := B_inj (by rw [B_app, hy, if_neg q1, if_neg (by simp; omega)]; rfl)
      refine wk_mk [(1, .box b2 0), (4, .str x), (5, .int .i64 i), (6, .box b6 0), (11, .sl 2 (Rw ltC a.t)), (12, .int .i64 a.t.length), (13, .int .i64 i)] Hq (by (try simp only [go_sem,seval]) <;> (try simp (disch := omega) [wrap64]) <;> (try omega)) (Heap.Le.refl _) ?_
      repeat' (first | with_reducible refine And.intro ?_ ?_ | simp only [go_sem,seval, e6, q1, q3] | simp (disch := omega) only [wrap64, Rw_at] | intro hx_ | omega)
      exact wk_mk [(1, .box b2 0), (4, .str y), (6, .box b6 0), (11, .sl 2 (Rw ltC a.t)), (12, .int .i64 a.t.length), (13, .int .i64 i)] Hq (by (try simp only [go_sem,seval, ey]) <;> (try simp (disch := omega) [wrap64]) <;> (try omega)) (Heap.Le.refl _) (hJ trivial)
     ·have ey : x = y := B_inj (by rw [hy, if_neg q1, if_pos (by simp; omega), List.append_nil])
      refine wk_mk [(1, .box b2 0), (4, .str x), (5, .int .i64 i), (6, .box b6 0), (11, .sl 2 (Rw ltC a.t)), (12, .int .i64 a.t.length), (13, .int .i64 i)] Hq (by (try simp only [go_sem,seval]) <;> (try simp (disch := omega) [wrap64]) <;> (try omega)) (Heap.Le.refl _) ?_
      repeat' (first | with_reducible refine And.intro ?_ ?_ | simp only [go_sem,seval, e6, q1, q3] | simp (disch := omega) only [wrap64, Rw_at] | intro hx_ | omega)
      exact wk_mk [(1, .box b2 0), (4, .str y), (6, .box b6 0), (11, .sl 2 (Rw ltC a.t)), (12, .int .i64 a.t.length), (13, .int .i64 i)] Hq (by (try simp only [go_sem,seval, ey]) <;> (try simp (disch := omega) [wrap64]) <;> (try omega)) (Heap.Le.refl _) (hJ trivial)
   intro _
   have tB : B y ++ ((if a.t[i].c.natAbs = 1 then [] else dec a.t[i].c.natAbs ++ [42]) ++ B a.t[i].v) = termsB true (a.t.take (i + 1)) := by
    rw [tk, hy, hX]; unfold termB; simp only [List.append_assoc]
   have szc : ∀ (H : Heap) (Q : D → Heap → Prop), Q (.int .i64 ((a.t[i].c.natAbs : Nat) : Int)) H → ACalls Tryz.prog 67 [.int .i64 a.t[i].c] H Q := fun H Q hq => size_a _ (by omega) (by omega) H hq
   obtain ⟨m, hm⟩ : ∃ m, m = a.t[i].c.natAbs := ⟨_, rfl⟩
   rw [← hm] at szc tB
   by_cases q2 : m = 1
   ·have q2i : ((m : Nat) : Int) = 1 := by omega
    rw [if_pos q2, List.nil_append] at tB
    repeat' (first | with_reducible refine And.intro ?_ ?_ | simp only [go_sem,seval, e6, q2i] | simp (disch := omega) only [wrap64, Rw_at] | intro hx_ | with_reducible refine szc _ _ ?_ | omega)
    exact nx_mk (i + 1, y ++ a.t[i].v, Hq) ⟨by simp only []; omega, by simp only [B_app]; exact tB, by simp only [ByteArray.size_append]; omega, hp6⟩ (by simp only []; omega) (by (try simp only [go_sem,seval]) <;> (try simp (disch := omega) [wrap64]) <;> (try omega)) (Heap.Le.refl _)
   ·have q2i : ¬ ((m : Nat) : Int) = 1 := by omega
    have dl := dec_len 18 m (by omega)
    rw [if_neg q2] at tB
    repeat' (first | with_reducible refine And.intro ?_ ?_ | simp only [go_sem,seval, e6, q2i] | simp (disch := omega) only [wrap64, Rw_at] | intro hx_ | with_reducible refine szc _ _ ?_ | with_reducible refine digits_a m (by omega) _ ?_ | omega)
    refine nx_mk (i + 1, y ++ (S (dec m) ++ ⟨#[42]⟩) ++ a.t[i].v, Hq) ⟨by simp only []; omega, ?_, by simp only [ByteArray.size_append, S_size, z42]; omega, hp6⟩ (by simp only []; omega) (by (try simp only [go_sem,seval]) <;> (try simp (disch := omega) [wrap64]) <;> (try omega)) (Heap.Le.refl _)
    simp only [B_app, B_S]
    rw [← tB]; simp [B_lit]
  ·have hkd : decide ((i : Int) < a.t.length) = false := decide_eq_false (by omega)
   have hie : i = a.t.length := by omega
   subst hie
   have e2p := hp _ _ e2
   rw [List.take_length] at hX
   have vk := (valid_ok c).k
   obtain ⟨y, hy⟩ : ∃ y, B y = bodyB a := ⟨S _, B_S _⟩
   obtain ⟨m, hm⟩ : ∃ m, m = a.k.natAbs := ⟨_, rfl⟩
   have dl := dec_len 18 m (by omega)
   have hx0 : B x = [] ↔ a.t = [] := by
    rw [hX]
    constructor
    ·intro e; by_cases t0 : a.t = []
     ·exact t0
     ·exact absurd e (terms_ne nb t0 true)
    ·intro e; rw [e]; rfl
   have hyl : y.size ≤ 13000 := by
    rw [bs_size hy]; unfold bodyB constB konB
    rw [List.length_append, ← hX, B_len]
    split
    ·rw [List.length_append, ← hm]; split
     ·simp only [List.length_cons, List.length_nil]; omega
     ·split <;> simp only [List.length_cons, List.length_nil] <;> omega
    ·simp only [List.length_nil]; omega
   have szc : ∀ (H : Heap) (Q : D → Heap → Prop), Q (.int .i64 ((m : Nat) : Int)) H → ACalls Tryz.prog 67 [.int .i64 a.k] H Q := fun H Q hq => size_a _ (by omega) (by omega) H (by rw [← hm]; exact hq)
   apply tail_join (C := True)
   ·intro hJ
    by_cases k0 : a.k ≠ 0 ∨ a.t = []
    ·obtain ⟨w, hw⟩ : ∃ w, B w = B x ++ (if a.k < 0 then [45] else if a.t.isEmpty = true then [] else [43]) := ⟨S _, B_S _⟩
     have hwl : w.size ≤ x.size + 1 := by
      rw [bs_size hw, List.length_append, B_len]
      split
      ·simp
      ·split <;> simp
     have ewy : w ++ S (dec m) = y := B_inj (by
      rw [B_app, B_S, hy, hw, hX, hm]; unfold bodyB constB konB
      rw [if_pos k0.symm]; simp only [List.append_assoc])
     apply tail_join (C := True)
     ·intro hK
      by_cases k1 : a.k < 0
      ·have ew : x ++ ⟨#[45]⟩ = w := B_inj (by rw [B_app, hw, if_pos k1]; rfl)
       have k2 : ¬ a.k = 0 := by omega
       repeat' (first | with_reducible refine And.intro ?_ ?_ | simp only [go_sem,seval, hkd, e2p, k1, k2] | simp (disch := omega) only [wrap64, Rw_at] | intro hx_ | omega)
       exact wk_mk [(1, .box b2 0), (4, .str w)] Hp (by (try simp only [go_sem,seval, ew]) <;> (try simp (disch := omega) [wrap64]) <;> (try omega)) (Heap.Le.refl _) (hK trivial)
      ·by_cases t0 : a.t = []
       ·have ew : x = w := B_inj (by rw [hw, if_neg k1, if_pos (by rw [t0]; rfl), List.append_nil])
        have bx := hx0.2 t0
        by_cases k2 : a.k = 0
        ·repeat' (first | with_reducible refine And.intro ?_ ?_ | simp only [go_sem,seval, hkd, e2p, k1, k2, bx] | simp (disch := omega) only [wrap64, Rw_at] | intro hx_ | omega)
         exact wk_mk [(1, .box b2 0), (4, .str w)] Hp (by (try simp only [go_sem,seval, ew]) <;> (try simp (disch := omega) [wrap64]) <;> (try omega)) (Heap.Le.refl _) (hK trivial)
        ·repeat' (first | with_reducible refine And.intro ?_ ?_ | simp only [go_sem,seval, hkd, e2p, k1, k2, bx] | simp (disch := omega) only [wrap64, Rw_at] | intro hx_ | omega)
         exact wk_mk [(1, .box b2 0), (4, .str w)] Hp (by (try simp only [go_sem,seval, ew]) <;> (try simp (disch := omega) [wrap64]) <;> (try omega)) (Heap.Le.refl _) (hK trivial)
       ·have k2 : ¬ a.k = 0 := k0.resolve_right t0
        have ew : x ++ ⟨#[43]⟩ = w := B_inj (by rw [B_app, hw, if_neg k1, if_neg (by simpa using t0)]; rfl)
        have bx : ¬ B x = [] := fun e => t0 (hx0.1 e)
        repeat' (first | with_reducible refine And.intro ?_ ?_ | simp only [go_sem,seval, hkd, e2p, k1, k2, bx] | simp (disch := omega) only [wrap64, Rw_at] | intro hx_ | omega)
        exact wk_mk [(1, .box b2 0), (4, .str w)] Hp (by (try simp only [go_sem,seval, ew]) <;> (try simp (disch := omega) [wrap64]) <;> (try omega)) (Heap.Le.refl _) (hK trivial)
     intro _
     repeat' (first | with_reducible refine And.intro ?_ ?_ | simp only [go_sem,seval, e2p] | simp (disch := omega) only [wrap64, Rw_at] | intro hx_ | with_reducible refine szc _ _ ?_ | with_reducible refine digits_a m (by omega) _ ?_ | omega)
     exact wk_mk [(1, .box b2 0), (4, .str y)] Hp (by (try simp only [go_sem,seval, ewy]) <;> (try simp (disch := omega) [wrap64]) <;> (try omega)) (Heap.Le.refl _) (hJ trivial)
    ·have k2 : a.k = 0 := by
      by_cases z : a.k = 0
      ·exact z
      ·exact absurd (.inl z) k0
     have t0 : ¬ a.t = [] := fun e => k0 (.inr e)
     have bx : ¬ B x = [] := fun e => t0 (hx0.1 e)
     have exy : x = y := B_inj (by rw [hy, hX]; unfold bodyB constB; rw [if_neg (by rintro (g | g); exact t0 g; exact g k2), List.append_nil])
     repeat' (first | with_reducible refine And.intro ?_ ?_ | simp only [go_sem,seval, hkd, e2p, k2, bx] | simp (disch := omega) only [wrap64, Rw_at] | intro hx_ | omega)
     exact wk_mk [(1, .box b2 0), (4, .str y)] Hp (by (try simp only [go_sem,seval, exy]) <;> (try simp (disch := omega) [wrap64]) <;> (try omega)) (Heap.Le.refl _) (hJ trivial)
   intro _
   have ht : B y ++ (if a.e = true then [61, 48] else [62, 61, 48]) = textB a := by rw [hy]; rfl
   by_cases ae : a.e = true
   ·have hs : S (textB a) = y ++ ⟨#[61, 48]⟩ := B_inj (by rw [B_S, B_app, ← ht, if_pos ae]; rfl)
    rw [hs] at h
    repeat' (first | with_reducible refine And.intro ?_ ?_ | simp only [go_sem,seval, e2p, ae] | simp (disch := omega) only [wrap64, Rw_at] | intro hx_ | omega)
    exact Fin.less (hle.trans hp) h
   ·have hs : S (textB a) = y ++ ⟨#[62, 61, 48]⟩ := B_inj (by rw [B_S, B_app, ← ht, if_neg ae]; rfl)
    have ae : a.e = false := by simpa using ae
    rw [hs] at h
    repeat' (first | with_reducible refine And.intro ?_ ?_ | simp only [go_sem,seval, e2p, ae] | simp (disch := omega) only [wrap64, Rw_at] | intro hx_ | omega)
    exact Fin.less (hle.trans hp) h
 ·rw [if_neg c, if_neg c] at h
  have c : validL a = false := by simpa using c
  repeat' (first | with_reducible refine And.intro ?_ ?_ | simp only [go_sem,seval, e2, c] | simp (disch := omega) only [wrap64, Rw_at] | intro hx_ | with_reducible refine rValid_a a fa _ ?_ | omega)
  exact Fin.less hle h
end Go.Proofs.YtacekpdodelnbaaGreatDoor
end
section
set_option maxRecDepth 20000
namespace Go.Lin
open Go Go.Av Go.Lexs
theorem numF_snoc (l : List UInt8) (k : Nat) (h : k < l.length) : numF (l.take (k + 1)) = 10 * numF (l.take k) + nth l k - 48 := by
 unfold numF
 rw [List.take_succ_eq_append_getElem h, List.foldl_append, nth_get h]; rfl
theorem numF_abs (l : List UInt8) : ∀ k, k ≤ l.length → (numF (l.take k)).natAbs + 23 ≤ 23 * 10 ^ k
 | 0, _ => by simp [numF]
 | k + 1, h => by
  have ih := numF_abs l k (by omega)
  have hr := nth_range l k
  rw [numF_snoc l k (by omega), Nat.pow_succ]
  omega
theorem numF_14 (l : List UInt8) (k : Nat) (h : k ≤ l.length) (h2 : k ≤ 14) : (numF (l.take k)).natAbs ≤ 2300000000000000 := by
 have := numF_abs l k h
 have h3 : 10 ^ k ≤ 10 ^ 14 := Nat.pow_le_pow_right (by decide) h2
 omega
theorem numR_abs (l : List UInt8) : (numR l).natAbs ≤ 2300000000000000 := by
 unfold numR
 by_cases h : 14 ≤ l.length
 ·exact numF_14 l 14 h (by decide)
 ·have := numF_14 l l.length (Nat.le_refl _) (by omega)
  rwa [List.take_length, ← List.take_of_length_le (show l.length ≤ 14 by omega)] at this
theorem numR_of (l : List UInt8) (k : Nat) (h : k ≤ l.length) (h2 : k ≤ 14) (h3 : k = 14 ∨ k = l.length) : numF (l.take k) = numR l := by
 unfold numR
 rcases h3 with rfl | rfl
 ·rfl
 ·rw [List.take_length, List.take_of_length_le h2]
def remR (a : LinV) (l : List UInt8) : LinV := addAll a ((pieces l).map pieceR)
theorem remR_nil (a : LinV) : remR a [] = a := by unfold remR; rw [pieces_nil]; rfl
theorem remR_cons (a : LinV) (x : UInt8) (r : List UInt8) : remR a (x :: r) = remR (addP a (pieceR (x :: r.takeWhile (!sgn ·)))) (r.dropWhile (!sgn ·)) := by
 unfold remR; rw [pieces_cons, List.map_cons]; rfl
theorem parseO_R (s : List UInt8) : parseO s = if validL (readR s) = true ∧ textB (readR s) = s then (readR s, 0) else (nilL, 30) := by
 unfold parseO; rw [parseL_R]; split <;> rename_i h <;> split at h <;> simp_all
def cutR (b : List UInt8) : Int × List UInt8 := match cutS b with
 | some (c, n) => (numR c, n)
 | none => (1, b)
def numQ (p : Int × List UInt8) : Int × List UInt8 := if p.2 = [] ∨ headDigit p.2 = true then (numR p.2, []) else p
theorem pieceR_eq (x : List UInt8) : pieceR x = ((numQ (cutR (bodyR x).2)).2, if (bodyR x).1 = true then -(numQ (cutR (bodyR x).2)).1 else (numQ (cutR (bodyR x).2)).1) := by
 unfold pieceR numQ cutR; rfl
theorem cutR_abs (b : List UInt8) : (cutR b).1.natAbs ≤ 2300000000000000 ∧ (cutR b).2.length ≤ b.length := by
 unfold cutR
 cases h : cutS b with
 | none => simp
 | some p =>
  obtain ⟨c, n⟩ := p
  obtain ⟨_, c2, _, c4⟩ := cutS_yes h
  refine ⟨numR_abs c, ?_⟩
  simp only []; rw [← c4, List.length_drop]; omega
theorem numQ_abs {p : Int × List UInt8} (h : p.1.natAbs ≤ 2300000000000000) : (numQ p).1.natAbs ≤ 2300000000000000 ∧ (numQ p).2.length ≤ p.2.length := by
 unfold numQ; split
 ·exact ⟨numR_abs _, Nat.zero_le _⟩
 ·exact ⟨h, Nat.le_refl _⟩
theorem bodyR_len (c : UInt8) (r : List UInt8) : (bodyR (c :: r)).2.length ≤ r.length + 1 := by
 unfold bodyR; simp only []
 split
 ·simp
 ·split <;> simp
theorem nth_eq_iff {l : List UInt8} {k : Nat} (h : k < l.length) (b : UInt8) : nth l k = (b.toNat : Int) ↔ l[k] = b := by
 rw [nth_get h]
 constructor
 ·intro e; apply UInt8.toNat_inj.1; omega
 ·rintro rfl; rfl
end Go.Lin
namespace Go.Proofs.YtacekpdodelnbaaGreatDoor
open Go Go.Av Go.Lexs Go.Lin
attribute [local irreducible] ACalls at8
theorem number_a {Q} (l : List UInt8) (hl : l.length ≤ 1000000000) (H : Heap) (h : Q (.int .i64 (numR l)) H) : ACalls Tryz.prog 79 [.str (S l)] H Q := by
 refine acalls_of_wp [(6, .wk)] Tryz.mixed Tryz.func79 rfl (by kernel_rfl) (of_decide_eq_true (by kernel_rfl)) (by kernel_rfl) ?_
 simp only [go_sem,seval, Tryz.results79]
 refine loop_c [0] (fun (p : Nat × Int) => [(3, .int .i64 p.2), (4, .int .i64 p.1)]) (fun (p : Nat × Int) => H) (fun (p : Nat × Int) => p.1 ≤ l.length ∧ p.1 ≤ 14 ∧ p.2 = numF (l.take p.1)) (fun (p : Nat × Int) => l.length - p.1) ((0, 0)) (⟨Nat.zero_le _, Nat.zero_le _, rfl⟩) (by (try simp only [go_sem,seval]) <;> (try simp (disch := omega) [wrap64]) <;> (try omega)) (by first | with_reducible exact Heap.Le.refl _ | exact heap_set_le (by assumption) | exact Heap.Le.refl _ | exact heap_le_set (by assumption) | exact (by simp only [Go.Av.Heap.Le, Go.Av.Heap.set, Go.Av.Heap.del] at * <;> grind)) ?_
 rintro Ec rfl ⟨i, v⟩ ⟨hi, h14, hv⟩
 simp only at hi h14 hv
 have hb := numF_14 l i hi h14
 rw [← hv] at hb
 by_cases hlt : i < l.length
 ·have hkd : decide ((i : Int) < l.length) = true := decide_eq_true (by omega)
  have hki : (i : Int) < l.length := by omega
  by_cases h2 : i < 14
  ·have k2 : decide ((i : Int) < 14) = true := decide_eq_true (by omega)
   have hr := nth_range l i
   have w1 : IntKind.i64.wrap (10 * v) = 10 * v := wrap64 (by omega) (by omega)
   have w2 : IntKind.i64.wrap (nth l i) = nth l i := wrap64 (by omega) (by omega)
   have w3 : IntKind.i64.wrap (10 * v + nth l i) = 10 * v + nth l i := wrap64 (by omega) (by omega)
   have w4 : IntKind.i64.wrap (10 * v + nth l i - 48) = 10 * v + nth l i - 48 := wrap64 (by omega) (by omega)
   repeat' (first | with_reducible refine And.intro ?_ ?_ | simp only [go_sem,seval, hkd, hki, k2, w1, w2, w3, w4] | simp (disch := omega) only [wrap64] | intro hx_ | omega)
   exact nx_mk (i + 1, 10 * v + nth l i - 48) ⟨by simp only []; omega, by simp only []; omega, by simp only []; rw [numF_snoc l i hlt, hv]⟩ (by simp only []; omega) (by (try simp only [go_sem,seval]) <;> (try simp (disch := omega) [wrap64]) <;> (try omega)) (Heap.Le.refl _)
  ·have k2 : decide ((i : Int) < 14) = false := decide_eq_false (by omega)
   repeat' (first | with_reducible refine And.intro ?_ ?_ | simp only [go_sem,seval, hkd, hki, k2] | simp (disch := omega) only [wrap64] | intro hx_ | omega)
   refine wk_mk [(3, .int .i64 v)] H (by (try simp only [go_sem,seval]) <;> (try simp (disch := omega) [wrap64]) <;> (try omega)) (Heap.Le.refl _) ?_
   rw [hv, numR_of l i hi h14 (.inl (by omega))]
   repeat' (first | with_reducible refine And.intro ?_ ?_ | simp only [go_sem,seval] | simp (disch := omega) only [wrap64] | intro hx_ | omega)
   exact Fin.same h
 ·have hkd : decide ((i : Int) < l.length) = false := decide_eq_false (by omega)
  repeat' (first | with_reducible refine And.intro ?_ ?_ | simp only [go_sem,seval, hkd] | simp (disch := omega) only [wrap64] | intro hx_ | omega)
  refine wk_mk [(3, .int .i64 v)] H (by (try simp only [go_sem,seval]) <;> (try simp (disch := omega) [wrap64]) <;> (try omega)) (Heap.Le.refl _) ?_
  rw [hv, numR_of l i hi h14 (.inr (by omega))]
  repeat' (first | with_reducible refine And.intro ?_ ?_ | simp only [go_sem,seval] | simp (disch := omega) only [wrap64] | intro hx_ | omega)
  exact Fin.same h
set_option maxHeartbeats 4000000 in
theorem rParse_a {Q} (s : ByteArray) (hs : s.size ≤ 1000000000) (H : Heap) (h : Q (.tuple [.agg (linC (parseO (B s)).1), .int .i64 (parseO (B s)).2]) H) : ACalls Tryz.prog 33 [.str s] H Q := by
 refine acalls_of_wp [(5, .wk), (6, .wk), (11, .wk), (16, .wk), (21, .par), (22, .wk), (24, .wk), (26, .wk)] Tryz.mixed Tryz.func33 rfl (by kernel_rfl) (of_decide_eq_true (by kernel_rfl)) (by kernel_rfl) ?_
 simp only [go_sem,seval, Tryz.results33]
 have hl := B_len s
 intro b2 g2 b4 g4
 simp only [set_none] at g4
 have e2 : ((H.set b2 (.box [.nilsl, .int .i64 0, .bool false])).set b4 (.box [.nilsl, .int .i64 0, .bool false])) b2 = some (.box [.nilsl, .int .i64 0, .bool false]) := by rw [heap_ne _ g4.1.symm, heap_same]
 have hle : H.Le (H.set b2 (.box [.nilsl, .int .i64 0, .bool false])) := heap_le_set g2
 have e2' : (H.set b2 (.box [.nilsl, .int .i64 0, .bool false])) b2 = some (.box [.nilsl, .int .i64 0, .bool false]) := heap_same _ _
 have h4 : (H.set b2 (.box [.nilsl, .int .i64 0, .bool false])) b4 = none := by simp only [set_none]; exact g4
 generalize H.set b2 (.box [.nilsl, .int .i64 0, .bool false]) = Bs at e2 e2' hle h4 ⊢
 obtain ⟨l, hB⟩ : ∃ l, l = B s := ⟨_, rfl⟩
 have hll : l.length = s.size := by rw [hB, hl]
 rw [← hB] at h
 have hat : ∀ k : Nat, at8 s (k : Int) = nth l k := fun k => by rw [at8_nth, hB]; rfl
 -- the end of the body
 refine loop_c [0, 2, 4] (fun (n : Nat) => [(5, .int .i64 n)]) (fun (n : Nat) => Bs.set b4 (.box [.nilsl, .int .i64 0, .bool false])) (fun (n : Nat) => n ≤ l.length ∧ ∀ c ∈ l.take n, stopB c = false) (fun (n : Nat) => l.length - n) (0) (⟨Nat.zero_le _, by simp⟩) (by (try simp only [go_sem,seval]) <;> (try simp (disch := omega) [wrap64]) <;> (try omega)) (by first | with_reducible exact Heap.Le.refl _ | exact heap_set_le (by assumption) | exact Heap.Le.refl _ | exact heap_le_set (by assumption) | exact (by simp only [Go.Av.Heap.Le, Go.Av.Heap.set, Go.Av.Heap.del] at * <;> grind)) ?_
 rintro Ec rfl n ⟨hn, hall⟩
 apply tail_join (C := ∀ h : n < l.length, stopB l[n] = true)
 ·intro hJ
  have hw : IntKind.i64.wrap ((n : Int) + 1) = (n : Int) + 1 := wrap64 (by omega) (by omega)
  have hn0 := hat n
  by_cases hlt : n < l.length
  ·have hkd : decide ((n : Int) < s.size) = true := decide_eq_true (by omega)
   have hti : (n : Int) < s.size := by omega
   by_cases q1 : nth l n = 61
   ·repeat' (first | with_reducible refine And.intro ?_ ?_ | simp only [go_sem,seval, hkd, hti, hn0, q1, decide_true, decide_false, Bool.not_true] | simp (disch := omega) only [wrap64] | (intro hx_; try simp only [set_none] at hx_) | omega)
    exact wk_mk [(0, .str s), (2, .box b2 0), (4, .box b4 0), (5, .int .i64 n)] _ (by (try simp only [go_sem,seval]) <;> (try simp (disch := omega) [wrap64]) <;> (try omega)) (Heap.Le.refl _) (hJ fun _ => by rw [(nth_eq_iff hlt 61).1 q1]; rfl)
   ·by_cases q2 : nth l n = 62
    ·repeat' (first | with_reducible refine And.intro ?_ ?_ | simp only [go_sem,seval, hkd, hti, hn0, q1, q2, decide_true, decide_false, Bool.not_false, Bool.not_true] | simp (disch := omega) only [wrap64] | (intro hx_; try simp only [set_none] at hx_) | omega)
     exact wk_mk [(0, .str s), (2, .box b2 0), (4, .box b4 0), (5, .int .i64 n)] _ (by (try simp only [go_sem,seval]) <;> (try simp (disch := omega) [wrap64]) <;> (try omega)) (Heap.Le.refl _) (hJ fun _ => by rw [(nth_eq_iff hlt 62).1 q2]; rfl)
    ·have hst : stopB l[n] = false := by
      unfold stopB
      simp only [Bool.or_eq_false_iff, beq_eq_false_iff_ne]
      exact ⟨fun e => q1 ((nth_eq_iff hlt 61).2 e), fun e => q2 ((nth_eq_iff hlt 62).2 e)⟩
     repeat' (first | with_reducible refine And.intro ?_ ?_ | simp only [go_sem,seval, hkd, hti, hn0, q1, q2, decide_false, Bool.not_false, hw] | simp (disch := omega) only [wrap64] | (intro hx_; try simp only [set_none] at hx_) | omega)
     exact nx_mk (n + 1) ⟨by omega, take_snoc_all hlt hall hst⟩ (by omega) (by (try simp only [go_sem,seval]) <;> (try simp (disch := omega) [wrap64]) <;> (try omega)) (by simp only [Go.Av.Heap.Le, Go.Av.Heap.set, Go.Av.Heap.del] at * <;> grind)
  ·have hkd : decide ((n : Int) < s.size) = false := decide_eq_false (by omega)
   repeat' (first | with_reducible refine And.intro ?_ ?_ | simp only [go_sem,seval, hkd] | simp (disch := omega) only [wrap64] | (intro hx_; try simp only [set_none] at hx_) | omega)
   exact wk_mk [(0, .str s), (2, .box b2 0), (4, .box b4 0), (5, .int .i64 n)] _ (by (try simp only [go_sem,seval]) <;> (try simp (disch := omega) [wrap64]) <;> (try omega)) (Heap.Le.refl _) (hJ fun h => absurd h hlt)
 intro hend
 obtain ⟨tw, dw⟩ := run_end (p := (!stopB ·)) l n hn (fun c hc => by rw [hall c hc]; rfl) (fun h => by rw [hend h]; rfl)
 obtain ⟨eqv, heq⟩ : ∃ eqv, eqv = decide ((l.drop n).head? = some 61) := ⟨_, rfl⟩
 have hR : readR l = remR ⟨[], 0, eqv⟩ (l.take n) := by unfold readR remR; rw [tw, dw, ← heq]
 apply tail_join (C := True)
 ·intro hJ
  have hn0 := hat n
  by_cases hlt : n < l.length
  ·have hkd : decide ((n : Int) < s.size) = true := decide_eq_true (by omega)
   have hti : (n : Int) < s.size := by omega
   have hd : eqv = decide (l[n] = 61) := by rw [heq, List.drop_eq_getElem_cons hlt, List.head?_cons]; exact decide_eq_decide.2 (by rw [Option.some.injEq])
   by_cases q1 : nth l n = 61
   ·have ev : eqv = true := by rw [hd, (nth_eq_iff hlt 61).1 q1]; rfl
    repeat' (first | with_reducible refine And.intro ?_ ?_ | simp only [go_sem,seval, hkd, hti, hn0, q1, decide_true] | simp (disch := omega) only [wrap64] | (intro hx_; try simp only [set_none] at hx_) | omega)
    exact wk_mk [(0, .str s), (2, .box b2 0), (4, .box b4 0), (5, .int .i64 n)] (Bs.set b4 (.box [.nilsl, .int .i64 0, .bool eqv])) (by (try simp only [go_sem,seval]) <;> (try simp (disch := omega) [wrap64]) <;> (try omega)) (by rw [ev]; exact Heap.Le.refl _) (hJ trivial)
   ·have ev : eqv = false := by rw [hd]; exact decide_eq_false fun e => q1 ((nth_eq_iff hlt 61).2 e)
    repeat' (first | with_reducible refine And.intro ?_ ?_ | simp only [go_sem,seval, hkd, hti, hn0, q1, decide_false] | simp (disch := omega) only [wrap64] | (intro hx_; try simp only [set_none] at hx_) | omega)
    exact wk_mk [(0, .str s), (2, .box b2 0), (4, .box b4 0), (5, .int .i64 n)] (Bs.set b4 (.box [.nilsl, .int .i64 0, .bool eqv])) (by (try simp only [go_sem,seval]) <;> (try simp (disch := omega) [wrap64]) <;> (try omega)) (by rw [ev]; exact Heap.Le.refl _) (hJ trivial)
  ·have hkd : decide ((n : Int) < s.size) = false := decide_eq_false (by omega)
   have ev : eqv = false := by rw [heq, List.drop_eq_nil_of_le (by omega)]; rfl
   repeat' (first | with_reducible refine And.intro ?_ ?_ | simp only [go_sem,seval, hkd] | simp (disch := omega) only [wrap64] | (intro hx_; try simp only [set_none] at hx_) | omega)
   exact wk_mk [(0, .str s), (2, .box b2 0), (4, .box b4 0), (5, .int .i64 n)] (Bs.set b4 (.box [.nilsl, .int .i64 0, .bool eqv])) (by (try simp only [go_sem,seval]) <;> (try simp (disch := omega) [wrap64]) <;> (try omega)) (by rw [ev]; exact Heap.Le.refl _) (hJ trivial)
 intro _
 have f0 := BxI.start h4 2 [.int .i64 0, .bool eqv]
 generalize Bs.set b4 (.box [.nilsl, .int .i64 0, .bool eqv]) = Hq at f0 ⊢
 clear e2
 obtain ⟨L, hL⟩ : ∃ L, L = l.take n := ⟨_, rfl⟩
 have hLl : L.length = n := by rw [hL, List.length_take]; omega
 have hLn : ∀ k, k < n → nth l k = nth L k := fun k hk => by
  rw [hL]; unfold nth; rw [List.getD_eq_getElem?_getD, List.getD_eq_getElem?_getD, List.getElem?_take_of_lt hk]
 rw [← hL] at hR
 repeat' (first | with_reducible refine And.intro ?_ ?_ | simp only [go_sem,seval] | simp (disch := omega) only [wrap64] | (intro hx_; try simp only [set_none] at hx_) | omega)
 refine loop_c [0, 2, 4, 5] (fun (p : Nat × Nat × LinV × Option Nat × Heap) => [(6, .int .i64 p.2.1), (7, .int .i64 p.1)]) (fun (p : Nat × Nat × LinV × Option Nat × Heap) => p.2.2.2.2) (fun (p : Nat × Nat × LinV × Option Nat × Heap) => p.1 ≤ n + 1 ∧ p.2.1 < p.1 ∧ p.2.1 ≤ n ∧ (p.1 = n + 1 → p.2.1 = n) ∧ (∀ c ∈ (L.drop (p.2.1 + 1)).take (p.1 - p.2.1 - 1), sgn c = false) ∧ BxI Bs b4 2 p.2.2.1.t.length (Rw ltC p.2.2.1.t) [.int .i64 p.2.2.1.k, .bool p.2.2.1.e] p.2.2.2.1 p.2.2.2.2 ∧ remR p.2.2.1 (L.drop p.2.1) = readR l ∧ p.2.2.1.t.length ≤ p.2.1 ∧ (∀ t ∈ p.2.2.1.t, t.v.size ≤ s.size ∧ i64 t.c) ∧ i64 p.2.2.1.k) (fun (p : Nat × Nat × LinV × Option Nat × Heap) => n + 1 - p.1) ((1, 0, ⟨[], 0, eqv⟩, none, Hq)) (⟨by simp only []; omega, by simp, Nat.zero_le _, fun e => by simp only [] at e ⊢; omega, by simp, f0, by rw [List.drop_zero]; exact hR.symm, Nat.zero_le _, by simp, by unfold i64; simp⟩) (by (try simp only [go_sem,seval]) <;> (try simp (disch := omega) [wrap64]) <;> (try omega)) (by first | with_reducible exact Heap.Le.refl _ | exact heap_set_le (by assumption) | exact Heap.Le.refl _ | exact heap_le_set (by assumption) | exact (by simp only [Go.Av.Heap.Le, Go.Av.Heap.set, Go.Av.Heap.del] at * <;> grind)) ?_
 clear f0
 rintro Ec rfl ⟨i, f, a, ob, Hp⟩ ⟨hi, hfi, hfn, hie, hns, fi, hr, hal, hts, hks⟩
 simp only at hi hfi hfn hie hns fi hr hal hts hks
 by_cases hin : i ≤ n
 ·have hkd : decide ((i : Int) ≤ n) = true := decide_eq_true (by omega)
  obtain ⟨r, hrd⟩ : ∃ r, r = L.drop (f + 1) := ⟨_, rfl⟩
  rw [← hrd] at hns
  have hrl : r.length = n - (f + 1) := by rw [hrd, List.length_drop, hLl]
  have hfL : f < L.length := by omega
  have hLd : L.drop f = L[f] :: r := by rw [hrd]; exact List.drop_eq_getElem_cons hfL
  have hri : ∀ h : i - f - 1 < r.length, ∀ h2 : i < L.length, r[i - f - 1] = L[i] := fun h h2 => by
   subst hrd; rw [List.getElem_drop]; congr 1; omega
  apply tail_join (C := ∀ h : i - f - 1 < r.length, sgn r[i - f - 1] = true)
  ·intro hJ
   by_cases hlt : i < n
   ·have hk2 : decide ((i : Int) < n) = true := decide_eq_true (by omega)
    have hti : (i : Int) < s.size := by omega
    have hn0 : at8 s (i : Int) = nth L i := by rw [hat i, hLn i hlt]
    have hiL : i < L.length := by omega
    have hs1 : ∀ h : i - f - 1 < r.length, sgn r[i - f - 1] = true ↔ (nth L i = 43 ∨ nth L i = 45) := fun h => by rw [hri h hiL]; exact sgn_nth hiL
    by_cases q1 : nth L i = 43
    ·repeat' (first | with_reducible refine And.intro ?_ ?_ | simp only [go_sem,seval, hkd, hk2, hti, hn0, q1, decide_true, decide_false, Bool.not_true] | simp (disch := omega) only [wrap64] | (intro hx_; try simp only [set_none] at hx_) | omega)
     exact wk_mk [(0, .str s), (2, .box b2 0), (4, .box b4 0), (5, .int .i64 n), (6, .int .i64 f), (7, .int .i64 i)] Hp (by (try simp only [go_sem,seval]) <;> (try simp (disch := omega) [wrap64]) <;> (try omega)) (Heap.Le.refl _) (hJ fun h => (hs1 h).2 (.inl q1))
    ·by_cases q2 : nth L i = 45
     ·repeat' (first | with_reducible refine And.intro ?_ ?_ | simp only [go_sem,seval, hkd, hk2, hti, hn0, q1, q2, decide_true, decide_false, Bool.not_false, Bool.not_true] | simp (disch := omega) only [wrap64] | (intro hx_; try simp only [set_none] at hx_) | omega)
      exact wk_mk [(0, .str s), (2, .box b2 0), (4, .box b4 0), (5, .int .i64 n), (6, .int .i64 f), (7, .int .i64 i)] Hp (by (try simp only [go_sem,seval]) <;> (try simp (disch := omega) [wrap64]) <;> (try omega)) (Heap.Le.refl _) (hJ fun h => (hs1 h).2 (.inr q2))
     ·have hidx : i - f - 1 < r.length := by clear hJ; omega
      have hsg : sgn r[i - f - 1] = false := by
       rw [← Bool.not_eq_true, hs1 hidx]; rintro (g | g)
       ·exact q1 g
       ·exact q2 g
      repeat' (first | with_reducible refine And.intro ?_ ?_ | simp only [go_sem,seval, hkd, hk2, hti, hn0, q1, q2, decide_false, Bool.not_false] | simp (disch := omega) only [wrap64] | (intro hx_; try simp only [set_none] at hx_) | omega)
      refine nx_mk (i + 1, f, a, ob, Hp) ⟨by simp only []; omega, by simp only []; omega, hfn, fun e => by simp only [] at e; omega, ?_, fi, hr, hal, hts, hks⟩ (by simp only []; omega) (by (try simp only [go_sem,seval]) <;> (try simp (disch := omega) [wrap64]) <;> (try omega)) (Heap.Le.refl _)
      simp only []
      rw [← hrd, show i + 1 - f - 1 = i - f - 1 + 1 by omega]
      exact take_snoc_all hidx hns hsg
   ·have hk2 : decide ((i : Int) < n) = false := decide_eq_false (by omega)
    repeat' (first | with_reducible refine And.intro ?_ ?_ | simp only [go_sem,seval, hkd, hk2] | simp (disch := omega) only [wrap64] | (intro hx_; try simp only [set_none] at hx_) | omega)
    exact wk_mk [(0, .str s), (2, .box b2 0), (4, .box b4 0), (5, .int .i64 n), (6, .int .i64 f), (7, .int .i64 i)] Hp (by (try simp only [go_sem,seval]) <;> (try simp (disch := omega) [wrap64]) <;> (try omega)) (Heap.Le.refl _) (hJ fun h => absurd h (by clear hJ; omega))
  intro hend2
  obtain ⟨tw2, dw2⟩ := run_end (p := (!sgn ·)) r (i - f - 1) (by omega) (fun c hc => by rw [hns c hc]; rfl) (fun h => by rw [hend2 h]; rfl)
  obtain ⟨c, hc⟩ : ∃ c, c = L[f] := ⟨_, rfl⟩
  rw [← hc] at hLd
  rw [hLd, remR_cons, tw2, dw2] at hr
  have hrdi : r.drop (i - f - 1) = L.drop i := by rw [hrd, List.drop_drop]; congr 1; omega
  rw [hrdi] at hr
  obtain ⟨P', hP'⟩ : ∃ P', P' = r.take (i - f - 1) := ⟨_, rfl⟩
  rw [← hP'] at hr
  have hP'l : P'.length = i - f - 1 := by rw [hP', List.length_take]; omega
  have hP : ((B s).take i).drop f = c :: P' := by
   rw [← hB, show l.take i = L.take i by rw [hL, List.take_take]; congr 1; omega, List.drop_take, hLd, show i - f = i - f - 1 + 1 by omega, List.take_succ_cons, hP']
  have hfi2 : (f : Int) ≤ i := by omega
  have his : (i : Int) ≤ s.size := by omega
  have hz0 : (0 : Int) < (c :: P').length := by simp only [List.length_cons]; omega
  have hz1 : (1 : Int) ≤ (c :: P').length := by simp only [List.length_cons]; omega
  have hn0 : nth (c :: P') 0 = (c.toNat : Int) := rfl
  rw [pieceR_eq] at hr
  obtain ⟨bl, hbl⟩ : ∃ bl, bl = (bodyR (c :: P')).1 := ⟨_, rfl⟩
  obtain ⟨b, hb⟩ : ∃ b, b = (bodyR (c :: P')).2 := ⟨_, rfl⟩
  have hbn := bodyR_len c P'
  rw [← hb] at hbn
  rw [← hbl, ← hb] at hr
  apply tail_join (C := True)
  ·intro hJ
   by_cases q1 : c = 45
   ·have q1n : (c.toNat : Int) = 45 := by rw [q1]; rfl
    have eb : b = P' := by rw [hb]; unfold bodyR; simp only []; rw [if_pos q1]
    have ebl : bl = true := by rw [hbl]; unfold bodyR; simp only []; rw [if_pos q1]
    repeat' (first | with_reducible refine And.intro ?_ ?_ | simp only [go_sem,seval, hfi2, his, hP, hz0, hz1, hn0, q1n, decide_true] | simp (disch := omega) only [wrap64] | (intro hx_; try simp only [set_none] at hx_) | omega)
    exact wk_mk [(0, .str s), (2, .box b2 0), (4, .box b4 0), (5, .int .i64 n), (6, .int .i64 i), (7, .int .i64 i), (8, .str (S b)), (9, .bool bl)] Hp (by (try simp only [go_sem,seval, eb, ebl]) <;> (try simp (disch := omega) [wrap64]) <;> (try omega)) (Heap.Le.refl _) (hJ trivial)
   ·have q1n : ¬ (c.toNat : Int) = 45 := fun e => q1 (UInt8.toNat_inj.1 (by show _ = 45; omega))
    by_cases q2 : c = 43
    ·have q2n : (c.toNat : Int) = 43 := by rw [q2]; rfl
     have eb : b = P' := by rw [hb]; unfold bodyR; simp only []; rw [if_neg q1, if_pos q2]
     have ebl : bl = false := by rw [hbl]; unfold bodyR; simp only []; rw [if_neg q1, if_pos q2]
     repeat' (first | with_reducible refine And.intro ?_ ?_ | simp only [go_sem,seval, hfi2, his, hP, hz0, hz1, hn0, q1n, q2n, decide_true, decide_false] | simp (disch := omega) only [wrap64] | (intro hx_; try simp only [set_none] at hx_) | omega)
     exact wk_mk [(0, .str s), (2, .box b2 0), (4, .box b4 0), (5, .int .i64 n), (6, .int .i64 i), (7, .int .i64 i), (8, .str (S b)), (9, .bool bl)] Hp (by (try simp only [go_sem,seval, eb, ebl]) <;> (try simp (disch := omega) [wrap64]) <;> (try omega)) (Heap.Le.refl _) (hJ trivial)
    ·have q2n : ¬ (c.toNat : Int) = 43 := fun e => q2 (UInt8.toNat_inj.1 (by show _ = 43; omega))
     have eb : b = c :: P' := by rw [hb]; unfold bodyR; simp only []; rw [if_neg q1, if_neg q2]
     have ebl : bl = false := by rw [hbl]; unfold bodyR; simp only []; rw [if_neg q1, if_neg q2]
     repeat' (first | with_reducible refine And.intro ?_ ?_ | simp only [go_sem,seval, hfi2, his, hP, hz0, hz1, hn0, q1n, q2n, decide_false] | simp (disch := omega) only [wrap64] | (intro hx_; try simp only [set_none] at hx_) | omega)
     exact wk_mk [(0, .str s), (2, .box b2 0), (4, .box b4 0), (5, .int .i64 n), (6, .int .i64 i), (7, .int .i64 i), (8, .str (S b)), (9, .bool bl)] Hp (by (try simp only [go_sem,seval, eb, ebl]) <;> (try simp (disch := omega) [wrap64]) <;> (try omega)) (Heap.Le.refl _) (hJ trivial)
  intro _
  obtain ⟨v0, hv0⟩ : ∃ v, v = (cutR b).1 := ⟨_, rfl⟩
  obtain ⟨n0, hn0'⟩ : ∃ v, v = (cutR b).2 := ⟨_, rfl⟩
  obtain ⟨a0, a1⟩ := cutR_abs b
  rw [← hv0] at a0
  rw [← hn0'] at a1
  apply tail_join (C := True)
  ·intro hJ
   repeat' (first | with_reducible refine And.intro ?_ ?_ | simp only [go_sem,seval] | simp (disch := omega) only [wrap64] | (intro hx_; try simp only [set_none] at hx_) | omega)
   refine loop_c [0, 2, 4, 5, 6, 7, 8, 9] (fun (k : Nat) => [(10, .int .i64 1), (11, .str (S b)), (12, .int .i64 k)]) (fun (k : Nat) => Hp) (fun (k : Nat) => k ≤ b.length ∧ ∀ x ∈ b.take k, x ≠ 42) (fun (k : Nat) => b.length - k) (0) (⟨Nat.zero_le _, by simp⟩) (by (try simp only [go_sem,seval]) <;> (try simp (disch := omega) [wrap64]) <;> (try omega)) (by first | with_reducible exact Heap.Le.refl _ | exact heap_set_le (by assumption) | exact Heap.Le.refl _ | exact heap_le_set (by assumption) | exact (by simp only [Go.Av.Heap.Le, Go.Av.Heap.set, Go.Av.Heap.del] at * <;> grind)) ?_
   rintro Ec rfl k ⟨hk, hka⟩
   by_cases hkt : k < b.length
   ·have hkd2 : decide ((k : Int) < b.length) = true := decide_eq_true (by omega)
    have hkti : (k : Int) < b.length := by omega
    have hkl : (k : Int) ≤ b.length := by omega
    have hk1 : (k : Int) + 1 ≤ b.length := by omega
    have hk0 : (0 : Int) ≤ (k : Int) + 1 := by omega
    have w : IntKind.i64.wrap ((k : Int) + 1) = (k : Int) + 1 := wrap64 (by omega) (by omega)
    by_cases q : nth b k = 42
    ·have q' := (nth_eq_iff hkt 42).1 q
     obtain ⟨t1, t2⟩ := run_end (p := (· != 42)) b k hk (fun x hx => by simp [hka x hx]) (fun h => by rw [q']; rfl)
     have hcut : cutS b = some (b.take k, b.drop (k + 1)) := by
      unfold cutS; rw [if_pos (by rw [← q']; exact List.getElem_mem hkt), t1, t2, List.drop_drop]
     have ev : v0 = numR (b.take k) := by rw [hv0]; unfold cutR; rw [hcut]
     have en : n0 = b.drop (k + 1) := by rw [hn0']; unfold cutR; rw [hcut]
     repeat' (first | with_reducible refine And.intro ?_ ?_ | simp only [go_sem,seval, hkd2, hkti, q] | simp (disch := omega) only [wrap64] | (intro hx_; try simp only [set_none] at hx_) | omega)
     refine par_mk (fun i' => if i' = 3 then .int .i64 (numR (b.take k)) else .undef) [] ?_
     repeat' (first | with_reducible refine And.intro ?_ ?_ | simp only [go_sem,seval, hkl, hk1, hk0, w] | simp (disch := omega) only [wrap64] | (intro hx_; try simp only [set_none] at hx_) | with_reducible refine pc0 (fun H' Q hro hq => number_a (b.take k) (by rw [List.length_take]; omega) H' hq) ?_ | omega)
     exact wk_mk [(0, .str s), (2, .box b2 0), (4, .box b4 0), (5, .int .i64 n), (6, .int .i64 i), (7, .int .i64 i), (9, .bool bl), (10, .int .i64 v0), (11, .str (S n0))] Hp (by (try simp only [go_sem,seval, ev, en]) <;> (try simp (disch := omega) [wrap64]) <;> (try omega)) (Heap.Le.refl _) (hJ trivial)
    ·repeat' (first | with_reducible refine And.intro ?_ ?_ | simp only [go_sem,seval, hkd2, hkti, q, w] | simp (disch := omega) only [wrap64] | (intro hx_; try simp only [set_none] at hx_) | omega)
     exact nx_mk (k + 1) ⟨by omega, fun x hx => by
      rw [List.take_succ_eq_append_getElem hkt] at hx
      rcases List.mem_append.1 hx with g | g
      ·exact hka x g
      ·rw [List.mem_singleton] at g; rw [g]; exact fun e => q ((nth_eq_iff hkt 42).2 e)⟩ (by omega) (by (try simp only [go_sem,seval]) <;> (try simp (disch := omega) [wrap64]) <;> (try omega)) (Heap.Le.refl _)
   ·have hkd2 : decide ((k : Int) < b.length) = false := decide_eq_false (by omega)
    rw [List.take_of_length_le (by omega)] at hka
    have hcut : cutS b = none := by
     unfold cutS; rw [if_neg (fun hm => hka _ hm rfl)]
    have ev : v0 = 1 := by rw [hv0]; unfold cutR; rw [hcut]
    have en : n0 = b := by rw [hn0']; unfold cutR; rw [hcut]
    repeat' (first | with_reducible refine And.intro ?_ ?_ | simp only [go_sem,seval, hkd2] | simp (disch := omega) only [wrap64] | (intro hx_; try simp only [set_none] at hx_) | omega)
    exact wk_mk [(0, .str s), (2, .box b2 0), (4, .box b4 0), (5, .int .i64 n), (6, .int .i64 i), (7, .int .i64 i), (9, .bool bl), (10, .int .i64 v0), (11, .str (S n0))] Hp (by (try simp only [go_sem,seval, ev, en]) <;> (try simp (disch := omega) [wrap64]) <;> (try omega)) (Heap.Le.refl _) (hJ trivial)
  intro _
  have hcr : cutR b = (v0, n0) := by rw [hv0, hn0']
  rw [hcr] at hr
  obtain ⟨v1, hv1⟩ : ∃ v, v = (numQ (v0, n0)).1 := ⟨_, rfl⟩
  obtain ⟨n1, hn1⟩ : ∃ v, v = (numQ (v0, n0)).2 := ⟨_, rfl⟩
  obtain ⟨c0, c1⟩ := numQ_abs (p := (v0, n0)) a0
  simp only [] at c1
  rw [← hv1] at c0
  rw [← hn1] at c1
  rw [← hv1, ← hn1] at hr
  apply tail_join (C := True)
  ·intro hJ
   by_cases z : n0 = []
   ·subst z
    have eq : numQ (v0, []) = (numR [], []) := by unfold numQ; rw [if_pos (.inl rfl)]
    rw [eq] at hv1 hn1
    simp only [] at hv1 hn1
    repeat' (first | with_reducible refine And.intro ?_ ?_ | simp only [go_sem,seval] | simp (disch := omega) only [wrap64] | (intro hx_; try simp only [set_none] at hx_) | with_reducible refine number_a [] (by decide) _ ?_ | omega)
    exact wk_mk [(0, .str s), (2, .box b2 0), (4, .box b4 0), (5, .int .i64 n), (6, .int .i64 i), (7, .int .i64 i), (9, .bool bl), (10, .int .i64 v1), (11, .str (S n1))] Hp (by (try simp only [go_sem,seval, hv1, hn1, S_emp]) <;> (try simp (disch := omega) [wrap64]) <;> (try omega)) (Heap.Le.refl _) (hJ trivial)
   ·have nz : (0 : Int) < n0.length := by have := List.length_pos_iff.2 z; omega
    by_cases q1 : 48 ≤ nth n0 0
    ·by_cases q2 : nth n0 0 ≤ 57
     ·have eq : numQ (v0, n0) = (numR n0, []) := by unfold numQ headDigit digitI; rw [if_pos (.inr (by simp [z, q1, q2]))]
      rw [eq] at hv1 hn1
      simp only [] at hv1 hn1
      repeat' (first | with_reducible refine And.intro ?_ ?_ | simp only [go_sem,seval, z, nz, q1, q2] | simp (disch := omega) only [wrap64] | (intro hx_; try simp only [set_none] at hx_) | with_reducible refine number_a n0 (by omega) _ ?_ | omega)
      exact wk_mk [(0, .str s), (2, .box b2 0), (4, .box b4 0), (5, .int .i64 n), (6, .int .i64 i), (7, .int .i64 i), (9, .bool bl), (10, .int .i64 v1), (11, .str (S n1))] Hp (by (try simp only [go_sem,seval, hv1, hn1, S_emp]) <;> (try simp (disch := omega) [wrap64]) <;> (try omega)) (Heap.Le.refl _) (hJ trivial)
     ·have eq : numQ (v0, n0) = (v0, n0) := by unfold numQ headDigit digitI; rw [if_neg (by simp [z, q1, q2])]
      rw [eq] at hv1 hn1
      simp only [] at hv1 hn1
      repeat' (first | with_reducible refine And.intro ?_ ?_ | simp only [go_sem,seval, z, nz, q1, q2] | simp (disch := omega) only [wrap64] | (intro hx_; try simp only [set_none] at hx_) | omega)
      exact wk_mk [(0, .str s), (2, .box b2 0), (4, .box b4 0), (5, .int .i64 n), (6, .int .i64 i), (7, .int .i64 i), (9, .bool bl), (10, .int .i64 v1), (11, .str (S n1))] Hp (by (try simp only [go_sem,seval, hv1, hn1]) <;> (try simp (disch := omega) [wrap64]) <;> (try omega)) (Heap.Le.refl _) (hJ trivial)
    ·have eq : numQ (v0, n0) = (v0, n0) := by unfold numQ headDigit digitI; rw [if_neg (by simp [z, q1])]
     rw [eq] at hv1 hn1
     simp only [] at hv1 hn1
     repeat' (first | with_reducible refine And.intro ?_ ?_ | simp only [go_sem,seval, z, nz, q1] | simp (disch := omega) only [wrap64] | (intro hx_; try simp only [set_none] at hx_) | omega)
     exact wk_mk [(0, .str s), (2, .box b2 0), (4, .box b4 0), (5, .int .i64 n), (6, .int .i64 i), (7, .int .i64 i), (9, .bool bl), (10, .int .i64 v1), (11, .str (S n1))] Hp (by (try simp only [go_sem,seval, hv1, hn1]) <;> (try simp (disch := omega) [wrap64]) <;> (try omega)) (Heap.Le.refl _) (hJ trivial)
  intro _
  obtain ⟨v2, hv2⟩ : ∃ v, v = if bl = true then -v1 else v1 := ⟨_, rfl⟩
  rw [← hv2] at hr
  have v2r : i64 v2 := by rw [hv2]; unfold i64; split <;> omega
  apply tail_join (C := True)
  ·intro hJ
   cases bl with
   | true =>
    rw [if_pos rfl] at hv2
    have w : IntKind.i64.wrap (0 - v1) = v2 := by rw [hv2, wrap64 (by omega) (by omega)]; omega
    repeat' (first | with_reducible refine And.intro ?_ ?_ | simp only [go_sem,seval, w] | simp (disch := omega) only [wrap64] | (intro hx_; try simp only [set_none] at hx_) | omega)
    exact wk_mk [(0, .str s), (2, .box b2 0), (4, .box b4 0), (5, .int .i64 n), (6, .int .i64 i), (7, .int .i64 i), (10, .int .i64 v2), (11, .str (S n1))] Hp (by (try simp only [go_sem,seval]) <;> (try simp (disch := omega) [wrap64]) <;> (try omega)) (Heap.Le.refl _) (hJ trivial)
   | false =>
    rw [if_neg (by decide)] at hv2
    repeat' (first | with_reducible refine And.intro ?_ ?_ | simp only [go_sem,seval] | simp (disch := omega) only [wrap64] | (intro hx_; try simp only [set_none] at hx_) | omega)
    exact wk_mk [(0, .str s), (2, .box b2 0), (4, .box b4 0), (5, .int .i64 n), (6, .int .i64 i), (7, .int .i64 i), (10, .int .i64 v2), (11, .str (S n1))] Hp (by (try simp only [go_sem,seval, hv2]) <;> (try simp (disch := omega) [wrap64]) <;> (try omega)) (Heap.Le.refl _) (hJ trivial)
  intro _
  have e4 := fi.ex
  by_cases z : n1 = []
  ·rw [addP_k a v2 z] at hr
   repeat' (first | with_reducible refine And.intro ?_ ?_ | simp only [go_sem,seval, z, e4] | simp (disch := omega) only [wrap64] | (intro hx_; try simp only [set_none] at hx_) | omega)
   exact nx_mk (i + 1, i, { a with k := v2 }, ob, _) ⟨by simp only []; omega, by simp only []; omega, hin, fun e => by simp only [] at e ⊢; omega, by simp only []; rw [show i + 1 - i - 1 = 0 by omega]; simp, fi.re _, hr, by simp only []; omega, hts, v2r⟩ (by simp only []; omega) (by (try simp only [go_sem,seval]) <;> (try simp (disch := omega) [wrap64]) <;> (try omega)) (Heap.Le.refl _)
  ·rw [addP_t a v2 z] at hr
   repeat' (first | with_reducible refine And.intro ?_ ?_ | simp only [go_sem,seval, z, e4] | simp (disch := omega) only [wrap64] | (intro hx_; try simp only [set_none] at hx_) | omega)
   rename_i bx
   have hbx := hx_
   clear hx_
   refine apS_z (P := Tryz.prog) (H0 := Hp) (es := Rw ltC a.t) hbx (by simp) fi.eo (by rw [Rw_len]) (by simp only [List.length_cons, List.length_nil]; omega) (by simp only [List.length_cons, List.length_nil]; omega) fun b' H' hA => ?_
   have hY : Rw ltC a.t ++ [[D.str (S n1), .int .i64 v2]] = Rw ltC (a.t ++ [⟨S n1, v2⟩]) := by rw [← Rw_app]; rfl
   rw [hY] at hA
   obtain ⟨f1, e4'⟩ := fi.ap (m := a.t.length + 1) (Heap.Le.refl _) hA
   repeat' (first | with_reducible refine And.intro ?_ ?_ | simp only [go_sem,seval, e4'] | simp (disch := omega) only [wrap64] | (intro hx_; try simp only [set_none] at hx_) | omega)
   have hal2 : (a.t ++ [(⟨S n1, v2⟩ : LTm)]).length = a.t.length + 1 := by rw [List.length_append]; rfl
   refine nx_mk (i + 1, i, { a with t := a.t ++ [⟨S n1, v2⟩] }, some b', _) ⟨by simp only []; omega, by simp only []; omega, hin, fun e => by simp only [] at e ⊢; omega, by simp only []; rw [show i + 1 - i - 1 = 0 by omega]; simp, ?_, hr, by simp only [hal2]; omega, fun t ht => ?_, hks⟩ (by simp only []; omega) (by (try simp only [go_sem,seval, out_some]) <;> (try simp (disch := omega) [wrap64]) <;> (try omega)) (Heap.Le.refl _)
   ·simp only [hal2]; exact f1
   ·rcases List.mem_append.1 ht with g | g
    ·exact hts t g
    ·rw [List.mem_singleton] at g; subst g
     exact ⟨by simp only [S_size]; omega, v2r⟩
 ·have hkd : decide ((i : Int) ≤ n) = false := decide_eq_false (by omega)
  have hfe : f = n := hie (by omega)
  rw [hfe, List.drop_eq_nil_of_le (by omega), remR_nil] at hr
  have fa : LinFit a := ⟨by omega, fun t ht => by have := (hts t ht).1; omega, fun t ht => (hts t ht).2, hks⟩
  have e4 := fi.ex
  have e2p := fi.le _ _ e2'
  have tx : ∀ (Q : D → Heap → Prop), Q (.tuple [.str (if validL a = true then S (textB a) else S []), .int .i64 (if validL a = true then 0 else 2)]) Hp → ACalls Tryz.prog 31 [.agg [outG 2 a.t.length ob, .int .i64 a.k, .bool a.e]] Hp Q := fun Q hq => ACalls.lendA (by rw [Rw_len]) fi.eo (rText_a a fa _ ⟨rfl, hq⟩)
  have o1 : (match outG 2 a.t.length ob with | D.undef => false | D.agg cs => false | D.tuple cs => false | x => true) = true := by cases ob <;> rfl
  have hPR := parseO_R l
  rw [← hr] at hPR
  by_cases hv : validL a = true
  ·rw [if_pos hv, if_pos hv] at tx
   by_cases ht : textB a = l
   ·rw [if_pos ⟨hv, ht⟩] at hPR
    rw [hPR] at h
    have ht' : textB a = B s := by rw [← hB]; exact ht
    repeat' (first | with_reducible refine And.intro ?_ ?_ | simp only [go_sem,seval, hkd, e2p, e4, ht', o1] | simp (disch := omega) only [wrap64] | (intro hx_; try simp only [set_none] at hx_) | with_reducible refine tx _ ?_ | omega)
    cases ob with
    | none =>
     obtain ⟨T, K, E⟩ := a
     have hz : T = [] := List.eq_nil_of_length_eq_zero (by have := congrArg List.length (show Rw ltC T = [] from fi.eo); rwa [Rw_len] at this)
     subst hz
     exact Fin.nilR (nil_lin K 0 E) (Fin.less (le_set4 (hle.trans fi.le) g2) h)
    | some b' =>
     obtain ⟨q1, q2⟩ := fi.fin hle g2 e2p
     exact Fin.aggT q1 (by rw [Rw_len]) (Fin.less q2 h)
   ·rw [if_neg (fun g => ht g.2)] at hPR
    rw [hPR] at h
    have ht' : ¬ textB a = B s := by rw [← hB]; exact ht
    repeat' (first | with_reducible refine And.intro ?_ ?_ | simp only [go_sem,seval, hkd, e2p, e4, ht', o1] | simp (disch := omega) only [wrap64] | (intro hx_; try simp only [set_none] at hx_) | with_reducible refine tx _ ?_ | omega)
    exact Fin.nilR (nil_lin 0 30 false) (Fin.less (le_set4 (hle.trans fi.le) g2) h)
  ·rw [if_neg hv, if_neg hv] at tx
   rw [if_neg (fun g => hv g.1)] at hPR
   rw [hPR] at h
   repeat' (first | with_reducible refine And.intro ?_ ?_ | simp only [go_sem,seval, hkd, e2p, e4, o1] | simp (disch := omega) only [wrap64] | (intro hx_; try simp only [set_none] at hx_) | with_reducible refine tx _ ?_ | omega)
   exact Fin.nilR (nil_lin 0 30 false) (Fin.less (le_set4 (hle.trans fi.le) g2) h)
end Go.Proofs.YtacekpdodelnbaaGreatDoor
end
section
set_option maxRecDepth 20000
namespace Go.Lin
open Go Go.Av Go.Lexs
theorem parseO_len (l : List UInt8) : (parseO l).1.t.length ≤ 12 := by
 rw [parseO_R]; split
 ·rename_i h; exact (valid_ok h.1).len
 ·exact Nat.zero_le _
theorem parseO_text {a : LinV} (h : validL a = true) : parseO (textB a) = (a, 0) := by unfold parseO; rw [parseL_text a h]
theorem text_len {a : LinV} (h : validL a = true) : (textB a).length ≤ 13000 := by
 have h1 := valid_ok h
 have key : ∀ (l : List LTm) (f : Bool), (∀ t ∈ l, nameB (B t.v) = true ∧ t.c ≠ 0 ∧ t.c.natAbs ≤ 1048576) → (termsB f l).length ≤ 1000 * l.length := by
  intro l
  induction l with
  | nil => intro f _; simp [termsB]
  | cons t l ih =>
   intro f hm
   have i1 := ih false (fun x hx => hm x (List.mem_cons_of_mem _ hx))
   have ht := hm t (List.mem_cons_self ..)
   have n := name_size ht.1
   have d := dec_len 18 t.c.natAbs (by omega)
   have b := B_len t.v
   rw [termsB, List.length_append, List.length_cons]
   have : (termB f t).length ≤ 1000 := by
    unfold termB
    rw [List.length_append, List.length_append]
    split <;> split <;> (try split) <;> simp only [List.length_append, List.length_cons, List.length_nil] <;> omega
   omega
 have i1 := key a.t true (okAt_mem h1.t)
 have d := dec_len 18 a.k.natAbs (by have := h1.k; omega)
 have l12 := h1.len
 unfold textB bodyB constB konB
 rw [List.length_append, List.length_append]
 split <;> split <;> (try split) <;> (try split) <;> simp only [List.length_append, List.length_cons, List.length_nil] <;> omega
end Go.Lin
namespace Go.Proofs.YtacekpdodelnbaaGreatDoor
open Go Go.Av Go.Lexs Go.Lin
attribute [local irreducible] ACalls at8
set_option maxHeartbeats 4000000 in
theorem lawTexts_a {Q} (a : LinV) (s : ByteArray) (fa : LinFit a) (hs : s.size ≤ 140737488351232) (H : Heap) (hT : Tabs H) (h : Q (.bool true) H) : ACalls Tryz.prog 6 [.agg (linC a), .str s] H Q := by
 refine acalls_of_wp [] Tryz.mixed Tryz.func6 rfl (by kernel_rfl) (of_decide_eq_true (by kernel_rfl)) (by kernel_rfl) ?_
 simp only [go_sem,seval, Tryz.results6]
 intro b2 g2
 have e2 : (H.set b2 (.box (linC a))) b2 = some (.box (linC a)) := heap_same _ _
 have hle : H.Le (H.set b2 (.box (linC a))) := heap_le_set g2
 generalize H.set b2 (.box (linC a)) = Bs at e2 hle ⊢
 have hTb := hT.le hle
 repeat' (first | with_reducible refine And.intro ?_ ?_ | simp only [go_sem,seval, e2] | simp (disch := first | omega | grind) only [heap_ne_] | (intro hx_; try simp only [set_none] at hx_) | omega)
 refine few1_a (by assumption) [a] rfl (by simp) (fits1 fa) fun x => ?_
 cases x with
 | false =>
  repeat' (first | with_reducible refine And.intro ?_ ?_ | simp only [go_sem,seval] | simp (disch := first | omega | grind) only [heap_ne_] | (intro hx_; try simp only [set_none] at hx_) | with_reducible refine awake_a _ hTb ?_ | omega)
  exact Fin.less hle h
 | true =>
  by_cases h4 : (4000 : Int) < s.size
  ·repeat' (first | with_reducible refine And.intro ?_ ?_ | simp only [go_sem,seval, h4] | simp (disch := first | omega | grind) only [heap_ne_] | (intro hx_; try simp only [set_none] at hx_) | with_reducible refine awake_a _ hTb ?_ | omega)
   exact Fin.less hle h
  ·obtain ⟨N, hN⟩ : ∃ N, N = (parseO (B s)).1 := ⟨_, rfl⟩
   obtain ⟨m, hm⟩ : ∃ m, m = (parseO (B s)).2 := ⟨_, rfl⟩
   have hNl : N.t.length ≤ 12 := by rw [hN]; exact parseO_len _
   have pc : ∀ (H : Heap) (Q : D → Heap → Prop), Tabs H → Q (.tuple [.agg (linC N), .int .i64 m]) H → ACalls Tryz.prog 32 [.str s] H Q := fun H Q hT hq => parse_a s (by omega) H hT (by rw [← hN, ← hm]; exact hq)
   have rc : ∀ (H : Heap) (Q : D → Heap → Prop), Q (.tuple [.agg (linC N), .int .i64 m]) H → ACalls Tryz.prog 33 [.str s] H Q := fun H Q hq => rParse_a s (by omega) H (by rw [← hN, ← hm]; exact hq)
   obtain ⟨X, hX⟩ : ∃ X, X = if validL a = true then S (textB a) else S [] := ⟨_, rfl⟩
   obtain ⟨k, hk⟩ : ∃ k : Int, k = if validL a = true then 0 else 2 := ⟨_, rfl⟩
   repeat' (first | with_reducible refine And.intro ?_ ?_ | simp only [go_sem,seval, h4, e2] | simp (disch := first | omega | grind) only [heap_ne_] | (intro hx_; try simp only [set_none] at hx_) | omega)
   refine text_a a fa _ hTb ?_
   rw [← hX, ← hk]
   repeat' (first | with_reducible refine And.intro ?_ ?_ | simp only [go_sem,seval, e2] | simp (disch := first | omega | grind) only [heap_ne_] | (intro hx_; try simp only [set_none] at hx_) | omega)
   refine rText_a a fa _ ?_
   rw [← hX, ← hk]
   repeat' (first | with_reducible refine And.intro ?_ ?_ | simp only [go_sem,seval] | simp (disch := first | omega | grind) only [heap_ne_] | (intro hx_; try simp only [set_none] at hx_) | omega)
   refine pc _ _ hTb ?_
   repeat' (first | with_reducible refine And.intro ?_ ?_ | simp only [go_sem,seval] | simp (disch := first | omega | grind) only [heap_ne_] | (intro hx_; try simp only [set_none] at hx_) | with_reducible refine rc _ _ ?_ | omega)
   rename_i b9 h9 b11
   have h11 : (Bs.set b9 (.box (linC N))) b11 = none := set_none.2 hx_
   clear hx_
   have e9 : ((Bs.set b9 (.box (linC N))).set b11 (.box (linC N))) b9 = some (.box (linC N)) := (heap_le_set h11) _ _ (heap_same _ _)
   have e11 : ((Bs.set b9 (.box (linC N))).set b11 (.box (linC N))) b11 = some (.box (linC N)) := heap_same _ _
   have hle3 := hle.trans ((heap_le_set (o := .box (linC N)) h9).trans (heap_le_set (o := .box (linC N)) h11))
   have e2' := ((heap_le_set (o := .box (linC N)) h9).trans (heap_le_set (o := .box (linC N)) h11)) _ _ e2
   generalize (Bs.set b9 (.box (linC N))).set b11 (.box (linC N)) = Bt at e9 e11 hle3 e2' ⊢
   have hTt := hT.le hle3
   repeat' (first | with_reducible refine And.intro ?_ ?_ | simp only [go_sem,seval, e9, e11, eq_self, decide_true] | simp (disch := first | omega | grind) only [heap_ne_] | (intro hx_; try simp only [set_none] at hx_) | omega)
   refine rSameL_a N hNl _ ?_
   by_cases hv : validL a = true
   ·rw [if_pos hv] at hk hX
    subst hk hX
    have hXl := text_len hv
    repeat' (first | with_reducible refine And.intro ?_ ?_ | simp only [go_sem,seval, eq_self, decide_true] | simp (disch := first | omega | grind) only [heap_ne_] | (intro hx_; try simp only [set_none] at hx_) | omega)
    refine parse_a _ (by rw [S_size]; omega) _ hTt ?_
    rw [B_S, parseO_text hv]
    repeat' (first | with_reducible refine And.intro ?_ ?_ | simp only [go_sem,seval, e2'] | simp (disch := first | omega | grind) only [heap_ne_] | (intro hx_; try simp only [set_none] at hx_) | omega)
    rename_i b13
    have hT13 := hTt.le (heap_le_set (o := .box (linC a)) (by assumption))
    refine rSameL_a a (valid_ok hv).len _ ?_
    repeat' (first | with_reducible refine And.intro ?_ ?_ | simp only [go_sem,seval] | simp (disch := first | omega | grind) only [heap_ne_] | (intro hx_; try simp only [set_none] at hx_) | with_reducible refine awake_a _ hT13 ?_ | omega)
    exact Fin.less (hle3.trans (heap_le_set (by assumption))) h
   ·rw [if_neg hv] at hk hX
    subst hk
    repeat' (first | with_reducible refine And.intro ?_ ?_ | simp only [go_sem,seval, eq_self, decide_true] | simp (disch := first | omega | grind) only [heap_ne_] | (intro hx_; try simp only [set_none] at hx_) | with_reducible refine awake_a _ hTt ?_ | omega)
    exact Fin.less hle3 h
end Go.Proofs.YtacekpdodelnbaaGreatDoor
end
section
namespace Go.Av
open Go.RowKit Go.ChangeShapes Go.WideShapes
section
variable {H : Type} {enc : TypeId × Value → H} {P : Program}
theorem fitsV_str {t : TypeId} {x : D} (hu : P.underlying t = some .string) (h : FitsV P t x) : ∃ s, x = .str s ∧ s.size ≤ reachBytes := by
 obtain ⟨s, h1, h2⟩ := fits_str hu (fitsV_leaf (by simp [hu]) h)
 simp at h1
 exact ⟨s, h1, h2⟩
end
end Go.Av
end
section
set_option maxRecDepth 100000
namespace Go.Proofs.YtacekpdodelnbaaGreatDoor.linearTexts
open Go Go.Av Go.Lexs Go.Lin Go.ChangeShapes Go.WideShapes Go.RowKit
theorem lifted (os : Os) (started : os.Started) (H : Type) (enc : TypeId × Value → H) :
  ReturnsInHanded {} Tryz.checked os 6 .any (fun w args => (Rows.linearTextsSpec.pre enc Tryz.prog Tryz.f6 Rows.linearTextsRow.domain false w args ∧ laidMetH Tryz.prog Rows.linearTextsRow.laid w) ∧ sizedMet enc Tryz.prog Tryz.f6 (OpenSpec.ofChange Rows.linearTextsSpec) false w args)
   (Rows.linearTextsSpec.post enc Tryz.prog Tryz.f6 false true false false) := by
 refine returnsInHanded_of_change_and (C := Tryz.checked) (X := fun w _ => laidMetH Tryz.prog Rows.linearTextsRow.laid w) (fun _ _ _ hh h => h.of_heap hh) own started (by kernel_rfl) Tryz.func6
  (ChangeSpec.witness_shaped (enc := enc) (C := Tryz.checked) (os := os) (X := fun w _ => laidMetH Tryz.prog Rows.linearTextsRow.laid w) false (World.laidAll Tryz.prog os Rows.linearTextsRow.laid) #[.agg #[.slice none 0 0, .int .i64 0, .bool false], .string ⟨#[]⟩] 8 (World.laidAll_os _ _ _)
   (World.shaped_of_ZipB (by kernel_rfl) (by kernel_rfl)) (by kernel_rfl) (by kernel_rfl) (by kernel_rfl)
   (by rw [MakeChecks.laidMetH_plain _ _ _ (by kernel_rfl)]; exact laidMet_laidAll _ (by kernel_rfl) (by kernel_rfl))) ?_
 intro W base args ds gs before hval hW _ hsz hL _
 rw [MakeChecks.laidMetH_plain _ _ _ (by kernel_rfl)] at hL
 obtain ⟨tu, tv, hS⟩ := tabs_sat hL (by simp [Rows.linearTextsRow]) (by simp [Rows.linearTextsRow]) (by simp [Rows.linearTextsRow])
 have hW' := hW
 obtain ⟨p, q, hA0, hV, _, _, _⟩ := hW
 rw [Tryz.params6] at hA0 hval hsz
 obtain ⟨v0, v1, d0, d1, p0, p1, rfl, rfl, rfl, h0, h1⟩ := trodAll_two hA0
 obtain ⟨rfl, rfl⟩ := trodVars_none hV
 obtain ⟨x0, k0, r0⟩ := arg_fits plain19 (tabs_held tu tv) (by simp) (hval 0 _ _ rfl rfl) h0 (weightsEach_at hsz 0 _ _ rfl rfl)
 obtain ⟨x1, k1, r1⟩ := arg_fits plain19 (tabs_held tu tv) (by simp) (hval 1 _ _ rfl rfl) h1 (weightsEach_at hsz 1 _ _ rfl rfl)
 obtain ⟨a, rfl, fa⟩ := fitsV_lin k0
 obtain ⟨s, rfl, hs⟩ := fitsV_str (by kernel_rfl) k1
 have hre : reachBytes = 140737488351232 := rfl
 refine law_calls laidOut (by kernel_rfl) rfl (tb := 4) (by kernel_rfl) (by kernel_rfl) rfl hW' (tabs tu tv) (tabs_held tu tv) hS [.agg (linC a), .str s] rfl (fun i d hd => ?_) (fun Q hQ => lawTexts_a a s fa (by omega) _ (tabs_tabs tu tv) hQ)
 match i, hd with
 | 0, hd => simp at hd; subst hd; exact r0
 | 1, hd => simp at hd; subst hd; exact r1
 | i + 2, hd => simp at hd
theorem said : Rows.LinearTextsSaid :=
 OpenClaim.holds_of_wide 6 Tryz.f6 rfl rfl rfl rfl rfl rfl rfl ⟨rfl, rfl, rfl, rfl, rfl⟩ rfl rfl rfl rfl rfl (by kernel_rfl) Tryz.func6 (by kernel_rfl)
  (of_decide_eq_true (by kernel_rfl)) (by unfold Func.isWrapper; first | (rw [if_pos (by decide +kernel)]; kernel_rfl) | (rw [if_neg (by decide +kernel)]; exact ⟨rfl, rfl⟩))
  (fun os started H enc _ => lifted os started H enc)
theorem plain (f : FuncId) (fn : Func) (hf : Tryz.pinned.checked.prog.funcNamed "voussoir/voussoirlaw19.LinearTexts" = some f) (hfn : Tryz.pinned.checked.prog.funcs[f]? = some fn) :
  true = Tryz.pinned.checked.prog.looks [] ∧ ∀ (j : Nat) t, fn.params[j]? = some t → Tryz.pinned.checked.prog.wantsStandIn t = false := by
 obtain rfl : f = 6 := Option.some.inj ((show Tryz.prog.funcNamed "voussoir/voussoirlaw19.LinearTexts" = some 6 by kernel_rfl).symm.trans hf) |>.symm
 obtain rfl : fn = Tryz.f6 := (Option.some.inj (Tryz.func6.symm.trans hfn)).symm
 refine ⟨by kernel_rfl, fun j t ht => ?_⟩
 have hall : ((Tryz.f6.params.toList).all fun u => !Tryz.prog.wantsStandIn u) = true := by kernel_rfl
 have := List.all_eq_true.1 hall t (by rw [Array.mem_toList_iff]; exact Array.mem_of_getElem? ht)
 exact (by simpa using this : Tryz.prog.wantsStandIn t = false)
theorem card : Rows.LinearTextsCardSaid :=
 Claim7.holds_tied_plain_at .later [] _ _ _ _ said (fun _ h => by cases h) (by kernel_rfl) (fun _ h => by cases h) linearTexts_row_tie rfl ⟨rfl, rfl⟩ (by kernel_rfl) rfl plain (by kernel_rfl)
end Go.Proofs.YtacekpdodelnbaaGreatDoor.linearTexts
namespace Go.Proofs.YtacekpdodelnbaaGreatDoor
theorem linearTexts_holds : Rows.LinearTextsCardSaid := linearTexts.card
end Go.Proofs.YtacekpdodelnbaaGreatDoor
end
