/- LinearValid, proved: for every input the law returns true, and the arguments read as before; the listed tables hold what the program's text lays (the card). No other condition than the row's own. -/
import Derived.Test.YtacekpdodelnbaaGreatDoorProg
import Derived.Test.YtacekpdodelnbaaGreatDoorRows
import Derived.Test.YtacekpdodelnbaaGreatDoorCards
import Derived.Test.YtacekpdodelnbaaGreatDoorTie
import Derived.Test.YtacekpdodelnbaaGreatDoorK6
set_option linter.unusedSimpArgs false
set_option linter.unusedVariables false
section
namespace Go.Av
section
variable {P : Program} {Z : List (Nat × Rc)} {Q : AX → Env → Heap → Prop} {E : Env} {H : Heap} {K : Env → Heap → Prop} {gs : List (Option Nat)} {l : List Oper} {KD : D → Heap → Prop} {ev : Operand → D} {bl : List Nat}
theorem ord_mk {gs : List (Option Nat)} {ops : List Oper} {perm : List Nat} (bl : List Nat) (h : wpG P bl K (perm.map (pickO ops)) E H) : raceK P gs ops K E H (some (.ord perm)) := ⟨bl, h⟩
def notLoad : Op → Bool
 | .load .. => false
 | _ => true
theorem cls_load {op : Op} (h : cls P op = .load) : notLoad op = false := by
 cases op
 case load => rfl
 case convert s t x => simp only [cls] at h; split at h <;> cases h
 case call cc =>
  obtain ⟨c, as_, ts⟩ := cc
  cases c with
  | builtin b =>
   cases b <;> simp only [cls] at h <;> first | cases h | (split at h <;> cases h)
  | _ => simp [cls] at h
 all_goals (simp [cls] at h)
theorem g_op (bl : List Nat) (l : List (Option Oper)) (dst : Option Nat) (op : Op) (ty : Nat) (pos : String) (after : Array Edge) (gd : Option (Nat × Bool)) (h : notLoad op = true) :
  wpG P bl K (some ⟨dst, op, ty, pos, after, gd⟩ :: l) E H = wpOp P E.ev H (gK P bl K l dst E H) op := by
 have hc : cls P op ≠ .load := fun g => by rw [cls_load g] at h; cases h
 show ((cls P op = .load → _) ∧ _) = _
 simp only [hc, false_implies, true_and]; rfl
@[go_sem] theorem g_move (x : Operand) (bl : List Nat) (l : List (Option Oper)) (dst : Option Nat) (ty : Nat) (pos : String) (after : Array Edge) (gd : Option (Nat × Bool)) : wpG P bl K (some ⟨dst, .move x, ty, pos, after, gd⟩ :: l) E H = wpOp P E.ev H (gK P bl K l dst E H) (.move x) := g_op _ _ _ _ _ _ _ _ rfl
@[go_sem] theorem g_assign (x : Operand) (bl : List Nat) (l : List (Option Oper)) (dst : Option Nat) (ty : Nat) (pos : String) (after : Array Edge) (gd : Option (Nat × Bool)) : wpG P bl K (some ⟨dst, .assign x, ty, pos, after, gd⟩ :: l) E H = wpOp P E.ev H (gK P bl K l dst E H) (.assign x) := g_op _ _ _ _ _ _ _ _ rfl
@[go_sem] theorem g_slice (t : Nat) (x : Operand) (lo hi mx : Option Operand) (bl : List Nat) (l : List (Option Oper)) (dst : Option Nat) (ty : Nat) (pos : String) (after : Array Edge) (gd : Option (Nat × Bool)) : wpG P bl K (some ⟨dst, .slice t x lo hi mx, ty, pos, after, gd⟩ :: l) E H = wpOp P E.ev H (gK P bl K l dst E H) (.slice t x lo hi mx) := g_op _ _ _ _ _ _ _ _ rfl
@[go_sem] theorem g_call (c : Call) (bl : List Nat) (l : List (Option Oper)) (dst : Option Nat) (ty : Nat) (pos : String) (after : Array Edge) (gd : Option (Nat × Bool)) : wpG P bl K (some ⟨dst, .call c, ty, pos, after, gd⟩ :: l) E H = wpOp P E.ev H (gK P bl K l dst E H) (.call c) := g_op _ _ _ _ _ _ _ _ rfl
@[go_sem] theorem g_bs (t n : Nat) (ps : Array (Nat × Operand)) (bl : List Nat) (l : List (Option Oper)) (dst : Option Nat) (ty : Nat) (pos : String) (after : Array Edge) (gd : Option (Nat × Bool)) : wpG P bl K (some ⟨dst, .buildSlice t n ps, ty, pos, after, gd⟩ :: l) E H = wpOp P E.ev H (gK P bl K l dst E H) (.buildSlice t n ps) := g_op _ _ _ _ _ _ _ _ rfl
attribute [go_sem low] condA_bool
attribute [go_sem low] guardK_bool
attribute [go_sem low] guardF_bool
variable {sx : Bool} {bl : List Nat}
variable {t : Nat} {c : Bool} {k : IntKind} {a b : Int}
variable {t : Nat}
end
theorem at8_nat (s : ByteArray) (k : Nat) : at8 s k = nth (B s) k := rfl
end Go.Av
end
section
namespace Go.Proofs
open Go.Av
@[go_sem] theorem Tryz.zero9 : zeroD Tryz.prog 9 = some [.str ⟨#[]⟩] := by kernel_rfl
end Go.Proofs
end
section
set_option maxRecDepth 20000
namespace Go.Lin
open Go Go.Av Go.Lexs
end Go.Lin
namespace Go.Proofs.YtacekpdodelnbaaGreatDoor
open Go Go.Av Go.Lexs Go.Lin
attribute [local irreducible] ACalls at8
theorem rName_a {Q} (s : ByteArray) (hs : s.size ≤ 4611686018427387904) (H : Heap) (h : Q (.bool (nameB (B s))) H) : ACalls Tryz.prog 39 [.str s] H Q := by
 refine acalls_of_wp [] Tryz.mixed Tryz.func39 rfl (by kernel_rfl) (of_decide_eq_true (by kernel_rfl)) (by kernel_rfl) ?_
 simp only [go_sem,seval, Tryz.results39]
 have hl := B_len s
 have hd0 : at8 s 0 = nth (B s) 0 := at8_zero s
 refine loop_c [0] (fun (i : Nat) => [(3, .int .i64 i)]) (fun (i : Nat) => H) (fun (i : Nat) => i ≤ s.size ∧ ((B s).take i).all (ofB nameC) = true) (fun (i : Nat) => s.size - i) (0) (⟨Nat.zero_le _, by simp⟩) (by (try simp only [go_sem,seval]) <;> (try simp (disch := omega) [wrap64]) <;> (try omega)) (by first | with_reducible exact Heap.Le.refl _ | exact heap_set_le (by assumption) | exact Heap.Le.refl _ | exact heap_le_set (by assumption) | exact (by simp only [Go.Av.Heap.Le, Go.Av.Heap.set, Go.Av.Heap.del] at * <;> grind)) ?_
 rintro Ec rfl i ⟨hi, hall⟩
 by_cases hlt : i < s.size
 ·have hkd : decide ((i : Int) < s.size) = true := decide_eq_true (by omega)
  have hki : (i : Int) < s.size := by omega
  have hlb : i < (B s).length := by omega
  obtain ⟨x, hx⟩ : ∃ x, x = nth (B s) i := ⟨_, rfl⟩
  have hat : at8 s (i : Int) = x := by rw [hx]; exact at8_nat s i
  by_cases c4 : nameC x = true
  ·have c := (nameC_iff x).1 c4
   obtain ⟨d1, d2, d3, d4, d5, d6, d7, d8⟩ := c
   have d1' : ¬ x < 33 := by omega
   have d2' : ¬ 126 < x := by omega
   repeat' (first | with_reducible refine And.intro ?_ ?_ | simp only [go_sem,seval, hkd, hki, hat, d1', d2', d3, d4, d5, d6, d7, d8, decide_false] | simp (disch := omega) only [wrap64] | intro hx_ | omega)
   exact nx_mk (i + 1) ⟨by omega, by rw [all_take_succ _ _ _ hlb, hall, ← hx, c4]; rfl⟩ (by omega) (by (try simp only [go_sem,seval]) <;> (try simp (disch := omega) [wrap64]) <;> (try omega)) (Heap.Le.refl _)
  ·have c5 : nameC x = false := by simpa using c4
   have hf : nameB (B s) = false := by
    unfold nameB
    rw [all_false_of nameC (B s) i hlb (by rw [← hx]; exact c5), Bool.and_false]
   rw [hf] at h
   have hor : x < 33 ∨ 126 < x ∨ x = 43 ∨ x = 45 ∨ x = 42 ∨ x = 60 ∨ x = 62 ∨ x = 61 := by
    have := mt (nameC_iff x).2 c4; omega
   rcases hor with g | g | g | g | g | g | g | g
   ·repeat' (first | with_reducible refine And.intro ?_ ?_ | simp only [go_sem,seval, hkd, hki, hat, g, decide_true] | simp (disch := omega) only [wrap64] | intro hx_ | omega)
    exact Fin.same h
   ·have g0 : ¬ x < 33 := by omega
    repeat' (first | with_reducible refine And.intro ?_ ?_ | simp only [go_sem,seval, hkd, hki, hat, g0, g, decide_true, decide_false] | simp (disch := omega) only [wrap64] | intro hx_ | omega)
    exact Fin.same h
   ·rw [g] at hat
    repeat' (first | with_reducible refine And.intro ?_ ?_ | simp only [go_sem,seval, hkd, hki, hat, decide_true, decide_false] | simp (disch := omega) only [wrap64] | intro hx_ | omega)
    exact Fin.same h
   ·rw [g] at hat
    repeat' (first | with_reducible refine And.intro ?_ ?_ | simp only [go_sem,seval, hkd, hki, hat, decide_true, decide_false] | simp (disch := omega) only [wrap64] | intro hx_ | omega)
    exact Fin.same h
   ·rw [g] at hat
    repeat' (first | with_reducible refine And.intro ?_ ?_ | simp only [go_sem,seval, hkd, hki, hat, decide_true, decide_false] | simp (disch := omega) only [wrap64] | intro hx_ | omega)
    exact Fin.same h
   ·rw [g] at hat
    repeat' (first | with_reducible refine And.intro ?_ ?_ | simp only [go_sem,seval, hkd, hki, hat, decide_true, decide_false] | simp (disch := omega) only [wrap64] | intro hx_ | omega)
    exact Fin.same h
   ·rw [g] at hat
    repeat' (first | with_reducible refine And.intro ?_ ?_ | simp only [go_sem,seval, hkd, hki, hat, decide_true, decide_false] | simp (disch := omega) only [wrap64] | intro hx_ | omega)
    exact Fin.same h
   ·rw [g] at hat
    repeat' (first | with_reducible refine And.intro ?_ ?_ | simp only [go_sem,seval, hkd, hki, hat, decide_true, decide_false] | simp (disch := omega) only [wrap64] | intro hx_ | omega)
    exact Fin.same h
 ·have hkd : decide ((i : Int) < s.size) = false := decide_eq_false (by omega)
  rw [List.take_of_length_le (by omega)] at hall
  have hnb : nameB (B s) = (decide (B s ≠ []) && decide ((B s).length ≤ 200) && !digitI (nth (B s) 0)) := by unfold nameB; rw [hall, Bool.and_true]
  rw [hnb] at h
  by_cases v1 : B s = []
  ·have vs : s.size = 0 := by rw [← hl, v1]; rfl
   have e : (decide (B s ≠ []) && decide ((B s).length ≤ 200) && !digitI (nth (B s) 0)) = false := by rw [decide_eq_false (by simpa using v1)]; rfl
   rw [e] at h
   have vsi : ¬ ((1 : Int) ≤ s.size) := by omega
   repeat' (first | with_reducible refine And.intro ?_ ?_ | simp only [go_sem,seval, hkd, vsi, decide_false] | simp (disch := omega) only [wrap64] | intro hx_ | omega)
   all_goals exact Fin.same h
  ·have vs : 0 < s.size := by have := List.length_pos_iff.2 v1; omega
   have vsi : (1 : Int) ≤ s.size := by omega
   have vs0 : (0 : Int) < s.size := by omega
   rw [decide_eq_true (show B s ≠ [] from v1)] at h
   by_cases v2 : (s.size : Int) ≤ 200
   ·rw [decide_eq_true (show (B s).length ≤ 200 by omega)] at h
    by_cases q1 : nth (B s) 0 < 48
    ·have e : digitI (nth (B s) 0) = false := by rw [← Bool.not_eq_true, digitI_iff]; omega
     rw [e] at h
     repeat' (first | with_reducible refine And.intro ?_ ?_ | simp only [go_sem,seval, hkd, vsi, vs0, v2, hd0, q1, decide_true] | simp (disch := omega) only [wrap64] | intro hx_ | omega)
     all_goals exact Fin.same h
    ·have e : digitI (nth (B s) 0) = !decide (57 < nth (B s) 0) := by
      by_cases q2 : 57 < nth (B s) 0
      ·rw [decide_eq_true q2]; rw [show (!true) = false from rfl, ← Bool.not_eq_true, digitI_iff]; omega
      ·rw [decide_eq_false q2]; rw [show (!false) = true from rfl, digitI_iff]; omega
     rw [e] at h
     repeat' (first | with_reducible refine And.intro ?_ ?_ | simp only [go_sem,seval, hkd, vsi, vs0, v2, hd0, q1, decide_true, decide_false] | simp (disch := omega) only [wrap64] | intro hx_ | omega)
     all_goals exact Fin.same (by simpa using h)
   ·rw [decide_eq_false (show ¬ (B s).length ≤ 200 by omega)] at h
    repeat' (first | with_reducible refine And.intro ?_ ?_ | simp only [go_sem,seval, hkd, vsi, v2, decide_true, decide_false] | simp (disch := omega) only [wrap64] | intro hx_ | omega)
    all_goals exact Fin.same h
theorem rValid_a {Q} (a : LinV) (fa : LinFit a) (H : Heap) (h : Q (.bool (validL a)) H) : ACalls Tryz.prog 16 [.agg (linC a)] H Q := by
 refine acalls_of_wp [] Tryz.mixed Tryz.func16 rfl (by kernel_rfl) (of_decide_eq_true (by kernel_rfl)) (by kernel_rfl) ?_
 simp only [go_sem,seval, Tryz.results16]
 intro b1 hb1
 have e1 : (H.set b1 (.box (linC a))) b1 = some (.box (linC a)) := heap_same _ _
 have hle : H.Le (H.set b1 (.box (linC a))) := heap_le_set hb1
 generalize H.set b1 (.box (linC a)) = Bs at e1 hle ⊢
 have hlen := fa.len
 by_cases c1 : (12 : Int) < a.t.length
 ·have hv : validL a = false := by unfold validL; rw [decide_eq_false (show ¬ a.t.length ≤ 12 by omega)]; simp
  rw [hv] at h
  repeat' (first | with_reducible refine And.intro ?_ ?_ | simp only [go_sem,seval, e1, c1, decide_true] | simp (disch := omega) only [wrap64, Rw_at] | simp (disch := first | omega | grind) only [heap_ne_] | intro hx_ | omega)
  exact Fin.less (by simp only [Go.Av.Heap.Le, Go.Av.Heap.set, Go.Av.Heap.del] at * <;> grind) h
 by_cases c2 : a.k < -1099511627776
 ·have hv : validL a = false := by unfold validL within; rw [decide_eq_false (show ¬ -1099511627776 ≤ a.k by omega)]; simp
  rw [hv] at h
  repeat' (first | with_reducible refine And.intro ?_ ?_ | simp only [go_sem,seval, e1, c1, c2, decide_true, decide_false] | simp (disch := omega) only [wrap64, Rw_at] | simp (disch := first | omega | grind) only [heap_ne_] | intro hx_ | omega)
  exact Fin.less (by simp only [Go.Av.Heap.Le, Go.Av.Heap.set, Go.Av.Heap.del] at * <;> grind) h
 by_cases c3 : 1099511627776 < a.k
 ·have hv : validL a = false := by unfold validL within; rw [decide_eq_false (show ¬ a.k ≤ 1099511627776 by omega)]; simp
  rw [hv] at h
  repeat' (first | with_reducible refine And.intro ?_ ?_ | simp only [go_sem,seval, e1, c1, c2, c3, decide_true, decide_false] | simp (disch := omega) only [wrap64, Rw_at] | simp (disch := first | omega | grind) only [heap_ne_] | intro hx_ | omega)
  exact Fin.less (by simp only [Go.Av.Heap.Le, Go.Av.Heap.set, Go.Av.Heap.del] at * <;> grind) h
 repeat' (first | with_reducible refine And.intro ?_ ?_ | simp only [go_sem,seval, e1, c1, c2, c3, decide_true, decide_false] | simp (disch := omega) only [wrap64, Rw_at] | simp (disch := first | omega | grind) only [heap_ne_] | intro hx_ | omega)
 refine loop_c [1, 20, 21] (fun (i : Nat) => [(22, .int .i64 i)]) (fun (i : Nat) => Bs) (fun (i : Nat) => i ≤ a.t.length ∧ (List.range i).all (okAt a.t) = true) (fun (i : Nat) => a.t.length - i) (0) (⟨Nat.zero_le _, rfl⟩) (by (try simp only [go_sem,seval]) <;> (try simp (disch := omega) [wrap64]) <;> (try omega)) (by first | with_reducible exact Heap.Le.refl _ | exact heap_set_le (by assumption) | exact Heap.Le.refl _ | exact heap_le_set (by assumption) | exact (by simp only [Go.Av.Heap.Le, Go.Av.Heap.set, Go.Av.Heap.del] at * <;> grind)) ?_
 rintro Ec rfl i ⟨hi, hall⟩
 by_cases hlt : i < a.t.length
 ·have hkd : decide ((i : Int) < a.t.length) = true := decide_eq_true (by omega)
  have hti : (i : Int) < a.t.length := by omega
  have hco := fa.co _ (List.getElem_mem hlt)
  have hst : a.t[i].v.size ≤ 4611686018427387904 := by have := fa.str _ (List.getElem_mem hlt); omega
  have e : a.t.getD i default = a.t[i] := by simp [hlt]
  have e2 : ∀ hj : i - 1 < a.t.length, a.t.getD (i - 1) default = a.t[i - 1] := fun hj => by simp [hj]
  have hok : okAt a.t i = (nameB (B a.t[i].v) && (decide (i = 0) || ltS (a.t.getD (i - 1) default).v a.t[i].v) && decide (a.t[i].c ≠ 0) && within a.t[i].c 1048576) := by unfold okAt; rw [e]
  have bad : okAt a.t i = false → validL a = false := fun g => by
   unfold validL termsOk
   have : (List.range a.t.length).all (okAt a.t) = false := by rw [List.all_eq_false]; exact ⟨i, List.mem_range.2 hlt, by rw [g]; decide⟩
   rw [this]; rfl
  by_cases n1 : nameB (B a.t[i].v) = true
  ·by_cases c0 : a.t[i].c = 0
   ·rw [bad (by rw [hok, c0]; simp)] at h
    repeat' (first | with_reducible refine And.intro ?_ ?_ | simp only [go_sem,seval, hkd, e1, n1, Rw_at _ _ hlt, Rw_get _ _ hlt, c0, Bool.not_true, Bool.not_false, decide_true, decide_false] | simp (disch := omega) only [wrap64, Rw_at] | simp (disch := first | omega | grind) only [heap_ne_] | intro hx_ | with_reducible refine rName_a _ hst _ ?_ | omega)
    exact Fin.less (by simp only [Go.Av.Heap.Le, Go.Av.Heap.set, Go.Av.Heap.del] at * <;> grind) h
   ·by_cases w1 : a.t[i].c < -1048576
    ·rw [bad (by rw [hok]; unfold within; rw [decide_eq_false (show ¬ -1048576 ≤ a.t[i].c by omega)]; simp)] at h
     repeat' (first | with_reducible refine And.intro ?_ ?_ | simp only [go_sem,seval, hkd, e1, n1, Rw_at _ _ hlt, Rw_get _ _ hlt, c0, w1, Bool.not_true, Bool.not_false, decide_true, decide_false] | simp (disch := omega) only [wrap64, Rw_at] | simp (disch := first | omega | grind) only [heap_ne_] | intro hx_ | with_reducible refine rName_a _ hst _ ?_ | omega)
     exact Fin.less (by simp only [Go.Av.Heap.Le, Go.Av.Heap.set, Go.Av.Heap.del] at * <;> grind) h
    ·by_cases w2 : 1048576 < a.t[i].c
     ·rw [bad (by rw [hok]; unfold within; rw [decide_eq_false (show ¬ a.t[i].c ≤ 1048576 by omega)]; simp)] at h
      repeat' (first | with_reducible refine And.intro ?_ ?_ | simp only [go_sem,seval, hkd, e1, n1, Rw_at _ _ hlt, Rw_get _ _ hlt, c0, w1, w2, Bool.not_true, Bool.not_false, decide_true, decide_false] | simp (disch := omega) only [wrap64, Rw_at] | simp (disch := first | omega | grind) only [heap_ne_] | intro hx_ | with_reducible refine rName_a _ hst _ ?_ | omega)
      exact Fin.less (by simp only [Go.Av.Heap.Le, Go.Av.Heap.set, Go.Av.Heap.del] at * <;> grind) h
     ·have w : within a.t[i].c 1048576 = true := by unfold within; rw [decide_eq_true (show -1048576 ≤ a.t[i].c by omega), decide_eq_true (show a.t[i].c ≤ 1048576 by omega)]; rfl
      by_cases n2 : i = 0
      ·have z0 : ¬ ((0 : Int) < i) := by omega
       have okt : okAt a.t i = true := by rw [hok, n1, w, decide_eq_true n2, decide_eq_true (show a.t[i].c ≠ 0 from c0)]; rfl
       repeat' (first | with_reducible refine And.intro ?_ ?_ | simp only [go_sem,seval, hkd, e1, n1, Rw_at _ _ hlt, Rw_get _ _ hlt, c0, w1, w2, z0, Bool.not_true, Bool.not_false, decide_true, decide_false] | simp (disch := omega) only [wrap64, Rw_at] | simp (disch := first | omega | grind) only [heap_ne_] | intro hx_ | with_reducible refine rName_a _ hst _ ?_ | omega)
       exact nx_mk (i + 1) ⟨by omega, by rw [List.range_succ, List.all_append, hall]; simp [okt]⟩ (by omega) (by (try simp only [go_sem,seval]) <;> (try simp (disch := omega) [wrap64]) <;> (try omega)) (by simp only [Go.Av.Heap.Le, Go.Av.Heap.set, Go.Av.Heap.del] at * <;> grind)
      ·have hj : i - 1 < a.t.length := by omega
       have z0 : (0 : Int) < i := by omega
       have ek : (i : Int) - 1 = ((i - 1 : Nat) : Int) := by omega
       have hji : ((i - 1 : Nat) : Int) < a.t.length := by omega
       by_cases l : ltS a.t[i - 1].v a.t[i].v = true
       ·have lb : Op.bytesLess a.t[i - 1].v.data.toList a.t[i].v.data.toList = true := l
        have okt : okAt a.t i = true := by rw [hok, n1, w, e2 hj, l, Bool.or_true, decide_eq_true (show a.t[i].c ≠ 0 from c0)]; rfl
        repeat' (first | with_reducible refine And.intro ?_ ?_ | simp only [go_sem,seval, hkd, e1, n1, Rw_at _ _ hlt, Rw_get _ _ hlt, c0, w1, w2, z0, ek, hji, Rw_at _ _ hj, Rw_get _ _ hj, bs_geq, lb, Bool.not_true, Bool.not_false, decide_true, decide_false] | simp (disch := omega) only [wrap64, Rw_at] | simp (disch := first | omega | grind) only [heap_ne_] | intro hx_ | with_reducible refine rName_a _ hst _ ?_ | omega)
        exact nx_mk (i + 1) ⟨by omega, by rw [List.range_succ, List.all_append, hall]; simp [okt]⟩ (by omega) (by (try simp only [go_sem,seval]) <;> (try simp (disch := omega) [wrap64]) <;> (try omega)) (by simp only [Go.Av.Heap.Le, Go.Av.Heap.set, Go.Av.Heap.del] at * <;> grind)
       ·have l : ltS a.t[i - 1].v a.t[i].v = false := by simpa using l
        have lb : Op.bytesLess a.t[i - 1].v.data.toList a.t[i].v.data.toList = false := l
        rw [bad (by rw [hok, n1, e2 hj, l, decide_eq_false n2]; rfl)] at h
        repeat' (first | with_reducible refine And.intro ?_ ?_ | simp only [go_sem,seval, hkd, e1, n1, Rw_at _ _ hlt, Rw_get _ _ hlt, c0, w1, w2, z0, ek, hji, Rw_at _ _ hj, Rw_get _ _ hj, bs_geq, lb, Bool.not_true, Bool.not_false, decide_true, decide_false] | simp (disch := omega) only [wrap64, Rw_at] | simp (disch := first | omega | grind) only [heap_ne_] | intro hx_ | with_reducible refine rName_a _ hst _ ?_ | omega)
        exact Fin.less (by simp only [Go.Av.Heap.Le, Go.Av.Heap.set, Go.Av.Heap.del] at * <;> grind) h
  ·have n1 : nameB (B a.t[i].v) = false := by simpa using n1
   rw [bad (by rw [hok, n1]; rfl)] at h
   repeat' (first | with_reducible refine And.intro ?_ ?_ | simp only [go_sem,seval, hkd, e1, n1, Rw_at _ _ hlt, Rw_get _ _ hlt, Bool.not_true, Bool.not_false, decide_true, decide_false] | simp (disch := omega) only [wrap64, Rw_at] | simp (disch := first | omega | grind) only [heap_ne_] | intro hx_ | with_reducible refine rName_a _ hst _ ?_ | omega)
   exact Fin.less (by simp only [Go.Av.Heap.Le, Go.Av.Heap.set, Go.Av.Heap.del] at * <;> grind) h
 ·have hkd : decide ((i : Int) < a.t.length) = false := decide_eq_false (by omega)
  have hie : i = a.t.length := by omega
  subst hie
  have hv : validL a = true := by
   unfold validL termsOk within
   rw [hall, decide_eq_true (show a.t.length ≤ 12 by omega), decide_eq_true (show -1099511627776 ≤ a.k by omega), decide_eq_true (show a.k ≤ 1099511627776 by omega)]; rfl
  rw [hv] at h
  repeat' (first | with_reducible refine And.intro ?_ ?_ | simp only [go_sem,seval, hkd, e1] | simp (disch := omega) only [wrap64, Rw_at] | simp (disch := first | omega | grind) only [heap_ne_] | intro hx_ | omega)
  exact Fin.less (by simp only [Go.Av.Heap.Le, Go.Av.Heap.set, Go.Av.Heap.del] at * <;> grind) h
end Go.Proofs.YtacekpdodelnbaaGreatDoor
end
section
set_option maxRecDepth 20000
namespace Go.Lin
open Go Go.Av Go.Lexs
theorem nameT_len (l : List LinV) (i j : Nat) (h : i < l.length) : (nameT l i j).length ≤ (namesL l).length := by
 have e : namesL l = namesL (l.take i) ++ (l[i].t.map (·.v) ++ namesL (l.drop (i + 1))) := by
  unfold namesL
  conv => lhs; rw [← List.take_append_drop i l, List.drop_eq_getElem_cons h]
  rw [List.flatMap_append, List.flatMap_cons]
 rw [e]
 unfold nameT
 rw [show l.getD i default = l[i] by simp [h]]
 simp only [List.length_append, List.length_map, List.length_take]
 omega
end Go.Lin
namespace Go.Proofs.YtacekpdodelnbaaGreatDoor
open Go Go.Av Go.Lexs Go.Lin
attribute [local irreducible] ACalls at8
end Go.Proofs.YtacekpdodelnbaaGreatDoor
end
section
set_option maxRecDepth 20000
namespace Go.Lin
open Go Go.Av Go.Lexs
theorem withS_at : ∀ (l : List ByteArray) (s : ByteArray) (i : Nat) (hi : i ≤ l.length), (∀ (k : Nat) (hk : k < l.length), k < i → ltS l[k] s = true) → (∀ hk : i < l.length, ltS l[i] s = false) →
  withS l s = if (∃ hk : i < l.length, l[i] = s) then l else l.take i ++ [s] ++ l.drop i
 | [], s, i, hi, _, _ => by
  have : i = 0 := by simpa using hi
  subst this
  simp [withS]
 | x :: l, s, 0, _, _, h2 => by
  have h := h2 (by simp)
  simp only [List.getElem_cons_zero] at h
  rw [withS, h]
  by_cases e : x = s
  ·simp [e]
  ·simp [e]
 | x :: l, s, i + 1, hi, h1, h2 => by
  have h0 := h1 0 (by simp) (by omega)
  simp only [List.getElem_cons_zero] at h0
  rw [withS, if_pos h0, withS_at l s i (by simpa using hi) (fun k hk g => by have := h1 (k + 1) (by simpa using hk) (by omega); simpa using this) (fun hk => by have := h2 (by simpa using hk); simpa using this)]
  by_cases e : ∃ hk : i < l.length, l[i] = s
  ·rw [if_pos e, if_pos (by obtain ⟨a, b⟩ := e; exact ⟨by simpa using a, by simpa using b⟩)]
  ·rw [if_neg e, if_neg (fun g => e (by obtain ⟨a, b⟩ := g; exact ⟨by simpa using a, by simpa using b⟩))]
   simp
def nsD : List ByteArray → D
 | [] => .nilsl
 | x :: l => .sl 1 (Rw strC (x :: l))
@[simp] theorem nsD_e : nsD [] = .nilsl := rfl
theorem nsD_with (l : List ByteArray) (s : ByteArray) : nsD (withS l s) = .sl 1 (Rw strC (withS l s)) := by
 cases l with
 | nil => rfl
 | cons x l =>
  rw [withS]
  split
  ·rfl
  ·split <;> rfl
theorem nsD_nil (l : List ByteArray) : NilR (nsD l) (.sl 1 (Rw strC l)) := by
 cases l with
 | nil => exact .nil _
 | cons x l => exact .same _
theorem foldW_snoc (m : List ByteArray) (s : ByteArray) : (m ++ [s]).foldl withS [] = withS (m.foldl withS []) s := by rw [List.foldl_append]; rfl
end Go.Lin
namespace Go.Proofs.YtacekpdodelnbaaGreatDoor
open Go Go.Av Go.Lexs Go.Lin
attribute [local irreducible] ACalls at8
theorem with_r {Q} (l : List ByteArray) (hl : l.length ≤ 1000000000) (s : ByteArray) (H : Heap) (h : Q (.sl 1 (Rw strC (withS l s))) H) : ACalls Tryz.prog 42 [.sl 1 (Rw strC l), .str s] H Q := by
 refine acalls_of_wp [(7, .ord [0, 1, 4, 5, 6, 2, 3, 7, 8])] Tryz.mixed Tryz.func42 rfl (by kernel_rfl) (of_decide_eq_true (by kernel_rfl)) (by kernel_rfl) ?_
 simp only [go_sem,seval, Tryz.results42]
 refine loop_c [0, 1] (fun (i : Nat) => [(5, .int .i64 i)]) (fun (i : Nat) => H) (fun (i : Nat) => i ≤ l.length ∧ ∀ (k : Nat) (hk : k < l.length), k < i → ltS l[k] s = true) (fun (i : Nat) => l.length - i) (0) (⟨Nat.zero_le _, fun _ _ h => by omega⟩) (by (try simp only [go_sem,seval]) <;> (try simp (disch := omega) [wrap64]) <;> (try omega)) (by first | with_reducible exact Heap.Le.refl _ | exact heap_set_le (by assumption) | exact Heap.Le.refl _ | exact heap_le_set (by assumption) | exact (by simp only [Go.Av.Heap.Le, Go.Av.Heap.set, Go.Av.Heap.del] at * <;> grind)) ?_
 rintro Ec rfl i ⟨hi, hall⟩
 by_cases hlt : i < l.length
 ·have hkd : decide ((i : Int) < l.length) = true := decide_eq_true (by omega)
  have hti : (i : Int) < l.length := by omega
  by_cases c : ltS l[i] s = true
  ·have lb : Op.bytesLess l[i].data.toList s.data.toList = true := c
   repeat' (first | with_reducible refine And.intro ?_ ?_ | simp only [go_sem,seval, hkd, hti, Rw_at _ _ hlt, Rw_get _ _ hlt, lb] | simp (disch := omega) only [wrap64, Rw_at, withS_at] | simp (disch := first | omega | grind) only [heap_ne_, del_ne] | (intro hx_; try simp only [set_none] at hx_) | omega)
   exact nx_mk (i + 1) ⟨by omega, fun k hk hki => (Nat.lt_or_ge k i).elim (fun g => hall k hk g) (fun g => by have : k = i := (by omega); subst this; exact c)⟩ (by omega) (by (try simp only [go_sem,seval]) <;> (try simp (disch := omega) [wrap64]) <;> (try omega)) (by simp only [Go.Av.Heap.Le, Go.Av.Heap.set, Go.Av.Heap.del] at * <;> grind)
  ·have c : ltS l[i] s = false := by simpa using c
   have lb : Op.bytesLess l[i].data.toList s.data.toList = false := c
   have e := withS_at l s i hi hall (fun _ => c)
   by_cases q : l[i] = s
   ·rw [if_pos ⟨hlt, q⟩] at e
    rw [e] at h
    have qb : decide (B l[i] = B s) = true := decide_eq_true (by rw [q])
    repeat' (first | with_reducible refine And.intro ?_ ?_ | simp only [go_sem,seval, hkd, hti, Rw_at _ _ hlt, Rw_get _ _ hlt, lb, qb] | simp (disch := omega) only [wrap64, Rw_at, withS_at] | simp (disch := first | omega | grind) only [heap_ne_, del_ne] | (intro hx_; try simp only [set_none] at hx_) | omega)
    exact Fin.same h
   ·rw [if_neg (fun g => q g.2)] at e
    rw [e] at h
    have qb : decide (B l[i] = B s) = false := decide_eq_false fun g => q (B_inj g)
    repeat' (first | with_reducible refine And.intro ?_ ?_ | simp only [go_sem,seval, hkd, hti, Rw_at _ _ hlt, Rw_get _ _ hlt, lb, qb, Rw_take, Rw_drop] | simp (disch := omega) only [wrap64, Rw_at, withS_at] | simp (disch := first | omega | grind) only [heap_ne_, del_ne] | (intro hx_; try simp only [set_none] at hx_) | omega)
    rename_i x8 h8 x6
    have h6 := hx_
    clear hx_
    rw [set_del h8] at h6 ⊢
    refine ord_mk [] ?_
    repeat' (first | with_reducible refine And.intro ?_ ?_ | simp only [go_sem,seval, Rw_take, Rw_drop] | simp (disch := omega) only [wrap64, Rw_at, withS_at] | simp (disch := first | omega | grind) only [heap_ne_, del_ne] | (intro hx_; try simp only [set_none] at hx_) | omega)
    rename_i x4 h4 x2 h2 x0
    have h0 := hx_
    clear hx_
    refine Fin.out (ob := some x0) (es := Rw strC (l.take i ++ [s] ++ l.drop i)) ?_ ?_ (Fin.less (fun k o hk => ?_) h)
    ·rw [Rw_len]; simp; omega
    ·show Heap.set _ _ _ _ = _
     rw [heap_same]
     have ht : ∀ (X : List (List D)) (y : List D), X.length = i → List.take (i + 1) (X ++ [y]) = X ++ [y] := fun X y h => List.take_of_length_le (by simp [h])
     have hm := Nat.min_eq_left hi
     simp only [hm]
     rw [ht _ _ (by simp [Rw]; omega)]
     simp [Rw, strC, List.take_take]
    ·have k6 : k ≠ x6 := fun e => by rw [e, h6] at hk; cases hk
     have k4 : k ≠ x4 := fun e => by rw [e, h4.2] at hk; cases hk
     have k2 : k ≠ x2 := fun e => by subst e; simp [Heap.set, Heap.del, k6, k4, hk] at h2
     have k0 : k ≠ x0 := fun e => by subst e; simp [Heap.set, Heap.del, k6, k4, k2, hk] at h0
     show Heap.del _ _ _ = _
     simp [Heap.set, Heap.del, k6, k4, k2, k0, hk]
 ·have hkd : decide ((i : Int) < l.length) = false := decide_eq_false (by omega)
  have hie : i = l.length := by omega
  subst hie
  have e := withS_at l s l.length hi hall (fun g => absurd g (by omega))
  rw [if_neg (fun g => absurd g.1 (by omega))] at e
  rw [e] at h
  repeat' (first | with_reducible refine And.intro ?_ ?_ | simp only [go_sem,seval, hkd, Rw_take, Rw_drop] | simp (disch := omega) only [wrap64, Rw_at, withS_at] | simp (disch := first | omega | grind) only [heap_ne_, del_ne] | (intro hx_; try simp only [set_none] at hx_) | omega)
  rename_i x8 h8 x6
  have h6 := hx_
  clear hx_
  rw [set_del h8] at h6 ⊢
  refine ord_mk [] ?_
  repeat' (first | with_reducible refine And.intro ?_ ?_ | simp only [go_sem,seval, Rw_take, Rw_drop] | simp (disch := omega) only [wrap64, Rw_at, withS_at] | simp (disch := first | omega | grind) only [heap_ne_, del_ne] | (intro hx_; try simp only [set_none] at hx_) | omega)
  rename_i x4 h4 x2 h2 x0
  have h0 := hx_
  clear hx_
  refine Fin.out (ob := some x0) (es := Rw strC (l.take l.length ++ [s] ++ l.drop l.length)) ?_ ?_ (Fin.less (fun k o hk => ?_) h)
  ·rw [Rw_len]; simp <;> omega
  ·show Heap.set _ _ _ _ = _
   rw [heap_same]
   have ht : ∀ (X : List (List D)) (y : List D), X.length = l.length → List.take (l.length + 1) (X ++ [y]) = X ++ [y] := fun X y h => List.take_of_length_le (by simp [h])
   simp [Rw, strC]
   rw [ht _ _ (by simp)]
  ·have k6 : k ≠ x6 := fun e => by rw [e, h6] at hk; cases hk
   have k4 : k ≠ x4 := fun e => by rw [e, h4.2] at hk; cases hk
   have k2 : k ≠ x2 := fun e => by subst e; simp [Heap.set, Heap.del, k6, k4, hk] at h2
   have k0 : k ≠ x0 := fun e => by subst e; simp [Heap.set, Heap.del, k6, k4, k2, hk] at h0
   show Heap.del _ _ _ = _
   simp [Heap.set, Heap.del, k6, k4, k2, k0, hk]
theorem withN_r {Q} (l : List ByteArray) (hl : l.length ≤ 1000000000) (s : ByteArray) (H : Heap) (h : Q (nsD (withS l s)) H) : ACalls Tryz.prog 42 [nsD l, .str s] H Q := by
 refine ACalls.nilR (args' := [.sl 1 (Rw strC l), .str s]) rfl (fun i d d' h1 h2 => ?_) (with_r l hl s H (by rw [nsD_with] at h; exact h))
 match i with
 | 0 => cases h1; cases h2; exact nsD_nil l
 | 1 => cases h1; cases h2; exact .same _
 | i + 2 => cases h1
theorem rVars_a {Q} (l : List LinV) (hlen : l.length ≤ 1000000000) (hnm : (namesL l).length ≤ 1000000000) (hts : ∀ c ∈ l, c.t.length ≤ 1000000000) (H : Heap) (h : Q (.sl 1 (Rw strC (varsL l))) H) : ACalls Tryz.prog 43 [.sl 3 (Rw linC l)] H Q := by
 refine acalls_of_wp [] Tryz.mixed Tryz.func43 rfl (by kernel_rfl) (of_decide_eq_true (by kernel_rfl)) (by kernel_rfl) ?_
 simp only [go_sem,seval, Tryz.results43]
 refine loop_c [8, 9] (fun (p : Nat × List ByteArray) => [(10, .int .i64 p.1), (3, nsD p.2)]) (fun (p : Nat × List ByteArray) => H) (fun (p : Nat × List ByteArray) => p.1 ≤ l.length ∧ p.2 = (nameT l p.1 0).foldl withS []) (fun (p : Nat × List ByteArray) => l.length - p.1) ((0, [])) (⟨Nat.zero_le _, rfl⟩) (by (try simp only [go_sem,seval]) <;> (try simp (disch := omega) [wrap64]) <;> (try omega)) (by first | with_reducible exact Heap.Le.refl _ | exact heap_set_le (by assumption) | exact Heap.Le.refl _ | exact heap_le_set (by assumption) | exact (by simp only [Go.Av.Heap.Le, Go.Av.Heap.set, Go.Av.Heap.del] at * <;> grind)) ?_
 rintro Ec rfl ⟨i, ns⟩ ⟨hi, hns⟩
 simp only at hi hns
 by_cases hlt : i < l.length
 ·have hkd : decide ((i : Int) < l.length) = true := decide_eq_true (by omega)
  have hti : (i : Int) < l.length := by omega
  have htl := hts _ (List.getElem_mem hlt)
  repeat' (first | with_reducible refine And.intro ?_ ?_ | simp only [go_sem,seval, hkd, Rw_at _ _ hlt, Rw_get _ _ hlt] | simp (disch := omega) only [wrap64, Rw_at] | intro hx_ | omega)
  rename_i b5
  have h5 := hx_
  clear hx_
  have hle : H.Le (H.set b5 (.box (linC l[i]))) := heap_le_set h5
  refine loop_c [8, 9, 10, 15, 16] (fun (p : Nat × List ByteArray) => [(17, .int .i64 p.1), (3, nsD p.2)]) (fun (p : Nat × List ByteArray) => H) (fun (p : Nat × List ByteArray) => p.1 ≤ l[i].t.length ∧ p.2 = (nameT l i p.1).foldl withS []) (fun (p : Nat × List ByteArray) => l[i].t.length - p.1) ((0, ns)) (⟨Nat.zero_le _, hns⟩) (by (try simp only [go_sem,seval]) <;> (try simp (disch := omega) [wrap64]) <;> (try omega)) (by first | with_reducible exact Heap.Le.refl _ | exact heap_set_le (by assumption) | exact Heap.Le.refl _ | exact heap_le_set (by assumption) | exact (by simp only [Go.Av.Heap.Le, Go.Av.Heap.set, Go.Av.Heap.del] at * <;> grind)) ?_
  clear hns
  rintro Ec rfl ⟨j, ns⟩ ⟨hj, hns⟩
  simp only at hj hns
  by_cases hjt : j < l[i].t.length
  ·have hkd2 : decide ((j : Int) < l[i].t.length) = true := decide_eq_true (by omega)
   have hjr : (j : Int) < l[i].t.length := by omega
   have nt := nameT_succ l i j hlt hjt
   have hb := foldW_len (nameT l i j) []
   have hb2 := nameT_len l i j hlt
   rw [List.length_nil, ← hns] at hb
   repeat' (first | with_reducible refine And.intro ?_ ?_ | simp only [go_sem,seval, hkd2, hjr, Rw_at _ _ hjt, Rw_get _ _ hjt] | simp (disch := omega) only [wrap64, Rw_at] | intro hx_ | with_reducible refine withN_r _ (by omega) _ _ ?_ | omega)
   exact nx_mk (j + 1, withS ns l[i].t[j].v) ⟨by simp only []; omega, by simp only []; rw [nt, foldW_snoc, hns]⟩ (by simp only []; omega) (by (try simp only [go_sem,seval]) <;> (try simp (disch := omega) [wrap64]) <;> (try omega)) (by simp only [Go.Av.Heap.Le, Go.Av.Heap.set, Go.Av.Heap.del] at * <;> grind)
  ·have hkd2 : decide ((j : Int) < l[i].t.length) = false := decide_eq_false (by omega)
   have hje : j = l[i].t.length := by omega
   subst hje
   rw [nameT_next l i hlt] at hns
   repeat' (first | with_reducible refine And.intro ?_ ?_ | simp only [go_sem,seval, hkd2] | simp (disch := omega) only [wrap64, Rw_at] | intro hx_ | omega)
   exact nx_mk (i + 1, ns) ⟨by simp only []; omega, hns⟩ (by simp only []; omega) (by (try simp only [go_sem,seval]) <;> (try simp (disch := omega) [wrap64]) <;> (try omega)) (by simp only [Go.Av.Heap.Le, Go.Av.Heap.set, Go.Av.Heap.del] at * <;> grind)
 ·have hkd : decide ((i : Int) < l.length) = false := decide_eq_false (by omega)
  have hie : i = l.length := by omega
  subst hie
  rw [nameT_all] at hns
  repeat' (first | with_reducible refine And.intro ?_ ?_ | simp only [go_sem,seval, hkd] | simp (disch := omega) only [wrap64, Rw_at] | intro hx_ | omega)
  subst hns
  exact Fin.nilR (nsD_nil _) (Fin.less (by simp only [Go.Av.Heap.Le, Go.Av.Heap.set, Go.Av.Heap.del] at * <;> grind) h)
end Go.Proofs.YtacekpdodelnbaaGreatDoor
end
section
set_option maxRecDepth 20000
namespace Go.Lin
open Go Go.Av Go.Lexs
end Go.Lin
namespace Go.Proofs.YtacekpdodelnbaaGreatDoor
open Go Go.Av Go.Lexs Go.Lin
attribute [local irreducible] ACalls at8
theorem rAll_a {Q} (l : List LinV) (hlen : l.length ≤ 1000000000) (fl : ∀ c ∈ l, LinFit c) (H : Heap) (h : Q (.bool (allL l)) H) : ACalls Tryz.prog 18 [.sl 3 (Rw linC l)] H Q := by
 refine acalls_of_wp [] Tryz.mixed Tryz.func18 rfl (by kernel_rfl) (of_decide_eq_true (by kernel_rfl)) (by kernel_rfl) ?_
 simp only [go_sem,seval, Tryz.results18]
 unfold allL at h
 by_cases h1 : l.length ≤ 60
 ·have g1 : ¬ (60 : Int) < l.length := by omega
  rw [decide_eq_true h1] at h
  repeat' (first | with_reducible refine And.intro ?_ ?_ | simp only [go_sem,seval, g1] | simp (disch := omega) only [wrap64, Rw_at] | intro hx_ | omega)
  refine loop_c [0, 8, 9] (fun (i : Nat) => [(10, .int .i64 i)]) (fun (i : Nat) => H) (fun (i : Nat) => i ≤ l.length ∧ ∀ (k : Nat) (hk : k < l.length), k < i → validL l[k] = true) (fun (i : Nat) => l.length - i) (0) (⟨Nat.zero_le _, fun _ _ h => by omega⟩) (by (try simp only [go_sem,seval]) <;> (try simp (disch := omega) [wrap64]) <;> (try omega)) (by first | with_reducible exact Heap.Le.refl _ | exact heap_set_le (by assumption) | exact Heap.Le.refl _ | exact heap_le_set (by assumption) | exact (by simp only [Go.Av.Heap.Le, Go.Av.Heap.set, Go.Av.Heap.del] at * <;> grind)) ?_
  rintro Ec rfl i ⟨hi, hall⟩
  by_cases hlt : i < l.length
  ·have hkd : decide ((i : Int) < l.length) = true := decide_eq_true (by omega)
   have hti : (i : Int) < l.length := by omega
   have fi := fl _ (List.getElem_mem hlt)
   by_cases c : validL l[i] = true
   ·repeat' (first | with_reducible refine And.intro ?_ ?_ | simp only [go_sem,seval, hkd, hti, Rw_at _ _ hlt, Rw_get _ _ hlt, c] | simp (disch := omega) only [wrap64, Rw_at] | intro hx_ | with_reducible refine rValid_a _ fi _ ?_ | omega)
    exact nx_mk (i + 1) ⟨by omega, fun k hk hki => (Nat.lt_or_ge k i).elim (fun g => hall k hk g) (fun g => by have : k = i := (by omega); subst this; exact c)⟩ (by omega) (by (try simp only [go_sem,seval]) <;> (try simp (disch := omega) [wrap64]) <;> (try omega)) (by simp only [Go.Av.Heap.Le, Go.Av.Heap.set, Go.Av.Heap.del] at * <;> grind)
   ·have c : validL l[i] = false := by simpa using c
    have hv : l.all validL = false := by rw [List.all_eq_false]; exact ⟨_, List.getElem_mem hlt, by rw [c]; decide⟩
    rw [hv] at h
    simp only [Bool.true_and, Bool.false_and] at h
    repeat' (first | with_reducible refine And.intro ?_ ?_ | simp only [go_sem,seval, hkd, hti, Rw_at _ _ hlt, Rw_get _ _ hlt, c] | simp (disch := omega) only [wrap64, Rw_at] | intro hx_ | with_reducible refine rValid_a _ fi _ ?_ | omega)
    exact Fin.less (by simp only [Go.Av.Heap.Le, Go.Av.Heap.set, Go.Av.Heap.del] at * <;> grind) h
  ·have hkd : decide ((i : Int) < l.length) = false := decide_eq_false (by omega)
   have hval : ∀ c ∈ l, validL c = true := fun c hc => by
    obtain ⟨k, hk, rfl⟩ := List.getElem_of_mem hc
    exact hall k hk (by omega)
   have hv : l.all validL = true := List.all_eq_true.2 hval
   rw [hv] at h
   simp only [Bool.true_and] at h
   have hnl := names_len l hval
   have e12 : decide ((varsL l).length ≤ 12) = decide (((varsL l).length : Int) ≤ 12) := decide_eq_decide.2 (by omega)
   rw [e12] at h
   repeat' (first | with_reducible refine And.intro ?_ ?_ | simp only [go_sem,seval, hkd] | simp (disch := omega) only [wrap64, Rw_at] | intro hx_ | with_reducible refine rVars_a l hlen (by omega) (fun c hx => by have := (valid_ok (hval c hx)).len; omega) _ ?_ | omega)
   exact Fin.less (by simp only [Go.Av.Heap.Le, Go.Av.Heap.set, Go.Av.Heap.del] at * <;> grind) h
 ·have g1 : (60 : Int) < l.length := by omega
  rw [decide_eq_false h1] at h
  simp only [Bool.false_and] at h
  repeat' (first | with_reducible refine And.intro ?_ ?_ | simp only [go_sem,seval, g1] | simp (disch := omega) only [wrap64, Rw_at] | intro hx_ | omega)
  exact Fin.same h
end Go.Proofs.YtacekpdodelnbaaGreatDoor
end
section
set_option maxRecDepth 20000
namespace Go.Lin
open Go Go.Av Go.Lexs
theorem all_long {l : List LinV} (h : 60 < l.length) : allL l = false := by unfold allL; rw [decide_eq_false (by omega)]; rfl
end Go.Lin
namespace Go.Proofs.YtacekpdodelnbaaGreatDoor
open Go Go.Av Go.Lexs Go.Lin
attribute [local irreducible] ACalls at8
theorem Tabs.hro {H H' : Heap} (hT : Tabs H) (h : ∀ k cs, H k = some (.ro cs) → H' k = some (.ro cs)) : Tabs H' := ⟨h _ _ hT.pow, let ⟨t, e⟩ := hT.syn; ⟨t, h _ _ e⟩, let ⟨t, e⟩ := hT.rng; ⟨t, h _ _ e⟩⟩
theorem allG_a {Q} (l : List LinV) (hlen : l.length ≤ 5864062014639) (fl : ∀ c ∈ l, LinFit c) (H : Heap) (h : Q (.bool (allL l)) H) : ACalls Tryz.prog 17 [.sl 3 (Rw linC l)] H Q := by
 by_cases h1 : l.length ≤ 60
 ·exact all_a l (by omega) fl H h
 refine acalls_of_wp [] Tryz.mixed Tryz.func17 rfl (by kernel_rfl) (of_decide_eq_true (by kernel_rfl)) (by kernel_rfl) ?_
 simp only [go_sem,seval, Tryz.results17]
 rw [all_long (by omega)] at h
 have g1 : (60 : Int) < l.length := by omega
 repeat' (first | with_reducible refine And.intro ?_ ?_ | simp only [go_sem,seval, g1] | intro hx_ | omega)
 exact Fin.same h
theorem rAllG_a {Q} (l : List LinV) (hlen : l.length ≤ 5864062014639) (fl : ∀ c ∈ l, LinFit c) (H : Heap) (h : Q (.bool (allL l)) H) : ACalls Tryz.prog 18 [.sl 3 (Rw linC l)] H Q := by
 by_cases h1 : l.length ≤ 60
 ·exact rAll_a l (by omega) fl H h
 refine acalls_of_wp [] Tryz.mixed Tryz.func18 rfl (by kernel_rfl) (of_decide_eq_true (by kernel_rfl)) (by kernel_rfl) ?_
 simp only [go_sem,seval, Tryz.results18]
 rw [all_long (by omega)] at h
 have g1 : (60 : Int) < l.length := by omega
 repeat' (first | with_reducible refine And.intro ?_ ?_ | simp only [go_sem,seval, g1] | intro hx_ | omega)
 exact Fin.same h
theorem fits1 {c : LinV} (fc : LinFit c) : ∀ x ∈ [c], LinFit x := fun x hx => by rw [List.mem_singleton] at hx; rw [hx]; exact fc
theorem lawValid_a {Q} (c : LinV) (l : List LinV) (fc : LinFit c) (hl : l.length ≤ 5864062014639) (fl : ∀ c ∈ l, LinFit c) (H : Heap) (hT : Tabs H) (h : Q (.bool true) H) : ACalls Tryz.prog 3 [.agg (linC c), .sl 3 (Rw linC l)] H Q := by
 refine acalls_of_wp [(3, .par)] Tryz.mixed Tryz.func3 rfl (by kernel_rfl) (of_decide_eq_true (by kernel_rfl)) (by kernel_rfl) ?_
 simp only [go_sem,seval, Tryz.results3]
 intro b2 g2
 have e2 : (H.set b2 (.box (linC c))) b2 = some (.box (linC c)) := heap_same _ _
 have hle : H.Le (H.set b2 (.box (linC c))) := heap_le_set g2
 generalize H.set b2 (.box (linC c)) = Bs at e2 hle ⊢
 have hTb := hT.le hle
 have m2 : b2 ∈ [b2] := by simp
 repeat' (first | with_reducible refine And.intro ?_ ?_ | simp only [go_sem,seval, e2] | intro hx_ | omega)
 refine few1_a (by assumption) [c] rfl (by simp) (fits1 fc) fun x => ?_
 cases x with
 | false =>
  repeat' (first | with_reducible refine And.intro ?_ ?_ | simp only [go_sem,seval] | intro hx_ | with_reducible refine awake_a _ hTb ?_ | omega)
  exact Fin.less hle h
 | true =>
  repeat' (first | with_reducible refine And.intro ?_ ?_ | simp only [go_sem,seval] | intro hx_ | omega)
  refine few_a l hl fl _ fun y => ?_
  cases y with
  | false =>
   repeat' (first | with_reducible refine And.intro ?_ ?_ | simp only [go_sem,seval] | intro hx_ | with_reducible refine awake_a _ hTb ?_ | omega)
   exact Fin.less hle h
  | true =>
   repeat' (first | with_reducible refine And.intro ?_ ?_ | simp only [go_sem,seval] | intro hx_ | omega)
   refine par_mk (fun i' => if i' = 1 then .bool (validL c) else if i' = 3 then .bool (validL c) else if i' = 7 then .bool (allL l) else if i' = 9 then .bool (allL l) else if i' = 13 then .bool true else .undef) [b2] ?_
   repeat' (first | with_reducible refine And.intro ?_ ?_ | simp only [go_sem,seval, e2, m2] | intro hx_ | with_reducible refine pc0 (fun H' Q hro hq => valid_a c fc H' hq) ?_ | with_reducible refine pc0 (fun H' Q hro hq => rValid_a c fc H' hq) ?_ | with_reducible refine pc0 (fun H' Q hro hq => allG_a l hl fl H' hq) ?_ | with_reducible refine pc0 (fun H' Q hro hq => rAllG_a l hl fl H' hq) ?_ | with_reducible refine pc0 (fun H' Q hro hq => awake_a H' (hTb.hro hro) hq) ?_ | omega)
   exact Fin.less hle h
end Go.Proofs.YtacekpdodelnbaaGreatDoor
end
section
namespace Go.Av
open Go.RowKit Go.ChangeShapes Go.WideShapes
section
variable {H : Type} {enc : TypeId × Value → H} {P : Program}
theorem fitsV_sl {t e : TypeId} {x : D} (hu : P.underlying t = some (.slice e)) (h : FitsV P t x) : ∃ es, x = .sl (P.cellsOf e) es ∧ es.length * P.bytesOf e ≤ reachBytes ∧ ∀ y ∈ es, Fits P e y := by
 obtain ⟨s, h1, h2⟩ := fits_sl hu (fitsV_leaf (by simp [hu]) h)
 simp at h1
 exact ⟨s, h1, h2⟩
end
end Go.Av
end
section
set_option maxRecDepth 100000
namespace Go.Proofs.YtacekpdodelnbaaGreatDoor
open Go Go.Av Go.Lexs Go.Lin
theorem fitsV_lins {x : D} (h : FitsV Tryz.prog 25 x) : ∃ l : List LinV, x = .sl 3 (Rw linC l) ∧ l.length ≤ 5864062014639 ∧ ∀ c ∈ l, LinFit c := by
 have hre : reachBytes = 140737488351232 := rfl
 obtain ⟨es, rfl, he, hes⟩ := fitsV_sl (e := 24) (by kernel_rfl) h
 have c1 : Tryz.prog.cellsOf 24 = 3 := by kernel_rfl
 have b1 : Tryz.prog.bytesOf 24 = 40 := by kernel_rfl
 rw [b1] at he
 obtain ⟨l, rfl, hl⟩ := rw_ex (f := linC) (p := LinFit) es (fun y hy => fits_lin (hes y hy))
 rw [Rw_len] at he
 rw [c1]
 exact ⟨l, rfl, by omega, hl⟩
end Go.Proofs.YtacekpdodelnbaaGreatDoor
end
section
set_option maxRecDepth 100000
namespace Go.Proofs.YtacekpdodelnbaaGreatDoor.linearValid
open Go Go.Av Go.Lexs Go.Lin Go.ChangeShapes Go.WideShapes Go.RowKit
theorem lifted (os : Os) (started : os.Started) (H : Type) (enc : TypeId × Value → H) :
  ReturnsInHanded {} Tryz.checked os 3 .any (fun w args => (Rows.linearValidSpec.pre enc Tryz.prog Tryz.f3 Rows.linearValidRow.domain false w args ∧ laidMetH Tryz.prog Rows.linearValidRow.laid w) ∧ sizedMet enc Tryz.prog Tryz.f3 (OpenSpec.ofChange Rows.linearValidSpec) false w args)
   (Rows.linearValidSpec.post enc Tryz.prog Tryz.f3 false true false false) := by
 refine returnsInHanded_of_change_and (C := Tryz.checked) (X := fun w _ => laidMetH Tryz.prog Rows.linearValidRow.laid w) (fun _ _ _ hh h => h.of_heap hh) own started (by kernel_rfl) Tryz.func3
  (ChangeSpec.witness_shaped (enc := enc) (C := Tryz.checked) (os := os) (X := fun w _ => laidMetH Tryz.prog Rows.linearValidRow.laid w) false (World.laidAll Tryz.prog os Rows.linearValidRow.laid) #[.agg #[.slice none 0 0, .int .i64 0, .bool false], .slice none 0 0] 8 (World.laidAll_os _ _ _)
   (World.shaped_of_ZipB (by kernel_rfl) (by kernel_rfl)) (by kernel_rfl) (by kernel_rfl) (by kernel_rfl)
   (by rw [MakeChecks.laidMetH_plain _ _ _ (by kernel_rfl)]; exact laidMet_laidAll _ (by kernel_rfl) (by kernel_rfl))) ?_
 intro W base args ds gs before hval hW _ hsz hL _
 rw [MakeChecks.laidMetH_plain _ _ _ (by kernel_rfl)] at hL
 obtain ⟨tu, tv, hS⟩ := tabs_sat hL (by simp [Rows.linearValidRow]) (by simp [Rows.linearValidRow]) (by simp [Rows.linearValidRow])
 have hW' := hW
 obtain ⟨p, q, hA0, hV, _, _, _⟩ := hW
 rw [Tryz.params3] at hA0 hval hsz
 obtain ⟨v0, v1, d0, d1, p0, p1, rfl, rfl, rfl, h0, h1⟩ := trodAll_two hA0
 obtain ⟨rfl, rfl⟩ := trodVars_none hV
 obtain ⟨x0, k0, r0⟩ := arg_fits plain19 (tabs_held tu tv) (by simp) (hval 0 _ _ rfl rfl) h0 (weightsEach_at hsz 0 _ _ rfl rfl)
 obtain ⟨x1, k1, r1⟩ := arg_fits plain19 (tabs_held tu tv) (by simp) (hval 1 _ _ rfl rfl) h1 (weightsEach_at hsz 1 _ _ rfl rfl)
 obtain ⟨c, rfl, fc⟩ := fitsV_lin k0
 obtain ⟨l, rfl, nl, fl⟩ := fitsV_lins k1
 have hre : reachBytes = 140737488351232 := rfl
 refine law_calls laidOut (by kernel_rfl) rfl (tb := 4) (by kernel_rfl) (by kernel_rfl) rfl hW' (tabs tu tv) (tabs_held tu tv) hS [.agg (linC c), .sl 3 (Rw linC l)] rfl (fun i d hd => ?_) (fun Q hQ => lawValid_a c l fc nl fl _ (tabs_tabs tu tv) hQ)
 match i, hd with
 | 0, hd => simp at hd; subst hd; exact r0
 | 1, hd => simp at hd; subst hd; exact r1
 | i + 2, hd => simp at hd
theorem said : Rows.LinearValidSaid :=
 OpenClaim.holds_of_wide 3 Tryz.f3 rfl rfl rfl rfl rfl rfl rfl ⟨rfl, rfl, rfl, rfl, rfl⟩ rfl rfl rfl rfl rfl (by kernel_rfl) Tryz.func3 (by kernel_rfl)
  (of_decide_eq_true (by kernel_rfl)) (by unfold Func.isWrapper; first | (rw [if_pos (by decide +kernel)]; kernel_rfl) | (rw [if_neg (by decide +kernel)]; exact ⟨rfl, rfl⟩))
  (fun os started H enc _ => lifted os started H enc)
theorem plain (f : FuncId) (fn : Func) (hf : Tryz.pinned.checked.prog.funcNamed "voussoir/voussoirlaw19.LinearValid" = some f) (hfn : Tryz.pinned.checked.prog.funcs[f]? = some fn) :
  true = Tryz.pinned.checked.prog.looks [] ∧ ∀ (j : Nat) t, fn.params[j]? = some t → Tryz.pinned.checked.prog.wantsStandIn t = false := by
 obtain rfl : f = 3 := Option.some.inj ((show Tryz.prog.funcNamed "voussoir/voussoirlaw19.LinearValid" = some 3 by kernel_rfl).symm.trans hf) |>.symm
 obtain rfl : fn = Tryz.f3 := (Option.some.inj (Tryz.func3.symm.trans hfn)).symm
 refine ⟨by kernel_rfl, fun j t ht => ?_⟩
 have hall : ((Tryz.f3.params.toList).all fun u => !Tryz.prog.wantsStandIn u) = true := by kernel_rfl
 have := List.all_eq_true.1 hall t (by rw [Array.mem_toList_iff]; exact Array.mem_of_getElem? ht)
 exact (by simpa using this : Tryz.prog.wantsStandIn t = false)
theorem card : Rows.LinearValidCardSaid :=
 Claim7.holds_tied_plain_at .later [] _ _ _ _ said (fun _ h => by cases h) (by kernel_rfl) (fun _ h => by cases h) linearValid_row_tie rfl ⟨rfl, rfl⟩ (by kernel_rfl) rfl plain (by kernel_rfl)
end Go.Proofs.YtacekpdodelnbaaGreatDoor.linearValid
namespace Go.Proofs.YtacekpdodelnbaaGreatDoor
theorem linearValid_holds : Rows.LinearValidCardSaid := linearValid.card
end Go.Proofs.YtacekpdodelnbaaGreatDoor
end
