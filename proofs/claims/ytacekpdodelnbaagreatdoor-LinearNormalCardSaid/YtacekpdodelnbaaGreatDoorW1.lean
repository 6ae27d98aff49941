/- LinearNormal, proved: for every input the law returns true, and the arguments read as before; the listed tables hold what the program's text lays (the card). No other condition than the row's own. -/
import Derived.Test.YtacekpdodelnbaaGreatDoorRows
import Derived.Test.YtacekpdodelnbaaGreatDoorCards
import Derived.Test.YtacekpdodelnbaaGreatDoorTie
import Derived.Test.YtacekpdodelnbaaGreatDoorK6
set_option linter.unusedSimpArgs false
set_option linter.unusedVariables false
section
set_option maxRecDepth 20000
namespace Go.Lin
open Go Go.Av Go.Lexs
end Go.Lin
namespace Go.Proofs.YtacekpdodelnbaaGreatDoor
open Go Go.Av Go.Lexs Go.Lin
attribute [local irreducible] ACalls at8
theorem fits1 {c : LinV} (fc : LinFit c) : ∀ x ∈ [c], LinFit x := fun x hx => by rw [List.mem_singleton] at hx; rw [hx]; exact fc
end Go.Proofs.YtacekpdodelnbaaGreatDoor
end
section
set_option maxRecDepth 20000
namespace Go.Lin
open Go Go.Av Go.Lexs
theorem total_div (vs : List VlV) (d : Int) : ∀ (l : List LTm) (k k' n : Int), (∀ t ∈ l, d ∣ t.c) → totalL k l vs = some n → ∃ n', totalL k' (divT d l) vs = some n' ∧ n - k = d * (n' - k')
 | [], k, k', n, _, h => by
  simp only [totalL, Option.some.injEq] at h
  subst h
  exact ⟨k', rfl, by simp⟩
 | t :: l, k, k', n, hd, h => by
  simp only [totalL] at h
  show ∃ n', totalL k' (⟨t.v, t.c.tdiv d⟩ :: divT d l) vs = some n' ∧ _
  simp only [totalL]
  cases hg : getL vs t.v with
  | none => rw [hg] at h; cases h
  | some m =>
   rw [hg] at h
   simp only [] at h ⊢
   obtain ⟨n', h1, h2⟩ := total_div vs d l (k + t.c * m) (k' + t.c.tdiv d * m) n (fun x hx => hd x (List.mem_cons_of_mem _ hx)) h
   refine ⟨n', h1, ?_⟩
   have hc : d * (t.c.tdiv d) = t.c := Int.mul_tdiv_cancel' (hd t (List.mem_cons_self ..))
   have e1 : d * (n' - (k' + t.c.tdiv d * m)) = d * (n' - k') - (d * t.c.tdiv d) * m := by
    rw [Int.mul_assoc, ← Int.mul_sub]; congr 1; omega
   rw [e1, hc] at h2
   omega
theorem total_times (vs : List VlV) (m : Int) : ∀ (l : List LTm) (k k' n : Int), totalL k l vs = some n → ∃ n', totalL k' (l.map fun t => ⟨t.v, t.c * m⟩) vs = some n' ∧ n' - k' = (n - k) * m
 | [], k, k', n, h => by
  simp only [totalL, Option.some.injEq] at h
  subst h
  exact ⟨k', rfl, by simp⟩
 | t :: l, k, k', n, h => by
  simp only [totalL] at h
  simp only [List.map_cons, totalL]
  cases hg : getL vs t.v with
  | none => rw [hg] at h; cases h
  | some x =>
   rw [hg] at h
   simp only [] at h ⊢
   obtain ⟨n', h1, h2⟩ := total_times vs m l (k + t.c * x) (k' + t.c * m * x) n h
   refine ⟨n', h1, ?_⟩
   have e1 : (n - (k + t.c * x)) * m = (n - k) * m - t.c * m * x := by
    rw [show n - (k + t.c * x) = (n - k) - t.c * x by omega, Int.sub_mul, Int.mul_assoc, Int.mul_comm x m, Int.mul_assoc]
   omega
theorem divT_at (d : Int) (l : List LTm) (i : Nat) (h : i < l.length) : (divT d l).getD i default = ⟨l[i].v, l[i].c.tdiv d⟩ := by
 unfold divT; simp [h]
theorem divT_ok {d : Int} {l : List LTm} (h : termsOk l = true) (hd : ∀ t ∈ l, d ∣ t.c) (d0 : d ≠ 0) : termsOk (divT d l) = true := by
 unfold termsOk
 rw [List.all_eq_true]
 intro i hi
 have hlen : (divT d l).length = l.length := by unfold divT; rw [List.length_map]
 rw [hlen, List.mem_range] at hi
 obtain ⟨h1, h2, h3, h4⟩ := okAt_get h hi
 have ha := tdiv_abs l[i].c d
 have hz : l[i].c.tdiv d ≠ 0 := fun e => h2 (by rw [← Int.mul_tdiv_cancel' (hd _ (List.getElem_mem hi)), e, Int.mul_zero])
 unfold okAt within
 rw [divT_at d l i hi]
 simp only [Bool.and_eq_true, Bool.or_eq_true, decide_eq_true_eq]
 refine ⟨⟨⟨h1, ?_⟩, hz⟩, by omega, by omega⟩
 by_cases i0 : i = 0
 ·exact .inl i0
 ·right
  rw [divT_at d l (i - 1) (by omega)]
  exact h4 (by omega) (by omega)
theorem holds_ge (n : Int) : (decide (n = 0) || (decide (0 < n) && !false)) = decide (0 ≤ n) := by
 by_cases z : 0 ≤ n
 ·rw [decide_eq_true z]; by_cases y : n = 0
  ·simp [y]
  ·simp [show 0 < n by omega]
 ·rw [decide_eq_false z]; simp; omega
theorem noL_valid : validL noL = true := by decide +kernel
theorem nilL_valid : validL nilL = true := by decide +kernel
theorem atR_of {a : LinV} {vs : List VlV} {n : Int} (ha : validL a = true) (hv : valuesL vs = true) (ht : totalL a.k a.t vs = some n) : atR a vs = (holdsL a n, 0) := by
 unfold atR; rw [if_pos ⟨ha, hv⟩, ht]
theorem normal_at {a : LinV} {vs : List VlV} {n : Int} (ha : validL a = true) (hv : valuesL vs = true) (ht : totalL a.k a.t vs = some n) : (normalR a).2 = 0 ∧ validL (normalR a).1 = true ∧ atR (normalR a).1 vs = (holdsL a n, 0) := by
 have no : atR noL vs = (false, 0) := atR_of noL_valid hv rfl
 have ni : atR nilL vs = (true, 0) := atR_of nilL_valid hv rfl
 have hk := (valid_ok ha).k
 unfold normalR
 rw [if_pos ha]
 by_cases t0 : a.t = []
 ·rw [if_pos t0]
  rw [t0] at ht
  simp only [totalL, Option.some.injEq] at ht
  subst ht
  cases hh : holdsL a a.k with
  | true => exact ⟨rfl, nilL_valid, ni⟩
  | false => exact ⟨rfl, noL_valid, no⟩
 ·rw [if_neg t0]
  have vt := valid_terms ha
  have gp := gcdL_pos t0 fun t ht => (vt t ht).1
  have gd : ∀ t ∈ a.t, ((gcdL a.t : Nat) : Int) ∣ t.c := fun t ht => gcdL_dvd t ht
  obtain ⟨g, hg⟩ : ∃ g, g = gcdL a.t := ⟨_, rfl⟩
  rw [← hg] at gp gd ⊢
  have g0 : (0 : Int) < g := by omega
  obtain ⟨m, hm1, hm2⟩ := total_div vs g a.t a.k 0 n gd ht
  have hq := Int.fdiv_mul_add_fmod a.k g
  have hq' : (g : Int) * a.k.fdiv g + a.k.fmod g = a.k := by rw [Int.mul_comm]; exact hq
  have hr0 := Int.fmod_nonneg_of_pos a.k g0
  have hr1 := Int.fmod_lt_of_pos a.k g0
  obtain ⟨q, hqd⟩ : ∃ q, q = a.k.fdiv g := ⟨_, rfl⟩
  obtain ⟨r, hrd⟩ : ∃ r, r = a.k.fmod g := ⟨_, rfl⟩
  rw [← hqd, ← hrd] at hq'
  rw [← hrd] at hr0 hr1
  have hqa : q.natAbs ≤ a.k.natAbs := by rw [hqd]; exact fdiv_absle a.k g (by omega)
  by_cases ae : a.e = true ∧ a.k.tmod g ≠ 0
  ·rw [if_pos ae]
   refine ⟨rfl, noL_valid, ?_⟩
   rw [no]
   have : holdsL a n = false := by
    unfold holdsL
    rw [ae.1]
    have hn : n ≠ 0 := fun e => ae.2 (Int.tmod_eq_zero_of_dvd ⟨-(m - 0), by rw [Int.mul_neg, ← hm2, e]; omega⟩)
    simp [hn]
   rw [this]
  ·rw [if_neg ae]
   refine ⟨rfl, ?_⟩
   -- both signs at once
   have key : ∀ (d : Int) (K : Int), d ≠ 0 → (∀ t ∈ a.t, d ∣ t.c) → K.natAbs ≤ 1099511627776 → (∀ n', n - a.k = d * (n' - K) → holdsL a n' = holdsL a n) → validL ⟨divT d a.t, K, a.e⟩ = true ∧ atR ⟨divT d a.t, K, a.e⟩ vs = (holdsL a n, 0) := fun d K d0 hd hK hh => by
    have hval : validL ⟨divT d a.t, K, a.e⟩ = true := by
     unfold validL within
     simp only [Bool.and_eq_true, decide_eq_true_eq]
     refine ⟨⟨divT_ok (valid_ok ha).t hd d0, ?_⟩, by omega, by omega⟩
     unfold divT; rw [List.length_map]; exact (valid_ok ha).len
    obtain ⟨n', h1, h2⟩ := total_div vs d a.t a.k K n hd ht
    exact ⟨hval, by rw [atR_of hval hv h1]; exact congrArg (·, 0) (hh n' h2)⟩
   have sg : sgnL a = 1 ∨ sgnL a = -1 := by unfold sgnL; split <;> simp
   rcases sg with sg | sg
   ·rw [divL_one sg, ← hg, ← hqd]
    refine key g q (by omega) gd (by omega) fun n' hn' => ?_
    have e1 : n = g * n' + r := by
     have : (g : Int) * (n' - q) = g * n' - g * q := Int.mul_sub ..
     omega
    unfold holdsL
    cases he : a.e with
    | true =>
     have r0 : r = 0 := by
      have : a.k.tmod g = 0 := by
       by_cases z : a.k.tmod g = 0
       ·exact z
       ·exact absurd ⟨he, z⟩ ae
      rw [hrd]
      exact Int.fmod_eq_zero_of_dvd (Int.dvd_of_tmod_eq_zero this)
     have : n' = 0 ↔ n = 0 := by
      rw [e1, r0, Int.add_zero]
      constructor
      ·rintro rfl; simp
      ·intro h; rcases Int.mul_eq_zero.1 h with h | h
       ·omega
       ·exact h
     simp [this]
    | false =>
     have h1 : 0 ≤ n' ↔ 0 ≤ n := by
      constructor
      ·intro h; have := Int.mul_nonneg (show (0 : Int) ≤ g by omega) h; omega
      ·intro h
       by_cases z : 0 ≤ n'
       ·exact z
       ·have : (g : Int) * n' ≤ g * (-1) := Int.mul_le_mul_of_nonneg_left (by omega) (by omega)
        omega
     rw [holds_ge, holds_ge]
     exact decide_eq_decide.2 h1
   ·have he : a.e = true := by
     unfold sgnL at sg
     split at sg
     ·rename_i h; exact h.1
     ·cases sg
    have r0 : r = 0 := by
     have : a.k.tmod g = 0 := by
      by_cases z : a.k.tmod g = 0
      ·exact z
      ·exact absurd ⟨he, z⟩ ae
     rw [hrd]
     exact Int.fmod_eq_zero_of_dvd (Int.dvd_of_tmod_eq_zero this)
    rw [divL_neg sg, ← hg, ← hqd]
    refine key (-(g : Int)) (-q) (by omega) (fun t ht => Int.neg_dvd.2 (gd t ht)) (by omega) fun n' hn' => ?_
    have e1 : n = -(g * n') := by
     have : -(g : Int) * (n' - -q) = -(g * n') - g * q := by rw [Int.neg_mul, Int.mul_sub, Int.mul_neg]; omega
     omega
    unfold holdsL
    have : n' = 0 ↔ n = 0 := by
     rw [e1]
     constructor
     ·rintro rfl; simp
     ·intro h
      have h : (g : Int) * n' = 0 := by omega
      rcases Int.mul_eq_zero.1 h with h | h
      ·omega
      ·exact h
    simp [he, this]
theorem negate_at {a : LinV} {vs : List VlV} {n : Int} (ha : validL a = true) (hv : valuesL vs = true) (ht : totalL a.k a.t vs = some n) (h0 : (negateR a).2 = 0) : validL (negateR a).1 = true ∧ atR (negateR a).1 vs = (!holdsL a n, 0) := by
 unfold negateR at h0 ⊢
 rw [if_pos ha] at h0 ⊢
 split at h0
 ·cases h0
 ·rename_i ae
  rw [if_neg ae]
  unfold limitedL at h0 ⊢
  split at h0
  ·rename_i hv2
   rw [if_pos hv2]
   refine ⟨hv2, ?_⟩
   have he : a.e = false := by simpa using ae
   obtain ⟨n', h1, h2⟩ := total_times vs (-1) a.t a.k (a.k * -1 - 1) n ht
   have hk : (negL a).t = a.t.map fun t => ⟨t.v, t.c * -1⟩ := by unfold negL timesL; simp
   rw [← hk] at h1
   rw [atR_of hv2 hv h1]
   have e : n' = -n - 1 := by omega
   have e2 : (negL a).e = false := he
   refine congrArg (·, 0) ?_
   unfold holdsL
   rw [e2, he, e]
   rw [holds_ge, holds_ge, ← decide_not]
   exact decide_eq_decide.2 (by omega)
  ·cases h0
end Go.Lin
namespace Go.Proofs.YtacekpdodelnbaaGreatDoor
open Go Go.Av Go.Lexs Go.Lin
attribute [local irreducible] ACalls at8
set_option maxHeartbeats 4000000 in
theorem lawNormal_a {Q} (a : LinV) (vs : List VlV) (fa : LinFit a) (fv : VlFit vs) (H : Heap) (hT : Tabs H) (h : Q (.bool true) H) : ACalls Tryz.prog 11 [.agg (linC a), .sl 2 (Rw vlC vs)] H Q := by
 refine acalls_of_wp [] Tryz.mixed Tryz.func11 rfl (by kernel_rfl) (of_decide_eq_true (by kernel_rfl)) (by kernel_rfl) ?_
 simp only [go_sem,seval, Tryz.results11]
 intro b2 g2
 have e2 : (H.set b2 (.box (linC a))) b2 = some (.box (linC a)) := heap_same _ _
 have hle : H.Le (H.set b2 (.box (linC a))) := heap_le_set g2
 generalize H.set b2 (.box (linC a)) = Bs at e2 hle ⊢
 have hTb := hT.le hle
 have hvl := fv.len
 repeat' (first | with_reducible refine And.intro ?_ ?_ | simp only [go_sem,seval, e2] | simp (disch := omega) only [normal_at, negate_at] | intro hx_ | omega)
 refine few1_a (by assumption) [a] rfl (by simp) (fits1 fa) fun x => ?_
 cases x with
 | false =>
  repeat' (first | with_reducible refine And.intro ?_ ?_ | simp only [go_sem,seval] | simp (disch := omega) only [normal_at, negate_at] | intro hx_ | with_reducible refine awake_a _ hTb ?_ | omega)
  exact Fin.less hle h
 | true =>
  by_cases h60 : (60 : Int) < vs.length
  ·repeat' (first | with_reducible refine And.intro ?_ ?_ | simp only [go_sem,seval, h60] | simp (disch := omega) only [normal_at, negate_at] | intro hx_ | with_reducible refine awake_a _ hTb ?_ | omega)
   exact Fin.less hle h
  ·repeat' (first | with_reducible refine And.intro ?_ ?_ | simp only [go_sem,seval, h60, e2] | simp (disch := omega) only [normal_at, negate_at] | intro hx_ | omega)
   refine at_a a fa vs fv _ ?_
   by_cases hav : validL a = true ∧ valuesL vs = true
   ·obtain ⟨ha, hv⟩ := hav
    cases ht : totalL a.k a.t vs with
    | none =>
     have e : atR a vs = (false, 13) := by unfold atR; rw [if_pos ⟨ha, hv⟩, ht]
     rw [e]
     repeat' (first | with_reducible refine And.intro ?_ ?_ | simp only [go_sem,seval] | simp (disch := omega) only [normal_at, negate_at] | intro hx_ | with_reducible refine awake_a _ hTb ?_ | omega)
     exact Fin.less hle h
    | some n =>
     rw [atR_of ha hv ht]
     obtain ⟨n1, n2, n3⟩ := normal_at ha hv ht
     obtain ⟨hb, hhb⟩ : ∃ hb, hb = holdsL a n := ⟨_, rfl⟩
     rw [← hhb] at n3 ⊢
     have nc : ∀ (H : Heap) (Q : D → Heap → Prop), Q (.tuple [.agg (linC (normalR a).1), .int .i64 0]) H → ACalls Tryz.prog 25 [.agg (linC a)] H Q := fun H Q hq => normalL_a a fa H (by rw [n1]; exact hq)
     obtain ⟨N, hN⟩ : ∃ N, N = (normalR a).1 := ⟨_, rfl⟩
     rw [← hN] at nc n2 n3
     have ac : ∀ (H : Heap) (Q : D → Heap → Prop), Q (.tuple [.bool hb, .int .i64 0]) H → ACalls Tryz.prog 28 [.agg (linC N), .sl 2 (Rw vlC vs)] H Q := fun H Q hq => at_a N (fit_valid n2) vs fv H (by rw [n3]; exact hq)
     have hbb : (hb == hb) = true := by cases hb <;> rfl
     repeat' (first | with_reducible refine And.intro ?_ ?_ | simp only [go_sem,seval, e2] | simp (disch := omega) only [normal_at, negate_at] | intro hx_ | with_reducible refine nc _ _ ?_ | omega)
     rename_i b7
     have h7 := hx_
     clear hx_
     have e2' := (heap_le_set (o := .box (linC N)) h7) _ _ e2
     have e7 : (Bs.set b7 (.box (linC N))) b7 = some (.box (linC N)) := heap_same _ _
     have hle' := hle.trans (heap_le_set (o := .box (linC N)) h7)
     generalize Bs.set b7 (.box (linC N)) = Bt at e2' e7 hle' ⊢
     have hTt := hT.le hle'
     clear e2 hle hTb h7
     refine ac _ _ ?_
     repeat' (first | with_reducible refine And.intro ?_ ?_ | simp only [go_sem,seval, e2', hbb] | simp (disch := omega) only [normal_at, negate_at] | intro hx_ | omega)
     refine negateL_a a fa _ ?_
     by_cases h0 : (negateR a).2 = 0
     ·obtain ⟨m1, m2⟩ := negate_at ha hv ht h0
      rw [← hhb] at m2
      rw [h0]
      obtain ⟨M, hM⟩ : ∃ M, M = (negateR a).1 := ⟨_, rfl⟩
      rw [← hM] at m1 m2 ⊢
      have mc : ∀ (H : Heap) (Q : D → Heap → Prop), Q (.tuple [.bool (!hb), .int .i64 0]) H → ACalls Tryz.prog 28 [.agg (linC M), .sl 2 (Rw vlC vs)] H Q := fun H Q hq => at_a M (fit_valid m1) vs fv H (by rw [m2]; exact hq)
      have hnn : ((!hb) == hb) = false := by cases hb <;> rfl
      repeat' (first | with_reducible refine And.intro ?_ ?_ | simp only [go_sem,seval, hnn] | simp (disch := omega) only [normal_at, negate_at] | intro hx_ | with_reducible refine mc _ _ ?_ | omega)
      rename_i b11
      have hT11 := hTt.le (heap_le_set (o := .box (linC M)) hx_)
      repeat' (first | with_reducible refine And.intro ?_ ?_ | simp only [go_sem,seval, hnn] | simp (disch := omega) only [normal_at, negate_at] | intro hx_ | with_reducible refine awake_a _ hT11 ?_ | omega)
      exact Fin.less (hle'.trans (heap_le_set (by assumption))) h
     ·repeat' (first | with_reducible refine And.intro ?_ ?_ | simp only [go_sem,seval, h0] | simp (disch := omega) only [normal_at, negate_at] | intro hx_ | omega)
      rename_i b11
      have hT11 := hTt.le (heap_le_set (o := .box (linC (negateR a).1)) hx_)
      repeat' (first | with_reducible refine And.intro ?_ ?_ | simp only [go_sem,seval, h0] | simp (disch := omega) only [normal_at, negate_at] | intro hx_ | with_reducible refine awake_a _ hT11 ?_ | omega)
      exact Fin.less (hle'.trans (heap_le_set (by assumption))) h
   ·have e : atR a vs = (false, 2) := by unfold atR; rw [if_neg hav]
    rw [e]
    repeat' (first | with_reducible refine And.intro ?_ ?_ | simp only [go_sem,seval] | simp (disch := omega) only [normal_at, negate_at] | intro hx_ | with_reducible refine awake_a _ hTb ?_ | omega)
    exact Fin.less hle h
end Go.Proofs.YtacekpdodelnbaaGreatDoor
end
section
namespace Go.Av
open Go.RowKit Go.ChangeShapes Go.WideShapes
section
variable {H : Type} {enc : TypeId × Value → H} {P : Program}
theorem fitsV_sl {t e : TypeId} {x : D} (hu : P.underlying t = some (.slice e)) (h : FitsV P t x) : ∃ es, x = .sl (P.cellsOf e) es ∧ es.length * P.bytesOf e ≤ reachBytes ∧ ∀ y ∈ es, Fits P e y := by
 obtain ⟨s, h1, h2⟩ := fits_sl hu (fitsV_leaf (by simp [hu]) h)
 simp at h1
 exact ⟨s, h1, h2⟩
end
end Go.Av
end
section
set_option maxRecDepth 100000
namespace Go.Proofs.YtacekpdodelnbaaGreatDoor
open Go Go.Av Go.Lexs Go.Lin
theorem fits_vl {el : List D} (h : Fits Tryz.prog 76 el) : ∃ t : VlV, el = vlC t ∧ (t.v.size ≤ 140737488351232 ∧ i64 t.n) := by
 have hre : reachBytes = 140737488351232 := rfl
 obtain ⟨ps, rfl, hl, hp⟩ := fits_struct Tryz.underlying76 h
 obtain ⟨p0, p1, rfl⟩ := list_two ps hl
 obtain ⟨s, rfl, hs⟩ := fits_str (by kernel_rfl) (hp 0 _ _ rfl rfl)
 obtain ⟨n, rfl, hn⟩ := fits_int (k := .i64) (by kernel_rfl) (hp 1 _ _ rfl rfl)
 exact ⟨⟨s, n⟩, rfl, by simp only []; omega, wf_i64 hn⟩
theorem fitsV_vals {x : D} (h : FitsV Tryz.prog 38 x) : ∃ l : List VlV, x = .sl 2 (Rw vlC l) ∧ VlFit l := by
 have hre : reachBytes = 140737488351232 := rfl
 obtain ⟨es, rfl, he, hes⟩ := fitsV_sl (e := 76) (by kernel_rfl) h
 have c1 : Tryz.prog.cellsOf 76 = 2 := by kernel_rfl
 have b1 : Tryz.prog.bytesOf 76 = 24 := by kernel_rfl
 rw [b1] at he
 obtain ⟨l, rfl, hl⟩ := rw_ex (f := vlC) (p := fun t => t.v.size ≤ 140737488351232 ∧ i64 t.n) es (fun y hy => fits_vl (hes y hy))
 rw [Rw_len] at he
 rw [c1]
 exact ⟨l, rfl, by omega, fun t ht => (hl t ht).1, fun t ht => (hl t ht).2⟩
end Go.Proofs.YtacekpdodelnbaaGreatDoor
end
section
set_option maxRecDepth 100000
namespace Go.Proofs.YtacekpdodelnbaaGreatDoor.linearNormal
open Go Go.Av Go.Lexs Go.Lin Go.ChangeShapes Go.WideShapes Go.RowKit
theorem lifted (os : Os) (started : os.Started) (H : Type) (enc : TypeId × Value → H) :
  ReturnsInHanded {} Tryz.checked os 11 .any (fun w args => (Rows.linearNormalSpec.pre enc Tryz.prog Tryz.f11 Rows.linearNormalRow.domain false w args ∧ laidMetH Tryz.prog Rows.linearNormalRow.laid w) ∧ sizedMet enc Tryz.prog Tryz.f11 (OpenSpec.ofChange Rows.linearNormalSpec) false w args)
   (Rows.linearNormalSpec.post enc Tryz.prog Tryz.f11 false true false false) := by
 refine returnsInHanded_of_change_and (C := Tryz.checked) (X := fun w _ => laidMetH Tryz.prog Rows.linearNormalRow.laid w) (fun _ _ _ hh h => h.of_heap hh) own started (by kernel_rfl) Tryz.func11
  (ChangeSpec.witness_shaped (enc := enc) (C := Tryz.checked) (os := os) (X := fun w _ => laidMetH Tryz.prog Rows.linearNormalRow.laid w) false (World.laidAll Tryz.prog os Rows.linearNormalRow.laid) #[.agg #[.slice none 0 0, .int .i64 0, .bool false], .slice none 0 0] 8 (World.laidAll_os _ _ _)
   (World.shaped_of_ZipB (by kernel_rfl) (by kernel_rfl)) (by kernel_rfl) (by kernel_rfl) (by kernel_rfl)
   (by rw [MakeChecks.laidMetH_plain _ _ _ (by kernel_rfl)]; exact laidMet_laidAll _ (by kernel_rfl) (by kernel_rfl))) ?_
 intro W base args ds gs before hval hW _ hsz hL _
 rw [MakeChecks.laidMetH_plain _ _ _ (by kernel_rfl)] at hL
 obtain ⟨tu, tv, hS⟩ := tabs_sat hL (by simp [Rows.linearNormalRow]) (by simp [Rows.linearNormalRow]) (by simp [Rows.linearNormalRow])
 have hW' := hW
 obtain ⟨p, q, hA0, hV, _, _, _⟩ := hW
 rw [Tryz.params11] at hA0 hval hsz
 obtain ⟨v0, v1, d0, d1, p0, p1, rfl, rfl, rfl, h0, h1⟩ := trodAll_two hA0
 obtain ⟨rfl, rfl⟩ := trodVars_none hV
 obtain ⟨x0, k0, r0⟩ := arg_fits plain19 (tabs_held tu tv) (by simp) (hval 0 _ _ rfl rfl) h0 (weightsEach_at hsz 0 _ _ rfl rfl)
 obtain ⟨x1, k1, r1⟩ := arg_fits plain19 (tabs_held tu tv) (by simp) (hval 1 _ _ rfl rfl) h1 (weightsEach_at hsz 1 _ _ rfl rfl)
 obtain ⟨a, rfl, fa⟩ := fitsV_lin k0
 obtain ⟨vs, rfl, fvs⟩ := fitsV_vals k1
 have hre : reachBytes = 140737488351232 := rfl
 refine law_calls laidOut (by kernel_rfl) rfl (tb := 4) (by kernel_rfl) (by kernel_rfl) rfl hW' (tabs tu tv) (tabs_held tu tv) hS [.agg (linC a), .sl 2 (Rw vlC vs)] rfl (fun i d hd => ?_) (fun Q hQ => lawNormal_a a vs fa fvs _ (tabs_tabs tu tv) hQ)
 match i, hd with
 | 0, hd => simp at hd; subst hd; exact r0
 | 1, hd => simp at hd; subst hd; exact r1
 | i + 2, hd => simp at hd
theorem said : Rows.LinearNormalSaid :=
 OpenClaim.holds_of_wide 11 Tryz.f11 rfl rfl rfl rfl rfl rfl rfl ⟨rfl, rfl, rfl, rfl, rfl⟩ rfl rfl rfl rfl rfl (by kernel_rfl) Tryz.func11 (by kernel_rfl)
  (of_decide_eq_true (by kernel_rfl)) (by unfold Func.isWrapper; first | (rw [if_pos (by decide +kernel)]; kernel_rfl) | (rw [if_neg (by decide +kernel)]; exact ⟨rfl, rfl⟩))
  (fun os started H enc _ => lifted os started H enc)
theorem plain (f : FuncId) (fn : Func) (hf : Tryz.pinned.checked.prog.funcNamed "voussoir/voussoirlaw19.LinearNormal" = some f) (hfn : Tryz.pinned.checked.prog.funcs[f]? = some fn) :
  true = Tryz.pinned.checked.prog.looks [] ∧ ∀ (j : Nat) t, fn.params[j]? = some t → Tryz.pinned.checked.prog.wantsStandIn t = false := by
 obtain rfl : f = 11 := Option.some.inj ((show Tryz.prog.funcNamed "voussoir/voussoirlaw19.LinearNormal" = some 11 by kernel_rfl).symm.trans hf) |>.symm
 obtain rfl : fn = Tryz.f11 := (Option.some.inj (Tryz.func11.symm.trans hfn)).symm
 refine ⟨by kernel_rfl, fun j t ht => ?_⟩
 have hall : ((Tryz.f11.params.toList).all fun u => !Tryz.prog.wantsStandIn u) = true := by kernel_rfl
 have := List.all_eq_true.1 hall t (by rw [Array.mem_toList_iff]; exact Array.mem_of_getElem? ht)
 exact (by simpa using this : Tryz.prog.wantsStandIn t = false)
theorem card : Rows.LinearNormalCardSaid :=
 Claim7.holds_tied_plain_at .later [] _ _ _ _ said (fun _ h => by cases h) (by kernel_rfl) (fun _ h => by cases h) linearNormal_row_tie rfl ⟨rfl, rfl⟩ (by kernel_rfl) rfl plain (by kernel_rfl)
end Go.Proofs.YtacekpdodelnbaaGreatDoor.linearNormal
namespace Go.Proofs.YtacekpdodelnbaaGreatDoor
theorem linearNormal_holds : Rows.LinearNormalCardSaid := linearNormal.card
end Go.Proofs.YtacekpdodelnbaaGreatDoor
end
