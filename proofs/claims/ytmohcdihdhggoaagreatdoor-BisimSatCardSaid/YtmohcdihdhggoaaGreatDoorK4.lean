/- Part of the proof: what the last text builds on. No condition stands here. -/
import Derived.Test.YtmohcdihdhggoaaGreatDoorProg
import Derived.Test.YtmohcdihdhggoaaGreatDoorRows
import Derived.Test.YtmohcdihdhggoaaGreatDoorK3
set_option linter.unusedSimpArgs false
set_option linter.unusedVariables false
section
set_option maxRecDepth 20000
namespace Go.Bis
open Go Go.Av Go.Lexs
mutual
def plainT : Tm → Bool
 | .mk k n x s ks rs => plainB (B x) && plainB (B s) && decide (x.size ≤ 1000) && decide (s.size ≤ 1000) && plainL ks && plainL rs
def plainL : List Tm → Bool
 | [] => true
 | t :: ts => plainT t && plainL ts
end
theorem plainT_eq (t : Tm) : plainT t = (plainB (B t.text) && plainB (B t.sort) && decide (t.text.size ≤ 1000) && decide (t.sort.size ≤ 1000) && plainL t.kids && plainL t.rest) := by cases t; rw [plainT]; rfl
theorem plainL_mem : ∀ {l : List Tm} {t : Tm}, plainL l = true → t ∈ l → plainT t = true
 | t :: ts, u, h, hm => by
  rw [plainL, Bool.and_eq_true] at h
  rcases List.mem_cons.1 hm with rfl | hm
  ·exact h.1
  ·exact plainL_mem h.2 hm
theorem plainB_noQ {l : List UInt8} (h : plainB l = true) : l.contains 34 = false := by
 rw [← Bool.not_eq_true]
 intro g
 have := List.all_eq_true.1 h 34 (List.contains_iff_mem.1 g)
 exact absurd this (by decide)
mutual
theorem plain_noQ : ∀ t : Tm, plainT t = true → noQ t = true
 | .mk k n x s ks rs, h => by
  rw [plainT] at h
  simp only [Bool.and_eq_true] at h
  obtain ⟨⟨⟨⟨⟨h1, h2⟩, _⟩, _⟩, h3⟩, h4⟩ := h
  rw [noQ, plainB_noQ h1, plainB_noQ h2, plainL_noQ ks h3, plainL_noQ rs h4]; rfl
theorem plainL_noQ : ∀ l : List Tm, plainL l = true → noQL l = true
 | [], _ => rfl
 | t :: ts, h => by
  rw [plainL, Bool.and_eq_true] at h
  rw [noQL, plain_noQ t h.1, plainL_noQ ts h.2]; rfl
end
mutual
def cntT : Tm → Nat
 | .mk _ _ _ _ ks rs => 1 + cntL ks + cntL rs
def cntL : List Tm → Nat
 | [] => 0
 | t :: ts => cntT t + cntL ts
end
theorem cntT_eq (t : Tm) : cntT t = 1 + cntL t.kids + cntL t.rest := by cases t; rw [cntT]; rfl
mutual
theorem ser_len : ∀ t : Tm, plainT t = true → TmFit t → (serT t).length ≤ 2100 * cntT t
 | .mk k n x s ks rs, h, hf => by
  rw [plainT] at h
  simp only [Bool.and_eq_true, decide_eq_true_eq] at h
  obtain ⟨⟨⟨⟨⟨_, _⟩, h1⟩, h2⟩, h3⟩, h4⟩ := h
  have i1 := Lib.itoa_length_le k hf.hk.1 hf.hk.2
  have i2 := Lib.itoa_length_le n hf.hn.1 hf.hn.2
  have l1 := serL_len ks h3 hf.kid
  have l2 := serL_len rs h4 hf.res
  have b1 := B_len x
  have b2 := B_len s
  rw [serT, cntT]
  simp only [List.length_append, List.length_cons, List.length_nil, quoB]
  omega
theorem serL_len : ∀ l : List Tm, plainL l = true → (∀ t ∈ l, TmFit t) → (serL l).length ≤ 2100 * cntL l
 | [], _, _ => by rw [serL]; simp
 | t :: ts, h, hf => by
  rw [plainL, Bool.and_eq_true] at h
  have h1 := ser_len t h.1 (hf t (by simp))
  have h2 := serL_len ts h.2 (fun u hu => hf u (by simp [hu]))
  rw [serL, cntL, List.length_append]
  omega
end
theorem serL_snoc : ∀ (l : List Tm) (t : Tm), serL (l ++ [t]) = serL l ++ serT t
 | [], t => by simp [serL]
 | a :: l, t => by rw [List.cons_append, serL, serL, serL_snoc l t, List.append_assoc]
theorem cntL_snoc : ∀ (l : List Tm) (t : Tm), cntL (l ++ [t]) = cntL l + cntT t
 | [], t => by simp [cntL]
 | a :: l, t => by rw [List.cons_append, cntL, cntL, cntL_snoc l t, Nat.add_assoc]
theorem cntL_take (l : List Tm) (k : Nat) : cntL (l.take k) ≤ cntL l := by
 induction l generalizing k with
 | nil => simp
 | cons a l ih =>
  cases k with
  | zero => simp [cntL]
  | succ k => rw [List.take_succ_cons, cntL, cntL]; have := ih k; omega
theorem serL_take (l : List Tm) (k : Nat) (h : k < l.length) : serL (l.take (k + 1)) = serL (l.take k) ++ serT l[k] := by
 rw [List.take_succ_eq_append_getElem h, serL_snoc]
theorem cntL_take_succ (l : List Tm) (k : Nat) (h : k < l.length) : cntL (l.take k) + cntT l[k] ≤ cntL l := by
 have := cntL_take l (k + 1)
 rw [List.take_succ_eq_append_getElem h, cntL_snoc] at this
 exact this
theorem plainL_take : ∀ (l : List Tm) (k : Nat), plainL l = true → plainL (l.take k) = true
 | [], k, _ => by simp [plainL]
 | a :: l, 0, _ => by simp [plainL]
 | a :: l, k + 1, h => by
  rw [plainL, Bool.and_eq_true] at h
  rw [List.take_succ_cons, plainL, h.1, plainL_take l k h.2]; rfl
theorem serL_take_len (l : List Tm) (k : Nat) (h : plainL l = true) (hf : ∀ t ∈ l, TmFit t) : (serL (l.take k)).length ≤ 2100 * cntL (l.take k) :=
 serL_len _ (plainL_take l k h) fun t ht => hf t (List.mem_of_mem_take ht)
end Go.Bis
namespace Go.Proofs.YtmohcdihdhggoaaGreatDoor
open Go Go.Av Go.Lexs Go.Bis
attribute [local irreducible] ACalls at8
structure PutAt (H : Heap) (b p : Nat) : Prop where
 p : H p = some (.box [.fn (.func 110) [] [.box b 0, .box p 0]])
theorem bldH_set {H : Heap} {b b1 : Nat} {st : Option Nat} {bs : List UInt8} {o : Av.Obj} (h : bldH H b st bs b1 = none) (hok : BldOk H b st bs) : (bldH H b st bs).set b1 o = bldH (H.set b1 o) b st bs ∧ BldOk (H.set b1 o) b st bs ∧ H b1 = none := by
 have h1 : b1 ≠ b := by
  rintro rfl
  obtain ⟨cs, e⟩ := bldH_b hok
  rw [h] at e; cases e
 have h2 : st ≠ some b1 := by
  rintro rfl
  have e : bldH H b (some b1) bs b1 = some (.buf 5 bs) := by simp [bldH, Heap.set]
  rw [h] at e; cases e
 rw [bldH_else h1 h2] at h
 refine ⟨?_, ⟨by rw [heap_ne _ (Ne.symm h1)]; exact hok.hb, hok.hn, fun c e => ?_⟩, h⟩
 ·funext k
  cases st with
  | none =>
   simp only [bldH, Heap.set]
   by_cases e1 : k = b1
   ·subst e1; simp [h1]
   ·simp [e1]
  | some c =>
   have h3 : b1 ≠ c := fun e => h2 (by rw [e])
   simp only [bldH, Heap.set]
   by_cases e1 : k = b1
   ·subst e1; simp [h1, h3]
   ·simp [e1]
 ·obtain ⟨k1, k2, k3⟩ := hok.hs c e
  exact ⟨k1, by rw [heap_ne _ (fun e' => h2 (by rw [e, e']))]; exact k2, k3⟩
theorem bldH_le {H H' : Heap} {b : Nat} {st : Option Nat} {bs : List UInt8} (h : H.Le H') : (bldH H b st bs).Le (bldH H' b st bs) := by
 intro k o hk
 cases st with
 | none =>
  simp only [bldH, Heap.set] at hk ⊢
  split
  ·rename_i e; rw [if_pos e] at hk; exact hk
  ·rename_i e; rw [if_neg e] at hk; exact h k o hk
 | some c =>
  simp only [bldH, Heap.set] at hk ⊢
  split
  ·rename_i e; rw [if_pos e] at hk; exact hk
  ·rename_i e; rw [if_neg e] at hk
   split
   ·rename_i e; rw [if_pos e] at hk; exact hk
   ·rename_i e; rw [if_neg e] at hk; exact h k o hk
theorem BldOk.less {H H' : Heap} {b : Nat} {st : Option Nat} {bs : List UInt8} (h : BldOk H' b st bs) (hl : H.Le H') : BldOk H b st bs := ⟨hl.none h.hb, h.hn, fun c e => ⟨(h.hs c e).1, hl.none (h.hs c e).2.1, (h.hs c e).2.2⟩⟩
theorem bldH_in {H : Heap} {b : Nat} {st : Option Nat} {bs : List UInt8} (h : BldOk H b st bs) : H.Le (bldH H b st bs) := fun k o ho => by
 rw [bldH_else (fun e => by rw [e, h.hb] at ho; cases ho) (fun e => by rw [(h.hs k e).2.1] at ho; cases ho)]; exact ho
def headB (t : Tm) : List UInt8 := Lib.itoa t.kind ++ 32 :: (Lib.itoa t.n ++ 32 :: (quoB (B t.text) ++ (quoB (B t.sort) ++ [40])))
theorem serT_head2 (t : Tm) : serT t = headB t ++ (serL t.kids ++ 124 :: (serL t.rest ++ [41])) := by
 rw [serT_eq]; simp [headB]
theorem put_n (n : Nat) : ∀ {Q} (t : Tm) (hn : SizeOf.sizeOf t ≤ n) (ht : TmFit t) (hp : plainT t = true) (b p : Nat) (st : Option Nat) (bs : List UInt8) (hl : bs.length + 2100 * cntT t ≤ 140737488355328) (H : Heap) (hT : Tabs H) (hP : PutAt H b p) (hok : BldOk H b st bs)
  (h : ∀ c', BldOk H b (some c') (bs ++ serT t) → Q (.tuple []) (bldH H b (some c') (bs ++ serT t))),
  ACalls Tryz.prog 110 [.agg (tmC t), .box b 0, .box p 0] (bldH H b st bs) Q := by
 induction n with
 | zero => intro Q t hn; cases t; simp at hn
 | succ n ih =>
 intro Q t hn ht hp b p st bs hl H hT hP hok h
 refine acalls_of_wp [(1, .ord [0, 1, 4, 5, 9, 10, 13, 14, 2, 3, 6, 7, 8, 11, 12, 15, 16, 17, 18])] Tryz.mixed Tryz.func110 rfl (by kernel_rfl) (of_decide_eq_true (by kernel_rfl)) (by kernel_rfl) ?_
 simp only [go_sem,seval, Tryz.results110]
 intro b1 hb1
 refine ord_mk [b1] ?_
 obtain ⟨e1, hok1, hn1⟩ := bldH_set (o := .box (tmC t)) hb1 hok
 have hT1 := hT.le (heap_le_set hn1 (o := .box (tmC t)))
 rw [plainT_eq] at hp
 simp only [Bool.and_eq_true, decide_eq_true_eq] at hp
 obtain ⟨⟨⟨⟨⟨p1, p2⟩, p3⟩, p4⟩, p5⟩, p6⟩ := hp
 rw [e1]
 have hm1 : b1 ∈ [b1] := by simp
 have g1 : bldH (H.set b1 (.box (tmC t))) b st bs b1 = some (.box (tmC t)) := bldH_in hok1 _ _ (heap_same _ _)
 have hTb := hT1.le (bldH_in hok1)
 have i1 := Lib.itoa_length_le t.kind ht.hk.1 ht.hk.2
 have i2 := Lib.itoa_length_le t.n ht.hn.1 ht.hn.2
 have b1l := B_len t.text
 have b2l := B_len t.sort
 have hP1 : PutAt (H.set b1 (.box (tmC t))) b p := ⟨by rw [heap_ne _ (by rintro rfl; rw [hP.p] at hn1; cases hn1)]; exact hP.p⟩
 have hbx : (H.set b1 (.box (tmC t))) b1 = some (.box (tmC t)) := heap_same _ _
 have hle1 : H.Le (H.set b1 (.box (tmC t))) := heap_le_set hn1
 generalize H.set b1 (.box (tmC t)) = H1 at hok1 hT1 g1 hTb hP1 hbx hle1
 rw [cntT_eq] at hl
 repeat' (first | with_reducible refine And.intro ?_ ?_ | simp only [go_sem,seval, hm1, g1] | simp (disch := omega) only [wrap64, cell_at, Rw_at] | simp (disch := first | omega | grind) only [heap_ne_, del_ne] | (intro hx_; try simp only [set_none] at hx_) | with_reducible refine itoa_a _ ht.hk.1 ht.hk.2 _ hTb ?_ | with_reducible refine itoa_a _ ht.hn.1 ht.hn.2 _ hTb ?_ | with_reducible refine quote_a _ (by omega) p1 _ hTb ?_ | with_reducible refine quote_a _ (by omega) p2 _ hTb ?_ | omega)
 generalize hsx : S (Lib.itoa t.kind) ++ { data := #[32] } ++ S (Lib.itoa t.n) ++ { data := #[32] } ++ S (34 :: (B t.text ++ [34])) ++ S (34 :: (B t.sort ++ [34])) ++ { data := #[40] } = sx
 have hBx : B sx = headB t := by rw [← hsx]; simp [headB, quoB, B_app, B_S, B_lit]
 have hxl : sx.size = (headB t).length := by rw [← B_len, hBx]
 have hhl : (headB t).length = (Lib.itoa t.kind).length + (Lib.itoa t.n).length + t.text.size + t.sort.size + 7 := by
  simp only [headB, quoB, List.length_append, List.length_cons, List.length_nil, b1l, b2l]; omega
 refine writeString_a b st bs sx H1 hok1 (by omega) (by omega) fun c' hok2 => ?_
 rw [hBx] at hok2 ⊢
 have g1' : bldH H1 b (some c') (bs ++ headB t) b1 = some (.box (tmC t)) := bldH_in hok2 _ _ hbx
 have hkp : ∀ k ∈ [b1], bldH H1 b (some c') (bs ++ headB t) k = bldH H1 b st bs k := fun k hk => by
  simp at hk; subst hk; rw [g1, g1']
 refine ⟨hkp, ?_⟩
 repeat' (first | with_reducible refine And.intro ?_ ?_ | simp only [go_sem,seval, hm1, g1'] | simp (disch := omega) only [wrap64, cell_at, Rw_at] | simp (disch := first | omega | grind) only [heap_ne_, del_ne] | (intro hx_; try simp only [set_none] at hx_) | omega)
 have hkl := ht.hkl
 have hrl := ht.hrl
 refine loop_c [1, 2, 3, 28, 29] (fun (p0 : Nat × Nat × List UInt8) => [(30, .int .i64 p0.1)]) (fun (p0 : Nat × Nat × List UInt8) => bldH H1 b (some p0.2.1) p0.2.2) (fun (p0 : Nat × Nat × List UInt8) => p0.1 ≤ t.kids.length ∧ BldOk H1 b (some p0.2.1) p0.2.2 ∧ p0.2.2 = bs ++ headB t ++ serL (t.kids.take p0.1)) (fun (p0 : Nat × Nat × List UInt8) => t.kids.length - p0.1) ((0, c', bs ++ headB t)) (⟨Nat.zero_le _, hok2, by simp [serL]⟩) (by (try simp only [go_sem,seval]) <;> (try simp (disch := omega) [wrap64]) <;> (try omega)) (by first | with_reducible exact Heap.Le.refl _ | exact heap_set_le (by assumption) | exact Heap.Le.refl _ | exact heap_le_set (by assumption) | exact (by simp only [Go.Av.Heap.Le, Go.Av.Heap.set, Go.Av.Heap.del] at * <;> grind)) ?_
 rintro Ec rfl ⟨k, c, X⟩ ⟨q1, q2, q3⟩
 simp only at q1 q2 q3
 by_cases hlt : k < t.kids.length
 ·have hkd : decide ((k : Int) < t.kids.length) = true := decide_eq_true (by omega)
  have hkm : t.kids[k] ∈ t.kids := List.getElem_mem hlt
  have hpx : bldH H1 b (some c) X p = some (.box [.fn (.func 110) [] [.box b 0, .box p 0]]) := bldH_in q2 _ _ hP1.p
  have hXl : X.length ≤ bs.length + 2098 + 2100 * cntL (t.kids.take k) := by
   have := serL_take_len t.kids k p5 ht.kid
   rw [q3]; simp only [List.length_append]; omega
  have hcs := cntL_take_succ t.kids k hlt
  repeat' (first | with_reducible refine And.intro ?_ ?_ | simp only [go_sem,seval, hkd, Rw_at _ _ hlt, hpx] | simp (disch := omega) only [wrap64, cell_at, Rw_at] | simp (disch := first | omega | grind) only [heap_ne_, del_ne] | (intro hx_; try simp only [set_none] at hx_) | omega)
  rename_i b5
  have hb5 := hx_
  clear hx_
  obtain ⟨e5, hok5, hn5⟩ := bldH_set (o := .box (tmC t.kids[k])) hb5 q2
  have hle5 : H1.Le (H1.set b5 (.box (tmC t.kids[k]))) := heap_le_set hn5
  rw [e5]
  have hpx5 : bldH (H1.set b5 (.box (tmC t.kids[k]))) b (some c) X p = some (.box [.fn (.func 110) [] [.box b 0, .box p 0]]) := bldH_in hok5 _ _ (hle5 _ _ hP1.p)
  have hb5x : bldH (H1.set b5 (.box (tmC t.kids[k]))) b (some c) X b5 = some (.box (tmC t.kids[k])) := bldH_in hok5 _ _ (heap_same _ _)
  repeat' (first | with_reducible refine And.intro ?_ ?_ | simp only [go_sem,seval, hpx5, hb5x] | simp (disch := omega) only [wrap64, cell_at, Rw_at] | simp (disch := first | omega | grind) only [heap_ne_, del_ne] | (intro hx_; try simp only [set_none] at hx_) | omega)
  refine ih t.kids[k] (by have := kids_lt hkm; omega) (ht.kid _ hkm) (plainL_mem p5 hkm) b p (some c) X (by omega) _ (hT1.le hle5) ⟨hle5 _ _ hP1.p⟩ hok5 fun c6 hok6 => ?_
  repeat' (first | with_reducible refine And.intro ?_ ?_ | simp only [go_sem,seval] | simp (disch := omega) only [wrap64, cell_at, Rw_at] | simp (disch := first | omega | grind) only [heap_ne_, del_ne] | (intro hx_; try simp only [set_none] at hx_) | omega)
  exact nx_mk (k + 1, c6, X ++ serT t.kids[k]) ⟨by simp only []; omega, hok6.less hle5, by simp only []; rw [q3, serL_take _ _ hlt]; simp⟩ (by simp only []; omega) (by (try simp only [go_sem,seval]) <;> (try simp (disch := omega) [wrap64]) <;> (try omega)) (bldH_le hle5)
 ·have hkd : decide ((k : Int) < t.kids.length) = false := decide_eq_false (by omega)
  rw [List.take_of_length_le (by omega)] at q3
  repeat' (first | with_reducible refine And.intro ?_ ?_ | simp only [go_sem,seval, hkd] | simp (disch := omega) only [wrap64, cell_at, Rw_at] | simp (disch := first | omega | grind) only [heap_ne_, del_ne] | (intro hx_; try simp only [set_none] at hx_) | omega)
  have hXl : X.length ≤ bs.length + 2098 + 2100 * cntL t.kids := by
   have := serL_len t.kids p5 ht.kid
   rw [q3]; simp only [List.length_append]; omega
  have hz1 : (ByteArray.mk #[124]).size = 1 := rfl
  have hB1 : B (ByteArray.mk #[124]) = [124] := rfl
  refine writeString_a b (some c) X ⟨#[124]⟩ H1 q2 (by rw [hz1]; decide) (by rw [hz1]; omega) fun c2 hok3 => ?_
  rw [hB1] at hok3 ⊢
  have g3 : bldH H1 b (some c2) (X ++ [124]) b1 = some (.box (tmC t)) := bldH_in hok3 _ _ hbx
  repeat' (first | with_reducible refine And.intro ?_ ?_ | simp only [go_sem,seval, g3] | simp (disch := omega) only [wrap64, cell_at, Rw_at] | simp (disch := first | omega | grind) only [heap_ne_, del_ne] | (intro hx_; try simp only [set_none] at hx_) | omega)
  refine loop_c [1, 2, 40, 41] (fun (p0 : Nat × Nat × List UInt8) => [(42, .int .i64 p0.1)]) (fun (p0 : Nat × Nat × List UInt8) => bldH H1 b (some p0.2.1) p0.2.2) (fun (p0 : Nat × Nat × List UInt8) => p0.1 ≤ t.rest.length ∧ BldOk H1 b (some p0.2.1) p0.2.2 ∧ p0.2.2 = X ++ [124] ++ serL (t.rest.take p0.1)) (fun (p0 : Nat × Nat × List UInt8) => t.rest.length - p0.1) ((0, c2, X ++ [124])) (⟨Nat.zero_le _, hok3, by simp [serL]⟩) (by (try simp only [go_sem,seval]) <;> (try simp (disch := omega) [wrap64]) <;> (try omega)) (by first | with_reducible exact Heap.Le.refl _ | exact heap_set_le (by assumption) | exact Heap.Le.refl _ | exact heap_le_set (by assumption) | exact (by simp only [Go.Av.Heap.Le, Go.Av.Heap.set, Go.Av.Heap.del] at * <;> grind)) ?_
  rintro Ec rfl ⟨j, c3, Y⟩ ⟨r1, r2, r3⟩
  simp only at r1 r2 r3
  by_cases hjt : j < t.rest.length
  ·have hjd : decide ((j : Int) < t.rest.length) = true := decide_eq_true (by omega)
   have hjm : t.rest[j] ∈ t.rest := List.getElem_mem hjt
   have hpx : bldH H1 b (some c3) Y p = some (.box [.fn (.func 110) [] [.box b 0, .box p 0]]) := bldH_in r2 _ _ hP1.p
   have hYl : Y.length ≤ X.length + 1 + 2100 * cntL (t.rest.take j) := by
    have := serL_take_len t.rest j p6 ht.res
    rw [r3]; simp only [List.length_append, List.length_cons, List.length_nil]; omega
   have hcs := cntL_take_succ t.rest j hjt
   repeat' (first | with_reducible refine And.intro ?_ ?_ | simp only [go_sem,seval, hjd, Rw_at _ _ hjt, hpx] | simp (disch := omega) only [wrap64, cell_at, Rw_at] | simp (disch := first | omega | grind) only [heap_ne_, del_ne] | (intro hx_; try simp only [set_none] at hx_) | omega)
   rename_i b5
   have hb5 := hx_
   clear hx_
   obtain ⟨e5, hok5, hn5⟩ := bldH_set (o := .box (tmC t.rest[j])) hb5 r2
   have hle5 : H1.Le (H1.set b5 (.box (tmC t.rest[j]))) := heap_le_set hn5
   rw [e5]
   have hpx5 : bldH (H1.set b5 (.box (tmC t.rest[j]))) b (some c3) Y p = some (.box [.fn (.func 110) [] [.box b 0, .box p 0]]) := bldH_in hok5 _ _ (hle5 _ _ hP1.p)
   have hb5x : bldH (H1.set b5 (.box (tmC t.rest[j]))) b (some c3) Y b5 = some (.box (tmC t.rest[j])) := bldH_in hok5 _ _ (heap_same _ _)
   repeat' (first | with_reducible refine And.intro ?_ ?_ | simp only [go_sem,seval, hpx5, hb5x] | simp (disch := omega) only [wrap64, cell_at, Rw_at] | simp (disch := first | omega | grind) only [heap_ne_, del_ne] | (intro hx_; try simp only [set_none] at hx_) | omega)
   refine ih t.rest[j] (by have := rest_lt hjm; omega) (ht.res _ hjm) (plainL_mem p6 hjm) b p (some c3) Y (by omega) _ (hT1.le hle5) ⟨hle5 _ _ hP1.p⟩ hok5 fun c6 hok6 => ?_
   repeat' (first | with_reducible refine And.intro ?_ ?_ | simp only [go_sem,seval] | simp (disch := omega) only [wrap64, cell_at, Rw_at] | simp (disch := first | omega | grind) only [heap_ne_, del_ne] | (intro hx_; try simp only [set_none] at hx_) | omega)
   exact nx_mk (j + 1, c6, Y ++ serT t.rest[j]) ⟨by simp only []; omega, hok6.less hle5, by simp only []; rw [r3, serL_take _ _ hjt]; simp⟩ (by simp only []; omega) (by (try simp only [go_sem,seval]) <;> (try simp (disch := omega) [wrap64]) <;> (try omega)) (bldH_le hle5)
  ·have hjd : decide ((j : Int) < t.rest.length) = false := decide_eq_false (by omega)
   rw [List.take_of_length_le (by omega)] at r3
   repeat' (first | with_reducible refine And.intro ?_ ?_ | simp only [go_sem,seval, hjd] | simp (disch := omega) only [wrap64, cell_at, Rw_at] | simp (disch := first | omega | grind) only [heap_ne_, del_ne] | (intro hx_; try simp only [set_none] at hx_) | omega)
   have hYl : Y.length ≤ X.length + 1 + 2100 * cntL t.rest := by
    have := serL_len t.rest p6 ht.res
    rw [r3]; simp only [List.length_append, List.length_cons, List.length_nil]; omega
   have hz2 : (ByteArray.mk #[41]).size = 1 := rfl
   have hB2 : B (ByteArray.mk #[41]) = [41] := rfl
   refine writeString_a b (some c3) Y ⟨#[41]⟩ H1 r2 (by rw [hz2]; decide) (by rw [hz2]; omega) fun c7 hok7 => ?_
   rw [hB2] at hok7 ⊢
   have hfin : Y ++ [41] = bs ++ serT t := by rw [r3, q3, serT_head2]; simp
   rw [hfin] at hok7 ⊢
   repeat' (first | with_reducible refine And.intro ?_ ?_ | simp only [go_sem,seval] | simp (disch := omega) only [wrap64, cell_at, Rw_at] | simp (disch := first | omega | grind) only [heap_ne_, del_ne] | (intro hx_; try simp only [set_none] at hx_) | omega)
   exact Fin.less (bldH_le hle1) (h c7 (hok7.less hle1))
theorem put_a {Q} (t : Tm) (ht : TmFit t) (hp : plainT t = true) (b p : Nat) (st : Option Nat) (bs : List UInt8) (hl : bs.length + 2100 * cntT t ≤ 140737488355328) (H : Heap) (hT : Tabs H) (hP : PutAt H b p) (hok : BldOk H b st bs)
  (h : ∀ c', BldOk H b (some c') (bs ++ serT t) → Q (.tuple []) (bldH H b (some c') (bs ++ serT t))) :
  ACalls Tryz.prog 110 [.agg (tmC t), .box b 0, .box p 0] (bldH H b st bs) Q := put_n _ t (Nat.le_refl _) ht hp b p st bs hl H hT hP hok h
theorem seen_a {Q} (t : Tm) (ht : TmFit t) (hp : plainT t = true) (hl : cntT t ≤ 1000000000) (H : Heap) (hT : Tabs H) (h : Q (.str (S (serT t))) H) : ACalls Tryz.prog 85 [.agg (tmC t)] H Q := by
 refine acalls_of_wp [] Tryz.mixed Tryz.func85 rfl (by kernel_rfl) (of_decide_eq_true (by kernel_rfl)) (by kernel_rfl) ?_
 simp only [go_sem,seval, Tryz.results85]
 intro b1 hb1
 repeat' (first | with_reducible refine And.intro ?_ ?_ | simp only [go_sem,seval] | simp (disch := omega) only [wrap64, cell_at] | simp (disch := first | omega | grind) only [heap_ne_, del_ne] | (intro hx_; try simp only [set_none] at hx_) | omega)
 rename_i b2 hf2 b3
 have hf3 := hx_
 clear hx_
 obtain ⟨h21, hn2⟩ := hf2
 obtain ⟨h32, h31, hn3⟩ := hf3
 have hcm : ((H.set b1 (.box (tmC t))).set b2 (.box [.nilp, .nilsl] (some 145))).set b3 (.box [.fn (.func 110) [] [.box b2 0, .box b3 0]]) =
   bldH ((H.set b1 (.box (tmC t))).set b3 (.box [.fn (.func 110) [] [.box b2 0, .box b3 0]])) b2 none [] := by
  funext k
  simp only [bldH, Heap.set]
  by_cases e : k = b3
  ·subst e; simp [h32]
  ·simp [e]
 have hle : H.Le ((H.set b1 (.box (tmC t))).set b3 (.box [.fn (.func 110) [] [.box b2 0, .box b3 0]])) := (heap_le_set hb1).trans (heap_le_set (by rw [heap_ne _ h31]; exact hn3))
 have hok : BldOk ((H.set b1 (.box (tmC t))).set b3 (.box [.fn (.func 110) [] [.box b2 0, .box b3 0]])) b2 none [] := ⟨by rw [heap_ne _ (Ne.symm h32), heap_ne _ h21]; exact hn2, fun _ => rfl, fun c e => by cases e⟩
 rw [hcm]
 refine put_a t ht hp b2 b3 none [] (by simp only [List.length_nil]; omega) _ (hT.le hle) ⟨heap_same _ _⟩ hok fun c' hok' => ?_
 rw [List.nil_append] at hok' ⊢
 repeat' (first | with_reducible refine And.intro ?_ ?_ | simp only [go_sem,seval] | simp (disch := omega) only [wrap64, cell_at] | simp (disch := first | omega | grind) only [heap_ne_, del_ne] | (intro hx_; try simp only [set_none] at hx_) | with_reducible refine bldString_a b2 c' (serT t) _ hok' ?_ | omega)
 exact Fin.less hle h
end Go.Proofs.YtmohcdihdhggoaaGreatDoor
end
section
namespace Go.Bis
open Go Go.Av Go.Lexs
theorem part_text {c : Int} (h : partI c = true) : textI c = true := by
 unfold partI letterI digitI at h
 rw [textI_iff]
 simp only [Bool.or_eq_true, Bool.and_eq_true, decide_eq_true_eq] at h
 omega
theorem all_plain {l : List UInt8} {p : Int → Bool} (hp : ∀ c, p c = true → textI c = true) (h : l.all (ofB p) = true) : plainB l = true := by
 unfold plainB
 rw [List.all_eq_true] at h ⊢
 intro b hb
 exact hp _ (h b hb)
theorem name_plain {l : List UInt8} (h : isName l = true) : plainB l = true ∧ l.length ≤ 40 := by
 unfold isName at h
 simp only [Bool.and_eq_true, decide_eq_true_eq] at h
 exact ⟨all_plain (fun c => part_text) h.2, h.1.1.2⟩
theorem text_plain {l : List UInt8} (h : isText l = true) : plainB l = true ∧ l.length ≤ 200 := by
 unfold isText at h
 simp only [Bool.and_eq_true, decide_eq_true_eq] at h
 exact ⟨all_plain (fun c h => h) h.1, h.2⟩
theorem id_plain {l : List UInt8} (h : isId l = true) : plainB l = true ∧ l.length ≤ 40 := by
 unfold isId at h
 simp only [Bool.and_eq_true] at h
 exact name_plain h.1.1.1.1
theorem op_plain {l : List UInt8} (h : isOp l = true) : plainB l = true ∧ l.length ≤ 42 := by
 unfold isOp at h
 obtain ⟨h1, h2⟩ := name_plain h
 unfold unframe at h1 h2
 split at h1
 ·rename_i hc
  rw [if_pos hc] at h2
  obtain ⟨c1, c2, c3, c4⟩ := hc
  have hl : l = l.take (l.length - 2) ++ [l[l.length - 2], l[l.length - 1]] := by
   apply List.ext_getElem?
   intro i
   by_cases hi : i < l.length - 2
   ·rw [List.getElem?_append_left (by simp; omega), List.getElem?_take_of_lt hi]
   ·rw [List.getElem?_append_right (by simp; omega)]
    simp only [List.length_take, show min (l.length - 2) l.length = l.length - 2 by omega]
    by_cases h2 : i = l.length - 2
    ·subst h2; simp [show l.length - 2 < l.length by omega]
    ·by_cases h3 : i = l.length - 1
     ·subst h3
      rw [show l.length - 1 - (l.length - 2) = 1 by omega]
      simp [show l.length - 1 < l.length by omega]
     ·rw [List.getElem?_eq_none (by omega), List.getElem?_eq_none (by simp; omega)]
  have hn : ∀ i (h : i < l.length), nth l i = (l[i].toNat : Int) := fun i h => by simp [nth, h]
  have t1 : textI (l[l.length - 2].toNat) = true := by
   rw [hn _ (by omega)] at c2
   rw [textI_iff]; omega
  have t2 : textI (l[l.length - 1].toNat) = true := by
   rw [hn _ (by omega)] at c3 c4
   rw [textI_iff]; omega
  constructor
  ·rw [hl]
   unfold plainB at h1 ⊢
   rw [List.all_append, h1]
   simp [t1, t2]
  ·simp only [List.length_take] at h2; omega
 ·rename_i hc
  rw [if_neg hc] at h2
  exact ⟨h1, by omega⟩
theorem empty_plain {l : List UInt8} (h : l = []) : plainB l = true ∧ l.length ≤ 200 := by subst h; simp [plainB]
structure Nd (t : Tm) : Prop where
 x : plainB (B t.text) = true ∧ (B t.text).length ≤ 1000
 s : plainB (B t.sort) = true ∧ (B t.sort).length ≤ 1000
 r : ∀ r ∈ t.rest, (plainB (B r.text) = true ∧ (B r.text).length ≤ 1000) ∧ (plainB (B r.sort) = true ∧ (B r.sort).length ≤ 1000) ∧ r.kids = [] ∧ r.rest = []
theorem rest_nd {t : Tm} {srt : List UInt8} (hs : plainB srt = true ∧ srt.length ≤ 1000) (h : restS t srt = true) : ∀ r ∈ t.rest, (plainB (B r.text) = true ∧ (B r.text).length ≤ 1000) ∧ (plainB (B r.sort) = true ∧ (B r.sort).length ≤ 1000) ∧ r.kids = [] ∧ r.rest = [] := by
 unfold restS at h
 intro r hr
 split at h
 ·rename_i e; rw [e] at hr; cases hr
 ·rename_i q e
  rw [e] at hr
  simp only [List.mem_singleton] at hr
  subst hr
  simp only [Bool.and_eq_true, decide_eq_true_eq, zeroS, Bool.true_or, Bool.false_or] at h
  obtain ⟨⟨⟨h1, h2⟩, h3⟩, h4⟩ := h
  have hn := name_plain h2
  refine ⟨⟨hn.1, by omega⟩, ?_, ?_, ?_⟩
  ·rw [h3]; exact hs
  ·exact List.eq_nil_of_length_eq_zero (by simp_all)
  ·exact List.eq_nil_of_length_eq_zero (by simp_all)
 ·cases h
theorem node_nd {t : Tm} (h : nodeS t = true) : Nd t := by
 have nil : ∀ {l : List Tm}, l.length = 0 → ∀ r ∈ l, (plainB (B r.text) = true ∧ (B r.text).length ≤ 1000) ∧ (plainB (B r.sort) = true ∧ (B r.sort).length ≤ 1000) ∧ r.kids = [] ∧ r.rest = [] := fun e r hr => by
  rw [List.eq_nil_of_length_eq_zero e] at hr; cases hr
 have up : ∀ {l : List UInt8} {n : Nat}, n ≤ 1000 → plainB l = true ∧ l.length ≤ n → plainB l = true ∧ l.length ≤ 1000 := fun hn h => ⟨h.1, by omega⟩
 unfold nodeS at h
 repeat' split at h
 all_goals first
  | cases h
  | skip
 all_goals simp only [Bool.and_eq_true, Bool.or_eq_true, decide_eq_true_eq, zeroS, Bool.true_or, Bool.false_or, Bool.true_and, true_and, and_true] at h
 ·obtain ⟨_, ⟨⟨h1, h2⟩, h3⟩, h4⟩ := h
  exact ⟨up (by omega) (empty_plain h1), up (by omega) (empty_plain h2), nil h4⟩
 ·obtain ⟨_, ⟨⟨h1, h2⟩, h3⟩, h4⟩ := h
  exact ⟨up (by omega) (empty_plain h1), up (by omega) (empty_plain h2), nil h4⟩
 ·obtain ⟨h0, ⟨⟨_, h2⟩, h3⟩, h4⟩ := h
  exact ⟨up (by omega) (text_plain h0), up (by omega) (empty_plain h2), nil h4⟩
 ·obtain ⟨h0, ⟨⟨_, h2⟩, h3⟩, h4⟩ := h
  exact ⟨up (by omega) (id_plain h0), up (by omega) (empty_plain h2), nil h4⟩
 ·obtain ⟨h0, ⟨_, h2⟩, h4⟩ := h
  exact ⟨up (by omega) (op_plain h0.1), up (by omega) (empty_plain h2), nil h4⟩
 ·rename_i ho
  unfold isOpen at ho
  simp only [Bool.or_eq_true, decide_eq_true_eq] at ho
  obtain ⟨h0, ⟨_, h3⟩, h4⟩ := h
  refine ⟨?_, by rw [h0]; decide, nil h4⟩
  rcases ho with e | e <;> rw [e] <;> decide
 ·obtain ⟨h0, ⟨_, h3⟩, h4⟩ := h
  exact ⟨up (by omega) (name_plain h0.1), up (by omega) (name_plain h0.2), nil h4⟩
 ·obtain ⟨h0, ⟨_, h1⟩, h2⟩ := h
  exact ⟨up (by omega) (empty_plain h1), up (by omega) (empty_plain h2), rest_nd (by decide) h0⟩
 ·obtain ⟨h0, ⟨_, h1⟩, h2⟩ := h
  exact ⟨up (by omega) (empty_plain h1), up (by omega) (empty_plain h2), rest_nd (by decide) h0.1⟩
theorem rest_plain : ∀ {l : List Tm}, (∀ r ∈ l, (plainB (B r.text) = true ∧ (B r.text).length ≤ 1000) ∧ (plainB (B r.sort) = true ∧ (B r.sort).length ≤ 1000) ∧ r.kids = [] ∧ r.rest = []) → plainL l = true ∧ cntL l = l.length
 | [], _ => ⟨rfl, rfl⟩
 | r :: l, h => by
  obtain ⟨h1, h2, h3, h4⟩ := h r (by simp)
  obtain ⟨k1, k2⟩ := rest_plain (l := l) fun q hq => h q (by simp [hq])
  have e1 := B_len r.text
  have e2 := B_len r.sort
  refine ⟨?_, ?_⟩
  ·rw [plainL, k1, plainT_eq, h1.1, h2.1, h3, h4, decide_eq_true (by omega : r.text.size ≤ 1000), decide_eq_true (by omega : r.sort.size ≤ 1000)]; rfl
  ·rw [cntL, cntT_eq, h3, h4, k2, List.length_cons]; simp [cntL]; omega
mutual
theorem good_plain : ∀ (t : Tm) (d : Int), goodT t d = true → plainT t = true ∧ (cntT t : Int) = nodesT t
 | .mk k n x s ks rs, d, h => by
  rw [goodT] at h
  simp only [Bool.and_eq_true] at h
  obtain ⟨⟨_, h2⟩, h3⟩ := h
  have hn := node_nd h2
  obtain ⟨l1, l2⟩ := good_plainL ks (d - 1) h3
  obtain ⟨r1, r2⟩ := rest_plain hn.r
  have hx := hn.x
  have hs := hn.s
  simp only [Tm.text, Tm.sort, Tm.rest] at hx hs r1 r2
  have e1 := B_len x
  have e2 := B_len s
  constructor
  ·rw [plainT, hx.1, hs.1, l1, r1, decide_eq_true (by omega : x.size ≤ 1000), decide_eq_true (by omega : s.size ≤ 1000)]; rfl
  ·rw [cntT, nodesT, r2]; omega
theorem good_plainL : ∀ (l : List Tm) (d : Int), goodL l d = true → plainL l = true ∧ (cntL l : Int) = nodesL l
 | [], _, _ => ⟨rfl, rfl⟩
 | t :: ts, d, h => by
  rw [goodL, Bool.and_eq_true] at h
  obtain ⟨a1, a2⟩ := good_plain t d h.1
  obtain ⟨b1, b2⟩ := good_plainL ts d h.2
  exact ⟨by rw [plainL, a1, b1]; rfl, by rw [cntL, nodesL]; omega⟩
end
theorem valid_plain {t : Tm} (h : validT t = true) : plainT t = true ∧ cntT t ≤ 2000 := by
 unfold validT at h
 rw [(formed_good t 60 2000).1, Bool.and_eq_true, decide_eq_true_eq] at h
 obtain ⟨h1, h2⟩ := good_plain t 60 h.1
 exact ⟨h1, by omega⟩
end Go.Bis
end
section
set_option maxRecDepth 20000
namespace Go.Bis
open Go Go.Av
def kvF : Nat → List ByteArray → List (D × D)
 | _, [] => []
 | k, s :: F => (.str s, .int .i64 k) :: kvF (k + 1) F
theorem kvF_length : ∀ (k : Nat) (F : List ByteArray), (kvF k F).length = F.length
 | _, [] => rfl
 | k, s :: F => by simp [kvF, kvF_length (k + 1) F]
theorem kvF_snoc : ∀ (k : Nat) (F : List ByteArray) (s : ByteArray), kvF k (F ++ [s]) = kvF k F ++ [(.str s, .int .i64 (k + F.length : Nat))]
 | k, [], s => by simp [kvF]
 | k, a :: F, s => by simp [kvF, kvF_snoc (k + 1) F s]; omega
theorem find_kvF : ∀ (F : List ByteArray) (s : ByteArray) (k i : Nat), findD (.one .str) (.str s) (kvF k F) i = some none ∧ s ∉ F ∨ ∃ m, m < F.length ∧ F[m]? = some s ∧ findD (.one .str) (.str s) (kvF k F) i = some (some (i + m, .int .i64 (k + m : Nat)))
 | [], s, k, i => .inl ⟨rfl, by simp⟩
 | a :: F, s, k, i => by
  rw [kvF, findD, keyEq, cellEq, Option.bind_some]
  by_cases h : s = a
  ·subst h
   exact .inr ⟨0, by simp, rfl, by simp⟩
  ·have hb : (s.data.toList == a.data.toList) = false := by
    rw [beq_eq_false_iff_ne]
    exact fun e => h (B_inj e)
   rw [hb]
   simp only [Bool.false_eq_true, if_false]
   rcases find_kvF F s (k + 1) (i + 1) with ⟨h1, h2⟩ | ⟨m, h1, h2, h3⟩
   ·exact .inl ⟨h1, by simp [h, h2]⟩
   ·refine .inr ⟨m + 1, by simp; omega, by simpa using h2, ?_⟩
    rw [h3, show i + 1 + m = i + (m + 1) by omega, show k + 1 + m = k + (m + 1) by omega]
def eqB (l : List ByteArray) (i j : Nat) : Bool := decide (l.getD i .empty = l.getD j .empty)
structure MetL (l : List ByteArray) (i : Nat) (F : List ByteArray) : Prop where
 nd : F.Nodup
 len : F.length = (numE (eqB l) i).2
 at_ : ∀ k, k < i → F[(numE (eqB l) i).1.getD k 0]? = some (l.getD k .empty)
theorem MetL.start (l : List ByteArray) : MetL l 0 [] := ⟨List.nodup_nil, rfl, fun k h => absurd h (Nat.not_lt_zero _)⟩
theorem numE_old (e : Nat → Nat → Bool) (n k : Nat) (h : k < n) : (numE e (n + 1)).1.getD k 0 = (numE e n).1.getD k 0 := by
 have hl := numE_length e n
 conv => lhs; unfold numE
 split <;> simp only [List.getD_eq_getElem?_getD] <;> rw [List.getElem?_append_left (by omega)]
theorem numE_last (e : Nat → Nat → Bool) (n : Nat) (x : Nat) : ((numE e n).1 ++ [x]).getD n 0 = x := by
 have hl := numE_length e n
 simp only [List.getD_eq_getElem?_getD]; rw [List.getElem?_append_right (by omega), hl]; simp
theorem MetL.found {l F : List ByteArray} {i m : Nat} (h : MetL l i F) (hm : F[m]? = some (l.getD i .empty)) : (numE (eqB l) (i + 1)) = ((numE (eqB l) i).1 ++ [m], (numE (eqB l) i).2) ∧ MetL l (i + 1) F := by
 have hml := (List.getElem?_eq_some_iff.1 hm).1
 have hin := numE_all (eqB l) i m (by rw [← h.len]; exact hml)
 obtain ⟨k, hk, hkm⟩ := List.mem_iff_getElem.1 hin
 rw [numE_length] at hk
 have e1 : (numE (eqB l) i).1.getD k 0 = m := by simp [List.getD_eq_getElem?_getD, hk, numE_length, hkm]
 have e2 := h.at_ k hk
 rw [e1, hm] at e2
 have key : numE (eqB l) (i + 1) = ((numE (eqB l) i).1 ++ [m], (numE (eqB l) i).2) := by
  rw [numE]
  cases hf : (List.range i).find? (fun k => eqB l i k) with
  | none =>
   have := List.find?_eq_none.1 hf k (List.mem_range.2 hk)
   exact absurd (decide_eq_true (Option.some.inj e2)) this
  | some k' =>
   have hk' := List.mem_range.1 (List.mem_of_find?_eq_some hf)
   have he : l.getD i .empty = l.getD k' .empty := of_decide_eq_true (show eqB l i k' = true from List.find?_some hf)
   have e3 := h.at_ k' hk'
   rw [← he, ← hm] at e3
   have e4 : (numE (eqB l) i).1.getD k' 0 = m := by
    have hlt : (numE (eqB l) i).1.getD k' 0 < F.length := by
     rw [hm] at e3
     exact (List.getElem?_eq_some_iff.1 e3).1
    rw [List.getElem?_eq_getElem hlt, List.getElem?_eq_getElem hml] at e3
    exact (List.getElem_inj h.nd).1 (Option.some.inj e3)
   simp only [e4]
 refine ⟨key, h.nd, by rw [key]; exact h.len, fun j hj => ?_⟩
 by_cases hji : j = i
 ·subst hji; rw [key]; simp only [numE_last]; exact hm
 ·rw [numE_old _ _ _ (by omega)]; exact h.at_ j (by omega)
theorem MetL.fresh {l F : List ByteArray} {i : Nat} (h : MetL l i F) (hm : l.getD i .empty ∉ F) : (numE (eqB l) (i + 1)) = ((numE (eqB l) i).1 ++ [F.length], F.length + 1) ∧ MetL l (i + 1) (F ++ [l.getD i .empty]) := by
 have key : numE (eqB l) (i + 1) = ((numE (eqB l) i).1 ++ [F.length], F.length + 1) := by
  rw [numE]
  cases hf : (List.range i).find? (fun k => eqB l i k) with
  | none => rw [h.len]
  | some k' =>
   have hk' := List.mem_range.1 (List.mem_of_find?_eq_some hf)
   have he : l.getD i .empty = l.getD k' .empty := of_decide_eq_true (show eqB l i k' = true from List.find?_some hf)
   have e3 := h.at_ k' hk'
   rw [← he] at e3
   exact absurd (List.mem_of_getElem? e3) hm
 refine ⟨key, ?_, by rw [key]; simp, fun j hj => ?_⟩
 ·exact List.nodup_append.2 ⟨h.nd, by simp, fun a ha b hb => by simp at hb; subst hb; rintro rfl; exact hm ha⟩
 ·by_cases hji : j = i
  ·subst hji; rw [key]; simp only [numE_last]; simp
  ·rw [numE_old _ _ _ (by omega)]
   have := h.at_ j (by omega)
   rw [List.getElem?_append_left (List.getElem?_eq_some_iff.1 this).1]; exact this
def numS (l : List ByteArray) : List Nat := (numE (eqB l) l.length).1
end Go.Bis
namespace Go.Proofs.YtmohcdihdhggoaaGreatDoor
open Go Go.Av Go.Bis
attribute [local irreducible] ACalls at8
theorem outIn_upd {H Hc : Heap} {b sz : Nat} {o o' : Av.Obj} {es : List (List D)} {ob : Option Nat} (h : OutIn (H.set b o) sz es ob Hc) : OutIn (H.set b o') sz es ob (Hc.set b o') := by
 have hne : ∀ c, ob = some c → c ≠ b := fun c e g => by
  have := h.2.2 c e
  rw [g, heap_same] at this; cases this
 refine ⟨fun k x hk => ?_, ?_, fun c e => ?_⟩
 ·by_cases hkb : k = b
  ·subst hkb; rw [heap_same] at hk ⊢; exact hk
  ·rw [heap_ne _ hkb] at hk ⊢
   exact h.1 k x (by rw [heap_ne _ hkb]; exact hk)
 ·cases ob with
  | none => exact h.2.1
  | some c =>
   show (Hc.set b o') c = _
   rw [heap_ne _ (hne c rfl)]
   exact h.2.1
 ·rw [heap_ne _ (hne c e)]
  have := h.2.2 c e
  rwa [heap_ne _ (hne c e)] at this
theorem number_a {Q} (l : List ByteArray) (hl : l.length ≤ 100000) (H : Heap) (h : Q (.sl 1 (Rw natC (numS l))) H) : ACalls Tryz.prog 86 [.sl 1 (Rw strC l)] H Q := by
 refine acalls_of_wp [] Tryz.mixed Tryz.func86 rfl (by kernel_rfl) (of_decide_eq_true (by kernel_rfl)) (by kernel_rfl) ?_
 simp only [go_sem,seval, Tryz.results86]
 intro b1 hb1
 repeat' (first | with_reducible refine And.intro ?_ ?_ | simp only [go_sem,seval] | simp (disch := omega) only [wrap64, cell_at, Rw_at] | simp (disch := first | omega | grind) only [heap_ne_, del_ne] | (intro hx_; try simp only [set_none] at hx_) | omega)
 refine loop_c [3, 10, 11] (fun (p : Nat × List ByteArray × Option Nat) => [(12, .int .i64 p.1), (4, outG 1 p.1 p.2.2)]) (fun (p : Nat × List ByteArray × Option Nat) => putB (H.set b1 (.map (kvF 0 p.2.1))) 1 (Rw natC (numE (eqB l) p.1).1) p.2.2) (fun (p : Nat × List ByteArray × Option Nat) => p.1 ≤ l.length ∧ MetL l p.1 p.2.1 ∧ (p.2.2 = none → p.1 = 0) ∧ ∀ b, p.2.2 = some b → b ≠ b1 ∧ H b = none) (fun (p : Nat × List ByteArray × Option Nat) => l.length - p.1) ((0, [], none)) (⟨Nat.zero_le _, MetL.start l, fun _ => rfl, fun b e => by cases e⟩) (by (try simp only [go_sem,seval]) <;> (try simp (disch := omega) [wrap64]) <;> (try omega)) (by first | with_reducible exact Heap.Le.refl _ | exact heap_set_le (by assumption) | exact Heap.Le.refl _ | exact heap_le_set (by assumption) | exact (by simp only [Go.Av.Heap.Le, Go.Av.Heap.set, Go.Av.Heap.del] at * <;> grind)) ?_
 rintro Ec rfl ⟨i, F, ob⟩ ⟨hi, hm, h0, h1⟩
 simp only at hi hm h0 h1
 have hin := OutIn.mk (H := H.set b1 (.map (kvF 0 F))) (sz := 1) (es := Rw natC (numE (eqB l) i).1) (ob := ob) (fun e => by rw [h0 e]; rfl) (fun b e => by rw [heap_ne _ (h1 b e).1]; exact (h1 b e).2)
 have hbx : putB (H.set b1 (.map (kvF 0 F))) 1 (Rw natC (numE (eqB l) i).1) ob b1 = some (.map (kvF 0 F)) := hin.1 _ _ (heap_same _ _)
 have hlE := numE_length (eqB l) i
 have hle2 := numE_le (eqB l) i
 by_cases hlt : i < l.length
 ·have hkd : decide ((i : Int) < l.length) = true := decide_eq_true (by omega)
  have hli : l.getD i .empty = l[i] := by simp [hlt]
  rcases find_kvF F l[i] 0 0 with ⟨f1, f2⟩ | ⟨m, f1, f2, f3⟩
  ·obtain ⟨g1, g2⟩ := hm.fresh (by rw [hli]; exact f2)
   rw [hli] at g2
   generalize hHc : putB (H.set b1 (.map (kvF 0 F))) 1 (Rw natC (numE (eqB l) i).1) ob = Hc at hin hbx ⊢
   repeat' (first | with_reducible refine And.intro ?_ ?_ | simp only [go_sem,seval, hkd, Rw_at _ _ hlt, hbx, f1, kvF_length] | simp (disch := omega) only [wrap64, cell_at, Rw_at] | simp (disch := first | omega | grind) only [heap_ne_, del_ne] | (intro hx_; try simp only [set_none] at hx_) | omega)
   have hin2 := outIn_upd (o' := .map (kvF 0 F ++ [(D.str l[i], D.int .i64 F.length)])) hin
   refine apS_q (by first | exact hin2 | exact OutIn.set (hin2) (by first | assumption | (refine set_none.2 ?_; assumption) | (simp only [set_none]; assumption) | (simp only [set_none] at *; simp_all; done)) _ | exact OutIn.set (OutIn.set (hin2) (by first | assumption | (refine set_none.2 ?_; assumption) | (simp only [set_none]; assumption) | (simp only [set_none] at *; simp_all; done)) _) (by first | assumption | (refine set_none.2 ?_; assumption) | (simp only [set_none]; assumption) | (simp only [set_none] at *; simp_all; done)) _ | exact OutIn.set (OutIn.set (OutIn.set (hin2) (by first | assumption | (refine set_none.2 ?_; assumption) | (simp only [set_none]; assumption) | (simp only [set_none] at *; simp_all; done)) _) (by first | assumption | (refine set_none.2 ?_; assumption) | (simp only [set_none]; assumption) | (simp only [set_none] at *; simp_all; done)) _) (by first | assumption | (refine set_none.2 ?_; assumption) | (simp only [set_none]; assumption) | (simp only [set_none] at *; simp_all; done)) _ | exact OutIn.set (OutIn.set (OutIn.set (OutIn.set (hin2) (by first | assumption | (refine set_none.2 ?_; assumption) | (simp only [set_none]; assumption) | (simp only [set_none] at *; simp_all; done)) _) (by first | assumption | (refine set_none.2 ?_; assumption) | (simp only [set_none]; assumption) | (simp only [set_none] at *; simp_all; done)) _) (by first | assumption | (refine set_none.2 ?_; assumption) | (simp only [set_none]; assumption) | (simp only [set_none] at *; simp_all; done)) _) (by first | assumption | (refine set_none.2 ?_; assumption) | (simp only [set_none]; assumption) | (simp only [set_none] at *; simp_all; done)) _ ) (by simp) (by first | rfl | (simp only [go_sem,seval, Rw_take_len]; done) | (simp only [go_sem,seval, Rw_take_len]; omega) | simp | (simp; omega)) (by simp only [List.length_cons, List.length_nil]; omega) (by simp only [List.length_cons, List.length_nil]; omega) fun b' hb' hb2 hle => ?_
   have hbn : b' ≠ b1 := by intro e; rw [e, heap_same] at hb'; cases hb'
   rw [heap_ne _ hbn] at hb'
   repeat' (first | with_reducible refine And.intro ?_ ?_ | simp only [go_sem,seval] | simp (disch := omega) only [wrap64, cell_at, Rw_at] | simp (disch := first | omega | grind) only [heap_ne_, del_ne] | (intro hx_; try simp only [set_none] at hx_) | omega)
   refine nx_mk (i + 1, F ++ [l[i]], some b') ⟨by simp only []; omega, g2, (fun e => by cases e), fun b e => by cases e; exact ⟨hbn, hb'⟩⟩ (by simp only []; omega) (by (try simp only [go_sem,seval]) <;> (try simp (disch := omega) [wrap64]) <;> (try omega)) ?_
   simp only []
   rw [kvF_snoc, Nat.zero_add, g1]
   exact putB_le hle (by simp [Rw, natC])
  ·obtain ⟨g1, g2⟩ := hm.found (by rw [hli]; exact f2)
   rw [Nat.zero_add] at f3
   generalize hHc : putB (H.set b1 (.map (kvF 0 F))) 1 (Rw natC (numE (eqB l) i).1) ob = Hc at hin hbx ⊢
   repeat' (first | with_reducible refine And.intro ?_ ?_ | simp only [go_sem,seval, hkd, Rw_at _ _ hlt, hbx, f3, kvF_length, Nat.zero_add] | simp (disch := omega) only [wrap64, cell_at, Rw_at] | simp (disch := first | omega | grind) only [heap_ne_, del_ne] | (intro hx_; try simp only [set_none] at hx_) | omega)
   refine apS_q (by first | exact hin | exact OutIn.set (hin) (by first | assumption | (refine set_none.2 ?_; assumption) | (simp only [set_none]; assumption) | (simp only [set_none] at *; simp_all; done)) _ | exact OutIn.set (OutIn.set (hin) (by first | assumption | (refine set_none.2 ?_; assumption) | (simp only [set_none]; assumption) | (simp only [set_none] at *; simp_all; done)) _) (by first | assumption | (refine set_none.2 ?_; assumption) | (simp only [set_none]; assumption) | (simp only [set_none] at *; simp_all; done)) _ | exact OutIn.set (OutIn.set (OutIn.set (hin) (by first | assumption | (refine set_none.2 ?_; assumption) | (simp only [set_none]; assumption) | (simp only [set_none] at *; simp_all; done)) _) (by first | assumption | (refine set_none.2 ?_; assumption) | (simp only [set_none]; assumption) | (simp only [set_none] at *; simp_all; done)) _) (by first | assumption | (refine set_none.2 ?_; assumption) | (simp only [set_none]; assumption) | (simp only [set_none] at *; simp_all; done)) _ | exact OutIn.set (OutIn.set (OutIn.set (OutIn.set (hin) (by first | assumption | (refine set_none.2 ?_; assumption) | (simp only [set_none]; assumption) | (simp only [set_none] at *; simp_all; done)) _) (by first | assumption | (refine set_none.2 ?_; assumption) | (simp only [set_none]; assumption) | (simp only [set_none] at *; simp_all; done)) _) (by first | assumption | (refine set_none.2 ?_; assumption) | (simp only [set_none]; assumption) | (simp only [set_none] at *; simp_all; done)) _) (by first | assumption | (refine set_none.2 ?_; assumption) | (simp only [set_none]; assumption) | (simp only [set_none] at *; simp_all; done)) _ ) (by simp) (by first | rfl | (simp only [go_sem,seval, Rw_take_len]; done) | (simp only [go_sem,seval, Rw_take_len]; omega) | simp | (simp; omega)) (by simp only [List.length_cons, List.length_nil]; omega) (by simp only [List.length_cons, List.length_nil]; omega) fun b' hb' hb2 hle => ?_
   have hbn : b' ≠ b1 := by intro e; rw [e, heap_same] at hb'; cases hb'
   rw [heap_ne _ hbn] at hb'
   repeat' (first | with_reducible refine And.intro ?_ ?_ | simp only [go_sem,seval] | simp (disch := omega) only [wrap64, cell_at, Rw_at] | simp (disch := first | omega | grind) only [heap_ne_, del_ne] | (intro hx_; try simp only [set_none] at hx_) | omega)
   refine nx_mk (i + 1, F, some b') ⟨by simp only []; omega, g2, (fun e => by cases e), fun b e => by cases e; exact ⟨hbn, hb'⟩⟩ (by simp only []; omega) (by (try simp only [go_sem,seval]) <;> (try simp (disch := omega) [wrap64]) <;> (try omega)) ?_
   simp only []
   rw [g1]
   exact putB_le hle (by simp [Rw, natC])
 ·have hkd : decide ((i : Int) < l.length) = false := decide_eq_false (by omega)
  have hil : i = l.length := by omega
  subst hil
  repeat' (first | with_reducible refine And.intro ?_ ?_ | simp only [go_sem,seval, hkd] | simp (disch := omega) only [wrap64, cell_at, Rw_at] | simp (disch := first | omega | grind) only [heap_ne_, del_ne] | (intro hx_; try simp only [set_none] at hx_) | omega)
  exact Fin.o (hin.less (heap_le_set hb1)) (by rw [Rw_len, hlE]) h
end Go.Proofs.YtmohcdihdhggoaaGreatDoor
end
section
set_option maxRecDepth 20000
namespace Go.Bis
open Go Go.Av Go.Lexs
def seenS (s : Sy) : List ByteArray := (List.range s.seen.length).map fun i => S (seenB (s.final.getD i false) (s.seen.getD i default))
theorem seenS_length (s : Sy) : (seenS s).length = s.seen.length := by simp [seenS]
theorem seenS_at (s : Sy) (i : Nat) (h : i < s.seen.length) (hf : i < s.final.length) : (seenS s)[i]'(by rw [seenS_length]; exact h) = S (seenB s.final[i] s.seen[i]) := by simp [seenS, h, hf]
structure SyPl (s : Sy) : Prop where
 p : ∀ t ∈ s.seen, plainT t = true ∧ cntT t ≤ 2000
theorem fmt_bool (b : Bool) : Lib.formatBool b = if b = true then [116, 114, 117, 101] else [102, 97, 108, 115, 101] := by cases b <;> rfl
end Go.Bis
namespace Go.Proofs.YtmohcdihdhggoaaGreatDoor
open Go Go.Av Go.Lexs Go.Bis
attribute [local irreducible] ACalls at8
theorem keep_k {Hd : Heap} {ob : Option Nat} {b' k : Nat} {x o : Av.Obj} (h1 : Hd k = some o) (h2 : ob ≠ some k) (h3 : delB Hd ob b' = none) : ((delB Hd ob).set b' x) k = Hd k := by
 have h4 : delB Hd ob k = Hd k := by
  cases ob with
  | none => rfl
  | some c => exact del_ne (fun e => h2 (by rw [e]))
 have h5 : k ≠ b' := by rintro rfl; rw [h4, h1] at h3; cases h3
 rw [heap_ne _ h5, h4]
theorem OutIn.nk {H Hc : Heap} {sz : Nat} {es : List (List D)} {ob : Option Nat} {k : Nat} {o : Av.Obj} (h : OutIn H sz es ob Hc) (hk : H k = some o) : ob ≠ some k := fun e => by
 have := h.2.2 k e
 rw [hk] at this; cases this
theorem OutIn.nn {H Hc : Heap} {sz : Nat} {es : List (List D)} {ob : Option Nat} {k : Nat} (h : OutIn H sz es ob Hc) (hk : Hc k = none) : ob ≠ some k := fun e => by
 have := h.2.1
 rw [e] at this
 rw [show Hc k = some (.vec sz es) from this] at hk; cases hk
theorem first_a {Q} (s : Sy) (hs : SyFit s) (ho : SyOk s) (hp : SyPl s) (H : Heap) (hT : Tabs H) (h : Q (.sl 1 (Rw natC (numS (seenS s)))) H) : ACalls Tryz.prog 62 [.agg (syC s)] H Q := by
 refine acalls_of_wp [(5, .ord [0, 1, 2, 3, 4, 5, 7, 6, 8, 9, 10, 11, 12])] Tryz.mixed Tryz.func62 rfl (by kernel_rfl) (of_decide_eq_true (by kernel_rfl)) (by kernel_rfl) ?_
 simp only [go_sem,seval, Tryz.results62]
 have hn := ho.n
 have hfl := ho.f
 intro b1 hb1
 repeat' (first | with_reducible refine And.intro ?_ ?_ | simp only [go_sem,seval] | simp (disch := omega) only [wrap64, cell_at, Rw_at, seenS_at] | simp (disch := first | omega | grind) only [heap_ne_, del_ne] | (intro hx_; try simp only [set_none] at hx_) | omega)
 refine loop_c [1, 7, 8] (fun (p : Nat × Option Nat) => [(9, .int .i64 p.1), (3, outG 1 p.1 p.2)]) (fun (p : Nat × Option Nat) => putB (H.set b1 (.box (syC s))) 1 (Rw strC ((seenS s).take p.1)) p.2) (fun (p : Nat × Option Nat) => p.1 ≤ s.seen.length ∧ (p.2 = none → p.1 = 0) ∧ ∀ b, p.2 = some b → (H.set b1 (.box (syC s))) b = none) (fun (p : Nat × Option Nat) => s.seen.length - p.1) ((0, none)) (⟨Nat.zero_le _, fun _ => rfl, fun b e => by cases e⟩) (by (try simp only [go_sem,seval]) <;> (try simp (disch := omega) [wrap64]) <;> (try omega)) (by first | with_reducible exact Heap.Le.refl _ | exact heap_set_le (by assumption) | exact Heap.Le.refl _ | exact heap_le_set (by assumption) | exact (by simp only [Go.Av.Heap.Le, Go.Av.Heap.set, Go.Av.Heap.del] at * <;> grind)) ?_
 rintro Ec rfl ⟨i, ob⟩ ⟨hi, h0, h1⟩
 simp only at hi h0 h1
 have hin := OutIn.mk (H := H.set b1 (.box (syC s))) (sz := 1) (es := Rw strC ((seenS s).take i)) (ob := ob) (fun e => by rw [h0 e]; rfl) h1
 have hlS := seenS_length s
 by_cases hlt : i < s.seen.length
 ·have hkd : decide ((i : Int) < s.seen.length) = true := decide_eq_true (by omega)
  have hkf : (i : Int) < s.final.length := by omega
  have hif : i < s.final.length := by omega
  have hmem := List.getElem_mem hlt
  obtain ⟨p1, p2⟩ := hp.p _ hmem
  have htm := hs.tm _ hmem
  generalize hHc : putB (H.set b1 (.box (syC s))) 1 (Rw strC ((seenS s).take i)) ob = Hc at hin ⊢
  have hbx : Hc b1 = some (.box (syC s)) := hin.1 _ _ (heap_same _ _)
  have hTc : Tabs Hc := (hT.set _ hb1).le hin.1
  repeat' (first | with_reducible refine And.intro ?_ ?_ | simp only [go_sem,seval, hkd, hbx, Rw_at _ _ hlt] | simp (disch := omega) only [wrap64, cell_at, Rw_at, seenS_at] | simp (disch := first | omega | grind) only [heap_ne_, del_ne] | (intro hx_; try simp only [set_none] at hx_) | omega)
  rename_i b2
  have hf2 := hx_
  clear hx_
  have h21 : b2 ≠ b1 := by rintro rfl; rw [hbx] at hf2; cases hf2
  have hbx2 : ∀ o, (Hc.set b2 o) b1 = some (.box (syC s)) := fun o => by rw [heap_ne _ (Ne.symm h21)]; exact hbx
  refine ord_mk [b1, b2] ?_
  have m1 : b1 ∈ [b1, b2] := by simp
  have m2 : b2 ∈ [b1, b2] := by simp
  have hlen := ser_len s.seen[i] p1 htm
  repeat' (first | with_reducible refine And.intro ?_ ?_ | simp only [go_sem,seval, m1, m2, hbx2, hkf, Rw_at _ _ hif] | simp (disch := omega) only [wrap64, cell_at, Rw_at, seenS_at] | simp (disch := first | omega | grind) only [heap_ne_, del_ne] | (intro hx_; try simp only [set_none] at hx_) | with_reducible refine formatBool_a _ _ ?_ | with_reducible refine seen_a _ htm p1 (by omega) _ (hTc.set _ hf2) ?_ | omega)
  ·rw [hx_]; simp
  ·rw [hx_]; simp
  ·rw [fmt_bool]; split <;> simp <;> omega
  ·rename_i b3
   have hf3 := hx_
   clear hx_
   refine apS_q (by first | exact (OutIn.set hin hf2 _) | exact OutIn.set ((OutIn.set hin hf2 _)) (by first | assumption | (refine set_none.2 ?_; assumption) | (simp only [set_none]; assumption) | (simp only [set_none] at *; simp_all; done)) _ | exact OutIn.set (OutIn.set ((OutIn.set hin hf2 _)) (by first | assumption | (refine set_none.2 ?_; assumption) | (simp only [set_none]; assumption) | (simp only [set_none] at *; simp_all; done)) _) (by first | assumption | (refine set_none.2 ?_; assumption) | (simp only [set_none]; assumption) | (simp only [set_none] at *; simp_all; done)) _ | exact OutIn.set (OutIn.set (OutIn.set ((OutIn.set hin hf2 _)) (by first | assumption | (refine set_none.2 ?_; assumption) | (simp only [set_none]; assumption) | (simp only [set_none] at *; simp_all; done)) _) (by first | assumption | (refine set_none.2 ?_; assumption) | (simp only [set_none]; assumption) | (simp only [set_none] at *; simp_all; done)) _) (by first | assumption | (refine set_none.2 ?_; assumption) | (simp only [set_none]; assumption) | (simp only [set_none] at *; simp_all; done)) _ | exact OutIn.set (OutIn.set (OutIn.set (OutIn.set ((OutIn.set hin hf2 _)) (by first | assumption | (refine set_none.2 ?_; assumption) | (simp only [set_none]; assumption) | (simp only [set_none] at *; simp_all; done)) _) (by first | assumption | (refine set_none.2 ?_; assumption) | (simp only [set_none]; assumption) | (simp only [set_none] at *; simp_all; done)) _) (by first | assumption | (refine set_none.2 ?_; assumption) | (simp only [set_none]; assumption) | (simp only [set_none] at *; simp_all; done)) _) (by first | assumption | (refine set_none.2 ?_; assumption) | (simp only [set_none]; assumption) | (simp only [set_none] at *; simp_all; done)) _ ) (by simp) (by first | rfl | (simp only [go_sem,seval, Rw_take_len]; done) | (simp only [go_sem,seval, Rw_take_len]; omega) | simp | (simp; omega)) (by simp only [List.length_cons, List.length_nil]; omega) (by simp only [List.length_cons, List.length_nil]; omega) fun b' hb' hb2 hle => ?_
   obtain ⟨hb32, hc3⟩ := hf3
   have hb31 : b3 ≠ b1 := by rintro rfl; rw [hbx] at hc3; cases hc3
   refine ⟨fun k hk => ?_, ?_⟩
   ·simp only [List.mem_cons, List.not_mem_nil, or_false] at hk
    rcases hk with rfl | rfl
    ·exact keep_k (o := .box (syC s)) (by rw [heap_ne _ (Ne.symm hb31)]; exact hbx2 _) (OutIn.nk hin (heap_same _ _)) hb2
    ·exact keep_k (o := .box (tmC s.seen[i])) (by rw [heap_ne _ (Ne.symm hb32)]; exact heap_same _ _) (OutIn.nn hin hf2) hb2
   ·repeat' (first | with_reducible refine And.intro ?_ ?_ | simp only [go_sem,seval] | simp (disch := omega) only [wrap64, cell_at, Rw_at, seenS_at] | simp (disch := first | omega | grind) only [heap_ne_, del_ne] | (intro hx_; try simp only [set_none] at hx_) | omega)
    have hst : S (Lib.formatBool s.final[i]) ++ S (serT s.seen[i]) = (seenS s)[i]'(by rw [hlS]; exact hlt) := by
     rw [seenS_at s i hlt hif]
     apply B_inj
     rw [B_app, B_S, B_S, B_S, seenB, fmt_bool]
    exact nx_mk (i + 1, some b') ⟨by simp only []; omega, (fun e => by cases e), fun b e => by cases e; exact hb'⟩ (by simp only []; omega) (by (try simp only [go_sem,seval]) <;> (try simp (disch := omega) [wrap64]) <;> (try omega)) (putB_le hle (by rw [Rw_take_succ _ _ (by rw [hlS]; exact hlt), hst]; rfl))
 ·have hkd : decide ((i : Int) < s.seen.length) = false := decide_eq_false (by omega)
  have hil : i = s.seen.length := by omega
  subst hil
  repeat' (first | with_reducible refine And.intro ?_ ?_ | simp only [go_sem,seval, hkd] | simp (disch := omega) only [wrap64, cell_at, Rw_at, seenS_at] | simp (disch := first | omega | grind) only [heap_ne_, del_ne] | (intro hx_; try simp only [set_none] at hx_) | omega)
  rw [← hlS, List.take_length] at hin
  rw [← hlS, List.take_length]
  refine ACalls.out (es := Rw strC (seenS s)) (by rw [Rw_len]) hin.2.1 ?_
  have hle : H.Le (delB (putB (H.set b1 (.box (syC s))) 1 (Rw strC (seenS s)) ob) ob) := (heap_le_set hb1).trans hin.le
  repeat' (first | with_reducible refine And.intro ?_ ?_ | simp only [go_sem,seval] | simp (disch := omega) only [wrap64, cell_at, Rw_at, seenS_at] | simp (disch := first | omega | grind) only [heap_ne_, del_ne] | (intro hx_; try simp only [set_none] at hx_) | with_reducible refine number_a (seenS s) (by omega) _ ?_ | omega)
  exact Fin.less hle h
end Go.Proofs.YtmohcdihdhggoaaGreatDoor
end
section
set_option maxRecDepth 20000
namespace Go.Bis
open Go Go.Av Go.Lexs
theorem natR_int (l : List Nat) : Rw natC l = Rw intC (l.map fun (k : Nat) => (k : Int)) := by simp only [Rw, List.map_map]; rfl
def clsR (c : List Nat) (l : List Nat) : List Int := l.map fun k => ((c.getD k 0 : Nat) : Int)
theorem clsR_length (c l : List Nat) : (clsR c l).length = l.length := by simp [clsR]
theorem clsZ_length (c l : List Nat) : (clsZ c l).length ≤ l.length := by have := riseZ_length_le (clsR c l); rw [clsR_length] at this; exact this
theorem clsZ_mem {c l : List Nat} {x : Int} (h : x ∈ clsZ c l) : ∃ k ∈ l, x = (c.getD k 0 : Nat) := by
 have := ((riseZ_strict _).2 x).1 h
 simp only [List.mem_map] at this
 obtain ⟨k, hk, rfl⟩ := this
 exact ⟨k, hk, rfl⟩
def finS (c : List Nat) (to : List (List Nat)) : List ByteArray := (List.range c.length).map fun i => S (finB c (fun i => to.getD i []) i)
theorem finS_length (c : List Nat) (to : List (List Nat)) : (finS c to).length = c.length := by simp [finS]
theorem finS_at (c : List Nat) (to : List (List Nat)) (i : Nat) (h : i < c.length) (ht : i < to.length) : (finS c to)[i]'(by rw [finS_length]; exact h) = S (Lib.itoa (c[i] : Nat) ++ rowB (clsZ c to[i])) := by
 simp [finS, finB, h, ht]
end Go.Bis
namespace Go.Proofs.YtmohcdihdhggoaaGreatDoor
open Go Go.Av Go.Lexs Go.Bis
attribute [local irreducible] ACalls at8
theorem classesOf_a {Q} (c l : List Nat) (hl0 : l ≠ []) (hb : l.length ≤ 100000) (hc : ∀ k ∈ l, k < c.length) (hcl : c.length ≤ 100000) (H : Heap) (h : Q (.sl 1 (Rw intC (clsZ c l))) H) :
  ACalls Tryz.prog 88 [.sl 1 (Rw natC c), .sl 1 (Rw natC l)] H Q := by
 refine acalls_of_wp [] Tryz.mixed Tryz.func88 rfl (by kernel_rfl) (of_decide_eq_true (by kernel_rfl)) (by kernel_rfl) ?_
 simp only [go_sem,seval, Tryz.results88]
 refine loop_c [0, 8, 9] (fun (p : Nat × Option Nat) => [(10, .int .i64 p.1), (5, outG 1 p.1 p.2)]) (fun (p : Nat × Option Nat) => putB H 1 (Rw intC ((clsR c l).take p.1)) p.2) (fun (p : Nat × Option Nat) => p.1 ≤ l.length ∧ (p.2 = none → p.1 = 0) ∧ ∀ b, p.2 = some b → H b = none) (fun (p : Nat × Option Nat) => l.length - p.1) ((0, none)) (⟨Nat.zero_le _, fun _ => rfl, fun b e => by cases e⟩) (by (try simp only [go_sem,seval]) <;> (try simp (disch := omega) [wrap64]) <;> (try omega)) (by first | with_reducible exact Heap.Le.refl _ | exact heap_set_le (by assumption) | exact Heap.Le.refl _ | exact heap_le_set (by assumption) | exact (by simp only [Go.Av.Heap.Le, Go.Av.Heap.set, Go.Av.Heap.del] at * <;> grind)) ?_
 rintro Ec rfl ⟨i, ob⟩ ⟨hi, h0, h1⟩
 simp only at hi h0 h1
 have hin := OutIn.mk (H := H) (sz := 1) (es := Rw intC ((clsR c l).take i)) (ob := ob) (fun e => by rw [h0 e]; rfl) h1
 have hlR := clsR_length c l
 by_cases hlt : i < l.length
 ·have hkd : decide ((i : Int) < l.length) = true := decide_eq_true (by omega)
  have hkc := hc _ (List.getElem_mem hlt)
  have hkc2 : ((l[i] : Nat) : Int) < c.length := by omega
  repeat' (first | with_reducible refine And.intro ?_ ?_ | simp only [go_sem,seval, hkd, Rw_at _ _ hlt, Rw_at _ _ hkc, hkc2] | simp (disch := omega) only [wrap64, cell_at, Rw_at] | simp (disch := first | omega | grind) only [heap_ne_, del_ne] | (intro hx_; try simp only [set_none] at hx_) | omega)
  rename_i b2
  have hf2 := hx_
  clear hx_
  refine apS_q (by first | exact hin | exact OutIn.set (hin) (by first | assumption | (refine set_none.2 ?_; assumption) | (simp only [set_none]; assumption) | (simp only [set_none] at *; simp_all; done)) _ | exact OutIn.set (OutIn.set (hin) (by first | assumption | (refine set_none.2 ?_; assumption) | (simp only [set_none]; assumption) | (simp only [set_none] at *; simp_all; done)) _) (by first | assumption | (refine set_none.2 ?_; assumption) | (simp only [set_none]; assumption) | (simp only [set_none] at *; simp_all; done)) _ | exact OutIn.set (OutIn.set (OutIn.set (hin) (by first | assumption | (refine set_none.2 ?_; assumption) | (simp only [set_none]; assumption) | (simp only [set_none] at *; simp_all; done)) _) (by first | assumption | (refine set_none.2 ?_; assumption) | (simp only [set_none]; assumption) | (simp only [set_none] at *; simp_all; done)) _) (by first | assumption | (refine set_none.2 ?_; assumption) | (simp only [set_none]; assumption) | (simp only [set_none] at *; simp_all; done)) _ | exact OutIn.set (OutIn.set (OutIn.set (OutIn.set (hin) (by first | assumption | (refine set_none.2 ?_; assumption) | (simp only [set_none]; assumption) | (simp only [set_none] at *; simp_all; done)) _) (by first | assumption | (refine set_none.2 ?_; assumption) | (simp only [set_none]; assumption) | (simp only [set_none] at *; simp_all; done)) _) (by first | assumption | (refine set_none.2 ?_; assumption) | (simp only [set_none]; assumption) | (simp only [set_none] at *; simp_all; done)) _) (by first | assumption | (refine set_none.2 ?_; assumption) | (simp only [set_none]; assumption) | (simp only [set_none] at *; simp_all; done)) _ ) (by simp) (by first | rfl | (simp only [go_sem,seval, Rw_take_len]; done) | (simp only [go_sem,seval, Rw_take_len]; omega) | simp | (simp; omega)) (by simp only [List.length_cons, List.length_nil]; omega) (by simp only [List.length_cons, List.length_nil]; omega) fun b' hb' hb2 hle => ?_
  repeat' (first | with_reducible refine And.intro ?_ ?_ | simp only [go_sem,seval] | simp (disch := omega) only [wrap64, cell_at, Rw_at] | simp (disch := first | omega | grind) only [heap_ne_, del_ne] | (intro hx_; try simp only [set_none] at hx_) | omega)
  exact nx_mk (i + 1, some b') ⟨by simp only []; omega, (fun e => by cases e), fun b e => by cases e; exact hb'⟩ (by simp only []; omega) (by (try simp only [go_sem,seval]) <;> (try simp (disch := omega) [wrap64]) <;> (try omega)) (putB_le hle (by rw [Rw_take_succ _ _ (by rw [hlR]; exact hlt)]; simp [clsR, intC, hkc]))
 ·have hkd : decide ((i : Int) < l.length) = false := decide_eq_false (by omega)
  have hil : i = l.length := by omega
  subst hil
  rw [← hlR, List.take_length] at hin ⊢
  have hne : clsR c l ≠ [] := by intro e; rw [e] at hlR; exact hl0 (List.eq_nil_of_length_eq_zero (by simpa using hlR.symm))
  cases ob with
  | none => exact absurd (h0 rfl) (by rw [← hlR]; simpa using hne)
  | some b =>
   have hbn := h1 b rfl
   have hms : ((clsR c l).mergeSort fun x y => decide (x ≤ y)).length = (clsR c l).length := List.length_mergeSort _
   have hne2 : ((clsR c l).mergeSort fun x y => decide (x ≤ y)) ≠ [] := by intro e; rw [e] at hms; exact hne (List.eq_nil_of_length_eq_zero (by simpa using hms.symm))
   simp only [putB]
   repeat' (first | with_reducible refine And.intro ?_ ?_ | simp only [go_sem,seval, hkd] | simp (disch := omega) only [wrap64, cell_at, Rw_at] | simp (disch := first | omega | grind) only [heap_ne_, del_ne] | (intro hx_; try simp only [set_none] at hx_) | with_reducible refine sort_a b (clsR c l) hne (by omega) _ (heap_same _ _) ?_ | omega)
   rw [← hms]
   repeat' (first | with_reducible refine And.intro ?_ ?_ | simp only [go_sem,seval] | simp (disch := omega) only [wrap64, cell_at, Rw_at] | simp (disch := first | omega | grind) only [heap_ne_, del_ne] | (intro hx_; try simp only [set_none] at hx_) | with_reducible refine compact_a b _ hne2 (by omega) _ (heap_same _ _) ?_ | omega)
   refine Fin.out (ob := some b) (by rw [Rw_len]) (heap_same _ _) ?_
   exact Fin.less (by show H.Le ((H.set b _).del b); rw [set_del hbn]; exact Heap.Le.refl _) h
theorem finer_a {Q} (c : List Nat) (to : List (List Nat)) (hl : c.length ≤ to.length) (hcl : c.length ≤ 100000) (ht0 : ∀ l ∈ to, l ≠ []) (htl : ∀ l ∈ to, l.length ≤ 100000) (htc : ∀ l ∈ to, ∀ k ∈ l, k < c.length) (hcv : ∀ k ∈ c, k ≤ 100000) (H : Heap) (hT : Tabs H)
  (h : Q (.sl 1 (Rw natC (numS (finS c to)))) H) : ACalls Tryz.prog 63 [.sl 1 (Rw natC c), .sl 1 (Rw natsC to)] H Q := by
 refine acalls_of_wp [] Tryz.mixed Tryz.func63 rfl (by kernel_rfl) (of_decide_eq_true (by kernel_rfl)) (by kernel_rfl) ?_
 simp only [go_sem,seval, Tryz.results63]
 refine loop_c [0, 1, 11, 12] (fun (p : Nat × Option Nat) => [(13, .int .i64 p.1), (5, outG 1 p.1 p.2)]) (fun (p : Nat × Option Nat) => putB H 1 (Rw strC ((finS c to).take p.1)) p.2) (fun (p : Nat × Option Nat) => p.1 ≤ c.length ∧ (p.2 = none → p.1 = 0) ∧ ∀ b, p.2 = some b → H b = none) (fun (p : Nat × Option Nat) => c.length - p.1) ((0, none)) (⟨Nat.zero_le _, fun _ => rfl, fun b e => by cases e⟩) (by (try simp only [go_sem,seval]) <;> (try simp (disch := omega) [wrap64]) <;> (try omega)) (by first | with_reducible exact Heap.Le.refl _ | exact heap_set_le (by assumption) | exact Heap.Le.refl _ | exact heap_le_set (by assumption) | exact (by simp only [Go.Av.Heap.Le, Go.Av.Heap.set, Go.Av.Heap.del] at * <;> grind)) ?_
 rintro Ec rfl ⟨i, ob⟩ ⟨hi, h0, h1⟩
 simp only at hi h0 h1
 have hin := OutIn.mk (H := H) (sz := 1) (es := Rw strC ((finS c to).take i)) (ob := ob) (fun e => by rw [h0 e]; rfl) h1
 have hlF := finS_length c to
 by_cases hlt : i < c.length
 ·have hkd : decide ((i : Int) < c.length) = true := decide_eq_true (by omega)
  have hkt : i < to.length := by omega
  have hkt2 : (i : Int) < to.length := by omega
  have hmem := List.getElem_mem hkt
  have hci := hcv _ (List.getElem_mem hlt)
  have hTc : Tabs (putB H 1 (Rw strC ((finS c to).take i)) ob) := hT.le hin.1
  generalize hHc : putB H 1 (Rw strC ((finS c to).take i)) ob = Hc at hin hTc ⊢
  have hzl := clsZ_length c to[i]
  have htl2 := htl _ hmem
  have hzm : ∀ x ∈ clsZ c to[i], 0 ≤ x ∧ x ≤ 100000 := fun x hx => by
   obtain ⟨k, hk, rfl⟩ := clsZ_mem hx
   have hkc := htc _ hmem k hk
   have := hcv _ (List.getElem_mem hkc)
   simp [hkc]; omega
  repeat' (first | with_reducible refine And.intro ?_ ?_ | simp only [go_sem,seval, hkd, Rw_at _ _ hlt, Rw_at _ _ hkt, hkt2] | simp (disch := omega) only [wrap64, cell_at, Rw_at, finS_at] | simp (disch := first | omega | grind) only [heap_ne_, del_ne] | (intro hx_; try simp only [set_none] at hx_) | with_reducible refine itoa_a _ (by omega) (by omega) _ hTc ?_ | with_reducible refine classesOf_a c to[i] (ht0 _ hmem) (htl _ hmem) (htc _ hmem) hcl _ ?_ | omega)
  refine loop_c [0, 1, 5, 11, 12, 13, 25, 26] (fun (p : Nat × List UInt8) => [(27, .int .i64 p.1), (8, .str (S p.2))]) (fun (p : Nat × List UInt8) => Hc) (fun (p : Nat × List UInt8) => p.1 ≤ (clsZ c to[i]).length ∧ p.2 = Lib.itoa (c[i] : Nat) ++ rowB ((clsZ c to[i]).take p.1) ∧ p.2.length ≤ 21 + 22 * p.1) (fun (p : Nat × List UInt8) => (clsZ c to[i]).length - p.1) ((0, Lib.itoa (c[i] : Nat))) (⟨Nat.zero_le _, by simp [rowB], by have := Lib.itoa_length_le (c[i] : Nat) (by omega) (by omega); simp only []; omega⟩) (by (try simp only [go_sem,seval]) <;> (try simp (disch := omega) [wrap64]) <;> (try omega)) (by first | with_reducible exact Heap.Le.refl _ | exact heap_set_le (by assumption) | exact Heap.Le.refl _ | exact heap_le_set (by assumption) | exact (by simp only [Go.Av.Heap.Le, Go.Av.Heap.set, Go.Av.Heap.del] at * <;> grind)) ?_
  rintro Ec rfl ⟨j, X⟩ ⟨q1, q2, q3⟩
  simp only at q1 q2 q3
  by_cases hjt : j < (clsZ c to[i]).length
  ·have hjd : decide ((j : Int) < (clsZ c to[i]).length) = true := decide_eq_true (by omega)
   obtain ⟨z1, z2⟩ := hzm _ (List.getElem_mem hjt)
   have hzi := Lib.itoa_length_le (clsZ c to[i])[j] (by omega) (by omega)
   repeat' (first | with_reducible refine And.intro ?_ ?_ | simp only [go_sem,seval, hjd, Rw_at _ _ hjt] | simp (disch := omega) only [wrap64, cell_at, Rw_at, finS_at] | simp (disch := first | omega | grind) only [heap_ne_, del_ne] | (intro hx_; try simp only [set_none] at hx_) | with_reducible refine itoa_a _ (by omega) (by omega) _ hTc ?_ | omega)
   have hst : S X ++ ({ data := #[32] } ++ S (Lib.itoa (clsZ c to[i])[j])) = S (X ++ 32 :: Lib.itoa (clsZ c to[i])[j]) := by
    apply B_inj
    simp [B_app, B_S, B_lit]
   rw [hst]
   exact nx_mk (j + 1, X ++ 32 :: Lib.itoa (clsZ c to[i])[j]) ⟨by simp only []; omega, by simp only []; rw [q2, List.take_succ_eq_append_getElem hjt, rowB_snoc, List.append_assoc], by simp only [List.length_append, List.length_cons]; omega⟩ (by simp only []; omega) (by (try simp only [go_sem,seval]) <;> (try simp (disch := omega) [wrap64]) <;> (try omega)) (Heap.Le.refl _)
  ·have hjd : decide ((j : Int) < (clsZ c to[i]).length) = false := decide_eq_false (by omega)
   rw [List.take_of_length_le (by omega)] at q2
   repeat' (first | with_reducible refine And.intro ?_ ?_ | simp only [go_sem,seval, hjd] | simp (disch := omega) only [wrap64, cell_at, Rw_at, finS_at] | simp (disch := first | omega | grind) only [heap_ne_, del_ne] | (intro hx_; try simp only [set_none] at hx_) | omega)
   rename_i b2
   have hf2 := hx_
   clear hx_
   refine apS_q (by first | exact hin | exact OutIn.set (hin) (by first | assumption | (refine set_none.2 ?_; assumption) | (simp only [set_none]; assumption) | (simp only [set_none] at *; simp_all; done)) _ | exact OutIn.set (OutIn.set (hin) (by first | assumption | (refine set_none.2 ?_; assumption) | (simp only [set_none]; assumption) | (simp only [set_none] at *; simp_all; done)) _) (by first | assumption | (refine set_none.2 ?_; assumption) | (simp only [set_none]; assumption) | (simp only [set_none] at *; simp_all; done)) _ | exact OutIn.set (OutIn.set (OutIn.set (hin) (by first | assumption | (refine set_none.2 ?_; assumption) | (simp only [set_none]; assumption) | (simp only [set_none] at *; simp_all; done)) _) (by first | assumption | (refine set_none.2 ?_; assumption) | (simp only [set_none]; assumption) | (simp only [set_none] at *; simp_all; done)) _) (by first | assumption | (refine set_none.2 ?_; assumption) | (simp only [set_none]; assumption) | (simp only [set_none] at *; simp_all; done)) _ | exact OutIn.set (OutIn.set (OutIn.set (OutIn.set (hin) (by first | assumption | (refine set_none.2 ?_; assumption) | (simp only [set_none]; assumption) | (simp only [set_none] at *; simp_all; done)) _) (by first | assumption | (refine set_none.2 ?_; assumption) | (simp only [set_none]; assumption) | (simp only [set_none] at *; simp_all; done)) _) (by first | assumption | (refine set_none.2 ?_; assumption) | (simp only [set_none]; assumption) | (simp only [set_none] at *; simp_all; done)) _) (by first | assumption | (refine set_none.2 ?_; assumption) | (simp only [set_none]; assumption) | (simp only [set_none] at *; simp_all; done)) _ ) (by simp) (by first | rfl | (simp only [go_sem,seval, Rw_take_len]; done) | (simp only [go_sem,seval, Rw_take_len]; omega) | simp | (simp; omega)) (by simp only [List.length_cons, List.length_nil]; omega) (by simp only [List.length_cons, List.length_nil]; omega) fun b' hb' hb2 hle => ?_
   repeat' (first | with_reducible refine And.intro ?_ ?_ | simp only [go_sem,seval] | simp (disch := omega) only [wrap64, cell_at, Rw_at, finS_at] | simp (disch := first | omega | grind) only [heap_ne_, del_ne] | (intro hx_; try simp only [set_none] at hx_) | omega)
   have hst : S X = (finS c to)[i]'(by rw [hlF]; exact hlt) := by rw [finS_at c to i hlt hkt, q2]
   exact nx_mk (i + 1, some b') ⟨by simp only []; omega, (fun e => by cases e), fun b e => by cases e; exact hb'⟩ (by simp only []; omega) (by (try simp only [go_sem,seval]) <;> (try simp (disch := omega) [wrap64]) <;> (try omega)) (putB_le hle (by rw [Rw_take_succ _ _ (by rw [hlF]; exact hlt), ← hst]; rfl))
 ·have hkd : decide ((i : Int) < c.length) = false := decide_eq_false (by omega)
  have hil : i = c.length := by omega
  subst hil
  repeat' (first | with_reducible refine And.intro ?_ ?_ | simp only [go_sem,seval, hkd] | simp (disch := omega) only [wrap64, cell_at, Rw_at, finS_at] | simp (disch := first | omega | grind) only [heap_ne_, del_ne] | (intro hx_; try simp only [set_none] at hx_) | omega)
  rw [← hlF, List.take_length] at hin
  rw [← hlF, List.take_length]
  refine ACalls.out (es := Rw strC (finS c to)) (by rw [Rw_len]) hin.2.1 ?_
  have hle : H.Le (delB (putB H 1 (Rw strC (finS c to)) ob) ob) := hin.le
  repeat' (first | with_reducible refine And.intro ?_ ?_ | simp only [go_sem,seval] | simp (disch := omega) only [wrap64, cell_at, Rw_at, finS_at] | simp (disch := first | omega | grind) only [heap_ne_, del_ne] | (intro hx_; try simp only [set_none] at hx_) | with_reducible refine number_a (finS c to) (by omega) _ ?_ | omega)
  exact Fin.less hle h
end Go.Proofs.YtmohcdihdhggoaaGreatDoor
end
section
set_option maxRecDepth 20000
namespace Go.Bis
open Go Go.Av Go.Lexs
def marksTo (v : List Bool) (k : Nat) : List Nat := (List.range k).filter (fun j => v[j]? == some true)
theorem marksTo_succ (v : List Bool) (k : Nat) : marksTo v (k + 1) = marksTo v k ++ if v[k]? = some true then [k] else [] := filter_snoc
theorem marksTo_le (v : List Bool) (k : Nat) : (marksTo v k).length ≤ k := by have := List.length_filter_le (fun j => v[j]? == some true) (List.range k); simpa [marksTo] using this
theorem marksTo_row (nx : Nat → List Nat) (n i : Nat) : marksTo (rowV nx n i) n = rowL nx n i := rowL_of nx n i
noncomputable def leadsL (s : Sy) : List (List Nat) := (List.range s.seen.length).map (rowL (nxS s) s.seen.length)
theorem leadsL_length (s : Sy) : (leadsL s).length = s.seen.length := by simp [leadsL]
end Go.Bis
namespace Go.Proofs.YtmohcdihdhggoaaGreatDoor
open Go Go.Av Go.Lexs Go.Bis
attribute [local irreducible] ACalls at8
set_option maxHeartbeats 4000000 in
theorem leads_a {Q} (s : Sy) (hs : SyFit s) (ho : SyOk s) (H : Heap) (h : Q (.sl 1 (Rw natsC (leadsL s))) H) : ACalls Tryz.prog 54 [.agg (syC s)] H Q := by
 refine acalls_of_wp [] Tryz.mixed Tryz.func54 rfl (by kernel_rfl) (of_decide_eq_true (by kernel_rfl)) (by kernel_rfl) ?_
 simp only [go_sem,seval, Tryz.results54]
 have hn := ho.n
 have hxl := ho.x
 intro b1 hb1
 repeat' (first | with_reducible refine And.intro ?_ ?_ | simp only [go_sem,seval] | simp (disch := omega) only [wrap64, cell_at, Rw_at, nxS_at] | simp (disch := first | omega | grind) only [heap_ne_, del_ne] | (intro hx_; try simp only [set_none] at hx_) | omega)
 refine loop_c [1, 14] (fun (p : Nat × Option Nat) => [(15, .int .i64 p.1), (3, outG 1 p.1 p.2)]) (fun (p : Nat × Option Nat) => putB (H.set b1 (.box (syC s))) 1 (Rw natsC ((leadsL s).take p.1)) p.2) (fun (p : Nat × Option Nat) => p.1 ≤ s.seen.length ∧ (p.2 = none → p.1 = 0) ∧ ∀ b, p.2 = some b → (H.set b1 (.box (syC s))) b = none) (fun (p : Nat × Option Nat) => s.seen.length - p.1) ((0, none)) (⟨Nat.zero_le _, fun _ => rfl, fun b e => by cases e⟩) (by (try simp only [go_sem,seval]) <;> (try simp (disch := omega) [wrap64]) <;> (try omega)) (by first | with_reducible exact Heap.Le.refl _ | exact heap_set_le (by assumption) | exact Heap.Le.refl _ | exact heap_le_set (by assumption) | exact (by simp only [Go.Av.Heap.Le, Go.Av.Heap.set, Go.Av.Heap.del] at * <;> grind)) ?_
 rintro Ec rfl ⟨i, ob⟩ ⟨hi, h0, h1⟩
 simp only at hi h0 h1
 have hin := OutIn.mk (H := H.set b1 (.box (syC s))) (sz := 1) (es := Rw natsC ((leadsL s).take i)) (ob := ob) (fun e => by rw [h0 e]; rfl) h1
 by_cases hlt : i < s.seen.length
 ·have hkd : decide ((i : Int) < s.seen.length) = true := decide_eq_true (by omega)
  have hrp : i < (List.replicate s.seen.length false).length := by simp; omega
  generalize hHc : putB (H.set b1 (.box (syC s))) 1 (Rw natsC ((leadsL s).take i)) ob = Hc at hin ⊢
  have hbx : Hc b1 = some (.box (syC s)) := hin.1 _ _ (heap_same _ _)
  repeat' (first | with_reducible refine And.intro ?_ ?_ | simp only [go_sem,seval, hkd, hbx, List.length_replicate, rep_b, Rw_at _ _ hrp, set_b] | simp (disch := omega) only [wrap64, cell_at, Rw_at, nxS_at] | simp (disch := first | omega | grind) only [heap_ne_, del_ne] | (intro hx_; try simp only [set_none] at hx_) | omega)
  rename_i b2 hf2 b3
  have hf3 := hx_
  clear hx_
  obtain ⟨h32, hc3⟩ := hf3
  have hn0 : ((List.replicate s.seen.length false).set i true).length = s.seen.length := by simp
  have hm0 : ((List.replicate s.seen.length false).set i true)[i]? = some true := mark_there (by simp; omega)
  have hq0 : Que (nxS s) ((List.replicate s.seen.length false).set i true) [i] := fun k hk => .inl (by
   by_cases e : i = k
   ·simp [e]
   ·rw [List.getElem?_set_ne e] at hk
    have := List.getElem?_eq_some_iff.1 hk
    obtain ⟨g1, g2⟩ := this
    simp at g2)
  refine loop_c [1, 3, 5, 14, 15] (fun (p : List Bool × List Nat × List (List D) × Nat) => [(6, .vec p.2.2.2 1 p.2.2.1.length p.2.1.length)]) (fun (p : List Bool × List Nat × List (List D) × Nat) => (Hc.set b2 (.vec 1 (Rw boolC p.1))).set p.2.2.2 (.vec 1 (p.2.2.1 ++ Rw natC p.2.1))) (fun (p : List Bool × List Nat × List (List D) × Nat) => p.1.length = s.seen.length ∧ p.1[i]? = some true ∧ Snd (nxS s) i p.1 ∧ Que (nxS s) p.1 p.2.1 ∧ (∀ k ∈ p.2.1, p.1[k]? = some true) ∧ Hc p.2.2.2 = none ∧ p.2.2.2 ≠ b2 ∧ 2 * p.1.count false + p.2.1.length ≤ 2 * s.seen.length + 1) (fun (p : List Bool × List Nat × List (List D) × Nat) => 2 * p.1.count false + p.2.1.length) (((List.replicate s.seen.length false).set i true, [i], [], b3)) (⟨hn0, hm0, Snd.start, hq0, (fun k hk => by simp at hk; rw [hk]; exact hm0), hc3, h32, (by have := List.count_le_length (a := false) (l := (List.replicate s.seen.length false).set i true); simp only [List.length_cons, List.length_nil] at *; omega)⟩) (by (try simp only [go_sem,seval]) <;> (try simp (disch := omega) [wrap64]) <;> (try omega)) (by first | with_reducible exact Heap.Le.refl _ | exact heap_set_le (by assumption) | exact Heap.Le.refl _ | exact heap_le_set (by assumption) | exact (by simp only [Go.Av.Heap.Le, Go.Av.Heap.set, Go.Av.Heap.del] at * <;> grind)) ?_
  rintro Ec2 rfl ⟨v, q, pre, b4⟩ ⟨v1, v2, v3, v4, v5, v6, v7, v8⟩
  simp only at v1 v2 v3 v4 v5 v6 v7 v8
  cases q with
  | nil =>
   have hrow : v = rowV (nxS s) s.seen.length i := rowV_of_que v1 v2 v3 v4
   repeat' (first | with_reducible refine And.intro ?_ ?_ | simp only [go_sem,seval] | simp (disch := omega) only [wrap64, cell_at, Rw_at, nxS_at] | simp (disch := first | omega | grind) only [heap_ne_, del_ne] | (intro hx_; try simp only [set_none] at hx_) | omega)
   have hF0 : marksTo v 0 = [] := rfl
   have hb4 : (Hc.set b2 (.vec 1 (Rw boolC v))) b4 = none := by rw [heap_ne _ v7]; exact v6
   refine loop_c [1, 3, 14, 15, 57, 58] (fun (p : Nat × Option Nat) => [(59, .int .i64 p.1), (9, outG 1 (marksTo v p.1).length p.2)]) (fun (p : Nat × Option Nat) => putB (Hc.set b2 (.vec 1 (Rw boolC v))) 1 (Rw natC (marksTo v p.1)) p.2) (fun (p : Nat × Option Nat) => p.1 ≤ s.seen.length ∧ (p.2 = none → marksTo v p.1 = []) ∧ ∀ b, p.2 = some b → (Hc.set b2 (.vec 1 (Rw boolC v))) b = none) (fun (p : Nat × Option Nat) => s.seen.length - p.1) ((0, none)) (⟨Nat.zero_le _, fun _ => hF0, fun b e => by cases e⟩) (by (try simp only [go_sem,seval]) <;> (try simp (disch := omega) [wrap64]) <;> (try omega)) (by first | with_reducible exact Heap.Le.refl _ | exact heap_set_le (by assumption) | exact Heap.Le.refl _ | exact heap_le_set (by assumption) | exact (by simp only [Go.Av.Heap.Le, Go.Av.Heap.set, Go.Av.Heap.del] at * <;> grind)) ?_
   rintro Ec3 rfl ⟨k, ob2⟩ ⟨w1, w2, w3⟩
   simp only at w1 w2 w3
   have hin3 := OutIn.mk (H := Hc.set b2 (.vec 1 (Rw boolC v))) (sz := 1) (es := Rw natC (marksTo v k)) (ob := ob2) (fun e => by rw [w2 e]; rfl) w3
   have hv2 := hin3.get (heap_same b2 _)
   have hlk := marksTo_le v k
   by_cases hkt : k < s.seen.length
   ·have hkk : decide ((k : Int) < s.seen.length) = true := decide_eq_true (by omega)
    have hki : (k : Int) < s.seen.length := by omega
    have hkv : k < v.length := by omega
    have hfk := marksTo_succ v k
    cases hvk : v[k] with
    | false =>
     rw [List.getElem?_eq_getElem hkv, hvk, if_neg (by simp), List.append_nil] at hfk
     repeat' (first | with_reducible refine And.intro ?_ ?_ | simp only [go_sem,seval, hkk, hki, hv2, Rw_get _ _ hkv, hvk] | simp (disch := omega) only [wrap64, cell_at, Rw_at, nxS_at] | simp (disch := first | omega | grind) only [heap_ne_, del_ne] | (intro hx_; try simp only [set_none] at hx_) | omega)
     exact nx_mk (k + 1, ob2) ⟨by simp only []; omega, (fun e => by simp only []; rw [hfk]; exact w2 e), w3⟩ (by simp only []; omega) (by (try simp only [go_sem,seval, hfk]) <;> (try simp (disch := omega) [wrap64]) <;> (try omega)) (by simp only []; rw [hfk]; exact Heap.Le.refl _)
    | true =>
     rw [List.getElem?_eq_getElem hkv, hvk, if_pos rfl] at hfk
     repeat' (first | with_reducible refine And.intro ?_ ?_ | simp only [go_sem,seval, hkk, hki, hv2, Rw_get _ _ hkv, hvk] | simp (disch := omega) only [wrap64, cell_at, Rw_at, nxS_at] | simp (disch := first | omega | grind) only [heap_ne_, del_ne] | (intro hx_; try simp only [set_none] at hx_) | omega)
     rename_i b8
     have hf8 := hx_
     clear hx_
     refine apS_q (by first | exact hin3 | exact OutIn.set (hin3) (by first | assumption | (refine set_none.2 ?_; assumption) | (simp only [set_none]; assumption) | (simp only [set_none] at *; simp_all; done)) _ | exact OutIn.set (OutIn.set (hin3) (by first | assumption | (refine set_none.2 ?_; assumption) | (simp only [set_none]; assumption) | (simp only [set_none] at *; simp_all; done)) _) (by first | assumption | (refine set_none.2 ?_; assumption) | (simp only [set_none]; assumption) | (simp only [set_none] at *; simp_all; done)) _ | exact OutIn.set (OutIn.set (OutIn.set (hin3) (by first | assumption | (refine set_none.2 ?_; assumption) | (simp only [set_none]; assumption) | (simp only [set_none] at *; simp_all; done)) _) (by first | assumption | (refine set_none.2 ?_; assumption) | (simp only [set_none]; assumption) | (simp only [set_none] at *; simp_all; done)) _) (by first | assumption | (refine set_none.2 ?_; assumption) | (simp only [set_none]; assumption) | (simp only [set_none] at *; simp_all; done)) _ | exact OutIn.set (OutIn.set (OutIn.set (OutIn.set (hin3) (by first | assumption | (refine set_none.2 ?_; assumption) | (simp only [set_none]; assumption) | (simp only [set_none] at *; simp_all; done)) _) (by first | assumption | (refine set_none.2 ?_; assumption) | (simp only [set_none]; assumption) | (simp only [set_none] at *; simp_all; done)) _) (by first | assumption | (refine set_none.2 ?_; assumption) | (simp only [set_none]; assumption) | (simp only [set_none] at *; simp_all; done)) _) (by first | assumption | (refine set_none.2 ?_; assumption) | (simp only [set_none]; assumption) | (simp only [set_none] at *; simp_all; done)) _ ) (by simp) (by first | rfl | (simp only [go_sem,seval, Rw_take_len]; done) | (simp only [go_sem,seval, Rw_take_len]; omega) | simp | (simp; omega)) (by simp only [List.length_cons, List.length_nil]; omega) (by simp only [List.length_cons, List.length_nil]; omega) fun b' hb' hb2 hle => ?_
     repeat' (first | with_reducible refine And.intro ?_ ?_ | simp only [go_sem,seval] | simp (disch := omega) only [wrap64, cell_at, Rw_at, nxS_at] | simp (disch := first | omega | grind) only [heap_ne_, del_ne] | (intro hx_; try simp only [set_none] at hx_) | omega)
     exact nx_mk (k + 1, some b') ⟨by simp only []; omega, (fun e => by cases e), fun b e => by cases e; exact hb'⟩ (by simp only []; omega) (by (try simp only [go_sem,seval, hfk, List.length_append, List.length_cons, List.length_nil, Nat.zero_add]) <;> (try simp (disch := omega) [wrap64]) <;> (try omega)) (putB_le hle (by rw [hfk]; simp [Rw, natC]))
   ·have hkk : decide ((k : Int) < s.seen.length) = false := decide_eq_false (by omega)
    have hkn : k = s.seen.length := by omega
    subst hkn
    have hFn : marksTo v s.seen.length = rowL (nxS s) s.seen.length i := by rw [hrow]; exact marksTo_row _ _ _
    have hmi : i ∈ marksTo v s.seen.length := by rw [hFn]; exact mem_rowL.2 ⟨hlt, .refl⟩
    cases ob2 with
    | none => rw [w2 rfl] at hmi; cases hmi
    | some c =>
    have hcv := w3 c rfl
    have hc2 : c ≠ b2 := by intro e; rw [e, heap_same] at hcv; cases hcv
    have hcc : Hc c = none := by rwa [heap_ne _ hc2] at hcv
    have hin4 : OutIn (H.set b1 (.box (syC s))) 1 (Rw natsC ((leadsL s).take i)) ob ((Hc.set b2 (.vec 1 (Rw boolC v))).set c (.vec 1 (Rw natC (marksTo v s.seen.length)))) := OutIn.set (OutIn.set hin hf2 _) hcv _
    have hlv : i < (leadsL s).length := by rw [leadsL_length]; exact hlt
    have hrow2 : (leadsL s)[i] = marksTo v s.seen.length := by rw [hFn]; simp [leadsL]
    have e5 : Rw natsC ((leadsL s).take (i + 1)) = Rw natsC ((leadsL s).take i) ++ [[.sl 1 (Rw natC (marksTo v s.seen.length))]] := by rw [Rw_take_succ _ _ hlv, hrow2]; rfl
    have hcn : (H.set b1 (.box (syC s))) c = none := hin.1.none hcc
    repeat' (first | with_reducible refine And.intro ?_ ?_ | simp only [go_sem,seval, hkk, putB] | simp (disch := omega) only [wrap64, cell_at, Rw_at, nxS_at] | simp (disch := first | omega | grind) only [heap_ne_, del_ne] | (intro hx_; try simp only [set_none] at hx_) | omega)
    rename_i b8
    have hf8 := hx_
    clear hx_
    have h8c : b8 ≠ c := by intro e; rw [e] at hf8; simp [Heap.set, putB] at hf8
    have hd : delB (((Hc.set b2 (.vec 1 (Rw boolC v))).set c (.vec 1 (Rw natC (marksTo v s.seen.length)))).set b8 (.vec 1 [[.vec c 1 0 (marksTo v s.seen.length).length]])) ob c = some (.vec 1 (Rw natC (marksTo v s.seen.length))) := by
     cases ob with
     | none => simp [delB, Heap.set, Ne.symm h8c]
     | some d =>
      have hdc : d ≠ c := by
       intro e
       have := hin.2.1
       rw [e] at this
       exact absurd (this.symm.trans hcc) (by simp)
      simp [delB, Heap.del, Heap.set, Ne.symm h8c, Ne.symm hdc]
    refine apS_q (by first | exact hin4 | exact OutIn.set (hin4) (by first | assumption | (refine set_none.2 ?_; assumption) | (simp only [set_none]; assumption) | (simp only [set_none] at *; simp_all; done)) _ | exact OutIn.set (OutIn.set (hin4) (by first | assumption | (refine set_none.2 ?_; assumption) | (simp only [set_none]; assumption) | (simp only [set_none] at *; simp_all; done)) _) (by first | assumption | (refine set_none.2 ?_; assumption) | (simp only [set_none]; assumption) | (simp only [set_none] at *; simp_all; done)) _ | exact OutIn.set (OutIn.set (OutIn.set (hin4) (by first | assumption | (refine set_none.2 ?_; assumption) | (simp only [set_none]; assumption) | (simp only [set_none] at *; simp_all; done)) _) (by first | assumption | (refine set_none.2 ?_; assumption) | (simp only [set_none]; assumption) | (simp only [set_none] at *; simp_all; done)) _) (by first | assumption | (refine set_none.2 ?_; assumption) | (simp only [set_none]; assumption) | (simp only [set_none] at *; simp_all; done)) _ | exact OutIn.set (OutIn.set (OutIn.set (OutIn.set (hin4) (by first | assumption | (refine set_none.2 ?_; assumption) | (simp only [set_none]; assumption) | (simp only [set_none] at *; simp_all; done)) _) (by first | assumption | (refine set_none.2 ?_; assumption) | (simp only [set_none]; assumption) | (simp only [set_none] at *; simp_all; done)) _) (by first | assumption | (refine set_none.2 ?_; assumption) | (simp only [set_none]; assumption) | (simp only [set_none] at *; simp_all; done)) _) (by first | assumption | (refine set_none.2 ?_; assumption) | (simp only [set_none]; assumption) | (simp only [set_none] at *; simp_all; done)) _ ) (by simp) (by first | rfl | (simp only [go_sem,seval, Rw_take_len]; done) | (simp only [go_sem,seval, Rw_take_len]; omega) | simp | (simp; omega)) (by simp only [List.length_cons, List.length_nil]; omega) (by simp only [List.length_cons, List.length_nil]; omega) fun b' hb' hb2 hle => ?_
    have hne : c ≠ b' := by intro e; rw [← e] at hb2; rw [hd] at hb2; cases hb2
    repeat' (first | with_reducible refine And.intro ?_ ?_ | simp only [go_sem,seval] | simp (disch := omega) only [wrap64, cell_at, Rw_at, nxS_at] | simp (disch := first | omega | grind) only [heap_ne_, del_ne] | (intro hx_; try simp only [set_none] at hx_) | omega)
    refine nx_w (i + 1, some b') ⟨by simp only []; omega, (fun e => by cases e), fun b e => by cases e; exact hb'⟩ (by simp only []; omega) ?_
    simp only [putB]
    rw [e5]
    refine weak_row (m := c) ?_ ?_ (by rw [heap_same]) (by rw [heap_ne _ hne]; exact hd) hne (fun k o hk ho => ⟨fun e => ?_, hle _ k o ?_⟩)
    ·exact (by (try simp only [go_sem,seval]) <;> (try simp (disch := omega) [wrap64]) <;> (try omega))
    ·rw [Rw_len]
    ·rw [e] at ho
     exact absurd (ho.symm.trans hcn) (by simp)
    ·unfold Heap.set at ho ⊢
     rw [if_neg hk]; exact ho
  | cons k q =>
   rw [List.length_cons] at v8
   have hlq : ((k :: q).length : Int) > 0 := by simp only [List.length_cons]; omega
   have hkv := (List.getElem?_eq_some_iff.1 (v5 k (by simp))).1
   have hkx : k < s.next.length := by omega
   have hil := hs.il s.next[k] (List.getElem_mem hkx)
   have hq1 : (pre ++ Rw natC (k :: q))[pre.length]? = some (natC k) := by rw [List.getElem?_append_right (Nat.le_refl _), Nat.sub_self]; rfl
   have hpos : decide ((0 : Int) < ((k :: q).length : Nat)) = true := decide_eq_true (by simp only [List.length_cons]; omega)
   have hpos2 : (0 : Int) < ((k :: q).length : Nat) := by simp only [List.length_cons]; omega
   have hkn : (k : Int) < s.next.length := by omega
   have hbx2 : ∀ X, (Hc.set b2 X) b1 = some (.box (syC s)) := fun X => by
    rw [heap_ne _ (fun e => by rw [e, hf2] at hbx; cases hbx)]; exact hbx
   have hbx4 : ∀ X Y, ((Hc.set b2 X).set b4 Y) b1 = some (.box (syC s)) := fun X Y => by
    rw [heap_ne _ (fun e => by rw [e, v6] at hbx; cases hbx)]; exact hbx2 X
   repeat' (first | with_reducible refine And.intro ?_ ?_ | simp only [go_sem,seval, hpos, hpos2, hbx4, hq1, hkn, Nat.add_zero, Rw_at _ _ hkx] | simp (disch := omega) only [wrap64, cell_at, Rw_at, nxS_at] | simp (disch := first | omega | grind) only [heap_ne_, del_ne] | (intro hx_; try simp only [set_none] at hx_) | omega)
   have hnx := nxS_at hkx
   refine loop_c [1, 3, 5, 14, 15, 38, 39] (fun (p : Nat × List Bool × List Nat × List (List D) × Nat) => [(40, .int .i64 p.1), (6, .vec p.2.2.2.2 1 p.2.2.2.1.length (k :: p.2.2.1).length)]) (fun (p : Nat × List Bool × List Nat × List (List D) × Nat) => (Hc.set b2 (.vec 1 (Rw boolC p.2.1))).set p.2.2.2.2 (.vec 1 (p.2.2.2.1 ++ Rw natC (k :: p.2.2.1)))) (fun (p : Nat × List Bool × List Nat × List (List D) × Nat) => p.1 ≤ s.next[k].length ∧ p.2.1.length = s.seen.length ∧ p.2.1[i]? = some true ∧ Snd (nxS s) i p.2.1 ∧ Que (nxS s) p.2.1 (k :: p.2.2.1) ∧ (∀ x ∈ k :: p.2.2.1, p.2.1[x]? = some true) ∧ Hc p.2.2.2.2 = none ∧ p.2.2.2.2 ≠ b2 ∧ 2 * p.2.1.count false + p.2.2.1.length ≤ 2 * v.count false + q.length ∧ ∀ m ∈ (s.next[k].take p.1).map Int.toNat, p.2.1[m]? = some true) (fun (p : Nat × List Bool × List Nat × List (List D) × Nat) => s.next[k].length - p.1) ((0, v, q, pre, b4)) (⟨Nat.zero_le _, v1, v2, v3, v4, v5, v6, v7, Nat.le_refl _, fun m hm => by simp at hm⟩) (by (try simp only [go_sem,seval]) <;> (try simp (disch := omega) [wrap64]) <;> (try omega)) (by first | with_reducible exact Heap.Le.refl _ | exact heap_set_le (by assumption) | exact Heap.Le.refl _ | exact heap_le_set (by assumption) | exact (by simp only [Go.Av.Heap.Le, Go.Av.Heap.set, Go.Av.Heap.del] at * <;> grind)) ?_
   rintro Ec3 rfl ⟨j, u, q2, pr2, b5⟩ ⟨u0, u1, u2, u3, u4, u5, u6, u7, u8, u9⟩
   simp only at u0 u1 u2 u3 u4 u5 u6 u7 u8 u9
   by_cases hjt : j < s.next[k].length
   ·have hjj : decide ((j : Int) < s.next[k].length) = true := decide_eq_true (by omega)
    obtain ⟨r1, r2⟩ := ho.r _ (List.getElem_mem hkx) _ (List.getElem_mem hjt)
    have hum : (s.next[k][j]).toNat < u.length := by omega
    have hmem : (s.next[k][j]).toNat ∈ nxS s k := by rw [hnx]; exact List.mem_map.2 ⟨_, List.getElem_mem hjt, rfl⟩
    have htk : s.next[k].take (j + 1) = s.next[k].take j ++ [s.next[k][j]] := List.take_succ_eq_append_getElem hjt
    cases huv : u[(s.next[k][j]).toNat] with
    | false =>
     have hq2 : u[(s.next[k][j]).toNat]? = some false := by rw [List.getElem?_eq_getElem hum, huv]
     have hct := mark_count hq2
     repeat' (first | with_reducible refine And.intro ?_ ?_ | simp only [go_sem,seval, hjj, r1, r2, hbx, Rw_at _ _ hjt, Rw_get _ _ hum, Rw_at _ _ hum, huv, set_b] | simp (disch := omega) only [wrap64, cell_at, Rw_at, nxS_at] | simp (disch := first | omega | grind) only [heap_ne_, del_ne] | (intro hx_; try simp only [set_none] at hx_) | omega)
     rename_i b6
     have hf6 := hx_
     clear hx_
     have hdt : ((pr2 ++ Rw natC (k :: q2)).drop pr2.length).take (q2.length + 1) = Rw natC (k :: q2) := by
      rw [List.drop_left, List.take_of_length_le (by rw [Rw_len]; exact Nat.le_refl _)]
     refine apL_mk ?_
     have hb0 : (q2.length + 1 + 1) * 8 ≤ 140737488355328 := by omega
     have hb1' : q2.length ≤ 9223372036854775805 := by omega
     repeat' (first | with_reducible refine And.intro ?_ ?_ | simp only [go_sem,seval, hdt, List.length_append, List.length_cons, hb0, hb1'] | simp (disch := omega) only [wrap64, cell_at, Rw_at, nxS_at] | simp (disch := first | omega | grind) only [heap_ne_, del_ne] | (intro hx_; try simp only [set_none] at hx_) | omega)
     rename_i b7 pr3
     have hf7 := hx_
     clear hx_
     have hmi : ((s.next[k][j]).toNat : Int) = s.next[k][j] := by omega
     have e7 : pr3 ++ (Rw natC (k :: q2) ++ [[.int .i64 s.next[k][j]]]) = pr3 ++ Rw natC (k :: (q2 ++ [(s.next[k][j]).toNat])) := by simp [Rw, natC, hmi]
     refine nx_mk (j + 1, u.set (s.next[k][j]).toNat true, q2 ++ [(s.next[k][j]).toNat], pr3, b7) ⟨by simp only []; omega, by simp only [List.length_set]; exact u1, mark_keep u2, u3.set (u5 k (by simp)) hmem, fun x hx => ?_, fun x hx => ?_, ?_, ?_, ?_, fun m hm => ?_⟩ (by simp only []; omega) (by (try simp only [go_sem,seval, List.length_append, List.length_cons, List.length_nil, Nat.zero_add]) <;> (try simp (disch := omega) [wrap64]) <;> (try omega)) ?_
     ·simp only [] at hx ⊢
      by_cases e : (s.next[k][j]).toNat = x
      ·left; rw [← e]; simp
      ·rw [List.getElem?_set_ne e] at hx
       rcases u4 x hx with hm | hm
       ·left
        rcases List.mem_cons.1 hm with hm | hm
        ·rw [hm]; exact List.mem_cons_self ..
        ·exact List.mem_cons_of_mem _ (List.mem_append_left _ hm)
       ·right
        intro m hm2
        exact mark_keep (hm m hm2)
     ·simp only [List.mem_cons, List.mem_append, List.not_mem_nil, or_false] at hx ⊢
      rcases hx with hx | hx | hx
      ·rw [hx]; exact mark_keep (u5 k (by simp))
      ·exact mark_keep (u5 x (List.mem_cons_of_mem _ hx))
      ·rw [hx]; exact mark_there hum
     ·simp only []
      by_cases e : b7 = b5
      ·rw [e]; exact u6
      ·simp only [Heap.del, Heap.set, if_neg e] at hf7
       grind
     ·simp only []
      intro e
      rw [e] at hf7
      simp only [Heap.del, Heap.set] at hf7
      grind
     ·simp only [List.length_append, List.length_cons, List.length_nil]; omega
     ·simp only [] at hm ⊢
      rw [htk, List.map_append, List.mem_append] at hm
      rcases hm with hm | hm
      ·exact mark_keep (u9 m hm)
      ·simp only [List.map_cons, List.map_nil, List.mem_singleton] at hm
       rw [hm]; exact mark_there hum
     ·simp only []
      rw [← e7]
      intro kk oo hk
      simp only [Heap.del, Heap.set] at hk hf7 ⊢
      grind
    | true =>
     repeat' (first | with_reducible refine And.intro ?_ ?_ | simp only [go_sem,seval, hjj, r1, r2, hbx, Rw_at _ _ hjt, Rw_get _ _ hum, huv] | simp (disch := omega) only [wrap64, cell_at, Rw_at, nxS_at] | simp (disch := first | omega | grind) only [heap_ne_, del_ne] | (intro hx_; try simp only [set_none] at hx_) | omega)
     refine nx_mk (j + 1, u, q2, pr2, b5) ⟨by simp only []; omega, u1, u2, u3, u4, u5, u6, u7, u8, fun m hm => ?_⟩ (by simp only []; omega) (by (try simp only [go_sem,seval]) <;> (try simp (disch := omega) [wrap64]) <;> (try omega)) (Heap.Le.refl _)
     simp only [] at hm
     rw [htk, List.map_append, List.mem_append] at hm
     rcases hm with hm | hm
     ·exact u9 m hm
     ·simp only [List.map_cons, List.map_nil, List.mem_singleton] at hm
      rw [hm, List.getElem?_eq_getElem hum, huv]
   ·have hjj : decide ((j : Int) < s.next[k].length) = false := decide_eq_false (by omega)
    repeat' (first | with_reducible refine And.intro ?_ ?_ | simp only [go_sem,seval, hjj] | simp (disch := omega) only [wrap64, cell_at, Rw_at, nxS_at] | simp (disch := first | omega | grind) only [heap_ne_, del_ne] | (intro hx_; try simp only [set_none] at hx_) | omega)
    have e6 : (pr2 ++ [natC k]) ++ Rw natC q2 = pr2 ++ Rw natC (k :: q2) := by simp [Rw]
    refine nx_mk (u, q2, pr2 ++ [natC k], b5) ⟨u1, u2, u3, fun x hx => ?_, fun x hx => u5 x (List.mem_cons_of_mem _ hx), u6, u7, by simp only []; omega⟩ (by simp only [List.length_cons]; omega) (by (try simp only [go_sem,seval, List.length_append, List.length_cons, List.length_nil, Nat.zero_add, Nat.add_sub_cancel]) <;> (try simp (disch := omega) [wrap64]) <;> (try omega)) (by simp only []; rw [e6]; exact Heap.Le.refl _)
    rcases u4 x hx with hm | hm
    ·rcases List.mem_cons.1 hm with rfl | hm
     ·refine .inr fun m hm2 => u9 m ?_
      rw [hnx] at hm2
      rw [List.take_of_length_le (by omega)]; exact hm2
     ·exact .inl hm
    ·exact .inr hm
 ·have hkd : decide ((i : Int) < s.seen.length) = false := decide_eq_false (by omega)
  repeat' (first | with_reducible refine And.intro ?_ ?_ | simp only [go_sem,seval, hkd] | simp (disch := omega) only [wrap64, cell_at, Rw_at, nxS_at] | simp (disch := first | omega | grind) only [heap_ne_, del_ne] | (intro hx_; try simp only [set_none] at hx_) | omega)
  exact Fin.o (hin.less (heap_le_set hb1)) (Rw_take_len _ i (by rw [leadsL_length]; omega)).symm (by rw [Rw_take_all _ i (by rw [leadsL_length]; omega)]; exact h)
end Go.Proofs.YtmohcdihdhggoaaGreatDoor
end
section
set_option maxRecDepth 20000
namespace Go.Bis
open Go Go.Av Go.Lexs
noncomputable def toN (s : Sy) (i : Nat) : List Nat := rowL (nxS s) s.seen.length i
def clE (s : Sy) (i j : Nat) : Bool := (s.final.getD i false == s.final.getD j false) && eqT (s.seen.getD i default) (s.seen.getD j default)
theorem clE_eqv (s : Sy) (n : Nat) : Eqv (clE s) n := by
 refine ⟨fun i _ => by simp [clE, eqT_iff], fun i j _ _ h => ?_, fun i j k _ _ _ h g => ?_⟩
 ·simp only [clE, Bool.and_eq_true, beq_iff_eq, eqT_iff] at h ⊢
  exact ⟨h.1.symm, h.2.symm⟩
 ·simp only [clE, Bool.and_eq_true, beq_iff_eq, eqT_iff] at h g ⊢
  exact ⟨h.1.trans g.1, h.2.trans g.2⟩
noncomputable def itS (s : Sy) (t : Nat) : List Nat := (itC (clE s) (relR (toN s) s.seen.length) s.seen.length t).1
noncomputable def fixS (s : Sy) : List Nat := fixC (clE s) (relR (toN s) s.seen.length) s.seen.length
theorem fineS (s : Sy) : Fine (clE s) (relR (toN s) s.seen.length) s.seen.length := relR_fine (clE_eqv s _)
theorem itS_length (s : Sy) (t : Nat) : (itS s t).length = s.seen.length := by unfold itS; cases t <;> exact numE_length _ _
theorem itS_lt (s : Sy) (t : Nat) : ∀ c ∈ itS s t, c < s.seen.length := fun c hc => by
 have key : ∀ e, c ∈ (numE e s.seen.length).1 → c < s.seen.length := fun e h => Nat.lt_of_lt_of_le (numE_lt e _ c h) (numE_le e _)
 unfold itS at hc
 cases t with
 | zero => exact key _ hc
 | succ t => exact key _ hc
theorem S_eq {l m : List UInt8} : (S l = S m) = (l = m) := by
 apply propext
 exact ⟨S_inj, fun h => by rw [h]⟩
theorem first_eq {s : Sy} (ho : SyOk s) (hp : SyPl s) : numS (seenS s) = itS s 0 := by
 show (numE (eqB (seenS s)) (seenS s).length).1 = (numE (clE s) s.seen.length).1
 rw [seenS_length]
 rw [numE_congr (e' := clE s) fun i j hji hi => ?_]
 have hf := ho.f
 have e1 : ∀ k, k < s.seen.length → (seenS s).getD k .empty = S (seenB (s.final.getD k false) (s.seen.getD k default)) := fun k hk => by simp [seenS, hk]
 have pl : ∀ k, k < s.seen.length → noQ (s.seen.getD k default) = true := fun k hk => by
  have : s.seen.getD k default = s.seen[k] := by simp [hk]
  rw [this]
  exact plain_noQ _ (hp.p _ (List.getElem_mem hk)).1
 unfold eqB
 rw [e1 i hi, e1 j (by omega), Bool.eq_iff_iff, decide_eq_true_eq, S_eq, seenB_iff _ _ _ _ (pl i hi) (pl j (by omega))]
 simp only [clE, Bool.and_eq_true, beq_iff_eq, eqT_iff]
theorem toN_mem {s : Sy} {i k : Nat} (h : k ∈ toN s i) : k < s.seen.length := (mem_rowL.1 h).1
theorem leadsL_at (s : Sy) (i : Nat) (h : i < s.seen.length) : (leadsL s).getD i [] = toN s i := by simp [leadsL, toN, h]
theorem finer_eq {s : Sy} (t : Nat) : numS (finS (itS s t) (leadsL s)) = itS s (t + 1) := by
 show (numE (eqB (finS (itS s t) (leadsL s))) (finS (itS s t) (leadsL s)).length).1 = (numE (relR (toN s) s.seen.length (itS s t)) s.seen.length).1
 rw [finS_length, itS_length]
 rw [numE_congr (e' := relR (toN s) s.seen.length (itS s t)) fun i j hji hi => ?_]
 have hlt : ∀ k, k < s.seen.length → (itS s t).getD k 0 < s.seen.length := fun k hk => by
  have hk' : k < (itS s t).length := by rw [itS_length]; exact hk
  have : (itS s t).getD k 0 = (itS s t)[k] := by simp [hk']
  rw [this]
  exact itS_lt s t _ (List.getElem_mem hk')
 have e1 : ∀ k, k < s.seen.length → (finS (itS s t) (leadsL s)).getD k .empty = S (finB (itS s t) (toN s) k) := fun k hk => by
  simp only [finS, List.getD_eq_getElem?_getD, List.getElem?_map, List.getElem?_range (show k < (itS s t).length by rw [itS_length]; exact hk), Option.map_some, Option.getD_some]
  unfold finB
  simp only
  rw [← List.getD_eq_getElem?_getD, leadsL_at s k hk]
 rw [← finB_iff (n := s.seen.length) (fun k hk => ?_)]
 ·unfold eqB
  rw [e1 i hi, e1 j (by omega)]
  simp only [S_eq]
 ·rcases hk with hk | hk <;> exact hlt k (toN_mem hk)
theorem itS_few (s : Sy) (k : Nat) (h : ∀ j, j < k → itS s (j + 1) ≠ itS s j) : k ≤ s.seen.length := by
 have key : ∀ u, u ≤ k → u ≤ (itC (clE s) (relR (toN s) s.seen.length) s.seen.length u).2 := fun u => by
  induction u with
  | zero => intro _; exact Nat.zero_le _
  | succ u ih =>
   intro hu
   have h1 := ih (by omega)
   have h2 := (itC_mono (fineS s) u).1
   have h3 : (itC (clE s) (relR (toN s) s.seen.length) s.seen.length (u + 1)).2 ≠ (itC (clE s) (relR (toN s) s.seen.length) s.seen.length u).2 := fun g => h u (by omega) ((itC_same (fineS s) u).2 g)
   omega
 exact Nat.le_trans (key k (Nat.le_refl _)) (itC_le k)
theorem itS_fix {s : Sy} {k : Nat} (h : itS s (k + 1) = itS s k) : itS s k = fixS s := itC_fix (fineS s) h
noncomputable def allS (s : Sy) (k : Nat) : List (List Nat) := (List.range (k + 1)).map (itS s)
theorem allS_length (s : Sy) (k : Nat) : (allS s k).length = k + 1 := by simp [allS]
theorem allS_succ (s : Sy) (k : Nat) : allS s (k + 1) = allS s k ++ [itS s (k + 1)] := by simp [allS, List.range_succ]
end Go.Bis
namespace Go.Proofs.YtmohcdihdhggoaaGreatDoor
open Go Go.Av Go.Lexs Go.Bis
attribute [local irreducible] ACalls at8
set_option maxHeartbeats 2000000 in
theorem classes_a {Q} (s : Sy) (hs : SyFit s) (ho : SyOk s) (hp : SyPl s) (H : Heap) (hT : Tabs H)
  (h : ∀ k, itS s (k + 1) = itS s k → (∀ j, j < k → itS s (j + 1) ≠ itS s j) → Q (.tuple [.sl 1 (Rw natsC (allS s k)), .sl 1 (Rw natsC (leadsL s))]) H) : ACalls Tryz.prog 33 [.agg (syC s)] H Q := by
 refine acalls_of_wp [] Tryz.mixed Tryz.func33 rfl (by kernel_rfl) (of_decide_eq_true (by kernel_rfl)) (by kernel_rfl) ?_
 simp only [go_sem,seval, Tryz.results33]
 have hn := ho.n
 intro b1 hb1
 have hT1 := hT.set (.box (syC s)) hb1
 repeat' (first | with_reducible refine And.intro ?_ ?_ | simp only [go_sem,seval] | simp (disch := omega) only [wrap64, cell_at] | simp (disch := first | omega | grind) only [heap_ne_, del_ne] | (intro hx_; try simp only [set_none] at hx_) | with_reducible refine leads_a s hs ho _ ?_ | with_reducible refine first_a s hs ho hp _ hT1 ?_ | omega)
 rename_i c0
 have hf0 := hx_
 clear hx_
 rw [first_eq ho hp]
 refine loop_c [] (fun (p : Nat × Nat) => [(2, .vec p.2 1 0 (p.1 + 1)), (3, .sl 1 (Rw natsC (leadsL s)))]) (fun (p : Nat × Nat) => (H.set b1 (.box (syC s))).set p.2 (.vec 1 (Rw natsC (allS s p.1)))) (fun (p : Nat × Nat) => (H.set b1 (.box (syC s))) p.2 = none ∧ ∀ j, j < p.1 → itS s (j + 1) ≠ itS s j) (fun (p : Nat × Nat) => s.seen.length + 1 - p.1) ((0, c0)) (⟨by simpa only [set_none] using hf0, fun j hj => absurd hj (Nat.not_lt_zero _)⟩) (by (try simp only [go_sem,seval]) <;> (try simp (disch := omega) [wrap64]) <;> (try omega)) (by first | with_reducible exact Heap.Le.refl _ | exact heap_set_le (by assumption) | exact Heap.Le.refl _ | exact heap_le_set (by assumption) | exact (by simp only [Go.Av.Heap.Le, Go.Av.Heap.set, Go.Av.Heap.del] at * <;> grind)) ?_
 rintro Ec rfl ⟨k, c⟩ ⟨hc, hno⟩
 simp only at hc hno
 have hk := itS_few s k hno
 have hal := allS_length s k
 have hTc : Tabs ((H.set b1 (.box (syC s))).set c (.vec 1 (Rw natsC (allS s k)))) := hT1.set _ hc
 have hkl : k < (allS s k).length := by omega
 have hat : (allS s k)[k] = itS s k := by simp [allS]
 have hll := leadsL_length s
 have hil := itS_length s k
 have hlt := itS_lt s k
 have hto : ∀ l ∈ leadsL s, l ≠ [] ∧ l.length ≤ 100000 ∧ ∀ k ∈ l, k < s.seen.length := fun l hl => by
  simp only [leadsL, List.mem_map, List.mem_range] at hl
  obtain ⟨i, hi, rfl⟩ := hl
  refine ⟨fun e => ?_, ?_, fun k hk => (mem_rowL.1 hk).1⟩
  ·have : i ∈ rowL (nxS s) s.seen.length i := mem_rowL.2 ⟨hi, .refl⟩
   rw [e] at this; cases this
  ·have : (rowL (nxS s) s.seen.length i).length ≤ s.seen.length := by
    unfold rowL
    exact Nat.le_trans (List.length_filter_le _ _) (by simp)
   omega
 have hk1 : (((k + 1 : Nat) : Int) - 1).toNat = k := by omega
 repeat' (first | with_reducible refine And.intro ?_ ?_ | simp only [go_sem,seval, hk1, Rw_get _ _ hkl, hat] | simp (disch := omega) only [wrap64, cell_at] | simp (disch := first | omega | grind) only [heap_ne_, del_ne] | (intro hx_; try simp only [set_none] at hx_) | with_reducible refine finer_a (itS s k) (leadsL s) (by omega) (by omega) (fun l hl => (hto l hl).1) (fun l hl => (hto l hl).2.1) (fun l hl k hk => by rw [hil]; exact (hto l hl).2.2 k hk) (fun k hk => by have := hlt k hk; omega) _ hTc ?_ | omega)
 rw [finer_eq]
 repeat' (first | with_reducible refine And.intro ?_ ?_ | simp only [go_sem,seval] | simp (disch := omega) only [wrap64, cell_at] | simp (disch := first | omega | grind) only [heap_ne_, del_ne] | (intro hx_; try simp only [set_none] at hx_) | omega)
 rw [natR_int, natR_int]
 have hil2 := itS_length s (k + 1)
 have hmap : ((itS s k).map (fun (k : Nat) => (k : Int)) = (itS s (k + 1)).map (fun (k : Nat) => (k : Int))) ↔ itS s (k + 1) = itS s k := ⟨fun e => (List.map_inj_right (fun a b h => by omega)).1 e.symm, fun e => by rw [e]⟩
 by_cases hst : itS s (k + 1) = itS s k
 ·have hdec : decide ((itS s k).map (fun (k : Nat) => (k : Int)) = (itS s (k + 1)).map (fun (k : Nat) => (k : Int))) = true := decide_eq_true (hmap.2 hst)
  repeat' (first | with_reducible refine And.intro ?_ ?_ | simp only [go_sem,seval, hdec] | simp (disch := omega) only [wrap64, cell_at] | simp (disch := first | omega | grind) only [heap_ne_, del_ne] | (intro hx_; try simp only [set_none] at hx_) | with_reducible refine equalI_a _ _ (by simp; omega) (by simp; omega) _ ?_ | omega)
  refine Fin.slice1 (heap_same _ _) (by rw [Rw_len]; omega) (Fin.less ?_ (h k hst hno))
  rw [set_del hc]; exact heap_le_set hb1
 ·have hdec : decide ((itS s k).map (fun (k : Nat) => (k : Int)) = (itS s (k + 1)).map (fun (k : Nat) => (k : Int))) = false := decide_eq_false (fun e => hst (hmap.1 e))
  repeat' (first | with_reducible refine And.intro ?_ ?_ | simp only [go_sem,seval, hdec] | simp (disch := omega) only [wrap64, cell_at] | simp (disch := first | omega | grind) only [heap_ne_, del_ne] | (intro hx_; try simp only [set_none] at hx_) | with_reducible refine equalI_a _ _ (by simp; omega) (by simp; omega) _ ?_ | omega)
  rename_i b3 hf3 b4
  have hf4 := hx_
  clear hx_
  have h3c : b3 ≠ c := by intro e; subst e; simp [set_none] at hf3
  have h43 : (H.set b1 (.box (syC s))) b4 = none := by
   simp only [Heap.del, Heap.set] at hf3 hf4 hc ⊢
   grind
  have hfew := itS_few s (k + 1) (fun j hj => by
   by_cases e : j = k
   ·rw [e]; exact hst
   ·exact hno j (by omega))
  refine nx_mk (k + 1, b4) ⟨h43, fun j hj => ?_⟩ (by simp only []; omega) (by (try simp only [go_sem,seval]) <;> (try simp (disch := omega) [wrap64]) <;> (try omega)) ?_
  ·by_cases e : j = k
   ·rw [e]; exact hst
   ·exact hno j (by simp only [] at hj; omega)
  ·simp only []
   rw [show Rw natsC (allS s (k + 1)) = Rw natsC (allS s k) ++ [[.sl 1 (Rw natC (itS s (k + 1)))]] by rw [allS_succ]; simp [Rw, natsC]]
   rw [List.take_of_length_le (by rw [Rw_len]; omega), ← natR_int]
   intro q o hq
   simp only [Heap.del, Heap.set] at hf3 hf4 hc hq ⊢
   grind
end Go.Proofs.YtmohcdihdhggoaaGreatDoor
end
section
set_option maxRecDepth 20000
namespace Go.Bis
open Go Go.Av Go.Lexs
theorem validY_pl {s : Sy} (h : validY s = true) : SyPl s := by
 unfold validY at h
 simp only [Bool.and_eq_true, List.all_eq_true] at h
 exact ⟨fun t ht => valid_plain (h.1.2 t ht)⟩
theorem validY_n {s : Sy} (h : validY s = true) : 1 ≤ s.seen.length ∧ s.seen.length ≤ 400 := by
 unfold validY at h
 simp only [Bool.and_eq_true, decide_eq_true_eq] at h
 exact ⟨h.1.1.1.1.1, h.1.1.1.1.2⟩
theorem union_pl {a b : Sy} (ha : SyPl a) (hb : SyPl b) : SyPl (unionS a b) := ⟨fun t ht => by
 simp only [unionS, List.mem_append] at ht
 rcases ht with ht | ht
 ·exact ha.p t ht
 ·exact hb.p t ht⟩
theorem fixS_length (s : Sy) : (fixS s).length = s.seen.length := by
 unfold fixS fixC
 exact itS_length s _
noncomputable def clA (a b : Sy) : List Nat := (fixS (unionS a b)).take a.seen.length
noncomputable def clB (a b : Sy) : List Nat := (fixS (unionS a b)).drop a.seen.length
theorem clA_length (a b : Sy) : (clA a b).length = a.seen.length := by simp [clA, fixS_length, unionS]
theorem clB_length (a b : Sy) : (clB a b).length = b.seen.length := by simp [clB, fixS_length, unionS]
end Go.Bis
namespace Go.Proofs.YtmohcdihdhggoaaGreatDoor
open Go Go.Av Go.Lexs Go.Bis
attribute [local irreducible] ACalls at8
set_option maxHeartbeats 2000000 in
theorem bClasses_a {Q} (a b : Sy) (ha : SyFit a) (hb : SyFit b) (H : Heap) (hT : Tabs H)
  (h : Q (if validY a && validY b then .tuple [.sl 1 (Rw natC (clA a b)), .sl 1 (Rw natC (clB a b)), .int .i64 0] else .tuple [.nilsl, .nilsl, .int .i64 2]) H) : ACalls Tryz.prog 12 [.agg (syC a), .agg (syC b)] H Q := by
 refine acalls_of_wp [(6, .par)] Tryz.mixed Tryz.func12 rfl (by kernel_rfl) (of_decide_eq_true (by kernel_rfl)) (by kernel_rfl) ?_
 simp only [go_sem,seval, Tryz.results12]
 intro b1 hb1
 repeat' (first | with_reducible refine And.intro ?_ ?_ | simp only [go_sem,seval] | simp (disch := omega) only [wrap64, cell_at, Rw_at] | simp (disch := first | omega | grind) only [heap_ne_, del_ne] | (intro hx_; try simp only [set_none] at hx_) | omega)
 cases hva : validY a with
 | false =>
  rw [hva] at h
  repeat' (first | with_reducible refine And.intro ?_ ?_ | simp only [go_sem,seval, hva] | simp (disch := omega) only [wrap64, cell_at, Rw_at] | simp (disch := first | omega | grind) only [heap_ne_, del_ne] | (intro hx_; try simp only [set_none] at hx_) | with_reducible refine bvalid_a a ha _ ?_ | omega)
  rename_i b2
  have hf2 := hx_
  clear hx_
  refine Fin.less (H' := H) ((heap_le_set hb1).trans (heap_le_set (by simpa only [set_none] using hf2))) ?_
  simpa using h
 | true =>
  cases hvb : validY b with
  | false =>
   rw [hva, hvb] at h
   repeat' (first | with_reducible refine And.intro ?_ ?_ | simp only [go_sem,seval, hva, hvb] | simp (disch := omega) only [wrap64, cell_at, Rw_at] | simp (disch := first | omega | grind) only [heap_ne_, del_ne] | (intro hx_; try simp only [set_none] at hx_) | with_reducible refine bvalid_a a ha _ ?_ | with_reducible refine bvalid_a b hb _ ?_ | omega)
   rename_i b2
   have hf2 := hx_
   clear hx_
   refine Fin.less (H' := H) ((heap_le_set hb1).trans (heap_le_set (by simpa only [set_none] using hf2))) ?_
   simpa using h
  | true =>
   rw [hva, hvb] at h
   have oa := validY_ok hva
   have oB := validY_ok hvb
   have na := validY_n hva
   have nb := validY_n hvb
   have han : a.seen ≠ [] := fun e => by rw [e] at na; simp at na
   repeat' (first | with_reducible refine And.intro ?_ ?_ | simp only [go_sem,seval, hva, hvb] | simp (disch := omega) only [wrap64, cell_at, Rw_at] | simp (disch := first | omega | grind) only [heap_ne_, del_ne] | (intro hx_; try simp only [set_none] at hx_) | with_reducible refine bvalid_a a ha _ ?_ | with_reducible refine bvalid_a b hb _ ?_ | with_reducible refine union_a a b ha hb oa oB han _ ?_ | omega)
   rename_i b2
   have hf2 := hx_
   clear hx_
   have ou := union_ok oa oB (by omega)
   have fu := union_fit ha hb oa oB
   have pu := union_pl (validY_pl hva) (validY_pl hvb)
   have hT2 : Tabs ((H.set b1 (.box (syC a))).set b2 (.box (syC b))) := (hT.set _ hb1).set _ (by simpa only [set_none] using hf2)
   refine classes_a _ fu ou pu _ hT2 (fun k hk hno => ?_)
   have hal := allS_length (unionS a b) k
   have hkl : k < (allS (unionS a b) k).length := by omega
   have hat : (allS (unionS a b) k)[k] = fixS (unionS a b) := by rw [← itS_fix hk]; simp [allS]
   have hk1 : (((k + 1 : Nat) : Int) - 1).toNat = k := by omega
   have hfl : (fixS (unionS a b)).length = a.seen.length + b.seen.length := by rw [fixS_length]; simp [unionS]
   have hkf := itS_few _ k hno
   have hun : (unionS a b).seen.length = a.seen.length + b.seen.length := by simp [unionS]
   repeat' (first | with_reducible refine And.intro ?_ ?_ | simp only [go_sem,seval, hal, hk1, Rw_at _ _ hkl, hat] | simp (disch := omega) only [wrap64, cell_at, Rw_at] | simp (disch := first | omega | grind) only [heap_ne_, del_ne] | (intro hx_; try simp only [set_none] at hx_) | omega)
   refine par_mk (fun i => if i = 3 then .sl 1 (Rw natC (clA a b)) else .sl 1 (Rw natC (clB a b))) [] ?_
   have la := clA_length a b
   have lb := clB_length a b
   have eA : (Rw natC (fixS (unionS a b))).take a.seen.length = Rw intC ((clA a b).map fun (k : Nat) => (k : Int)) := by rw [Rw_take, ← natR_int]; rfl
   have eB : (Rw natC (fixS (unionS a b))).drop a.seen.length = Rw intC ((clB a b).map fun (k : Nat) => (k : Int)) := by rw [Rw_drop, ← natR_int]; rfl
   have eT : (Rw natC (fixS (unionS a b))).take (a.seen.length + b.seen.length) = Rw natC (fixS (unionS a b)) := List.take_of_length_le (by rw [Rw_len, hfl]; exact Nat.le_refl _)
   have neA : (clA a b).map (fun (k : Nat) => (k : Int)) ≠ [] := fun e => by have := congrArg List.length e; rw [List.length_map, List.length_nil] at this; omega
   have neB : (clB a b).map (fun (k : Nat) => (k : Int)) ≠ [] := fun e => by have := congrArg List.length e; rw [List.length_map, List.length_nil] at this; omega
   repeat' (first | with_reducible refine And.intro ?_ ?_ | simp only [go_sem,seval, hfl, eT, eA, eB] | simp (disch := omega) only [wrap64, cell_at, Rw_at] | simp (disch := first | omega | grind) only [heap_ne_, del_ne] | (intro hx_; try simp only [set_none] at hx_) | with_reducible refine pc0 (fun H' Q hro hq => cloneI_a _ neA (by simp; omega) H' (by rw [← natR_int]; exact hq)) ?_ | with_reducible refine pc0 (fun H' Q hro hq => cloneI_a _ neB (by simp; omega) H' (by rw [← natR_int]; exact hq)) ?_ | omega)
   refine Fin.less (H' := H) ((heap_le_set hb1).trans (heap_le_set (by simpa only [set_none] using hf2))) ?_
   simpa using h
noncomputable def alikeV (a b : Sy) : Bool := decide ((clA a b).getD 0 0 = (clB a b).getD 0 0)
noncomputable def alikeR (a b : Sy) : D := if validY a && validY b then .tuple [.bool (alikeV a b), .int .i64 0] else .tuple [.bool false, .int .i64 2]
theorem bAlike_a {Q} (a b : Sy) (ha : SyFit a) (hb : SyFit b) (H : Heap) (hT : Tabs H) (h : Q (alikeR a b) H) : ACalls Tryz.prog 14 [.agg (syC a), .agg (syC b)] H Q := by
 unfold alikeR at h
 refine acalls_of_wp [] Tryz.mixed Tryz.func14 rfl (by kernel_rfl) (of_decide_eq_true (by kernel_rfl)) (by kernel_rfl) ?_
 simp only [go_sem,seval, Tryz.results14]
 intro b1 hb1
 repeat' (first | with_reducible refine And.intro ?_ ?_ | simp only [go_sem,seval] | simp (disch := omega) only [wrap64, cell_at, Rw_at] | simp (disch := first | omega | grind) only [heap_ne_, del_ne] | (intro hx_; try simp only [set_none] at hx_) | omega)
 rename_i b2
 have hf2 := hx_
 clear hx_
 have hf2' : (H.set b1 (.box (syC a))) b2 = none := by simpa only [set_none] using hf2
 refine bClasses_a a b ha hb _ ((hT.set _ hb1).set _ hf2') ?_
 have hle : H.Le ((H.set b1 (.box (syC a))).set b2 (.box (syC b))) := (heap_le_set hb1).trans (heap_le_set hf2')
 cases hv : validY a && validY b with
 | false =>
  rw [hv] at h
  rw [if_neg (by simp)] at h ⊢
  repeat' (first | with_reducible refine And.intro ?_ ?_ | simp only [go_sem,seval] | simp (disch := omega) only [wrap64, cell_at, Rw_at] | simp (disch := first | omega | grind) only [heap_ne_, del_ne] | (intro hx_; try simp only [set_none] at hx_) | omega)
  exact Fin.less hle h
 | true =>
  rw [hv] at h
  rw [if_pos rfl] at h ⊢
  rw [Bool.and_eq_true] at hv
  have na := validY_n hv.1
  have nb := validY_n hv.2
  have la := clA_length a b
  have lb := clB_length a b
  have l0 : 0 < (clA a b).length := by omega
  have l1 : 0 < (clB a b).length := by omega
  unfold alikeV at h
  repeat' (first | with_reducible refine And.intro ?_ ?_ | simp only [go_sem,seval, Rw_at _ _ l0, Rw_at _ _ l1] | simp (disch := omega) only [wrap64, cell_at, Rw_at] | simp (disch := first | omega | grind) only [heap_ne_, del_ne] | (intro hx_; try simp only [set_none] at hx_) | omega)
  refine Fin.less hle ?_
  have he : decide (((clA a b)[0] : Int) = ((clB a b)[0] : Int)) = decide ((clA a b)[0] = (clB a b)[0]) := by
   rw [Bool.eq_iff_iff, decide_eq_true_eq, decide_eq_true_eq]; omega
  rw [he]
  simpa [l0, l1] using h
end Go.Proofs.YtmohcdihdhggoaaGreatDoor
end
section
set_option maxRecDepth 20000
namespace Go.Bis
open Go Go.Av Go.Lexs
def numI (cl : Nat → Nat) (reps : List Nat) (x : Nat) : Int := match reps.findIdx? (fun r => cl r == x) with
 | some j => (j : Int)
 | none => -1
theorem numI_range (cl : Nat → Nat) (reps : List Nat) (x : Nat) : -1 ≤ numI cl reps x ∧ numI cl reps x < reps.length := by
 unfold numI
 cases h : reps.findIdx? (fun r => cl r == x) with
 | none => simp only []; omega
 | some j =>
  have := (List.findIdx?_eq_some_iff_getElem.1 h).1
  simp only []; omega
theorem numI_none {cl : Nat → Nat} {reps : List Nat} {x : Nat} : numI cl reps x = -1 ↔ ∀ r ∈ reps, cl r ≠ x := by
 unfold numI
 cases h : reps.findIdx? (fun r => cl r == x) with
 | none => simpa [List.findIdx?_eq_none_iff] using h
 | some j =>
  obtain ⟨h1, h2, _⟩ := List.findIdx?_eq_some_iff_getElem.1 h
  constructor
  ·intro e; simp only [] at e; omega
  ·intro e; exact absurd (by simpa using h2) (e _ (List.getElem_mem h1))
noncomputable def reS (s : Sy) (k : Nat) : Bool := (rowV (nxS s) s.seen.length 0).getD k false
noncomputable def clN (s : Sy) (k : Nat) : Nat := (fixS s).getD k 0
noncomputable def repsTo (s : Sy) : Nat → List Nat
 | 0 => []
 | k + 1 => if reS s k && decide (numI (clN s) (repsTo s k) (clN s k) < 0) then repsTo s k ++ [k] else repsTo s k
noncomputable def repsS (s : Sy) : List Nat := repsTo s s.seen.length
noncomputable def numS' (s : Sy) (k : Nat) : Int := numI (clN s) (repsS s) (clN s k)
open Classical in
noncomputable def stepS (s : Sy) (e f : Nat) : Bool := decide (∃ i, i < s.seen.length ∧ reS s i = true ∧ numS' s i = e ∧ ∃ k ∈ nxS s i, numS' s k = f)
noncomputable def smallS (s : Sy) : Sy := ⟨(repsS s).map fun r => s.seen.getD r default, (repsS s).map fun r => s.final.getD r false, (List.range (repsS s).length).map fun e => ((List.range (repsS s).length).filter fun f => stepS s e f && f != e).map fun (f : Nat) => (f : Int)⟩
theorem repsTo_le (s : Sy) : ∀ k, (repsTo s k).length ≤ k
 | 0 => by rw [repsTo]; simp
 | k + 1 => by rw [repsTo]; have := repsTo_le s k; split <;> simp <;> omega
end Go.Bis
end
section
set_option maxRecDepth 20000
namespace Go.Bis
open Go Go.Av Go.Lexs
theorem reps_new {s : Sy} {k : Nat} (h1 : reS s k = true) (h2 : numI (clN s) (repsTo s k) (clN s k) < 0) : repsTo s (k + 1) = repsTo s k ++ [k] := by
 rw [repsTo, if_pos]; simp [h1, h2]
theorem reS_zero {s : Sy} (h : 1 ≤ s.seen.length) : reS s 0 = true := by
 have h0 : 0 < s.seen.length := by omega
 simp only [reS, rowV, List.getD_eq_getElem?_getD, List.getElem?_map, List.getElem?_range h0, Option.map_some, Option.getD_some, decide_eq_true_eq]
 exact .refl
theorem repsTo_sub (s : Sy) (k : Nat) : ∀ d, ∀ r ∈ repsTo s k, r ∈ repsTo s (k + d)
 | 0, r, h => h
 | d + 1, r, h => by
  have := repsTo_sub s k d r h
  rw [← Nat.add_assoc, repsTo]; split
  ·exact List.mem_append_left _ this
  ·exact this
theorem reS_iff {s : Sy} {k : Nat} (h : k < s.seen.length) : reS s k = true ↔ Rch (nxS s) 0 k := by
 simp only [reS, rowV, List.getD_eq_getElem?_getD, List.getElem?_map, List.getElem?_range h, Option.map_some, Option.getD_some, decide_eq_true_eq]
theorem numS'_pos {s : Sy} {k : Nat} (h : k < s.seen.length) (hr : reS s k = true) : 0 ≤ numS' s k ∧ numS' s k < (repsTo s s.seen.length).length := by
 refine ⟨?_, (numI_range _ _ _).2⟩
 unfold numS' repsS
 have hx : ∃ r ∈ repsTo s s.seen.length, clN s r = clN s k := by
  by_cases hng : numI (clN s) (repsTo s k) (clN s k) < 0
  ·refine ⟨k, ?_, rfl⟩
   have := repsTo_sub s (k + 1) (s.seen.length - (k + 1)) k (by rw [reps_new hr hng]; simp)
   rwa [show k + 1 + (s.seen.length - (k + 1)) = s.seen.length by omega] at this
  ·have h2 : ¬ numI (clN s) (repsTo s k) (clN s k) = -1 := by omega
   rw [numI_none] at h2
   simp only [ne_eq, Classical.not_forall, Classical.not_not] at h2
   obtain ⟨r, hr1, hr2⟩ := h2
   refine ⟨r, ?_, hr2⟩
   have := repsTo_sub s k (s.seen.length - k) r hr1
   rwa [show k + (s.seen.length - k) = s.seen.length by omega] at this
 obtain ⟨r, h1, h2⟩ := hx
 have h3 : ¬ numI (clN s) (repsTo s s.seen.length) (clN s k) = -1 := fun e => numI_none.1 e r h1 h2
 have := numI_range (clN s) (repsTo s s.seen.length) (clN s k)
 omega
noncomputable def lstS (s : Sy) (e k : Nat) : List Int := ((List.range k).filter fun f => stepS s e f && f != e).map fun (f : Nat) => (f : Int)
theorem small_next (s : Sy) (e : Nat) (h : e < (repsTo s s.seen.length).length) : (smallS s).next[e]'(by simp [smallS, repsS]; exact h) = lstS s e (repsTo s s.seen.length).length := by simp [smallS, lstS, repsS]
noncomputable def smallR (s : Sy) : D := if validY s then .tuple [.agg (syC (smallS s)), .int .i64 0] else .tuple [.agg [.nilsl, .nilsl, .nilsl], .int .i64 2]
end Go.Bis
end
section
set_option maxRecDepth 20000
namespace Go.Av
theorem ACalls.agg2 {P : Program} {f : Nat} {a : D} {cs cs' : List D} {H : Heap} {Q : D → Heap → Prop} (hl : cs.length = cs'.length)
  (hz : ∀ (i : Nat) d d', cs[i]? = some d → cs'[i]? = some d' → d' = d ∨ (d = .nilsl ∧ ∃ sz, d' = .sl sz [])) (h : ACalls P f [a, .agg cs'] H Q) : ACalls P f [a, .agg cs] H Q :=
 ACalls.shift (args' := [a, .agg cs']) (fun w vs h1 h2 h3 => ⟨h1, fun i d hd => by
  match i, hd with
  | 0, hd => simp at hd; subst hd; exact h2 0 _ rfl
  | 1, hd =>
   simp at hd; subst hd
   have hr := h2 1 (.agg cs) rfl
   revert hr
   generalize vs.getD 1 undef = v
   intro hr
   cases hr with
   | agg _ us hlv ho hr =>
    have key : ∀ (i : Nat) d', cs'[i]? = some d' → ∃ d, cs[i]? = some d ∧ (d' = d ∨ (d = .nilsl ∧ ∃ sz, d' = .sl sz [])) := fun i d' hd' => by
     have hi := (List.getElem?_eq_some_iff.1 hd').1
     have hi' : i < cs.length := by omega
     exact ⟨cs[i], List.getElem?_eq_getElem hi', hz i _ _ (List.getElem?_eq_getElem hi') hd'⟩
    refine .agg cs' us (by omega) (fun i d' hd' => ?_) (fun i d' hd' => ?_)
    ·obtain ⟨d, hd, h | ⟨h, z, h'⟩⟩ := key i d' hd'
     ·rw [h]; exact ho i d hd
     ·rw [h']; rfl
    ·obtain ⟨d, hd, h | ⟨h, z, h'⟩⟩ := key i d' hd'
     ·rw [h]; exact hr i d hd
     ·rw [h']
      have := hr i d hd
      rw [h] at this
      exact this.nil_sl z
  | i + 2, hd => simp at hd, h3, fun _ hn => hn⟩) h
end Go.Av
namespace Go.Bis
open Go Go.Av Go.Lexs
inductive Mo where
 | mk (op : Int) (term : Tm) (kids : List Mo)
 deriving Inhabited
namespace Mo
def op : Mo → Int | mk o _ _ => o
def term : Mo → Tm | mk _ t _ => t
def kids : Mo → List Mo | mk _ _ k => k
end Mo
mutual
def moC : Mo → List D
 | .mk o t ks => .int .i64 o :: (tmC t ++ [.sl 8 (mosC ks)])
def mosC : List Mo → List (List D)
 | [] => []
 | t :: ts => moC t :: mosC ts
end
theorem mosC_rw : ∀ l, mosC l = Rw moC l
 | [] => by rw [mosC]; rfl
 | t :: ts => by rw [mosC, mosC_rw ts]; rfl
theorem moC_eta (m : Mo) : moC m = [.int .i64 m.op, .int .i64 m.term.kind, .int .i64 m.term.n, .str m.term.text, .str m.term.sort, .sl 6 (Rw tmC m.term.kids), .sl 6 (Rw tmC m.term.rest), .sl 8 (Rw moC m.kids)] := by
 cases m; rw [moC, mosC_rw, tmC_eta]; rfl
@[go_sem] theorem moC_len (m : Mo) : (moC m).length = 8 := by rw [moC_eta]; rfl
@[go_sem] theorem moC_take (m : Mo) : (moC m).take 8 = moC m := by rw [moC_eta]; rfl
theorem moC_all (m : Mo) : (moC m).all D.one = true := by rw [moC_eta]; rfl
attribute [go_sem] moC_all
@[go_sem] theorem moC_0 (m : Mo) : (moC m).head? = some (.int .i64 m.op) := by rw [moC_eta]; rfl
@[go_sem] theorem moC_1 (m : Mo) : ((moC m).drop 1).take 6 = tmC m.term := by rw [moC_eta, tmC_eta]; rfl
@[go_sem] theorem moC_7 (m : Mo) : ((moC m).drop 7).head? = some (.sl 8 (Rw moC m.kids)) := by rw [moC_eta]; rfl
@[go_sem] theorem moC_put (a b c d e f g h : D) (m : Mo) : putAt [a, b, c, d, e, f, g, h] 0 (moC m) = moC m := by rw [moC_eta]; rfl
inductive MoFit : Mo → Prop
 | mk (o : Int) (t : Tm) (ks : List Mo) (h1 : -9223372036854775808 ≤ o ∧ o ≤ 9223372036854775807) (h2 : TmFit t) (h3 : ks.length ≤ 1099511627776) (h4 : ∀ k ∈ ks, MoFit k) : MoFit (.mk o t ks)
theorem MoFit.o {m : Mo} (h : MoFit m) : -9223372036854775808 ≤ m.op ∧ m.op ≤ 9223372036854775807 := by cases h; assumption
theorem MoFit.t {m : Mo} (h : MoFit m) : TmFit m.term := by cases h; assumption
theorem MoFit.l {m : Mo} (h : MoFit m) : m.kids.length ≤ 1099511627776 := by cases h; assumption
theorem MoFit.k {m : Mo} (h : MoFit m) : ∀ k ∈ m.kids, MoFit k := by cases h; assumption
theorem mkid_lt {m k : Mo} (h : k ∈ m.kids) : SizeOf.sizeOf k < SizeOf.sizeOf m := by
 cases m with | mk o t ks =>
 have := List.sizeOf_lt_of_mem (show k ∈ ks from h)
 simp only [Mo.mk.sizeOf_spec]
 omega
mutual
def cntM : Mo → Nat
 | .mk _ _ ks => 1 + cntML ks
def cntML : List Mo → Nat
 | [] => 0
 | k :: ks => cntM k + cntML ks
end
mutual
def deepM : Mo → Nat
 | .mk _ _ ks => 1 + deepL ks
def deepL : List Mo → Nat
 | [] => 0
 | k :: ks => max (deepM k) (deepL ks)
end
def zeroT : Tm := .mk 0 0 ⟨#[]⟩ ⟨#[]⟩ [] []
theorem zeroT_fit : TmFit zeroT := .mk _ _ _ _ _ _ (by omega) (by omega) (by decide) (by decide) (by decide) (by decide) (by simp) (by simp)
def nodeM (o : Int) (t : Tm) (n : Nat) : Bool :=
 if o = 1 then validT t && decide (n = 0) else eqT t zeroT && (if o = 2 then decide (n = 0) else if o = 3 ∨ o = 4 then decide (n = 1) else decide (o = 5))
mutual
def okM : Mo → Bool
 | .mk o t ks => nodeM o t ks.length && okL ks
def okL : List Mo → Bool
 | [] => true
 | k :: ks => okM k && okL ks
end
mutual
def nodR : Mo → Nat → Nat
 | .mk _ _ ks, d => if 200 < d then 2001 else nodL ks d 1
def nodL : List Mo → Nat → Nat → Nat
 | [], _, n => n
 | k :: ks, d, n => nodL ks d (if n ≤ 2000 then n + nodR k (d + 1) else n)
end
theorem cntM_eq (m : Mo) : cntM m = 1 + cntML m.kids := by cases m; rw [cntM]; rfl
theorem deepM_eq (m : Mo) : deepM m = 1 + deepL m.kids := by cases m; rw [deepM]; rfl
theorem okM_eq (m : Mo) : okM m = (nodeM m.op m.term m.kids.length && okL m.kids) := by cases m; rw [okM]; rfl
theorem okL_all : ∀ l : List Mo, okL l = l.all okM
 | [] => by rw [okL]; rfl
 | k :: ks => by rw [okL, okL_all ks, List.all_cons]
mutual
theorem nodR_le : ∀ (m : Mo) (d : Nat), nodR m d ≤ 2001 + 2000 * (201 - d)
 | .mk o t ks, d => by
  rw [nodR]
  split
  ·omega
  ·have := nodL_le ks d 1 (by omega); omega
theorem nodL_le : ∀ (l : List Mo) (d n : Nat), d ≤ 200 → nodL l d n ≤ max n (2001 + 2000 * (201 - d))
 | [], d, n, h => by rw [nodL]; omega
 | k :: ks, d, n, h => by
  rw [nodL]
  have h1 := nodR_le k (d + 1)
  have h2 := nodL_le ks d (if n ≤ 2000 then n + nodR k (d + 1) else n) h
  split at h2 <;> rename_i h3
  ·rw [if_pos h3]; omega
  ·rw [if_neg h3]; omega
end
theorem nodL_ge : ∀ (l : List Mo) (d n : Nat), n ≤ nodL l d n
 | [], d, n => by rw [nodL]; omega
 | k :: ks, d, n => by
  rw [nodL]
  have := nodL_ge ks d (if n ≤ 2000 then n + nodR k (d + 1) else n)
  split at this <;> rename_i h3
  ·rw [if_pos h3]; omega
  ·rw [if_neg h3]; omega
mutual
theorem nodR_iff : ∀ (m : Mo) (d : Nat), (nodR m d ≤ 2000 ↔ cntM m ≤ 2000 ∧ deepM m + d ≤ 201) ∧ (nodR m d ≤ 2000 → nodR m d = cntM m)
 | .mk o t ks, d => by
  rw [nodR, cntM, deepM]
  split
  ·exact ⟨⟨fun h => by omega, fun h => by omega⟩, fun h => by omega⟩
  ·rename_i hd
   have := nodL_iff ks d 1 (by omega)
   refine ⟨⟨fun h => ?_, fun h => ?_⟩, fun h => (this.2 h)⟩
   ·have := this.1.1 h; omega
   ·exact this.1.2 ⟨by omega, by omega⟩
theorem nodL_iff : ∀ (l : List Mo) (d n : Nat), d ≤ 200 → (nodL l d n ≤ 2000 ↔ n + cntML l ≤ 2000 ∧ deepL l + d ≤ 200) ∧ (nodL l d n ≤ 2000 → nodL l d n = n + cntML l)
 | [], d, n, h => by
  rw [nodL, cntML, deepL]
  exact ⟨⟨fun h => ⟨by omega, by omega⟩, fun h => by omega⟩, fun h => by omega⟩
 | k :: ks, d, n, h => by
  rw [nodL, cntML, deepL]
  have h1 := nodR_iff k (d + 1)
  have h2 := nodL_iff ks d (if n ≤ 2000 then n + nodR k (d + 1) else n) h
  have h3 := nodL_ge ks d (if n ≤ 2000 then n + nodR k (d + 1) else n)
  by_cases hn : n ≤ 2000
  ·rw [if_pos hn] at h2 h3 ⊢
   by_cases hk : nodR k (d + 1) ≤ 2000
   ·have e := h1.2 hk
    have e2 := h1.1.1 hk
    rw [e] at h2 h3 ⊢
    refine ⟨⟨fun g => ?_, fun g => ?_⟩, fun g => ?_⟩
    ·have := h2.1.1 g; omega
    ·exact h2.1.2 ⟨by omega, by omega⟩
    ·have := h2.2 g; omega
   ·refine ⟨⟨fun g => by omega, fun g => absurd (h1.1.2 ⟨by omega, by omega⟩) hk⟩, fun g => by omega⟩
  ·rw [if_neg hn] at h2 h3 ⊢
   exact ⟨⟨fun g => by omega, fun g => by omega⟩, fun g => by omega⟩
end
def validM (m : Mo) : Bool := okM m && decide (cntM m ≤ 2000) && decide (deepM m ≤ 200)
end Go.Bis
end
section
set_option maxRecDepth 20000
namespace Go.Bis
open Go Go.Av Go.Lexs
theorem cntML_take (l : List Mo) (k : Nat) (h : k < l.length) : cntML (l.take (k + 1)) = cntML (l.take k) + cntM l[k] := by
 induction l generalizing k with
 | nil => simp at h
 | cons a l ih =>
  cases k with
  | zero => simp [cntML]
  | succ k => simp only [List.take_succ_cons, cntML, List.getElem_cons_succ]; rw [ih k (by simpa using h)]; omega
theorem deepL_take (l : List Mo) (k : Nat) (h : k < l.length) : deepL (l.take (k + 1)) = max (deepL (l.take k)) (deepM l[k]) := by
 induction l generalizing k with
 | nil => simp at h
 | cons a l ih =>
  cases k with
  | zero => simp [deepL]
  | succ k => simp only [List.take_succ_cons, deepL, List.getElem_cons_succ]; rw [ih k (by simpa using h)]; omega
theorem okL_take (l : List Mo) (k : Nat) (h : k < l.length) : okL (l.take (k + 1)) = (okL (l.take k) && okM l[k]) := by
 induction l generalizing k with
 | nil => simp at h
 | cons a l ih =>
  cases k with
  | zero => simp [okL]
  | succ k => simp only [List.take_succ_cons, okL, List.getElem_cons_succ]; rw [ih k (by simpa using h), Bool.and_assoc]
theorem cntML_le (l : List Mo) (k : Nat) : cntML (l.take k) ≤ cntML l := by
 induction l generalizing k with
 | nil => simp [cntML]
 | cons a l ih =>
  cases k with
  | zero => simp [cntML]
  | succ k => simp only [List.take_succ_cons, cntML]; have := ih k; omega
theorem cntML_at (l : List Mo) (k : Nat) (h : k < l.length) : cntML (l.take k) + cntM l[k] ≤ cntML l := by
 rw [← cntML_take l k h]; exact cntML_le l (k + 1)
mutual
theorem deepM_le : ∀ m : Mo, deepM m ≤ cntM m
 | .mk o t ks => by rw [deepM, cntM]; have := deepL_le ks; omega
theorem deepL_le : ∀ l : List Mo, deepL l ≤ cntML l
 | [] => by rw [deepL, cntML]; omega
 | k :: ks => by rw [deepL, cntML]; have := deepM_le k; have := deepL_le ks; omega
end
@[go_sem] theorem cntML_nil : cntML [] = 0 := by rw [cntML]
@[go_sem] theorem deepL_nil : deepL [] = 0 := by rw [deepL]
@[go_sem] theorem okL_nil : okL [] = true := by rw [okL]
end Go.Bis
namespace Go.Proofs.YtmohcdihdhggoaaGreatDoor
open Go Go.Av Go.Lexs Go.Bis
attribute [local irreducible] ACalls at8
theorem zeroC (i : Nat) (d d' : D) (h1 : [D.int .i64 0, .int .i64 0, .str ⟨#[]⟩, .str ⟨#[]⟩, .nilsl, .nilsl][i]? = some d) (h2 : (tmC zeroT)[i]? = some d') : d' = d ∨ (d = .nilsl ∧ ∃ sz, d' = .sl sz []) := by
 rw [zeroT, tmC_mk] at h2
 match i with
 | 0 => cases h1; cases h2; exact .inl rfl
 | 1 => cases h1; cases h2; exact .inl rfl
 | 2 => cases h1; cases h2; exact .inl rfl
 | 3 => cases h1; cases h2; exact .inl rfl
 | 4 => cases h1; cases h2; exact .inr ⟨rfl, _, rfl⟩
 | 5 => cases h1; cases h2; exact .inr ⟨rfl, _, rfl⟩
 | i + 6 => cases h1
theorem same0_a {Q} (a : Tm) (ha : TmFit a) (H : Heap) (h : Q (.bool (eqT a zeroT)) H) : ACalls Tryz.prog 77 [.agg (tmC a), .agg [.int .i64 0, .int .i64 0, .str ⟨#[]⟩, .str ⟨#[]⟩, .nilsl, .nilsl]] H Q :=
 ACalls.agg2 (by rw [tmC_len]; rfl) zeroC (same_a a zeroT ha zeroT_fit H h)
set_option maxHeartbeats 4000000 in
theorem measure_n (n : Nat) : ∀ {Q} (m : Mo) (hn : SizeOf.sizeOf m ≤ n) (hm : MoFit m) (hc : cntM m ≤ 1000000000) (H : Heap) (h : Q (.tuple [.int .i64 (cntM m), .int .i64 (deepM m), .bool (okM m)]) H), ACalls Tryz.prog 75 [.agg (moC m)] H Q := by
 induction n with
 | zero => intro Q m hn; cases m; simp at hn
 | succ n ih =>
 intro Q m hn hm hc H h
 refine acalls_of_wp [] Tryz.mixed Tryz.func75 rfl (by kernel_rfl) (of_decide_eq_true (by kernel_rfl)) (by kernel_rfl) ?_
 simp only [go_sem,seval, Tryz.results75]
 have hl := hm.l
 have ho := hm.o
 have hcl : cntM m = 1 + cntML m.kids := cntM_eq m
 have hdl : deepM m = 1 + deepL m.kids := deepM_eq m
 rw [okM_eq] at h
 intro b1 hb1
 have e1 : (H.set b1 (.box (moC m))) b1 = some (.box (moC m)) := heap_same _ _
 have hle : H.Le (H.set b1 (.box (moC m))) := heap_le_set hb1
 generalize H.set b1 (.box (moC m)) = Bs at e1 hle ⊢
 by_cases h1 : m.op = 1
 ·cases hv : validT m.term with
  | false =>
   have hN : nodeM m.op m.term m.kids.length = false := by simp [nodeM, h1, hv]
   rw [hN] at h
   repeat' (first | with_reducible refine And.intro ?_ ?_ | simp only [go_sem,seval, e1, h1, hv] | simp (disch := omega) only [wrap64, cell_at, Rw_at, cntML_at] | simp (disch := first | omega | grind) only [heap_ne_, del_ne] | (intro hx_; try simp only [set_none] at hx_) | with_reducible refine same0_a m.term hm.t _ ?_ | with_reducible refine valid_a m.term hm.t _ ?_ | omega)
   refine loop_c [51, 52] (fun (k : Nat) => [(53, .int .i64 k), (2, .int .i64 (1 + cntML (m.kids.take k))), (3, .int .i64 (deepL (m.kids.take k))), (4, .bool false)]) (fun (k : Nat) => Bs) (fun (k : Nat) => k ≤ m.kids.length) (fun (k : Nat) => m.kids.length - k) (0) (Nat.zero_le _) (by (try simp only [go_sem,seval]) <;> (try simp (disch := omega) [wrap64]) <;> (try omega)) (by first | with_reducible exact Heap.Le.refl _ | exact heap_set_le (by assumption) | exact Heap.Le.refl _ | exact heap_le_set (by assumption) | exact (by simp only [Go.Av.Heap.Le, Go.Av.Heap.set, Go.Av.Heap.del] at * <;> grind)) ?_
   rintro Ec rfl k hk0
   have hck := cntML_le m.kids k
   have hdk := deepL_le (m.kids.take k)
   by_cases hlt : k < m.kids.length
   ·have hlk : decide ((k : Int) < m.kids.length) = true := decide_eq_true (by omega)
    have hmem := List.getElem_mem hlt
    have hca := cntML_at m.kids k hlt
    have hda := deepM_le m.kids[k]
    have t1 := cntML_take m.kids k hlt
    have t2 := deepL_take m.kids k hlt
    have t3 := okL_take m.kids k hlt
    have t1' : (1 : Int) + (cntML (m.kids.take (k + 1)) : Nat) = 1 + (cntML (m.kids.take k) : Nat) + (cntM m.kids[k] : Nat) := by omega
    have t2' : ((deepL (m.kids.take (k + 1)) : Nat) : Int) = if ((deepL (m.kids.take k) : Nat) : Int) < (deepM m.kids[k] : Nat) then ((deepM m.kids[k] : Nat) : Int) else ((deepL (m.kids.take k) : Nat) : Int) := by
     rw [t2]; split <;> omega
    cases hok : okL (m.kids.take k) with
    | false =>
     rw [hok, Bool.false_and] at t3
     repeat' (first | with_reducible refine And.intro ?_ ?_ | simp only [go_sem,seval, hlk, hok, Rw_at _ _ hlt] | simp (disch := omega) only [wrap64, cell_at, Rw_at, cntML_at] | simp (disch := first | omega | grind) only [heap_ne_, del_ne] | (intro hx_; try simp only [set_none] at hx_) | with_reducible refine ih m.kids[k] (by have := mkid_lt hmem; omega) (hm.k _ hmem) (by omega) _ ?_ | omega)
     all_goals exact nx_mk (k + 1) (by omega) (by omega) (by (try simp only [go_sem,seval, t1', t2', t3]) <;> (try simp (disch := omega) [wrap64]) <;> (try omega)) (heap_le_set (by assumption))
    | true =>
     rw [hok, Bool.true_and] at t3
     repeat' (first | with_reducible refine And.intro ?_ ?_ | simp only [go_sem,seval, hlk, hok, Rw_at _ _ hlt] | simp (disch := omega) only [wrap64, cell_at, Rw_at, cntML_at] | simp (disch := first | omega | grind) only [heap_ne_, del_ne] | (intro hx_; try simp only [set_none] at hx_) | with_reducible refine ih m.kids[k] (by have := mkid_lt hmem; omega) (hm.k _ hmem) (by omega) _ ?_ | omega)
     all_goals exact nx_mk (k + 1) (by omega) (by omega) (by (try simp only [go_sem,seval, t1', t2', t3]) <;> (try simp (disch := omega) [wrap64]) <;> (try omega)) (heap_le_set (by assumption))
   ·have hlk : decide ((k : Int) < m.kids.length) = false := decide_eq_false (by omega)
    rw [List.take_of_length_le (by omega)] at hdk ⊢
    repeat' (first | with_reducible refine And.intro ?_ ?_ | simp only [go_sem,seval, hlk] | simp (disch := omega) only [wrap64, cell_at, Rw_at, cntML_at] | simp (disch := first | omega | grind) only [heap_ne_, del_ne] | (intro hx_; try simp only [set_none] at hx_) | omega)
    refine Fin.less hle ?_
    rw [hcl, hdl] at h
    have e9 : ((1 + cntML m.kids : Nat) : Int) = 1 + (cntML m.kids : Nat) := by omega
    have e8 : ((1 + deepL m.kids : Nat) : Int) = (deepL m.kids : Nat) + 1 := by omega
    rw [e9, e8] at h
    simpa using h
  | true =>
   by_cases hk : m.kids.length = 0
   ·have hkd : decide ((m.kids.length : Int) = 0) = true := decide_eq_true (by omega)
    have hN : nodeM m.op m.term m.kids.length = true := by simp [nodeM, h1, hv, hk]
    rw [hN] at h
    repeat' (first | with_reducible refine And.intro ?_ ?_ | simp only [go_sem,seval, e1, h1, hv, hkd] | simp (disch := omega) only [wrap64, cell_at, Rw_at, cntML_at] | simp (disch := first | omega | grind) only [heap_ne_, del_ne] | (intro hx_; try simp only [set_none] at hx_) | with_reducible refine same0_a m.term hm.t _ ?_ | with_reducible refine valid_a m.term hm.t _ ?_ | omega)
    refine loop_c [51, 52] (fun (k : Nat) => [(53, .int .i64 k), (2, .int .i64 (1 + cntML (m.kids.take k))), (3, .int .i64 (deepL (m.kids.take k))), (4, .bool (okL (m.kids.take k)))]) (fun (k : Nat) => Bs) (fun (k : Nat) => k ≤ m.kids.length) (fun (k : Nat) => m.kids.length - k) (0) (Nat.zero_le _) (by (try simp only [go_sem,seval]) <;> (try simp (disch := omega) [wrap64]) <;> (try omega)) (by first | with_reducible exact Heap.Le.refl _ | exact heap_set_le (by assumption) | exact Heap.Le.refl _ | exact heap_le_set (by assumption) | exact (by simp only [Go.Av.Heap.Le, Go.Av.Heap.set, Go.Av.Heap.del] at * <;> grind)) ?_
    rintro Ec rfl k hk0
    have hck := cntML_le m.kids k
    have hdk := deepL_le (m.kids.take k)
    by_cases hlt : k < m.kids.length
    ·have hlk : decide ((k : Int) < m.kids.length) = true := decide_eq_true (by omega)
     have hmem := List.getElem_mem hlt
     have hca := cntML_at m.kids k hlt
     have hda := deepM_le m.kids[k]
     have t1 := cntML_take m.kids k hlt
     have t2 := deepL_take m.kids k hlt
     have t3 := okL_take m.kids k hlt
     have t1' : (1 : Int) + (cntML (m.kids.take (k + 1)) : Nat) = 1 + (cntML (m.kids.take k) : Nat) + (cntM m.kids[k] : Nat) := by omega
     have t2' : ((deepL (m.kids.take (k + 1)) : Nat) : Int) = if ((deepL (m.kids.take k) : Nat) : Int) < (deepM m.kids[k] : Nat) then ((deepM m.kids[k] : Nat) : Int) else ((deepL (m.kids.take k) : Nat) : Int) := by
      rw [t2]; split <;> omega
     cases hok : okL (m.kids.take k) with
     | false =>
      rw [hok, Bool.false_and] at t3
      repeat' (first | with_reducible refine And.intro ?_ ?_ | simp only [go_sem,seval, hlk, hok, Rw_at _ _ hlt] | simp (disch := omega) only [wrap64, cell_at, Rw_at, cntML_at] | simp (disch := first | omega | grind) only [heap_ne_, del_ne] | (intro hx_; try simp only [set_none] at hx_) | with_reducible refine ih m.kids[k] (by have := mkid_lt hmem; omega) (hm.k _ hmem) (by omega) _ ?_ | omega)
      all_goals exact nx_mk (k + 1) (by omega) (by omega) (by (try simp only [go_sem,seval, t1', t2', t3]) <;> (try simp (disch := omega) [wrap64]) <;> (try omega)) (heap_le_set (by assumption))
     | true =>
      rw [hok, Bool.true_and] at t3
      repeat' (first | with_reducible refine And.intro ?_ ?_ | simp only [go_sem,seval, hlk, hok, Rw_at _ _ hlt] | simp (disch := omega) only [wrap64, cell_at, Rw_at, cntML_at] | simp (disch := first | omega | grind) only [heap_ne_, del_ne] | (intro hx_; try simp only [set_none] at hx_) | with_reducible refine ih m.kids[k] (by have := mkid_lt hmem; omega) (hm.k _ hmem) (by omega) _ ?_ | omega)
      all_goals exact nx_mk (k + 1) (by omega) (by omega) (by (try simp only [go_sem,seval, t1', t2', t3]) <;> (try simp (disch := omega) [wrap64]) <;> (try omega)) (heap_le_set (by assumption))
    ·have hlk : decide ((k : Int) < m.kids.length) = false := decide_eq_false (by omega)
     rw [List.take_of_length_le (by omega)] at hdk ⊢
     repeat' (first | with_reducible refine And.intro ?_ ?_ | simp only [go_sem,seval, hlk] | simp (disch := omega) only [wrap64, cell_at, Rw_at, cntML_at] | simp (disch := first | omega | grind) only [heap_ne_, del_ne] | (intro hx_; try simp only [set_none] at hx_) | omega)
     refine Fin.less hle ?_
     rw [hcl, hdl] at h
     have e9 : ((1 + cntML m.kids : Nat) : Int) = 1 + (cntML m.kids : Nat) := by omega
     have e8 : ((1 + deepL m.kids : Nat) : Int) = (deepL m.kids : Nat) + 1 := by omega
     rw [e9, e8] at h
     simpa using h
   ·have hkd : decide ((m.kids.length : Int) = 0) = false := decide_eq_false (by omega)
    have hN : nodeM m.op m.term m.kids.length = false := by simp [nodeM, h1, hv, hk]
    rw [hN] at h
    repeat' (first | with_reducible refine And.intro ?_ ?_ | simp only [go_sem,seval, e1, h1, hv, hkd] | simp (disch := omega) only [wrap64, cell_at, Rw_at, cntML_at] | simp (disch := first | omega | grind) only [heap_ne_, del_ne] | (intro hx_; try simp only [set_none] at hx_) | with_reducible refine same0_a m.term hm.t _ ?_ | with_reducible refine valid_a m.term hm.t _ ?_ | omega)
    refine loop_c [51, 52] (fun (k : Nat) => [(53, .int .i64 k), (2, .int .i64 (1 + cntML (m.kids.take k))), (3, .int .i64 (deepL (m.kids.take k))), (4, .bool false)]) (fun (k : Nat) => Bs) (fun (k : Nat) => k ≤ m.kids.length) (fun (k : Nat) => m.kids.length - k) (0) (Nat.zero_le _) (by (try simp only [go_sem,seval]) <;> (try simp (disch := omega) [wrap64]) <;> (try omega)) (by first | with_reducible exact Heap.Le.refl _ | exact heap_set_le (by assumption) | exact Heap.Le.refl _ | exact heap_le_set (by assumption) | exact (by simp only [Go.Av.Heap.Le, Go.Av.Heap.set, Go.Av.Heap.del] at * <;> grind)) ?_
    rintro Ec rfl k hk0
    have hck := cntML_le m.kids k
    have hdk := deepL_le (m.kids.take k)
    by_cases hlt : k < m.kids.length
    ·have hlk : decide ((k : Int) < m.kids.length) = true := decide_eq_true (by omega)
     have hmem := List.getElem_mem hlt
     have hca := cntML_at m.kids k hlt
     have hda := deepM_le m.kids[k]
     have t1 := cntML_take m.kids k hlt
     have t2 := deepL_take m.kids k hlt
     have t3 := okL_take m.kids k hlt
     have t1' : (1 : Int) + (cntML (m.kids.take (k + 1)) : Nat) = 1 + (cntML (m.kids.take k) : Nat) + (cntM m.kids[k] : Nat) := by omega
     have t2' : ((deepL (m.kids.take (k + 1)) : Nat) : Int) = if ((deepL (m.kids.take k) : Nat) : Int) < (deepM m.kids[k] : Nat) then ((deepM m.kids[k] : Nat) : Int) else ((deepL (m.kids.take k) : Nat) : Int) := by
      rw [t2]; split <;> omega
     cases hok : okL (m.kids.take k) with
     | false =>
      rw [hok, Bool.false_and] at t3
      repeat' (first | with_reducible refine And.intro ?_ ?_ | simp only [go_sem,seval, hlk, hok, Rw_at _ _ hlt] | simp (disch := omega) only [wrap64, cell_at, Rw_at, cntML_at] | simp (disch := first | omega | grind) only [heap_ne_, del_ne] | (intro hx_; try simp only [set_none] at hx_) | with_reducible refine ih m.kids[k] (by have := mkid_lt hmem; omega) (hm.k _ hmem) (by omega) _ ?_ | omega)
      all_goals exact nx_mk (k + 1) (by omega) (by omega) (by (try simp only [go_sem,seval, t1', t2', t3]) <;> (try simp (disch := omega) [wrap64]) <;> (try omega)) (heap_le_set (by assumption))
     | true =>
      rw [hok, Bool.true_and] at t3
      repeat' (first | with_reducible refine And.intro ?_ ?_ | simp only [go_sem,seval, hlk, hok, Rw_at _ _ hlt] | simp (disch := omega) only [wrap64, cell_at, Rw_at, cntML_at] | simp (disch := first | omega | grind) only [heap_ne_, del_ne] | (intro hx_; try simp only [set_none] at hx_) | with_reducible refine ih m.kids[k] (by have := mkid_lt hmem; omega) (hm.k _ hmem) (by omega) _ ?_ | omega)
      all_goals exact nx_mk (k + 1) (by omega) (by omega) (by (try simp only [go_sem,seval, t1', t2', t3]) <;> (try simp (disch := omega) [wrap64]) <;> (try omega)) (heap_le_set (by assumption))
    ·have hlk : decide ((k : Int) < m.kids.length) = false := decide_eq_false (by omega)
     rw [List.take_of_length_le (by omega)] at hdk ⊢
     repeat' (first | with_reducible refine And.intro ?_ ?_ | simp only [go_sem,seval, hlk] | simp (disch := omega) only [wrap64, cell_at, Rw_at, cntML_at] | simp (disch := first | omega | grind) only [heap_ne_, del_ne] | (intro hx_; try simp only [set_none] at hx_) | omega)
     refine Fin.less hle ?_
     rw [hcl, hdl] at h
     have e9 : ((1 + cntML m.kids : Nat) : Int) = 1 + (cntML m.kids : Nat) := by omega
     have e8 : ((1 + deepL m.kids : Nat) : Int) = (deepL m.kids : Nat) + 1 := by omega
     rw [e9, e8] at h
     simpa using h
 by_cases h2 : m.op = 2
 ·cases hv : eqT m.term zeroT with
  | false =>
   have hN : nodeM m.op m.term m.kids.length = false := by simp [nodeM, h2, hv]
   rw [hN] at h
   repeat' (first | with_reducible refine And.intro ?_ ?_ | simp only [go_sem,seval, e1, h2, hv] | simp (disch := omega) only [wrap64, cell_at, Rw_at, cntML_at] | simp (disch := first | omega | grind) only [heap_ne_, del_ne] | (intro hx_; try simp only [set_none] at hx_) | with_reducible refine same0_a m.term hm.t _ ?_ | with_reducible refine valid_a m.term hm.t _ ?_ | omega)
   refine loop_c [51, 52] (fun (k : Nat) => [(53, .int .i64 k), (2, .int .i64 (1 + cntML (m.kids.take k))), (3, .int .i64 (deepL (m.kids.take k))), (4, .bool false)]) (fun (k : Nat) => Bs) (fun (k : Nat) => k ≤ m.kids.length) (fun (k : Nat) => m.kids.length - k) (0) (Nat.zero_le _) (by (try simp only [go_sem,seval]) <;> (try simp (disch := omega) [wrap64]) <;> (try omega)) (by first | with_reducible exact Heap.Le.refl _ | exact heap_set_le (by assumption) | exact Heap.Le.refl _ | exact heap_le_set (by assumption) | exact (by simp only [Go.Av.Heap.Le, Go.Av.Heap.set, Go.Av.Heap.del] at * <;> grind)) ?_
   rintro Ec rfl k hk0
   have hck := cntML_le m.kids k
   have hdk := deepL_le (m.kids.take k)
   by_cases hlt : k < m.kids.length
   ·have hlk : decide ((k : Int) < m.kids.length) = true := decide_eq_true (by omega)
    have hmem := List.getElem_mem hlt
    have hca := cntML_at m.kids k hlt
    have hda := deepM_le m.kids[k]
    have t1 := cntML_take m.kids k hlt
    have t2 := deepL_take m.kids k hlt
    have t3 := okL_take m.kids k hlt
    have t1' : (1 : Int) + (cntML (m.kids.take (k + 1)) : Nat) = 1 + (cntML (m.kids.take k) : Nat) + (cntM m.kids[k] : Nat) := by omega
    have t2' : ((deepL (m.kids.take (k + 1)) : Nat) : Int) = if ((deepL (m.kids.take k) : Nat) : Int) < (deepM m.kids[k] : Nat) then ((deepM m.kids[k] : Nat) : Int) else ((deepL (m.kids.take k) : Nat) : Int) := by
     rw [t2]; split <;> omega
    cases hok : okL (m.kids.take k) with
    | false =>
     rw [hok, Bool.false_and] at t3
     repeat' (first | with_reducible refine And.intro ?_ ?_ | simp only [go_sem,seval, hlk, hok, Rw_at _ _ hlt] | simp (disch := omega) only [wrap64, cell_at, Rw_at, cntML_at] | simp (disch := first | omega | grind) only [heap_ne_, del_ne] | (intro hx_; try simp only [set_none] at hx_) | with_reducible refine ih m.kids[k] (by have := mkid_lt hmem; omega) (hm.k _ hmem) (by omega) _ ?_ | omega)
     all_goals exact nx_mk (k + 1) (by omega) (by omega) (by (try simp only [go_sem,seval, t1', t2', t3]) <;> (try simp (disch := omega) [wrap64]) <;> (try omega)) (heap_le_set (by assumption))
    | true =>
     rw [hok, Bool.true_and] at t3
     repeat' (first | with_reducible refine And.intro ?_ ?_ | simp only [go_sem,seval, hlk, hok, Rw_at _ _ hlt] | simp (disch := omega) only [wrap64, cell_at, Rw_at, cntML_at] | simp (disch := first | omega | grind) only [heap_ne_, del_ne] | (intro hx_; try simp only [set_none] at hx_) | with_reducible refine ih m.kids[k] (by have := mkid_lt hmem; omega) (hm.k _ hmem) (by omega) _ ?_ | omega)
     all_goals exact nx_mk (k + 1) (by omega) (by omega) (by (try simp only [go_sem,seval, t1', t2', t3]) <;> (try simp (disch := omega) [wrap64]) <;> (try omega)) (heap_le_set (by assumption))
   ·have hlk : decide ((k : Int) < m.kids.length) = false := decide_eq_false (by omega)
    rw [List.take_of_length_le (by omega)] at hdk ⊢
    repeat' (first | with_reducible refine And.intro ?_ ?_ | simp only [go_sem,seval, hlk] | simp (disch := omega) only [wrap64, cell_at, Rw_at, cntML_at] | simp (disch := first | omega | grind) only [heap_ne_, del_ne] | (intro hx_; try simp only [set_none] at hx_) | omega)
    refine Fin.less hle ?_
    rw [hcl, hdl] at h
    have e9 : ((1 + cntML m.kids : Nat) : Int) = 1 + (cntML m.kids : Nat) := by omega
    have e8 : ((1 + deepL m.kids : Nat) : Int) = (deepL m.kids : Nat) + 1 := by omega
    rw [e9, e8] at h
    simpa using h
  | true =>
   by_cases hk : m.kids.length = 0
   ·have hkd : decide ((m.kids.length : Int) = 0) = true := decide_eq_true (by omega)
    have hN : nodeM m.op m.term m.kids.length = true := by simp [nodeM, h2, hv, hk]
    rw [hN] at h
    repeat' (first | with_reducible refine And.intro ?_ ?_ | simp only [go_sem,seval, e1, h2, hv, hkd] | simp (disch := omega) only [wrap64, cell_at, Rw_at, cntML_at] | simp (disch := first | omega | grind) only [heap_ne_, del_ne] | (intro hx_; try simp only [set_none] at hx_) | with_reducible refine same0_a m.term hm.t _ ?_ | with_reducible refine valid_a m.term hm.t _ ?_ | omega)
    refine loop_c [51, 52] (fun (k : Nat) => [(53, .int .i64 k), (2, .int .i64 (1 + cntML (m.kids.take k))), (3, .int .i64 (deepL (m.kids.take k))), (4, .bool (okL (m.kids.take k)))]) (fun (k : Nat) => Bs) (fun (k : Nat) => k ≤ m.kids.length) (fun (k : Nat) => m.kids.length - k) (0) (Nat.zero_le _) (by (try simp only [go_sem,seval]) <;> (try simp (disch := omega) [wrap64]) <;> (try omega)) (by first | with_reducible exact Heap.Le.refl _ | exact heap_set_le (by assumption) | exact Heap.Le.refl _ | exact heap_le_set (by assumption) | exact (by simp only [Go.Av.Heap.Le, Go.Av.Heap.set, Go.Av.Heap.del] at * <;> grind)) ?_
    rintro Ec rfl k hk0
    have hck := cntML_le m.kids k
    have hdk := deepL_le (m.kids.take k)
    by_cases hlt : k < m.kids.length
    ·have hlk : decide ((k : Int) < m.kids.length) = true := decide_eq_true (by omega)
     have hmem := List.getElem_mem hlt
     have hca := cntML_at m.kids k hlt
     have hda := deepM_le m.kids[k]
     have t1 := cntML_take m.kids k hlt
     have t2 := deepL_take m.kids k hlt
     have t3 := okL_take m.kids k hlt
     have t1' : (1 : Int) + (cntML (m.kids.take (k + 1)) : Nat) = 1 + (cntML (m.kids.take k) : Nat) + (cntM m.kids[k] : Nat) := by omega
     have t2' : ((deepL (m.kids.take (k + 1)) : Nat) : Int) = if ((deepL (m.kids.take k) : Nat) : Int) < (deepM m.kids[k] : Nat) then ((deepM m.kids[k] : Nat) : Int) else ((deepL (m.kids.take k) : Nat) : Int) := by
      rw [t2]; split <;> omega
     cases hok : okL (m.kids.take k) with
     | false =>
      rw [hok, Bool.false_and] at t3
      repeat' (first | with_reducible refine And.intro ?_ ?_ | simp only [go_sem,seval, hlk, hok, Rw_at _ _ hlt] | simp (disch := omega) only [wrap64, cell_at, Rw_at, cntML_at] | simp (disch := first | omega | grind) only [heap_ne_, del_ne] | (intro hx_; try simp only [set_none] at hx_) | with_reducible refine ih m.kids[k] (by have := mkid_lt hmem; omega) (hm.k _ hmem) (by omega) _ ?_ | omega)
      all_goals exact nx_mk (k + 1) (by omega) (by omega) (by (try simp only [go_sem,seval, t1', t2', t3]) <;> (try simp (disch := omega) [wrap64]) <;> (try omega)) (heap_le_set (by assumption))
     | true =>
      rw [hok, Bool.true_and] at t3
      repeat' (first | with_reducible refine And.intro ?_ ?_ | simp only [go_sem,seval, hlk, hok, Rw_at _ _ hlt] | simp (disch := omega) only [wrap64, cell_at, Rw_at, cntML_at] | simp (disch := first | omega | grind) only [heap_ne_, del_ne] | (intro hx_; try simp only [set_none] at hx_) | with_reducible refine ih m.kids[k] (by have := mkid_lt hmem; omega) (hm.k _ hmem) (by omega) _ ?_ | omega)
      all_goals exact nx_mk (k + 1) (by omega) (by omega) (by (try simp only [go_sem,seval, t1', t2', t3]) <;> (try simp (disch := omega) [wrap64]) <;> (try omega)) (heap_le_set (by assumption))
    ·have hlk : decide ((k : Int) < m.kids.length) = false := decide_eq_false (by omega)
     rw [List.take_of_length_le (by omega)] at hdk ⊢
     repeat' (first | with_reducible refine And.intro ?_ ?_ | simp only [go_sem,seval, hlk] | simp (disch := omega) only [wrap64, cell_at, Rw_at, cntML_at] | simp (disch := first | omega | grind) only [heap_ne_, del_ne] | (intro hx_; try simp only [set_none] at hx_) | omega)
     refine Fin.less hle ?_
     rw [hcl, hdl] at h
     have e9 : ((1 + cntML m.kids : Nat) : Int) = 1 + (cntML m.kids : Nat) := by omega
     have e8 : ((1 + deepL m.kids : Nat) : Int) = (deepL m.kids : Nat) + 1 := by omega
     rw [e9, e8] at h
     simpa using h
   ·have hkd : decide ((m.kids.length : Int) = 0) = false := decide_eq_false (by omega)
    have hN : nodeM m.op m.term m.kids.length = false := by simp [nodeM, h2, hv, hk]
    rw [hN] at h
    repeat' (first | with_reducible refine And.intro ?_ ?_ | simp only [go_sem,seval, e1, h2, hv, hkd] | simp (disch := omega) only [wrap64, cell_at, Rw_at, cntML_at] | simp (disch := first | omega | grind) only [heap_ne_, del_ne] | (intro hx_; try simp only [set_none] at hx_) | with_reducible refine same0_a m.term hm.t _ ?_ | with_reducible refine valid_a m.term hm.t _ ?_ | omega)
    refine loop_c [51, 52] (fun (k : Nat) => [(53, .int .i64 k), (2, .int .i64 (1 + cntML (m.kids.take k))), (3, .int .i64 (deepL (m.kids.take k))), (4, .bool false)]) (fun (k : Nat) => Bs) (fun (k : Nat) => k ≤ m.kids.length) (fun (k : Nat) => m.kids.length - k) (0) (Nat.zero_le _) (by (try simp only [go_sem,seval]) <;> (try simp (disch := omega) [wrap64]) <;> (try omega)) (by first | with_reducible exact Heap.Le.refl _ | exact heap_set_le (by assumption) | exact Heap.Le.refl _ | exact heap_le_set (by assumption) | exact (by simp only [Go.Av.Heap.Le, Go.Av.Heap.set, Go.Av.Heap.del] at * <;> grind)) ?_
    rintro Ec rfl k hk0
    have hck := cntML_le m.kids k
    have hdk := deepL_le (m.kids.take k)
    by_cases hlt : k < m.kids.length
    ·have hlk : decide ((k : Int) < m.kids.length) = true := decide_eq_true (by omega)
     have hmem := List.getElem_mem hlt
     have hca := cntML_at m.kids k hlt
     have hda := deepM_le m.kids[k]
     have t1 := cntML_take m.kids k hlt
     have t2 := deepL_take m.kids k hlt
     have t3 := okL_take m.kids k hlt
     have t1' : (1 : Int) + (cntML (m.kids.take (k + 1)) : Nat) = 1 + (cntML (m.kids.take k) : Nat) + (cntM m.kids[k] : Nat) := by omega
     have t2' : ((deepL (m.kids.take (k + 1)) : Nat) : Int) = if ((deepL (m.kids.take k) : Nat) : Int) < (deepM m.kids[k] : Nat) then ((deepM m.kids[k] : Nat) : Int) else ((deepL (m.kids.take k) : Nat) : Int) := by
      rw [t2]; split <;> omega
     cases hok : okL (m.kids.take k) with
     | false =>
      rw [hok, Bool.false_and] at t3
      repeat' (first | with_reducible refine And.intro ?_ ?_ | simp only [go_sem,seval, hlk, hok, Rw_at _ _ hlt] | simp (disch := omega) only [wrap64, cell_at, Rw_at, cntML_at] | simp (disch := first | omega | grind) only [heap_ne_, del_ne] | (intro hx_; try simp only [set_none] at hx_) | with_reducible refine ih m.kids[k] (by have := mkid_lt hmem; omega) (hm.k _ hmem) (by omega) _ ?_ | omega)
      all_goals exact nx_mk (k + 1) (by omega) (by omega) (by (try simp only [go_sem,seval, t1', t2', t3]) <;> (try simp (disch := omega) [wrap64]) <;> (try omega)) (heap_le_set (by assumption))
     | true =>
      rw [hok, Bool.true_and] at t3
      repeat' (first | with_reducible refine And.intro ?_ ?_ | simp only [go_sem,seval, hlk, hok, Rw_at _ _ hlt] | simp (disch := omega) only [wrap64, cell_at, Rw_at, cntML_at] | simp (disch := first | omega | grind) only [heap_ne_, del_ne] | (intro hx_; try simp only [set_none] at hx_) | with_reducible refine ih m.kids[k] (by have := mkid_lt hmem; omega) (hm.k _ hmem) (by omega) _ ?_ | omega)
      all_goals exact nx_mk (k + 1) (by omega) (by omega) (by (try simp only [go_sem,seval, t1', t2', t3]) <;> (try simp (disch := omega) [wrap64]) <;> (try omega)) (heap_le_set (by assumption))
    ·have hlk : decide ((k : Int) < m.kids.length) = false := decide_eq_false (by omega)
     rw [List.take_of_length_le (by omega)] at hdk ⊢
     repeat' (first | with_reducible refine And.intro ?_ ?_ | simp only [go_sem,seval, hlk] | simp (disch := omega) only [wrap64, cell_at, Rw_at, cntML_at] | simp (disch := first | omega | grind) only [heap_ne_, del_ne] | (intro hx_; try simp only [set_none] at hx_) | omega)
     refine Fin.less hle ?_
     rw [hcl, hdl] at h
     have e9 : ((1 + cntML m.kids : Nat) : Int) = 1 + (cntML m.kids : Nat) := by omega
     have e8 : ((1 + deepL m.kids : Nat) : Int) = (deepL m.kids : Nat) + 1 := by omega
     rw [e9, e8] at h
     simpa using h
 by_cases h3 : m.op = 3
 ·cases hv : eqT m.term zeroT with
  | false =>
   have hN : nodeM m.op m.term m.kids.length = false := by simp [nodeM, h3, hv]
   rw [hN] at h
   repeat' (first | with_reducible refine And.intro ?_ ?_ | simp only [go_sem,seval, e1, h3, hv] | simp (disch := omega) only [wrap64, cell_at, Rw_at, cntML_at] | simp (disch := first | omega | grind) only [heap_ne_, del_ne] | (intro hx_; try simp only [set_none] at hx_) | with_reducible refine same0_a m.term hm.t _ ?_ | with_reducible refine valid_a m.term hm.t _ ?_ | omega)
   refine loop_c [51, 52] (fun (k : Nat) => [(53, .int .i64 k), (2, .int .i64 (1 + cntML (m.kids.take k))), (3, .int .i64 (deepL (m.kids.take k))), (4, .bool false)]) (fun (k : Nat) => Bs) (fun (k : Nat) => k ≤ m.kids.length) (fun (k : Nat) => m.kids.length - k) (0) (Nat.zero_le _) (by (try simp only [go_sem,seval]) <;> (try simp (disch := omega) [wrap64]) <;> (try omega)) (by first | with_reducible exact Heap.Le.refl _ | exact heap_set_le (by assumption) | exact Heap.Le.refl _ | exact heap_le_set (by assumption) | exact (by simp only [Go.Av.Heap.Le, Go.Av.Heap.set, Go.Av.Heap.del] at * <;> grind)) ?_
   rintro Ec rfl k hk0
   have hck := cntML_le m.kids k
   have hdk := deepL_le (m.kids.take k)
   by_cases hlt : k < m.kids.length
   ·have hlk : decide ((k : Int) < m.kids.length) = true := decide_eq_true (by omega)
    have hmem := List.getElem_mem hlt
    have hca := cntML_at m.kids k hlt
    have hda := deepM_le m.kids[k]
    have t1 := cntML_take m.kids k hlt
    have t2 := deepL_take m.kids k hlt
    have t3 := okL_take m.kids k hlt
    have t1' : (1 : Int) + (cntML (m.kids.take (k + 1)) : Nat) = 1 + (cntML (m.kids.take k) : Nat) + (cntM m.kids[k] : Nat) := by omega
    have t2' : ((deepL (m.kids.take (k + 1)) : Nat) : Int) = if ((deepL (m.kids.take k) : Nat) : Int) < (deepM m.kids[k] : Nat) then ((deepM m.kids[k] : Nat) : Int) else ((deepL (m.kids.take k) : Nat) : Int) := by
     rw [t2]; split <;> omega
    cases hok : okL (m.kids.take k) with
    | false =>
     rw [hok, Bool.false_and] at t3
     repeat' (first | with_reducible refine And.intro ?_ ?_ | simp only [go_sem,seval, hlk, hok, Rw_at _ _ hlt] | simp (disch := omega) only [wrap64, cell_at, Rw_at, cntML_at] | simp (disch := first | omega | grind) only [heap_ne_, del_ne] | (intro hx_; try simp only [set_none] at hx_) | with_reducible refine ih m.kids[k] (by have := mkid_lt hmem; omega) (hm.k _ hmem) (by omega) _ ?_ | omega)
     all_goals exact nx_mk (k + 1) (by omega) (by omega) (by (try simp only [go_sem,seval, t1', t2', t3]) <;> (try simp (disch := omega) [wrap64]) <;> (try omega)) (heap_le_set (by assumption))
    | true =>
     rw [hok, Bool.true_and] at t3
     repeat' (first | with_reducible refine And.intro ?_ ?_ | simp only [go_sem,seval, hlk, hok, Rw_at _ _ hlt] | simp (disch := omega) only [wrap64, cell_at, Rw_at, cntML_at] | simp (disch := first | omega | grind) only [heap_ne_, del_ne] | (intro hx_; try simp only [set_none] at hx_) | with_reducible refine ih m.kids[k] (by have := mkid_lt hmem; omega) (hm.k _ hmem) (by omega) _ ?_ | omega)
     all_goals exact nx_mk (k + 1) (by omega) (by omega) (by (try simp only [go_sem,seval, t1', t2', t3]) <;> (try simp (disch := omega) [wrap64]) <;> (try omega)) (heap_le_set (by assumption))
   ·have hlk : decide ((k : Int) < m.kids.length) = false := decide_eq_false (by omega)
    rw [List.take_of_length_le (by omega)] at hdk ⊢
    repeat' (first | with_reducible refine And.intro ?_ ?_ | simp only [go_sem,seval, hlk] | simp (disch := omega) only [wrap64, cell_at, Rw_at, cntML_at] | simp (disch := first | omega | grind) only [heap_ne_, del_ne] | (intro hx_; try simp only [set_none] at hx_) | omega)
    refine Fin.less hle ?_
    rw [hcl, hdl] at h
    have e9 : ((1 + cntML m.kids : Nat) : Int) = 1 + (cntML m.kids : Nat) := by omega
    have e8 : ((1 + deepL m.kids : Nat) : Int) = (deepL m.kids : Nat) + 1 := by omega
    rw [e9, e8] at h
    simpa using h
  | true =>
   by_cases hk : m.kids.length = 1
   ·have hkd : decide ((m.kids.length : Int) = 1) = true := decide_eq_true (by omega)
    have hN : nodeM m.op m.term m.kids.length = true := by simp [nodeM, h3, hv, hk]
    rw [hN] at h
    repeat' (first | with_reducible refine And.intro ?_ ?_ | simp only [go_sem,seval, e1, h3, hv, hkd] | simp (disch := omega) only [wrap64, cell_at, Rw_at, cntML_at] | simp (disch := first | omega | grind) only [heap_ne_, del_ne] | (intro hx_; try simp only [set_none] at hx_) | with_reducible refine same0_a m.term hm.t _ ?_ | with_reducible refine valid_a m.term hm.t _ ?_ | omega)
    refine loop_c [51, 52] (fun (k : Nat) => [(53, .int .i64 k), (2, .int .i64 (1 + cntML (m.kids.take k))), (3, .int .i64 (deepL (m.kids.take k))), (4, .bool (okL (m.kids.take k)))]) (fun (k : Nat) => Bs) (fun (k : Nat) => k ≤ m.kids.length) (fun (k : Nat) => m.kids.length - k) (0) (Nat.zero_le _) (by (try simp only [go_sem,seval]) <;> (try simp (disch := omega) [wrap64]) <;> (try omega)) (by first | with_reducible exact Heap.Le.refl _ | exact heap_set_le (by assumption) | exact Heap.Le.refl _ | exact heap_le_set (by assumption) | exact (by simp only [Go.Av.Heap.Le, Go.Av.Heap.set, Go.Av.Heap.del] at * <;> grind)) ?_
    rintro Ec rfl k hk0
    have hck := cntML_le m.kids k
    have hdk := deepL_le (m.kids.take k)
    by_cases hlt : k < m.kids.length
    ·have hlk : decide ((k : Int) < m.kids.length) = true := decide_eq_true (by omega)
     have hmem := List.getElem_mem hlt
     have hca := cntML_at m.kids k hlt
     have hda := deepM_le m.kids[k]
     have t1 := cntML_take m.kids k hlt
     have t2 := deepL_take m.kids k hlt
     have t3 := okL_take m.kids k hlt
     have t1' : (1 : Int) + (cntML (m.kids.take (k + 1)) : Nat) = 1 + (cntML (m.kids.take k) : Nat) + (cntM m.kids[k] : Nat) := by omega
     have t2' : ((deepL (m.kids.take (k + 1)) : Nat) : Int) = if ((deepL (m.kids.take k) : Nat) : Int) < (deepM m.kids[k] : Nat) then ((deepM m.kids[k] : Nat) : Int) else ((deepL (m.kids.take k) : Nat) : Int) := by
      rw [t2]; split <;> omega
     cases hok : okL (m.kids.take k) with
     | false =>
      rw [hok, Bool.false_and] at t3
      repeat' (first | with_reducible refine And.intro ?_ ?_ | simp only [go_sem,seval, hlk, hok, Rw_at _ _ hlt] | simp (disch := omega) only [wrap64, cell_at, Rw_at, cntML_at] | simp (disch := first | omega | grind) only [heap_ne_, del_ne] | (intro hx_; try simp only [set_none] at hx_) | with_reducible refine ih m.kids[k] (by have := mkid_lt hmem; omega) (hm.k _ hmem) (by omega) _ ?_ | omega)
      all_goals exact nx_mk (k + 1) (by omega) (by omega) (by (try simp only [go_sem,seval, t1', t2', t3]) <;> (try simp (disch := omega) [wrap64]) <;> (try omega)) (heap_le_set (by assumption))
     | true =>
      rw [hok, Bool.true_and] at t3
      repeat' (first | with_reducible refine And.intro ?_ ?_ | simp only [go_sem,seval, hlk, hok, Rw_at _ _ hlt] | simp (disch := omega) only [wrap64, cell_at, Rw_at, cntML_at] | simp (disch := first | omega | grind) only [heap_ne_, del_ne] | (intro hx_; try simp only [set_none] at hx_) | with_reducible refine ih m.kids[k] (by have := mkid_lt hmem; omega) (hm.k _ hmem) (by omega) _ ?_ | omega)
      all_goals exact nx_mk (k + 1) (by omega) (by omega) (by (try simp only [go_sem,seval, t1', t2', t3]) <;> (try simp (disch := omega) [wrap64]) <;> (try omega)) (heap_le_set (by assumption))
    ·have hlk : decide ((k : Int) < m.kids.length) = false := decide_eq_false (by omega)
     rw [List.take_of_length_le (by omega)] at hdk ⊢
     repeat' (first | with_reducible refine And.intro ?_ ?_ | simp only [go_sem,seval, hlk] | simp (disch := omega) only [wrap64, cell_at, Rw_at, cntML_at] | simp (disch := first | omega | grind) only [heap_ne_, del_ne] | (intro hx_; try simp only [set_none] at hx_) | omega)
     refine Fin.less hle ?_
     rw [hcl, hdl] at h
     have e9 : ((1 + cntML m.kids : Nat) : Int) = 1 + (cntML m.kids : Nat) := by omega
     have e8 : ((1 + deepL m.kids : Nat) : Int) = (deepL m.kids : Nat) + 1 := by omega
     rw [e9, e8] at h
     simpa using h
   ·have hkd : decide ((m.kids.length : Int) = 1) = false := decide_eq_false (by omega)
    have hN : nodeM m.op m.term m.kids.length = false := by simp [nodeM, h3, hv, hk]
    rw [hN] at h
    repeat' (first | with_reducible refine And.intro ?_ ?_ | simp only [go_sem,seval, e1, h3, hv, hkd] | simp (disch := omega) only [wrap64, cell_at, Rw_at, cntML_at] | simp (disch := first | omega | grind) only [heap_ne_, del_ne] | (intro hx_; try simp only [set_none] at hx_) | with_reducible refine same0_a m.term hm.t _ ?_ | with_reducible refine valid_a m.term hm.t _ ?_ | omega)
    refine loop_c [51, 52] (fun (k : Nat) => [(53, .int .i64 k), (2, .int .i64 (1 + cntML (m.kids.take k))), (3, .int .i64 (deepL (m.kids.take k))), (4, .bool false)]) (fun (k : Nat) => Bs) (fun (k : Nat) => k ≤ m.kids.length) (fun (k : Nat) => m.kids.length - k) (0) (Nat.zero_le _) (by (try simp only [go_sem,seval]) <;> (try simp (disch := omega) [wrap64]) <;> (try omega)) (by first | with_reducible exact Heap.Le.refl _ | exact heap_set_le (by assumption) | exact Heap.Le.refl _ | exact heap_le_set (by assumption) | exact (by simp only [Go.Av.Heap.Le, Go.Av.Heap.set, Go.Av.Heap.del] at * <;> grind)) ?_
    rintro Ec rfl k hk0
    have hck := cntML_le m.kids k
    have hdk := deepL_le (m.kids.take k)
    by_cases hlt : k < m.kids.length
    ·have hlk : decide ((k : Int) < m.kids.length) = true := decide_eq_true (by omega)
     have hmem := List.getElem_mem hlt
     have hca := cntML_at m.kids k hlt
     have hda := deepM_le m.kids[k]
     have t1 := cntML_take m.kids k hlt
     have t2 := deepL_take m.kids k hlt
     have t3 := okL_take m.kids k hlt
     have t1' : (1 : Int) + (cntML (m.kids.take (k + 1)) : Nat) = 1 + (cntML (m.kids.take k) : Nat) + (cntM m.kids[k] : Nat) := by omega
     have t2' : ((deepL (m.kids.take (k + 1)) : Nat) : Int) = if ((deepL (m.kids.take k) : Nat) : Int) < (deepM m.kids[k] : Nat) then ((deepM m.kids[k] : Nat) : Int) else ((deepL (m.kids.take k) : Nat) : Int) := by
      rw [t2]; split <;> omega
     cases hok : okL (m.kids.take k) with
     | false =>
      rw [hok, Bool.false_and] at t3
      repeat' (first | with_reducible refine And.intro ?_ ?_ | simp only [go_sem,seval, hlk, hok, Rw_at _ _ hlt] | simp (disch := omega) only [wrap64, cell_at, Rw_at, cntML_at] | simp (disch := first | omega | grind) only [heap_ne_, del_ne] | (intro hx_; try simp only [set_none] at hx_) | with_reducible refine ih m.kids[k] (by have := mkid_lt hmem; omega) (hm.k _ hmem) (by omega) _ ?_ | omega)
      all_goals exact nx_mk (k + 1) (by omega) (by omega) (by (try simp only [go_sem,seval, t1', t2', t3]) <;> (try simp (disch := omega) [wrap64]) <;> (try omega)) (heap_le_set (by assumption))
     | true =>
      rw [hok, Bool.true_and] at t3
      repeat' (first | with_reducible refine And.intro ?_ ?_ | simp only [go_sem,seval, hlk, hok, Rw_at _ _ hlt] | simp (disch := omega) only [wrap64, cell_at, Rw_at, cntML_at] | simp (disch := first | omega | grind) only [heap_ne_, del_ne] | (intro hx_; try simp only [set_none] at hx_) | with_reducible refine ih m.kids[k] (by have := mkid_lt hmem; omega) (hm.k _ hmem) (by omega) _ ?_ | omega)
      all_goals exact nx_mk (k + 1) (by omega) (by omega) (by (try simp only [go_sem,seval, t1', t2', t3]) <;> (try simp (disch := omega) [wrap64]) <;> (try omega)) (heap_le_set (by assumption))
    ·have hlk : decide ((k : Int) < m.kids.length) = false := decide_eq_false (by omega)
     rw [List.take_of_length_le (by omega)] at hdk ⊢
     repeat' (first | with_reducible refine And.intro ?_ ?_ | simp only [go_sem,seval, hlk] | simp (disch := omega) only [wrap64, cell_at, Rw_at, cntML_at] | simp (disch := first | omega | grind) only [heap_ne_, del_ne] | (intro hx_; try simp only [set_none] at hx_) | omega)
     refine Fin.less hle ?_
     rw [hcl, hdl] at h
     have e9 : ((1 + cntML m.kids : Nat) : Int) = 1 + (cntML m.kids : Nat) := by omega
     have e8 : ((1 + deepL m.kids : Nat) : Int) = (deepL m.kids : Nat) + 1 := by omega
     rw [e9, e8] at h
     simpa using h
 by_cases h4 : m.op = 4
 ·cases hv : eqT m.term zeroT with
  | false =>
   have hN : nodeM m.op m.term m.kids.length = false := by simp [nodeM, h4, hv]
   rw [hN] at h
   repeat' (first | with_reducible refine And.intro ?_ ?_ | simp only [go_sem,seval, e1, h4, hv] | simp (disch := omega) only [wrap64, cell_at, Rw_at, cntML_at] | simp (disch := first | omega | grind) only [heap_ne_, del_ne] | (intro hx_; try simp only [set_none] at hx_) | with_reducible refine same0_a m.term hm.t _ ?_ | with_reducible refine valid_a m.term hm.t _ ?_ | omega)
   refine loop_c [51, 52] (fun (k : Nat) => [(53, .int .i64 k), (2, .int .i64 (1 + cntML (m.kids.take k))), (3, .int .i64 (deepL (m.kids.take k))), (4, .bool false)]) (fun (k : Nat) => Bs) (fun (k : Nat) => k ≤ m.kids.length) (fun (k : Nat) => m.kids.length - k) (0) (Nat.zero_le _) (by (try simp only [go_sem,seval]) <;> (try simp (disch := omega) [wrap64]) <;> (try omega)) (by first | with_reducible exact Heap.Le.refl _ | exact heap_set_le (by assumption) | exact Heap.Le.refl _ | exact heap_le_set (by assumption) | exact (by simp only [Go.Av.Heap.Le, Go.Av.Heap.set, Go.Av.Heap.del] at * <;> grind)) ?_
   rintro Ec rfl k hk0
   have hck := cntML_le m.kids k
   have hdk := deepL_le (m.kids.take k)
   by_cases hlt : k < m.kids.length
   ·have hlk : decide ((k : Int) < m.kids.length) = true := decide_eq_true (by omega)
    have hmem := List.getElem_mem hlt
    have hca := cntML_at m.kids k hlt
    have hda := deepM_le m.kids[k]
    have t1 := cntML_take m.kids k hlt
    have t2 := deepL_take m.kids k hlt
    have t3 := okL_take m.kids k hlt
    have t1' : (1 : Int) + (cntML (m.kids.take (k + 1)) : Nat) = 1 + (cntML (m.kids.take k) : Nat) + (cntM m.kids[k] : Nat) := by omega
    have t2' : ((deepL (m.kids.take (k + 1)) : Nat) : Int) = if ((deepL (m.kids.take k) : Nat) : Int) < (deepM m.kids[k] : Nat) then ((deepM m.kids[k] : Nat) : Int) else ((deepL (m.kids.take k) : Nat) : Int) := by
     rw [t2]; split <;> omega
    cases hok : okL (m.kids.take k) with
    | false =>
     rw [hok, Bool.false_and] at t3
     repeat' (first | with_reducible refine And.intro ?_ ?_ | simp only [go_sem,seval, hlk, hok, Rw_at _ _ hlt] | simp (disch := omega) only [wrap64, cell_at, Rw_at, cntML_at] | simp (disch := first | omega | grind) only [heap_ne_, del_ne] | (intro hx_; try simp only [set_none] at hx_) | with_reducible refine ih m.kids[k] (by have := mkid_lt hmem; omega) (hm.k _ hmem) (by omega) _ ?_ | omega)
     all_goals exact nx_mk (k + 1) (by omega) (by omega) (by (try simp only [go_sem,seval, t1', t2', t3]) <;> (try simp (disch := omega) [wrap64]) <;> (try omega)) (heap_le_set (by assumption))
    | true =>
     rw [hok, Bool.true_and] at t3
     repeat' (first | with_reducible refine And.intro ?_ ?_ | simp only [go_sem,seval, hlk, hok, Rw_at _ _ hlt] | simp (disch := omega) only [wrap64, cell_at, Rw_at, cntML_at] | simp (disch := first | omega | grind) only [heap_ne_, del_ne] | (intro hx_; try simp only [set_none] at hx_) | with_reducible refine ih m.kids[k] (by have := mkid_lt hmem; omega) (hm.k _ hmem) (by omega) _ ?_ | omega)
     all_goals exact nx_mk (k + 1) (by omega) (by omega) (by (try simp only [go_sem,seval, t1', t2', t3]) <;> (try simp (disch := omega) [wrap64]) <;> (try omega)) (heap_le_set (by assumption))
   ·have hlk : decide ((k : Int) < m.kids.length) = false := decide_eq_false (by omega)
    rw [List.take_of_length_le (by omega)] at hdk ⊢
    repeat' (first | with_reducible refine And.intro ?_ ?_ | simp only [go_sem,seval, hlk] | simp (disch := omega) only [wrap64, cell_at, Rw_at, cntML_at] | simp (disch := first | omega | grind) only [heap_ne_, del_ne] | (intro hx_; try simp only [set_none] at hx_) | omega)
    refine Fin.less hle ?_
    rw [hcl, hdl] at h
    have e9 : ((1 + cntML m.kids : Nat) : Int) = 1 + (cntML m.kids : Nat) := by omega
    have e8 : ((1 + deepL m.kids : Nat) : Int) = (deepL m.kids : Nat) + 1 := by omega
    rw [e9, e8] at h
    simpa using h
  | true =>
   by_cases hk : m.kids.length = 1
   ·have hkd : decide ((m.kids.length : Int) = 1) = true := decide_eq_true (by omega)
    have hN : nodeM m.op m.term m.kids.length = true := by simp [nodeM, h4, hv, hk]
    rw [hN] at h
    repeat' (first | with_reducible refine And.intro ?_ ?_ | simp only [go_sem,seval, e1, h4, hv, hkd] | simp (disch := omega) only [wrap64, cell_at, Rw_at, cntML_at] | simp (disch := first | omega | grind) only [heap_ne_, del_ne] | (intro hx_; try simp only [set_none] at hx_) | with_reducible refine same0_a m.term hm.t _ ?_ | with_reducible refine valid_a m.term hm.t _ ?_ | omega)
    refine loop_c [51, 52] (fun (k : Nat) => [(53, .int .i64 k), (2, .int .i64 (1 + cntML (m.kids.take k))), (3, .int .i64 (deepL (m.kids.take k))), (4, .bool (okL (m.kids.take k)))]) (fun (k : Nat) => Bs) (fun (k : Nat) => k ≤ m.kids.length) (fun (k : Nat) => m.kids.length - k) (0) (Nat.zero_le _) (by (try simp only [go_sem,seval]) <;> (try simp (disch := omega) [wrap64]) <;> (try omega)) (by first | with_reducible exact Heap.Le.refl _ | exact heap_set_le (by assumption) | exact Heap.Le.refl _ | exact heap_le_set (by assumption) | exact (by simp only [Go.Av.Heap.Le, Go.Av.Heap.set, Go.Av.Heap.del] at * <;> grind)) ?_
    rintro Ec rfl k hk0
    have hck := cntML_le m.kids k
    have hdk := deepL_le (m.kids.take k)
    by_cases hlt : k < m.kids.length
    ·have hlk : decide ((k : Int) < m.kids.length) = true := decide_eq_true (by omega)
     have hmem := List.getElem_mem hlt
     have hca := cntML_at m.kids k hlt
     have hda := deepM_le m.kids[k]
     have t1 := cntML_take m.kids k hlt
     have t2 := deepL_take m.kids k hlt
     have t3 := okL_take m.kids k hlt
     have t1' : (1 : Int) + (cntML (m.kids.take (k + 1)) : Nat) = 1 + (cntML (m.kids.take k) : Nat) + (cntM m.kids[k] : Nat) := by omega
     have t2' : ((deepL (m.kids.take (k + 1)) : Nat) : Int) = if ((deepL (m.kids.take k) : Nat) : Int) < (deepM m.kids[k] : Nat) then ((deepM m.kids[k] : Nat) : Int) else ((deepL (m.kids.take k) : Nat) : Int) := by
      rw [t2]; split <;> omega
     cases hok : okL (m.kids.take k) with
     | false =>
      rw [hok, Bool.false_and] at t3
      repeat' (first | with_reducible refine And.intro ?_ ?_ | simp only [go_sem,seval, hlk, hok, Rw_at _ _ hlt] | simp (disch := omega) only [wrap64, cell_at, Rw_at, cntML_at] | simp (disch := first | omega | grind) only [heap_ne_, del_ne] | (intro hx_; try simp only [set_none] at hx_) | with_reducible refine ih m.kids[k] (by have := mkid_lt hmem; omega) (hm.k _ hmem) (by omega) _ ?_ | omega)
      all_goals exact nx_mk (k + 1) (by omega) (by omega) (by (try simp only [go_sem,seval, t1', t2', t3]) <;> (try simp (disch := omega) [wrap64]) <;> (try omega)) (heap_le_set (by assumption))
     | true =>
      rw [hok, Bool.true_and] at t3
      repeat' (first | with_reducible refine And.intro ?_ ?_ | simp only [go_sem,seval, hlk, hok, Rw_at _ _ hlt] | simp (disch := omega) only [wrap64, cell_at, Rw_at, cntML_at] | simp (disch := first | omega | grind) only [heap_ne_, del_ne] | (intro hx_; try simp only [set_none] at hx_) | with_reducible refine ih m.kids[k] (by have := mkid_lt hmem; omega) (hm.k _ hmem) (by omega) _ ?_ | omega)
      all_goals exact nx_mk (k + 1) (by omega) (by omega) (by (try simp only [go_sem,seval, t1', t2', t3]) <;> (try simp (disch := omega) [wrap64]) <;> (try omega)) (heap_le_set (by assumption))
    ·have hlk : decide ((k : Int) < m.kids.length) = false := decide_eq_false (by omega)
     rw [List.take_of_length_le (by omega)] at hdk ⊢
     repeat' (first | with_reducible refine And.intro ?_ ?_ | simp only [go_sem,seval, hlk] | simp (disch := omega) only [wrap64, cell_at, Rw_at, cntML_at] | simp (disch := first | omega | grind) only [heap_ne_, del_ne] | (intro hx_; try simp only [set_none] at hx_) | omega)
     refine Fin.less hle ?_
     rw [hcl, hdl] at h
     have e9 : ((1 + cntML m.kids : Nat) : Int) = 1 + (cntML m.kids : Nat) := by omega
     have e8 : ((1 + deepL m.kids : Nat) : Int) = (deepL m.kids : Nat) + 1 := by omega
     rw [e9, e8] at h
     simpa using h
   ·have hkd : decide ((m.kids.length : Int) = 1) = false := decide_eq_false (by omega)
    have hN : nodeM m.op m.term m.kids.length = false := by simp [nodeM, h4, hv, hk]
    rw [hN] at h
    repeat' (first | with_reducible refine And.intro ?_ ?_ | simp only [go_sem,seval, e1, h4, hv, hkd] | simp (disch := omega) only [wrap64, cell_at, Rw_at, cntML_at] | simp (disch := first | omega | grind) only [heap_ne_, del_ne] | (intro hx_; try simp only [set_none] at hx_) | with_reducible refine same0_a m.term hm.t _ ?_ | with_reducible refine valid_a m.term hm.t _ ?_ | omega)
    refine loop_c [51, 52] (fun (k : Nat) => [(53, .int .i64 k), (2, .int .i64 (1 + cntML (m.kids.take k))), (3, .int .i64 (deepL (m.kids.take k))), (4, .bool false)]) (fun (k : Nat) => Bs) (fun (k : Nat) => k ≤ m.kids.length) (fun (k : Nat) => m.kids.length - k) (0) (Nat.zero_le _) (by (try simp only [go_sem,seval]) <;> (try simp (disch := omega) [wrap64]) <;> (try omega)) (by first | with_reducible exact Heap.Le.refl _ | exact heap_set_le (by assumption) | exact Heap.Le.refl _ | exact heap_le_set (by assumption) | exact (by simp only [Go.Av.Heap.Le, Go.Av.Heap.set, Go.Av.Heap.del] at * <;> grind)) ?_
    rintro Ec rfl k hk0
    have hck := cntML_le m.kids k
    have hdk := deepL_le (m.kids.take k)
    by_cases hlt : k < m.kids.length
    ·have hlk : decide ((k : Int) < m.kids.length) = true := decide_eq_true (by omega)
     have hmem := List.getElem_mem hlt
     have hca := cntML_at m.kids k hlt
     have hda := deepM_le m.kids[k]
     have t1 := cntML_take m.kids k hlt
     have t2 := deepL_take m.kids k hlt
     have t3 := okL_take m.kids k hlt
     have t1' : (1 : Int) + (cntML (m.kids.take (k + 1)) : Nat) = 1 + (cntML (m.kids.take k) : Nat) + (cntM m.kids[k] : Nat) := by omega
     have t2' : ((deepL (m.kids.take (k + 1)) : Nat) : Int) = if ((deepL (m.kids.take k) : Nat) : Int) < (deepM m.kids[k] : Nat) then ((deepM m.kids[k] : Nat) : Int) else ((deepL (m.kids.take k) : Nat) : Int) := by
      rw [t2]; split <;> omega
     cases hok : okL (m.kids.take k) with
     | false =>
      rw [hok, Bool.false_and] at t3
      repeat' (first | with_reducible refine And.intro ?_ ?_ | simp only [go_sem,seval, hlk, hok, Rw_at _ _ hlt] | simp (disch := omega) only [wrap64, cell_at, Rw_at, cntML_at] | simp (disch := first | omega | grind) only [heap_ne_, del_ne] | (intro hx_; try simp only [set_none] at hx_) | with_reducible refine ih m.kids[k] (by have := mkid_lt hmem; omega) (hm.k _ hmem) (by omega) _ ?_ | omega)
      all_goals exact nx_mk (k + 1) (by omega) (by omega) (by (try simp only [go_sem,seval, t1', t2', t3]) <;> (try simp (disch := omega) [wrap64]) <;> (try omega)) (heap_le_set (by assumption))
     | true =>
      rw [hok, Bool.true_and] at t3
      repeat' (first | with_reducible refine And.intro ?_ ?_ | simp only [go_sem,seval, hlk, hok, Rw_at _ _ hlt] | simp (disch := omega) only [wrap64, cell_at, Rw_at, cntML_at] | simp (disch := first | omega | grind) only [heap_ne_, del_ne] | (intro hx_; try simp only [set_none] at hx_) | with_reducible refine ih m.kids[k] (by have := mkid_lt hmem; omega) (hm.k _ hmem) (by omega) _ ?_ | omega)
      all_goals exact nx_mk (k + 1) (by omega) (by omega) (by (try simp only [go_sem,seval, t1', t2', t3]) <;> (try simp (disch := omega) [wrap64]) <;> (try omega)) (heap_le_set (by assumption))
    ·have hlk : decide ((k : Int) < m.kids.length) = false := decide_eq_false (by omega)
     rw [List.take_of_length_le (by omega)] at hdk ⊢
     repeat' (first | with_reducible refine And.intro ?_ ?_ | simp only [go_sem,seval, hlk] | simp (disch := omega) only [wrap64, cell_at, Rw_at, cntML_at] | simp (disch := first | omega | grind) only [heap_ne_, del_ne] | (intro hx_; try simp only [set_none] at hx_) | omega)
     refine Fin.less hle ?_
     rw [hcl, hdl] at h
     have e9 : ((1 + cntML m.kids : Nat) : Int) = 1 + (cntML m.kids : Nat) := by omega
     have e8 : ((1 + deepL m.kids : Nat) : Int) = (deepL m.kids : Nat) + 1 := by omega
     rw [e9, e8] at h
     simpa using h
 by_cases h5 : m.op = 5
 ·cases hv : eqT m.term zeroT with
  | false =>
   have hN : nodeM m.op m.term m.kids.length = false := by simp [nodeM, h5, hv]
   rw [hN] at h
   repeat' (first | with_reducible refine And.intro ?_ ?_ | simp only [go_sem,seval, e1, h5, hv] | simp (disch := omega) only [wrap64, cell_at, Rw_at, cntML_at] | simp (disch := first | omega | grind) only [heap_ne_, del_ne] | (intro hx_; try simp only [set_none] at hx_) | with_reducible refine same0_a m.term hm.t _ ?_ | with_reducible refine valid_a m.term hm.t _ ?_ | omega)
   refine loop_c [51, 52] (fun (k : Nat) => [(53, .int .i64 k), (2, .int .i64 (1 + cntML (m.kids.take k))), (3, .int .i64 (deepL (m.kids.take k))), (4, .bool false)]) (fun (k : Nat) => Bs) (fun (k : Nat) => k ≤ m.kids.length) (fun (k : Nat) => m.kids.length - k) (0) (Nat.zero_le _) (by (try simp only [go_sem,seval]) <;> (try simp (disch := omega) [wrap64]) <;> (try omega)) (by first | with_reducible exact Heap.Le.refl _ | exact heap_set_le (by assumption) | exact Heap.Le.refl _ | exact heap_le_set (by assumption) | exact (by simp only [Go.Av.Heap.Le, Go.Av.Heap.set, Go.Av.Heap.del] at * <;> grind)) ?_
   rintro Ec rfl k hk0
   have hck := cntML_le m.kids k
   have hdk := deepL_le (m.kids.take k)
   by_cases hlt : k < m.kids.length
   ·have hlk : decide ((k : Int) < m.kids.length) = true := decide_eq_true (by omega)
    have hmem := List.getElem_mem hlt
    have hca := cntML_at m.kids k hlt
    have hda := deepM_le m.kids[k]
    have t1 := cntML_take m.kids k hlt
    have t2 := deepL_take m.kids k hlt
    have t3 := okL_take m.kids k hlt
    have t1' : (1 : Int) + (cntML (m.kids.take (k + 1)) : Nat) = 1 + (cntML (m.kids.take k) : Nat) + (cntM m.kids[k] : Nat) := by omega
    have t2' : ((deepL (m.kids.take (k + 1)) : Nat) : Int) = if ((deepL (m.kids.take k) : Nat) : Int) < (deepM m.kids[k] : Nat) then ((deepM m.kids[k] : Nat) : Int) else ((deepL (m.kids.take k) : Nat) : Int) := by
     rw [t2]; split <;> omega
    cases hok : okL (m.kids.take k) with
    | false =>
     rw [hok, Bool.false_and] at t3
     repeat' (first | with_reducible refine And.intro ?_ ?_ | simp only [go_sem,seval, hlk, hok, Rw_at _ _ hlt] | simp (disch := omega) only [wrap64, cell_at, Rw_at, cntML_at] | simp (disch := first | omega | grind) only [heap_ne_, del_ne] | (intro hx_; try simp only [set_none] at hx_) | with_reducible refine ih m.kids[k] (by have := mkid_lt hmem; omega) (hm.k _ hmem) (by omega) _ ?_ | omega)
     all_goals exact nx_mk (k + 1) (by omega) (by omega) (by (try simp only [go_sem,seval, t1', t2', t3]) <;> (try simp (disch := omega) [wrap64]) <;> (try omega)) (heap_le_set (by assumption))
    | true =>
     rw [hok, Bool.true_and] at t3
     repeat' (first | with_reducible refine And.intro ?_ ?_ | simp only [go_sem,seval, hlk, hok, Rw_at _ _ hlt] | simp (disch := omega) only [wrap64, cell_at, Rw_at, cntML_at] | simp (disch := first | omega | grind) only [heap_ne_, del_ne] | (intro hx_; try simp only [set_none] at hx_) | with_reducible refine ih m.kids[k] (by have := mkid_lt hmem; omega) (hm.k _ hmem) (by omega) _ ?_ | omega)
     all_goals exact nx_mk (k + 1) (by omega) (by omega) (by (try simp only [go_sem,seval, t1', t2', t3]) <;> (try simp (disch := omega) [wrap64]) <;> (try omega)) (heap_le_set (by assumption))
   ·have hlk : decide ((k : Int) < m.kids.length) = false := decide_eq_false (by omega)
    rw [List.take_of_length_le (by omega)] at hdk ⊢
    repeat' (first | with_reducible refine And.intro ?_ ?_ | simp only [go_sem,seval, hlk] | simp (disch := omega) only [wrap64, cell_at, Rw_at, cntML_at] | simp (disch := first | omega | grind) only [heap_ne_, del_ne] | (intro hx_; try simp only [set_none] at hx_) | omega)
    refine Fin.less hle ?_
    rw [hcl, hdl] at h
    have e9 : ((1 + cntML m.kids : Nat) : Int) = 1 + (cntML m.kids : Nat) := by omega
    have e8 : ((1 + deepL m.kids : Nat) : Int) = (deepL m.kids : Nat) + 1 := by omega
    rw [e9, e8] at h
    simpa using h
  | true =>
   have hN : nodeM m.op m.term m.kids.length = true := by simp [nodeM, h5, hv]
   rw [hN] at h
   repeat' (first | with_reducible refine And.intro ?_ ?_ | simp only [go_sem,seval, e1, h5, hv] | simp (disch := omega) only [wrap64, cell_at, Rw_at, cntML_at] | simp (disch := first | omega | grind) only [heap_ne_, del_ne] | (intro hx_; try simp only [set_none] at hx_) | with_reducible refine same0_a m.term hm.t _ ?_ | with_reducible refine valid_a m.term hm.t _ ?_ | omega)
   refine loop_c [51, 52] (fun (k : Nat) => [(53, .int .i64 k), (2, .int .i64 (1 + cntML (m.kids.take k))), (3, .int .i64 (deepL (m.kids.take k))), (4, .bool (okL (m.kids.take k)))]) (fun (k : Nat) => Bs) (fun (k : Nat) => k ≤ m.kids.length) (fun (k : Nat) => m.kids.length - k) (0) (Nat.zero_le _) (by (try simp only [go_sem,seval]) <;> (try simp (disch := omega) [wrap64]) <;> (try omega)) (by first | with_reducible exact Heap.Le.refl _ | exact heap_set_le (by assumption) | exact Heap.Le.refl _ | exact heap_le_set (by assumption) | exact (by simp only [Go.Av.Heap.Le, Go.Av.Heap.set, Go.Av.Heap.del] at * <;> grind)) ?_
   rintro Ec rfl k hk0
   have hck := cntML_le m.kids k
   have hdk := deepL_le (m.kids.take k)
   by_cases hlt : k < m.kids.length
   ·have hlk : decide ((k : Int) < m.kids.length) = true := decide_eq_true (by omega)
    have hmem := List.getElem_mem hlt
    have hca := cntML_at m.kids k hlt
    have hda := deepM_le m.kids[k]
    have t1 := cntML_take m.kids k hlt
    have t2 := deepL_take m.kids k hlt
    have t3 := okL_take m.kids k hlt
    have t1' : (1 : Int) + (cntML (m.kids.take (k + 1)) : Nat) = 1 + (cntML (m.kids.take k) : Nat) + (cntM m.kids[k] : Nat) := by omega
    have t2' : ((deepL (m.kids.take (k + 1)) : Nat) : Int) = if ((deepL (m.kids.take k) : Nat) : Int) < (deepM m.kids[k] : Nat) then ((deepM m.kids[k] : Nat) : Int) else ((deepL (m.kids.take k) : Nat) : Int) := by
     rw [t2]; split <;> omega
    cases hok : okL (m.kids.take k) with
    | false =>
     rw [hok, Bool.false_and] at t3
     repeat' (first | with_reducible refine And.intro ?_ ?_ | simp only [go_sem,seval, hlk, hok, Rw_at _ _ hlt] | simp (disch := omega) only [wrap64, cell_at, Rw_at, cntML_at] | simp (disch := first | omega | grind) only [heap_ne_, del_ne] | (intro hx_; try simp only [set_none] at hx_) | with_reducible refine ih m.kids[k] (by have := mkid_lt hmem; omega) (hm.k _ hmem) (by omega) _ ?_ | omega)
     all_goals exact nx_mk (k + 1) (by omega) (by omega) (by (try simp only [go_sem,seval, t1', t2', t3]) <;> (try simp (disch := omega) [wrap64]) <;> (try omega)) (heap_le_set (by assumption))
    | true =>
     rw [hok, Bool.true_and] at t3
     repeat' (first | with_reducible refine And.intro ?_ ?_ | simp only [go_sem,seval, hlk, hok, Rw_at _ _ hlt] | simp (disch := omega) only [wrap64, cell_at, Rw_at, cntML_at] | simp (disch := first | omega | grind) only [heap_ne_, del_ne] | (intro hx_; try simp only [set_none] at hx_) | with_reducible refine ih m.kids[k] (by have := mkid_lt hmem; omega) (hm.k _ hmem) (by omega) _ ?_ | omega)
     all_goals exact nx_mk (k + 1) (by omega) (by omega) (by (try simp only [go_sem,seval, t1', t2', t3]) <;> (try simp (disch := omega) [wrap64]) <;> (try omega)) (heap_le_set (by assumption))
   ·have hlk : decide ((k : Int) < m.kids.length) = false := decide_eq_false (by omega)
    rw [List.take_of_length_le (by omega)] at hdk ⊢
    repeat' (first | with_reducible refine And.intro ?_ ?_ | simp only [go_sem,seval, hlk] | simp (disch := omega) only [wrap64, cell_at, Rw_at, cntML_at] | simp (disch := first | omega | grind) only [heap_ne_, del_ne] | (intro hx_; try simp only [set_none] at hx_) | omega)
    refine Fin.less hle ?_
    rw [hcl, hdl] at h
    have e9 : ((1 + cntML m.kids : Nat) : Int) = 1 + (cntML m.kids : Nat) := by omega
    have e8 : ((1 + deepL m.kids : Nat) : Int) = (deepL m.kids : Nat) + 1 := by omega
    rw [e9, e8] at h
    simpa using h
 ·
  have hN : nodeM m.op m.term m.kids.length = false := by simp [nodeM, h1, h2, h3, h4, h5]
  rw [hN] at h
  repeat' (first | with_reducible refine And.intro ?_ ?_ | simp only [go_sem,seval, e1, h1, h2, h3, h4, h5] | simp (disch := omega) only [wrap64, cell_at, Rw_at, cntML_at] | simp (disch := first | omega | grind) only [heap_ne_, del_ne] | (intro hx_; try simp only [set_none] at hx_) | with_reducible refine same0_a m.term hm.t _ ?_ | with_reducible refine valid_a m.term hm.t _ ?_ | omega)
  refine loop_c [51, 52] (fun (k : Nat) => [(53, .int .i64 k), (2, .int .i64 (1 + cntML (m.kids.take k))), (3, .int .i64 (deepL (m.kids.take k))), (4, .bool false)]) (fun (k : Nat) => Bs) (fun (k : Nat) => k ≤ m.kids.length) (fun (k : Nat) => m.kids.length - k) (0) (Nat.zero_le _) (by (try simp only [go_sem,seval]) <;> (try simp (disch := omega) [wrap64]) <;> (try omega)) (by first | with_reducible exact Heap.Le.refl _ | exact heap_set_le (by assumption) | exact Heap.Le.refl _ | exact heap_le_set (by assumption) | exact (by simp only [Go.Av.Heap.Le, Go.Av.Heap.set, Go.Av.Heap.del] at * <;> grind)) ?_
  rintro Ec rfl k hk0
  have hck := cntML_le m.kids k
  have hdk := deepL_le (m.kids.take k)
  by_cases hlt : k < m.kids.length
  ·have hlk : decide ((k : Int) < m.kids.length) = true := decide_eq_true (by omega)
   have hmem := List.getElem_mem hlt
   have hca := cntML_at m.kids k hlt
   have hda := deepM_le m.kids[k]
   have t1 := cntML_take m.kids k hlt
   have t2 := deepL_take m.kids k hlt
   have t3 := okL_take m.kids k hlt
   have t1' : (1 : Int) + (cntML (m.kids.take (k + 1)) : Nat) = 1 + (cntML (m.kids.take k) : Nat) + (cntM m.kids[k] : Nat) := by omega
   have t2' : ((deepL (m.kids.take (k + 1)) : Nat) : Int) = if ((deepL (m.kids.take k) : Nat) : Int) < (deepM m.kids[k] : Nat) then ((deepM m.kids[k] : Nat) : Int) else ((deepL (m.kids.take k) : Nat) : Int) := by
    rw [t2]; split <;> omega
   cases hok : okL (m.kids.take k) with
   | false =>
    rw [hok, Bool.false_and] at t3
    repeat' (first | with_reducible refine And.intro ?_ ?_ | simp only [go_sem,seval, hlk, hok, Rw_at _ _ hlt] | simp (disch := omega) only [wrap64, cell_at, Rw_at, cntML_at] | simp (disch := first | omega | grind) only [heap_ne_, del_ne] | (intro hx_; try simp only [set_none] at hx_) | with_reducible refine ih m.kids[k] (by have := mkid_lt hmem; omega) (hm.k _ hmem) (by omega) _ ?_ | omega)
    all_goals exact nx_mk (k + 1) (by omega) (by omega) (by (try simp only [go_sem,seval, t1', t2', t3]) <;> (try simp (disch := omega) [wrap64]) <;> (try omega)) (heap_le_set (by assumption))
   | true =>
    rw [hok, Bool.true_and] at t3
    repeat' (first | with_reducible refine And.intro ?_ ?_ | simp only [go_sem,seval, hlk, hok, Rw_at _ _ hlt] | simp (disch := omega) only [wrap64, cell_at, Rw_at, cntML_at] | simp (disch := first | omega | grind) only [heap_ne_, del_ne] | (intro hx_; try simp only [set_none] at hx_) | with_reducible refine ih m.kids[k] (by have := mkid_lt hmem; omega) (hm.k _ hmem) (by omega) _ ?_ | omega)
    all_goals exact nx_mk (k + 1) (by omega) (by omega) (by (try simp only [go_sem,seval, t1', t2', t3]) <;> (try simp (disch := omega) [wrap64]) <;> (try omega)) (heap_le_set (by assumption))
  ·have hlk : decide ((k : Int) < m.kids.length) = false := decide_eq_false (by omega)
   rw [List.take_of_length_le (by omega)] at hdk ⊢
   repeat' (first | with_reducible refine And.intro ?_ ?_ | simp only [go_sem,seval, hlk] | simp (disch := omega) only [wrap64, cell_at, Rw_at, cntML_at] | simp (disch := first | omega | grind) only [heap_ne_, del_ne] | (intro hx_; try simp only [set_none] at hx_) | omega)
   refine Fin.less hle ?_
   rw [hcl, hdl] at h
   have e9 : ((1 + cntML m.kids : Nat) : Int) = 1 + (cntML m.kids : Nat) := by omega
   have e8 : ((1 + deepL m.kids : Nat) : Int) = (deepL m.kids : Nat) + 1 := by omega
   rw [e9, e8] at h
   simpa using h
theorem measure_a {Q} (m : Mo) (hm : MoFit m) (hc : cntM m ≤ 1000000000) (H : Heap) (h : Q (.tuple [.int .i64 (cntM m), .int .i64 (deepM m), .bool (okM m)]) H) : ACalls Tryz.prog 75 [.agg (moC m)] H Q := measure_n _ m (Nat.le_refl _) hm hc H h
theorem isModal_a {Q} (m : Mo) (hm : MoFit m) (hc : cntM m ≤ 1000000000) (H : Heap) (h : Q (.bool (validM m)) H) : ACalls Tryz.prog 48 [.agg (moC m)] H Q := by
 refine acalls_of_wp [] Tryz.mixed Tryz.func48 rfl (by kernel_rfl) (of_decide_eq_true (by kernel_rfl)) (by kernel_rfl) ?_
 simp only [go_sem,seval, Tryz.results48]
 intro b1 hb1
 unfold validM at h
 have hle : H.Le (H.set b1 (.box (moC m))) := heap_le_set hb1
 have e1 : decide (((cntM m : Nat) : Int) ≤ 2000) = decide (cntM m ≤ 2000) := by rw [Bool.eq_iff_iff, decide_eq_true_eq, decide_eq_true_eq]; omega
 have e2 : decide (((deepM m : Nat) : Int) ≤ 200) = decide (deepM m ≤ 200) := by rw [Bool.eq_iff_iff, decide_eq_true_eq, decide_eq_true_eq]; omega
 cases h1 : okM m with
 | false =>
  repeat' (first | with_reducible refine And.intro ?_ ?_ | simp only [go_sem,seval, h1] | simp (disch := omega) only [wrap64, cell_at] | simp (disch := first | omega | grind) only [heap_ne_, del_ne] | (intro hx_; try simp only [set_none] at hx_) | with_reducible refine measure_a m hm hc _ ?_ | omega)
  refine Fin.less hle ?_
  simpa [h1] using h
 | true =>
  by_cases h2 : cntM m ≤ 2000
  ·have e3 : decide (((cntM m : Nat) : Int) ≤ 2000) = true := by rw [e1]; exact decide_eq_true h2
   repeat' (first | with_reducible refine And.intro ?_ ?_ | simp only [go_sem,seval, h1, e3] | simp (disch := omega) only [wrap64, cell_at] | simp (disch := first | omega | grind) only [heap_ne_, del_ne] | (intro hx_; try simp only [set_none] at hx_) | with_reducible refine measure_a m hm hc _ ?_ | omega)
   refine Fin.less hle ?_
   simpa [h1, h2, e2] using h
  ·have e3 : decide (((cntM m : Nat) : Int) ≤ 2000) = false := by rw [e1]; exact decide_eq_false h2
   repeat' (first | with_reducible refine And.intro ?_ ?_ | simp only [go_sem,seval, h1, e3] | simp (disch := omega) only [wrap64, cell_at] | simp (disch := first | omega | grind) only [heap_ne_, del_ne] | (intro hx_; try simp only [set_none] at hx_) | with_reducible refine measure_a m hm hc _ ?_ | omega)
   refine Fin.less hle ?_
   simpa [h1, h2, e2] using h
end Go.Proofs.YtmohcdihdhggoaaGreatDoor
end
section
set_option maxRecDepth 20000
namespace Go.Bis
open Go Go.Av Go.Lexs
mutual
def satM (s : Sy) (to : Nat → List Nat) : Mo → Nat → Bool
 | .mk o t ks, i => if o = 1 then eqT (s.seen.getD i default) t else if o = 2 then s.final.getD i false else if o = 3 then (to i).any (fun k => satH s to ks k) else if o = 4 then !satH s to ks i else satA s to ks i
def satH (s : Sy) (to : Nat → List Nat) : List Mo → Nat → Bool
 | [], _ => false
 | k :: _, i => satM s to k i
def satA (s : Sy) (to : Nat → List Nat) : List Mo → Nat → Bool
 | [], _ => true
 | k :: ks, i => satM s to k i && satA s to ks i
end
theorem satM_eq (s : Sy) (to : Nat → List Nat) (m : Mo) (i : Nat) : satM s to m i = if m.op = 1 then eqT (s.seen.getD i default) m.term else if m.op = 2 then s.final.getD i false else if m.op = 3 then (to i).any (fun k => satH s to m.kids k) else if m.op = 4 then !satH s to m.kids i else satA s to m.kids i := by
 cases m; rw [satM]; rfl
theorem satA_all (s : Sy) (to : Nat → List Nat) : ∀ (l : List Mo) (i : Nat), satA s to l i = l.all fun k => satM s to k i
 | [], i => by rw [satA]; rfl
 | k :: ks, i => by rw [satA, satA_all s to ks i, List.all_cons]
theorem satH_one {s : Sy} {to : Nat → List Nat} {l : List Mo} (h : 0 < l.length) (i : Nat) : satH s to l i = satM s to l[0] i := by
 cases l with
 | nil => simp at h
 | cons k ks => rw [satH]; rfl
def satRow (s : Sy) (to : Nat → List Nat) (m : Mo) : List Bool := (List.range s.seen.length).map (satM s to m)
theorem satRow_length (s : Sy) (to : Nat → List Nat) (m : Mo) : (satRow s to m).length = s.seen.length := by simp [satRow]
theorem satRow_at (s : Sy) (to : Nat → List Nat) (m : Mo) (i : Nat) (h : i < s.seen.length) : (satRow s to m)[i]'(by rw [satRow_length]; exact h) = satM s to m i := by simp [satRow]
def padF (f : Nat → Bool) (n i : Nat) : List Bool := (List.range n).map fun j => if j < i then f j else false
theorem padF_length (f : Nat → Bool) (n i : Nat) : (padF f n i).length = n := by simp [padF]
theorem padF_zero (f : Nat → Bool) (n : Nat) : padF f n 0 = List.replicate n false := by
 unfold padF; apply List.ext_getElem (by simp); intro j h1 h2; simp
theorem padF_all (f : Nat → Bool) (n i : Nat) (h : n ≤ i) : padF f n i = (List.range n).map f := by
 unfold padF; refine List.map_congr_left fun j hj => ?_; rw [if_pos (by have := List.mem_range.1 hj; omega)]
theorem padF_set (f : Nat → Bool) (n i : Nat) (h : i < n) : (padF f n i).set i (f i) = padF f n (i + 1) := by
 apply List.ext_getElem (by simp [padF])
 intro j h1 h2
 rw [List.getElem_set]
 have hj : j < n := by simpa [padF] using h2
 simp only [padF, List.getElem_map, List.getElem_range]
 by_cases e : i = j
 ·subst e; simp
 ·rw [if_neg e]
  by_cases h3 : j < i
  ·rw [if_pos h3, if_pos (by omega)]
  ·rw [if_neg h3, if_neg (by omega)]
theorem all_take_succ {α : Type} (l : List α) (p : α → Bool) (k : Nat) (h : k < l.length) : (l.take (k + 1)).all p = ((l.take k).all p && p l[k]) := by rw [List.take_succ_eq_append_getElem h, List.all_append]; simp
end Go.Bis
end
section
set_option maxRecDepth 20000
namespace Go.Bis
open Go Go.Av Go.Lexs Go.Proofs.YtmohcdihdhggoaaGreatDoor
theorem nxS_lt {s : Sy} (ho : SyOk s) : ∀ k, k < s.seen.length → ∀ m ∈ nxS s k, m < s.seen.length := fun k hk m hm => by
 have hx : k < s.next.length := by rw [ho.x]; exact hk
 rw [nxS_at hx, List.mem_map] at hm
 obtain ⟨z, hz, rfl⟩ := hm
 have := ho.r _ (List.getElem_mem hx) z hz
 omega
structure Beh (a b : Sy) (B : Nat → Nat → Prop) : Prop where
 la : ∀ i j, B i j → i < a.seen.length ∧ j < b.seen.length
 see : ∀ i j, B i j → a.final.getD i false = b.final.getD j false ∧ a.seen.getD i default = b.seen.getD j default
 fw : ∀ i j k, B i j → Rch (nxS a) i k → ∃ m, Rch (nxS b) j m ∧ B k m
 bw : ∀ i j m, B i j → Rch (nxS b) j m → ∃ k, Rch (nxS a) i k ∧ B k m
theorem reps_pw (s : Sy) : ∀ k, (repsTo s k).Pairwise (fun r q => clN s r ≠ clN s q)
 | 0 => by rw [repsTo]; exact List.Pairwise.nil
 | k + 1 => by
  rw [repsTo]
  have := reps_pw s k
  split
  ·rename_i h
   rw [Bool.and_eq_true, decide_eq_true_eq] at h
   have h2 : numI (clN s) (repsTo s k) (clN s k) = -1 := by have := numI_range (clN s) (repsTo s k) (clN s k); omega
   rw [numI_none] at h2
   refine List.pairwise_append.2 ⟨this, List.pairwise_singleton _ _, fun r hr q hq => ?_⟩
   simp at hq; rw [hq]; exact h2 r hr
  ·exact this
theorem numI_at {cl : Nat → Nat} {reps : List Nat} (hp : reps.Pairwise (fun r q => cl r ≠ cl q)) (e : Nat) (he : e < reps.length) : numI cl reps (cl reps[e]) = e := by
 unfold numI
 have : reps.findIdx? (fun r => cl r == cl reps[e]) = some e := by
  rw [List.findIdx?_eq_some_iff_getElem]
  refine ⟨he, by simp, fun j hj => ?_⟩
  have := List.pairwise_iff_getElem.1 hp j e (by omega) he hj
  simpa using this
 rw [this]
theorem num_rep (s : Sy) (e : Nat) (he : e < (repsS s).length) : numS' s (repsS s)[e] = e := numI_at (reps_pw s _) e he
theorem small_len (s : Sy) : (smallS s).seen.length = (repsS s).length ∧ (smallS s).final.length = (repsS s).length ∧ (smallS s).next.length = (repsS s).length := by simp [smallS]
theorem step_iff {s : Sy} {e f : Nat} : stepS s e f = true ↔ ∃ i, i < s.seen.length ∧ reS s i = true ∧ numS' s i = e ∧ ∃ k ∈ nxS s i, numS' s k = f := by
 unfold stepS; rw [decide_eq_true_eq]
theorem num_nat {s : Sy} {k : Nat} (h : k < s.seen.length) (hr : reS s k = true) : ∃ e, e < (repsS s).length ∧ numS' s k = e := by
 obtain ⟨h1, h2⟩ := numS'_pos h hr
 refine ⟨(numS' s k).toNat, ?_, by omega⟩
 have : (repsS s).length = (repsTo s s.seen.length).length := rfl
 omega
theorem reps_zero {s : Sy} (h0 : 1 ≤ s.seen.length) : ∀ k, 1 ≤ k → ∃ l, repsTo s k = 0 :: l
 | 0, h => by omega
 | 1, _ => by
  have h2 : numI (clN s) (repsTo s 0) (clN s 0) < 0 := by rw [repsTo, numI_none.2 (by simp)]; omega
  rw [reps_new (reS_zero h0) h2, repsTo]; exact ⟨[], rfl⟩
 | k + 2, _ => by
  obtain ⟨l, hl⟩ := reps_zero h0 (k + 1) (by omega)
  rw [repsTo]; split
  ·rw [hl]; exact ⟨_, rfl⟩
  ·rw [hl]; exact ⟨_, rfl⟩
theorem num_zero {s : Sy} (h0 : 1 ≤ s.seen.length) : numS' s 0 = 0 ∧ 0 < (repsS s).length := by
 obtain ⟨l, hl⟩ := reps_zero h0 _ h0
 have hl' : repsS s = 0 :: l := hl
 have hlt : 0 < (repsS s).length := by rw [hl']; simp
 have := num_rep s 0 hlt
 simp only [hl', List.getElem_cons_zero] at this
 exact ⟨by simpa using this, hlt⟩
end Go.Bis
end
section
namespace Go.Av
theorem set_get {α : Type} {X : List α} {i j : Nat} {y x' : α} (h : (X.set i y)[j]? = some x') : (j ≠ i ∧ X[j]? = some x') ∨ (j = i ∧ x' = y ∧ i < X.length) := by
 by_cases e : i = j
 ·subst e
  obtain ⟨hl, hx⟩ := List.getElem?_eq_some_iff.1 h
  rw [List.length_set] at hl
  rw [List.getElem_set_self] at hx
  exact .inr ⟨rfl, hx.symm, hl⟩
 ·rw [List.getElem?_set_ne e] at h
  exact .inl ⟨fun g => e g.symm, h⟩
theorem weak_rowAt {H Hd : Heap} {E E' : Env} {c m sz s n i : Nat} {es X : List (List D)} (hS : Av.Sub E' E) (hn : n = es.length) (hx : X[i]? = some [.vec m sz 0 n]) (hc : Hd c = some (.vec s X)) (hm : Hd m = some (.vec sz es)) (hne : m ≠ c)
  (hH : ∀ k o, k ≠ c → H k = some o → k ≠ m ∧ Hd k = some o) : Weak E' (H.set c (.vec s (X.set i [.sl sz es]))) E Hd := by
 refine weak_freeze hm (fz_sub hS) (fun k o' ho => ?_)
 unfold Heap.set at ho
 by_cases hk : k = c
 ·subst hk
  rw [if_pos rfl] at ho
  cases ho
  refine ⟨Ne.symm hne, _, hc, .vec _ _ _ (by simp) fun j y y' hy hy' => ?_⟩
  rcases set_get hy' with ⟨h1, h2⟩ | ⟨h1, h2, h3⟩
  ·rw [hy] at h2; cases h2
   exact ⟨rfl, fun j d d' h3 h4 => by rw [h3] at h4; cases h4; exact .same _⟩
  ·subst h1; subst h2
   rw [hx] at hy; cases hy
   refine ⟨rfl, fun j d d' h3 h4 => ?_⟩
   cases j with
   | zero => cases h3; cases h4; rw [hn]; exact .all
   | succ j => cases h3
 ·rw [if_neg hk] at ho
  obtain ⟨h1, h2⟩ := hH k o' hk ho
  exact ⟨h1, o', h2, .same _⟩
theorem weak_nilAt {H Hd : Heap} {E E' : Env} {c s i z : Nat} {X : List (List D)} (hS : Av.Sub E' E) (hx : X[i]? = some [.nilsl]) (hc : Hd c = some (.vec s X))
  (hH : ∀ k o, k ≠ c → H k = some o → Hd k = some o) : Weak E' (H.set c (.vec s (X.set i [.sl z []]))) E Hd := by
 intro N w0 Hz a w hst
 have hs := hst.sat
 have hheld : ∀ k, Hd.held k = false → (H.set c (.vec s (X.set i [.sl z []]))).held k = false := fun k hk => by
  by_cases hkc : k = c
  ·subst hkc; rw [held_of hc] at hk; cases hk
  ·cases ho : (H.set c (.vec s (X.set i [.sl z []]))) k with
   | none => exact held_none ho
   | some o' =>
    have ho2 := ho
    unfold Heap.set at ho2
    rw [if_neg hkc] at ho2
    rw [held_of (hH k o' hkc ho2)] at hk
    rw [held_of ho]; exact hk
 have hR : ∀ {d : D} {v : Value}, R w Hd d v → R w (H.set c (.vec s (X.set i [.sl z []]))) d v := fun hr => hr.mono (Ext.refl _ _) fun k _ hk => hheld k hk
 refine ⟨hst.size, hst.defers, fun q => ?_, fun k o' ho => ?_, hst.ext, fun k hk hn => hheld k (hst.frm k hk hn)⟩
 ·have key : ∀ (L : Env), (∀ p ∈ L, E.get p.1 = p.2) → R w (H.set c (.vec s (X.set i [.sl z []]))) (L.get q) (a.eval (.tmp q)) := by
   intro L
   induction L with
   | nil => intro _; exact .undef _
   | cons p L ih =>
    intro hL
    obtain ⟨j, d⟩ := p
    simp only [Env.get]
    by_cases hj : j = q
    ·subst hj
     rw [if_pos rfl]
     have := hL (j, d) (by simp)
     simp only at this
     rw [← this]
     exact hR (hst.env j)
    ·rw [if_neg hj]; exact ih (fun p hp => hL p (by simp [hp]))
  exact key E' hS.all
 ·by_cases hkc : k = c
  ·subst hkc
   rw [heap_same] at ho
   cases ho
   have hok := hs k _ hc
   obtain ⟨c', T, lo, hi, k1, k2, k3, k4, k5, k6⟩ := hok
   refine ⟨c', T, lo, hi, k1, k2, k3, by simpa using k4, fun j x' hx' => ?_, fun j x' q d' hx' hd' => ?_⟩
   ·rcases set_get hx' with ⟨_, h⟩ | ⟨rfl, rfl, _⟩
    ·exact k5 j _ h
    ·have := k5 _ _ hx; simpa using this
   ·rcases set_get hx' with ⟨_, h⟩ | ⟨rfl, rfl, _⟩
    ·exact ⟨(k6 j _ q _ h hd').1, hR (k6 j _ q _ h hd').2⟩
    ·cases q with
     | zero =>
      cases hd'
      have := (k6 _ _ 0 _ hx rfl).2
      refine ⟨rfl, ?_⟩
      revert this
      generalize c'.getD _ undef = vv
      intro this
      cases this
      exact .sl0 _ _ _
     | succ q => cases hd'
  ·have ho2 := ho
   unfold Heap.set at ho2
   rw [if_neg hkc] at ho2
   exact (hs k _ (hH k o' hkc ho2)).mono (Ext.refl Hd w) (fun k _ hk => hheld k hk) rfl
theorem keepK {Hd : Heap} {ob : Option Nat} {b' k : Nat} {x o : Obj} (h1 : Hd k = some o) (h2 : ob ≠ some k) (h3 : delB Hd ob b' = none) : ((delB Hd ob).set b' x) k = some o := by
 have hd : delB Hd ob k = some o := by
  cases ob with
  | none => exact h1
  | some c =>
   show (Hd.del c) k = _
   rw [del_ne (by rintro rfl; exact h2 rfl)]; exact h1
 rw [heap_ne _ (by rintro rfl; rw [hd] at h3; cases h3)]; exact hd
theorem newK {Hd : Heap} {ob : Option Nat} {b' : Nat} (h3 : delB Hd ob b' = none) : Hd b' = none ∨ ob = some b' := by
 cases ob with
 | none => exact .inl h3
 | some c =>
  change (Hd.del c) b' = none at h3
  simp only [Heap.del] at h3
  by_cases e : b' = c
  ·exact .inr (by rw [e])
  ·rw [if_neg e] at h3; exact .inl h3
def Apd (H0 : Heap) (sz : Nat) (ob : Option Nat) (es : List (List D)) (b' : Nat) (H' : Heap) : Prop :=
 H' b' = some (.vec sz es) ∧ (∀ q o, H0 q = some o → ob ≠ some q → H' q = some o) ∧ (H0 b' = none ∨ ob = some b')
theorem apS_z {P : Program} {KD : D → Heap → Prop} {H0 : Heap} {sz by_ n bx : Nat} {ob : Option Nat} {o : Obj} {es xs : List (List D)} (hx0 : H0 bx = none) (hne : xs ≠ []) (hout : OutAt H0 sz es ob) (hn : n = es.length) (h1 : (n + xs.length) * by_ ≤ 140737488355328) (h2 : n + xs.length ≤ 9223372036854775807)
  (h : ∀ b' H', Apd H0 sz ob (es ++ xs) b' H' → KD (.vec b' sz 0 (n + xs.length)) H') : apS (outG sz n ob) sz by_ xs (H0.set bx o) KD := by
 have hob : ob ≠ some bx := fun e => by subst e; have : H0 bx = some (.vec sz es) := hout; rw [hx0] at this; cases this
 have hout2 : OutAt (H0.set bx o) sz es ob := by
  cases ob with
  | none => exact hout
  | some c => show Heap.set _ bx _ c = _; rw [heap_ne _ (fun e => hob (by rw [e]))]; exact hout
 refine apS_out es hne hn hout2 h1 h2 fun b' hb' => ?_
 refine h b' _ ⟨heap_same _ _, fun q x hq hqo => keepK (by rw [heap_ne _ (by rintro rfl; rw [hx0] at hq; cases hq)]; exact hq) hqo hb', ?_⟩
 rcases newK hb' with g | g
 ·exact .inl ((heap_le_set hx0).none g)
 ·exact .inr g
theorem Fin.freezeT {Q : D → Heap → Prop} {cs cs' : List D} {x : D} {H : Heap} {b sz : Nat} {es : List (List D)} (hb : H b = some (.vec sz es)) (hl : cs.length = cs'.length)
  (hz : ∀ (i : Nat) d d', cs[i]? = some d → cs'[i]? = some d' → Fz b sz es d d') (h : Fin Q (.tuple [.agg cs', x]) (H.del b)) : Fin Q (.tuple [.agg cs, x]) H := by
 unfold Fin at h ⊢
 obtain ⟨H1, d1, h1, h2⟩ := h
 refine ⟨H1, d1, Shift.trans (fun w v hr hs => ?_) h1, h2⟩
 refine ⟨?_, hs.less (Heap.del_le H b), fun k hn => (Heap.del_le H b).held hn⟩
 cases hr with
 | tuple _ us hlu hru =>
  refine .tuple [.agg cs', x] us hlu (fun q d' hd' => ?_)
  match q with
  | 0 =>
   cases hd'
   have hr0 := hru 0 (.agg cs) rfl
   revert hr0
   generalize us.getD 0 undef = v0
   intro hr0
   cases hr0 with
   | agg _ vs hlv ho hr =>
    have key : ∀ (i : Nat) d', cs'[i]? = some d' → ∃ d, cs[i]? = some d ∧ Fz b sz es d d' := fun i d' hd' => by
     have hi := (List.getElem?_eq_some_iff.1 hd').1
     have hi' : i < cs.length := by omega
     exact ⟨cs[i], List.getElem?_eq_getElem hi', hz i _ _ (List.getElem?_eq_getElem hi') hd'⟩
    refine .agg cs' vs (by omega) (fun i d' hd' => ?_) (fun i d' hd' => ?_)
    ·obtain ⟨d, hd, hf⟩ := key i d' hd'
     exact hf.one (ho i d hd)
    ·obtain ⟨d, hd, hf⟩ := key i d' hd'
     exact hf.R hs hb (hr i d hd)
  | 1 => cases hd'; exact (hru 1 _ rfl).less (Heap.del_le H b)
  | q + 2 => cases hd'
theorem ACalls.freezeO {P : Program} {f b sz : Nat} {es : List (List D)} {args : List D} {H H' : Heap} {Q : D → Heap → Prop} (hb : H b = some (.vec sz es)) 
  (hH : ∀ k o', H' k = some o' → k ≠ b ∧ ∃ o, H k = some o ∧ OFz b sz es o o') (h : ACalls P f args H' Q) : ACalls P f args H Q := by
 refine ACalls.shift (fun w vs h1 h2 hs => ?_) h
 have hheld : ∀ k, H.held k = false → H'.held k = false := fun k hk => by
  cases ho : H' k with
  | none => exact held_none ho
  | some o' =>
   obtain ⟨_, o, h1, h2⟩ := hH k o' ho
   rw [held_of h1] at hk
   rw [held_of ho]
   cases h2 <;> exact hk
 have hR : ∀ {d d' : D} {v : Value}, Fz b sz es d d' → R w H d v → R w H' d' v := fun hf hr => (hf.R hs hb hr).mono (Ext.refl _ _) fun k _ hk => by
  by_cases hkb : k = b
  ·subst hkb
   cases ho : H' k with
   | none => exact held_none ho
   | some o' => exact absurd rfl (hH k o' ho).1
  ·refine hheld k ?_
   rw [← held_ne (H := H) (H' := H.del b) (k := k) (by unfold Heap.del; rw [if_neg hkb])]
   exact hk
 refine ⟨h1, fun i d hd => hR (.same d) (h2 i d hd), fun k o' ho => ?_, hheld⟩
 obtain ⟨_, o, h1, h2⟩ := hH k o' ho
 have hok := hs k o h1
 cases h2 with
 | same => exact hok.mono (Ext.refl H w) (fun k _ hk => hheld k hk) rfl
 | box cs cs' Z hl hf =>
  obtain ⟨c, T, lo, hi, k1, k2, k3, k4, k5⟩ := hok
  refine ⟨c, T, lo, hi, k1, k2, by omega, fun j d' hd' => ?_, k5⟩
  have hj := (List.getElem?_eq_some_iff.1 hd').1
  have hd : cs[j]? = some (cs[j]'(by omega)) := List.getElem?_eq_getElem _
  have hfz := hf j _ _ hd hd'
  exact ⟨hfz.one (k4 j _ hd).1, hR hfz (k4 j _ hd).2⟩
 | vec s xs xs' hl hf =>
  obtain ⟨c, T, lo, hi, k1, k2, k3, k4, k5, k6⟩ := hok
  refine ⟨c, T, lo, hi, k1, k2, k3, by rw [← hl]; exact k4, fun i x' hx' => ?_, fun i x' j d' hx' hd' => ?_⟩
  ·have hi' := (List.getElem?_eq_some_iff.1 hx').1
   have hx : xs[i]? = some (xs[i]'(by omega)) := List.getElem?_eq_getElem _
   rw [← (hf i _ _ hx hx').1]; exact k5 i _ hx
  ·have hi' := (List.getElem?_eq_some_iff.1 hx').1
   have hx : xs[i]? = some (xs[i]'(by omega)) := List.getElem?_eq_getElem _
   have hlen := (hf i _ _ hx hx').1
   have hj := (List.getElem?_eq_some_iff.1 hd').1
   have hd : (xs[i]'(by omega))[j]? = some ((xs[i]'(by omega))[j]'(by omega)) := List.getElem?_eq_getElem _
   have hfz := (hf i _ _ hx hx').2 j _ _ hd hd'
   exact ⟨hfz.one (k6 i _ j _ hx hd).1, hR hfz (k6 i _ j _ hx hd).2⟩
inductive NilR : D → D → Prop
 | same (d : D) : NilR d d
 | nil (z : Nat) : NilR .nilsl (.sl z [])
 | agg (cs cs' : List D) (hl : cs.length = cs'.length) (h : ∀ (i : Nat) d d', cs[i]? = some d → cs'[i]? = some d' → NilR d d') : NilR (.agg cs) (.agg cs')
 | tuple (cs cs' : List D) (hl : cs.length = cs'.length) (h : ∀ (i : Nat) d d', cs[i]? = some d → cs'[i]? = some d' → NilR d d') : NilR (.tuple cs) (.tuple cs')
 | sl (sz : Nat) (es es' : List (List D)) (hl : es.length = es'.length) (h1 : ∀ (i : Nat) (e e' : List D), es[i]? = some e → es'[i]? = some e' → e.length = e'.length)
   (h : ∀ (i : Nat) (e e' : List D) (j : Nat) (d d' : D), es[i]? = some e → es'[i]? = some e' → e[j]? = some d → e'[j]? = some d' → NilR d d') : NilR (.sl sz es) (.sl sz es')
theorem NilR.one {d d' : D} (h : NilR d d') (ho : d.one = true) : d'.one = true := by
 cases h with
 | same => exact ho
 | nil => rfl
 | agg => cases ho
 | tuple => cases ho
 | sl => rfl
theorem get_of_len {α β : Type} {l : List α} {m : List β} (hl : l.length = m.length) {i : Nat} {y : β} (h : m[i]? = some y) : ∃ x, l[i]? = some x := by
 have hi := (List.getElem?_eq_some_iff.1 h).1
 exact ⟨l[i]'(by omega), List.getElem?_eq_getElem _⟩
theorem NilR.R {d d' : D} (h : NilR d d') : ∀ {w : World} {H : Heap} {v : Value}, R w H d v → R w H d' v := by
 induction h with
 | same d => exact fun hr => hr
 | nil z => intro w H v hr; cases hr; exact .sl0 _ _ _
 | agg cs cs' hl h ih =>
  intro w H v hr
  cases hr with
  | agg _ vs hlv ho hr =>
   refine .agg cs' vs (by omega) (fun i d' hd' => ?_) (fun i d' hd' => ?_)
   ·obtain ⟨d, hd⟩ := get_of_len hl hd'
    exact (h i d d' hd hd').one (ho i d hd)
   ·obtain ⟨d, hd⟩ := get_of_len hl hd'
    exact ih i d d' hd hd' (hr i d hd)
 | tuple cs cs' hl h ih =>
  intro w H v hr
  cases hr with
  | tuple _ vs hlv hr =>
   refine .tuple cs' vs (by omega) (fun i d' hd' => ?_)
   obtain ⟨d, hd⟩ := get_of_len hl hd'
   exact ih i d d' hd hd' (hr i d hd)
 | sl sz es es' hl h1 h ih =>
  intro w H v hr
  cases hr with
  | sl0 _ a cap =>
   have : es' = [] := List.eq_nil_of_length_eq_zero (by simpa using hl.symm)
   subst this
   exact .sl0 _ _ _
  | sl _ _ b off cap u hb hn hlen hcap hc ho hr =>
   rw [hl]
   refine .sl sz es' b off cap u hb hn (fun i e' he' => ?_) (by omega) (fun i j hi hj => hc i j (by omega) hj) (fun i e' j d' he' hd' => ?_) (fun i e' j d' he' hd' => ?_)
   ·obtain ⟨e, he⟩ := get_of_len hl he'
    rw [← h1 i e e' he he']; exact hlen i e he
   ·obtain ⟨e, he⟩ := get_of_len hl he'
    obtain ⟨d, hd⟩ := get_of_len (h1 i e e' he he') hd'
    exact (h i e e' j d d' he he' hd hd').one (ho i e j d he hd)
   ·obtain ⟨e, he⟩ := get_of_len hl he'
    obtain ⟨d, hd⟩ := get_of_len (h1 i e e' he he') hd'
    exact ih i e e' j d d' he he' hd hd' (hr i e j d he hd)
theorem NilR.rw {α : Type} {f g : α → List D} (sz : Nat) (l : List α) (h1 : ∀ x ∈ l, (f x).length = (g x).length) (h : ∀ x ∈ l, ∀ (j : Nat) d d', (f x)[j]? = some d → (g x)[j]? = some d' → NilR d d') : NilR (.sl sz (Rw f l)) (.sl sz (Rw g l)) := by
 refine .sl sz _ _ (by simp [Rw]) (fun i e e' he he' => ?_) (fun i e e' j d d' he he' hd hd' => ?_)
 ·simp only [Rw, List.getElem?_map, Option.map_eq_some_iff] at he he'
  obtain ⟨x, hx, rfl⟩ := he
  obtain ⟨y, hy, rfl⟩ := he'
  rw [hx] at hy; cases hy
  exact h1 x (List.mem_of_getElem? hx)
 ·simp only [Rw, List.getElem?_map, Option.map_eq_some_iff] at he he'
  obtain ⟨x, hx, rfl⟩ := he
  obtain ⟨y, hy, rfl⟩ := he'
  rw [hx] at hy; cases hy
  exact h x (List.mem_of_getElem? hx) j d d' hd hd'
theorem Fin.nilR {Q : D → Heap → Prop} {d d' : D} {H : Heap} (hn : NilR d d') (h : Fin Q d' H) : Fin Q d H := by
 unfold Fin at h ⊢
 obtain ⟨H1, d1, h1, h2⟩ := h
 exact ⟨H1, d1, Shift.trans (fun w v hr hs => ⟨hn.R hr, hs, fun k hk => hk⟩) h1, h2⟩
theorem ACalls.nilR {P : Program} {f : Nat} {args args' : List D} {H : Heap} {Q : D → Heap → Prop} (hl : args.length = args'.length) (hn : ∀ (i : Nat) d d', args[i]? = some d → args'[i]? = some d' → NilR d d') (h : ACalls P f args' H Q) : ACalls P f args H Q :=
 ACalls.shift (args' := args') (fun w vs h1 h2 h3 => ⟨by omega, fun i d' hd' => by
  obtain ⟨d, hd⟩ := get_of_len hl hd'
  exact (hn i d d' hd hd').R (h2 i d hd), h3, fun _ hk => hk⟩) h
end Go.Av
end
section
set_option maxRecDepth 20000
namespace Go.Bis
open Go Go.Av Go.Lexs
def pickS (cl : Nat → Nat) (acc : List Nat) (i : Nat) : List Nat := if numI cl acc (cl i) < 0 then acc ++ [i] else acc
def picks (cl : Nat → Nat) (l : List Nat) : List Nat := l.foldl (pickS cl) []
theorem picks_succ (cl : Nat → Nat) (l : List Nat) (k : Nat) (h : k < l.length) : picks cl (l.take (k + 1)) = pickS cl (picks cl (l.take k)) l[k] := by
 unfold picks; rw [List.take_succ_eq_append_getElem h, List.foldl_append]; rfl
theorem picks_len (cl : Nat → Nat) (l : List Nat) : ∀ k, (picks cl (l.take k)).length ≤ k
 | 0 => by simp [picks]
 | k + 1 => by
  have ih := picks_len cl l k
  by_cases h : k < l.length
  ·rw [picks_succ cl l k h, pickS]; split
   ·rw [List.length_append, List.length_singleton]; omega
   ·omega
  ·rw [List.take_of_length_le (by omega)]; rw [List.take_of_length_le (by omega)] at ih; omega
theorem picks_reps (s : Sy) : ∀ k, picks (clN s) ((List.range k).filter (reS s)) = repsTo s k
 | 0 => by rw [repsTo]; rfl
 | k + 1 => by
  have ih := picks_reps s k
  rw [List.range_succ, List.filter_append, repsTo]
  unfold picks at ih ⊢
  rw [List.foldl_append, ih]
  cases hr : reS s k with
  | false => simp [hr]
  | true => simp [hr, pickS]
theorem toN_re (s : Sy) : toN s 0 = (List.range s.seen.length).filter (reS s) := by
 unfold toN rowL
 refine List.filter_congr fun k hk => ?_
 rw [Bool.eq_iff_iff, reS_iff (List.mem_range.1 hk)]
 exact @decide_eq_true_iff _ (Classical.propDecidable _)
theorem picks_all (s : Sy) : picks (clN s) (toN s 0) = repsS s := by rw [toN_re]; exact picks_reps s _
def kvC (cl : Nat → Nat) : Nat → List Nat → List (D × D)
 | _, [] => []
 | k, r :: F => (.int .i64 (cl r : Nat), .int .i64 k) :: kvC cl (k + 1) F
theorem kvC_snoc (cl : Nat → Nat) : ∀ (k : Nat) (F : List Nat) (r : Nat), kvC cl k (F ++ [r]) = kvC cl k F ++ [(.int .i64 (cl r : Nat), .int .i64 (k + F.length : Nat))]
 | k, [], r => by simp [kvC]
 | k, a :: F, r => by simp [kvC, kvC_snoc cl (k + 1) F r]; omega
theorem find_kvC (cl : Nat → Nat) : ∀ (F : List Nat) (x k i : Nat), findD (.one .int) (.int .i64 x) (kvC cl k F) i = some ((F.findIdx? (fun r => cl r == x)).map fun m => (i + m, .int .i64 (k + m : Nat)))
 | [], x, k, i => rfl
 | a :: F, x, k, i => by
  rw [kvC, findD, keyEq, cellEq, if_pos rfl, Option.bind_some, List.findIdx?_cons]
  by_cases h : x = cl a
  ·have hb : ((x : Int) == ((cl a : Nat) : Int)) = true := by rw [h]; exact beq_self_eq_true _
   rw [if_pos hb]
   have hb2 : (cl a == x) = true := by rw [h]; exact beq_self_eq_true _
   rw [hb2]; simp
  ·have hb : ((x : Int) == ((cl a : Nat) : Int)) = false := by rw [beq_eq_false_iff_ne]; omega
   rw [if_neg (by rw [hb]; simp)]
   have hb2 : (cl a == x) = false := by rw [beq_eq_false_iff_ne]; omega
   rw [hb2, if_neg (by simp), find_kvC cl F x (k + 1) (i + 1), Option.map_map]
   congr 1
   refine congrFun (congrArg Option.map ?_) _
   funext m
   simp only [Function.comp]
   rw [show i + 1 + m = i + (m + 1) by omega, show k + 1 + m = k + (m + 1) by omega]
theorem find_new {cl : Nat → Nat} {F : List Nat} {x : Nat} (h : numI cl F x < 0) : findD (.one .int) (.int .i64 x) (kvC cl 0 F) 0 = some none := by
 rw [find_kvC]
 unfold numI at h
 cases hf : F.findIdx? (fun r => cl r == x) with
 | none => rfl
 | some j => rw [hf] at h; simp only [] at h; omega
theorem find_old {cl : Nat → Nat} {F : List Nat} {x : Nat} (h : ¬ numI cl F x < 0) : ∃ m : Nat, m < F.length ∧ findD (.one .int) (.int .i64 x) (kvC cl 0 F) 0 = some (some (m, .int .i64 (numI cl F x))) := by
 rw [find_kvC]
 unfold numI at h ⊢
 cases hf : F.findIdx? (fun r => cl r == x) with
 | none => rw [hf] at h; simp only [] at h; omega
 | some j => exact ⟨j, (List.findIdx?_eq_some_iff_getElem.1 hf).1, by simp⟩
theorem outAt_ne {H : Heap} {sz q : Nat} {es : List (List D)} {ob : Option Nat} {o : Av.Obj} (h : OutAt H sz es ob) (hq : H q = some o) (hne : ∀ es', o ≠ .vec sz es') : ob ≠ some q := fun e => by
 subst e
 have h2 : H q = some (.vec sz es) := h
 rw [hq] at h2
 exact hne es (Option.some.inj h2)
theorem outAt_keep {H H' : Heap} {sz : Nat} {es : List (List D)} {ob : Option Nat} (h : OutAt H sz es ob) (hk : ∀ q o, H q = some o → ob = some q → H' q = some o) : OutAt H' sz es ob := by
 cases ob with
 | none => exact h
 | some c => exact hk c _ h rfl
noncomputable def pkN (s : Sy) (k : Nat) : List Nat := picks (clN s) ((toN s 0).take k)
noncomputable def pkS (s : Sy) (k : Nat) : List Tm := (pkN s k).map fun r => s.seen.getD r default
noncomputable def pkF (s : Sy) (k : Nat) : List Bool := (pkN s k).map fun r => s.final.getD r false
theorem pkN_new {s : Sy} {k : Nat} (h : k < (toN s 0).length) (hn : numI (clN s) (pkN s k) (clN s (toN s 0)[k]) < 0) : pkN s (k + 1) = pkN s k ++ [(toN s 0)[k]] := by
 unfold pkN at hn ⊢; rw [picks_succ _ _ _ h, pickS, if_pos hn]
theorem pkN_old {s : Sy} {k : Nat} (h : k < (toN s 0).length) (hn : ¬ numI (clN s) (pkN s k) (clN s (toN s 0)[k]) < 0) : pkN s (k + 1) = pkN s k := by
 unfold pkN at hn ⊢; rw [picks_succ _ _ _ h, pickS, if_neg hn]
theorem pkN_all {s : Sy} {k : Nat} (h : (toN s 0).length ≤ k) : pkN s k = repsS s := by
 unfold pkN; rw [List.take_of_length_le h]; exact picks_all s
theorem pkN_len (s : Sy) (k : Nat) : (pkN s k).length ≤ k := picks_len _ _ _
structure SmI (s : Sy) (Bs : Heap) (b7 b8 k : Nat) (oT oF oN : Option Nat) (Hs : Heap) : Prop where
 kl : k ≤ (toN s 0).length
 box : Hs b7 = some (.box [outG 6 (pkN s k).length oT, outG 1 (pkN s k).length oF, outG 1 (pkN s k).length oN])
 map : Hs b8 = some (.map (kvC (clN s) 0 (pkN s k)))
 tT : OutAt Hs 6 (Rw tmC (pkS s k)) oT
 tF : OutAt Hs 1 (Rw boolC (pkF s k)) oF
 tN : OutAt Hs 1 (List.replicate (pkN s k).length [.nilsl]) oN
 keep : ∀ q o, Bs q = some o → Hs q = some o
 nT : ∀ c, oT = some c → Bs c = none
 nF : ∀ c, oF = some c → Bs c = none
 nN : ∀ c, oN = some c → Bs c = none
 aFN : ∀ c, oF = some c → oN ≠ some c
structure Rr where
 fz : Bool
 ob : Option Nat
 l : List Int
def rrC (r : Rr) : List D := if r.fz then [.sl 1 (Rw intC r.l)] else [outG 1 r.l.length r.ob]
theorem rrC_o {r : Rr} (h : r.fz = false) : rrC r = [outG 1 r.l.length r.ob] := by unfold rrC; rw [h]; rfl
theorem rr_ne_int {L : List Rr} {l : List Int} (h : 0 < L.length) : Rw rrC L ≠ Rw intC l := by
 cases L with
 | nil => simp at h
 | cons r L =>
  cases l with
  | nil => simp [Rw]
  | cons x l =>
   intro e
   have h1 : rrC r = intC x := (List.cons.inj e).1
   unfold rrC intC at h1
   split at h1
   ·cases h1
   ·cases hob : r.ob <;> rw [hob] at h1 <;> cases h1
structure RrAt (Bs H : Heap) (c : Nat) (L : List Rr) : Prop where
 row : H c = some (.vec 1 (Rw rrC L))
 blk : ∀ (k : Nat) (h : k < L.length), L[k].fz = false → OutAt H 1 (Rw intC L[k].l) L[k].ob
 inj : ∀ (j k : Nat) (hj : j < L.length) (hk : k < L.length) (b : Nat), L[j].fz = false → L[k].fz = false → L[j].ob = some b → L[k].ob = some b → j = k
 new : ∀ (k : Nat) (h : k < L.length) (b : Nat), L[k].fz = false → L[k].ob = some b → Bs b = none ∧ b ≠ c
theorem RrAt.turn {Bs H H' : Heap} {c k : Nat} {L : List Rr} {ob' : Option Nat} {l' : List Int} (h : RrAt Bs H c L) (hk : k < L.length) (hf : L[k].fz = false)
  (hrow : H' c = some (.vec 1 ((Rw rrC L).set k [outG 1 l'.length ob']))) (hout : OutAt H' 1 (Rw intC l') ob') (hnew : ∀ b, ob' = some b → (H b = none ∨ L[k].ob = some b) ∧ Bs b = none ∧ b ≠ c)
  (hkeep : ∀ q o, Bs q = none → q ≠ c → H q = some o → L[k].ob ≠ some q → H' q = some o) : RrAt Bs H' c (L.set k ⟨false, ob', l'⟩) := by
 have get : ∀ (j : Nat) (hj : j < (L.set k ⟨false, ob', l'⟩).length), (j = k ∧ (L.set k ⟨false, ob', l'⟩)[j] = ⟨false, ob', l'⟩) ∨ (j ≠ k ∧ ∃ hj' : j < L.length, (L.set k ⟨false, ob', l'⟩)[j] = L[j]) := fun j hj => by
  by_cases e : k = j
  ·subst e; exact .inl ⟨rfl, List.getElem_set_self _⟩
  ·exact .inr ⟨fun g => e g.symm, by simpa using hj, List.getElem_set_ne e _⟩
 have apart : ∀ (j : Nat) (hj : j < L.length) (b : Nat), j ≠ k → L[j].fz = false → L[j].ob = some b → ob' ≠ some b := fun j hj b hne hfj hb e => by
  obtain ⟨h1, _, _⟩ := hnew b e
  have hb1 := h.blk j hj hfj
  rw [hb] at hb1
  rcases h1 with h1 | h1
  ·have hb2 : H b = some (.vec 1 (Rw intC L[j].l)) := hb1
   rw [h1] at hb2; cases hb2
  ·exact hne (h.inj j k hj hk b hfj hf hb h1)
 refine ⟨by rw [hrow]; congr 2; simp [Rw, List.map_set, rrC], fun j hj hfj => ?_, fun i j hi hj b fi fj bi bj => ?_, fun j hj b fj bj => ?_⟩
 ·rcases get j hj with ⟨_, e⟩ | ⟨hne, hj', e⟩
  ·rw [e]; exact hout
  ·rw [e] at hfj ⊢
   have hb1 := h.blk j hj' hfj
   cases hb : L[j].ob with
   | none => rw [hb] at hb1; exact hb1
   | some b =>
    rw [hb] at hb1
    obtain ⟨n1, n2⟩ := h.new j hj' b hfj hb
    exact hkeep b _ n1 n2 hb1 (fun g => hne (h.inj j k hj' hk b hfj hf hb g))
 ·rcases get i hi with ⟨e1, e2⟩ | ⟨e1, hi', e2⟩ <;> rcases get j hj with ⟨g1, g2⟩ | ⟨g1, hj', g2⟩
  ·omega
  ·rw [e2] at bi; rw [g2] at bj fj; exact absurd bi (apart j hj' b g1 fj bj)
  ·rw [e2] at bi fi; rw [g2] at bj; exact absurd bj (apart i hi' b e1 fi bi)
  ·rw [e2] at bi fi; rw [g2] at bj fj; exact h.inj i j hi' hj' b fi fj bi bj
 ·rcases get j hj with ⟨_, e⟩ | ⟨hne, hj', e⟩
  ·rw [e] at bj; exact (hnew b bj).2
  ·rw [e] at bj fj; exact h.new j hj' b fj bj
theorem RrAt.freeze {Bs H H' : Heap} {c k : Nat} {L : List Rr} {l' : List Int} (h : RrAt Bs H c L) (hk : k < L.length) (hf : L[k].fz = false)
  (hrow : H' c = some (.vec 1 ((Rw rrC L).set k [.sl 1 (Rw intC l')])))
  (hkeep : ∀ q o, Bs q = none → q ≠ c → H q = some o → L[k].ob ≠ some q → H' q = some o) : RrAt Bs H' c (L.set k ⟨true, none, l'⟩) := by
 have get : ∀ (j : Nat) (hj : j < (L.set k ⟨true, none, l'⟩).length), (j = k ∧ (L.set k ⟨true, none, l'⟩)[j] = ⟨true, none, l'⟩) ∨ (j ≠ k ∧ ∃ hj' : j < L.length, (L.set k ⟨true, none, l'⟩)[j] = L[j]) := fun j hj => by
  by_cases e : k = j
  ·subst e; exact .inl ⟨rfl, List.getElem_set_self _⟩
  ·exact .inr ⟨fun g => e g.symm, by simpa using hj, List.getElem_set_ne e _⟩
 refine ⟨by rw [hrow]; congr 2; simp [Rw, List.map_set, rrC], fun j hj hfj => ?_, fun i j hi hj b fi fj bi bj => ?_, fun j hj b fj bj => ?_⟩
 ·rcases get j hj with ⟨_, e⟩ | ⟨hne, hj', e⟩
  ·rw [e] at hfj; cases hfj
  ·rw [e] at hfj ⊢
   have hb1 := h.blk j hj' hfj
   cases hb : L[j].ob with
   | none => rw [hb] at hb1; exact hb1
   | some b =>
    rw [hb] at hb1
    obtain ⟨n1, n2⟩ := h.new j hj' b hfj hb
    exact hkeep b _ n1 n2 hb1 (fun g => hne (h.inj j k hj' hk b hfj hf hb g))
 ·rcases get i hi with ⟨e1, e2⟩ | ⟨e1, hi', e2⟩
  ·rw [e2] at fi; cases fi
  ·rcases get j hj with ⟨g1, g2⟩ | ⟨g1, hj', g2⟩
   ·rw [g2] at fj; cases fj
   ·rw [e2] at bi fi; rw [g2] at bj fj; exact h.inj i j hi' hj' b fi fj bi bj
 ·rcases get j hj with ⟨_, e⟩ | ⟨hne, hj', e⟩
  ·rw [e] at fj; cases fj
  ·rw [e] at bj fj; exact h.new j hj' b fj bj
noncomputable def wTo (s : Sy) (j : Nat) : List (Nat × Nat) := ((toN s 0).take j).flatMap fun i => (nxS s i).map fun k => (i, k)
theorem wTo_succ (s : Sy) (j : Nat) (h : j < (toN s 0).length) : wTo s (j + 1) = wTo s j ++ (nxS s (toN s 0)[j]).map fun k => ((toN s 0)[j], k) := by
 unfold wTo; rw [List.take_succ_eq_append_getElem h, List.flatMap_append]; simp
structure SmJ (s : Sy) (Bz : Heap) (cN : Nat) (W : List (Nat × Nat)) (bd : Nat) (L : List Rr) (Hs : Heap) : Prop where
 len : L.length = (repsS s).length
 opn : ∀ (c : Nat) (h : c < L.length), L[c].fz = false
 rr : RrAt Bz Hs cN L
 keep : ∀ q o, Bz q = some o → Hs q = some o
 pos : ∀ (c : Nat) (h : c < L.length), L[c].ob ≠ none → L[c].l ≠ []
 mem : ∀ (c : Nat) (h : c < L.length) (x : Int), x ∈ L[c].l ↔ ∃ p ∈ W, numS' s p.1 = (c : Int) ∧ numS' s p.2 = x ∧ x ≠ (c : Int)
 bnd : ∀ (c : Nat) (h : c < L.length), L[c].l.length ≤ bd
theorem SmJ.more {s : Sy} {Bz : Heap} {cN : Nat} {W : List (Nat × Nat)} {bd bd' : Nat} {L : List Rr} {Hs : Heap} (h : SmJ s Bz cN W bd L Hs) (hb : bd ≤ bd') : SmJ s Bz cN W bd' L Hs :=
 ⟨h.len, h.opn, h.rr, h.keep, h.pos, h.mem, fun c hc => Nat.le_trans (h.bnd c hc) hb⟩
theorem SmJ.skip {s : Sy} {Bz : Heap} {cN : Nat} {W : List (Nat × Nat)} {bd i k : Nat} {L : List Rr} {Hs : Heap} (h : SmJ s Bz cN W bd L Hs) (he : numS' s k = numS' s i) : SmJ s Bz cN (W ++ [(i, k)]) bd L Hs :=
 ⟨h.len, h.opn, h.rr, h.keep, h.pos, fun c hc x => by
  rw [h.mem c hc x]
  constructor
  ·rintro ⟨p, hp, g⟩; exact ⟨p, List.mem_append_left _ hp, g⟩
  ·rintro ⟨p, hp, g⟩
   rcases List.mem_append.1 hp with hp | hp
   ·exact ⟨p, hp, g⟩
   ·simp only [List.mem_singleton] at hp
    subst hp
    exact absurd (g.2.1.symm.trans (he.trans g.1)) g.2.2, h.bnd⟩
theorem SmJ.app {s : Sy} {Bz : Heap} {cN : Nat} {W : List (Nat × Nat)} {bd i k c e b' : Nat} {L : List Rr} {Hs H' : Heap} (h : SmJ s Bz cN W bd L Hs) (hc : c < L.length) (hi : numS' s i = (c : Int)) (hk : numS' s k = (e : Int)) (hne : e ≠ c) (hzc : Bz cN = none)
  (hA : Apd Hs 1 L[c].ob (Rw intC (L[c].l ++ [(e : Int)])) b' H') : SmJ s Bz cN (W ++ [(i, k)]) (bd + 1) (L.set c ⟨false, some b', L[c].l ++ [(e : Int)]⟩) (H'.set cN (.vec 1 ((Rw rrC L).set c [.vec b' 1 0 (L[c].l.length + 1)]))) := by
 obtain ⟨a1, a2, a3⟩ := hA
 have hopn := h.opn c hc
 have hob : ∀ b, L[c].ob = some b → Bz b = none ∧ b ≠ cN := fun b e => h.rr.new c hc b hopn e
 have hbN : b' ≠ cN := by
  rcases a3 with g | g
  ·intro e; rw [e, h.rr.row] at g; cases g
  ·exact (hob b' g).2
 have hbz : Bz b' = none := by
  rcases a3 with g | g
  ·cases hb : Bz b' with
   | none => rfl
   | some o => rw [h.keep _ _ hb] at g; cases g
  ·exact (hob b' g).1
 have get : ∀ (j : Nat) (hj : j < (L.set c ⟨false, some b', L[c].l ++ [(e : Int)]⟩).length), (j = c ∧ (L.set c ⟨false, some b', L[c].l ++ [(e : Int)]⟩)[j] = ⟨false, some b', L[c].l ++ [(e : Int)]⟩) ∨ (j ≠ c ∧ ∃ hj' : j < L.length, (L.set c ⟨false, some b', L[c].l ++ [(e : Int)]⟩)[j] = L[j]) := fun j hj => by
  by_cases e : c = j
  ·subst e; exact .inl ⟨rfl, List.getElem_set_self _⟩
  ·exact .inr ⟨fun g => e g.symm, by simpa using hj, List.getElem_set_ne e _⟩
 refine ⟨by rw [List.length_set]; exact h.len, fun j hj => ?_, ?_, fun q o hq => ?_, fun j hj g => ?_, fun j hj x => ?_, fun j hj => ?_⟩
 ·rcases get j hj with ⟨_, e⟩ | ⟨_, hj', e⟩
  ·rw [e]
  ·rw [e]; exact h.opn j hj'
 ·refine h.rr.turn hc hopn ?_ ?_ (fun b hb => ?_) (fun q o h1 h2 h3 h4 => ?_)
  ·rw [heap_same]; simp [outG]
  ·show Heap.set _ cN _ b' = _
   rw [heap_ne _ hbN, a1]
  ·cases hb; exact ⟨a3, hbz, hbN⟩
  ·rw [heap_ne _ h2]; exact a2 q o h3 h4
 ·have hqN : q ≠ cN := fun g => by rw [g, hzc] at hq; cases hq
  rw [heap_ne _ hqN]
  exact a2 q o (h.keep q o hq) (fun g => by have := (hob q g).1; rw [hq] at this; cases this)
 ·rcases get j hj with ⟨_, e⟩ | ⟨_, hj', e⟩
  ·rw [e]; simp
  ·rw [e] at g ⊢; exact h.pos j hj' g
 ·rcases get j hj with ⟨e1, e⟩ | ⟨e1, hj', e⟩
  ·subst e1
   rw [e]
   simp only [List.mem_append, List.mem_singleton]
   rw [h.mem j hc x]
   constructor
   ·rintro (⟨p, hp, g⟩ | rfl)
    ·exact ⟨p, .inl hp, g⟩
    ·exact ⟨(i, k), .inr rfl, hi, hk, by omega⟩
   ·rintro ⟨p, hp | rfl, g⟩
    ·exact .inl ⟨p, hp, g⟩
    ·exact .inr (g.2.1.symm.trans hk)
  ·rw [e, h.mem j hj' x]
   constructor
   ·rintro ⟨p, hp, g⟩; exact ⟨p, List.mem_append_left _ hp, g⟩
   ·rintro ⟨p, hp, g⟩
    rcases List.mem_append.1 hp with hp | hp
    ·exact ⟨p, hp, g⟩
    ·simp only [List.mem_singleton] at hp
     subst hp
     have := g.1.symm.trans hi
     omega
 ·rcases get j hj with ⟨_, e⟩ | ⟨_, hj', e⟩
  ·rw [e]; simp only [List.length_append, List.length_singleton]; have := h.bnd c hc; omega
  ·rw [e]; have := h.bnd j hj'; omega
theorem lst_of {s : Sy} (ho : SyOk s) {c : Nat} {l : List Int} (h : ∀ x : Int, x ∈ l ↔ ∃ p ∈ wTo s (toN s 0).length, numS' s p.1 = (c : Int) ∧ numS' s p.2 = x ∧ x ≠ (c : Int)) : riseZ l = lstS s c (repsS s).length := by
 refine strict_ext (riseZ_strict l).1 ?_ fun x => ?_
 ·unfold lstS
  rw [List.pairwise_map]
  exact (List.pairwise_lt_range.filter _).imp fun h => by omega
 ·rw [(riseZ_strict l).2, h x]
  unfold lstS wTo
  rw [List.take_length]
  simp only [List.mem_flatMap, List.mem_map, List.mem_filter, List.mem_range, Bool.and_eq_true, bne_iff_ne, step_iff]
  constructor
  ·rintro ⟨p, ⟨i, hi, k, hk, rfl⟩, h1, h2, h3⟩
   have hin := toN_mem hi
   rw [toN_re] at hi
   have hre := (List.mem_filter.1 hi).2
   have hkn := nxS_lt ho i hin k hk
   have hkr : reS s k = true := (reS_iff hkn).2 (.step ((reS_iff hin).1 hre) hk)
   obtain ⟨f, hf, hf2⟩ := num_nat hkn hkr
   simp only at h1 h2
   exact ⟨f, ⟨hf, ⟨i, hin, hre, h1, k, hk, hf2⟩, by omega⟩, by omega⟩
  ·rintro ⟨f, ⟨hf, ⟨i, hin, hre, h1, k, hk, hf2⟩, hne⟩, rfl⟩
   exact ⟨(i, k), ⟨i, by rw [toN_re]; exact List.mem_filter.2 ⟨List.mem_range.2 hin, hre⟩, k, hk, rfl⟩, h1, hf2, by omega⟩
structure SmK (s : Sy) (Bz : Heap) (cN c bd : Nat) (L : List Rr) (Hs : Heap) : Prop where
 len : L.length = (repsS s).length
 cl : c ≤ L.length
 rr : RrAt Bz Hs cN L
 keep : ∀ q o, Bz q = some o → Hs q = some o
 fr : ∀ (k : Nat) (h : k < L.length), k < c → L[k].fz = true ∧ L[k].l = lstS s k (repsS s).length
 op : ∀ (k : Nat) (h : k < L.length), c ≤ k → L[k].fz = false ∧ (L[k].ob ≠ none → L[k].l ≠ []) ∧ (∀ x : Int, x ∈ L[k].l ↔ ∃ p ∈ wTo s (toN s 0).length, numS' s p.1 = (k : Int) ∧ numS' s p.2 = x ∧ x ≠ (k : Int)) ∧ L[k].l.length ≤ bd
theorem SmJ.toK {s : Sy} {Bz : Heap} {cN bd : Nat} {L : List Rr} {Hs : Heap} (h : SmJ s Bz cN (wTo s (toN s 0).length) bd L Hs) : SmK s Bz cN 0 bd L Hs :=
 ⟨h.len, Nat.zero_le _, h.rr, h.keep, fun k _ g => absurd g (Nat.not_lt_zero _), fun k hk _ => ⟨h.opn k hk, h.pos k hk, h.mem k hk, h.bnd k hk⟩⟩
theorem SmK.step {s : Sy} (ho : SyOk s) {Bz : Heap} {cN c bd : Nat} {L : List Rr} {Hs H' : Heap} (h : SmK s Bz cN c bd L Hs) (hc : c < L.length)
  (hrow : H' cN = some (.vec 1 ((Rw rrC L).set c [.sl 1 (Rw intC (riseZ L[c].l))]))) (hzc : Bz cN = none)
  (hkeep : ∀ q o, q ≠ cN → Hs q = some o → L[c].ob ≠ some q → H' q = some o) : SmK s Bz cN (c + 1) bd (L.set c ⟨true, none, riseZ L[c].l⟩) H' := by
 obtain ⟨o1, o2, o3, o4⟩ := h.op c hc (Nat.le_refl _)
 refine ⟨by rw [List.length_set]; exact h.len, by rw [List.length_set]; omega, h.rr.freeze hc o1 hrow (fun q o _ h2 h3 h4 => hkeep q o h2 h3 h4), fun q o hq => ?_, fun k hk g => ?_, fun k hk g => ?_⟩
 ·exact hkeep q o (fun e => by rw [e, hzc] at hq; cases hq) (h.keep q o hq) (fun e => by have := (h.rr.new c hc q o1 e).1; rw [hq] at this; cases this)
 ·rw [List.length_set] at hk
  by_cases e : c = k
  ·subst e
   rw [List.getElem_set_self]
   exact ⟨rfl, lst_of ho o3⟩
  ·rw [List.getElem_set_ne e]
   exact h.fr k hk (by omega)
 ·rw [List.length_set] at hk
  rw [List.getElem_set_ne (by omega)]
  exact h.op k hk (by omega)
theorem SmK.all {s : Sy} {Bz : Heap} {cN c bd : Nat} {L : List Rr} {Hs : Heap} (h : SmK s Bz cN c bd L Hs) (hc : L.length ≤ c) : Rw rrC L = Rw intsC (smallS s).next := by
 have hl := (small_len s).2.2
 unfold Rw
 refine List.ext_getElem (by rw [List.length_map, List.length_map, h.len, hl]) fun k h1 h2 => ?_
 rw [List.length_map] at h1
 rw [List.getElem_map, List.getElem_map]
 obtain ⟨f1, f2⟩ := h.fr k h1 (by omega)
 have hk : k < (repsTo s s.seen.length).length := by have := h.len; have e : (repsS s).length = (repsTo s s.seen.length).length := rfl; omega
 have hn := small_next s k hk
 rw [hn]
 unfold rrC intsC
 rw [f1, f2]; rfl
end Go.Bis
end
section
set_option maxRecDepth 20000
namespace Go.Proofs.YtmohcdihdhggoaaGreatDoor
open Go Go.Av Go.Lexs Go.Bis
attribute [local irreducible] ACalls at8
noncomputable def satR (s : Sy) (i : Int) (m : Mo) : D :=
 if validY s && validM m then (if 0 ≤ i ∧ i < s.seen.length then .tuple [.bool (satM s (toN s) m i.toNat), .int .i64 0] else .tuple [.bool false, .int .i64 20]) else .tuple [.bool false, .int .i64 2]
end Go.Proofs.YtmohcdihdhggoaaGreatDoor
end
