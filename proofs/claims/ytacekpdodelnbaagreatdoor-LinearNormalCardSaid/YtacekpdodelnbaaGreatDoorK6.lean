/- Part of the proof: what the last text builds on. No condition stands here. -/
import Derived.Test.YtacekpdodelnbaaGreatDoorProg
import Derived.Test.YtacekpdodelnbaaGreatDoorRows
import Derived.Test.YtacekpdodelnbaaGreatDoorK5
set_option linter.unusedSimpArgs false
set_option linter.unusedVariables false
section
set_option maxRecDepth 20000
namespace Go.Lin
open Go Go.Av Go.Lexs
def parseO (l : List UInt8) : LinV × Int := match parseL l with
 | none => (nilL, 30)
 | some a => (a, 0)
theorem wrap_i64 (n : Int) : i64 (IntKind.i64.wrap n) := by
 unfold i64; rw [IntKind.wrap_i64]; omega
theorem bodyP_len (x : List UInt8) : (bodyP x).2.length ≤ x.length := by
 have h : (Lib.trimPrefix x [43]).length ≤ x.length := by
  unfold Lib.trimPrefix; split
  ·rw [List.length_drop]; omega
  ·exact Nat.le_refl _
 unfold bodyP; simp only []
 split
 ·simp only [List.length_drop]; omega
 ·exact h
theorem piece_le {x n : List UInt8} {v : Int} (h : pieceP x = some (n, v)) : n.length ≤ x.length ∧ i64 v := by
 unfold pieceP at h
 cases hs : splitP (bodyP x).2 with
 | none => rw [hs] at h; cases h
 | some p =>
  obtain ⟨c, m⟩ := p
  rw [hs] at h
  simp only [] at h
  split at h
  ·injection h with h
   have h1 : m = n := congrArg Prod.fst h
   have h2 : IntKind.i64.wrap _ = v := congrArg Prod.snd h
   refine ⟨?_, by rw [← h2]; exact wrap_i64 _⟩
   have hl := bodyP_len x
   rw [← h1]
   rcases split_some hs with hc | ⟨_, h0, ⟨_, _, rfl⟩ | ⟨_, _, rfl⟩⟩
   ·obtain ⟨_, c2, _, c4⟩ := cutS_yes hc
    rw [← c4, List.length_drop]; omega
   ·simp
   ·exact hl
  ·cases h
theorem addP_k (a : LinV) {n : List UInt8} (v : Int) (h : n = []) : addP a (n, v) = { a with k := v } := by unfold addP; rw [if_pos h]
theorem addP_t (a : LinV) {n : List UInt8} (v : Int) (h : n ≠ []) : addP a (n, v) = { a with t := a.t ++ [⟨S n, v⟩] } := by unfold addP; rw [if_neg h]
theorem trimS_len (l m : List UInt8) : (Lib.trimSuffix l m).length ≤ l.length := by
 unfold Lib.trimSuffix; split
 ·rw [List.length_take]; omega
 ·exact Nat.le_refl _
def restP (a : LinV) (l : List UInt8) : Option LinV := ((pieces l).mapM pieceP).map (addAll a)
theorem restP_nil (a : LinV) : restP a [] = some a := by unfold restP; rw [pieces_nil]; rfl
theorem restP_none (a : LinV) (x : UInt8) (r : List UInt8) (h : pieceP (x :: r.takeWhile (!sgn ·)) = none) : restP a (x :: r) = none := by
 unfold restP; rw [pieces_cons, List.mapM_cons, h]; rfl
theorem restP_some (a : LinV) (x : UInt8) (r : List UInt8) {p} (h : pieceP (x :: r.takeWhile (!sgn ·)) = some p) : restP a (x :: r) = restP (addP a p) (r.dropWhile (!sgn ·)) := by
 unfold restP; rw [pieces_cons, List.mapM_cons, h]
 show Option.map _ ((List.mapM pieceP _).bind _) = _
 cases List.mapM pieceP (pieces (r.dropWhile (!sgn ·))) <;> rfl
theorem tw_len (l : List UInt8) (p : UInt8 → Bool) : (l.takeWhile p).length + (l.dropWhile p).length = l.length := by
 rw [← List.length_append, List.takeWhile_append_dropWhile]
end Go.Lin
namespace Go.Proofs.YtacekpdodelnbaaGreatDoor
open Go Go.Av Go.Lexs Go.Lin
attribute [local irreducible] ACalls at8
theorem Tabs.ro {H : Heap} (h : Tabs H) : Tabs (roH H) := ⟨roH_at h.pow, let ⟨t, e⟩ := h.syn; ⟨t, roH_at e⟩, let ⟨t, e⟩ := h.rng; ⟨t, roH_at e⟩⟩
set_option maxHeartbeats 4000000 in
theorem parse_a {Q} (s : ByteArray) (hs : s.size ≤ 1000000000) (H : Heap) (hT : Tabs H) (h : Q (.tuple [.agg (linC (parseO (B s)).1), .int .i64 (parseO (B s)).2]) H) : ACalls Tryz.prog 32 [.str s] H Q := by
 refine acalls_of_wp [] Tryz.mixed Tryz.func32 rfl (by kernel_rfl) (of_decide_eq_true (by kernel_rfl)) (by kernel_rfl) ?_
 simp only [go_sem,seval, Tryz.results32]
 have hl := B_len s
 intro b2 g2
 have e2 : (H.set b2 (.box [.nilsl, .int .i64 0, .bool false])) b2 = some (.box [.nilsl, .int .i64 0, .bool false]) := heap_same _ _
 have hle : H.Le (H.set b2 (.box [.nilsl, .int .i64 0, .bool false])) := heap_le_set g2
 generalize H.set b2 (.box [.nilsl, .int .i64 0, .bool false]) = Bs at e2 hle ⊢
 have hTb := hT.le hle
 obtain ⟨b, hb⟩ : ∃ b, b = Lib.trimSuffix (B s) [61, 48] := ⟨_, rfl⟩
 have hbl : b.length ≤ s.size := by rw [hb, ← hl]; exact trimS_len _ _
 obtain ⟨eq, heq⟩ : ∃ eq, eq = Lib.hasSuffix (B s) [61, 48] := ⟨_, rfl⟩
 have cc : ∀ (H : Heap) (Q : D → Heap → Prop), Q (.tuple [.str (S b), .bool eq]) H → ACalls Tryz.prog 75 [.str s, .str ⟨#[61, 48]⟩] H Q := fun H Q hq => cutSuffix_a s _ (by omega) H (by rw [hb, heq] at hq; exact hq)
 obtain ⟨c, hc⟩ : ∃ c, c = Lib.trimSuffix b [62] := ⟨_, rfl⟩
 have hcl : c.length ≤ s.size := by have := trimS_len b [62]; rw [hc]; omega
 obtain ⟨gt, hgt⟩ : ∃ gt, gt = Lib.hasSuffix b [62] := ⟨_, rfl⟩
 have sb := S_size b
 have tc : ∀ (H : Heap) (Q : D → Heap → Prop), Q (.str (S c)) H → ACalls Tryz.prog 76 [.str (S b), .str ⟨#[62]⟩] H Q := fun H Q hq => trimSuffix_a _ _ (by omega) H (by rw [hc] at hq; rw [B_S]; exact hq)
 have gc : ∀ (H : Heap) (Q : D → Heap → Prop), Q (.bool gt) H → ACalls Tryz.prog 77 [.str (S b), .str ⟨#[62]⟩] H Q := fun H Q hq => hasSuffix_a _ _ (by omega) H (by rw [hgt] at hq; rw [B_S]; exact hq)
 have hpn : eq = false → parseO (B s) = (nilL, 30) := fun e => by
  unfold parseO parseL readP; rw [← heq, e]; rfl
 have hpy : eq = true → readP (B s) = restP ⟨[], 0, !gt⟩ c := fun e => by
  unfold readP restP; rw [← heq, e, if_pos rfl]; simp only []; rw [← hb, ← hc, ← hgt]
 cases eq with
 | false =>
  rw [hpn rfl] at h
  repeat' (first | with_reducible refine And.intro ?_ ?_ | simp only [go_sem,seval, e2] | simp (disch := first | omega | grind) only [heap_ne_] | intro hx_ | with_reducible refine cc _ _ ?_ | with_reducible refine tc _ _ ?_ | omega)
  exact Fin.nilR (nil_lin 0 30 false) (Fin.less (le_set4 (hle.trans (heap_le_set (by assumption))) g2) h)
 | true =>
  have hR := hpy rfl
  clear hpn hpy
  repeat' (first | with_reducible refine And.intro ?_ ?_ | simp only [go_sem,seval, e2] | simp (disch := first | omega | grind) only [heap_ne_] | intro hx_ | with_reducible refine cc _ _ ?_ | with_reducible refine tc _ _ ?_ | with_reducible refine gc _ _ ?_ | omega)
  rename_i b6
  have h6 := hx_
  clear hx_
  have f0 := BxI.start h6 2 [.int .i64 0, .bool !gt]
  generalize Bs.set b6 (.box [.nilsl, .int .i64 0, .bool !gt]) = Hq at f0 ⊢
  refine loop_c [0, 2, 6] (fun (p : List UInt8 × LinV × Option Nat × Heap) => [(4, .str (S p.1))]) (fun (p : List UInt8 × LinV × Option Nat × Heap) => p.2.2.2) (fun (p : List UInt8 × LinV × Option Nat × Heap) => BxI Bs b6 2 p.2.1.t.length (Rw ltC p.2.1.t) [.int .i64 p.2.1.k, .bool p.2.1.e] p.2.2.1 p.2.2.2 ∧ restP p.2.1 p.1 = readP (B s) ∧ p.2.1.t.length + p.1.length ≤ s.size ∧ (∀ t ∈ p.2.1.t, t.v.size ≤ s.size ∧ i64 t.c) ∧ i64 p.2.1.k) (fun (p : List UInt8 × LinV × Option Nat × Heap) => p.1.length) ((c, ⟨[], 0, !gt⟩, none, Hq)) (⟨f0, hR.symm, by simpa using hcl, by simp, by unfold i64; simp⟩) (by (try simp only [go_sem,seval]) <;> (try simp (disch := omega) [wrap64]) <;> (try omega)) (by first | with_reducible exact Heap.Le.refl _ | exact heap_set_le (by assumption) | exact Heap.Le.refl _ | exact heap_le_set (by assumption) | exact (by simp only [Go.Av.Heap.Le, Go.Av.Heap.set, Go.Av.Heap.del] at * <;> grind)) ?_
  clear f0 h6
  rintro Ec rfl ⟨l, a, ob, Hp⟩ ⟨fi, hr, hsz, hts, hks⟩
  simp only at fi hr hsz hts hks
  have hTp := hTb.le fi.le
  cases l with
  | nil =>
   rw [restP_nil] at hr
   have fa : LinFit a := ⟨by simp at hsz; omega, fun t ht => by have := (hts t ht).1; omega, fun t ht => (hts t ht).2, hks⟩
   have e6 := fi.ex
   have e2p := fi.le _ _ e2
   have hn2 : b6 ≠ b2 := fun e => by rw [e] at fi; have := fi.hx; rw [e2] at this; cases this
   have tx : ∀ (Q : D → Heap → Prop), Q (.tuple [.str (if validL a = true then S (textB a) else S []), .int .i64 (if validL a = true then 0 else 2)]) Hp → ACalls Tryz.prog 30 [.agg [outG 2 a.t.length ob, .int .i64 a.k, .bool a.e]] Hp Q := fun Q hq => ACalls.lendA (by rw [Rw_len]) fi.eo (text_a a fa _ (hTp.ro) ⟨rfl, hq⟩)
   have o1 : (match outG 2 a.t.length ob with | D.undef => false | D.agg cs => false | D.tuple cs => false | x => true) = true := by cases ob <;> rfl
   by_cases hv : validL a = true
   ·rw [if_pos hv, if_pos hv] at tx
    by_cases ht : textB a = B s
    ·have hp : parseO (B s) = (a, 0) := by unfold parseO parseL; rw [← hr]; simp only [Option.bind_some]; rw [if_pos ⟨hv, ht⟩]
     rw [hp] at h
     repeat' (first | with_reducible refine And.intro ?_ ?_ | simp only [go_sem,seval, e2p, e6, ht, o1] | simp (disch := first | omega | grind) only [heap_ne_] | intro hx_ | with_reducible refine tx _ ?_ | omega)
     cases ob with
     | none =>
      obtain ⟨T, K, E⟩ := a
      have hz : T = [] := List.eq_nil_of_length_eq_zero (by have := congrArg List.length (show Rw ltC T = [] from fi.eo); rwa [Rw_len] at this)
      subst hz
      exact Fin.nilR (nil_lin K 0 E) (Fin.less (le_set4 (hle.trans fi.le) g2) h)
     | some b' =>
      obtain ⟨q1, q2⟩ := fi.fin hle g2 e2p
      exact Fin.aggT q1 (by rw [Rw_len]) (Fin.less q2 h)
    ·have hp : parseO (B s) = (nilL, 30) := by unfold parseO parseL; rw [← hr]; simp only [Option.bind_some]; rw [if_neg (fun g => ht g.2)]
     rw [hp] at h
     repeat' (first | with_reducible refine And.intro ?_ ?_ | simp only [go_sem,seval, e2p, e6, ht, o1] | simp (disch := first | omega | grind) only [heap_ne_] | intro hx_ | with_reducible refine tx _ ?_ | omega)
     exact Fin.nilR (nil_lin 0 30 false) (Fin.less (le_set4 (hle.trans fi.le) g2) h)
   ·rw [if_neg hv, if_neg hv] at tx
    have hp : parseO (B s) = (nilL, 30) := by unfold parseO parseL; rw [← hr]; simp only [Option.bind_some]; rw [if_neg (fun g => hv g.1)]
    rw [hp] at h
    repeat' (first | with_reducible refine And.intro ?_ ?_ | simp only [go_sem,seval, e2p, e6, o1] | simp (disch := first | omega | grind) only [heap_ne_] | intro hx_ | with_reducible refine tx _ ?_ | omega)
    exact Fin.nilR (nil_lin 0 30 false) (Fin.less (le_set4 (hle.trans fi.le) g2) h)
  | cons x r =>
   have hrl := tw_len r (!sgn ·)
   simp only [List.length_cons] at hsz
   repeat' (first | with_reducible refine And.intro ?_ ?_ | simp only [go_sem,seval] | simp (disch := first | omega | grind) only [heap_ne_] | intro hx_ | omega)
   refine part_a (S (x :: r)) x r (B_S _) (by rw [S_size, List.length_cons]; omega) _ hTp (fun hp v n z => ?_) (fun n v hp => ?_)
   ·rw [restP_none _ _ _ hp] at hr
    have hpp : parseO (B s) = (nilL, 30) := by unfold parseO parseL; rw [← hr]; rfl
    rw [hpp] at h
    have e2p := fi.le _ _ e2
    repeat' (first | with_reducible refine And.intro ?_ ?_ | simp only [go_sem,seval, e2p] | simp (disch := first | omega | grind) only [heap_ne_] | intro hx_ | omega)
    exact Fin.nilR (nil_lin 0 30 false) (Fin.less (le_set4 (hle.trans (fi.le.trans (heap_le_set (by assumption)))) g2) h)
   ·rw [restP_some _ _ _ hp] at hr
    obtain ⟨p1, p2⟩ := piece_le hp
    simp only [List.length_cons] at p1
    have hdl : (r.dropWhile (!sgn ·)).length < r.length + 1 := by omega
    by_cases hn : n = []
    ·rw [addP_k a v hn] at hr
     repeat' (first | with_reducible refine And.intro ?_ ?_ | simp only [go_sem,seval, hn] | simp (disch := first | omega | grind) only [heap_ne_] | intro hx_ | omega)
     rename_i b7
     have h7 := hx_
     clear hx_
     have fu := fi.up (heap_le_set (o := .box [.str (S n), .int .i64 v]) h7)
     have e7 : (Hp.set b7 (.box [.str (S n), .int .i64 v])) b7 = some (.box [.str (S n), .int .i64 v]) := heap_same _ _
     rw [hn] at fu e7
     generalize Hp.set b7 (.box [.str (S []), .int .i64 v]) = Hr at fu e7 ⊢
     have e6 := fu.ex
     repeat' (first | with_reducible refine And.intro ?_ ?_ | simp only [go_sem,seval, e6, e7] | simp (disch := first | omega | grind) only [heap_ne_] | intro hx_ | omega)
     exact nx_mk (r.dropWhile (!sgn ·), { a with k := v }, ob, _) ⟨fu.re _, hr, by simp only []; omega, hts, p2⟩ (by simp only [List.length_cons]; omega) (by (try simp only [go_sem,seval]) <;> (try simp (disch := omega) [wrap64]) <;> (try omega)) (Heap.Le.refl _)
    ·rw [addP_t a v hn] at hr
     repeat' (first | with_reducible refine And.intro ?_ ?_ | simp only [go_sem,seval, hn] | simp (disch := first | omega | grind) only [heap_ne_] | intro hx_ | omega)
     rename_i b7
     have h7 := hx_
     clear hx_
     have fu := fi.up (heap_le_set (o := .box [.str (S n), .int .i64 v]) h7)
     have e7 : (Hp.set b7 (.box [.str (S n), .int .i64 v])) b7 = some (.box [.str (S n), .int .i64 v]) := heap_same _ _
     generalize Hp.set b7 (.box [.str (S n), .int .i64 v]) = Hr at fu e7 ⊢
     have e6 := fu.ex
     repeat' (first | with_reducible refine And.intro ?_ ?_ | simp only [go_sem,seval, e6, e7] | simp (disch := first | omega | grind) only [heap_ne_] | intro hx_ | omega)
     rename_i bx
     have hbx := hx_
     clear hx_
     refine apS_z (P := Tryz.prog) (H0 := Hr) (es := Rw ltC a.t) hbx (by simp) fu.eo (by rw [Rw_len]) (by simp only [List.length_cons, List.length_nil]; omega) (by simp only [List.length_cons, List.length_nil]; omega) fun b' H' hA => ?_
     have hY : Rw ltC a.t ++ [[D.str (S n), .int .i64 v]] = Rw ltC (a.t ++ [⟨S n, v⟩]) := by rw [← Rw_app]; rfl
     rw [hY] at hA
     obtain ⟨f1, e6'⟩ := fu.ap (m := a.t.length + 1) (Heap.Le.refl _) hA
     repeat' (first | with_reducible refine And.intro ?_ ?_ | simp only [go_sem,seval, e6'] | simp (disch := first | omega | grind) only [heap_ne_] | intro hx_ | omega)
     have hal : (a.t ++ [(⟨S n, v⟩ : LTm)]).length = a.t.length + 1 := by rw [List.length_append]; rfl
     refine nx_mk (r.dropWhile (!sgn ·), { a with t := a.t ++ [⟨S n, v⟩] }, some b', _) ⟨?_, hr, by simp only [hal]; omega, fun t ht => ?_, hks⟩ (by simp only [List.length_cons]; omega) (by (try simp only [go_sem,seval, out_some]) <;> (try simp (disch := omega) [wrap64]) <;> (try omega)) (Heap.Le.refl _)
     ·simp only [hal]; exact f1
     ·rcases List.mem_append.1 ht with g | g
      ·exact hts t g
      ·rw [List.mem_singleton] at g; subst g
       exact ⟨by simp only [S_size]; omega, p2⟩
end Go.Proofs.YtacekpdodelnbaaGreatDoor
end
section
set_option maxRecDepth 20000
namespace Go.Av
theorem ACalls.vec1s {P : Program} {f b n sz : Nat} {es : List (List D)} {ds : List D} {H0 : Heap} {Q : D → Heap → Prop} (h0 : H0 b = none) (hn : n = es.length) (h : ACalls P f (.sl sz es :: ds) H0 Q) : ACalls P f (.vec b sz 0 n :: ds) (H0.set b (.vec sz es)) Q :=
 ACalls.vec1 (heap_same _ _) hn (by rw [set_del h0]; exact h)
theorem ACalls.vec2s {P : Program} {f b n sz : Nat} {es : List (List D)} {a : D} {ds : List D} {H0 : Heap} {Q : D → Heap → Prop} (h0 : H0 b = none) (hn : n = es.length) (h : ACalls P f (a :: .sl sz es :: ds) H0 Q) : ACalls P f (a :: .vec b sz 0 n :: ds) (H0.set b (.vec sz es)) Q :=
 ACalls.vec2 (heap_same _ _) hn (by rw [set_del h0]; exact h)
end Go.Av
namespace Go.Lin
open Go Go.Av Go.Lexs
def exN : LinV := ⟨[⟨sX, -1⟩], -1, false⟩
def exP : LinV := ⟨[⟨sX, -2⟩], -2, false⟩
def exV : List VlV := [⟨sX, -1⟩, ⟨sY, 2⟩]
theorem ex_normal : normalR exA = (noL, 0) := by decide +kernel
theorem ex_text : validL noL = true ∧ textB noL = [45, 49, 62, 61, 48] := by decide +kernel
theorem ex_negate : negateR exG = (exN, 0) := by decide +kernel
theorem ex_parse : parseO [45, 120, 45, 49, 62, 61, 48] = (exN, 0) := by
 have e : [45, 120, 45, 49, 62, 61, 48] = textB exN := by decide +kernel
 unfold parseO; rw [e, parseL_text exN (by decide +kernel)]
theorem ex_add : addL exN exN = (exP, 0) := by decide +kernel
theorem ex_times : timesR exN 2 = (exP, 0) := by decide +kernel
theorem ex_at : atR exC exV = (true, 0) := by decide +kernel
theorem ex_valid : ∀ a ∈ [exA, exC, exD, exE, exF, exG, exH, exI, exN, exP, noL], validL a = true := by decide +kernel
theorem ex_below : validL (below exF) = true ∧ (varsL ([exE] ++ [exF])).length ≤ 12 := by decide +kernel
theorem ex_vals : ∀ x ∈ exV, x.v.size ≤ 140737488351232 ∧ x.n.natAbs ≤ 10 := by decide +kernel
theorem fit_valid {a : LinV} (h : validL a = true) : LinFit a := by
 have h1 := valid_ok h
 refine ⟨by have := h1.len; omega, fun t ht => ?_, fun t ht => ?_, ?_⟩
 ·have := name_size (okAt_mem h1.t t ht).1; omega
 ·have := (okAt_mem h1.t t ht).2.2; unfold i64; omega
 ·have := h1.k; unfold i64; omega
theorem fit_vals : VlFit exV := ⟨by decide, fun x hx => (ex_vals x hx).1, fun x hx => by have := (ex_vals x hx).2; unfold i64; omega⟩
end Go.Lin
namespace Go.Proofs.YtacekpdodelnbaaGreatDoor
open Go Go.Av Go.Lexs Go.Lin
attribute [local irreducible] ACalls at8
theorem term_a {Q} (s : ByteArray) (n : Int) (H : Heap) (h : Q (.agg [.str s, .int .i64 n]) H) : ACalls Tryz.prog 49 [.str s, .int .i64 n] H Q := by
 refine acalls_of_wp [] Tryz.mixed Tryz.func49 rfl (by kernel_rfl) (of_decide_eq_true (by kernel_rfl)) (by kernel_rfl) ?_
 simp only [go_sem,seval, Tryz.results49]
 repeat' (first | with_reducible refine And.intro ?_ ?_ | simp only [go_sem,seval] | intro hx_ | omega)
 exact Fin.less (heap_le_set (by assumption)) h
theorem lin0_a {Q} (l : List LTm) (k : Int) (H : Heap) (h : Q (.agg (linC ⟨l, k, false⟩)) H) : ACalls Tryz.prog 48 [.int .i64 k, .sl 2 (Rw ltC l)] H Q := by
 refine acalls_of_wp [] Tryz.mixed Tryz.func48 rfl (by kernel_rfl) (of_decide_eq_true (by kernel_rfl)) (by kernel_rfl) ?_
 simp only [go_sem,seval, Tryz.results48]
 repeat' (first | with_reducible refine And.intro ?_ ?_ | simp only [go_sem,seval] | intro hx_ | omega)
 exact Fin.less (heap_le_set (by assumption)) h
theorem lin_s {Q} {b n : Nat} {k : Int} {H0 : Heap} (h0 : H0 b = none) (l : List LTm) (hn : n = l.length) (h : Q (.agg (linC ⟨l, k, false⟩)) H0) : ACalls Tryz.prog 48 [.int .i64 k, .vec b 2 0 n] (H0.set b (.vec 2 (Rw ltC l))) Q :=
 ACalls.vec2s h0 (by rw [Rw_len]; exact hn) (lin0_a l k H0 h)
set_option maxHeartbeats 4000000 in
theorem awake_a {Q} (H : Heap) (hT : Tabs H) (h : Q (.bool true) H) : ACalls Tryz.prog 14 [] H Q := by
 refine acalls_of_wp [(8, .wk), (11, .par), (12, .wk), (16, .wk), (18, .wk)] Tryz.mixed Tryz.func14 rfl (by kernel_rfl) (of_decide_eq_true (by kernel_rfl)) (by kernel_rfl) ?_
 simp only [go_sem,seval, Tryz.results14]
 have vx := ex_valid
 have vA := vx exA (by simp)
 have vC := vx exC (by simp)
 have vD := vx exD (by simp)
 have vE := vx exE (by simp)
 have vF := vx exF (by simp)
 have vG := vx exG (by simp)
 have vH := vx exH (by simp)
 have vI := vx exI (by simp)
 have vN := vx exN (by simp)
 have vP := vx exP (by simp)
 have vO := vx noL (by simp)
 clear vx
 have hle0 := Heap.Le.refl H
 have hle0 := Heap.Le.refl H
 have hle0 := Heap.Le.refl H
 have hle0 := Heap.Le.refl H
 have hle0 := Heap.Le.refl H
 have hle0 := Heap.Le.refl H
 have hle0 := Heap.Le.refl H
 have hle0 := Heap.Le.refl H
 have hle0 := Heap.Le.refl H
 have hle0 := Heap.Le.refl H
 repeat' (first | with_reducible refine And.intro ?_ ?_ | simp only [go_sem,seval] | simp (disch := omega) only [ex_at] | simp (disch := first | omega | grind) only [heap_ne_] | (intro hx_; try simp only [set_none] at hx_) | with_reducible refine term_a _ _ _ ?_ | omega)
 refine lin_s (by first | assumption | (simp only [set_none]; assumption)) [⟨sX, 2⟩, ⟨sY, -2⟩] rfl ?_
 repeat' (first | with_reducible refine And.intro ?_ ?_ | simp only [go_sem,seval] | simp (disch := omega) only [ex_at] | simp (disch := first | omega | grind) only [heap_ne_] | (intro hx_; try simp only [set_none] at hx_) | omega)
 rename_i b1
 have hb1 := hx_
 clear hx_
 have eb1 : (H.set b1 (.box (linC exA))) b1 = some (.box (linC exA)) := heap_same _ _
 have hle1 := hle0.trans (heap_le_set (o := .box (linC exA)) hb1)
 have hT1 := hT.le hle1
 change ACalls _ _ _ (H.set b1 (.box (linC exA))) _
 generalize H.set b1 (.box (linC exA)) = H1 at eb1 hle1 hT1 ⊢
 clear hb1
 refine normalL_a exA (fit_valid vA) _ ?_
 rw [ex_normal]
 repeat' (first | with_reducible refine And.intro ?_ ?_ | simp only [go_sem,seval] | simp (disch := omega) only [ex_at] | simp (disch := first | omega | grind) only [heap_ne_] | (intro hx_; try simp only [set_none] at hx_) | omega)
 rename_i b2
 have hb2 := hx_
 clear hx_
 have eb2 : (H1.set b2 (.box (linC noL))) b2 = some (.box (linC noL)) := heap_same _ _
 have eb1 := (heap_le_set (o := .box (linC noL)) hb2) _ _ eb1
 have hle2 := hle1.trans (heap_le_set (o := .box (linC noL)) hb2)
 have hT2 := hT.le hle2
 change ACalls _ _ _ (H1.set b2 (.box (linC noL))) _
 generalize H1.set b2 (.box (linC noL)) = H2 at eb1 eb2 hle2 hT2 ⊢
 clear hb2
 refine text_a noL (fit_valid vO) _ hT2 ?_
 rw [ex_text.1, if_pos rfl, if_pos rfl, ex_text.2]
 repeat' (first | with_reducible refine And.intro ?_ ?_ | simp only [go_sem,seval] | simp (disch := omega) only [ex_at] | simp (disch := first | omega | grind) only [heap_ne_] | (intro hx_; try simp only [set_none] at hx_) | with_reducible refine term_a _ _ _ ?_ | omega)
 refine lin_s (by first | assumption | (simp only [set_none]; assumption)) [⟨sX, 3⟩, ⟨sY, 5⟩] rfl ?_
 repeat' (first | with_reducible refine And.intro ?_ ?_ | simp only [go_sem,seval] | simp (disch := omega) only [ex_at] | simp (disch := first | omega | grind) only [heap_ne_] | (intro hx_; try simp only [set_none] at hx_) | omega)
 rename_i b6 hb6 bx
 have hbx : (H2.set b6 (.box (linC exC))) bx = none := set_none.2 hx_
 clear hx_
 have eb6 : (H2.set b6 (.box (linC exC))) b6 = some (.box (linC exC)) := heap_same _ _
 have eb1 := (heap_le_set (o := .box (linC exC)) hb6) _ _ eb1
 have eb2 := (heap_le_set (o := .box (linC exC)) hb6) _ _ eb2
 have hle3 := hle2.trans (heap_le_set (o := .box (linC exC)) hb6)
 have hT3 := hT.le hle3
 change ACalls _ _ _ ((H2.set b6 (.box (linC exC))).set bx _) _
 generalize H2.set b6 (.box (linC exC)) = H3 at eb1 eb2 eb6 hle3 hT3 hbx ⊢
 clear hb6
 refine ACalls.vec1s (es := Rw linC [exC]) (by assumption) rfl ?_
 refine first_a [exC] (by decide) (by decide) (fun c hc => by rw [List.mem_singleton] at hc; rw [hc]; exact fit_valid vC) ex_all.1 (fun c hc => by rw [List.mem_singleton] at hc; rw [hc]; exact vC) ex_first0 exV ex_first _ ?_
 repeat' (first | with_reducible refine And.intro ?_ ?_ | simp only [go_sem,seval] | simp (disch := omega) only [ex_at] | simp (disch := first | omega | grind) only [heap_ne_] | (intro hx_; try simp only [set_none] at hx_) | omega)
 refine wk_mk [(1, .box b1 0), (2, .box b2 0), (3, .int .i64 0), (4, .str (S [45, 49, 62, 61, 48])), (5, .int .i64 0), (6, .box b6 0), (7, .sl 2 (Rw vlC exV)), (8, .int .i64 0)] _ (by (try simp only [go_sem,seval]) <;> (try simp (disch := omega) [wrap64]) <;> (try omega)) (Heap.Le.refl _) ?_
 repeat' (first | with_reducible refine And.intro ?_ ?_ | simp only [go_sem,seval] | simp (disch := omega) only [ex_at] | simp (disch := first | omega | grind) only [heap_ne_] | (intro hx_; try simp only [set_none] at hx_) | with_reducible refine term_a _ _ _ ?_ | omega)
 refine lin_s (by first | assumption | (simp only [set_none]; assumption)) [⟨sX, 2⟩] rfl ?_
 repeat' (first | with_reducible refine And.intro ?_ ?_ | simp only [go_sem,seval] | simp (disch := omega) only [ex_at] | simp (disch := first | omega | grind) only [heap_ne_] | (intro hx_; try simp only [set_none] at hx_) | with_reducible refine term_a _ _ _ ?_ | omega)
 refine lin_s (by first | assumption | (simp only [set_none]; assumption)) [⟨sX, -2⟩] rfl ?_
 repeat' (first | with_reducible refine And.intro ?_ ?_ | simp only [go_sem,seval] | simp (disch := omega) only [ex_at] | simp (disch := first | omega | grind) only [heap_ne_] | (intro hx_; try simp only [set_none] at hx_) | omega)
 refine ACalls.vec1s (es := Rw linC [exH, exI]) (by assumption) rfl ?_
 refine sat_a [exH, exI] (by decide) (fun c hc => by simp only [List.mem_cons, List.not_mem_nil, or_false] at hc; rcases hc with rfl | rfl <;> first | exact fit_valid vH | exact fit_valid vI) ex_all.2.1 (fun c hc => by simp only [List.mem_cons, List.not_mem_nil, or_false] at hc; rcases hc with rfl | rfl <;> first | exact vH | exact vI) false ex_sat _ ?_
 repeat' (first | with_reducible refine And.intro ?_ ?_ | simp only [go_sem,seval] | simp (disch := omega) only [ex_at] | simp (disch := first | omega | grind) only [heap_ne_] | (intro hx_; try simp only [set_none] at hx_) | with_reducible refine term_a _ _ _ ?_ | omega)
 refine lin_s (by first | assumption | (simp only [set_none]; assumption)) [⟨sX, 1⟩, ⟨sY, 1⟩] rfl ?_
 repeat' (first | with_reducible refine And.intro ?_ ?_ | simp only [go_sem,seval] | simp (disch := omega) only [ex_at] | simp (disch := first | omega | grind) only [heap_ne_] | (intro hx_; try simp only [set_none] at hx_) | omega)
 rename_i b11
 have hb11 := hx_
 clear hx_
 have eb11 : (H3.set b11 (.box (linC exD))) b11 = some (.box (linC exD)) := heap_same _ _
 have eb1 := (heap_le_set (o := .box (linC exD)) hb11) _ _ eb1
 have eb2 := (heap_le_set (o := .box (linC exD)) hb11) _ _ eb2
 have eb6 := (heap_le_set (o := .box (linC exD)) hb11) _ _ eb6
 have hle4 := hle3.trans (heap_le_set (o := .box (linC exD)) hb11)
 have hT4 := hT.le hle4
 change raceK _ _ _ _ _ (H3.set b11 (.box (linC exD))) _
 generalize H3.set b11 (.box (linC exD)) = H4 at eb1 eb2 eb6 eb11 hle4 hT4 ⊢
 clear hb11
 have m11 : b11 ∈ [b11] := by simp
 refine par_mk (fun i' => if i' = 1 then .agg [.str ⟨#[121]⟩, .int .i64 1] else if i' = 3 then .agg (linC exE) else if i' = 5 then .tuple [.int .i64 (-2147483637), .int .i64 7, .int .i64 0] else .undef) [b11] ?_
 repeat' (first | with_reducible refine And.intro ?_ ?_ | simp only [go_sem,seval, eb11, m11] | simp (disch := omega) only [ex_at] | simp (disch := first | omega | grind) only [heap_ne_] | (intro hx_; try simp only [set_none] at hx_) | with_reducible refine pc0 (fun H' Q hro hq => term_a _ _ H' hq) ?_ | omega)
 rename_i bw
 have hbw := hx_
 clear hx_
 have nbw : bw ∉ [b11] := by simp only [List.mem_singleton]; rintro rfl; rw [eb11] at hbw; cases hbw
 refine pc1s (o := .vec 2 (Rw ltC [⟨sY, 1⟩])) hbw rfl nbw (fun H' Q hro hb hq => ACalls.vec2 hb rfl (lin0_a [⟨sY, 1⟩] (-3) _ hq)) ?_
 repeat' (first | with_reducible refine And.intro ?_ ?_ | simp only [go_sem,seval] | simp (disch := omega) only [ex_at] | simp (disch := first | omega | grind) only [heap_ne_] | (intro hx_; try simp only [set_none] at hx_) | omega)
 rename_i bv
 have hbv := hx_
 clear hx_
 have nbv : bv ∉ [b11] := by simp only [List.mem_singleton]; rintro rfl; rw [eb11] at hbv; cases hbv
 refine pc1s (o := .vec 3 (Rw linC [exD, exE])) hbv rfl nbv (fun H' Q hro hb hq => ACalls.vec1 hb rfl (bounds_a [exD, exE] (by decide) (by decide) (fun c hc => by simp only [List.mem_cons, List.not_mem_nil, or_false] at hc; rcases hc with rfl | rfl <;> first | exact fit_valid vD | exact fit_valid vE) ex_all.2.2.1 (fun c hc => by simp only [List.mem_cons, List.not_mem_nil, or_false] at hc; rcases hc with rfl | rfl <;> first | exact vD | exact vE) sX (by decide +kernel) ex_bounds0 7 2147483637 ex_high ex_low (by decide) _ hq)) ?_
 repeat' (first | with_reducible refine And.intro ?_ ?_ | simp only [go_sem,seval] | simp (disch := omega) only [ex_at] | simp (disch := first | omega | grind) only [heap_ne_] | (intro hx_; try simp only [set_none] at hx_) | omega)
 refine wk_mk [(1, .box b1 0), (2, .box b2 0), (3, .int .i64 0), (4, .str (S [45, 49, 62, 61, 48])), (5, .int .i64 0), (6, .box b6 0), (7, .sl 2 (Rw vlC exV)), (8, .int .i64 0), (9, .bool false), (10, .int .i64 0), (11, .box b11 0), (12, .int .i64 (-2147483637)), (13, .int .i64 7), (14, .int .i64 0)] _ (by (try simp only [go_sem,seval]) <;> (try simp (disch := omega) [wrap64]) <;> (try omega)) (Heap.Le.refl _) ?_
 repeat' (first | with_reducible refine And.intro ?_ ?_ | simp only [go_sem,seval] | simp (disch := omega) only [ex_at] | simp (disch := first | omega | grind) only [heap_ne_] | (intro hx_; try simp only [set_none] at hx_) | with_reducible refine term_a _ _ _ ?_ | omega)
 refine lin_s (by first | assumption | (simp only [set_none]; assumption)) [⟨sX, 1⟩] rfl ?_
 repeat' (first | with_reducible refine And.intro ?_ ?_ | simp only [go_sem,seval] | simp (disch := omega) only [ex_at] | simp (disch := first | omega | grind) only [heap_ne_] | (intro hx_; try simp only [set_none] at hx_) | omega)
 refine negateL_a exG (fit_valid vG) _ ?_
 rw [ex_negate]
 repeat' (first | with_reducible refine And.intro ?_ ?_ | simp only [go_sem,seval] | simp (disch := omega) only [ex_at] | simp (disch := first | omega | grind) only [heap_ne_] | (intro hx_; try simp only [set_none] at hx_) | omega)
 rename_i b15
 have hb15 := hx_
 clear hx_
 have eb15 : (H4.set b15 (.box (linC exN))) b15 = some (.box (linC exN)) := heap_same _ _
 have eb1 := (heap_le_set (o := .box (linC exN)) hb15) _ _ eb1
 have eb2 := (heap_le_set (o := .box (linC exN)) hb15) _ _ eb2
 have eb6 := (heap_le_set (o := .box (linC exN)) hb15) _ _ eb6
 have eb11 := (heap_le_set (o := .box (linC exN)) hb15) _ _ eb11
 have hle5 := hle4.trans (heap_le_set (o := .box (linC exN)) hb15)
 have hT5 := hT.le hle5
 change ACalls _ _ _ (H4.set b15 (.box (linC exN))) _
 generalize H4.set b15 (.box (linC exN)) = H5 at eb1 eb2 eb6 eb11 eb15 hle5 hT5 ⊢
 clear hb15
 refine parse_a ⟨#[45, 120, 45, 49, 62, 61, 48]⟩ (by decide) _ hT5 ?_
 rw [show B ⟨#[45, 120, 45, 49, 62, 61, 48]⟩ = [45, 120, 45, 49, 62, 61, 48] from rfl, ex_parse]
 repeat' (first | with_reducible refine And.intro ?_ ?_ | simp only [go_sem,seval, eb15] | simp (disch := omega) only [ex_at] | simp (disch := first | omega | grind) only [heap_ne_] | (intro hx_; try simp only [set_none] at hx_) | omega)
 rename_i b17
 have hb17 := hx_
 clear hx_
 have eb17 : (H5.set b17 (.box (linC exN))) b17 = some (.box (linC exN)) := heap_same _ _
 have eb1 := (heap_le_set (o := .box (linC exN)) hb17) _ _ eb1
 have eb2 := (heap_le_set (o := .box (linC exN)) hb17) _ _ eb2
 have eb6 := (heap_le_set (o := .box (linC exN)) hb17) _ _ eb6
 have eb11 := (heap_le_set (o := .box (linC exN)) hb17) _ _ eb11
 have eb15 := (heap_le_set (o := .box (linC exN)) hb17) _ _ eb15
 have hle6 := hle5.trans (heap_le_set (o := .box (linC exN)) hb17)
 have hT6 := hT.le hle6
 change ACalls _ _ _ (H5.set b17 (.box (linC exN))) _
 generalize H5.set b17 (.box (linC exN)) = H6 at eb1 eb2 eb6 eb11 eb15 eb17 hle6 hT6 ⊢
 clear hb17
 refine add_a exN exN (fit_valid vN) (fit_valid vN) _ ?_
 rw [ex_add]
 repeat' (first | with_reducible refine And.intro ?_ ?_ | simp only [go_sem,seval, eb15] | simp (disch := omega) only [ex_at] | simp (disch := first | omega | grind) only [heap_ne_] | (intro hx_; try simp only [set_none] at hx_) | omega)
 rename_i b19
 have hb19 := hx_
 clear hx_
 have eb19 : (H6.set b19 (.box (linC exP))) b19 = some (.box (linC exP)) := heap_same _ _
 have eb1 := (heap_le_set (o := .box (linC exP)) hb19) _ _ eb1
 have eb2 := (heap_le_set (o := .box (linC exP)) hb19) _ _ eb2
 have eb6 := (heap_le_set (o := .box (linC exP)) hb19) _ _ eb6
 have eb11 := (heap_le_set (o := .box (linC exP)) hb19) _ _ eb11
 have eb15 := (heap_le_set (o := .box (linC exP)) hb19) _ _ eb15
 have eb17 := (heap_le_set (o := .box (linC exP)) hb19) _ _ eb17
 have hle7 := hle6.trans (heap_le_set (o := .box (linC exP)) hb19)
 have hT7 := hT.le hle7
 change ACalls _ _ _ (H6.set b19 (.box (linC exP))) _
 generalize H6.set b19 (.box (linC exP)) = H7 at eb1 eb2 eb6 eb11 eb15 eb17 eb19 hle7 hT7 ⊢
 clear hb19
 refine mulL_a exN (fit_valid vN) 2 _ ?_
 rw [ex_times]
 repeat' (first | with_reducible refine And.intro ?_ ?_ | simp only [go_sem,seval] | simp (disch := omega) only [ex_at] | simp (disch := first | omega | grind) only [heap_ne_] | (intro hx_; try simp only [set_none] at hx_) | omega)
 rename_i b21
 have hb21 := hx_
 clear hx_
 have eb21 : (H7.set b21 (.box (linC exP))) b21 = some (.box (linC exP)) := heap_same _ _
 have eb1 := (heap_le_set (o := .box (linC exP)) hb21) _ _ eb1
 have eb2 := (heap_le_set (o := .box (linC exP)) hb21) _ _ eb2
 have eb6 := (heap_le_set (o := .box (linC exP)) hb21) _ _ eb6
 have eb11 := (heap_le_set (o := .box (linC exP)) hb21) _ _ eb11
 have eb15 := (heap_le_set (o := .box (linC exP)) hb21) _ _ eb15
 have eb17 := (heap_le_set (o := .box (linC exP)) hb21) _ _ eb17
 have eb19 := (heap_le_set (o := .box (linC exP)) hb21) _ _ eb19
 have hle8 := hle7.trans (heap_le_set (o := .box (linC exP)) hb21)
 have hT8 := hT.le hle8
 change raceK _ _ _ _ _ (H7.set b21 (.box (linC exP))) _
 generalize H7.set b21 (.box (linC exP)) = H8 at eb1 eb2 eb6 eb11 eb15 eb17 eb19 eb21 hle8 hT8 ⊢
 clear hb21
 refine wk_mk [(1, .box b1 0), (2, .box b2 0), (3, .int .i64 0), (4, .str (S [45, 49, 62, 61, 48])), (5, .int .i64 0), (6, .box b6 0), (7, .sl 2 (Rw vlC exV)), (8, .int .i64 0), (9, .bool false), (10, .int .i64 0), (11, .box b11 0), (12, .int .i64 (-2147483637)), (13, .int .i64 7), (14, .int .i64 0), (15, .box b15 0), (16, .int .i64 0), (17, .box b17 0), (18, .int .i64 0), (19, .box b19 0), (20, .int .i64 0), (21, .box b21 0), (22, .int .i64 0)] _ (by (try simp only [go_sem,seval]) <;> (try simp (disch := omega) [wrap64]) <;> (try omega)) (Heap.Le.refl _) ?_
 repeat' (first | with_reducible refine And.intro ?_ ?_ | simp only [go_sem,seval] | simp (disch := omega) only [ex_at] | simp (disch := first | omega | grind) only [heap_ne_] | (intro hx_; try simp only [set_none] at hx_) | with_reducible refine term_a _ _ _ ?_ | omega)
 refine lin_s (by first | assumption | (simp only [set_none]; assumption)) [⟨sY, 1⟩] rfl ?_
 repeat' (first | with_reducible refine And.intro ?_ ?_ | simp only [go_sem,seval] | simp (disch := omega) only [ex_at] | simp (disch := first | omega | grind) only [heap_ne_] | (intro hx_; try simp only [set_none] at hx_) | with_reducible refine term_a _ _ _ ?_ | omega)
 refine lin_s (by first | assumption | (simp only [set_none]; assumption)) [⟨sY, 1⟩] rfl ?_
 repeat' (first | with_reducible refine And.intro ?_ ?_ | simp only [go_sem,seval] | simp (disch := omega) only [ex_at] | simp (disch := first | omega | grind) only [heap_ne_] | (intro hx_; try simp only [set_none] at hx_) | omega)
 refine ACalls.vec1s (es := Rw linC [exE]) (by assumption) rfl ?_
 refine implies_a [exE] exF (by decide) (by decide) (fun c hc => by simp only [List.mem_cons, List.not_mem_nil, or_false] at hc; rw [hc]; exact fit_valid vE) (fit_valid vF) ex_all.2.2.2.1 (fun c hc => by simp only [List.mem_cons, List.not_mem_nil, or_false] at hc; rw [hc]; exact vE) vF ex_below.2 rfl ex_below.1 ex_implies _ ?_
 repeat' (first | with_reducible refine And.intro ?_ ?_ | simp only [go_sem,seval, eb6] | simp (disch := omega) only [ex_at] | simp (disch := first | omega | grind) only [heap_ne_] | (intro hx_; try simp only [set_none] at hx_) | omega)
 refine ACalls.vec2s (es := Rw vlC exV) (by assumption) rfl ?_
 refine at_a exC (fit_valid vC) exV fit_vals _ ?_
 rw [ex_at]
 repeat' (first | with_reducible refine And.intro ?_ ?_ | simp only [go_sem,seval] | simp (disch := omega) only [ex_at] | simp (disch := first | omega | grind) only [heap_ne_] | (intro hx_; try simp only [set_none] at hx_) | omega)
 refine wk_mk [(1, .box b1 0), (2, .box b2 0), (3, .int .i64 0), (4, .str (S [45, 49, 62, 61, 48])), (5, .int .i64 0), (6, .box b6 0), (7, .sl 2 (Rw vlC exV)), (8, .int .i64 0), (9, .bool false), (10, .int .i64 0), (11, .box b11 0), (12, .int .i64 (-2147483637)), (13, .int .i64 7), (14, .int .i64 0), (15, .box b15 0), (16, .int .i64 0), (17, .box b17 0), (18, .int .i64 0), (19, .box b19 0), (20, .int .i64 0), (21, .box b21 0), (22, .int .i64 0), (23, .bool true), (24, .int .i64 0), (25, .bool true), (26, .int .i64 0)] _ (by (try simp only [go_sem,seval]) <;> (try simp (disch := omega) [wrap64]) <;> (try omega)) (Heap.Le.refl _) ?_
 have t4 : decide ([45, 49, 62, 61, 48] = ([45, 49, 62, 61, 48] : List UInt8)) = true := rfl
 repeat' (first | with_reducible refine And.intro ?_ ?_ | simp only [go_sem,seval, t4] | simp (disch := omega) only [ex_at] | simp (disch := first | omega | grind) only [heap_ne_] | (intro hx_; try simp only [set_none] at hx_) | omega)
 refine ACalls.vec2s (es := Rw vlC exV) (by assumption) rfl ?_
 refine lSame_a exV fit_vals _ ?_
 repeat' (first | with_reducible refine And.intro ?_ ?_ | simp only [go_sem,seval, eb15, eb17] | simp (disch := omega) only [ex_at] | simp (disch := first | omega | grind) only [heap_ne_] | (intro hx_; try simp only [set_none] at hx_) | omega)
 refine rSame_a exN (fit_valid vN) _ ?_
 repeat' (first | with_reducible refine And.intro ?_ ?_ | simp only [go_sem,seval, eb19, eb21] | simp (disch := omega) only [ex_at] | simp (disch := first | omega | grind) only [heap_ne_] | (intro hx_; try simp only [set_none] at hx_) | omega)
 refine rSame_a exP (fit_valid vP) _ ?_
 repeat' (first | with_reducible refine And.intro ?_ ?_ | simp only [go_sem,seval, eb1] | simp (disch := omega) only [ex_at] | simp (disch := first | omega | grind) only [heap_ne_] | (intro hx_; try simp only [set_none] at hx_) | omega)
 refine valid_a exA (fit_valid vA) _ ?_
 rw [vA]
 repeat' (first | with_reducible refine And.intro ?_ ?_ | simp only [go_sem,seval, eb1, eb6] | simp (disch := omega) only [ex_at] | simp (disch := first | omega | grind) only [heap_ne_] | (intro hx_; try simp only [set_none] at hx_) | omega)
 refine ACalls.vec1s (es := Rw linC [exA, exC]) (by assumption) rfl ?_
 refine all_a [exA, exC] (by decide) (fun c hc => by simp only [List.mem_cons, List.not_mem_nil, or_false] at hc; rcases hc with rfl | rfl <;> first | exact fit_valid vA | exact fit_valid vC) _ ?_
 rw [ex_all.2.2.2.2.2.1]
 repeat' (first | with_reducible refine And.intro ?_ ?_ | simp only [go_sem,seval] | simp (disch := omega) only [ex_at] | simp (disch := first | omega | grind) only [heap_ne_] | (intro hx_; try simp only [set_none] at hx_) | omega)
 exact Fin.less hle8 h
end Go.Proofs.YtacekpdodelnbaaGreatDoor
end
section
set_option maxRecDepth 20000
namespace Go.Lin
open Go Go.Av Go.Lexs
end Go.Lin
namespace Go.Proofs.YtacekpdodelnbaaGreatDoor
open Go Go.Av Go.Lexs Go.Lin
attribute [local irreducible] ACalls at8
theorem few1_a {Q} {b n : Nat} {H0 : Heap} (h0 : H0 b = none) (l : List LinV) (hn : n = l.length) (hl : l.length ≤ 5864062014639) (fl : ∀ c ∈ l, LinFit c) (h : ∀ x, Q (.bool x) H0) : ACalls Tryz.prog 13 [.vec b 3 0 n] (H0.set b (.vec 3 (Rw linC l))) Q :=
 ACalls.vec1s h0 (by rw [Rw_len]; exact hn) (few_a l hl fl H0 h)
end Go.Proofs.YtacekpdodelnbaaGreatDoor
end
section
namespace Go.Av
open Go.RowKit Go.ChangeShapes Go.WideShapes
def tileB (P : Program) : Nat → List Field → Option Nat
 | o, [] => some o
 | o, f :: r => if f.offset = o then tileB P (o + P.cellsOf f.type) r else none
def plainT (P : Program) (l : List TypeId) (t : TypeId) : Bool := match P.underlying t with
 | some .bool | some (.int _) | some .string => decide (P.cellsOf t = 1)
 | some (.slice e) => decide (P.cellsOf t = 1) && l.contains e && decide (0 < P.cellsOf e) && decide (0 < P.bytesOf e)
 | some (.struct fs) => decide (tileB P 0 fs.toList = some (P.cellsOf t)) && fs.toList.all (fun f => l.contains f.type)
 | _ => false
def plainB (P : Program) (l : List TypeId) : Bool := l.all (plainT P l)
inductive Fits (P : Program) : TypeId → List D → Prop
 | bool {t : TypeId} (b : Bool) (h : P.underlying t = some .bool) : Fits P t [.bool b]
 | int {t : TypeId} {k : IntKind} (n : Int) (h : P.underlying t = some (.int k)) (hw : (Lit.int k n).wf = true) : Fits P t [.int k n]
 | str {t : TypeId} (s : ByteArray) (h : P.underlying t = some .string) (hs : s.size ≤ reachBytes) : Fits P t [.str s]
 | sl {t e : TypeId} (es : List (List D)) (h : P.underlying t = some (.slice e)) (hl : es.length * P.bytesOf e ≤ reachBytes) (he : ∀ x ∈ es, Fits P e x) : Fits P t [.sl (P.cellsOf e) es]
 | struct {t : TypeId} {fs : Array Field} (ps : List (List D)) (h : P.underlying t = some (.struct fs)) (hl : ps.length = fs.size) (hp : ∀ (i : Nat) (f : Field) (p : List D), fs[i]? = some f → ps[i]? = some p → Fits P f.type p) : Fits P t ps.flatten
section
variable {H : Type} {enc : TypeId × Value → H} {P : Program}
def RowL (w : World) (Hp : Heap) (ds : List D) (cs : List Value) : Prop := ∀ (j : Nat) (d : D), ds[j]? = some d → d.one = true ∧ R w Hp d (cs.getD j Go.undef)
theorem tile_rows {w : World} {Hp : Heap} {cs : List Value} : ∀ (fs : List Field) (o m : Nat) (ps : List (List D)), tileB P o fs = some m → m ≤ cs.length → ps.length = fs.length →
  (∀ (i : Nat) (f : Field) (p : List D), fs[i]? = some f → ps[i]? = some p → p.length = P.cellsOf f.type ∧ RowL w Hp p ((cs.drop f.offset).take (P.cellsOf f.type))) →
  o ≤ m ∧ o + ps.flatten.length = m ∧ ∀ (j : Nat) (d : D), ps.flatten[j]? = some d → d.one = true ∧ R w Hp d (cs.getD (o + j) Go.undef)
 | [], o, m, ps, ht, _, hl, _ => by
  have : ps = [] := List.eq_nil_of_length_eq_zero (by simpa using hl)
  subst this
  simp only [tileB, Option.some.injEq] at ht
  subst ht
  exact ⟨Nat.le_refl _, by simp, fun j d hd => by simp at hd⟩
 | f :: r, o, m, ps, ht, hm, hl, hp => by
  cases ps with
  | nil => simp at hl
  | cons p ps =>
   unfold tileB at ht
   split at ht
   ·rename_i ho
    obtain ⟨hpl, hpr⟩ := hp 0 f p rfl rfl
    obtain ⟨h1, h2, h3⟩ := tile_rows r (o + P.cellsOf f.type) m ps ht hm (by simpa using hl) (fun i f' p' hf hp' => hp (i + 1) f' p' (by simpa using hf) (by simpa using hp'))
    refine ⟨by omega, by rw [List.flatten_cons, List.length_append, hpl]; omega, fun j d hd => ?_⟩
    rw [List.flatten_cons, List.getElem?_append] at hd
    split at hd
    ·rename_i hj
     obtain ⟨k1, k2⟩ := hpr j d hd
     refine ⟨k1, ?_⟩
     have e : ((cs.drop f.offset).take (P.cellsOf f.type)).getD j Go.undef = cs.getD (o + j) Go.undef := by
      rw [List.getD_eq_getElem?_getD, List.getD_eq_getElem?_getD, List.getElem?_take_of_lt (by omega), List.getElem?_drop, ho]
     rw [← e]; exact k2
    ·rename_i hj
     have := h3 (j - p.length) d hd
     have e : o + P.cellsOf f.type + (j - p.length) = o + j := by omega
     rw [e] at this
     exact this
   ·cases ht
theorem weightsAll_mem {e : TypeId} {n : Nat} : ∀ {l : List (DataW H)}, (DataW.weightsAll P e l).all (· ≤ n) = true → ∀ d ∈ l, (d.weights P e).all (· ≤ n) = true
 | [], _, d, hd => by cases hd
 | x :: l, h, d, hd => by
  rw [DataW.weightsAll, List.all_append, Bool.and_eq_true] at h
  rcases List.mem_cons.1 hd with rfl | hd
  ·exact h.1
  ·exact weightsAll_mem h.2 d hd
theorem weightsEach_at {n : Nat} : ∀ {ts : List TypeId} {l : List (DataW H)}, (DataW.weightsEach P ts l).all (· ≤ n) = true → ∀ (i : Nat) t d, ts[i]? = some t → l[i]? = some d → (d.weights P t).all (· ≤ n) = true
 | [], _, _, i, t, d, ht, _ => by simp at ht
 | _ :: _, [], _, i, t, d, _, hd => by simp at hd
 | t0 :: ts, d0 :: l, h, i, t, d, ht, hd => by
  rw [DataW.weightsEach, List.all_append, Bool.and_eq_true] at h
  cases i with
  | zero => simp at ht hd; subst ht; subst hd; exact h.1
  | succ i => exact weightsEach_at h.2 i t d (by simpa using ht) (by simpa using hd)
theorem add_off' {a : Addr} (hs : a.spot = none) (n : Nat) : a.add n = ⟨a.block, a.off + n, none⟩ := by
 obtain ⟨b, o, s⟩ := a
 simp only at hs
 subst hs
 unfold Addr.add
 split
 ·rename_i h; subst h; rfl
 ·rfl
theorem fits_of_trod {l : List TypeId} (hB : plainB P l = true) {w : World} {base : Nat} {sp : Nat → Bool} {hd : Bool} {Hp : Heap} (hH : ∀ b, Hp.held b = false) :
  ∀ (n : Nat) (t : TypeId) (cs : List Value) (x : DataW H × List MemPlace), t ∈ l → DataW.trod enc P w base sp hd n t cs = some x → (x.1.weights P t).all (· ≤ reachBytes) = true →
   cs.length = P.cellsOf t ∧ ∃ ds, Fits P t ds ∧ ds.length = cs.length ∧ RowL w Hp ds cs := by
 intro n
 induction n with
 | zero => intro t cs x _ h; simp [DataW.trod] at h
 | succ n ih =>
  intro t cs x ht h hw
  have hpt : plainT P l t = true := List.all_eq_true.1 hB t ht
  unfold plainT at hpt
  have one : ∀ {d : D} {v : Value}, d.one = true → R w Hp d v → RowL w Hp [d] [v] := fun h1 h2 j d' hd' => by
   cases j with
   | zero => simp at hd'; subst hd'; exact ⟨h1, h2⟩
   | succ j => simp at hd'
  cases hu : P.underlying t with
  | none => rw [hu] at hpt; cases hpt
  | some u =>
   cases u with
   | bool =>
    rw [hu] at hpt
    obtain ⟨b, rfl, rfl⟩ := DataW.trod_bool hu h
    exact ⟨(of_decide_eq_true hpt).symm, _, .bool b hu, rfl, one rfl (.bool b)⟩
   | int k =>
    rw [hu] at hpt
    obtain ⟨m, rfl, rfl, hwf⟩ := DataW.trod_int hu h
    exact ⟨(of_decide_eq_true hpt).symm, _, .int m hu hwf, rfl, one rfl (.int k m)⟩
   | string =>
    rw [hu] at hpt
    obtain ⟨s, rfl, rfl, _⟩ := DataW.trod_string hu h
    have hsz : s.size ≤ reachBytes := by simpa [DataW.weights] using hw
    exact ⟨(of_decide_eq_true hpt).symm, _, .str s hu hsz, rfl, one rfl (.str s)⟩
   | slice e =>
    rw [hu] at hpt
    simp only [Bool.and_eq_true, decide_eq_true_eq] at hpt
    obtain ⟨⟨⟨hc1, hel⟩, hce⟩, hbe⟩ := hpt
    have hel : e ∈ l := by simpa using hel
    rcases DataW.trod_slice hu h with ⟨rfl, rfl⟩ | ⟨a, len, cap, elems, rest, m, hm, rfl, rfl, hb, hlc, hmx, hlen, hat, _, _⟩
    ·exact ⟨hc1.symm, _, .sl [] hu (by simp) (by simp), rfl, one rfl (.sl0 _ _ _)⟩
    ·cases hm
     have hw2 : (elems.length + rest.length) * P.bytesOf e ≤ reachBytes ∧ (DataW.weightsAll P e (elems.map (·.1))).all (· ≤ reachBytes) = true := by
      rw [DataW.weights, hu] at hw
      simp only [List.all_cons, List.all_append, Bool.and_eq_true, decide_eq_true_eq, List.length_map] at hw
      exact ⟨hw.1, hw.2.1⟩
     have hex : ∀ i, ∃ p : List D × List Value, i < len → Fits P e p.1 ∧ p.1.length = P.cellsOf e ∧ RowL w Hp p.1 p.2 ∧ ∀ j, j < P.cellsOf e → w.cell? ((a.add (i * P.cellsOf e)).add j) = some (p.2.getD j Go.undef) := by
      intro i
      by_cases hi : i < len
      ·have hy := hat i hi
       have hie : i < elems.length := by omega
       rw [List.getElem?_eq_getElem hie, Option.bind_eq_some_iff] at hy
       obtain ⟨ci, hci, hti⟩ := hy
       obtain ⟨_, hcl, hcg⟩ := World.cells?_some hci
       obtain ⟨k1, ds, k2, k3, k4⟩ := ih e ci elems[i] hel hti (weightsAll_mem hw2.2 _ (List.mem_map.2 ⟨_, List.getElem_mem hie, rfl⟩))
       refine ⟨(ds, ci), fun _ => ⟨k2, by rw [k3]; exact k1, k4, fun j hj => ?_⟩⟩
       rw [hcg j hj, List.getD_eq_getElem?_getD, List.getElem?_eq_getElem (by rw [hcl]; exact hj)]
       rfl
      ·exact ⟨([], []), fun h => absurd h hi⟩
     obtain ⟨g, hg⟩ := Classical.skolem.1 hex
     have hes : ∀ (i : Nat) (x : List D), ((List.range len).map fun i => (g i).1)[i]? = some x → i < len ∧ x = (g i).1 := fun i x hx => by
      simp only [List.getElem?_map, Option.map_eq_some_iff] at hx
      obtain ⟨y, hy, rfl⟩ := hx
      have hi := (List.getElem?_eq_some_iff.1 hy).1
      simp at hi
      rw [List.getElem?_range hi] at hy
      cases hy
      exact ⟨hi, rfl⟩
     have hl2 : ((List.range len).map fun i => (g i).1).length = len := by simp
     refine ⟨hc1.symm, _, .sl ((List.range len).map fun i => (g i).1) hu ?_ ?_, rfl, one rfl ?_⟩
     ·rw [hl2]
      refine Nat.le_trans (Nat.mul_le_mul_right _ ?_) hw2.1
      omega
     ·intro x hx
      obtain ⟨i, hi⟩ := List.mem_iff_getElem?.1 hx
      obtain ⟨hi', rfl⟩ := hes i x hi
      exact (hg i hi').1
     ·show R w Hp (.sl (P.cellsOf e) ((List.range len).map fun i => (g i).1)) (.slice (some a) len cap)
      by_cases hz : len = 0
      ·subst hz; exact .sl0 _ _ _
      ·have h00 := (hg 0 (by omega)).2.2.2 0 hce
       rw [Nat.zero_mul] at h00
       have hspot : a.spot = none := by
        have e0 : (a.add 0).add 0 = a := rfl
        rw [e0] at h00
        unfold World.cell? at h00
        split at h00
        ·split at h00
         ·cases h00
         ·rename_i hns
          cases hsp : a.spot with
          | none => rfl
          | some _ => rw [hsp] at hns; exact absurd rfl hns
        ·cases h00
       have hblk : a.block < w.heap.size := by
        have e0 : (a.add 0).add 0 = a := rfl
        rw [e0] at h00
        unfold World.cell? at h00
        by_cases hlt : a.block < w.heap.size
        ·exact hlt
        ·rw [Array.getElem?_eq_none (by omega)] at h00; cases h00
       have hcell : ∀ i j, i < len → j < P.cellsOf e → w.cell? ⟨a.block, a.off + i * P.cellsOf e + j, none⟩ = some ((g i).2.getD j Go.undef) := fun i j hi hj => by
        have := (hg i hi).2.2.2 j hj
        rw [add_off' hspot, add_off' rfl] at this
        exact this
       have hR := R.sl (w := w) (H := Hp) (P.cellsOf e) ((List.range len).map fun i => (g i).1) a.block a.off cap (fun i j => (g i).2.getD j Go.undef) hblk (hH _)
        (fun i x hx => by obtain ⟨hi, rfl⟩ := hes i x hx; exact (hg i hi).2.1) (by rw [hl2]; exact hlc) (fun i j hi hj => hcell i j (by rw [hl2] at hi; exact hi) hj)
        (fun i x j d hx hd' => by obtain ⟨hi, rfl⟩ := hes i x hx; exact ((hg i hi).2.2.1 j d hd').1) (fun i x j d hx hd' => by obtain ⟨hi, rfl⟩ := hes i x hx; exact ((hg i hi).2.2.1 j d hd').2)
       rw [hl2] at hR
       obtain ⟨ab, ao, as_⟩ := a
       simp only at hspot
       subst hspot
       exact hR
   | struct fs =>
    rw [hu] at hpt
    simp only [Bool.and_eq_true, decide_eq_true_eq, List.all_eq_true] at hpt
    obtain ⟨htile, hall⟩ := hpt
    obtain ⟨xs, m, hm, rfl, hcl, hxl, hat⟩ := DataW.trod_struct hu h
    cases hm
    have hwe : (DataW.weightsEach P (fs.toList.map (·.type)) (xs.map (·.1))).all (· ≤ reachBytes) = true := by
     rw [DataW.weights, hu] at hw; exact hw
    have hex : ∀ i : Nat, ∃ p : List D, ∀ f : Field, fs[i]? = some f → Fits P f.type p ∧ p.length = P.cellsOf f.type ∧ RowL w Hp p ((cs.drop f.offset).take (P.cellsOf f.type)) := by
     intro i
     cases hf : fs[i]? with
     | none => exact ⟨[], fun f h => by cases h⟩
     | some f =>
      have hi := (Array.getElem?_eq_some_iff.1 hf).1
      have hxi : i < xs.length := by omega
      have hy := hat i f hf
      rw [List.getElem?_eq_getElem hxi] at hy
      have hfl : f.type ∈ l := by
       have := hall f (by rw [Array.mem_toList_iff]; exact Array.mem_of_getElem? hf)
       simpa using this
      have hwi := weightsEach_at hwe i f.type xs[i].1 (by simp [hf]) (by simp [List.getElem?_eq_getElem hxi])
      obtain ⟨k1, ds, k2, k3, k4⟩ := ih f.type _ xs[i] hfl hy hwi
      refine ⟨ds, fun f' hf' => ?_⟩
      cases hf'
      exact ⟨k2, by rw [k3]; exact k1, k4⟩
    obtain ⟨g, hg⟩ := Classical.skolem.1 hex
    have hpl : ((List.range fs.size).map g).length = fs.size := by simp
    have hpg : ∀ (i : Nat) (f : Field) (p : List D), fs[i]? = some f → ((List.range fs.size).map g)[i]? = some p → p = g i := fun i f p hf hp => by
     have hi := (Array.getElem?_eq_some_iff.1 hf).1
     rw [List.getElem?_map, List.getElem?_range hi] at hp
     cases hp; rfl
    obtain ⟨_, hlen, hrow⟩ := tile_rows (P := P) (w := w) (Hp := Hp) (cs := cs) fs.toList 0 (P.cellsOf t) ((List.range fs.size).map g) htile (by omega) (by simp) (fun i f p hf hp => by
     have hf' : fs[i]? = some f := by simpa using hf
     have := hpg i f p hf' hp
     subst this
     exact ⟨(hg i f hf').2.1, (hg i f hf').2.2⟩)
    refine ⟨hcl, _, .struct ((List.range fs.size).map g) hu hpl (fun i f p hf hp => by have := hpg i f p hf hp; subst this; exact (hg i f hf).1), by omega, fun j d hd => ?_⟩
    have := hrow j d hd
    rwa [Nat.zero_add] at this
   | _ => rw [hu] at hpt; cases hpt
def FitsV (P : Program) (t : TypeId) (x : D) : Prop := match P.underlying t with
 | some (.struct _) => ∃ ds, x = .agg ds ∧ Fits P t ds
 | _ => Fits P t [x]
theorem arg_fits {l : List TypeId} (hB : plainB P l = true) {w : World} {base b0 : Nat} {sp : Nat → Bool} {hd : Bool} {Hp : Heap} (hH : ∀ b, Hp.held b = false) {t : TypeId} {v : Value} {d : DataW H} {ps : List MemPlace} (ht : t ∈ l)
  (hval : Value.okWide P w .any b0 t v) (h : DataW.Trod enc P w base sp hd t v d ps) (hw : (d.weights P t).all (· ≤ reachBytes) = true) : ∃ x, FitsV P t x ∧ R w Hp x v := by
 obtain ⟨n, hn⟩ := h
 obtain ⟨h1, ds, h2, h3, h4⟩ := fits_of_trod hB hH n t v.cells.toList (d, ps) ht hn hw
 have hpt : plainT P l t = true := List.all_eq_true.1 hB t ht
 have leaf : (∀ fs, P.underlying t ≠ some (.struct fs)) → v.cells.toList = [v] → ∃ x, FitsV P t x ∧ R w Hp x v := by
  intro hns hv
  rw [hv] at h3 h4
  match ds, h3 with
  | [x], _ =>
   refine ⟨x, ?_, (h4 0 x rfl).2⟩
   unfold FitsV
   split
   ·rename_i fs hfs; exact absurd hfs (hns fs)
   ·exact h2
 cases hu : P.underlying t with
 | none => unfold plainT at hpt; rw [hu] at hpt; cases hpt
 | some u =>
  cases u with
  | bool => obtain ⟨b, rfl⟩ := okWide_bool hu hval; exact leaf (by simp [hu]) rfl
  | int k => obtain ⟨m, rfl⟩ := okWide_int hu hval; exact leaf (by simp [hu]) rfl
  | string => obtain ⟨s, rfl⟩ := okWide_string hu hval; exact leaf (by simp [hu]) rfl
  | slice e => obtain ⟨a, len, cap, rfl⟩ := okWide_slice hu hval; exact leaf (by simp [hu]) rfl
  | struct fs =>
   simp only [Value.okWide, hu] at hval
   obtain ⟨cs, rfl, hsz, _⟩ := hval
   refine ⟨.agg ds, ?_, .agg _ _ (by rw [h3]; rfl) (fun i d hd => (h4 i d hd).1) (fun i d hd => ?_)⟩
   ·unfold FitsV; rw [hu]; exact ⟨ds, rfl, h2⟩
   ·have := (h4 i d hd).2
    have e : (Value.agg cs).cells.toList.getD i Go.undef = cs.getD i Go.undef := by
     show cs.toList.getD i Go.undef = _
     simp
    rwa [e] at this
  | _ => unfold plainT at hpt; rw [hu] at hpt; cases hpt
theorem fits_str {t : TypeId} {ds : List D} (hu : P.underlying t = some .string) (h : Fits P t ds) : ∃ s, ds = [.str s] ∧ s.size ≤ reachBytes := by
 cases h with
 | str s h hs => exact ⟨s, rfl, hs⟩
 | bool b h => rw [hu] at h; cases h
 | int n h => rw [hu] at h; cases h
 | sl es h => rw [hu] at h; cases h
 | struct ps h => rw [hu] at h; cases h
theorem fits_bool {t : TypeId} {ds : List D} (hu : P.underlying t = some .bool) (h : Fits P t ds) : ∃ b, ds = [.bool b] := by
 cases h with
 | bool b h => exact ⟨b, rfl⟩
 | str s h hs => rw [hu] at h; cases h
 | int n h => rw [hu] at h; cases h
 | sl es h => rw [hu] at h; cases h
 | struct ps h => rw [hu] at h; cases h
theorem fits_int {t : TypeId} {k : IntKind} {ds : List D} (hu : P.underlying t = some (.int k)) (h : Fits P t ds) : ∃ n, ds = [.int k n] ∧ (Lit.int k n).wf = true := by
 cases h with
 | int n h hw => rw [hu] at h; cases h; exact ⟨n, rfl, hw⟩
 | bool b h => rw [hu] at h; cases h
 | str s h hs => rw [hu] at h; cases h
 | sl es h => rw [hu] at h; cases h
 | struct ps h => rw [hu] at h; cases h
theorem fits_sl {t e : TypeId} {ds : List D} (hu : P.underlying t = some (.slice e)) (h : Fits P t ds) : ∃ es, ds = [.sl (P.cellsOf e) es] ∧ es.length * P.bytesOf e ≤ reachBytes ∧ ∀ x ∈ es, Fits P e x := by
 cases h with
 | sl es h hl he => rw [hu] at h; cases h; exact ⟨es, rfl, hl, he⟩
 | bool b h => rw [hu] at h; cases h
 | str s h hs => rw [hu] at h; cases h
 | int n h => rw [hu] at h; cases h
 | struct ps h => rw [hu] at h; cases h
theorem fits_struct {t : TypeId} {fs : Array Field} {ds : List D} (hu : P.underlying t = some (.struct fs)) (h : Fits P t ds) : ∃ ps : List (List D), ds = ps.flatten ∧ ps.length = fs.size ∧ ∀ (i : Nat) (f : Field) (p : List D), fs[i]? = some f → ps[i]? = some p → Fits P f.type p := by
 cases h with
 | struct ps h hl hp => rw [hu] at h; cases h; exact ⟨ps, rfl, hl, hp⟩
 | bool b h => rw [hu] at h; cases h
 | str s h hs => rw [hu] at h; cases h
 | int n h => rw [hu] at h; cases h
 | sl es h => rw [hu] at h; cases h
theorem fitsV_leaf {t : TypeId} {x : D} (hn : ∀ fs, P.underlying t ≠ some (.struct fs)) (h : FitsV P t x) : Fits P t [x] := by
 unfold FitsV at h
 split at h
 ·rename_i fs hfs; exact absurd hfs (hn fs)
 ·exact h
theorem fitsV_struct {t : TypeId} {fs : Array Field} {x : D} (hu : P.underlying t = some (.struct fs)) (h : FitsV P t x) : ∃ ds, x = .agg ds ∧ Fits P t ds := by
 unfold FitsV at h
 rw [hu] at h
 exact h
theorem wf_i64 {n : Int} (h : (Lit.int .i64 n).wf = true) : -9223372036854775808 ≤ n ∧ n ≤ 9223372036854775807 := by
 unfold Lit.wf at h
 rw [Bool.and_eq_true, decide_eq_true_eq, decide_eq_true_eq] at h
 exact h
theorem belowTrodAll (hl : laidOutB P = true) {W W' : World} (hb : Below W.heap.size W W') : ∀ {ts : List TypeId} {vs : List Value} {ds : List (DataW H)} {ps : List MemPlace}, ts.all (fun t => P.readableRec t && decide (t < P.types.size)) = true →
  DataW.TrodAll enc P W 0 (fun _ => true) true ts vs ds ps → (∀ x ∈ ps, x.block < W.heap.size) → DataW.TrodAll enc P W' 0 (fun b => decide (b < W.heap.size)) true ts vs ds ps
 | [], [], [], _, _, h, _ => h
 | [], [], _ :: _, _, _, h, _ => h.elim
 | [], _ :: _, _, _, _, h, _ => h.elim
 | _ :: _, [], _, _, _, h, _ => h.elim
 | _ :: _, _ :: _, [], _, _, h, _ => h.elim
 | t :: ts, v :: vs, d :: ds, ps, ht, h, hlt => by
  obtain ⟨p, q, h1, h2, rfl⟩ := h
  simp only [List.all_cons, Bool.and_eq_true, decide_eq_true_eq] at ht
  exact ⟨p, q, Below.trod hl ht.1.1 ht.1.2 h1 hb (fun x hx => hlt x (List.mem_append_left _ hx)), belowTrodAll hl hb ht.2 h2 (fun x hx => hlt x (List.mem_append_right _ hx)), rfl⟩
theorem law_calls {f : Nat} {fn : Func} {s : ChangeSpec} {W : World} {args : Array Value} {ds gs : List (DataW H)} {before : List MemPlace} {tb : TypeId} (hlaid : laidOutB P = true) (hread : fn.params.toList.all (fun t => P.readableRec t && decide (t < P.types.size)) = true)
  (hv : s.vars = []) (hres : fn.resultTypes = #[tb]) (hb : P.underlying tb = some .bool) (hs : s.fn H ds = { results := [.lit (.bool true)], args := ds })
  (hW : DataW.Whole enc P fn.params.toList s.vars false W args.toList ds gs before) (Hp : Heap) (hH : ∀ b, Hp.held b = false) (hS : Sat Hp W) (xs : List D) (hx : xs.length = args.size) (hR : ∀ (i : Nat) d, xs[i]? = some d → R W Hp d (args.getD i Go.undef))
  (hA : ∀ Q : D → Heap → Prop, Q (.bool true) Hp → ACalls P f xs Hp Q) : Calls P f args W fun e W' => ∃ v, e = .returned v ∧ s.post enc P fn false true false false W args v W' := by
 have hlt := hW.lt
 have hW0 := hW
 obtain ⟨p, q, hA0, hV, rfl, hfz, hnd⟩ := hW
 rw [hv] at hV
 obtain ⟨rfl, rfl⟩ := trodVars_none hV
 refine ((hA (fun d _ => d = .bool true) rfl).2 W args hx hR hS).mono fun e W' ⟨v, he, d, H', h1, h2, h3, h4, h5⟩ => ⟨v, he, ?_⟩
 subst h5
 have hbv := h1.bool_inv
 subst hbv
 have hbel : Below W.heap.size W W' := ⟨h3.os, h3.tape, h3.output, h3.size, fun k hk => h3.block k hk (hH k)⟩
 have hs' : s.fn H (ds ++ []) = { results := [.lit (.bool true)], args := ds } := by rw [List.append_nil]; exact hs
 refine ⟨ds, [], p ++ [], [], p, [], hW0, ?_, ?_, ?_, hbel.frame _, fun h => by cases h⟩
 ·rw [hs', hres]
  exact trodAll_mk1 (shut_bool hb true)
 ·rw [hs']
  exact belowTrodAll hlaid hbel hread hA0 (fun x hx => hlt x (by simpa using hx))
 ·rw [hs', hv]
  exact rfl
theorem laid_at {P : Program} {w : World} : ∀ {l : List (String × DataW Unit)} {ps : List MemPlace}, DataW.LaidVars P w l ps → ∀ n d, (n, d) ∈ l →
  ∃ g t cs fuel p, P.globalNamed n = some g ∧ (P.globals[g]?).map (·.type) = some t ∧ w.var? P n = some cs ∧ DataW.trod (fun _ => ()) P w 0 (fun _ => true) false fuel t cs.toList = some (d, p)
 | [], _, _, n, d, h => by cases h
 | (n0, d0) :: r, ps, h, n, d, hm => by
  obtain ⟨g, t, cs, fuel, p, q, h1, h2, h3, h4, h5, _⟩ := h
  rcases List.mem_cons.1 hm with e | hm
  ·cases e; exact ⟨g, t, cs, fuel, p, h1, h2, h3, h4⟩
  ·exact laid_at h5 n d hm
theorem tab_obj {P : Program} {W : World} {laid : List (String × DataW Unit)} (h : laidMet P laid W) {name : String} {k : IntKind} {zs : List Int} (hm : (name, Lib.tabData k zs) ∈ laid) {g : Nat} {t e : TypeId} {n : Nat}
  (hg : P.globalNamed name = some g) (hty : (P.globals[g]?).map (·.type) = some t) (ht : P.underlying t = some (.array n e)) (he : P.underlying e = some (.int k)) (hce : P.cellsOf e = 1) (hct : P.cellsOf t = n) (Hp : Heap) : ObjOk W Hp g (.ro (tabD k zs)) := by
 obtain ⟨ps, hl, _⟩ := h
 obtain ⟨g', t', cs, fuel, p, hg', ht', hvar, hd⟩ := laid_at hl _ _ hm
 obtain rfl := Option.some.inj (hg.symm.trans hg')
 obtain rfl := Option.some.inj (hty.symm.trans ht')
 have hcs := Lib.cells_of_tab ht he hce hct hd
 unfold World.var? at hvar
 rw [hg] at hvar
 simp only [Option.bind_some] at hvar
 split at hvar
 ·rename_i c T fz hw
  cases hvar
  refine ⟨cs, T, fz, hw, by rw [← Array.length_toList, hcs]; simp [tabD], fun j d hd => ?_⟩
  simp only [tabD, List.getElem?_map, Option.map_eq_some_iff] at hd
  obtain ⟨z, hz, rfl⟩ := hd
  have e : cs.getD j Go.undef = .int k z := by
   rw [show cs.getD j Go.undef = cs.toList.getD j Go.undef by simp, hcs]
   simp [hz]
  rw [e]
  exact ⟨rfl, .int _ _⟩
 ·cases hvar
end
end Go.Av
end
section
set_option maxRecDepth 100000
namespace Go.Proofs.YtacekpdodelnbaaGreatDoor
open Go Go.Av Go.Lexs Go.Lin
theorem own : ownKnob Tryz.prog.godebug = none := by kernel_rfl
theorem laidOut : laidOutB Tryz.prog = true := by kernel_rfl
def tabs (u v : Nat) : Heap := fun g => if g = 1 then some (.ro (tabD .u64 Lib.pow10Tab))
 else if g = 2 then some (.ro [.iface u .undef])
 else if g = 3 then some (.ro [.iface v .undef]) else none
theorem tabs_held (u v : Nat) (b : Nat) : (tabs u v).held b = false := by
 cases h : tabs u v b with
 | none => exact held_none h
 | some o =>
  have : ∃ cs, o = .ro cs := by
   unfold tabs at h
   repeat' (split at h; · cases h; exact ⟨_, rfl⟩)
   cases h
  obtain ⟨cs, rfl⟩ := this
  rw [held_of h]; rfl
theorem tabs_tabs (u v : Nat) : Tabs (tabs u v) := by
 refine ⟨?_, ⟨u, ?_⟩, ⟨v, ?_⟩⟩ <;> (unfold tabs; simp only [Nat.reduceEqDiff, if_true, if_false])
theorem err_obj {P : Program} {W : World} {laid : List (String × DataW Unit)} (h : laidMet P laid W) {name nm : String} {x : DataW Unit} (hm : (name, DataW.iface nm x) ∈ laid) {g : Nat} {t : TypeId} {ms : Array String}
  (hg : P.globalNamed name = some g) (hty : (P.globals[g]?).map (·.type) = some t) (hi : (match P.underlying t with | some (.interface _) => true | _ => false) = true) (Hp : Heap) : ∃ u, ObjOk W Hp g (.ro [.iface u .undef]) := by
 obtain ⟨ps, hl, _⟩ := h
 obtain ⟨g', t', cs, fuel, p, hg', ht', hvar, hd⟩ := laid_at hl _ _ hm
 obtain rfl := Option.some.inj (hg.symm.trans hg')
 obtain rfl := Option.some.inj (hty.symm.trans ht')
 have hc : ∃ u v, cs.toList = [.iface u v] := by
  cases fuel with
  | zero => simp [DataW.trod] at hd
  | succ fuel =>
   unfold DataW.trod at hd
   split at hi
   ·rename_i ms hu
    rw [hu] at hd
    split at hd <;> first | (rename_i h1 h2; cases h1; done) | skip
    all_goals first | exact ⟨_, _, by assumption⟩ | (simp at hd; done)
   ·cases hi
 obtain ⟨u, v, hcs⟩ := hc
 unfold World.var? at hvar
 rw [hg] at hvar
 simp only [Option.bind_some] at hvar
 split at hvar
 ·rename_i c T fz hw
  cases hvar
  refine ⟨u, cs, T, fz, hw, by rw [← Array.length_toList, hcs]; rfl, fun j d hd => ?_⟩
  match j, hd with
  | 0, hd =>
   cases hd
   have e : cs.getD 0 Go.undef = .iface u v := by
    rw [show cs.getD 0 Go.undef = cs.toList.getD 0 Go.undef by simp, hcs]; rfl
   rw [e]
   exact ⟨rfl, .iface _ _ _ (.undef _)⟩
  | j + 1, hd => cases hd
 ·cases hvar
theorem pow_data : (Rows.laid_internal_strconv_uint64pow10 : DataW Unit) = Lib.tabData .u64 Lib.pow10Tab := by kernel_rfl
theorem tabs_sat {W : World} {laid : List (String × DataW Unit)} (h : laidMet Tryz.prog laid W) (h1 : ("internal/strconv.uint64pow10", (Rows.laid_internal_strconv_uint64pow10 : DataW Unit)) ∈ laid) (h2 : ("strconv.ErrSyntax", (Rows.laid_strconv_ErrSyntax : DataW Unit)) ∈ laid) (h3 : ("strconv.ErrRange", (Rows.laid_strconv_ErrRange : DataW Unit)) ∈ laid) :
  ∃ u v, Sat (tabs u v) W := by
 rw [pow_data] at h1
 obtain ⟨u, hu⟩ := err_obj (ms := #[]) h h2 (g := 2) (by kernel_rfl) (t := 126) (by kernel_rfl) (by kernel_rfl) (fun _ => none)
 obtain ⟨v, hv⟩ := err_obj (ms := #[]) h h3 (g := 3) (by kernel_rfl) (t := 126) (by kernel_rfl) (by kernel_rfl) (fun _ => none)
 refine ⟨u, v, ?_⟩
 intro b o hb
 unfold tabs at hb
 have mono : ∀ {b x : Nat}, ObjOk W (fun _ => none) b (.ro [.iface x .undef]) → ObjOk W (tabs u v) b (.ro [.iface x .undef]) := fun {b x} ⟨c, T, fz, q1, q2, q3⟩ => ⟨c, T, fz, q1, q2, fun j d hd => ⟨(q3 j d hd).1, by
  have := (q3 j d hd).2
  match j, hd with
  | 0, hd =>
   cases hd
   generalize c.getD 0 Go.undef = y at this ⊢
   cases this with
   | iface _ _ v hr => exact .iface _ _ _ (.undef _)
  | j + 1, hd => cases hd⟩⟩
 split at hb
 ·rename_i e; cases hb; subst e
  exact tab_obj h h1 (by kernel_rfl) (t := (Tryz.prog.globals[1]?.map (·.type)).getD 0) (by kernel_rfl) (n := 20) (e := 179) (by kernel_rfl) (by kernel_rfl) (by kernel_rfl) (by kernel_rfl) _
 split at hb
 ·rename_i e; cases hb; subst e; exact mono hu
 split at hb
 ·rename_i e; cases hb; subst e; exact mono hv
 ·cases hb
theorem list_three {α : Type} : ∀ (l : List α), l.length = 3 → ∃ a b c, l = [a, b, c]
 | [a, b, c], _ => ⟨a, b, c, rfl⟩
 | [], h => by cases h
 | [_], h => by cases h
 | [_, _], h => by cases h
 | _ :: _ :: _ :: _ :: _, h => by simp at h
theorem list_two {α : Type} : ∀ (l : List α), l.length = 2 → ∃ a b, l = [a, b]
 | [a, b], _ => ⟨a, b, rfl⟩
 | [], h => by cases h
 | [_], h => by cases h
 | _ :: _ :: _ :: _, h => by simp at h
theorem rw_ex {α : Type} {f : α → List D} {p : α → Prop} : ∀ (es : List (List D)), (∀ x ∈ es, ∃ t, x = f t ∧ p t) → ∃ l : List α, es = Rw f l ∧ ∀ t ∈ l, p t
 | [], _ => ⟨[], rfl, by simp⟩
 | x :: es, h => by
  obtain ⟨t, rfl, ht⟩ := h x (by simp)
  obtain ⟨l, rfl, hl⟩ := rw_ex es (fun y hy => h y (by simp [hy]))
  refine ⟨t :: l, rfl, fun u hu => ?_⟩
  rcases List.mem_cons.1 hu with rfl | hu
  ·exact ht
  ·exact hl u hu
theorem fits_lt {el : List D} (h : Fits Tryz.prog 72 el) : ∃ t : LTm, el = ltC t ∧ (t.v.size ≤ 140737488351232 ∧ i64 t.c) := by
 have hre : reachBytes = 140737488351232 := rfl
 obtain ⟨ps, rfl, hl, hp⟩ := fits_struct Tryz.underlying72 h
 obtain ⟨p0, p1, rfl⟩ := list_two ps hl
 obtain ⟨s, rfl, hs⟩ := fits_str (by kernel_rfl) (hp 0 _ _ rfl rfl)
 obtain ⟨n, rfl, hn⟩ := fits_int (k := .i64) (by kernel_rfl) (hp 1 _ _ rfl rfl)
 exact ⟨⟨s, n⟩, rfl, by simp only []; omega, wf_i64 hn⟩
theorem fits_lin {el : List D} (h : Fits Tryz.prog 24 el) : ∃ a : LinV, el = linC a ∧ LinFit a := by
 have hre : reachBytes = 140737488351232 := rfl
 obtain ⟨ps, rfl, hl, hp⟩ := fits_struct Tryz.underlying24 h
 obtain ⟨p0, p1, p2, rfl⟩ := list_three ps hl
 obtain ⟨es, rfl, he, hes⟩ := fits_sl (e := 72) (by kernel_rfl) (hp 0 _ _ rfl rfl)
 obtain ⟨k, rfl, hk⟩ := fits_int (k := .i64) (by kernel_rfl) (hp 1 _ _ rfl rfl)
 obtain ⟨b, rfl⟩ := fits_bool (by kernel_rfl) (hp 2 _ _ rfl rfl)
 have c1 : Tryz.prog.cellsOf 72 = 2 := by kernel_rfl
 have b1 : Tryz.prog.bytesOf 72 = 24 := by kernel_rfl
 rw [b1] at he
 obtain ⟨l, rfl, hl2⟩ := rw_ex (f := ltC) (p := fun t => t.v.size ≤ 140737488351232 ∧ i64 t.c) es (fun y hy => fits_lt (hes y hy))
 rw [Rw_len] at he
 rw [c1]
 exact ⟨⟨l, k, b⟩, rfl, by simp only []; omega, fun t ht => (hl2 t ht).1, fun t ht => (hl2 t ht).2, wf_i64 hk⟩
theorem fitsV_lin {x : D} (h : FitsV Tryz.prog 24 x) : ∃ a : LinV, x = .agg (linC a) ∧ LinFit a := by
 obtain ⟨ds, rfl, hv⟩ := fitsV_struct Tryz.underlying24 h
 obtain ⟨a, rfl, ha⟩ := fits_lin hv
 exact ⟨a, rfl, ha⟩
theorem plain19 : plainB Tryz.prog [24, 25, 72, 22, 76, 38, 4, 3, 9] = true := by kernel_rfl
end Go.Proofs.YtacekpdodelnbaaGreatDoor
end
