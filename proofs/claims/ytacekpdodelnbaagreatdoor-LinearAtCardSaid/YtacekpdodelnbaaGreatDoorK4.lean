/- Part of the proof: what the last text builds on. No condition stands here. -/
import Derived.Test.YtacekpdodelnbaaGreatDoorProg
import Derived.Test.YtacekpdodelnbaaGreatDoorRows
import Derived.Test.YtacekpdodelnbaaGreatDoorK3
set_option linter.unusedSimpArgs false
set_option linter.unusedVariables false
section
namespace Go.Av
open Go.RowKit
theorem ext_below {H : Heap} {w w' : World} (h : Below w.heap.size w w') : Ext H w w' :=
 ⟨h.os, h.tape, h.output, h.size, fun k hk _ => h.block k hk, fun k hk => by unfold World.shape?; rw [h.block k hk]⟩
theorem sat_below {H : Heap} {w w' : World} (hs : Sat H w) (h : Below w.heap.size w w') : Sat H w' := fun b o hb =>
 (hs b o hb).mono (ext_below h) (From.refl _ _) (h.block b (hs.lt hb))
theorem acalls_kit {P : Program} {f : Nat} {args : List D} {H : Heap} {Q : D → Heap → Prop} {r : D} (hb : bodied P f = true)
  (h : ∀ w (vs : Array Value), args.length = vs.size → (∀ (i : Nat) d, args[i]? = some d → R w H d (vs.getD i Go.undef)) → Sat H w → Calls P f vs w fun e w' => ∃ v, e = .returned v ∧ Below w.heap.size w w' ∧ R w' H r v)
  (hq : Q r H) : ACalls P f args H Q :=
 ⟨hb, fun w vs h1 h2 h3 => (h w vs h1 h2 h3).mono fun e w' ⟨v, he, hB, hR⟩ => ⟨v, he, r, H, hR, sat_below h3 hB, ext_below hB, From.refl _ _, hq⟩⟩
theorem args1 {w : World} {H : Heap} {d : D} {vs : Array Value} (hl : [d].length = vs.size) (hr : ∀ (i : Nat) d', [d][i]? = some d' → R w H d' (vs.getD i Go.undef)) : ∃ a, vs = #[a] ∧ R w H d a := by
 obtain ⟨l⟩ := vs
 match l, hl with
 | [a], _ => exact ⟨a, rfl, by simpa using hr 0 d rfl⟩
theorem args2 {w : World} {H : Heap} {d e : D} {vs : Array Value} (hl : [d, e].length = vs.size) (hr : ∀ (i : Nat) d', [d, e][i]? = some d' → R w H d' (vs.getD i Go.undef)) : ∃ a b, vs = #[a, b] ∧ R w H d a ∧ R w H e b := by
 obtain ⟨l⟩ := vs
 match l, hl with
 | [a, b], _ => exact ⟨a, b, rfl, by simpa using hr 0 d rfl, by simpa using hr 1 e rfl⟩
def tabD (k : IntKind) (zs : List Int) : List D := zs.map (D.int k)
theorem tabIs_of {P : Program} {w : World} {H : Heap} {name : String} {g : Nat} {k : IntKind} {zs : List Int} (hg : P.globalNamed name = some g) (hs : Sat H w) (h : H g = some (.ro (tabD k zs))) : Lib.TabIs P w name k zs := by
 obtain ⟨c, T, fz, h1, h2, h3⟩ := hs g _ h
 unfold Lib.TabIs World.var?
 rw [hg]
 simp only [Option.bind_some, h1, Option.some.injEq]
 apply Array.ext
 ·simpa [tabD] using h2
 ·intro i hi1 hi2
  simp at hi2
  have := (h3 i (.int k zs[i]) (by simp [tabD, hi2])).2
  have e := this.int_inv
  simp [hi1] at e
  simp [e]
theorem below_grow (w : World) (k : Nat) (os : Array Go.Obj) : Below w.heap.size w (Sort.grow (w.drewN k) os) :=
 ⟨rfl, rfl, rfl, by simp [Sort.grow, World.drewN], fun i hi => by
  have : (w.drewN k).heap = w.heap := rfl
  simp only [Sort.grow, this]
  rw [Array.getElem?_append, if_pos hi]⟩
theorem below_bytes (w : World) (e : TypeId) (s : ByteArray) : Below w.heap.size w (Lib.bytesWorld w e s) :=
 ⟨rfl, rfl, rfl, by rw [Lib.bytesWorld_size]; omega, fun i hi => Lib.bytesWorld_at_old w e s i hi⟩
end Go.Av
end
section
namespace Go.Proofs.YtacekpdodelnbaaGreatDoor
section
open Go Go.Shelf Go.RowKit
set_option maxHeartbeats 4000000 in
set_option maxRecDepth 100000 in
theorem growW_w (n : Nat) (hn : 0 < n) (hb : n * 64 ≤ 140737488355328) (w : World) :
  Calls Tryz.prog 214 #[.slice none 0 0, .int .i64 n] w fun e w' => ∃ (cs : Array Value) (G : Nat), e = .returned (.slice (some ⟨w.heap.size, 0, none⟩) 0 G) ∧ w' = w.drew.alloc (.cells cs 159) ∧ cs.size = G * 4 ∧ n ≤ G := by
 obtain ⟨i, hi, hz, hs, hby⟩ : ∃ i, Tryz.prog.info? 159 = some i ∧ i.zero = some (Value.agg #[.slice none 0 0, .bool false, .slice none 0 0, .bool false]) ∧ i.size = 4 ∧ i.bytes = 64 := by
  have h : (Tryz.prog.info? 159).map (fun i => (i.zero, i.size, i.bytes)) = some (some (Value.agg #[.slice none 0 0, .bool false, .slice none 0 0, .bool false]), 4, 64) := by kernel_rfl
  obtain ⟨i, hi, e⟩ := Option.map_eq_some_iff.1 h
  simp only [Prod.mk.injEq] at e
  exact ⟨i, hi, e.1, e.2.1, e.2.2⟩
 have mixed : Tryz.prog.follows .mixedOrders = true := by kernel_rfl
 have t1 := Tryz.underlying130; have a1 := Tryz.isAgg130; have z1 := Tryz.sizeOf130; have v1 := Tryz.zeroValue130; have u1 := run_underlying t1
 have t3 := Tryz.underlying3; have a3 := Tryz.isAgg3; have z3 := Tryz.sizeOf3; have v3 := Tryz.zeroValue3; have u3 := run_underlying t3
 have t4 := Tryz.underlying4; have a4 := Tryz.isAgg4; have z4 := Tryz.sizeOf4; have v4 := Tryz.zeroValue4; have u4 := run_underlying t4
 have t6 := Tryz.underlying159; have a6 := Tryz.isAgg159; have z6 := Tryz.sizeOf159; have v6 := Tryz.zeroValue159; have u6 := run_underlying t6
 have h1 : ¬ ((n : Int) < 0) := by omega
 have h3 : RowKit.wrap64 ((n : Int) - 0) = (n : Int) := by unfold RowKit.wrap64; omega
 have h4 : (n : Int) > 0 := by omega
 have hrun := Lib.run_append_nil_zeros w 130 3 130 159 i _ .i64 .i64 t1 t3 hi hz n hn (by omega) (by omega) (by rw [hby]; omega)
 obtain ⟨G, hG⟩ : ∃ G, G = grownCap w n 0 159 := ⟨_, rfl⟩
 have hGn : n ≤ grownCap w n 0 159 := grownCap_ge w _ _ _
 have hG63 : G ≤ 9223372036854775807 := by
  have := grownCap_le_maxLen w n 0 159 (by unfold maxLen; omega)
  rw [← hG] at this
  unfold maxLen at this
  omega
 rw [← hG] at hrun hGn
 obtain ⟨cs, hcs⟩ : ∃ cs, cs = Builtin.zeroCells (Value.agg #[.slice none 0 0, .bool false, .slice none 0 0, .bool false]).cells n ++ Builtin.zeroCells (Value.agg #[.slice none 0 0, .bool false, .slice none 0 0, .bool false]).cells (G - n) := ⟨_, rfl⟩
 have hsz : cs.size = G * 4 := by
  rw [hcs, Array.size_append, size_zeroCells, size_zeroCells]
  show n * 4 + (G - n) * 4 = G * 4
  omega
 rw [← hcs] at hrun
 clear hG hcs
 go_enter Tryz.func214, Tryz.ntmps214
 go_wp2_with (at_builtin; refine Lib.wpList_append_run _ rfl _ _ _ _ rfl _ _ rfl rfl _ _ hrun ?_)
 all_goals (go_ret; exact ⟨cs, G, rfl, rfl, by first | exact hsz | simpa using hsz, hGn⟩)
end
section
open Go Go.Av Go.Lin
theorem grow0W_x {Q} (H : Heap) (h0 : Q .nilsl H) : ACalls Tryz.prog 214 [.nilsl, .int .i64 0] H Q := by
 refine acalls_of_wp [] Tryz.mixed Tryz.func214 rfl (by kernel_rfl) (of_decide_eq_true (by kernel_rfl)) (by kernel_rfl) ?_
 simp only [go_sem,seval, Tryz.results214]
 repeat' (first | with_reducible refine And.intro ?_ ?_ | simp only [go_sem,seval] | simp (disch := omega) only [wrap64] | intro hx_ | omega)
 all_goals exact Fin.same h0
theorem growW_a {Q} (n : Nat) (hb : n * 64 ≤ 140737488355328) (H : Heap) (h0 : n = 0 → Q .nilsl H) (h : n ≠ 0 → ∀ b, H b = none → Q (.vec b 4 0 0) (H.set b (.vec 4 []))) : ACalls Tryz.prog 214 [.nilsl, .int .i64 n] H Q := by
 by_cases hn : n = 0
 ·subst hn
  exact grow0W_x H (h0 rfl)
 ·refine ⟨by kernel_rfl, fun w vs hl hr hs => ?_⟩
  obtain ⟨a, b, rfl, ha, hb'⟩ := args2 hl hr
  have ea : a = .slice none 0 0 := by cases ha; rfl
  rw [ea, hb'.int_inv]
  refine (growW_w n (by omega) hb w).mono ?_
  rintro e w' ⟨cs, G, rfl, rfl, hsz, hGn⟩
  have hs1 := hs.same (w' := w.drew) rfl (Ext.drewN H w 1)
  obtain ⟨d, H', k1, k2, k3, k4, k5⟩ := post_vec (w := w.drew) (K := Q) hs1 (sz := 4) (es := []) (vs := cs) 159 0 G (by omega) ⟨by simp, fun i e he => by simp at he, fun i e j d he => by simp at he, fun i e j d he => by simp at he⟩ (Nat.zero_le _) hsz (fun b hb => h hn b hb)
  exact ⟨_, rfl, d, H', k1, k2, (Ext.drewN H w 1).trans (From.refl _ _) k3, k4, k5⟩
theorem concatW_a {Q} (l m : List Row) (hb : (l.length + m.length) * 64 ≤ 140737488355328) (H : Heap) (h : Q (.sl 4 (Rw rowC (l ++ m))) H) : ACalls Tryz.prog 175 [.sl 1 [[.sl 4 (Rw rowC l)], [.sl 4 (Rw rowC m)]]] H Q := by
 refine acalls_of_wp [] Tryz.mixed Tryz.func175 rfl (by kernel_rfl) (of_decide_eq_true (by kernel_rfl)) (by kernel_rfl) ?_
 simp only [go_sem,seval, Tryz.results175]
 refine loop_c [0, 9, 10] (fun (p : Nat × Int) => [(11, .int .i64 p.1), (3, .int .i64 p.2)]) (fun (p : Nat × Int) => H) (fun (p : Nat × Int) => p.1 ≤ 2 ∧ (p.1 = 0 → p.2 = 0) ∧ (p.1 = 1 → p.2 = l.length) ∧ (p.1 = 2 → p.2 = (l.length : Int) + m.length)) (fun (p : Nat × Int) => 2 - p.1) ((0, 0)) (⟨by simp, by simp, by simp, by simp⟩) (by (try simp only [go_sem,seval]) <;> (try simp (disch := omega) [wrap64]) <;> (try omega)) (by first | with_reducible exact Heap.Le.refl _ | exact heap_set_le (by assumption) | exact Heap.Le.refl _ | exact heap_le_set (by assumption) | exact (by simp only [Go.Av.Heap.Le, Go.Av.Heap.set, Go.Av.Heap.del] at * <;> grind)) ?_
 rintro Ec rfl ⟨k, z⟩ ⟨q1, q2, q3, q4⟩
 simp only at q1 q2 q3 q4
 match k, q1, q2, q3, q4 with
 | 0, q1, q2, q3, q4 =>
  have hz := q2 rfl
  subst hz
  repeat' (first | with_reducible refine And.intro ?_ ?_ | simp only [go_sem,seval, List.getD_cons_zero] | simp (disch := omega) only [wrap64] | intro hx_ | omega)
  exact nx_mk (1, (l.length : Int)) ⟨by simp, by simp, by simp, by simp⟩ (by simp) (by (try simp only [go_sem,seval]) <;> (try simp (disch := omega) [wrap64]) <;> (try omega)) (Heap.Le.refl _)
 | 1, q1, q2, q3, q4 =>
  have hz := q3 rfl
  subst hz
  repeat' (first | with_reducible refine And.intro ?_ ?_ | simp only [go_sem,seval, List.getD_cons_zero, List.getD_cons_succ] | simp (disch := omega) only [wrap64] | intro hx_ | omega)
  exact nx_mk (2, (l.length : Int) + m.length) ⟨by simp, by simp, by simp, by simp⟩ (by simp) (by (try simp only [go_sem,seval]) <;> (try simp (disch := omega) [wrap64]) <;> (try omega)) (Heap.Le.refl _)
 | 2, q1, q2, q3, q4 =>
  have hz := q4 rfl
  subst hz
  have en : (l.length : Int) + m.length = ((l.length + m.length : Nat) : Int) := by omega
  by_cases hne : l.length + m.length = 0
  ·have el : l = [] := List.eq_nil_of_length_eq_zero (by omega)
   have em : m = [] := List.eq_nil_of_length_eq_zero (by omega)
   subst el; subst em
   repeat' (first | with_reducible refine And.intro ?_ ?_ | simp only [go_sem,seval, en] | simp (disch := omega) only [wrap64] | intro hx_ | omega)
   refine growW_a 0 (by omega) H (fun _ => ?_) (fun e => absurd rfl e)
   repeat' (first | with_reducible refine And.intro ?_ ?_ | simp only [go_sem,seval] | simp (disch := omega) only [wrap64] | intro hx_ | omega)
   refine loop_c [25, 26] (fun (k : Nat) => [(27, .int .i64 k), (6, .nilsl)]) (fun (k : Nat) => H) (fun (k : Nat) => k ≤ 2) (fun (k : Nat) => 2 - k) (0) (by omega) (by (try simp only [go_sem,seval]) <;> (try simp (disch := omega) [wrap64]) <;> (try omega)) (by first | with_reducible exact Heap.Le.refl _ | exact heap_set_le (by assumption) | exact Heap.Le.refl _ | exact heap_le_set (by assumption) | exact (by simp only [Go.Av.Heap.Le, Go.Av.Heap.set, Go.Av.Heap.del] at * <;> grind)) ?_
   rintro Ec rfl k hk
   match k, hk with
   | 0, _ =>
    repeat' (first | with_reducible refine And.intro ?_ ?_ | simp only [go_sem,seval, List.getD_cons_zero, Rw_nil] | simp (disch := omega) only [wrap64] | intro hx_ | omega)
    exact nx_mk 1 (by omega) (by omega) (by (try simp only [go_sem,seval]) <;> (try simp (disch := omega) [wrap64]) <;> (try omega)) (Heap.Le.refl _)
   | 1, _ =>
    repeat' (first | with_reducible refine And.intro ?_ ?_ | simp only [go_sem,seval, List.getD_cons_zero, List.getD_cons_succ, Rw_nil] | simp (disch := omega) only [wrap64] | intro hx_ | omega)
    exact nx_mk 2 (by omega) (by omega) (by (try simp only [go_sem,seval]) <;> (try simp (disch := omega) [wrap64]) <;> (try omega)) (Heap.Le.refl _)
   | 2, _ =>
    repeat' (first | with_reducible refine And.intro ?_ ?_ | simp only [go_sem,seval] | simp (disch := omega) only [wrap64] | intro hx_ | omega)
    exact Fin.out (n := 0) (ob := none) rfl rfl (Fin.less (Heap.Le.refl _) h)
   | k + 3, hk => omega
  repeat' (first | with_reducible refine And.intro ?_ ?_ | simp only [go_sem,seval, en] | simp (disch := omega) only [wrap64] | intro hx_ | omega)
  refine growW_a _ hb H (fun e => absurd e hne) fun _ b hbn => ?_
  repeat' (first | with_reducible refine And.intro ?_ ?_ | simp only [go_sem,seval] | simp (disch := omega) only [wrap64] | intro hx_ | omega)
  refine loop_c [25, 26] (fun (p : Nat × Nat × List Row) => [(27, .int .i64 p.1), (6, .vec p.2.1 4 0 p.2.2.length)]) (fun (p : Nat × Nat × List Row) => H.set p.2.1 (.vec 4 (Rw rowC p.2.2))) (fun (p : Nat × Nat × List Row) => p.1 ≤ 2 ∧ H p.2.1 = none ∧ (p.1 = 0 → p.2.2 = []) ∧ (p.1 = 1 → p.2.2 = l) ∧ (p.1 = 2 → p.2.2 = l ++ m)) (fun (p : Nat × Nat × List Row) => 2 - p.1) ((0, b, [])) (⟨by simp, hbn, by simp, by simp, by simp⟩) (by (try simp only [go_sem,seval]) <;> (try simp (disch := omega) [wrap64]) <;> (try omega)) (by first | with_reducible exact Heap.Le.refl _ | exact heap_set_le (by assumption) | exact Heap.Le.refl _ | exact heap_le_set (by assumption) | exact (by simp only [Go.Av.Heap.Le, Go.Av.Heap.set, Go.Av.Heap.del] at * <;> grind)) ?_
  rintro Ec rfl ⟨k, c, X⟩ ⟨q1, hc, q2, q3, q4⟩
  simp only at q1 hc q2 q3 q4
  match k, q1, q2, q3, q4 with
  | 0, q1, q2, q3, q4 =>
   have hz := q2 rfl
   subst hz
   repeat' (first | with_reducible refine And.intro ?_ ?_ | simp only [go_sem,seval, List.getD_cons_zero, set_del hc] | simp (disch := omega) only [wrap64] | intro hx_ | omega)
   rename_i b6
   exact nx_mk (1, b6, l) ⟨by simp, hx_, by simp, by simp, by simp⟩ (by simp) (by (try simp only [go_sem,seval]) <;> (try simp (disch := omega) [wrap64]) <;> (try omega)) (Heap.Le.refl _)
  | 1, q1, q2, q3, q4 =>
   have hz := (q3 rfl).symm
   subst hz
   repeat' (first | with_reducible refine And.intro ?_ ?_ | simp only [go_sem,seval, List.getD_cons_zero, List.getD_cons_succ, set_del hc] | simp (disch := omega) only [wrap64] | intro hx_ | omega)
   rename_i b6
   exact nx_mk (2, b6, l ++ m) ⟨by simp, hx_, by simp, by simp, by simp⟩ (by simp) (by (try simp only [go_sem,seval, List.length_append]) <;> (try simp (disch := omega) [wrap64]) <;> (try omega)) (by simp only []; rw [← Rw_app, List.take_of_length_le (by rw [Rw_len]; exact Nat.le_refl _)]; exact Heap.Le.refl _)
  | 2, q1, q2, q3, q4 =>
   have hz := q4 rfl
   subst hz
   repeat' (first | with_reducible refine And.intro ?_ ?_ | simp only [go_sem,seval] | simp (disch := omega) only [wrap64] | intro hx_ | omega)
   exact Fin.out (ob := some c) (by rw [Rw_len, List.length_append]) (heap_same _ _) (Fin.less (by show H.Le ((H.set c _).del c); rw [set_del hc]; exact Heap.Le.refl _) h)
end
section
open Go Go.Shelf Go.RowKit
set_option maxHeartbeats 4000000 in
set_option maxRecDepth 100000 in
theorem growL_w (n : Nat) (hn : 0 < n) (hb : n * 40 ≤ 140737488355328) (w : World) :
  Calls Tryz.prog 115 #[.slice none 0 0, .int .i64 n] w fun e w' => ∃ (cs : Array Value) (G : Nat), e = .returned (.slice (some ⟨w.heap.size, 0, none⟩) 0 G) ∧ w' = w.drew.alloc (.cells cs 24) ∧ cs.size = G * 3 ∧ n ≤ G := by
 obtain ⟨i, hi, hz, hs, hby⟩ : ∃ i, Tryz.prog.info? 24 = some i ∧ i.zero = some (Value.agg #[.slice none 0 0, .int .i64 0, .bool false]) ∧ i.size = 3 ∧ i.bytes = 40 := by
  have h : (Tryz.prog.info? 24).map (fun i => (i.zero, i.size, i.bytes)) = some (some (Value.agg #[.slice none 0 0, .int .i64 0, .bool false]), 3, 40) := by kernel_rfl
  obtain ⟨i, hi, e⟩ := Option.map_eq_some_iff.1 h
  simp only [Prod.mk.injEq] at e
  exact ⟨i, hi, e.1, e.2.1, e.2.2⟩
 have mixed : Tryz.prog.follows .mixedOrders = true := by kernel_rfl
 have t1 := Tryz.underlying25; have a1 := Tryz.isAgg25; have z1 := Tryz.sizeOf25; have v1 := Tryz.zeroValue25; have u1 := run_underlying t1
 have t3 := Tryz.underlying3; have a3 := Tryz.isAgg3; have z3 := Tryz.sizeOf3; have v3 := Tryz.zeroValue3; have u3 := run_underlying t3
 have t4 := Tryz.underlying4; have a4 := Tryz.isAgg4; have z4 := Tryz.sizeOf4; have v4 := Tryz.zeroValue4; have u4 := run_underlying t4
 have t6 := Tryz.underlying24; have a6 := Tryz.isAgg24; have z6 := Tryz.sizeOf24; have v6 := Tryz.zeroValue24; have u6 := run_underlying t6
 have h1 : ¬ ((n : Int) < 0) := by omega
 have h3 : RowKit.wrap64 ((n : Int) - 0) = (n : Int) := by unfold RowKit.wrap64; omega
 have h4 : (n : Int) > 0 := by omega
 have hrun := Lib.run_append_nil_zeros w 25 3 25 24 i _ .i64 .i64 t1 t3 hi hz n hn (by omega) (by omega) (by rw [hby]; omega)
 obtain ⟨G, hG⟩ : ∃ G, G = grownCap w n 0 24 := ⟨_, rfl⟩
 have hGn : n ≤ grownCap w n 0 24 := grownCap_ge w _ _ _
 have hG63 : G ≤ 9223372036854775807 := by
  have := grownCap_le_maxLen w n 0 24 (by unfold maxLen; omega)
  rw [← hG] at this
  unfold maxLen at this
  omega
 rw [← hG] at hrun hGn
 obtain ⟨cs, hcs⟩ : ∃ cs, cs = Builtin.zeroCells (Value.agg #[.slice none 0 0, .int .i64 0, .bool false]).cells n ++ Builtin.zeroCells (Value.agg #[.slice none 0 0, .int .i64 0, .bool false]).cells (G - n) := ⟨_, rfl⟩
 have hsz : cs.size = G * 3 := by
  rw [hcs, Array.size_append, size_zeroCells, size_zeroCells]
  show n * 3 + (G - n) * 3 = G * 3
  omega
 rw [← hcs] at hrun
 clear hG hcs
 go_enter Tryz.func115, Tryz.ntmps115
 go_wp2_with (at_builtin; refine Lib.wpList_append_run _ rfl _ _ _ _ rfl _ _ rfl rfl _ _ hrun ?_)
 all_goals (go_ret; exact ⟨cs, G, rfl, rfl, by first | exact hsz | simpa using hsz, hGn⟩)
end
section
open Go Go.Av Go.Lin
theorem grow0L_x {Q} (H : Heap) (h0 : Q .nilsl H) : ACalls Tryz.prog 115 [.nilsl, .int .i64 0] H Q := by
 refine acalls_of_wp [] Tryz.mixed Tryz.func115 rfl (by kernel_rfl) (of_decide_eq_true (by kernel_rfl)) (by kernel_rfl) ?_
 simp only [go_sem,seval, Tryz.results115]
 repeat' (first | with_reducible refine And.intro ?_ ?_ | simp only [go_sem,seval] | simp (disch := omega) only [wrap64] | intro hx_ | omega)
 all_goals exact Fin.same h0
theorem growL_a {Q} (n : Nat) (hb : n * 40 ≤ 140737488355328) (H : Heap) (h0 : n = 0 → Q .nilsl H) (h : n ≠ 0 → ∀ b, H b = none → Q (.vec b 3 0 0) (H.set b (.vec 3 []))) : ACalls Tryz.prog 115 [.nilsl, .int .i64 n] H Q := by
 by_cases hn : n = 0
 ·subst hn
  exact grow0L_x H (h0 rfl)
 ·refine ⟨by kernel_rfl, fun w vs hl hr hs => ?_⟩
  obtain ⟨a, b, rfl, ha, hb'⟩ := args2 hl hr
  have ea : a = .slice none 0 0 := by cases ha; rfl
  rw [ea, hb'.int_inv]
  refine (growL_w n (by omega) hb w).mono ?_
  rintro e w' ⟨cs, G, rfl, rfl, hsz, hGn⟩
  have hs1 := hs.same (w' := w.drew) rfl (Ext.drewN H w 1)
  obtain ⟨d, H', k1, k2, k3, k4, k5⟩ := post_vec (w := w.drew) (K := Q) hs1 (sz := 3) (es := []) (vs := cs) 24 0 G (by omega) ⟨by simp, fun i e he => by simp at he, fun i e j d he => by simp at he, fun i e j d he => by simp at he⟩ (Nat.zero_le _) hsz (fun b hb => h hn b hb)
  exact ⟨_, rfl, d, H', k1, k2, (Ext.drewN H w 1).trans (From.refl _ _) k3, k4, k5⟩
theorem concatL_a {Q} (l m : List LinV) (hb : (l.length + m.length) * 40 ≤ 140737488355328) (H : Heap) (h : Q (.sl 3 (Rw linC (l ++ m))) H) : ACalls Tryz.prog 84 [.sl 1 [[.sl 3 (Rw linC l)], [.sl 3 (Rw linC m)]]] H Q := by
 refine acalls_of_wp [] Tryz.mixed Tryz.func84 rfl (by kernel_rfl) (of_decide_eq_true (by kernel_rfl)) (by kernel_rfl) ?_
 simp only [go_sem,seval, Tryz.results84]
 refine loop_c [0, 9, 10] (fun (p : Nat × Int) => [(11, .int .i64 p.1), (3, .int .i64 p.2)]) (fun (p : Nat × Int) => H) (fun (p : Nat × Int) => p.1 ≤ 2 ∧ (p.1 = 0 → p.2 = 0) ∧ (p.1 = 1 → p.2 = l.length) ∧ (p.1 = 2 → p.2 = (l.length : Int) + m.length)) (fun (p : Nat × Int) => 2 - p.1) ((0, 0)) (⟨by simp, by simp, by simp, by simp⟩) (by (try simp only [go_sem,seval]) <;> (try simp (disch := omega) [wrap64]) <;> (try omega)) (by first | with_reducible exact Heap.Le.refl _ | exact heap_set_le (by assumption) | exact Heap.Le.refl _ | exact heap_le_set (by assumption) | exact (by simp only [Go.Av.Heap.Le, Go.Av.Heap.set, Go.Av.Heap.del] at * <;> grind)) ?_
 rintro Ec rfl ⟨k, z⟩ ⟨q1, q2, q3, q4⟩
 simp only at q1 q2 q3 q4
 match k, q1, q2, q3, q4 with
 | 0, q1, q2, q3, q4 =>
  have hz := q2 rfl
  subst hz
  repeat' (first | with_reducible refine And.intro ?_ ?_ | simp only [go_sem,seval, List.getD_cons_zero] | simp (disch := omega) only [wrap64] | intro hx_ | omega)
  exact nx_mk (1, (l.length : Int)) ⟨by simp, by simp, by simp, by simp⟩ (by simp) (by (try simp only [go_sem,seval]) <;> (try simp (disch := omega) [wrap64]) <;> (try omega)) (Heap.Le.refl _)
 | 1, q1, q2, q3, q4 =>
  have hz := q3 rfl
  subst hz
  repeat' (first | with_reducible refine And.intro ?_ ?_ | simp only [go_sem,seval, List.getD_cons_zero, List.getD_cons_succ] | simp (disch := omega) only [wrap64] | intro hx_ | omega)
  exact nx_mk (2, (l.length : Int) + m.length) ⟨by simp, by simp, by simp, by simp⟩ (by simp) (by (try simp only [go_sem,seval]) <;> (try simp (disch := omega) [wrap64]) <;> (try omega)) (Heap.Le.refl _)
 | 2, q1, q2, q3, q4 =>
  have hz := q4 rfl
  subst hz
  have en : (l.length : Int) + m.length = ((l.length + m.length : Nat) : Int) := by omega
  by_cases hne : l.length + m.length = 0
  ·have el : l = [] := List.eq_nil_of_length_eq_zero (by omega)
   have em : m = [] := List.eq_nil_of_length_eq_zero (by omega)
   subst el; subst em
   repeat' (first | with_reducible refine And.intro ?_ ?_ | simp only [go_sem,seval, en] | simp (disch := omega) only [wrap64] | intro hx_ | omega)
   refine growL_a 0 (by omega) H (fun _ => ?_) (fun e => absurd rfl e)
   repeat' (first | with_reducible refine And.intro ?_ ?_ | simp only [go_sem,seval] | simp (disch := omega) only [wrap64] | intro hx_ | omega)
   refine loop_c [25, 26] (fun (k : Nat) => [(27, .int .i64 k), (6, .nilsl)]) (fun (k : Nat) => H) (fun (k : Nat) => k ≤ 2) (fun (k : Nat) => 2 - k) (0) (by omega) (by (try simp only [go_sem,seval]) <;> (try simp (disch := omega) [wrap64]) <;> (try omega)) (by first | with_reducible exact Heap.Le.refl _ | exact heap_set_le (by assumption) | exact Heap.Le.refl _ | exact heap_le_set (by assumption) | exact (by simp only [Go.Av.Heap.Le, Go.Av.Heap.set, Go.Av.Heap.del] at * <;> grind)) ?_
   rintro Ec rfl k hk
   match k, hk with
   | 0, _ =>
    repeat' (first | with_reducible refine And.intro ?_ ?_ | simp only [go_sem,seval, List.getD_cons_zero, Rw_nil] | simp (disch := omega) only [wrap64] | intro hx_ | omega)
    exact nx_mk 1 (by omega) (by omega) (by (try simp only [go_sem,seval]) <;> (try simp (disch := omega) [wrap64]) <;> (try omega)) (Heap.Le.refl _)
   | 1, _ =>
    repeat' (first | with_reducible refine And.intro ?_ ?_ | simp only [go_sem,seval, List.getD_cons_zero, List.getD_cons_succ, Rw_nil] | simp (disch := omega) only [wrap64] | intro hx_ | omega)
    exact nx_mk 2 (by omega) (by omega) (by (try simp only [go_sem,seval]) <;> (try simp (disch := omega) [wrap64]) <;> (try omega)) (Heap.Le.refl _)
   | 2, _ =>
    repeat' (first | with_reducible refine And.intro ?_ ?_ | simp only [go_sem,seval] | simp (disch := omega) only [wrap64] | intro hx_ | omega)
    exact Fin.out (n := 0) (ob := none) rfl rfl (Fin.less (Heap.Le.refl _) h)
   | k + 3, hk => omega
  repeat' (first | with_reducible refine And.intro ?_ ?_ | simp only [go_sem,seval, en] | simp (disch := omega) only [wrap64] | intro hx_ | omega)
  refine growL_a _ hb H (fun e => absurd e hne) fun _ b hbn => ?_
  repeat' (first | with_reducible refine And.intro ?_ ?_ | simp only [go_sem,seval] | simp (disch := omega) only [wrap64] | intro hx_ | omega)
  refine loop_c [25, 26] (fun (p : Nat × Nat × List LinV) => [(27, .int .i64 p.1), (6, .vec p.2.1 3 0 p.2.2.length)]) (fun (p : Nat × Nat × List LinV) => H.set p.2.1 (.vec 3 (Rw linC p.2.2))) (fun (p : Nat × Nat × List LinV) => p.1 ≤ 2 ∧ H p.2.1 = none ∧ (p.1 = 0 → p.2.2 = []) ∧ (p.1 = 1 → p.2.2 = l) ∧ (p.1 = 2 → p.2.2 = l ++ m)) (fun (p : Nat × Nat × List LinV) => 2 - p.1) ((0, b, [])) (⟨by simp, hbn, by simp, by simp, by simp⟩) (by (try simp only [go_sem,seval]) <;> (try simp (disch := omega) [wrap64]) <;> (try omega)) (by first | with_reducible exact Heap.Le.refl _ | exact heap_set_le (by assumption) | exact Heap.Le.refl _ | exact heap_le_set (by assumption) | exact (by simp only [Go.Av.Heap.Le, Go.Av.Heap.set, Go.Av.Heap.del] at * <;> grind)) ?_
  rintro Ec rfl ⟨k, c, X⟩ ⟨q1, hc, q2, q3, q4⟩
  simp only at q1 hc q2 q3 q4
  match k, q1, q2, q3, q4 with
  | 0, q1, q2, q3, q4 =>
   have hz := q2 rfl
   subst hz
   repeat' (first | with_reducible refine And.intro ?_ ?_ | simp only [go_sem,seval, List.getD_cons_zero, set_del hc] | simp (disch := omega) only [wrap64] | intro hx_ | omega)
   rename_i b6
   exact nx_mk (1, b6, l) ⟨by simp, hx_, by simp, by simp, by simp⟩ (by simp) (by (try simp only [go_sem,seval]) <;> (try simp (disch := omega) [wrap64]) <;> (try omega)) (Heap.Le.refl _)
  | 1, q1, q2, q3, q4 =>
   have hz := (q3 rfl).symm
   subst hz
   repeat' (first | with_reducible refine And.intro ?_ ?_ | simp only [go_sem,seval, List.getD_cons_zero, List.getD_cons_succ, set_del hc] | simp (disch := omega) only [wrap64] | intro hx_ | omega)
   rename_i b6
   exact nx_mk (2, b6, l ++ m) ⟨by simp, hx_, by simp, by simp, by simp⟩ (by simp) (by (try simp only [go_sem,seval, List.length_append]) <;> (try simp (disch := omega) [wrap64]) <;> (try omega)) (by simp only []; rw [← Rw_app, List.take_of_length_le (by rw [Rw_len]; exact Nat.le_refl _)]; exact Heap.Le.refl _)
  | 2, q1, q2, q3, q4 =>
   have hz := q4 rfl
   subst hz
   repeat' (first | with_reducible refine And.intro ?_ ?_ | simp only [go_sem,seval] | simp (disch := omega) only [wrap64] | intro hx_ | omega)
   exact Fin.out (ob := some c) (by rw [Rw_len, List.length_append]) (heap_same _ _) (Fin.less (by show H.Le ((H.set c _).del c); rw [set_del hc]; exact Heap.Le.refl _) h)
end
section
open Go Go.Shelf Go.RowKit
set_option maxHeartbeats 4000000 in
set_option maxRecDepth 100000 in
theorem growT_w (n : Nat) (hn : 0 < n) (hb : n * 24 ≤ 140737488355328) (w : World) :
  Calls Tryz.prog 100 #[.slice none 0 0, .int .i64 n] w fun e w' => ∃ (cs : Array Value) (G : Nat), e = .returned (.slice (some ⟨w.heap.size, 0, none⟩) 0 G) ∧ w' = w.drew.alloc (.cells cs 72) ∧ cs.size = G * 2 ∧ n ≤ G := by
 obtain ⟨i, hi, hz, hs, hby⟩ : ∃ i, Tryz.prog.info? 72 = some i ∧ i.zero = some (Value.agg #[.string ⟨#[]⟩, .int .i64 0]) ∧ i.size = 2 ∧ i.bytes = 24 := by
  have h : (Tryz.prog.info? 72).map (fun i => (i.zero, i.size, i.bytes)) = some (some (Value.agg #[.string ⟨#[]⟩, .int .i64 0]), 2, 24) := by kernel_rfl
  obtain ⟨i, hi, e⟩ := Option.map_eq_some_iff.1 h
  simp only [Prod.mk.injEq] at e
  exact ⟨i, hi, e.1, e.2.1, e.2.2⟩
 have mixed : Tryz.prog.follows .mixedOrders = true := by kernel_rfl
 have t1 := Tryz.underlying22; have a1 := Tryz.isAgg22; have z1 := Tryz.sizeOf22; have v1 := Tryz.zeroValue22; have u1 := run_underlying t1
 have t3 := Tryz.underlying3; have a3 := Tryz.isAgg3; have z3 := Tryz.sizeOf3; have v3 := Tryz.zeroValue3; have u3 := run_underlying t3
 have t4 := Tryz.underlying4; have a4 := Tryz.isAgg4; have z4 := Tryz.sizeOf4; have v4 := Tryz.zeroValue4; have u4 := run_underlying t4
 have t6 := Tryz.underlying72; have a6 := Tryz.isAgg72; have z6 := Tryz.sizeOf72; have v6 := Tryz.zeroValue72; have u6 := run_underlying t6
 have h1 : ¬ ((n : Int) < 0) := by omega
 have h3 : RowKit.wrap64 ((n : Int) - 0) = (n : Int) := by unfold RowKit.wrap64; omega
 have h4 : (n : Int) > 0 := by omega
 have hrun := Lib.run_append_nil_zeros w 22 3 22 72 i _ .i64 .i64 t1 t3 hi hz n hn (by omega) (by omega) (by rw [hby]; omega)
 obtain ⟨G, hG⟩ : ∃ G, G = grownCap w n 0 72 := ⟨_, rfl⟩
 have hGn : n ≤ grownCap w n 0 72 := grownCap_ge w _ _ _
 have hG63 : G ≤ 9223372036854775807 := by
  have := grownCap_le_maxLen w n 0 72 (by unfold maxLen; omega)
  rw [← hG] at this
  unfold maxLen at this
  omega
 rw [← hG] at hrun hGn
 obtain ⟨cs, hcs⟩ : ∃ cs, cs = Builtin.zeroCells (Value.agg #[.string ⟨#[]⟩, .int .i64 0]).cells n ++ Builtin.zeroCells (Value.agg #[.string ⟨#[]⟩, .int .i64 0]).cells (G - n) := ⟨_, rfl⟩
 have hsz : cs.size = G * 2 := by
  rw [hcs, Array.size_append, size_zeroCells, size_zeroCells]
  show n * 2 + (G - n) * 2 = G * 2
  omega
 rw [← hcs] at hrun
 clear hG hcs
 go_enter Tryz.func100, Tryz.ntmps100
 go_wp2_with (at_builtin; refine Lib.wpList_append_run _ rfl _ _ _ _ rfl _ _ rfl rfl _ _ hrun ?_)
 all_goals (go_ret; exact ⟨cs, G, rfl, rfl, by first | exact hsz | simpa using hsz, hGn⟩)
end
section
open Go Go.Av Go.Lin
theorem grow0T_x {Q} (H : Heap) (h0 : Q .nilsl H) : ACalls Tryz.prog 100 [.nilsl, .int .i64 0] H Q := by
 refine acalls_of_wp [] Tryz.mixed Tryz.func100 rfl (by kernel_rfl) (of_decide_eq_true (by kernel_rfl)) (by kernel_rfl) ?_
 simp only [go_sem,seval, Tryz.results100]
 repeat' (first | with_reducible refine And.intro ?_ ?_ | simp only [go_sem,seval] | simp (disch := omega) only [wrap64] | intro hx_ | omega)
 all_goals exact Fin.same h0
theorem growT_a {Q} (n : Nat) (hb : n * 24 ≤ 140737488355328) (H : Heap) (h0 : n = 0 → Q .nilsl H) (h : n ≠ 0 → ∀ b, H b = none → Q (.vec b 2 0 0) (H.set b (.vec 2 []))) : ACalls Tryz.prog 100 [.nilsl, .int .i64 n] H Q := by
 by_cases hn : n = 0
 ·subst hn
  exact grow0T_x H (h0 rfl)
 ·refine ⟨by kernel_rfl, fun w vs hl hr hs => ?_⟩
  obtain ⟨a, b, rfl, ha, hb'⟩ := args2 hl hr
  have ea : a = .slice none 0 0 := by cases ha; rfl
  rw [ea, hb'.int_inv]
  refine (growT_w n (by omega) hb w).mono ?_
  rintro e w' ⟨cs, G, rfl, rfl, hsz, hGn⟩
  have hs1 := hs.same (w' := w.drew) rfl (Ext.drewN H w 1)
  obtain ⟨d, H', k1, k2, k3, k4, k5⟩ := post_vec (w := w.drew) (K := Q) hs1 (sz := 2) (es := []) (vs := cs) 72 0 G (by omega) ⟨by simp, fun i e he => by simp at he, fun i e j d he => by simp at he, fun i e j d he => by simp at he⟩ (Nat.zero_le _) hsz (fun b hb => h hn b hb)
  exact ⟨_, rfl, d, H', k1, k2, (Ext.drewN H w 1).trans (From.refl _ _) k3, k4, k5⟩
theorem concatT_a {Q} (l m : List LTm) (hb : (l.length + m.length) * 24 ≤ 140737488355328) (H : Heap) (h : Q (.sl 2 (Rw ltC (l ++ m))) H) : ACalls Tryz.prog 55 [.sl 1 [[.sl 2 (Rw ltC l)], [.sl 2 (Rw ltC m)]]] H Q := by
 refine acalls_of_wp [] Tryz.mixed Tryz.func55 rfl (by kernel_rfl) (of_decide_eq_true (by kernel_rfl)) (by kernel_rfl) ?_
 simp only [go_sem,seval, Tryz.results55]
 refine loop_c [0, 9, 10] (fun (p : Nat × Int) => [(11, .int .i64 p.1), (3, .int .i64 p.2)]) (fun (p : Nat × Int) => H) (fun (p : Nat × Int) => p.1 ≤ 2 ∧ (p.1 = 0 → p.2 = 0) ∧ (p.1 = 1 → p.2 = l.length) ∧ (p.1 = 2 → p.2 = (l.length : Int) + m.length)) (fun (p : Nat × Int) => 2 - p.1) ((0, 0)) (⟨by simp, by simp, by simp, by simp⟩) (by (try simp only [go_sem,seval]) <;> (try simp (disch := omega) [wrap64]) <;> (try omega)) (by first | with_reducible exact Heap.Le.refl _ | exact heap_set_le (by assumption) | exact Heap.Le.refl _ | exact heap_le_set (by assumption) | exact (by simp only [Go.Av.Heap.Le, Go.Av.Heap.set, Go.Av.Heap.del] at * <;> grind)) ?_
 rintro Ec rfl ⟨k, z⟩ ⟨q1, q2, q3, q4⟩
 simp only at q1 q2 q3 q4
 match k, q1, q2, q3, q4 with
 | 0, q1, q2, q3, q4 =>
  have hz := q2 rfl
  subst hz
  repeat' (first | with_reducible refine And.intro ?_ ?_ | simp only [go_sem,seval, List.getD_cons_zero] | simp (disch := omega) only [wrap64] | intro hx_ | omega)
  exact nx_mk (1, (l.length : Int)) ⟨by simp, by simp, by simp, by simp⟩ (by simp) (by (try simp only [go_sem,seval]) <;> (try simp (disch := omega) [wrap64]) <;> (try omega)) (Heap.Le.refl _)
 | 1, q1, q2, q3, q4 =>
  have hz := q3 rfl
  subst hz
  repeat' (first | with_reducible refine And.intro ?_ ?_ | simp only [go_sem,seval, List.getD_cons_zero, List.getD_cons_succ] | simp (disch := omega) only [wrap64] | intro hx_ | omega)
  exact nx_mk (2, (l.length : Int) + m.length) ⟨by simp, by simp, by simp, by simp⟩ (by simp) (by (try simp only [go_sem,seval]) <;> (try simp (disch := omega) [wrap64]) <;> (try omega)) (Heap.Le.refl _)
 | 2, q1, q2, q3, q4 =>
  have hz := q4 rfl
  subst hz
  have en : (l.length : Int) + m.length = ((l.length + m.length : Nat) : Int) := by omega
  by_cases hne : l.length + m.length = 0
  ·have el : l = [] := List.eq_nil_of_length_eq_zero (by omega)
   have em : m = [] := List.eq_nil_of_length_eq_zero (by omega)
   subst el; subst em
   repeat' (first | with_reducible refine And.intro ?_ ?_ | simp only [go_sem,seval, en] | simp (disch := omega) only [wrap64] | intro hx_ | omega)
   refine growT_a 0 (by omega) H (fun _ => ?_) (fun e => absurd rfl e)
   repeat' (first | with_reducible refine And.intro ?_ ?_ | simp only [go_sem,seval] | simp (disch := omega) only [wrap64] | intro hx_ | omega)
   refine loop_c [25, 26] (fun (k : Nat) => [(27, .int .i64 k), (6, .nilsl)]) (fun (k : Nat) => H) (fun (k : Nat) => k ≤ 2) (fun (k : Nat) => 2 - k) (0) (by omega) (by (try simp only [go_sem,seval]) <;> (try simp (disch := omega) [wrap64]) <;> (try omega)) (by first | with_reducible exact Heap.Le.refl _ | exact heap_set_le (by assumption) | exact Heap.Le.refl _ | exact heap_le_set (by assumption) | exact (by simp only [Go.Av.Heap.Le, Go.Av.Heap.set, Go.Av.Heap.del] at * <;> grind)) ?_
   rintro Ec rfl k hk
   match k, hk with
   | 0, _ =>
    repeat' (first | with_reducible refine And.intro ?_ ?_ | simp only [go_sem,seval, List.getD_cons_zero, Rw_nil] | simp (disch := omega) only [wrap64] | intro hx_ | omega)
    exact nx_mk 1 (by omega) (by omega) (by (try simp only [go_sem,seval]) <;> (try simp (disch := omega) [wrap64]) <;> (try omega)) (Heap.Le.refl _)
   | 1, _ =>
    repeat' (first | with_reducible refine And.intro ?_ ?_ | simp only [go_sem,seval, List.getD_cons_zero, List.getD_cons_succ, Rw_nil] | simp (disch := omega) only [wrap64] | intro hx_ | omega)
    exact nx_mk 2 (by omega) (by omega) (by (try simp only [go_sem,seval]) <;> (try simp (disch := omega) [wrap64]) <;> (try omega)) (Heap.Le.refl _)
   | 2, _ =>
    repeat' (first | with_reducible refine And.intro ?_ ?_ | simp only [go_sem,seval] | simp (disch := omega) only [wrap64] | intro hx_ | omega)
    exact Fin.out (n := 0) (ob := none) rfl rfl (Fin.less (Heap.Le.refl _) h)
   | k + 3, hk => omega
  repeat' (first | with_reducible refine And.intro ?_ ?_ | simp only [go_sem,seval, en] | simp (disch := omega) only [wrap64] | intro hx_ | omega)
  refine growT_a _ hb H (fun e => absurd e hne) fun _ b hbn => ?_
  repeat' (first | with_reducible refine And.intro ?_ ?_ | simp only [go_sem,seval] | simp (disch := omega) only [wrap64] | intro hx_ | omega)
  refine loop_c [25, 26] (fun (p : Nat × Nat × List LTm) => [(27, .int .i64 p.1), (6, .vec p.2.1 2 0 p.2.2.length)]) (fun (p : Nat × Nat × List LTm) => H.set p.2.1 (.vec 2 (Rw ltC p.2.2))) (fun (p : Nat × Nat × List LTm) => p.1 ≤ 2 ∧ H p.2.1 = none ∧ (p.1 = 0 → p.2.2 = []) ∧ (p.1 = 1 → p.2.2 = l) ∧ (p.1 = 2 → p.2.2 = l ++ m)) (fun (p : Nat × Nat × List LTm) => 2 - p.1) ((0, b, [])) (⟨by simp, hbn, by simp, by simp, by simp⟩) (by (try simp only [go_sem,seval]) <;> (try simp (disch := omega) [wrap64]) <;> (try omega)) (by first | with_reducible exact Heap.Le.refl _ | exact heap_set_le (by assumption) | exact Heap.Le.refl _ | exact heap_le_set (by assumption) | exact (by simp only [Go.Av.Heap.Le, Go.Av.Heap.set, Go.Av.Heap.del] at * <;> grind)) ?_
  rintro Ec rfl ⟨k, c, X⟩ ⟨q1, hc, q2, q3, q4⟩
  simp only at q1 hc q2 q3 q4
  match k, q1, q2, q3, q4 with
  | 0, q1, q2, q3, q4 =>
   have hz := q2 rfl
   subst hz
   repeat' (first | with_reducible refine And.intro ?_ ?_ | simp only [go_sem,seval, List.getD_cons_zero, set_del hc] | simp (disch := omega) only [wrap64] | intro hx_ | omega)
   rename_i b6
   exact nx_mk (1, b6, l) ⟨by simp, hx_, by simp, by simp, by simp⟩ (by simp) (by (try simp only [go_sem,seval]) <;> (try simp (disch := omega) [wrap64]) <;> (try omega)) (Heap.Le.refl _)
  | 1, q1, q2, q3, q4 =>
   have hz := (q3 rfl).symm
   subst hz
   repeat' (first | with_reducible refine And.intro ?_ ?_ | simp only [go_sem,seval, List.getD_cons_zero, List.getD_cons_succ, set_del hc] | simp (disch := omega) only [wrap64] | intro hx_ | omega)
   rename_i b6
   exact nx_mk (2, b6, l ++ m) ⟨by simp, hx_, by simp, by simp, by simp⟩ (by simp) (by (try simp only [go_sem,seval, List.length_append]) <;> (try simp (disch := omega) [wrap64]) <;> (try omega)) (by simp only []; rw [← Rw_app, List.take_of_length_le (by rw [Rw_len]; exact Nat.le_refl _)]; exact Heap.Le.refl _)
  | 2, q1, q2, q3, q4 =>
   have hz := q4 rfl
   subst hz
   repeat' (first | with_reducible refine And.intro ?_ ?_ | simp only [go_sem,seval] | simp (disch := omega) only [wrap64] | intro hx_ | omega)
   exact Fin.out (ob := some c) (by rw [Rw_len, List.length_append]) (heap_same _ _) (Fin.less (by show H.Le ((H.set c _).del c); rw [set_del hc]; exact Heap.Le.refl _) h)
end
end Go.Proofs.YtacekpdodelnbaaGreatDoor
end
section
set_option maxRecDepth 20000
namespace Go.Lin
open Go Go.Av
theorem bigC_zero : bigC 0 = [.bool false, .sl 1 []] := by
 unfold bigC
 rw [show (0 : Int).natAbs = 0 from rfl, digs_zero]; rfl
theorem nilR_z {es es' : List (List D)} (hl : es.length = es'.length) (h : ∀ (i : Nat) e e', es[i]? = some e → es'[i]? = some e' → e = e' ∨ (e = zB ∧ e' = bigC 0)) : NilR (.sl 2 es) (.sl 2 es') := by
 refine .sl 2 es es' hl (fun i e e' h1 h2 => ?_) (fun i e e' j d d' h1 h2 h3 h4 => ?_)
 ·rcases h i e e' h1 h2 with rfl | ⟨rfl, rfl⟩
  ·rfl
  ·rw [bigC_zero]; rfl
 ·rcases h i e e' h1 h2 with rfl | ⟨rfl, rfl⟩
  ·rw [h3] at h4; cases h4; exact .same _
  ·rw [bigC_zero] at h4
   match j with
   | 0 => cases h3; cases h4; exact .same _
   | 1 => cases h3; cases h4; exact .nil _
   | j + 2 => cases h3
theorem nilR_snoc (c : List Int) : NilR (.sl 2 (Rw bigC c ++ [zB])) (.sl 2 (Rw bigC (c ++ [0]))) := by
 refine nilR_z (by simp [Rw]) fun i e e' h1 h2 => ?_
 rw [← Rw_app] at h2
 by_cases hi : i < c.length
 ·rw [List.getElem?_append_left (by rw [Rw_len]; exact hi)] at h1 h2
  rw [h1] at h2; cases h2; exact .inl rfl
 ·rw [List.getElem?_append_right (by rw [Rw_len]; omega), Rw_len] at h1 h2
  by_cases h0 : i - c.length = 0
  ·rw [h0] at h1 h2; cases h1; cases h2; exact .inr ⟨rfl, rfl⟩
  ·obtain ⟨q, hq⟩ : ∃ q, i - c.length = q + 1 := ⟨_, (Nat.succ_pred h0).symm⟩
   rw [hq] at h1; cases h1
theorem nilR_head {a a' : D} {ds : List D} (h : NilR a a') : NilR (.agg (a :: ds)) (.agg (a' :: ds)) := by
 refine .agg _ _ (by simp) fun i d d' h1 h2 => ?_
 match i with
 | 0 => cases h1; cases h2; exact h
 | i + 1 =>
  simp only [List.getElem?_cons_succ] at h1 h2
  rw [h1] at h2; cases h2; exact .same _
theorem Fin.freezeH {Q : D → Heap → Prop} {ds : List D} {H : Heap} {b sz n : Nat} {es : List (List D)} (hb : H b = some (.vec sz es)) (hn : n = es.length) (h : Fin Q (.agg (.sl sz es :: ds)) (H.del b)) : Fin Q (.agg (.vec b sz 0 n :: ds)) H := by
 subst hn
 refine Fin.freezeA hb (by simp) (fun i d d' h1 h2 => ?_) h
 match i with
 | 0 => cases h1; cases h2; exact .all
 | i + 1 =>
  simp only [List.getElem?_cons_succ] at h1 h2
  rw [h1] at h2; cases h2; exact .same _
end Go.Lin
namespace Go.Proofs.YtacekpdodelnbaaGreatDoor
open Go Go.Av Go.Lin
attribute [local irreducible] ACalls at8
theorem cloneB_a {Q} (c : List Int) (hc : c ≠ []) (hl : c.length ≤ 1000000) (H : Heap) (h : ∀ (ob : Option Nat) (b : Nat), ob = some b → H b = none → Q (outG 2 c.length ob) (H.set b (.vec 2 (Rw bigC c)))) : ACalls Tryz.prog 181 [.sl 2 (Rw bigC c)] H Q := by
 refine acalls_of_wp [] Tryz.mixed Tryz.func181 rfl (by kernel_rfl) (of_decide_eq_true (by kernel_rfl)) (by kernel_rfl) ?_
 simp only [go_sem,seval, Tryz.results181]
 have hne : Rw bigC c ≠ [] := fun e => hc (List.eq_nil_of_length_eq_zero (by rw [← Rw_len (f := bigC), e]; rfl))
 have hq : ∀ (x : Nat), binD Tryz.prog .eql 153 (isConst (.tmp x) || isConst (.const (.slice none 0 0))) (.sl 2 (Rw bigC c)) .nilsl = some (.bool false) := fun x => b_eql_sl hne (by kernel_rfl)
 repeat' (first | with_reducible refine And.intro ?_ ?_ | simp only [go_sem,seval, hq] | intro hx_ | omega)
 rename_i b0 h0 b'
 have hb' := hx_
 clear hx_
 have hs : (H.set b0 (.vec 2 [])).del b0 = H := set_del h0
 rw [hs] at hb' ⊢
 exact Fin.same (h (some b') b' rfl hb')
theorem wide_a {Q} (r : Row) (hc : r.c ≠ []) (hl : r.c.length ≤ 1000000) (H : Heap) (h : Q (.agg (rowC (wideR r))) H) : ACalls Tryz.prog 180 [.agg (rowC r)] H Q := by
 refine acalls_of_wp [] Tryz.mixed Tryz.func180 rfl (by kernel_rfl) (of_decide_eq_true (by kernel_rfl)) (by kernel_rfl) ?_
 simp only [go_sem,seval, Tryz.results180]
 intro b1 h1 b2 h2
 simp only [set_none] at h2
 have e1 : ((H.set b1 (.box (rowC r))).set b2 (.box [.nilsl, .bool false, .nilsl, .bool false])) b1 = some (.box (rowC r)) := by rw [heap_ne _ h2.1.symm, heap_same]
 have e2 : ((H.set b1 (.box (rowC r))).set b2 (.box [.nilsl, .bool false, .nilsl, .bool false])) b2 = some (.box [.nilsl, .bool false, .nilsl, .bool false]) := heap_same _ _
 have hle : H.Le ((H.set b1 (.box (rowC r))).set b2 (.box [.nilsl, .bool false, .nilsl, .bool false])) := (heap_le_set h1).trans (heap_le_set (by simp only [set_none]; exact h2))
 have n1 : b1 ≠ b2 := h2.1.symm
 generalize (H.set b1 (.box (rowC r))).set b2 (.box [.nilsl, .bool false, .nilsl, .bool false]) = Bs at e1 e2 hle ⊢
 repeat' (first | with_reducible refine And.intro ?_ ?_ | simp only [go_sem,seval, e1] | simp (disch := first | omega | grind) only [del_ne] | (intro hx_; try simp only [set_none] at hx_) | omega)
 refine cloneB_a _ hc hl _ fun ob bv hob hbv => ?_
 have o3 := O3.put (H := Bs) (sz := 2) (es := Rw bigC r.c) (ob := some bv) (by simp) (fun b e => by cases e; exact hbv)
 rw [← hob] at o3
 have hpe : putB Bs 2 (Rw bigC r.c) ob = Bs.set bv (.vec 2 (Rw bigC r.c)) := by rw [hob]; rfl
 rw [hpe] at o3
 generalize Bs.set bv (.vec 2 (Rw bigC r.c)) = Hp at o3 ⊢
 clear hob hpe
 repeat' (first | with_reducible refine And.intro ?_ ?_ | simp only [go_sem,seval] | simp (disch := first | omega | grind) only [del_ne] | (intro hx_; try simp only [set_none] at hx_) | omega)
 rename_i bx
 have hbx := hx_
 clear hx_
 refine O3.ap o3 (e1' := Rw bigC r.c ++ [zB]) (Heap.Le.refl _) hbx (by simp) (by rw [Rw_len]) (by simp only [List.length_cons, List.length_nil]; omega) (by simp only [List.length_cons, List.length_nil]; omega) rfl fun b' H' h4 => ?_
 clear o3 hbx
 have c1 := h4.le _ _ e1
 have c2 := h4.le _ _ e2
 have nb1 : b' ≠ b1 := fun g => by have := h4.n1 _ rfl; rw [g, e1] at this; cases this
 have nb2 : b' ≠ b2 := fun g => by have := h4.n1 _ rfl; rw [g, e2] at this; cases this
 repeat' (first | with_reducible refine And.intro ?_ ?_ | simp only [go_sem,seval, c1, c2, heap_ne _ n1, heap_ne _ n1.symm] | simp (disch := first | omega | grind) only [del_ne] | (intro hx_; try simp only [set_none] at hx_) | omega)
 refine Fin.freezeH (es := Rw bigC r.c ++ [zB]) (by rw [heap_ne _ nb2, heap_ne _ nb1]; exact h4.a1) (by rw [List.length_append, Rw_len]; rfl) (Fin.nilR (nilR_head (nilR_snoc r.c)) (Fin.less (fun k o hk => ?_) h))
 have k1 : k ≠ b1 := fun g => by rw [g, h1] at hk; cases hk
 have k2 : k ≠ b2 := fun g => by rw [g, h2.2] at hk; cases hk
 have hB := hle _ _ hk
 have k3 : k ≠ b' := fun g => by have := h4.n1 _ rfl; rw [← g, hB] at this; cases this
 rw [del_ne k3, heap_ne _ k2, heap_ne _ k1]
 exact h4.le _ _ hB
end Go.Proofs.YtacekpdodelnbaaGreatDoor
end
section
namespace Go.Lin
open Go Go.Av Go.Lexs
structure ZR where
 es : List (List D)
 r : Row
def zrC (z : ZR) : List D := [.sl 2 z.es, .bool (decide (z.r.k < 0)), .sl 1 (Rw digC (digs z.r.k.natAbs)), .bool z.r.eq]
def zOk (z : ZR) : Prop := NilR (.sl 2 z.es) (.sl 2 (Rw bigC z.r.c))
theorem nilR_rows (l : List ZR) (h : ∀ z ∈ l, zOk z) : NilR (.sl 4 (Rw zrC l)) (.sl 4 (Rw rowC (l.map (·.r)))) := by
 have e : Rw rowC (l.map (·.r)) = Rw (fun z : ZR => rowC z.r) l := by simp [Rw]
 rw [e]
 refine NilR.rw 4 l (fun z hz => rfl) fun z hz j d d' h1 h2 => ?_
 match j with
 | 0 => cases h1; cases h2; exact h z hz
 | 1 => cases h1; cases h2; exact .same _
 | 2 => cases h1; cases h2; exact .same _
 | 3 => cases h1; cases h2; exact .same _
 | j + 4 => cases h1
def padT (names : List ByteArray) (ts : List LTm) : List (List D) := names.map fun s => match ts.find? (fun t => decide (t.v = s)) with | some t => bigC t.c | none => zB
theorem padT_zero (names : List ByteArray) : padT names [] = List.replicate names.length zB := by
 unfold padT
 simp only [List.find?_nil]
 rw [List.map_const']
theorem padT_len (names : List ByteArray) (ts : List LTm) : (padT names ts).length = names.length := by simp [padT]
theorem padT_get (names : List ByteArray) (ts : List LTm) (i : Nat) (hi : i < names.length) (hn : ∀ t ∈ ts, t.v ≠ names[i]) : (padT names ts)[i]? = some zB ∧ (padT names ts).getD i [] = zB := by
 have hf : ts.find? (fun t => decide (t.v = names[i])) = none := by
  rw [List.find?_eq_none]; intro t ht; simp [hn t ht]
 have : (padT names ts)[i]? = some zB := by
  unfold padT
  rw [List.getElem?_map, List.getElem?_eq_getElem hi, Option.map_some, hf]
 exact ⟨this, by rw [List.getD_eq_getElem?_getD, this]; rfl⟩
theorem padT_set (names : List ByteArray) (ts : List LTm) (t : LTm) (i : Nat) (hi : i < names.length) (he : names[i] = t.v) (hnd : names.Nodup) (hn : ∀ x ∈ ts, x.v ≠ t.v) : (padT names ts).set i (bigC t.c) = padT names (ts ++ [t]) := by
 apply List.ext_getElem
 ·simp [padT]
 ·intro j h1 h2
  have hj : j < names.length := by simpa [padT] using h2
  by_cases e : i = j
  ·subst e
   rw [List.getElem_set_self]
   have hf : ts.find? (fun x => decide (x.v = names[i])) = none := by
    rw [List.find?_eq_none]; intro x hx; simp [he, hn x hx]
   simp only [padT, List.getElem_map, List.find?_append, hf]
   simp [he]
  ·rw [List.getElem_set_ne e]
   have hne : t.v ≠ names[j] := fun g => by
    rw [← he] at g
    have hp := List.pairwise_iff_getElem.1 hnd
    rcases Nat.lt_or_gt_of_ne e with q | q
    ·exact hp i j hi hj q g
    ·exact hp j i hj hi q g.symm
   simp only [padT, List.getElem_map, List.find?_append]
   cases hf : ts.find? (fun x => decide (x.v = names[j])) with
   | some x => simp
   | none => simp [hne]
theorem coef_find (l : List LTm) (s : ByteArray) : coefL l s = match l.find? (fun t => decide (t.v = s)) with | some t => t.c | none => 0 := by
 induction l with
 | nil => rfl
 | cons t l ih =>
  rw [coefL, List.find?_cons]
  by_cases h : t.v = s
  ·simp [h]
  ·simp [h, ih]
theorem padT_nil (names : List ByteArray) (ts : List LTm) : NilR (.sl 2 (padT names ts)) (.sl 2 (Rw bigC (names.map (coefL ts)))) := by
 refine nilR_z (by simp [padT, Rw]) fun i e e' h1 h2 => ?_
 simp only [padT, Rw, List.getElem?_map, Option.map_eq_some_iff] at h1 h2
 obtain ⟨s, hs, rfl⟩ := h1
 obtain ⟨x, ⟨s2, hs2, rfl⟩, rfl⟩ := h2
 rw [hs] at hs2; cases hs2
 rw [coef_find]
 cases ts.find? (fun t => decide (t.v = s)) with
 | some t => exact .inl rfl
 | none => exact .inr ⟨rfl, rfl⟩
theorem unit_nil (n i : Nat) (s : Int) (hi : i < n) : NilR (.sl 2 ((List.replicate n zB).set i (bigC s))) (.sl 2 (Rw bigC (unitC n i s))) := by
 refine nilR_z (by simp [Rw, unitC]) fun j e e' h1 h2 => ?_
 have hj : j < n := by have := (List.getElem?_eq_some_iff.1 h1).1; simpa using this
 simp only [Rw, unitC, List.getElem?_map, Option.map_eq_some_iff] at h2
 obtain ⟨x, ⟨k, hk, rfl⟩, rfl⟩ := h2
 rw [List.getElem?_range hj] at hk
 cases hk
 by_cases g : i = j
 ·subst g
  rw [List.getElem?_set_self (by simpa using hi)] at h1
  cases h1
  rw [if_pos rfl]; exact .inl rfl
 ·rw [List.getElem?_set_ne g] at h1
  simp [hj] at h1
  rw [if_neg (fun q => g q.symm)]
  exact .inr ⟨h1.symm, rfl⟩
end Go.Lin
end
section
namespace Go.Proofs
open Go.RowKit Go.Maps Go.Sort Go.Shelf

-- maps.Keys[map[string]int,string,int] (function 57; its iterator 103) · slices.Sorted[string] (56) · slices.Sort[[]string,string] (102) · the map's type 80, the keys' 9
def Tryz.keys57_ren : Go.Shelf.Ren := ⟨fun | 7 => 57 | 10 => 103 | n => n, fun | 23 => 80 | 26 => 9 | 3 => 3 | 28 => 84 | 0 => 0 | 27 => 83 | 33 => 56 | 4 => 4 | n => n, fun | n => n⟩
theorem Tryz.keys57 : SlLaysZ.n7 Tryz.prog Tryz.keys57_ren := {
 mixed := by kernel_rfl
 f7 := Exists.intro "maps.Keys[map[string]int,string,int]" ⟨of_decide_eq_true (by kernel_rfl), (Tryz.func57).trans (congrArg some (by kernel_rfl))⟩
 f10 := Exists.intro "maps.Keys[map[string]int,string,int]$1" ⟨of_decide_eq_true (by kernel_rfl), (Tryz.func103).trans (congrArg some (by kernel_rfl))⟩
 t0 := Tryz.underlying0
 a0 := Tryz.isAgg0
 z0 := Tryz.sizeOf0
 v0 := Tryz.zeroValue0
 t4 := Tryz.underlying4
 a4 := Tryz.isAgg4
 z4 := Tryz.sizeOf4
 v4 := Tryz.zeroValue4
 t23 := Tryz.underlying80
 a23 := Tryz.isAgg80
 z23 := Tryz.sizeOf80
 v23 := Tryz.zeroValue80
 t26 := Tryz.underlying9
 a26 := Tryz.isAgg9
 z26 := Tryz.sizeOf9
 v26 := Tryz.zeroValue9
 t27 := Tryz.underlying83
 a27 := Tryz.isAgg83
 z27 := Tryz.sizeOf83
 v27 := Tryz.zeroValue83
 t28 := Tryz.underlying84
 a28 := Tryz.isAgg84
 z28 := Tryz.sizeOf84
 v28 := Tryz.zeroValue84
 t33 := Tryz.underlying56
 a33 := Tryz.isAgg56
 z33 := Tryz.sizeOf56
 v33 := Tryz.zeroValue56 }
def Tryz.sorted56_ren : Go.Shelf.Ren := ⟨fun | 6 => 56 | 8 => 101 | 9 => 102 | 11 => 122 | 13 => 124 | 12 => 123 | 23 => 155 | 24 => 156 | 14 => 146 | 15 => 147 | 16 => 148 | 17 => 149 | 18 => 150 | 19 => 151 | 20 => 152 | 21 => 153 | 22 => 154 | 25 => 192 | 26 => 193 | 27 => 194 | 28 => 195 | 29 => 196 | 30 => 197 | 31 => 221 | n => n, fun | 26 => 9 | 28 => 84 | 24 => 60 | 0 => 0 | 3 => 3 | 37 => 144 | 48 => 177 | 50 => 179 | 4 => 4 | 40 => 171 | 39 => 170 | 45 => 92 | 5 => 5 | 9 => 9 | 51 => 206 | 55 => 210 | 57 => 232 | 58 => 63 | 33 => 56 | n => n, fun | n => n⟩
theorem Tryz.sorted56 : SlLaysZ.n6 Tryz.prog Tryz.sorted56_ren := {
 mixed := by kernel_rfl
 f6 := Exists.intro "slices.Sorted[string]" ⟨of_decide_eq_true (by kernel_rfl), (Tryz.func56).trans (congrArg some (by kernel_rfl))⟩
 f8 := Exists.intro "slices.Collect[string]" ⟨of_decide_eq_true (by kernel_rfl), (Tryz.func101).trans (congrArg some (by kernel_rfl))⟩
 f11 := Exists.intro "slices.AppendSeq[[]string,string]" ⟨of_decide_eq_true (by kernel_rfl), (Tryz.func122).trans (congrArg some (by kernel_rfl))⟩
 t0 := Tryz.underlying0
 a0 := Tryz.isAgg0
 z0 := Tryz.sizeOf0
 v0 := Tryz.zeroValue0
 t24 := Tryz.underlying60
 a24 := Tryz.isAgg60
 z24 := Tryz.sizeOf60
 v24 := Tryz.zeroValue60
 t26 := Tryz.underlying9
 a26 := Tryz.isAgg9
 z26 := Tryz.sizeOf9
 v26 := Tryz.zeroValue9
 t28 := Tryz.underlying84
 a28 := Tryz.isAgg84
 z28 := Tryz.sizeOf84
 v28 := Tryz.zeroValue84
 i26 := by kernel_rfl }
def Tryz.sort102_ren : Go.Shelf.Ren := ⟨fun | 6 => 102 | 8 => 124 | 9 => 123 | 19 => 155 | 20 => 156 | 21 => 146 | 22 => 147 | 23 => 148 | 24 => 149 | 25 => 150 | 26 => 151 | 27 => 152 | 28 => 153 | 29 => 154 | 36 => 192 | 31 => 193 | 32 => 194 | 37 => 195 | 38 => 196 | 39 => 197 | 41 => 221 | n => n, fun | 27 => 60 | 29 => 9 | 3 => 3 | 32 => 144 | 26 => 60 | 0 => 0 | 44 => 177 | 46 => 179 | 4 => 4 | 36 => 171 | 35 => 170 | 41 => 92 | 5 => 5 | 9 => 9 | 53 => 206 | 57 => 210 | 63 => 232 | 64 => 63 | n => n, fun | n => n⟩
theorem Tryz.sort102 : SlLaysM.n6 Tryz.prog Tryz.sort102_ren := {
 mixed := by kernel_rfl
 f6 := Exists.intro "slices.Sort[[]string,string]" ⟨of_decide_eq_true (by kernel_rfl), (Tryz.func102).trans (congrArg some (by kernel_rfl))⟩
 f8 := (Tryz.func124).trans (congrArg some (by kernel_rfl))
 f9 := Exists.intro "slices.pdqsortOrdered[string]" ⟨of_decide_eq_true (by kernel_rfl), (Tryz.func123).trans (congrArg some (by kernel_rfl))⟩
 f19 := (Tryz.func155).trans (congrArg some (by kernel_rfl))
 f20 := (Tryz.func156).trans (congrArg some (by kernel_rfl))
 f21 := Exists.intro "slices.insertionSortOrdered[string]" ⟨of_decide_eq_true (by kernel_rfl), (Tryz.func146).trans (congrArg some (by kernel_rfl))⟩
 f22 := Exists.intro "slices.heapSortOrdered[string]" ⟨of_decide_eq_true (by kernel_rfl), (Tryz.func147).trans (congrArg some (by kernel_rfl))⟩
 f23 := Exists.intro "slices.breakPatternsOrdered[string]" ⟨of_decide_eq_true (by kernel_rfl), (Tryz.func148).trans (congrArg some (by kernel_rfl))⟩
 f24 := Exists.intro "slices.choosePivotOrdered[string]" ⟨of_decide_eq_true (by kernel_rfl), (Tryz.func149).trans (congrArg some (by kernel_rfl))⟩
 f25 := Exists.intro "slices.reverseRangeOrdered[string]" ⟨of_decide_eq_true (by kernel_rfl), (Tryz.func150).trans (congrArg some (by kernel_rfl))⟩
 f26 := Exists.intro "slices.partialInsertionSortOrdered[string]" ⟨of_decide_eq_true (by kernel_rfl), (Tryz.func151).trans (congrArg some (by kernel_rfl))⟩
 f27 := Exists.intro "cmp.Less[string]" ⟨of_decide_eq_true (by kernel_rfl), (Tryz.func152).trans (congrArg some (by kernel_rfl))⟩
 f28 := Exists.intro "slices.partitionEqualOrdered[string]" ⟨of_decide_eq_true (by kernel_rfl), (Tryz.func153).trans (congrArg some (by kernel_rfl))⟩
 f29 := Exists.intro "slices.partitionOrdered[string]" ⟨of_decide_eq_true (by kernel_rfl), (Tryz.func154).trans (congrArg some (by kernel_rfl))⟩
 f31 := (Tryz.func193).trans (congrArg some (by kernel_rfl))
 f32 := (Tryz.func194).trans (congrArg some (by kernel_rfl))
 f36 := Exists.intro "slices.siftDownOrdered[string]" ⟨of_decide_eq_true (by kernel_rfl), (Tryz.func192).trans (congrArg some (by kernel_rfl))⟩
 f37 := Exists.intro "slices.medianAdjacentOrdered[string]" ⟨of_decide_eq_true (by kernel_rfl), (Tryz.func195).trans (congrArg some (by kernel_rfl))⟩
 f38 := Exists.intro "slices.medianOrdered[string]" ⟨of_decide_eq_true (by kernel_rfl), (Tryz.func196).trans (congrArg some (by kernel_rfl))⟩
 f39 := Exists.intro "cmp.isNaN[string]" ⟨of_decide_eq_true (by kernel_rfl), (Tryz.func197).trans (congrArg some (by kernel_rfl))⟩
 f41 := Exists.intro "slices.order2Ordered[string]" ⟨of_decide_eq_true (by kernel_rfl), (Tryz.func221).trans (congrArg some (by kernel_rfl))⟩
 t0 := Tryz.underlying0
 a0 := Tryz.isAgg0
 z0 := Tryz.sizeOf0
 v0 := Tryz.zeroValue0
 t3 := Tryz.underlying3
 a3 := Tryz.isAgg3
 z3 := Tryz.sizeOf3
 v3 := Tryz.zeroValue3
 t4 := Tryz.underlying4
 a4 := Tryz.isAgg4
 z4 := Tryz.sizeOf4
 v4 := Tryz.zeroValue4
 t5 := Tryz.underlying5
 a5 := Tryz.isAgg5
 z5 := Tryz.sizeOf5
 v5 := Tryz.zeroValue5
 t9 := Tryz.underlying9
 a9 := Tryz.isAgg9
 z9 := Tryz.sizeOf9
 v9 := Tryz.zeroValue9
 t26 := Tryz.underlying60
 a26 := Tryz.isAgg60
 z26 := Tryz.sizeOf60
 v26 := Tryz.zeroValue60
 t27 := Tryz.underlying60
 a27 := Tryz.isAgg60
 z27 := Tryz.sizeOf60
 v27 := Tryz.zeroValue60
 t29 := Tryz.underlying9
 a29 := Tryz.isAgg9
 z29 := Tryz.sizeOf9
 v29 := Tryz.zeroValue9
 t32 := Tryz.underlying144
 a32 := Tryz.isAgg144
 z32 := Tryz.sizeOf144
 v32 := Tryz.zeroValue144
 t35 := Tryz.underlying170
 a35 := Tryz.isAgg170
 z35 := Tryz.sizeOf170
 v35 := Tryz.zeroValue170
 t36 := Tryz.underlying171
 a36 := Tryz.isAgg171
 z36 := Tryz.sizeOf171
 v36 := Tryz.zeroValue171
 t41 := Tryz.underlying92
 a41 := Tryz.isAgg92
 z41 := Tryz.sizeOf92
 v41 := Tryz.zeroValue92
 t44 := Tryz.underlying177
 a44 := Tryz.isAgg177
 z44 := Tryz.sizeOf177
 v44 := Tryz.zeroValue177
 t46 := Tryz.underlying179
 a46 := Tryz.isAgg179
 z46 := Tryz.sizeOf179
 v46 := Tryz.zeroValue179
 t53 := Tryz.underlying206
 a53 := Tryz.isAgg206
 z53 := Tryz.sizeOf206
 v53 := Tryz.zeroValue206
 t57 := Tryz.underlying210
 a57 := Tryz.isAgg210
 z57 := Tryz.sizeOf210
 v57 := Tryz.zeroValue210
 t63 := Tryz.underlying232
 a63 := Tryz.isAgg232
 z63 := Tryz.sizeOf232
 v63 := Tryz.zeroValue232
 t64 := Tryz.underlying63
 a64 := Tryz.isAgg63
 z64 := Tryz.sizeOf63
 v64 := Tryz.zeroValue63 }
theorem Tryz.sorts56 (m : Nat) : AnyZ.SortsIn Tryz.prog Tryz.sorted56_ren Fence.wide m :=
  ⟨fun blk off cap ss W hH hblk hsz => callsIn_wide.2 (AnyM.slices_Sort_string Tryz.sort102 blk off cap ss W hH hblk hsz),
   fun p cap W => callsIn_wide.2 (AnyM.slices_Sort_string_none Tryz.sort102 p cap W)⟩
theorem Tryz.maps_Keys_57 (mb : Option Nat) (W : World) : CallsIn Fence.wide 5 Tryz.prog 57 #[.map mb] W fun e w' => e = .returned (.func (.func 103) #[] #[.pointer (some ⟨W.heap.size, 0, none⟩)]) ∧ w' = W.alloc (.cells #[.map mb] 80) :=
 AnyZ.keys_in Tryz.keys57 Fence.wide 5 trivial rfl mb W
def Tryz.keys99_ren : Go.Shelf.Ren := ⟨fun | 7 => 99 | 10 => 121 | n => n, fun | 23 => 118 | 26 => 9 | 3 => 4 | 28 => 84 | 0 => 0 | 27 => 83 | 33 => 56 | 4 => 4 | n => n, fun | n => n⟩
theorem Tryz.keys99 : SlLaysZ.n7 Tryz.prog Tryz.keys99_ren := {
 mixed := by kernel_rfl
 f7 := Exists.intro "maps.Keys[map[string]bool,string,bool]" ⟨of_decide_eq_true (by kernel_rfl), (Tryz.func99).trans (congrArg some (by kernel_rfl))⟩
 f10 := Exists.intro "maps.Keys[map[string]bool,string,bool]$1" ⟨of_decide_eq_true (by kernel_rfl), (Tryz.func121).trans (congrArg some (by kernel_rfl))⟩
 t0 := Tryz.underlying0
 a0 := Tryz.isAgg0
 z0 := Tryz.sizeOf0
 v0 := Tryz.zeroValue0
 t4 := Tryz.underlying4
 a4 := Tryz.isAgg4
 z4 := Tryz.sizeOf4
 v4 := Tryz.zeroValue4
 t23 := Tryz.underlying118
 a23 := Tryz.isAgg118
 z23 := Tryz.sizeOf118
 v23 := Tryz.zeroValue118
 t26 := Tryz.underlying9
 a26 := Tryz.isAgg9
 z26 := Tryz.sizeOf9
 v26 := Tryz.zeroValue9
 t27 := Tryz.underlying83
 a27 := Tryz.isAgg83
 z27 := Tryz.sizeOf83
 v27 := Tryz.zeroValue83
 t28 := Tryz.underlying84
 a28 := Tryz.isAgg84
 z28 := Tryz.sizeOf84
 v28 := Tryz.zeroValue84
 t33 := Tryz.underlying56
 a33 := Tryz.isAgg56
 z33 := Tryz.sizeOf56
 v33 := Tryz.zeroValue56 }
theorem Tryz.maps_Keys_99 (mb : Option Nat) (W : World) : CallsIn Fence.wide 5 Tryz.prog 99 #[.map mb] W fun e w' => e = .returned (.func (.func 121) #[] #[.pointer (some ⟨W.heap.size, 0, none⟩)]) ∧ w' = W.alloc (.cells #[.map mb] 118) :=
 AnyZ.keys_in Tryz.keys99 Fence.wide 5 trivial rfl mb W
end Go.Proofs
end
section
namespace Go.Lin
open Go Go.Av Go.RowKit Go.Maps Go.Sort Go.Shelf Go.Lexs Go.WideElems
theorem insert_perm {H : Type} (x : Lit × DataW H) : ∀ l : List (Lit × DataW H), (DataW.insert x l).Perm (x :: l)
 | [] => List.Perm.refl _
 | y :: l => by
  unfold DataW.insert
  split
  ·exact List.Perm.refl _
  ·exact ((insert_perm x l).cons y).trans (List.Perm.swap x y l)
theorem foldr_perm {H : Type} : ∀ l : List (Lit × DataW H), (l.foldr DataW.insert []).Perm l
 | [] => List.Perm.refl _
 | x :: l => (insert_perm x _).trans ((foldr_perm l).cons x)
def anyR {H : Type} : Value → Option (DataW H × List MemPlace) := fun _ => some (.lit (.bool true), [])
def strM (f : ByteArray → D) (ks : List ByteArray) : List (D × D) := ks.map fun s => (.str s, f s)
theorem up_sort {ss : List (List UInt8)} (hnd : ss.Nodup) : ((ss.mergeSort (fun x y => decide (x ≤ y))).map S).Pairwise fun x y => ltS x y = true := by
 have h1 : (ss.mergeSort (fun x y => decide (x ≤ y))).Pairwise (fun x y => decide (x ≤ y) = true) := List.pairwise_mergeSort (fun a b c h1 h2 => by simp only [decide_eq_true_eq] at *; exact List.le_trans h1 h2) (fun a b => by simp only [Bool.or_eq_true, decide_eq_true_eq]; exact List.le_total a b) ss
 have h2 : (ss.mergeSort (fun x y => decide (x ≤ y))).Nodup := (List.mergeSort_perm ss _).nodup_iff.2 hnd
 rw [List.pairwise_map]
 refine (h1.and h2).imp fun {x y} h => ?_
 rw [ltS_iff, B_S, B_S]
 have hle : x ≤ y := of_decide_eq_true h.1
 by_cases g : x < y
 ·exact g
 ·exact absurd (List.le_antisymm hle (List.not_lt.1 g)) h.2
end Go.Lin
namespace Go.Proofs.YtacekpdodelnbaaGreatDoor
open Go Go.Av Go.RowKit Go.Maps Go.Sort Go.Shelf Go.Lexs Go.WideElems Go.Lin
theorem keysB_a {Q} (b : Nat) (H : Heap) (h : ∀ bk, H bk = none → Q (.fn (.func 121) [] [.box bk 0]) (H.set bk (.box [.map b]))) : ACalls Tryz.prog 99 [.map b] H Q := by
 refine ⟨by kernel_rfl, fun w vs hl hr hs => ?_⟩
 obtain ⟨a, rfl, ha⟩ := args1 hl hr
 have ea : a = .map (some b) := by cases ha; rfl
 subst ea
 refine (callsIn_wide.1 (Tryz.maps_Keys_99 (some b) w)).mono ?_
 rintro e w' ⟨rfl, rfl⟩
 have hp := post_box (K := fun d H' => ∃ bk, d = .box bk 0 ∧ H bk = none ∧ H' = H.set bk (.box [.map b])) hs (cs := [.map b]) (vs := #[.map (some b)]) 118 (Z := none) (by simp) ⟨rfl, fun i d hd => (match i, hd with | 0, hd => by cases hd; rfl | i + 1, hd => by cases hd), fun i d hd => (match i, hd with | 0, hd => by cases hd; exact .map b | i + 1, hd => by cases hd)⟩ (fun bk hbk => ⟨bk, rfl, hbk, rfl⟩)
 obtain ⟨d, H1, k1, k2, k3, k4, bk, rfl, hbk, rfl⟩ := hp
 refine ⟨_, rfl, .fn (.func 121) [] [.box bk 0], _, ?_, k2, k3, k4, h bk hbk⟩
 refine .fn _ [] [.box bk 0] #[] #[_] rfl rfl (by simp) fun i d hd => ?_
 match i with
 | 0 => cases hd; exact k1
 | i + 1 => cases hd
theorem sortB_a {Q} (bk b : Nat) (f : ByteArray → D) (ks : List ByteArray) (hlen : ks.length ≤ 1000000000) (hsz : ∀ s ∈ ks, s.size ≤ 4611686018427387904) (H : Heap) (h1 : H bk = some (.box [.map b])) (h2 : H b = some (.map (strM f ks)))
  (h : ∀ l : List ByteArray, l.Pairwise (fun x y => ltS x y = true) → (∀ s, s ∈ l ↔ s ∈ ks) → Q (.sl 1 (Rw strC l)) H) : ACalls Tryz.prog 56 [.fn (.func 121) [] [.box bk 0]] H Q := by
 refine ⟨by kernel_rfl, fun w vs hl hr hs => ?_⟩
 obtain ⟨a, rfl, ha⟩ := args1 hl hr
 have ea : a = .func (.func 121) #[] #[.pointer (some ⟨bk, 0, none⟩)] := by
  cases ha with
  | fn _ _ _ us1 us2 hl1 hl2 q1 q2 =>
   have e1 : us1 = #[] := Array.eq_empty_of_size_eq_zero (by simpa using hl1.symm)
   obtain ⟨l2⟩ := us2
   match l2, hl2 with
   | [x], _ =>
    have hx := q2 0 _ rfl
    have : x = .pointer (some ⟨bk, 0, none⟩) := by
     simp at hx
     cases hx; rfl
    rw [e1, this]
 subst ea
 obtain ⟨c, T, lo, hi, c1, _, c2, c3, _⟩ := hs _ _ h1
 obtain ⟨es, clock, m1, m2, m3, m4⟩ := hs _ _ h2
 have hc0 : c[0]? = some (.map (some b)) := by
  have h0 := (c3 0 (.map b) rfl).2
  have hsz : 0 < c.size := by rw [c2]; simp
  have e : c[0]? = some (c.getD 0 undef) := by simp [hsz]
  rw [e]
  revert h0
  generalize c.getD 0 undef = x
  intro h0
  cases h0; rfl
 have hcell : w.cell? ⟨bk, 0, none⟩ = some (.map (some b)) := by
  unfold World.cell?
  simp only [c1]
  exact hc0
 have hbk : bk < w.heap.size := hs.lt h1
 have hkey : ∀ (i : Nat) (hi : i < ks.length), (es.getD i default).key = .string ks[i] := fun i hi => by
  have := (m4 i (.str ks[i], f ks[i]) (by simp [strM, hi])).2.1
  revert this
  generalize (es.getD i default).key = x
  intro this
  cases this; rfl
 have hes : es.size = ks.length := by rw [m3]; simp [strM]
 have hkl : es.toList.map (·.key) = ks.map .string := by
  apply List.ext_getElem
  ·simp [hes]
  ·intro i h1 h2
   have hi : i < ks.length := by simpa using h2
   have := hkey i hi
   have hi2 : i < es.size := by omega
   simp [hi2] at this
   simp [this]
 have hko : ∀ x ∈ es.toList, ∃ s ∈ ks, x.key = .string s := fun x hx => by
  have : x.key ∈ es.toList.map (·.key) := List.mem_map.2 ⟨x, hx, rfl⟩
  rw [hkl] at this
  obtain ⟨s, hs, e⟩ := List.mem_map.1 this
  exact ⟨s, hs, e.symm⟩
 have hund : Tryz.prog.underlying 9 = some .string := by kernel_rfl
 have hrd : ∀ x ∈ es.toList, ∀ s, s ∈ ks → x.key = .string s → WideElems.rd (H := Unit) Tryz.prog 9 anyR x = some (.string s.data.toList, .lit (.bool true)) := fun x _ s hs e => by
  unfold WideElems.rd
  rw [e, WideMaps.keyOf_string_mk hund (by have := hsz s hs; unfold maxLen; omega)]
  rfl
 have hown : w.ownsMap (H := Unit) Tryz.prog 9 anyR b es.size (.map ((es.toList.map (rg Tryz.prog 9 anyR)).foldr DataW.insert [])) := by
  refine ⟨es, clock, m1, ⟨by unfold maxLen; omega, m2, fun x hx => ?_⟩, Nat.le_refl _, rfl⟩
  obtain ⟨s, hs, e⟩ := hko x hx
  exact ⟨_, hrd x hx s hs e⟩
 have hrg : ∀ x ∈ es.toList, ∀ s, s ∈ ks → x.key = .string s → rg (H := Unit) Tryz.prog 9 anyR x = (.string s.data.toList, .lit (.bool true)) := fun x hx s hs e => rg_of (hrd x hx s hs e)
 have hsk : (strKeys (H := Unit) (.map ((es.toList.map (rg Tryz.prog 9 anyR)).foldr DataW.insert []))).Perm (ks.map B) := by
  show (((es.toList.map (rg Tryz.prog 9 anyR)).foldr DataW.insert []).map fun p => strOf p.1).Perm _
  refine ((foldr_perm _).map _).trans ?_
  rw [List.map_map]
  have : es.toList.map ((fun p => strOf p.1) ∘ rg (H := Unit) Tryz.prog 9 anyR) = ks.map B := by
   have e2 : ks.map B = (es.toList.map (·.key)).map (fun v => match v with | .string s => B s | _ => []) := by rw [hkl, List.map_map]; rfl
   rw [e2, List.map_map]
   refine List.map_congr_left fun x hx => ?_
   obtain ⟨s, hs, e⟩ := hko x hx
   simp only [Function.comp]
   rw [hrg x hx s hs e, e]; rfl
  rw [this]
 have hnd : (ks.map B).Nodup := by
  have := m2.2.2
  rw [hkl] at this
  have h2 : List.Pairwise (fun a b : ByteArray => Value.string a ≠ Value.string b) ks := List.pairwise_map.1 this
  have h3 : List.Pairwise (fun a b : ByteArray => B a ≠ B b) ks := h2.imp fun {a b} h e => h (congrArg Value.string (B_inj e))
  exact List.pairwise_map.2 h3
 have hseq := AnyZ.keys_gives (ρ := Tryz.keys99_ren) { Tryz.keys99 with } Fence.wide 2 trivial rfl (by omega) bk b es.size _ w hbk hcell hown
 have hms : Maps.size (.map ((es.toList.map (rg (H := Unit) Tryz.prog 9 anyR)).foldr DataW.insert []) : DataW Unit) = ks.length := by
  show (((es.toList.map (rg Tryz.prog 9 anyR)).foldr DataW.insert [])).length = _
  rw [(foldr_perm _).length_eq]; simp [hes]
 refine (callsIn_wide.1 (AnyZ.sorted_in Tryz.sorted56 Fence.wide 5 trivial trivial trivial trivial rfl (by omega) (Tryz.sorts56 _) (enters_of Tryz.func102 (by kernel_rfl) rfl) 121 #[.pointer (some ⟨bk, 0, none⟩)] trivial (enters_of Tryz.func121 (by kernel_rfl) rfl) _ _ (by rw [hms]; unfold maxLen; omega) (by rw [hms]; omega) w hseq)).mono ?_
 rintro e w' ⟨v, ss, rfl, hS, hrow, _, hB⟩
 have hp : ss.Perm (ks.map B) := hS.trans hsk
 have hsn : ss.Nodup := hp.nodup_iff.2 hnd
 have hup := up_sort hsn
 have hmem : ∀ s, s ∈ (ss.mergeSort (fun x y => decide (x ≤ y))).map S ↔ s ∈ ks := fun s => by
  rw [List.mem_map]
  constructor
  ·rintro ⟨x, hx, rfl⟩
   have := hp.mem_iff.1 ((List.mergeSort_perm ss _).mem_iff.1 hx)
   obtain ⟨t, ht, rfl⟩ := List.mem_map.1 this
   rw [S_B]; exact ht
  ·intro hs
   refine ⟨B s, (List.mergeSort_perm ss _).mem_iff.2 (hp.mem_iff.2 (List.mem_map.2 ⟨s, hs, rfl⟩)), S_B s⟩
 refine ⟨v, rfl, .sl 1 (Rw strC ((ss.mergeSort (fun x y => decide (x ≤ y))).map S)), H, ?_, sat_below hs hB, ext_below hB, From.refl _ _, h _ hup hmem⟩
 have hll : ((ss.mergeSort (fun x y => decide (x ≤ y))).map S).length = ss.length := by simp
 generalize ss.mergeSort (fun x y => decide (x ≤ y)) = zs at hrow hll ⊢
 obtain ⟨r1, r2⟩ := hrow
 rcases r2 with ⟨rfl, r3⟩ | ⟨g, cap, cur, rfl, r3, r4, r5, r6, r7, r8⟩
 ·have : zs.map S = [] := List.eq_nil_of_length_eq_zero (by rw [hll, r3])
  rw [this]
  exact .sl0 _ _ _
 ·have hlz : (Rw strC (zs.map S)).length = ss.length := by rw [Rw_len, hll]
  rw [← hlz]
  refine .sl 1 _ g 0 cap (fun i j => cur.getD i undef) ?_ ?_ (fun i e he => ?_) (by rw [hlz]; exact r5) (fun i j hi hj => ?_) (fun i e j d he hd => ?_) (fun i e j d he hd => ?_)
  ·by_cases hlt : g < w'.heap.size
   ·exact hlt
   ·rw [Array.getElem?_eq_none (Nat.le_of_not_lt hlt)] at r4; cases r4
  ·exact held_none (hs.fresh r3)
  ·rw [Rw, List.getElem?_map] at he
   obtain ⟨x, _, rfl⟩ := Option.map_eq_some_iff.1 he
   rfl
  ·have hj0 : j = 0 := by omega
   subst hj0
   have hi2 : i < cur.size := by rw [hlz] at hi; rw [r7]; omega
   unfold World.cell?
   simp only [r4]
   simp [hi2]
  ·rw [Rw, List.getElem?_map] at he
   obtain ⟨x, _, rfl⟩ := Option.map_eq_some_iff.1 he
   match j with
   | 0 => cases hd; rfl
   | j + 1 => cases hd
  ·rw [Rw, List.getElem?_map, List.getElem?_map] at he
   obtain ⟨x, hx, rfl⟩ := Option.map_eq_some_iff.1 he
   obtain ⟨z, hz, rfl⟩ := Option.map_eq_some_iff.1 hx
   match j with
   | 0 =>
    cases hd
    have hi : i < zs.length := (List.getElem?_eq_some_iff.1 hz).1
    have h3 : (cur.toList.take (ss.length * 1))[i]? = some (encStr z) := by rw [r8, List.getElem?_map, hz]; rfl
    rw [List.getElem?_take] at h3
    split at h3
    ·have : cur[i]? = some (encStr z) := by simpa using h3
     have e : cur.getD i undef = encStr z := by
      have hi2 := (Array.getElem?_eq_some_iff.1 this)
      obtain ⟨hi3, hi4⟩ := hi2
      simp [hi3, hi4]
     rw [e]
     exact .str _
    ·cases h3
   | j + 1 => cases hd
theorem keysI_a {Q} (b : Nat) (H : Heap) (h : ∀ bk, H bk = none → Q (.fn (.func 103) [] [.box bk 0]) (H.set bk (.box [.map b]))) : ACalls Tryz.prog 57 [.map b] H Q := by
 refine ⟨by kernel_rfl, fun w vs hl hr hs => ?_⟩
 obtain ⟨a, rfl, ha⟩ := args1 hl hr
 have ea : a = .map (some b) := by cases ha; rfl
 subst ea
 refine (callsIn_wide.1 (Tryz.maps_Keys_57 (some b) w)).mono ?_
 rintro e w' ⟨rfl, rfl⟩
 have hp := post_box (K := fun d H' => ∃ bk, d = .box bk 0 ∧ H bk = none ∧ H' = H.set bk (.box [.map b])) hs (cs := [.map b]) (vs := #[.map (some b)]) 80 (Z := none) (by simp) ⟨rfl, fun i d hd => (match i, hd with | 0, hd => by cases hd; rfl | i + 1, hd => by cases hd), fun i d hd => (match i, hd with | 0, hd => by cases hd; exact .map b | i + 1, hd => by cases hd)⟩ (fun bk hbk => ⟨bk, rfl, hbk, rfl⟩)
 obtain ⟨d, H1, k1, k2, k3, k4, bk, rfl, hbk, rfl⟩ := hp
 refine ⟨_, rfl, .fn (.func 103) [] [.box bk 0], _, ?_, k2, k3, k4, h bk hbk⟩
 refine .fn _ [] [.box bk 0] #[] #[_] rfl rfl (by simp) fun i d hd => ?_
 match i with
 | 0 => cases hd; exact k1
 | i + 1 => cases hd
theorem sortI_a {Q} (bk b : Nat) (f : ByteArray → D) (ks : List ByteArray) (hlen : ks.length ≤ 1000000000) (hsz : ∀ s ∈ ks, s.size ≤ 4611686018427387904) (H : Heap) (h1 : H bk = some (.box [.map b])) (h2 : H b = some (.map (strM f ks)))
  (h : ∀ l : List ByteArray, l.Pairwise (fun x y => ltS x y = true) → (∀ s, s ∈ l ↔ s ∈ ks) → Q (.sl 1 (Rw strC l)) H) : ACalls Tryz.prog 56 [.fn (.func 103) [] [.box bk 0]] H Q := by
 refine ⟨by kernel_rfl, fun w vs hl hr hs => ?_⟩
 obtain ⟨a, rfl, ha⟩ := args1 hl hr
 have ea : a = .func (.func 103) #[] #[.pointer (some ⟨bk, 0, none⟩)] := by
  cases ha with
  | fn _ _ _ us1 us2 hl1 hl2 q1 q2 =>
   have e1 : us1 = #[] := Array.eq_empty_of_size_eq_zero (by simpa using hl1.symm)
   obtain ⟨l2⟩ := us2
   match l2, hl2 with
   | [x], _ =>
    have hx := q2 0 _ rfl
    have : x = .pointer (some ⟨bk, 0, none⟩) := by
     simp at hx
     cases hx; rfl
    rw [e1, this]
 subst ea
 obtain ⟨c, T, lo, hi, c1, _, c2, c3, _⟩ := hs _ _ h1
 obtain ⟨es, clock, m1, m2, m3, m4⟩ := hs _ _ h2
 have hc0 : c[0]? = some (.map (some b)) := by
  have h0 := (c3 0 (.map b) rfl).2
  have hsz : 0 < c.size := by rw [c2]; simp
  have e : c[0]? = some (c.getD 0 undef) := by simp [hsz]
  rw [e]
  revert h0
  generalize c.getD 0 undef = x
  intro h0
  cases h0; rfl
 have hcell : w.cell? ⟨bk, 0, none⟩ = some (.map (some b)) := by
  unfold World.cell?
  simp only [c1]
  exact hc0
 have hbk : bk < w.heap.size := hs.lt h1
 have hkey : ∀ (i : Nat) (hi : i < ks.length), (es.getD i default).key = .string ks[i] := fun i hi => by
  have := (m4 i (.str ks[i], f ks[i]) (by simp [strM, hi])).2.1
  revert this
  generalize (es.getD i default).key = x
  intro this
  cases this; rfl
 have hes : es.size = ks.length := by rw [m3]; simp [strM]
 have hkl : es.toList.map (·.key) = ks.map .string := by
  apply List.ext_getElem
  ·simp [hes]
  ·intro i h1 h2
   have hi : i < ks.length := by simpa using h2
   have := hkey i hi
   have hi2 : i < es.size := by omega
   simp [hi2] at this
   simp [this]
 have hko : ∀ x ∈ es.toList, ∃ s ∈ ks, x.key = .string s := fun x hx => by
  have : x.key ∈ es.toList.map (·.key) := List.mem_map.2 ⟨x, hx, rfl⟩
  rw [hkl] at this
  obtain ⟨s, hs, e⟩ := List.mem_map.1 this
  exact ⟨s, hs, e.symm⟩
 have hund : Tryz.prog.underlying 9 = some .string := by kernel_rfl
 have hrd : ∀ x ∈ es.toList, ∀ s, s ∈ ks → x.key = .string s → WideElems.rd (H := Unit) Tryz.prog 9 anyR x = some (.string s.data.toList, .lit (.bool true)) := fun x _ s hs e => by
  unfold WideElems.rd
  rw [e, WideMaps.keyOf_string_mk hund (by have := hsz s hs; unfold maxLen; omega)]
  rfl
 have hown : w.ownsMap (H := Unit) Tryz.prog 9 anyR b es.size (.map ((es.toList.map (rg Tryz.prog 9 anyR)).foldr DataW.insert [])) := by
  refine ⟨es, clock, m1, ⟨by unfold maxLen; omega, m2, fun x hx => ?_⟩, Nat.le_refl _, rfl⟩
  obtain ⟨s, hs, e⟩ := hko x hx
  exact ⟨_, hrd x hx s hs e⟩
 have hrg : ∀ x ∈ es.toList, ∀ s, s ∈ ks → x.key = .string s → rg (H := Unit) Tryz.prog 9 anyR x = (.string s.data.toList, .lit (.bool true)) := fun x hx s hs e => rg_of (hrd x hx s hs e)
 have hsk : (strKeys (H := Unit) (.map ((es.toList.map (rg Tryz.prog 9 anyR)).foldr DataW.insert []))).Perm (ks.map B) := by
  show (((es.toList.map (rg Tryz.prog 9 anyR)).foldr DataW.insert []).map fun p => strOf p.1).Perm _
  refine ((foldr_perm _).map _).trans ?_
  rw [List.map_map]
  have : es.toList.map ((fun p => strOf p.1) ∘ rg (H := Unit) Tryz.prog 9 anyR) = ks.map B := by
   have e2 : ks.map B = (es.toList.map (·.key)).map (fun v => match v with | .string s => B s | _ => []) := by rw [hkl, List.map_map]; rfl
   rw [e2, List.map_map]
   refine List.map_congr_left fun x hx => ?_
   obtain ⟨s, hs, e⟩ := hko x hx
   simp only [Function.comp]
   rw [hrg x hx s hs e, e]; rfl
  rw [this]
 have hnd : (ks.map B).Nodup := by
  have := m2.2.2
  rw [hkl] at this
  have h2 : List.Pairwise (fun a b : ByteArray => Value.string a ≠ Value.string b) ks := List.pairwise_map.1 this
  have h3 : List.Pairwise (fun a b : ByteArray => B a ≠ B b) ks := h2.imp fun {a b} h e => h (congrArg Value.string (B_inj e))
  exact List.pairwise_map.2 h3
 have hseq := AnyZ.keys_gives (ρ := Tryz.keys57_ren) { Tryz.keys57 with } Fence.wide 2 trivial rfl (by omega) bk b es.size _ w hbk hcell hown
 have hms : Maps.size (.map ((es.toList.map (rg (H := Unit) Tryz.prog 9 anyR)).foldr DataW.insert []) : DataW Unit) = ks.length := by
  show (((es.toList.map (rg Tryz.prog 9 anyR)).foldr DataW.insert [])).length = _
  rw [(foldr_perm _).length_eq]; simp [hes]
 refine (callsIn_wide.1 (AnyZ.sorted_in Tryz.sorted56 Fence.wide 5 trivial trivial trivial trivial rfl (by omega) (Tryz.sorts56 _) (enters_of Tryz.func102 (by kernel_rfl) rfl) 103 #[.pointer (some ⟨bk, 0, none⟩)] trivial (enters_of Tryz.func103 (by kernel_rfl) rfl) _ _ (by rw [hms]; unfold maxLen; omega) (by rw [hms]; omega) w hseq)).mono ?_
 rintro e w' ⟨v, ss, rfl, hS, hrow, _, hB⟩
 have hp : ss.Perm (ks.map B) := hS.trans hsk
 have hsn : ss.Nodup := hp.nodup_iff.2 hnd
 have hup := up_sort hsn
 have hmem : ∀ s, s ∈ (ss.mergeSort (fun x y => decide (x ≤ y))).map S ↔ s ∈ ks := fun s => by
  rw [List.mem_map]
  constructor
  ·rintro ⟨x, hx, rfl⟩
   have := hp.mem_iff.1 ((List.mergeSort_perm ss _).mem_iff.1 hx)
   obtain ⟨t, ht, rfl⟩ := List.mem_map.1 this
   rw [S_B]; exact ht
  ·intro hs
   refine ⟨B s, (List.mergeSort_perm ss _).mem_iff.2 (hp.mem_iff.2 (List.mem_map.2 ⟨s, hs, rfl⟩)), S_B s⟩
 refine ⟨v, rfl, .sl 1 (Rw strC ((ss.mergeSort (fun x y => decide (x ≤ y))).map S)), H, ?_, sat_below hs hB, ext_below hB, From.refl _ _, h _ hup hmem⟩
 have hll : ((ss.mergeSort (fun x y => decide (x ≤ y))).map S).length = ss.length := by simp
 generalize ss.mergeSort (fun x y => decide (x ≤ y)) = zs at hrow hll ⊢
 obtain ⟨r1, r2⟩ := hrow
 rcases r2 with ⟨rfl, r3⟩ | ⟨g, cap, cur, rfl, r3, r4, r5, r6, r7, r8⟩
 ·have : zs.map S = [] := List.eq_nil_of_length_eq_zero (by rw [hll, r3])
  rw [this]
  exact .sl0 _ _ _
 ·have hlz : (Rw strC (zs.map S)).length = ss.length := by rw [Rw_len, hll]
  rw [← hlz]
  refine .sl 1 _ g 0 cap (fun i j => cur.getD i undef) ?_ ?_ (fun i e he => ?_) (by rw [hlz]; exact r5) (fun i j hi hj => ?_) (fun i e j d he hd => ?_) (fun i e j d he hd => ?_)
  ·by_cases hlt : g < w'.heap.size
   ·exact hlt
   ·rw [Array.getElem?_eq_none (Nat.le_of_not_lt hlt)] at r4; cases r4
  ·exact held_none (hs.fresh r3)
  ·rw [Rw, List.getElem?_map] at he
   obtain ⟨x, _, rfl⟩ := Option.map_eq_some_iff.1 he
   rfl
  ·have hj0 : j = 0 := by omega
   subst hj0
   have hi2 : i < cur.size := by rw [hlz] at hi; rw [r7]; omega
   unfold World.cell?
   simp only [r4]
   simp [hi2]
  ·rw [Rw, List.getElem?_map] at he
   obtain ⟨x, _, rfl⟩ := Option.map_eq_some_iff.1 he
   match j with
   | 0 => cases hd; rfl
   | j + 1 => cases hd
  ·rw [Rw, List.getElem?_map, List.getElem?_map] at he
   obtain ⟨x, hx, rfl⟩ := Option.map_eq_some_iff.1 he
   obtain ⟨z, hz, rfl⟩ := Option.map_eq_some_iff.1 hx
   match j with
   | 0 =>
    cases hd
    have hi : i < zs.length := (List.getElem?_eq_some_iff.1 hz).1
    have h3 : (cur.toList.take (ss.length * 1))[i]? = some (encStr z) := by rw [r8, List.getElem?_map, hz]; rfl
    rw [List.getElem?_take] at h3
    split at h3
    ·have : cur[i]? = some (encStr z) := by simpa using h3
     have e : cur.getD i undef = encStr z := by
      have hi2 := (Array.getElem?_eq_some_iff.1 this)
      obtain ⟨hi3, hi4⟩ := hi2
      simp [hi3, hi4]
     rw [e]
     exact .str _
    ·cases h3
   | j + 1 => cases hd
end Go.Proofs.YtacekpdodelnbaaGreatDoor
end
section
namespace Go.Proofs
open Go.Shelf
def Tryz.lays106_ren : Go.Shelf.Ren := ⟨fun | 106 => 127 | 213 => 157 | 265 => 198 | n => n, fun | 9 => 9 | 3 => 3 | n => n, fun | n => n⟩
theorem Tryz.lays106 : Go.Proofs.Lays.n106 Tryz.prog Tryz.lays106_ren := {
 mixed := by kernel_rfl
 f106 := Tryz.func127.trans (congrArg some (by kernel_rfl))
 f213 := Tryz.func157.trans (congrArg some (by kernel_rfl))
 f265 := Tryz.func198.trans (congrArg some (by kernel_rfl))
 t3 := Tryz.underlying3
 a3 := Tryz.isAgg3
 z3 := Tryz.sizeOf3
 v3 := Tryz.zeroValue3
 t9 := Tryz.underlying9
 a9 := Tryz.isAgg9
 z9 := Tryz.sizeOf9
 v9 := Tryz.zeroValue9 }
open Go.RowKit in
theorem Tryz.strings_Compare (a b : ByteArray) (w : World) :
  Calls Tryz.prog 127 #[.string a, .string b] w fun e w' => e = .returned (.int .i64 (Lib.compareBytes a.data.toList b.data.toList)) ∧ w' = w := Any.strings_Compare Tryz.lays106 a b w
def Tryz.lays137_ren : Go.Shelf.Ren := ⟨fun | 137 => 97 | 217 => 120 | 266 => 145 | n => n, fun | 9 => 9 | 5 => 5 | 3 => 3 | n => n, fun | n => n⟩
theorem Tryz.lays137 : Go.Proofs.Lays.n137 Tryz.prog Tryz.lays137_ren := {
 mixed := by kernel_rfl
 f137 := Tryz.func97.trans (congrArg some (by kernel_rfl))
 f217 := Tryz.func120.trans (congrArg some (by kernel_rfl))
 f266 := Tryz.func145.trans (congrArg some (by kernel_rfl))
 t3 := Tryz.underlying3
 a3 := Tryz.isAgg3
 z3 := Tryz.sizeOf3
 v3 := Tryz.zeroValue3
 t5 := Tryz.underlying5
 a5 := Tryz.isAgg5
 z5 := Tryz.sizeOf5
 v5 := Tryz.zeroValue5
 t9 := Tryz.underlying9
 a9 := Tryz.isAgg9
 z9 := Tryz.sizeOf9
 v9 := Tryz.zeroValue9 }
open Go.RowKit in
theorem Tryz.strings_IndexByte (s : ByteArray) (c : Int) (w : World) :
  Calls Tryz.prog 97 #[.string s, .int .u8 c] w fun e w' => e = .returned (.int .i64 (Lib.indexByte s.data.toList c.toNat.toUInt8)) ∧ w' = w := Any.strings_IndexByte Tryz.lays137 s c w
def Tryz.lays104_ren : Go.Shelf.Ren := ⟨fun | 104 => 75 | 211 => 106 | 207 => 108 | n => n, fun | 9 => 9 | 4 => 4 | 24 => 96 | 3 => 3 | n => n, fun | n => n⟩
theorem Tryz.lays104 : Go.Proofs.Lays.n104 Tryz.prog Tryz.lays104_ren := {
 mixed := by kernel_rfl
 f104 := Tryz.func75.trans (congrArg some (by kernel_rfl))
 f207 := Tryz.func108.trans (congrArg some (by kernel_rfl))
 f211 := Tryz.func106.trans (congrArg some (by kernel_rfl))
 t3 := Tryz.underlying3
 a3 := Tryz.isAgg3
 z3 := Tryz.sizeOf3
 v3 := Tryz.zeroValue3
 t4 := Tryz.underlying4
 a4 := Tryz.isAgg4
 z4 := Tryz.sizeOf4
 v4 := Tryz.zeroValue4
 t9 := Tryz.underlying9
 a9 := Tryz.isAgg9
 z9 := Tryz.sizeOf9
 v9 := Tryz.zeroValue9
 t24 := Tryz.underlying96
 a24 := Tryz.isAgg96
 z24 := Tryz.sizeOf96
 v24 := Tryz.zeroValue96 }
open Go.RowKit in
theorem Tryz.strings_CutSuffix (s p : ByteArray) (w : World) (hs : s.size ≤ 9223372036854775807) :
  Calls Tryz.prog 75 #[.string s, .string p] w fun e w' => e = .returned (.tuple #[.string ⟨(Lib.trimSuffix s.data.toList p.data.toList).toArray⟩, .bool (Lib.hasSuffix s.data.toList p.data.toList)]) ∧ w' = w := Any.strings_CutSuffix Tryz.lays104 s p w hs
def Tryz.laysM171_ren : Go.Shelf.Ren := ⟨fun | 171 => 73 | 243 => 105 | 246 => 128 | 283 => 158 | 284 => 159 | 285 => 160 | 286 => 161 | 129 => 156 | 317 => 199 | 318 => 200 | 319 => 201 | 320 => 202 | 337 => 222 | 338 => 223 | n => n, fun | 3 => 3 | 9 => 9 | 2 => 2 | 4 => 4 | 171 => 180 | 0 => 0 | 53 => 179 | 37 => 115 | 5 => 5 | 173 => 182 | 212 => 213 | 51 => 177 | 20 => 20 | 213 => 214 | 46 => 144 | 232 => 243 | 233 => 244 | n => n, fun | 17 => 1 | 18 => 4 | 19 => 5 | n => n⟩
theorem Tryz.laysM171 : Go.Proofs.LaysM.n171 Tryz.prog Tryz.laysM171_ren := {
 mixed := by kernel_rfl
 f129 := Tryz.func156.trans (congrArg some (by kernel_rfl))
 f171 := Tryz.func73.trans (congrArg some (by kernel_rfl))
 f243 := Tryz.func105.trans (congrArg some (by kernel_rfl))
 f246 := Tryz.func128.trans (congrArg some (by kernel_rfl))
 f283 := Tryz.func158.trans (congrArg some (by kernel_rfl))
 f284 := Tryz.func159.trans (congrArg some (by kernel_rfl))
 f285 := Tryz.func160.trans (congrArg some (by kernel_rfl))
 f286 := Tryz.func161.trans (congrArg some (by kernel_rfl))
 f317 := Tryz.func199.trans (congrArg some (by kernel_rfl))
 f318 := Tryz.func200.trans (congrArg some (by kernel_rfl))
 f319 := Tryz.func201.trans (congrArg some (by kernel_rfl))
 f320 := Tryz.func202.trans (congrArg some (by kernel_rfl))
 f337 := Tryz.func222.trans (congrArg some (by kernel_rfl))
 f338 := Tryz.func223.trans (congrArg some (by kernel_rfl))
 t0 := Tryz.underlying0
 a0 := Tryz.isAgg0
 z0 := Tryz.sizeOf0
 v0 := Tryz.zeroValue0
 t2 := Tryz.underlying2
 a2 := Tryz.isAgg2
 z2 := Tryz.sizeOf2
 v2 := Tryz.zeroValue2
 t3 := Tryz.underlying3
 a3 := Tryz.isAgg3
 z3 := Tryz.sizeOf3
 v3 := Tryz.zeroValue3
 t4 := Tryz.underlying4
 a4 := Tryz.isAgg4
 z4 := Tryz.sizeOf4
 v4 := Tryz.zeroValue4
 t5 := Tryz.underlying5
 a5 := Tryz.isAgg5
 z5 := Tryz.sizeOf5
 v5 := Tryz.zeroValue5
 t9 := Tryz.underlying9
 a9 := Tryz.isAgg9
 z9 := Tryz.sizeOf9
 v9 := Tryz.zeroValue9
 t20 := Tryz.underlying20
 a20 := Tryz.isAgg20
 z20 := Tryz.sizeOf20
 v20 := Tryz.zeroValue20
 t37 := Tryz.underlying115
 a37 := Tryz.isAgg115
 z37 := Tryz.sizeOf115
 v37 := Tryz.zeroValue115
 t46 := Tryz.underlying144
 a46 := Tryz.isAgg144
 z46 := Tryz.sizeOf144
 v46 := Tryz.zeroValue144
 t51 := Tryz.underlying177
 a51 := Tryz.isAgg177
 z51 := Tryz.sizeOf177
 v51 := Tryz.zeroValue177
 t53 := Tryz.underlying179
 a53 := Tryz.isAgg179
 z53 := Tryz.sizeOf179
 v53 := Tryz.zeroValue179
 t171 := Tryz.underlying180
 a171 := Tryz.isAgg180
 z171 := Tryz.sizeOf180
 v171 := Tryz.zeroValue180
 t173 := Tryz.underlying182
 a173 := Tryz.isAgg182
 z173 := Tryz.sizeOf182
 v173 := Tryz.zeroValue182
 t212 := Tryz.underlying213
 a212 := Tryz.isAgg213
 z212 := Tryz.sizeOf213
 v212 := Tryz.zeroValue213
 t213 := Tryz.underlying214
 a213 := Tryz.isAgg214
 z213 := Tryz.sizeOf214
 t232 := Tryz.underlying243
 a232 := Tryz.isAgg243
 z232 := Tryz.sizeOf243
 v232 := Tryz.zeroValue243
 t233 := Tryz.underlying244
 a233 := Tryz.isAgg244
 z233 := Tryz.sizeOf244
 v233 := Tryz.zeroValue244
 g17 := by kernel_rfl
 g18 := by kernel_rfl
 g19 := by kernel_rfl
 i0 := by kernel_rfl
 i2 := by kernel_rfl
 i3 := by kernel_rfl
 i4 := by kernel_rfl
 i5 := by kernel_rfl
 i9 := by kernel_rfl
 i20 := by kernel_rfl
 i37 := by kernel_rfl
 i46 := by kernel_rfl
 i51 := by kernel_rfl
 i53 := by kernel_rfl
 i171 := by kernel_rfl
 i173 := by kernel_rfl
 i212 := by kernel_rfl
 i232 := by kernel_rfl
 i233 := by kernel_rfl
 m17 := by kernel_rfl
 m18 := by kernel_rfl
 m19 := by kernel_rfl }
open Go.RowKit Go.Sort Go.Lib in
theorem Tryz.strconv_Itoa (n : Int) (h0 : -9223372036854775808 ≤ n) (h1 : n ≤ 9223372036854775807) (w : World) (htab : Lib.TabIs Tryz.prog w "internal/strconv.uint64pow10" .u64 Lib.pow10Tab) :
  Calls Tryz.prog 73 #[.int .i64 n] w fun e w' => e = .returned (.string ⟨(Lib.itoa n).toArray⟩) ∧ ∃ k os, w' = grow (w.drewN k) os := Any.strconv_Itoa Tryz.laysM171 n h0 h1 w htab
def Tryz.laysC172_ren : Go.Shelf.Ren := ⟨fun | 172 => 112 | 244 => 132 | 245 => 133 | 247 => 163 | 279 => 164 | 280 => 165 | 281 => 166 | 282 => 167 | 287 => 206 | 316 => 207 | 171 => 73 | 205 => 208 | 321 => 225 | 322 => 226 | 243 => 105 | 246 => 128 | 283 => 158 | 284 => 159 | 285 => 160 | 286 => 161 | 129 => 156 | 317 => 199 | 318 => 200 | 319 => 201 | 320 => 202 | 337 => 222 | 338 => 223 | n => n, fun | 9 => 9 | 3 => 3 | 75 => 126 | 76 => 127 | 4 => 4 | 5 => 5 | 167 => 184 | 37 => 115 | 0 => 0 | 85 => 185 | 2 => 2 | 168 => 187 | 53 => 179 | 175 => 215 | 46 => 144 | 210 => 219 | 127 => 237 | 145 => 240 | 143 => 238 | 21 => 21 | 171 => 180 | 173 => 182 | 212 => 213 | 51 => 177 | 20 => 20 | 213 => 214 | 232 => 243 | 233 => 244 | 80 => 245 | n => n, fun | 15 => 2 | 16 => 3 | 17 => 1 | 18 => 4 | 19 => 5 | n => n⟩
theorem Tryz.laysC172 : Go.Proofs.LaysC.n172 Tryz.prog Tryz.laysC172_ren := {
 mixed := by kernel_rfl
 f129 := Tryz.func156.trans (congrArg some (by kernel_rfl))
 f171 := Tryz.func73.trans (congrArg some (by kernel_rfl))
 f172 := Tryz.func112.trans (congrArg some (by kernel_rfl))
 f205 := Tryz.func208.trans (congrArg some (by kernel_rfl))
 f243 := Tryz.func105.trans (congrArg some (by kernel_rfl))
 f244 := Tryz.func132.trans (congrArg some (by kernel_rfl))
 f245 := Tryz.func133.trans (congrArg some (by kernel_rfl))
 f246 := Tryz.func128.trans (congrArg some (by kernel_rfl))
 f247 := Tryz.func163.trans (congrArg some (by kernel_rfl))
 f279 := Tryz.func164.trans (congrArg some (by kernel_rfl))
 f280 := Tryz.func165.trans (congrArg some (by kernel_rfl))
 f281 := Tryz.func166.trans (congrArg some (by kernel_rfl))
 f282 := Tryz.func167.trans (congrArg some (by kernel_rfl))
 f283 := Tryz.func158.trans (congrArg some (by kernel_rfl))
 f284 := Tryz.func159.trans (congrArg some (by kernel_rfl))
 f285 := Tryz.func160.trans (congrArg some (by kernel_rfl))
 f286 := Tryz.func161.trans (congrArg some (by kernel_rfl))
 f287 := Tryz.func206.trans (congrArg some (by kernel_rfl))
 f316 := Tryz.func207.trans (congrArg some (by kernel_rfl))
 f317 := Tryz.func199.trans (congrArg some (by kernel_rfl))
 f318 := Tryz.func200.trans (congrArg some (by kernel_rfl))
 f319 := Tryz.func201.trans (congrArg some (by kernel_rfl))
 f320 := Tryz.func202.trans (congrArg some (by kernel_rfl))
 f321 := Tryz.func225.trans (congrArg some (by kernel_rfl))
 f322 := Tryz.func226.trans (congrArg some (by kernel_rfl))
 f337 := Tryz.func222.trans (congrArg some (by kernel_rfl))
 f338 := Tryz.func223.trans (congrArg some (by kernel_rfl))
 t0 := Tryz.underlying0
 a0 := Tryz.isAgg0
 z0 := Tryz.sizeOf0
 v0 := Tryz.zeroValue0
 t2 := Tryz.underlying2
 a2 := Tryz.isAgg2
 z2 := Tryz.sizeOf2
 v2 := Tryz.zeroValue2
 t3 := Tryz.underlying3
 a3 := Tryz.isAgg3
 z3 := Tryz.sizeOf3
 v3 := Tryz.zeroValue3
 t4 := Tryz.underlying4
 a4 := Tryz.isAgg4
 z4 := Tryz.sizeOf4
 v4 := Tryz.zeroValue4
 t5 := Tryz.underlying5
 a5 := Tryz.isAgg5
 z5 := Tryz.sizeOf5
 v5 := Tryz.zeroValue5
 t9 := Tryz.underlying9
 a9 := Tryz.isAgg9
 z9 := Tryz.sizeOf9
 v9 := Tryz.zeroValue9
 t20 := Tryz.underlying20
 a20 := Tryz.isAgg20
 z20 := Tryz.sizeOf20
 v20 := Tryz.zeroValue20
 t21 := Tryz.underlying21
 a21 := Tryz.isAgg21
 z21 := Tryz.sizeOf21
 v21 := Tryz.zeroValue21
 t37 := Tryz.underlying115
 a37 := Tryz.isAgg115
 z37 := Tryz.sizeOf115
 v37 := Tryz.zeroValue115
 t46 := Tryz.underlying144
 a46 := Tryz.isAgg144
 z46 := Tryz.sizeOf144
 v46 := Tryz.zeroValue144
 t51 := Tryz.underlying177
 a51 := Tryz.isAgg177
 z51 := Tryz.sizeOf177
 v51 := Tryz.zeroValue177
 t53 := Tryz.underlying179
 a53 := Tryz.isAgg179
 z53 := Tryz.sizeOf179
 v53 := Tryz.zeroValue179
 t75 := Tryz.underlying126
 a75 := Tryz.isAgg126
 z75 := Tryz.sizeOf126
 v75 := Tryz.zeroValue126
 t76 := Tryz.underlying127
 a76 := Tryz.isAgg127
 z76 := Tryz.sizeOf127
 v76 := Tryz.zeroValue127
 t85 := Tryz.underlying185
 a85 := Tryz.isAgg185
 z85 := Tryz.sizeOf185
 v85 := Tryz.zeroValue185
 t127 := Tryz.underlying237
 a127 := Tryz.isAgg237
 z127 := Tryz.sizeOf237
 v127 := Tryz.zeroValue237
 t143 := Tryz.underlying238
 a143 := Tryz.isAgg238
 z143 := Tryz.sizeOf238
 v143 := Tryz.zeroValue238
 t145 := Tryz.underlying240
 a145 := Tryz.isAgg240
 z145 := Tryz.sizeOf240
 v145 := Tryz.zeroValue240
 t167 := Tryz.underlying184
 a167 := Tryz.isAgg184
 z167 := Tryz.sizeOf184
 v167 := Tryz.zeroValue184
 t168 := Tryz.underlying187
 a168 := Tryz.isAgg187
 z168 := Tryz.sizeOf187
 v168 := Tryz.zeroValue187
 t171 := Tryz.underlying180
 a171 := Tryz.isAgg180
 z171 := Tryz.sizeOf180
 v171 := Tryz.zeroValue180
 t173 := Tryz.underlying182
 a173 := Tryz.isAgg182
 z173 := Tryz.sizeOf182
 v173 := Tryz.zeroValue182
 t175 := Tryz.underlying215
 a175 := Tryz.isAgg215
 z175 := Tryz.sizeOf215
 v175 := Tryz.zeroValue215
 t210 := Tryz.underlying219
 a210 := Tryz.isAgg219
 z210 := Tryz.sizeOf219
 v210 := Tryz.zeroValue219
 t212 := Tryz.underlying213
 a212 := Tryz.isAgg213
 z212 := Tryz.sizeOf213
 v212 := Tryz.zeroValue213
 t213 := Tryz.underlying214
 a213 := Tryz.isAgg214
 z213 := Tryz.sizeOf214
 t232 := Tryz.underlying243
 a232 := Tryz.isAgg243
 z232 := Tryz.sizeOf243
 v232 := Tryz.zeroValue243
 t233 := Tryz.underlying244
 a233 := Tryz.isAgg244
 z233 := Tryz.sizeOf244
 v233 := Tryz.zeroValue244
 g15 := by kernel_rfl
 g16 := by kernel_rfl
 g17 := by kernel_rfl
 g18 := by kernel_rfl
 g19 := by kernel_rfl
 t80 := Tryz.underlying245
 a80 := Tryz.isAgg245
 z80 := Tryz.sizeOf245
 v80 := Tryz.zeroValue245
 i0 := by kernel_rfl
 i2 := by kernel_rfl
 i3 := by kernel_rfl
 i4 := by kernel_rfl
 i5 := by kernel_rfl
 i9 := by kernel_rfl
 i20 := by kernel_rfl
 i21 := by kernel_rfl
 i37 := by kernel_rfl
 i46 := by kernel_rfl
 i51 := by kernel_rfl
 i53 := by kernel_rfl
 i75 := by kernel_rfl
 i76 := by kernel_rfl
 i80 := by kernel_rfl
 i85 := by kernel_rfl
 i127 := by kernel_rfl
 i143 := by kernel_rfl
 i145 := by kernel_rfl
 i167 := by kernel_rfl
 i168 := by kernel_rfl
 i171 := by kernel_rfl
 i173 := by kernel_rfl
 i175 := by kernel_rfl
 i210 := by kernel_rfl
 i212 := by kernel_rfl
 i232 := by kernel_rfl
 i233 := by kernel_rfl
 m15 := by kernel_rfl
 m16 := by kernel_rfl
 m17 := by kernel_rfl
 m18 := by kernel_rfl
 m19 := by kernel_rfl
 c0 := by kernel_rfl
 c2 := by kernel_rfl
 c3 := by kernel_rfl
 c4 := by kernel_rfl
 c5 := by kernel_rfl
 c9 := by kernel_rfl
 c20 := by kernel_rfl
 c21 := by kernel_rfl
 c37 := by kernel_rfl
 c46 := by kernel_rfl
 c51 := by kernel_rfl
 c53 := by kernel_rfl
 c75 := by kernel_rfl
 c76 := by kernel_rfl
 c80 := by kernel_rfl
 c85 := by kernel_rfl
 c127 := by kernel_rfl
 c143 := by kernel_rfl
 c145 := by kernel_rfl
 c167 := by kernel_rfl
 c168 := by kernel_rfl
 c171 := by kernel_rfl
 c173 := by kernel_rfl
 c175 := by kernel_rfl
 c210 := by kernel_rfl
 c212 := by kernel_rfl
 c213 := by kernel_rfl
 c232 := by kernel_rfl
 c233 := by kernel_rfl }
open Go.RowKit in
theorem Tryz.strconv_Atoi_ok (s : ByteArray) (hmax : s.size ≤ 9223372036854775806) (v : Int) (h : Lib.atoiAll s.data.toList = .ok v) (w : World) :
  Calls Tryz.prog 112 #[.string s] w fun e w' => e = .returned (.tuple #[.int .i64 v, .nilIface]) ∧ (w' = w ∨ ∃ t, w' = Lib.bytesWorld w 5 t) := Any.strconv_Atoi_ok Tryz.laysC172 s hmax v h w
open Go.RowKit in
theorem Tryz.strconv_Atoi_syntax (s : ByteArray) (hlim : s.size ≤ 281474976710656) (h : Lib.atoiAll s.data.toList = Lib.atoiAll []) (ev : Value) (w : World) (hv : w.cell? ⟨2, 0, none⟩ = some ev) (hev : ev = .nilIface ∨ ∃ te pe, ev = .iface te pe) :
  Calls Tryz.prog 112 #[.string s] w fun e w' => ∃ N, e = .returned (.tuple #[.int .i64 (0), .iface 187 (.pointer (some ⟨N, 0, none⟩))]) ∧ w.heap.size ≤ N ∧ w'.heap[N]? = some (.cells #[.string ⟨#[65, 116, 111, 105]⟩, .string s, ev] 219 (0, 0)) ∧ Below w.heap.size w w' := Any.strconv_Atoi_syntax Tryz.laysC172 s hlim h ev w hv hev
open Go.RowKit in
theorem Tryz.strconv_Atoi_range (s : ByteArray) (hlim : s.size ≤ 281474976710656) (h : Lib.atoiAll s.data.toList = .range) (ev : Value) (w : World) (hv : w.cell? ⟨3, 0, none⟩ = some ev) (hev : ev = .nilIface ∨ ∃ te pe, ev = .iface te pe) :
  Calls Tryz.prog 112 #[.string s] w fun e w' => ∃ N, e = .returned (.tuple #[.int .i64 (Lib.atoiSat s.data.toList), .iface 187 (.pointer (some ⟨N, 0, none⟩))]) ∧ w.heap.size ≤ N ∧ w'.heap[N]? = some (.cells #[.string ⟨#[65, 116, 111, 105]⟩, .string s, ev] 219 (0, 0)) ∧ Below w.heap.size w w' := Any.strconv_Atoi_range Tryz.laysC172 s hlim h ev w hv hev
def Tryz.lays219_ren : Go.Shelf.Ren := ⟨fun | 219 => 162 | 217 => 120 | 225 => 203 | 224 => 204 | 267 => 205 | 266 => 145 | 314 => 224 | n => n, fun | 9 => 9 | 3 => 3 | 4 => 4 | 5 => 5 | 46 => 144 | 146 => 234 | 51 => 177 | n => n, fun | 1 => 0 | n => n⟩
theorem Tryz.lays219 : Go.Proofs.Lays.n219 Tryz.prog Tryz.lays219_ren := {
 mixed := by kernel_rfl
 f217 := Tryz.func120.trans (congrArg some (by kernel_rfl))
 f219 := Tryz.func162.trans (congrArg some (by kernel_rfl))
 f224 := Tryz.func204.trans (congrArg some (by kernel_rfl))
 f225 := Tryz.func203.trans (congrArg some (by kernel_rfl))
 f266 := Tryz.func145.trans (congrArg some (by kernel_rfl))
 f267 := Tryz.func205.trans (congrArg some (by kernel_rfl))
 f314 := Tryz.func224.trans (congrArg some (by kernel_rfl))
 t3 := Tryz.underlying3
 a3 := Tryz.isAgg3
 z3 := Tryz.sizeOf3
 v3 := Tryz.zeroValue3
 t4 := Tryz.underlying4
 a4 := Tryz.isAgg4
 z4 := Tryz.sizeOf4
 v4 := Tryz.zeroValue4
 t5 := Tryz.underlying5
 a5 := Tryz.isAgg5
 z5 := Tryz.sizeOf5
 v5 := Tryz.zeroValue5
 t9 := Tryz.underlying9
 a9 := Tryz.isAgg9
 z9 := Tryz.sizeOf9
 v9 := Tryz.zeroValue9
 t46 := Tryz.underlying144
 a46 := Tryz.isAgg144
 z46 := Tryz.sizeOf144
 v46 := Tryz.zeroValue144
 t51 := Tryz.underlying177
 a51 := Tryz.isAgg177
 z51 := Tryz.sizeOf177
 v51 := Tryz.zeroValue177
 t146 := Tryz.underlying234
 a146 := Tryz.isAgg234
 z146 := Tryz.sizeOf234
 v146 := Tryz.zeroValue234
 g1 := by kernel_rfl }
open Go.RowKit Go.Lib in
theorem Tryz.stringslite_Index_one (s : ByteArray) (c : UInt8) (w : World) :
  Calls Tryz.prog 162 #[.string s, .string ⟨#[c]⟩] w fun e w' => e = .returned (.int .i64 (Lib.indexByte s.data.toList c)) ∧ w' = w := Any.stringslite_Index_one Tryz.lays219 s c w
def Tryz.lays99_ren : Go.Shelf.Ren := ⟨fun | 99 => 110 | 206 => 130 | n => n, fun | 9 => 9 | 4 => 4 | 3 => 3 | n => n, fun | n => n⟩
theorem Tryz.lays99 : Go.Proofs.Lays.n99 Tryz.prog Tryz.lays99_ren := {
 mixed := by kernel_rfl
 f99 := Tryz.func110.trans (congrArg some (by kernel_rfl))
 f206 := Tryz.func130.trans (congrArg some (by kernel_rfl))
 t3 := Tryz.underlying3
 a3 := Tryz.isAgg3
 z3 := Tryz.sizeOf3
 v3 := Tryz.zeroValue3
 t4 := Tryz.underlying4
 a4 := Tryz.isAgg4
 z4 := Tryz.sizeOf4
 v4 := Tryz.zeroValue4
 t9 := Tryz.underlying9
 a9 := Tryz.isAgg9
 z9 := Tryz.sizeOf9
 v9 := Tryz.zeroValue9 }
open Go.RowKit Go.Lib in
theorem Tryz.strings_HasPrefix (s p : ByteArray) (w : World) :
  Calls Tryz.prog 110 #[.string s, .string p] w fun e w' => e = .returned (.bool (Lib.hasPrefix s.data.toList p.data.toList)) ∧ w' = w := Any.strings_HasPrefix Tryz.lays99 s p w
def Tryz.lays100_ren : Go.Shelf.Ren := ⟨fun | 100 => 77 | 207 => 108 | n => n, fun | 9 => 9 | 4 => 4 | 3 => 3 | n => n, fun | n => n⟩
theorem Tryz.lays100 : Go.Proofs.Lays.n100 Tryz.prog Tryz.lays100_ren := {
 mixed := by kernel_rfl
 f100 := Tryz.func77.trans (congrArg some (by kernel_rfl))
 f207 := Tryz.func108.trans (congrArg some (by kernel_rfl))
 t3 := Tryz.underlying3
 a3 := Tryz.isAgg3
 z3 := Tryz.sizeOf3
 v3 := Tryz.zeroValue3
 t4 := Tryz.underlying4
 a4 := Tryz.isAgg4
 z4 := Tryz.sizeOf4
 v4 := Tryz.zeroValue4
 t9 := Tryz.underlying9
 a9 := Tryz.isAgg9
 z9 := Tryz.sizeOf9
 v9 := Tryz.zeroValue9 }
open Go.RowKit Go.Lib in
theorem Tryz.strings_HasSuffix (s p : ByteArray) (w : World) (hs : s.size ≤ 9223372036854775807) :
  Calls Tryz.prog 77 #[.string s, .string p] w fun e w' => e = .returned (.bool (Lib.hasSuffix s.data.toList p.data.toList)) ∧ w' = w := Any.strings_HasSuffix Tryz.lays100 s p w hs
def Tryz.lays101_ren : Go.Shelf.Ren := ⟨fun | 101 => 109 | 208 => 129 | 206 => 130 | n => n, fun | 9 => 9 | 4 => 4 | 3 => 3 | n => n, fun | n => n⟩
theorem Tryz.lays101 : Go.Proofs.Lays.n101 Tryz.prog Tryz.lays101_ren := {
 mixed := by kernel_rfl
 f101 := Tryz.func109.trans (congrArg some (by kernel_rfl))
 f206 := Tryz.func130.trans (congrArg some (by kernel_rfl))
 f208 := Tryz.func129.trans (congrArg some (by kernel_rfl))
 t3 := Tryz.underlying3
 a3 := Tryz.isAgg3
 z3 := Tryz.sizeOf3
 v3 := Tryz.zeroValue3
 t4 := Tryz.underlying4
 a4 := Tryz.isAgg4
 z4 := Tryz.sizeOf4
 v4 := Tryz.zeroValue4
 t9 := Tryz.underlying9
 a9 := Tryz.isAgg9
 z9 := Tryz.sizeOf9
 v9 := Tryz.zeroValue9 }
open Go.RowKit Go.Lib in
theorem Tryz.strings_TrimPrefix (s p : ByteArray) (w : World) :
  Calls Tryz.prog 109 #[.string s, .string p] w fun e w' => e = .returned (.string ⟨(Lib.trimPrefix s.data.toList p.data.toList).toArray⟩) ∧ w' = w := Any.strings_TrimPrefix Tryz.lays101 s p w
def Tryz.lays102_ren : Go.Shelf.Ren := ⟨fun | 102 => 76 | 209 => 107 | 207 => 108 | n => n, fun | 9 => 9 | 4 => 4 | 3 => 3 | n => n, fun | n => n⟩
theorem Tryz.lays102 : Go.Proofs.Lays.n102 Tryz.prog Tryz.lays102_ren := {
 mixed := by kernel_rfl
 f102 := Tryz.func76.trans (congrArg some (by kernel_rfl))
 f207 := Tryz.func108.trans (congrArg some (by kernel_rfl))
 f209 := Tryz.func107.trans (congrArg some (by kernel_rfl))
 t3 := Tryz.underlying3
 a3 := Tryz.isAgg3
 z3 := Tryz.sizeOf3
 v3 := Tryz.zeroValue3
 t4 := Tryz.underlying4
 a4 := Tryz.isAgg4
 z4 := Tryz.sizeOf4
 v4 := Tryz.zeroValue4
 t9 := Tryz.underlying9
 a9 := Tryz.isAgg9
 z9 := Tryz.sizeOf9
 v9 := Tryz.zeroValue9 }
open Go.RowKit Go.Lib in
theorem Tryz.strings_TrimSuffix (s p : ByteArray) (w : World) (hs : s.size ≤ 9223372036854775807) :
  Calls Tryz.prog 76 #[.string s, .string p] w fun e w' => e = .returned (.string ⟨(Lib.trimSuffix s.data.toList p.data.toList).toArray⟩) ∧ w' = w := Any.strings_TrimSuffix Tryz.lays102 s p w hs
end Go.Proofs
end
section
namespace Go.Lexs
open Go.Av
theorem at8_nth (s : ByteArray) (i : Int) : at8 s i = nth (B s) i.toNat := rfl
end Go.Lexs
end
section
namespace Go.Proofs.YtacekpdodelnbaaGreatDoor
open Go Go.Av Go.RowKit Go.Lin
theorem indexByte_a {Q} (s : ByteArray) (c : Int) (H : Heap) (h : Q (.int .i64 (Lib.indexByte (B s) c.toNat.toUInt8)) H) : ACalls Tryz.prog 97 [.str s, .int .u8 c] H Q :=
 acalls_kit (by kernel_rfl) (fun w vs hl hr hs => by
  obtain ⟨a, b, rfl, ha, hb⟩ := args2 hl hr
  rw [ha.str_inv, hb.int_inv]
  refine (Tryz.strings_IndexByte s c w).mono fun e w' ⟨he, hw⟩ => ?_
  subst hw
  exact ⟨_, he, Below.refl _ _, .int _ _⟩) h
theorem hasPrefix_a {Q} (s p : ByteArray) (H : Heap) (h : Q (.bool ((B p).isPrefixOf (B s))) H) : ACalls Tryz.prog 110 [.str s, .str p] H Q :=
 acalls_kit (by kernel_rfl) (fun w vs hl hr hs => by
  obtain ⟨a, b, rfl, ha, hb⟩ := args2 hl hr
  rw [ha.str_inv, hb.str_inv]
  refine (Tryz.strings_HasPrefix s p w).mono fun e w' ⟨he, hw⟩ => ?_
  subst hw
  exact ⟨_, he, Below.refl _ _, .bool _⟩) h
theorem trimPrefix_a {Q} (s p : ByteArray) (H : Heap) (h : Q (.str (S (Lib.trimPrefix (B s) (B p)))) H) : ACalls Tryz.prog 109 [.str s, .str p] H Q :=
 acalls_kit (by kernel_rfl) (fun w vs hl hr hs => by
  obtain ⟨a, b, rfl, ha, hb⟩ := args2 hl hr
  rw [ha.str_inv, hb.str_inv]
  refine (Tryz.strings_TrimPrefix s p w).mono fun e w' ⟨he, hw⟩ => ?_
  subst hw
  exact ⟨_, he, Below.refl _ _, .str _⟩) h
theorem trimSuffix_a {Q} (s p : ByteArray) (hsz : s.size ≤ 1000000000000) (H : Heap) (h : Q (.str (S (Lib.trimSuffix (B s) (B p)))) H) : ACalls Tryz.prog 76 [.str s, .str p] H Q :=
 acalls_kit (by kernel_rfl) (fun w vs hl hr hs => by
  obtain ⟨a, b, rfl, ha, hb⟩ := args2 hl hr
  rw [ha.str_inv, hb.str_inv]
  refine (Tryz.strings_TrimSuffix s p w (by omega)).mono fun e w' ⟨he, hw⟩ => ?_
  subst hw
  exact ⟨_, he, Below.refl _ _, .str _⟩) h
theorem hasSuffix_a {Q} (s p : ByteArray) (hsz : s.size ≤ 1000000000000) (H : Heap) (h : Q (.bool (Lib.hasSuffix (B s) (B p))) H) : ACalls Tryz.prog 77 [.str s, .str p] H Q :=
 acalls_kit (by kernel_rfl) (fun w vs hl hr hs => by
  obtain ⟨a, b, rfl, ha, hb⟩ := args2 hl hr
  rw [ha.str_inv, hb.str_inv]
  refine (Tryz.strings_HasSuffix s p w (by omega)).mono fun e w' ⟨he, hw⟩ => ?_
  subst hw
  exact ⟨_, he, Below.refl _ _, .bool _⟩) h
theorem cutSuffix_a {Q} (s p : ByteArray) (hsz : s.size ≤ 1000000000000) (H : Heap) (h : Q (.tuple [.str (S (Lib.trimSuffix (B s) (B p))), .bool (Lib.hasSuffix (B s) (B p))]) H) : ACalls Tryz.prog 75 [.str s, .str p] H Q :=
 acalls_kit (by kernel_rfl) (fun w vs hl hr hs => by
  obtain ⟨a, b, rfl, ha, hb⟩ := args2 hl hr
  rw [ha.str_inv, hb.str_inv]
  refine (Tryz.strings_CutSuffix s p w (by omega)).mono fun e w' ⟨he, hw⟩ => ?_
  subst hw
  exact ⟨_, he, Below.refl _ _, .tuple _ _ rfl fun i d hd => (match i, hd with | 0, hd => by simp at hd; subst hd; exact .str _ | 1, hd => by simp at hd; subst hd; exact .bool _ | i + 2, hd => by simp at hd)⟩) h
theorem compare_a {Q} (s p : ByteArray) (H : Heap) (h : Q (.int .i64 (Lib.compareBytes (B s) (B p))) H) : ACalls Tryz.prog 127 [.str s, .str p] H Q :=
 acalls_kit (by kernel_rfl) (fun w vs hl hr hs => by
  obtain ⟨a, b, rfl, ha, hb⟩ := args2 hl hr
  rw [ha.str_inv, hb.str_inv]
  refine (Tryz.strings_Compare s p w).mono fun e w' ⟨he, hw⟩ => ?_
  subst hw
  exact ⟨_, he, Below.refl _ _, .int _ _⟩) h
structure Tabs (H : Heap) : Prop where
 pow : H 1 = some (.ro (tabD .u64 Lib.pow10Tab))
 syn : ∃ t, H 2 = some (.ro [.iface t .undef])
 rng : ∃ t, H 3 = some (.ro [.iface t .undef])
theorem Tabs.le {H H' : Heap} (h : Tabs H) (hl : H.Le H') : Tabs H' := ⟨hl _ _ h.pow, let ⟨t, e⟩ := h.syn; ⟨t, hl _ _ e⟩, let ⟨t, e⟩ := h.rng; ⟨t, hl _ _ e⟩⟩
theorem itoa_a {Q} (n : Int) (h0 : -9223372036854775808 ≤ n) (h1 : n ≤ 9223372036854775807) (H : Heap) (hT : Tabs H) (h : Q (.str (S (Lib.itoa n))) H) : ACalls Tryz.prog 73 [.int .i64 n] H Q :=
 acalls_kit (by kernel_rfl) (fun w vs hl' hr hs => by
  obtain ⟨a, rfl, ha⟩ := args1 hl' hr
  rw [ha.int_inv]
  refine (Tryz.strconv_Itoa n h0 h1 w (tabIs_of (g := 1) (by kernel_rfl) hs hT.pow)).mono fun e w' ⟨he, k, os, hw⟩ => ?_
  subst hw
  exact ⟨_, he, below_grow _ _ _, .str _⟩) h
end Go.Proofs.YtacekpdodelnbaaGreatDoor
end
section
set_option maxRecDepth 20000
namespace Go.Lin
open Go Go.Av Go.Lexs
theorem bytesE_at (s : ByteArray) (i : Nat) (h : i < s.size) : (bytesE s).getD i [] = [.int .u8 (nth (B s) i)] := by
 have h2 : i < s.data.toList.length := by rw [Array.length_toList]; exact h
 unfold bytesE nth B
 rw [List.getD_eq_getElem?_getD, List.getElem?_map, List.getD_eq_getElem?_getD, List.getElem?_eq_getElem h2]; rfl
theorem bytesE_get (s : ByteArray) (i : Nat) (h : i < s.size) : (bytesE s)[i]? = some [.int .u8 (nth (B s) i)] := by
 have h2 : i < s.data.toList.length := by rw [Array.length_toList]; exact h
 unfold bytesE nth B
 rw [List.getElem?_map, List.getD_eq_getElem?_getD, List.getElem?_eq_getElem h2]; rfl
theorem bytesE_len (s : ByteArray) : (bytesE s).length = s.size := by unfold bytesE; rw [List.length_map, Array.length_toList]; rfl
def signsB : List UInt8 := [43, 45, 42, 60, 62, 61]
theorem signs_nameC {x : Int} (h0 : 33 ≤ x) (h1 : x ≤ 126) : decide (0 ≤ Lib.indexByte signsB x.toNat.toUInt8) = !nameC x := by
 obtain ⟨n, rfl⟩ : ∃ n : Nat, x = n := ⟨x.toNat, by omega⟩
 have key : ∀ n : Fin 127, 33 ≤ n.val → decide (0 ≤ Lib.indexByte signsB (n.val : Int).toNat.toUInt8) = !nameC (n.val : Int) := by decide +kernel
 exact key ⟨n, by omega⟩ (by simpa using (by omega : 33 ≤ n))
end Go.Lin
namespace Go.Proofs.YtacekpdodelnbaaGreatDoor
open Go Go.Av Go.Lexs Go.Lin
attribute [local irreducible] ACalls at8
theorem within_a {Q} (n m : Int) (h0 : -9223372036854775807 ≤ m) (h1 : m ≤ 9223372036854775807) (H : Heap) (h : Q (.bool (within n m)) H) : ACalls Tryz.prog 51 [.int .i64 n, .int .i64 m] H Q := by
 refine acalls_of_wp [] Tryz.mixed Tryz.func51 rfl (by kernel_rfl) (of_decide_eq_true (by kernel_rfl)) (by kernel_rfl) ?_
 simp only [go_sem,seval, Tryz.results51]
 unfold within at h
 have w : IntKind.i64.wrap (0 - m) = -m := by rw [wrap64 (by omega) (by omega)]; omega
 repeat' (first | with_reducible refine And.intro ?_ ?_ | simp only [go_sem,seval, w] | simp (disch := omega) only [wrap64] | intro hx_ | omega)
 all_goals exact Fin.same (by simpa [*] using h)
theorem named_a {Q} (s : ByteArray) (H : Heap) (h : Q (.bool (nameB (B s))) H) : ACalls Tryz.prog 50 [.str s] H Q := by
 refine acalls_of_wp [] Tryz.mixed Tryz.func50 rfl (by kernel_rfl) (of_decide_eq_true (by kernel_rfl)) (by kernel_rfl) ?_
 simp only [go_sem,seval, Tryz.results50]
 have hl := B_len s
 have hbl := bytesE_len s
 have hd0 : at8 s 0 = nth (B s) 0 := at8_zero s
 by_cases hv : B s ≠ [] ∧ s.size ≤ 200 ∧ digitI (nth (B s) 0) = false
 ·obtain ⟨v1, v2, v3⟩ := hv
  have v2i : ¬ ((200 : Int) < s.size) := by omega
  have v4 : ¬ (48 ≤ nth (B s) 0 ∧ nth (B s) 0 ≤ 57) := fun g => by have := (digitI_iff _).2 g; rw [this] at v3; cases v3
  have vs : 0 < s.size := by have := List.length_pos_iff.2 v1; omega
  have vsi : (0 : Int) < s.size := by omega
  have hnb : nameB (B s) = (B s).all (ofB nameC) := by unfold nameB; rw [decide_eq_true v1, v3, decide_eq_true (by omega)]; rfl
  rw [hnb] at h
  by_cases q1 : 48 ≤ nth (B s) 0
  ·have q2 : ¬ nth (B s) 0 ≤ 57 := fun g => v4 ⟨q1, g⟩
   repeat' (first | with_reducible refine And.intro ?_ ?_ | simp only [go_sem,seval, v1, v2i, vsi, hd0, q1, q2, decide_true, decide_false] | simp (disch := omega) only [wrap64, bytesE_at] | intro hx_ | omega)
   refine s_conv_sb _ _ _ (by kernel_rfl) (by kernel_rfl) ?_
   repeat' (first | with_reducible refine And.intro ?_ ?_ | simp only [go_sem,seval] | simp (disch := omega) only [wrap64, bytesE_at] | intro hx_ | omega)
   rename_i b
   have hb := hx_
   clear hx_
   refine loop_c [23, 24] (fun (i : Nat) => [(25, .int .i64 i)]) (fun (i : Nat) => H.set b (.vec 1 (bytesE s))) (fun (i : Nat) => i ≤ s.size ∧ ((B s).take i).all (ofB nameC) = true) (fun (i : Nat) => s.size - i) (0) (⟨Nat.zero_le _, by simp⟩) (by (try simp only [go_sem,seval]) <;> (try simp (disch := omega) [wrap64]) <;> (try omega)) (by first | with_reducible exact Heap.Le.refl _ | exact heap_set_le (by assumption) | exact Heap.Le.refl _ | exact heap_le_set (by assumption) | exact (by simp only [Go.Av.Heap.Le, Go.Av.Heap.set, Go.Av.Heap.del] at * <;> grind)) ?_
   rintro Ec rfl i ⟨hi, hall⟩
   by_cases hlt : i < s.size
   ·have hkd : decide ((i : Int) < s.size) = true := decide_eq_true (by omega)
    have hlb : i < (B s).length := by omega
    have bg := bytesE_get s i hlt
    have bd := bytesE_at s i hlt
    obtain ⟨x, hx⟩ : ∃ x, x = nth (B s) i := ⟨_, rfl⟩
    have bad : nameC x = false → (B s).all (ofB nameC) = false := fun g => all_false_of nameC (B s) i hlb (by rw [← hx]; exact g)
    rw [← hx] at bg bd
    have hsi : decide ((i : Int) < (bytesE s).length) = true := decide_eq_true (by rw [bytesE_len]; omega)
    by_cases c1 : x < 33
    ·rw [bad (nameC_no (by omega))] at h
     repeat' (first | with_reducible refine And.intro ?_ ?_ | simp only [go_sem,seval, hkd, bg, bd, hbl, c1, decide_true] | simp (disch := omega) only [wrap64, bytesE_at] | intro hx_ | omega)
     exact Fin.less (heap_le_set hb) h
    ·by_cases c2 : 126 < x
     ·rw [bad (nameC_no (by omega))] at h
      repeat' (first | with_reducible refine And.intro ?_ ?_ | simp only [go_sem,seval, hkd, bg, bd, hbl, c1, c2, decide_true, decide_false] | simp (disch := omega) only [wrap64, bytesE_at] | intro hx_ | omega)
      exact Fin.less (heap_le_set hb) h
     ·have c3 := signs_nameC (x := x) (by omega) (by omega)
      have hS : B ({ data := #[43, 45, 42, 60, 62, 61] } : ByteArray) = signsB := rfl
      by_cases c4 : nameC x = true
      ·rw [c4] at c3
       repeat' (first | with_reducible refine And.intro ?_ ?_ | simp only [go_sem,seval, hkd, bg, bd, hbl, c1, c2, hS, c3, decide_true, decide_false] | simp (disch := omega) only [wrap64, bytesE_at] | intro hx_ | with_reducible refine indexByte_a _ _ _ ?_ | omega)
       exact nx_mk (i + 1) ⟨by omega, by rw [all_take_succ _ _ _ hlb, hall, ← hx, c4]; rfl⟩ (by omega) (by (try simp only [go_sem,seval]) <;> (try simp (disch := omega) [wrap64]) <;> (try omega)) (Heap.Le.refl _)
      ·have c4 : nameC x = false := by simpa using c4
       rw [c4] at c3
       rw [bad c4] at h
       repeat' (first | with_reducible refine And.intro ?_ ?_ | simp only [go_sem,seval, hkd, bg, bd, hbl, c1, c2, hS, c3, decide_true, decide_false] | simp (disch := omega) only [wrap64, bytesE_at] | intro hx_ | with_reducible refine indexByte_a _ _ _ ?_ | omega)
       exact Fin.less (heap_le_set hb) h
   ·have hkd : decide ((i : Int) < s.size) = false := decide_eq_false (by omega)
    rw [List.take_of_length_le (by omega)] at hall
    rw [hall] at h
    repeat' (first | with_reducible refine And.intro ?_ ?_ | simp only [go_sem,seval, hkd] | simp (disch := omega) only [wrap64, bytesE_at] | intro hx_ | omega)
    exact Fin.less (heap_le_set hb) h
  ·repeat' (first | with_reducible refine And.intro ?_ ?_ | simp only [go_sem,seval, v1, v2i, vsi, hd0, q1, decide_true, decide_false] | simp (disch := omega) only [wrap64, bytesE_at] | intro hx_ | omega)
   refine s_conv_sb _ _ _ (by kernel_rfl) (by kernel_rfl) ?_
   repeat' (first | with_reducible refine And.intro ?_ ?_ | simp only [go_sem,seval] | simp (disch := omega) only [wrap64, bytesE_at] | intro hx_ | omega)
   rename_i b
   have hb := hx_
   clear hx_
   refine loop_c [23, 24] (fun (i : Nat) => [(25, .int .i64 i)]) (fun (i : Nat) => H.set b (.vec 1 (bytesE s))) (fun (i : Nat) => i ≤ s.size ∧ ((B s).take i).all (ofB nameC) = true) (fun (i : Nat) => s.size - i) (0) (⟨Nat.zero_le _, by simp⟩) (by (try simp only [go_sem,seval]) <;> (try simp (disch := omega) [wrap64]) <;> (try omega)) (by first | with_reducible exact Heap.Le.refl _ | exact heap_set_le (by assumption) | exact Heap.Le.refl _ | exact heap_le_set (by assumption) | exact (by simp only [Go.Av.Heap.Le, Go.Av.Heap.set, Go.Av.Heap.del] at * <;> grind)) ?_
   rintro Ec rfl i ⟨hi, hall⟩
   by_cases hlt : i < s.size
   ·have hkd : decide ((i : Int) < s.size) = true := decide_eq_true (by omega)
    have hlb : i < (B s).length := by omega
    have bg := bytesE_get s i hlt
    have bd := bytesE_at s i hlt
    obtain ⟨x, hx⟩ : ∃ x, x = nth (B s) i := ⟨_, rfl⟩
    have bad : nameC x = false → (B s).all (ofB nameC) = false := fun g => all_false_of nameC (B s) i hlb (by rw [← hx]; exact g)
    rw [← hx] at bg bd
    have hsi : decide ((i : Int) < (bytesE s).length) = true := decide_eq_true (by rw [bytesE_len]; omega)
    by_cases c1 : x < 33
    ·rw [bad (nameC_no (by omega))] at h
     repeat' (first | with_reducible refine And.intro ?_ ?_ | simp only [go_sem,seval, hkd, bg, bd, hbl, c1, decide_true] | simp (disch := omega) only [wrap64, bytesE_at] | intro hx_ | omega)
     exact Fin.less (heap_le_set hb) h
    ·by_cases c2 : 126 < x
     ·rw [bad (nameC_no (by omega))] at h
      repeat' (first | with_reducible refine And.intro ?_ ?_ | simp only [go_sem,seval, hkd, bg, bd, hbl, c1, c2, decide_true, decide_false] | simp (disch := omega) only [wrap64, bytesE_at] | intro hx_ | omega)
      exact Fin.less (heap_le_set hb) h
     ·have c3 := signs_nameC (x := x) (by omega) (by omega)
      have hS : B ({ data := #[43, 45, 42, 60, 62, 61] } : ByteArray) = signsB := rfl
      by_cases c4 : nameC x = true
      ·rw [c4] at c3
       repeat' (first | with_reducible refine And.intro ?_ ?_ | simp only [go_sem,seval, hkd, bg, bd, hbl, c1, c2, hS, c3, decide_true, decide_false] | simp (disch := omega) only [wrap64, bytesE_at] | intro hx_ | with_reducible refine indexByte_a _ _ _ ?_ | omega)
       exact nx_mk (i + 1) ⟨by omega, by rw [all_take_succ _ _ _ hlb, hall, ← hx, c4]; rfl⟩ (by omega) (by (try simp only [go_sem,seval]) <;> (try simp (disch := omega) [wrap64]) <;> (try omega)) (Heap.Le.refl _)
      ·have c4 : nameC x = false := by simpa using c4
       rw [c4] at c3
       rw [bad c4] at h
       repeat' (first | with_reducible refine And.intro ?_ ?_ | simp only [go_sem,seval, hkd, bg, bd, hbl, c1, c2, hS, c3, decide_true, decide_false] | simp (disch := omega) only [wrap64, bytesE_at] | intro hx_ | with_reducible refine indexByte_a _ _ _ ?_ | omega)
       exact Fin.less (heap_le_set hb) h
   ·have hkd : decide ((i : Int) < s.size) = false := decide_eq_false (by omega)
    rw [List.take_of_length_le (by omega)] at hall
    rw [hall] at h
    repeat' (first | with_reducible refine And.intro ?_ ?_ | simp only [go_sem,seval, hkd] | simp (disch := omega) only [wrap64, bytesE_at] | intro hx_ | omega)
    exact Fin.less (heap_le_set hb) h
 ·have hf : nameB (B s) = false := by
   rw [← Bool.not_eq_true]
   intro g
   unfold nameB at g
   simp only [Bool.and_eq_true, decide_eq_true_eq, Bool.not_eq_true'] at g
   exact hv ⟨g.1.1.1, by omega, g.1.2⟩
  rw [hf] at h
  by_cases v1 : B s = []
  ·repeat' (first | with_reducible refine And.intro ?_ ?_ | simp only [go_sem,seval, v1, decide_true] | simp (disch := omega) only [wrap64, bytesE_at] | intro hx_ | omega)
   exact Fin.same h
  ·have vsi : (0 : Int) < s.size := by have := List.length_pos_iff.2 v1; omega
   by_cases v2 : (200 : Int) < s.size
   ·repeat' (first | with_reducible refine And.intro ?_ ?_ | simp only [go_sem,seval, v1, v2, vsi, decide_true, decide_false] | simp (disch := omega) only [wrap64, bytesE_at] | intro hx_ | omega)
    exact Fin.same h
   ·have v3 : 48 ≤ nth (B s) 0 ∧ nth (B s) 0 ≤ 57 := by
     rw [← digitI_iff]
     cases g : digitI (nth (B s) 0) with
     | true => rfl
     | false => exact absurd ⟨v1, by omega, g⟩ hv
    repeat' (first | with_reducible refine And.intro ?_ ?_ | simp only [go_sem,seval, v1, v2, vsi, hd0, v3.1, v3.2, decide_true, decide_false] | simp (disch := omega) only [wrap64, bytesE_at] | intro hx_ | omega)
    exact Fin.same h
theorem bs_geq (P : Program) (t : TypeId) (c : Bool) (x y : ByteArray) : binD P .geq t c (.str x) (.str y) = some (.bool (!Op.bytesLess x.data.toList y.data.toList)) := rfl
theorem valid_a {Q} (a : LinV) (fa : LinFit a) (H : Heap) (h : Q (.bool (validL a)) H) : ACalls Tryz.prog 15 [.agg (linC a)] H Q := by
 refine acalls_of_wp [] Tryz.mixed Tryz.func15 rfl (by kernel_rfl) (of_decide_eq_true (by kernel_rfl)) (by kernel_rfl) ?_
 simp only [go_sem,seval, Tryz.results15]
 intro b1 hb1
 have e1 : (H.set b1 (.box (linC a))) b1 = some (.box (linC a)) := heap_same _ _
 have hle : H.Le (H.set b1 (.box (linC a))) := heap_le_set hb1
 generalize H.set b1 (.box (linC a)) = Bs at e1 hle ⊢
 have hlen := fa.len
 repeat' (first | with_reducible refine And.intro ?_ ?_ | simp only [go_sem,seval, e1] | simp (disch := omega) only [wrap64, Rw_at] | simp (disch := first | omega | grind) only [heap_ne_] | intro hx_ | omega)
 refine loop_c [1, 6, 7] (fun (i : Nat) => [(8, .int .i64 i)]) (fun (i : Nat) => Bs) (fun (i : Nat) => i ≤ a.t.length ∧ (List.range i).all (okAt a.t) = true) (fun (i : Nat) => a.t.length - i) (0) (⟨Nat.zero_le _, rfl⟩) (by (try simp only [go_sem,seval]) <;> (try simp (disch := omega) [wrap64]) <;> (try omega)) (by first | with_reducible exact Heap.Le.refl _ | exact heap_set_le (by assumption) | exact Heap.Le.refl _ | exact heap_le_set (by assumption) | exact (by simp only [Go.Av.Heap.Le, Go.Av.Heap.set, Go.Av.Heap.del] at * <;> grind)) ?_
 rintro Ec rfl i ⟨hi, hall⟩
 by_cases hlt : i < a.t.length
 ·have hkd : decide ((i : Int) < a.t.length) = true := decide_eq_true (by omega)
  have hti : (i : Int) < a.t.length := by omega
  have hco := fa.co _ (List.getElem_mem hlt)
  have e : a.t.getD i default = a.t[i] := by simp [hlt]
  have e2 : ∀ hj : i - 1 < a.t.length, a.t.getD (i - 1) default = a.t[i - 1] := fun hj => by simp [hj]
  have hok : okAt a.t i = (nameB (B a.t[i].v) && (decide (i = 0) || ltS (a.t.getD (i - 1) default).v a.t[i].v) && decide (a.t[i].c ≠ 0) && within a.t[i].c 1048576) := by unfold okAt; rw [e]
  have bad : okAt a.t i = false → validL a = false := fun g => by
   unfold validL termsOk
   have : (List.range a.t.length).all (okAt a.t) = false := by rw [List.all_eq_false]; exact ⟨i, List.mem_range.2 hlt, by rw [g]; decide⟩
   rw [this]; rfl
  by_cases n1 : nameB (B a.t[i].v) = true
  ·by_cases n2 : i = 0
   ·have z0 : ¬ ((0 : Int) < i) := by omega
    have okp : (nameB (B a.t[i].v) && (decide (i = 0) || ltS (a.t.getD (i - 1) default).v a.t[i].v)) = true := by rw [n1, decide_eq_true n2]; rfl
    by_cases c0 : a.t[i].c = 0
    ·rw [bad (by rw [hok, okp, c0]; simp)] at h
     repeat' (first | with_reducible refine And.intro ?_ ?_ | simp only [go_sem,seval, hkd, e1, n1, Rw_at _ _ hlt, Rw_get _ _ hlt, z0, c0, decide_true, decide_false] | simp (disch := omega) only [wrap64, Rw_at] | simp (disch := first | omega | grind) only [heap_ne_] | intro hx_ | with_reducible refine named_a _ _ ?_ | with_reducible refine within_a _ _ (by omega) (by omega) _ ?_ | omega)
     exact Fin.less (by simp only [Go.Av.Heap.Le, Go.Av.Heap.set, Go.Av.Heap.del] at * <;> grind) h
    ·by_cases w : within a.t[i].c 1048576 = true
     ·have okt : okAt a.t i = true := by rw [hok, okp, w, decide_eq_true (show a.t[i].c ≠ 0 from c0)]; rfl
      repeat' (first | with_reducible refine And.intro ?_ ?_ | simp only [go_sem,seval, hkd, e1, n1, Rw_at _ _ hlt, Rw_get _ _ hlt, z0, c0, w, decide_true, decide_false] | simp (disch := omega) only [wrap64, Rw_at] | simp (disch := first | omega | grind) only [heap_ne_] | intro hx_ | with_reducible refine named_a _ _ ?_ | with_reducible refine within_a _ _ (by omega) (by omega) _ ?_ | omega)
      exact nx_mk (i + 1) ⟨by omega, by rw [List.range_succ, List.all_append, hall]; simp [okt]⟩ (by omega) (by (try simp only [go_sem,seval]) <;> (try simp (disch := omega) [wrap64]) <;> (try omega)) (by simp only [Go.Av.Heap.Le, Go.Av.Heap.set, Go.Av.Heap.del] at * <;> grind)
     ·have w : within a.t[i].c 1048576 = false := by simpa using w
      rw [bad (by rw [hok, okp, w, Bool.and_false])] at h
      repeat' (first | with_reducible refine And.intro ?_ ?_ | simp only [go_sem,seval, hkd, e1, n1, Rw_at _ _ hlt, Rw_get _ _ hlt, z0, c0, w, decide_true, decide_false] | simp (disch := omega) only [wrap64, Rw_at] | simp (disch := first | omega | grind) only [heap_ne_] | intro hx_ | with_reducible refine named_a _ _ ?_ | with_reducible refine within_a _ _ (by omega) (by omega) _ ?_ | omega)
      exact Fin.less (by simp only [Go.Av.Heap.Le, Go.Av.Heap.set, Go.Av.Heap.del] at * <;> grind) h
   ·have hj : i - 1 < a.t.length := by omega
    have z0 : (0 : Int) < i := by omega
    have ek : (i : Int) - 1 = ((i - 1 : Nat) : Int) := by omega
    have hji : ((i - 1 : Nat) : Int) < a.t.length := by omega
    by_cases l : ltS a.t[i - 1].v a.t[i].v = true
    ·have okp : (nameB (B a.t[i].v) && (decide (i = 0) || ltS (a.t.getD (i - 1) default).v a.t[i].v)) = true := by rw [n1, e2 hj, l, Bool.or_true]; rfl
     have lb : Op.bytesLess a.t[i - 1].v.data.toList a.t[i].v.data.toList = true := l
     by_cases c0 : a.t[i].c = 0
     ·rw [bad (by rw [hok, okp, c0]; simp)] at h
      repeat' (first | with_reducible refine And.intro ?_ ?_ | simp only [go_sem,seval, hkd, e1, n1, Rw_at _ _ hlt, Rw_get _ _ hlt, z0, ek, hji, Rw_at _ _ hj, Rw_get _ _ hj, bs_geq, lb, Bool.not_true, Bool.not_false, c0, decide_true, decide_false] | simp (disch := omega) only [wrap64, Rw_at] | simp (disch := first | omega | grind) only [heap_ne_] | intro hx_ | with_reducible refine named_a _ _ ?_ | with_reducible refine within_a _ _ (by omega) (by omega) _ ?_ | omega)
      exact Fin.less (by simp only [Go.Av.Heap.Le, Go.Av.Heap.set, Go.Av.Heap.del] at * <;> grind) h
     ·by_cases w : within a.t[i].c 1048576 = true
      ·have okt : okAt a.t i = true := by rw [hok, okp, w, decide_eq_true (show a.t[i].c ≠ 0 from c0)]; rfl
       repeat' (first | with_reducible refine And.intro ?_ ?_ | simp only [go_sem,seval, hkd, e1, n1, Rw_at _ _ hlt, Rw_get _ _ hlt, z0, ek, hji, Rw_at _ _ hj, Rw_get _ _ hj, bs_geq, lb, Bool.not_true, Bool.not_false, c0, w, decide_true, decide_false] | simp (disch := omega) only [wrap64, Rw_at] | simp (disch := first | omega | grind) only [heap_ne_] | intro hx_ | with_reducible refine named_a _ _ ?_ | with_reducible refine within_a _ _ (by omega) (by omega) _ ?_ | omega)
       exact nx_mk (i + 1) ⟨by omega, by rw [List.range_succ, List.all_append, hall]; simp [okt]⟩ (by omega) (by (try simp only [go_sem,seval]) <;> (try simp (disch := omega) [wrap64]) <;> (try omega)) (by simp only [Go.Av.Heap.Le, Go.Av.Heap.set, Go.Av.Heap.del] at * <;> grind)
      ·have w : within a.t[i].c 1048576 = false := by simpa using w
       rw [bad (by rw [hok, okp, w, Bool.and_false])] at h
       repeat' (first | with_reducible refine And.intro ?_ ?_ | simp only [go_sem,seval, hkd, e1, n1, Rw_at _ _ hlt, Rw_get _ _ hlt, z0, ek, hji, Rw_at _ _ hj, Rw_get _ _ hj, bs_geq, lb, Bool.not_true, Bool.not_false, c0, w, decide_true, decide_false] | simp (disch := omega) only [wrap64, Rw_at] | simp (disch := first | omega | grind) only [heap_ne_] | intro hx_ | with_reducible refine named_a _ _ ?_ | with_reducible refine within_a _ _ (by omega) (by omega) _ ?_ | omega)
       exact Fin.less (by simp only [Go.Av.Heap.Le, Go.Av.Heap.set, Go.Av.Heap.del] at * <;> grind) h
    ·have l : ltS a.t[i - 1].v a.t[i].v = false := by simpa using l
     have lb : Op.bytesLess a.t[i - 1].v.data.toList a.t[i].v.data.toList = false := l
     rw [bad (by rw [hok, n1, e2 hj, l, decide_eq_false n2]; rfl)] at h
     repeat' (first | with_reducible refine And.intro ?_ ?_ | simp only [go_sem,seval, hkd, e1, n1, Rw_at _ _ hlt, Rw_get _ _ hlt, z0, ek, hji, Rw_at _ _ hj, Rw_get _ _ hj, bs_geq, lb, Bool.not_true, Bool.not_false, decide_true, decide_false] | simp (disch := omega) only [wrap64, Rw_at] | simp (disch := first | omega | grind) only [heap_ne_] | intro hx_ | with_reducible refine named_a _ _ ?_ | with_reducible refine within_a _ _ (by omega) (by omega) _ ?_ | omega)
     exact Fin.less (by simp only [Go.Av.Heap.Le, Go.Av.Heap.set, Go.Av.Heap.del] at * <;> grind) h
  ·have n1 : nameB (B a.t[i].v) = false := by simpa using n1
   rw [bad (by rw [hok, n1]; rfl)] at h
   repeat' (first | with_reducible refine And.intro ?_ ?_ | simp only [go_sem,seval, hkd, e1, n1, Rw_at _ _ hlt, Rw_get _ _ hlt] | simp (disch := omega) only [wrap64, Rw_at] | simp (disch := first | omega | grind) only [heap_ne_] | intro hx_ | with_reducible refine named_a _ _ ?_ | with_reducible refine within_a _ _ (by omega) (by omega) _ ?_ | omega)
   exact Fin.less (by simp only [Go.Av.Heap.Le, Go.Av.Heap.set, Go.Av.Heap.del] at * <;> grind) h
 ·have hkd : decide ((i : Int) < a.t.length) = false := decide_eq_false (by omega)
  have hie : i = a.t.length := by omega
  subst hie
  have hv : validL a = (decide (a.t.length ≤ 12) && within a.k 1099511627776) := by unfold validL termsOk; rw [hall]; rfl
  rw [hv] at h
  by_cases c1 : (a.t.length : Int) ≤ 12
  ·rw [decide_eq_true (show a.t.length ≤ 12 by omega)] at h
   repeat' (first | with_reducible refine And.intro ?_ ?_ | simp only [go_sem,seval, hkd, e1, c1, decide_true] | simp (disch := omega) only [wrap64, Rw_at] | simp (disch := first | omega | grind) only [heap_ne_] | intro hx_ | with_reducible refine within_a _ _ (by omega) (by omega) _ ?_ | omega)
   all_goals exact Fin.less (by simp only [Go.Av.Heap.Le, Go.Av.Heap.set, Go.Av.Heap.del] at * <;> grind) h
  ·rw [decide_eq_false (show ¬ a.t.length ≤ 12 by omega)] at h
   repeat' (first | with_reducible refine And.intro ?_ ?_ | simp only [go_sem,seval, hkd, e1, c1, decide_false] | simp (disch := omega) only [wrap64, Rw_at] | simp (disch := first | omega | grind) only [heap_ne_] | intro hx_ | with_reducible refine within_a _ _ (by omega) (by omega) _ ?_ | omega)
   all_goals exact Fin.less (by simp only [Go.Av.Heap.Le, Go.Av.Heap.set, Go.Av.Heap.del] at * <;> grind) h
end Go.Proofs.YtacekpdodelnbaaGreatDoor
end
section
set_option maxRecDepth 20000
namespace Go.Lin
open Go Go.Av Go.Lexs
theorem quo_floor (p q : Int) (h0 : 0 < q) : (if p.tmod q < 0 then p.tdiv q - 1 else p.tdiv q) = p.fdiv q := by
 rw [Int.fdiv_eq_ediv_of_nonneg p (by omega)]
 have h1 := Int.mul_tdiv_add_tmod p q
 have h4 : -q < p.tmod q ∧ p.tmod q < q := ⟨Int.lt_tmod_of_pos p h0, Int.tmod_lt_of_pos p h0⟩
 generalize p.tmod q = r at h1 h4 ⊢
 generalize p.tdiv q = d at h1 ⊢
 split
 ·have : p = (r + q) + q * (d - 1) := by rw [Int.mul_sub]; omega
  rw [this, Int.add_mul_ediv_left _ _ (by omega), Int.ediv_eq_zero_of_lt (by omega) (by omega)]; omega
 ·have : p = r + q * d := by omega
  rw [this, Int.add_mul_ediv_left _ _ (by omega), Int.ediv_eq_zero_of_lt (by omega) (by omega)]; omega
theorem tdiv_in {p q : Int} (hp : -9223372036854775807 ≤ p) (hp2 : p ≤ 9223372036854775807) : -9223372036854775807 ≤ p.tdiv q ∧ p.tdiv q ≤ 9223372036854775807 := by
 have : (p.tdiv q).natAbs = p.natAbs / q.natAbs := Int.natAbs_tdiv p q
 have h2 : p.natAbs / q.natAbs ≤ p.natAbs := Nat.div_le_self _ _
 omega
theorem nil_lin (k n : Int) (e : Bool) : NilR (.tuple [.agg [.nilsl, .int .i64 k, .bool e], .int .i64 n]) (.tuple [.agg (linC ⟨[], k, e⟩), .int .i64 n]) := by
 refine .tuple _ _ rfl fun i d d' h1 h2 => ?_
 match i with
 | 0 =>
  cases h1; cases h2
  refine .agg _ _ rfl fun i d d' h1 h2 => ?_
  match i with
  | 0 => cases h1; cases h2; exact .nil _
  | 1 => cases h1; cases h2; exact .same _
  | 2 => cases h1; cases h2; exact .same _
  | i + 3 => cases h1
 | 1 => cases h1; cases h2; exact .same _
 | i + 2 => cases h1
end Go.Lin
namespace Go.Proofs.YtacekpdodelnbaaGreatDoor
open Go Go.Av Go.Lexs Go.Lin
attribute [local irreducible] ACalls at8
theorem gcd_a {Q} (x y : Nat) (h0 : x ≤ 9223372036854775807) (h1 : y ≤ 9223372036854775807) (H : Heap) (h : Q (.int .i64 ((Nat.gcd x y : Nat) : Int)) H) : ACalls Tryz.prog 64 [.int .i64 (x : Int), .int .i64 (y : Int)] H Q := by
 refine acalls_of_wp [] Tryz.mixed Tryz.func64 rfl (by kernel_rfl) (of_decide_eq_true (by kernel_rfl)) (by kernel_rfl) ?_
 simp only [go_sem,seval, Tryz.results64]
 refine loop_c [] (fun (p : Nat × Nat) => [(0, .int .i64 p.1), (1, .int .i64 p.2)]) (fun (p : Nat × Nat) => H) (fun (p : Nat × Nat) => Nat.gcd p.1 p.2 = Nat.gcd x y) (fun (p : Nat × Nat) => p.2) ((x, y)) (rfl) (by (try simp only [go_sem,seval]) <;> (try simp (disch := omega) [wrap64]) <;> (try omega)) (by first | with_reducible exact Heap.Le.refl _ | exact heap_set_le (by assumption) | exact Heap.Le.refl _ | exact heap_le_set (by assumption) | exact (by simp only [Go.Av.Heap.Le, Go.Av.Heap.set, Go.Av.Heap.del] at * <;> grind)) ?_
 rintro Ec rfl ⟨a, b⟩ hg
 by_cases hb : (0 : Int) < b
 ·have hb0 : ¬ (b : Int) = 0 := by omega
  have e : ((a : Int).tmod b) = ((a % b : Nat) : Int) := by rw [Int.ofNat_tmod]
  repeat' (first | with_reducible refine And.intro ?_ ?_ | simp only [go_sem,seval, hb, hb0, e, decide_true, if_false] | intro hx_ | omega)
  exact nx_mk (b, a % b) (by rw [← hg]; show Nat.gcd b (a % b) = Nat.gcd a b; rw [Nat.gcd_comm b, ← Nat.gcd_rec, Nat.gcd_comm]) (Nat.mod_lt _ (by omega)) (by (try simp only [go_sem,seval]) <;> (try simp (disch := omega) [wrap64]) <;> (try omega)) (by simp only [Go.Av.Heap.Le, Go.Av.Heap.set, Go.Av.Heap.del] at * <;> grind)
 ·have hz : b = 0 := by omega
  subst hz
  rw [← hg] at h
  simp only [Nat.gcd_zero_right] at h
  repeat' (first | with_reducible refine And.intro ?_ ?_ | simp only [go_sem,seval, hb, decide_false] | intro hx_ | omega)
  exact Fin.same h
theorem floor_a {Q} (p q : Int) (hp : -9223372036854775807 < p) (hp2 : p ≤ 9223372036854775807) (h0 : 0 < q) (H : Heap) (h : Q (.int .i64 (p.fdiv q)) H) : ACalls Tryz.prog 65 [.int .i64 p, .int .i64 q] H Q := by
 refine acalls_of_wp [] Tryz.mixed Tryz.func65 rfl (by kernel_rfl) (of_decide_eq_true (by kernel_rfl)) (by kernel_rfl) ?_
 simp only [go_sem,seval, Tryz.results65]
 have hq : ¬ q = 0 := by omega
 obtain ⟨t1, t2⟩ := tdiv_in (q := q) (by omega : -9223372036854775807 ≤ p) hp2
 rw [← quo_floor p q h0] at h
 have w1 : IntKind.i64.wrap (p.tdiv q) = p.tdiv q := wrap64 (by omega) (by omega)
 have w2 : IntKind.i64.wrap (p.tdiv q - 1) = p.tdiv q - 1 := wrap64 (by omega) (by omega)
 by_cases c : p.tmod q < 0
 ·rw [if_pos c] at h
  repeat' (first | with_reducible refine And.intro ?_ ?_ | simp only [go_sem,seval, hq, c, w1, w2, decide_true, if_false] | simp (disch := omega) only [wrap64] | intro hx_ | omega)
  exact Fin.same h
 ·rw [if_neg c] at h
  repeat' (first | with_reducible refine And.intro ?_ ?_ | simp only [go_sem,seval, hq, c, w1, decide_false, if_false] | simp (disch := omega) only [wrap64] | intro hx_ | omega)
  exact Fin.same h
theorem values_a {Q} (l : List VlV) (fl : VlFit l) (H : Heap) (h : Q (.bool (valuesL l)) H) : ACalls Tryz.prog 69 [.sl 2 (Rw vlC l)] H Q := by
 refine acalls_of_wp [] Tryz.mixed Tryz.func69 rfl (by kernel_rfl) (of_decide_eq_true (by kernel_rfl)) (by kernel_rfl) ?_
 simp only [go_sem,seval, Tryz.results69]
 have hlen := fl.len
 refine loop_c [0, 5, 6] (fun (i : Nat) => [(7, .int .i64 i)]) (fun (i : Nat) => H) (fun (i : Nat) => i ≤ l.length ∧ (List.range i).all (okV l) = true) (fun (i : Nat) => l.length - i) (0) (⟨Nat.zero_le _, rfl⟩) (by (try simp only [go_sem,seval]) <;> (try simp (disch := omega) [wrap64]) <;> (try omega)) (by first | with_reducible exact Heap.Le.refl _ | exact heap_set_le (by assumption) | exact Heap.Le.refl _ | exact heap_le_set (by assumption) | exact (by simp only [Go.Av.Heap.Le, Go.Av.Heap.set, Go.Av.Heap.del] at * <;> grind)) ?_
 rintro Ec rfl i ⟨hi, hall⟩
 by_cases hlt : i < l.length
 ·have hkd : decide ((i : Int) < l.length) = true := decide_eq_true (by omega)
  have hti : (i : Int) < l.length := by omega
  have e : l.getD i default = l[i] := by simp [hlt]
  have e2 : ∀ hj : i - 1 < l.length, l.getD (i - 1) default = l[i - 1] := fun hj => by simp [hj]
  have hok : okV l i = (nameB (B l[i].v) && (decide (i = 0) || ltS (l.getD (i - 1) default).v l[i].v) && within l[i].n 2147483647) := by unfold okV; rw [e]
  have bad : okV l i = false → valuesL l = false := fun g => by
   unfold valuesL
   have : (List.range l.length).all (okV l) = false := by rw [List.all_eq_false]; exact ⟨i, List.mem_range.2 hlt, by rw [g]; decide⟩
   rw [this]; rfl
  by_cases n1 : nameB (B l[i].v) = true
  ·by_cases n2 : i = 0
   ·have z0 : ¬ ((0 : Int) < i) := by omega
    by_cases w : within l[i].n 2147483647 = true
    ·have okt : okV l i = true := by rw [hok, n1, w, decide_eq_true n2]; rfl
     repeat' (first | with_reducible refine And.intro ?_ ?_ | simp only [go_sem,seval, hkd, n1, Rw_at _ _ hlt, Rw_get _ _ hlt, z0, w, Bool.not_true, Bool.not_false, decide_true, decide_false] | simp (disch := omega) only [wrap64, Rw_at] | intro hx_ | with_reducible refine named_a _ _ ?_ | with_reducible refine within_a _ _ (by omega) (by omega) _ ?_ | omega)
     exact nx_mk (i + 1) ⟨by omega, by rw [List.range_succ, List.all_append, hall]; simp [okt]⟩ (by omega) (by (try simp only [go_sem,seval]) <;> (try simp (disch := omega) [wrap64]) <;> (try omega)) (by simp only [Go.Av.Heap.Le, Go.Av.Heap.set, Go.Av.Heap.del] at * <;> grind)
    ·have w : within l[i].n 2147483647 = false := by simpa using w
     rw [bad (by rw [hok, w, Bool.and_false])] at h
     repeat' (first | with_reducible refine And.intro ?_ ?_ | simp only [go_sem,seval, hkd, n1, Rw_at _ _ hlt, Rw_get _ _ hlt, z0, w, Bool.not_true, Bool.not_false, decide_true, decide_false] | simp (disch := omega) only [wrap64, Rw_at] | intro hx_ | with_reducible refine named_a _ _ ?_ | with_reducible refine within_a _ _ (by omega) (by omega) _ ?_ | omega)
     exact Fin.less (by simp only [Go.Av.Heap.Le, Go.Av.Heap.set, Go.Av.Heap.del] at * <;> grind) h
   ·have hj : i - 1 < l.length := by omega
    have z0 : (0 : Int) < i := by omega
    have ek : (i : Int) - 1 = ((i - 1 : Nat) : Int) := by omega
    have hji : ((i - 1 : Nat) : Int) < l.length := by omega
    by_cases g : ltS l[i - 1].v l[i].v = true
    ·have lb : Op.bytesLess l[i - 1].v.data.toList l[i].v.data.toList = true := g
     by_cases w : within l[i].n 2147483647 = true
     ·have okt : okV l i = true := by rw [hok, n1, w, e2 hj, g, Bool.or_true]; rfl
      repeat' (first | with_reducible refine And.intro ?_ ?_ | simp only [go_sem,seval, hkd, n1, Rw_at _ _ hlt, Rw_get _ _ hlt, z0, ek, hji, Rw_at _ _ hj, Rw_get _ _ hj, bs_geq, lb, w, Bool.not_true, Bool.not_false, decide_true, decide_false] | simp (disch := omega) only [wrap64, Rw_at] | intro hx_ | with_reducible refine named_a _ _ ?_ | with_reducible refine within_a _ _ (by omega) (by omega) _ ?_ | omega)
      exact nx_mk (i + 1) ⟨by omega, by rw [List.range_succ, List.all_append, hall]; simp [okt]⟩ (by omega) (by (try simp only [go_sem,seval]) <;> (try simp (disch := omega) [wrap64]) <;> (try omega)) (by simp only [Go.Av.Heap.Le, Go.Av.Heap.set, Go.Av.Heap.del] at * <;> grind)
     ·have w : within l[i].n 2147483647 = false := by simpa using w
      rw [bad (by rw [hok, w, Bool.and_false])] at h
      repeat' (first | with_reducible refine And.intro ?_ ?_ | simp only [go_sem,seval, hkd, n1, Rw_at _ _ hlt, Rw_get _ _ hlt, z0, ek, hji, Rw_at _ _ hj, Rw_get _ _ hj, bs_geq, lb, w, Bool.not_true, Bool.not_false, decide_true, decide_false] | simp (disch := omega) only [wrap64, Rw_at] | intro hx_ | with_reducible refine named_a _ _ ?_ | with_reducible refine within_a _ _ (by omega) (by omega) _ ?_ | omega)
      exact Fin.less (by simp only [Go.Av.Heap.Le, Go.Av.Heap.set, Go.Av.Heap.del] at * <;> grind) h
    ·have g : ltS l[i - 1].v l[i].v = false := by simpa using g
     have lb : Op.bytesLess l[i - 1].v.data.toList l[i].v.data.toList = false := g
     rw [bad (by rw [hok, n1, e2 hj, g, decide_eq_false n2]; rfl)] at h
     repeat' (first | with_reducible refine And.intro ?_ ?_ | simp only [go_sem,seval, hkd, n1, Rw_at _ _ hlt, Rw_get _ _ hlt, z0, ek, hji, Rw_at _ _ hj, Rw_get _ _ hj, bs_geq, lb, Bool.not_true, Bool.not_false, decide_true, decide_false] | simp (disch := omega) only [wrap64, Rw_at] | intro hx_ | with_reducible refine named_a _ _ ?_ | with_reducible refine within_a _ _ (by omega) (by omega) _ ?_ | omega)
     exact Fin.less (by simp only [Go.Av.Heap.Le, Go.Av.Heap.set, Go.Av.Heap.del] at * <;> grind) h
  ·have n1 : nameB (B l[i].v) = false := by simpa using n1
   rw [bad (by rw [hok, n1]; rfl)] at h
   repeat' (first | with_reducible refine And.intro ?_ ?_ | simp only [go_sem,seval, hkd, n1, Rw_at _ _ hlt, Rw_get _ _ hlt, Bool.not_true, Bool.not_false, decide_true, decide_false] | simp (disch := omega) only [wrap64, Rw_at] | intro hx_ | with_reducible refine named_a _ _ ?_ | with_reducible refine within_a _ _ (by omega) (by omega) _ ?_ | omega)
   exact Fin.less (by simp only [Go.Av.Heap.Le, Go.Av.Heap.set, Go.Av.Heap.del] at * <;> grind) h
 ·have hkd : decide ((i : Int) < l.length) = false := decide_eq_false (by omega)
  have hie : i = l.length := by omega
  subst hie
  have hv : valuesL l = decide ((l.length : Int) ≤ 24) := by
   unfold valuesL; rw [hall]; by_cases g : l.length ≤ 24
   ·rw [decide_eq_true g, decide_eq_true (show (l.length : Int) ≤ 24 by omega)]; rfl
   ·rw [decide_eq_false g, decide_eq_false (show ¬ (l.length : Int) ≤ 24 by omega)]; rfl
  rw [hv] at h
  repeat' (first | with_reducible refine And.intro ?_ ?_ | simp only [go_sem,seval, hkd] | simp (disch := omega) only [wrap64, Rw_at] | intro hx_ | omega)
  exact Fin.less (by simp only [Go.Av.Heap.Le, Go.Av.Heap.set, Go.Av.Heap.del] at * <;> grind) h
end Go.Proofs.YtacekpdodelnbaaGreatDoor
end
section
set_option maxRecDepth 20000
namespace Go.Lin
open Go Go.Av Go.Lexs
open Classical in
noncomputable def insK (ks : List ByteArray) (s : ByteArray) : List ByteArray := if s ∈ ks then ks else ks ++ [s]
theorem insK_nodup {ks : List ByteArray} {s : ByteArray} (h : ks.Nodup) : (insK ks s).Nodup := by
 unfold insK
 split
 ·exact h
 ·rename_i g
  exact List.nodup_append.2 ⟨h, by simp, fun a ha b hb => by simp at hb; subst hb; exact fun e => g (e ▸ ha)⟩
theorem insK_mem {ks : List ByteArray} {s x : ByteArray} : x ∈ insK ks s ↔ x ∈ ks ∨ x = s := by
 unfold insK
 split
 ·rename_i g; constructor
  ·exact .inl
  ·rintro (h | rfl); exact h; exact g
 ·simp
theorem insK_len (ks : List ByteArray) (s : ByteArray) : (insK ks s).length ≤ ks.length + 1 := by
 unfold insK; split <;> simp
theorem foldK_nodup (m : List ByteArray) : ∀ ks : List ByteArray, ks.Nodup → (m.foldl insK ks).Nodup := by
 induction m with
 | nil => exact fun ks h => h
 | cons s m ih => exact fun ks h => ih _ (insK_nodup h)
theorem foldK_mem (m : List ByteArray) (x : ByteArray) : ∀ ks : List ByteArray, x ∈ m.foldl insK ks ↔ x ∈ ks ∨ x ∈ m := by
 induction m with
 | nil => intro ks; simp
 | cons s m ih => intro ks; rw [List.foldl_cons, ih, insK_mem, List.mem_cons, or_assoc]
theorem foldK_len (m : List ByteArray) : ∀ ks : List ByteArray, (m.foldl insK ks).length ≤ ks.length + m.length := by
 induction m with
 | nil => intro ks; simp
 | cons s m ih => intro ks; have := ih (insK ks s); have := insK_len ks s; simp only [List.foldl_cons, List.length_cons]; omega
theorem strM_cons (f : ByteArray → D) (s : ByteArray) (ks : List ByteArray) : strM f (s :: ks) = (.str s, f s) :: strM f ks := rfl
theorem find_strM (f : ByteArray → D) (s : ByteArray) : ∀ (ks : List ByteArray) (i : Nat), (s ∉ ks ∧ findD (.one .str) (.str s) (strM f ks) i = some none) ∨ ∃ j, ∃ hj : j < ks.length, ks[j] = s ∧ findD (.one .str) (.str s) (strM f ks) i = some (some (i + j, f s))
 | [], i => .inl ⟨by simp, rfl⟩
 | t :: ks, i => by
  have e : keyEq (.one .str) (.str s) (.str t) = some (decide (s = t)) := by
   rw [keyEq, cellEq]
   congr 1
   rw [Bool.eq_iff_iff, beq_iff_eq, decide_eq_true_eq]
   exact ⟨fun g => B_inj g, fun g => by rw [g]⟩
  rw [strM_cons, findD]
  simp only [e, Option.bind_some, decide_eq_true_eq]
  by_cases c : s = t
  ·subst c
   rw [if_pos rfl]
   exact .inr ⟨0, by simp, rfl, rfl⟩
  ·rw [if_neg c]
   rcases find_strM f s ks (i + 1) with ⟨h1, h2⟩ | ⟨j, hj, h1, h2⟩
   ·exact .inl ⟨by rw [List.mem_cons, not_or]; exact ⟨c, h1⟩, h2⟩
   ·exact .inr ⟨j + 1, by simpa using hj, by simpa using h1, by rw [h2]; congr 3; omega⟩
def updF (f : ByteArray → D) (s : ByteArray) (x : D) : ByteArray → D := fun t => if t = s then x else f t
theorem put_strM (f : ByteArray → D) (s : ByteArray) (x : D) (ks : List ByteArray) (hn : ks.Nodup) : (findD (.one .str) (.str s) (strM f ks) 0).map (fun r => putKV (strM f ks) (.str s) x r) = some (strM (updF f s x) (insK ks s)) := by
 rcases find_strM f s ks 0 with ⟨h1, h2⟩ | ⟨j, hj, h1, h2⟩
 ·rw [h2]
  show some (strM f ks ++ [(.str s, x)]) = _
  unfold insK
  rw [if_neg h1]
  unfold strM
  rw [List.map_append]
  congr 2
  ·refine List.map_congr_left fun t ht => ?_
   have : t ≠ s := fun e => h1 (e ▸ ht)
   simp [updF, this]
  ·simp [updF]
 ·rw [h2]
  show some ((strM f ks).set (0 + j) (.str s, x)) = _
  have hm : s ∈ ks := by rw [← h1]; exact List.getElem_mem hj
  unfold insK
  rw [if_pos hm, Nat.zero_add]
  congr 1
  apply List.ext_getElem
  ·simp [strM]
  ·intro i h3 h4
   have hi : i < ks.length := by simpa [strM] using h4
   by_cases e : j = i
   ·subst e
    rw [List.getElem_set_self]
    simp [strM, updF, h1]
   ·rw [List.getElem_set_ne e]
    have : ks[i] ≠ s := fun g => by
     have hp := List.pairwise_iff_getElem.1 hn
     rcases Nat.lt_or_gt_of_ne e with q | q
     ·exact hp j i hj hi q (h1.trans g.symm)
     ·exact hp i j hi hj q (g.trans h1.symm)
    simp [strM, updF, this]
theorem putH_strM {H : Heap} {b : Nat} (f : ByteArray → D) (s : ByteArray) (x : D) (ks : List ByteArray) (hn : ks.Nodup) : (findD (.one .str) (.str s) (strM f ks) 0).map (fun r => H.set b (.map (putKV (strM f ks) (.str s) x r))) = some (H.set b (.map (strM (updF f s x) (insK ks s)))) := by
 have := congrArg (Option.map fun m => H.set b (.map m)) (put_strM f s x ks hn)
 rw [Option.map_map] at this
 exact this
open Classical in
theorem look_strM (f : ByteArray → D) (s : ByteArray) (z : D) (ks : List ByteArray) : (findD (.one .str) (.str s) (strM f ks) 0).map (foundD false z) = some (if s ∈ ks then f s else z) := by
 rcases find_strM f s ks 0 with ⟨h1, h2⟩ | ⟨j, hj, h1, h2⟩
 ·rw [h2, if_neg h1]; rfl
 ·have hm : s ∈ ks := by rw [← h1]; exact List.getElem_mem hj
  rw [h2, if_pos hm]; rfl
abbrev tt : ByteArray → D := fun _ => .bool true
theorem upd_tt (s : ByteArray) : updF tt s (.bool true) = tt := by
 funext t; unfold updF; split <;> rfl
def nameT (l : List LinV) (i j : Nat) : List ByteArray := namesL (l.take i) ++ (((l.getD i default).t.take j).map (·.v))
theorem nameT_next (l : List LinV) (i : Nat) (h : i < l.length) : nameT l i l[i].t.length = nameT l (i + 1) 0 := by
 unfold nameT namesL
 rw [List.take_succ_eq_append_getElem h, List.flatMap_append]
 simp [h]
theorem nameT_succ (l : List LinV) (i j : Nat) (h : i < l.length) (hj : j < l[i].t.length) : nameT l i (j + 1) = nameT l i j ++ [l[i].t[j].v] := by
 unfold nameT
 rw [show l.getD i default = l[i] by simp [h], List.take_succ_eq_append_getElem hj, List.map_append, ← List.append_assoc]; rfl
theorem nameT_all (l : List LinV) : nameT l l.length 0 = namesL l := by simp [nameT]
theorem foldK_snoc (m : List ByteArray) (s : ByteArray) : (m ++ [s]).foldl insK [] = insK (m.foldl insK []) s := by rw [List.foldl_append]; rfl
end Go.Lin
namespace Go.Proofs.YtacekpdodelnbaaGreatDoor
open Go Go.Av Go.Lexs Go.Lin
attribute [local irreducible] ACalls at8
theorem vars_a {Q} (l : List LinV) (hlen : l.length ≤ 1000000000) (hnm : (namesL l).length ≤ 1000000000) (hst : ∀ s ∈ namesL l, s.size ≤ 4611686018427387904) (hts : ∀ c ∈ l, c.t.length ≤ 1000000000) (H : Heap) (h : Q (.sl 1 (Rw strC (varsL l))) H) : ACalls Tryz.prog 54 [.sl 3 (Rw linC l)] H Q := by
 refine acalls_of_wp [] Tryz.mixed Tryz.func54 rfl (by kernel_rfl) (of_decide_eq_true (by kernel_rfl)) (by kernel_rfl) ?_
 simp only [go_sem,seval, Tryz.results54]
 repeat' (first | with_reducible refine And.intro ?_ ?_ | simp only [go_sem,seval] | simp (disch := omega) only [wrap64, Rw_at] | simp (disch := first | omega | grind) only [heap_ne_] | (intro hx_; try simp only [set_none] at hx_) | omega)
 rename_i b3
 have h3 := hx_
 clear hx_
 rw [show ([] : List (D × D)) = strM tt ((nameT l 0 0).foldl insK []) from rfl]
 refine loop_c [3, 9, 10] (fun (i : Nat) => [(11, .int .i64 i)]) (fun (i : Nat) => H.set b3 (.map (strM tt ((nameT l i 0).foldl insK [])))) (fun (i : Nat) => i ≤ l.length) (fun (i : Nat) => l.length - i) (0) (Nat.zero_le _) (by (try simp only [go_sem,seval]) <;> (try simp (disch := omega) [wrap64]) <;> (try omega)) (by first | with_reducible exact Heap.Le.refl _ | exact heap_set_le (by assumption) | exact Heap.Le.refl _ | exact heap_le_set (by assumption) | exact (by simp only [Go.Av.Heap.Le, Go.Av.Heap.set, Go.Av.Heap.del] at * <;> grind)) ?_
 rintro Ec rfl i hi
 by_cases hlt : i < l.length
 ·have hkd : decide ((i : Int) < l.length) = true := decide_eq_true (by omega)
  have hti : (i : Int) < l.length := by omega
  have htl := hts _ (List.getElem_mem hlt)
  repeat' (first | with_reducible refine And.intro ?_ ?_ | simp only [go_sem,seval, hkd, Rw_at _ _ hlt, Rw_get _ _ hlt] | simp (disch := omega) only [wrap64, Rw_at] | simp (disch := first | omega | grind) only [heap_ne_] | (intro hx_; try simp only [set_none] at hx_) | omega)
  rename_i b5
  have h5 := hx_
  clear hx_
  have hle : (H.set b3 (.map (strM tt ((nameT l i 0).foldl insK [])))).Le ((H.set b3 (.map (strM tt ((nameT l i 0).foldl insK [])))).set b5 (.box (linC l[i]))) := (by simp only [Go.Av.Heap.Le, Go.Av.Heap.set, Go.Av.Heap.del] at * <;> grind)
  refine loop_c [3, 9, 10, 11, 16, 17] (fun (j : Nat) => [(18, .int .i64 j)]) (fun (j : Nat) => H.set b3 (.map (strM tt ((nameT l i j).foldl insK [])))) (fun (j : Nat) => j ≤ l[i].t.length) (fun (j : Nat) => l[i].t.length - j) (0) (Nat.zero_le _) (by (try simp only [go_sem,seval]) <;> (try simp (disch := omega) [wrap64]) <;> (try omega)) (by first | with_reducible exact Heap.Le.refl _ | exact heap_set_le (by assumption) | exact Heap.Le.refl _ | exact heap_le_set (by assumption) | exact (by simp only [Go.Av.Heap.Le, Go.Av.Heap.set, Go.Av.Heap.del] at * <;> grind)) ?_
  rintro Ec rfl j hj
  by_cases hjt : j < l[i].t.length
  ·have hkd2 : decide ((j : Int) < l[i].t.length) = true := decide_eq_true (by omega)
   have hjr : (j : Int) < l[i].t.length := by omega
   have hnd : ((nameT l i j).foldl insK []).Nodup := foldK_nodup _ [] List.nodup_nil
   have ns := nameT_succ l i j hlt hjt
   repeat' (first | with_reducible refine And.intro ?_ ?_ | simp only [go_sem,seval, hkd2, hjr, Rw_at _ _ hjt, Rw_get _ _ hjt, putH_strM _ _ _ _ hnd, upd_tt] | simp (disch := omega) only [wrap64, Rw_at] | simp (disch := first | omega | grind) only [heap_ne_] | (intro hx_; try simp only [set_none] at hx_) | omega)
   rename_i b7
   have h7 := hx_
   clear hx_
   refine nx_mk (j + 1) (by omega) (by omega) (by (try simp only [go_sem,seval]) <;> (try simp (disch := omega) [wrap64]) <;> (try omega)) ?_
   rw [ns, foldK_snoc]
   refine Heap.Le.trans (heap_le_set (b := b7) (o := .box (ltC l[i].t[j])) (by simp only [set_none]; exact h7)) (le_swap h7.1)
  ·have hkd2 : decide ((j : Int) < l[i].t.length) = false := decide_eq_false (by omega)
   have hje : j = l[i].t.length := by omega
   subst hje
   rw [nameT_next l i hlt]
   repeat' (first | with_reducible refine And.intro ?_ ?_ | simp only [go_sem,seval, hkd2] | simp (disch := omega) only [wrap64, Rw_at] | simp (disch := first | omega | grind) only [heap_ne_] | (intro hx_; try simp only [set_none] at hx_) | omega)
   exact nx_mk (i + 1) (by omega) (by omega) (by (try simp only [go_sem,seval]) <;> (try simp (disch := omega) [wrap64]) <;> (try omega)) (Heap.Le.refl _)
 ·have hkd : decide ((i : Int) < l.length) = false := decide_eq_false (by omega)
  have hie : i = l.length := by omega
  subst hie
  rw [nameT_all]
  have hnd : ((namesL l).foldl insK []).Nodup := foldK_nodup _ [] List.nodup_nil
  have hlk := foldK_len (namesL l) []
  rw [List.length_nil, Nat.zero_add] at hlk
  have hmk : ∀ s, s ∈ (namesL l).foldl insK [] ↔ s ∈ namesL l := fun s => by rw [foldK_mem]; simp
  generalize (namesL l).foldl insK [] = ks at hnd hlk hmk ⊢
  repeat' (first | with_reducible refine And.intro ?_ ?_ | simp only [go_sem,seval, hkd] | simp (disch := omega) only [wrap64, Rw_at] | simp (disch := first | omega | grind) only [heap_ne_] | (intro hx_; try simp only [set_none] at hx_) | omega)
  refine keysB_a b3 _ fun bk hbk => ?_
  have f1 : ((H.set b3 (.map (strM tt ks))).set bk (.box [.map b3])) bk = some (.box [.map b3]) := heap_same _ _
  have f2 : ((H.set b3 (.map (strM tt ks))).set bk (.box [.map b3])) b3 = some (.map (strM tt ks)) := (heap_le_set hbk) _ _ (heap_same _ _)
  repeat' (first | with_reducible refine And.intro ?_ ?_ | simp only [go_sem,seval] | simp (disch := omega) only [wrap64, Rw_at] | simp (disch := first | omega | grind) only [heap_ne_] | (intro hx_; try simp only [set_none] at hx_) | omega)
  refine sortB_a bk b3 tt ks (by omega) (fun s hs => hst s ((hmk s).1 hs)) _ f1 f2 fun v hv hm => ?_
  have e : v = varsL l := up_ext hv (varsL_up l) fun s => by rw [hm, hmk, varsL_mem]
  rw [e]
  repeat' (first | with_reducible refine And.intro ?_ ?_ | simp only [go_sem,seval] | simp (disch := omega) only [wrap64, Rw_at] | simp (disch := first | omega | grind) only [heap_ne_] | (intro hx_; try simp only [set_none] at hx_) | omega)
  exact Fin.less ((heap_le_set h3).trans (heap_le_set hbk)) h
end Go.Proofs.YtacekpdodelnbaaGreatDoor
end
section
set_option maxRecDepth 20000
namespace Go.Lin
open Go Go.Av Go.Lexs
section
variable {P : Program} {t : Nat} {c : Bool}
@[go_sem] theorem b_shr1 (a : Int) : binD P .shr t c (.int .u64 a) (.int .u64 1) = some (.int .u64 (a / 2)) := by
 show (if (1 : Int) < 0 then none else some (D.int .u64 (a.fdiv (2 ^ (min (1 : Int).toNat IntKind.u64.bits))))) = _
 rw [if_neg (by decide)]
 have e : (2 : Int) ^ (min (1 : Int).toNat IntKind.u64.bits) = 2 := by decide
 rw [e, Int.fdiv_eq_ediv_of_nonneg _ (by decide)]
end
theorem cmp_lt : ∀ (x y : List UInt8), decide (Lib.compareBytes x y < 0) = Op.bytesLess x y
 | [], [] => rfl
 | [], y :: ys => rfl
 | x :: xs, [] => rfl
 | x :: xs, y :: ys => by
  unfold Lib.compareBytes Op.bytesLess
  have ih := cmp_lt xs ys
  by_cases h1 : x < y
  ·simp [h1]
  ·by_cases h2 : y < x
   ·have : x ≠ y := fun e => by subst e; exact h1 h2
    simp [h1, h2, this]
   ·have : x = y := UInt8.le_antisymm (UInt8.not_lt.1 h2) (UInt8.not_lt.1 h1)
    simp [h1, h2, this, ih]
theorem cmp_eq0 : ∀ (x y : List UInt8), decide (Lib.compareBytes x y = 0) = decide (x = y)
 | [], [] => rfl
 | [], y :: ys => rfl
 | x :: xs, [] => rfl
 | x :: xs, y :: ys => by
  unfold Lib.compareBytes
  have ih := cmp_eq0 xs ys
  by_cases h1 : x < y
  ·have : x ≠ y := fun e => by subst e; exact absurd h1 (UInt8.lt_irrefl _)
   simp [h1, this]
  ·by_cases h2 : y < x
   ·have : x ≠ y := fun e => by subst e; exact absurd h2 h1
    simp [h1, h2, this]
   ·have : x = y := UInt8.le_antisymm (UInt8.not_lt.1 h2) (UInt8.not_lt.1 h1)
    subst this
    simp [UInt8.lt_irrefl]
    simpa using ih
end Go.Lin
namespace Go.Proofs.YtacekpdodelnbaaGreatDoor
open Go Go.Av Go.Lexs Go.Lin
attribute [local irreducible] ACalls at8
theorem isNaN1_a {Q} (s : ByteArray) (H : Heap) (h : Q (.bool false) H) : ACalls Tryz.prog 197 [.str s] H Q := by
 refine acalls_of_wp [] Tryz.mixed Tryz.func197 rfl (by kernel_rfl) (of_decide_eq_true (by kernel_rfl)) (by kernel_rfl) ?_
 simp only [go_sem,seval, Tryz.results197]
 repeat' (first | with_reducible refine And.intro ?_ ?_ | simp only [go_sem,seval] | intro hx_ | omega)
 exact Fin.same h
theorem lessS_a {Q} (x y : ByteArray) (H : Heap) (h : Q (.bool (ltS x y)) H) : ACalls Tryz.prog 152 [.str x, .str y] H Q := by
 refine acalls_of_wp [] Tryz.mixed Tryz.func152 rfl (by kernel_rfl) (of_decide_eq_true (by kernel_rfl)) (by kernel_rfl) ?_
 simp only [go_sem,seval, Tryz.results152]
 repeat' (first | with_reducible refine And.intro ?_ ?_ | simp only [go_sem,seval] | intro hx_ | with_reducible refine isNaN1_a _ _ ?_ | omega)
 exact Fin.same h
theorem bsearch_a {Q} (ns : List ByteArray) (hup : ns.Pairwise fun x y => ltS x y = true) (s : ByteArray) (i : Nat) (hi : i < ns.length) (he : ns[i] = s) (hlen : ns.length ≤ 1000000000) (H : Heap) (h : Q (.tuple [.int .i64 (i : Int), .bool true]) H) :
  ACalls Tryz.prog 143 [.sl 1 (Rw strC ns), .str s] H Q := by
 refine acalls_of_wp [] Tryz.mixed Tryz.func143 rfl (by kernel_rfl) (of_decide_eq_true (by kernel_rfl)) (by kernel_rfl) ?_
 simp only [go_sem,seval, Tryz.results143]
 have hpw := List.pairwise_iff_getElem.1 hup
 repeat' (first | with_reducible refine And.intro ?_ ?_ | simp only [go_sem,seval] | simp (disch := omega) only [wrap64, Rw_at] | intro hx_ | omega)
 refine loop_c [0, 1, 6] (fun (p : Nat × Nat) => [(7, .int .i64 (p.1 : Int)), (8, .int .i64 (p.2 : Int))]) (fun (p : Nat × Nat) => H) (fun (p : Nat × Nat) => p.1 ≤ i ∧ i ≤ p.2 ∧ p.2 ≤ ns.length) (fun (p : Nat × Nat) => p.2 - p.1) ((0, ns.length)) (⟨Nat.zero_le _, by omega, Nat.le_refl _⟩) (by (try simp only [go_sem,seval]) <;> (try simp (disch := omega) [wrap64]) <;> (try omega)) (by first | with_reducible exact Heap.Le.refl _ | exact heap_set_le (by assumption) | exact Heap.Le.refl _ | exact heap_le_set (by assumption) | exact (by simp only [Go.Av.Heap.Le, Go.Av.Heap.set, Go.Av.Heap.del] at * <;> grind)) ?_
 rintro Ec rfl ⟨lo, hi'⟩ ⟨q1, q2, q3⟩
 simp only at q1 q2 q3
 by_cases hlt : lo < hi'
 ·have hkd : decide ((lo : Int) < hi') = true := decide_eq_true (by omega)
  obtain ⟨m, hm⟩ : ∃ m, m = (lo + hi') / 2 := ⟨_, rfl⟩
  have hml : m < ns.length := by omega
  have hmi : (m : Int) < ns.length := by omega
  have w1 : IntKind.u64.wrap ((lo : Int) + hi') / 2 = (m : Int) := by rw [u64w (by omega) (by omega)]; omega
  have w2 : IntKind.i64.wrap (m : Int) = m := by rw [wrap64 (by omega) (by omega)]
  have hc : ltS ns[m] s = decide (m < i) := by
   by_cases g : m < i
   ·rw [decide_eq_true g, ← he]; exact hpw m i hml hi g
   ·rw [decide_eq_false g, ← he]
    rcases Nat.lt_or_eq_of_le (Nat.le_of_not_lt g) with g2 | g2
    ·have := hpw i m hi hml g2
     rw [← Bool.not_eq_true]
     intro g3
     have := ltS_trans this g3
     rw [ltS_irr] at this; cases this
    ·simp only [g2]; exact ltS_irr _
  by_cases g : m < i
  ·rw [decide_eq_true g] at hc
   repeat' (first | with_reducible refine And.intro ?_ ?_ | simp only [go_sem,seval, hkd, w1, w2, hmi, Rw_at _ _ hml, Rw_get _ _ hml, hc] | simp (disch := omega) only [wrap64, Rw_at] | intro hx_ | with_reducible refine lessS_a _ _ _ ?_ | omega)
   exact nx_mk (m + 1, hi') ⟨by simp only []; omega, q2, q3⟩ (by simp only []; omega) (by (try simp only [go_sem,seval]) <;> (try simp (disch := omega) [wrap64]) <;> (try omega)) (Heap.Le.refl _)
  ·rw [decide_eq_false g] at hc
   repeat' (first | with_reducible refine And.intro ?_ ?_ | simp only [go_sem,seval, hkd, w1, w2, hmi, Rw_at _ _ hml, Rw_get _ _ hml, hc] | simp (disch := omega) only [wrap64, Rw_at] | intro hx_ | with_reducible refine lessS_a _ _ _ ?_ | omega)
   exact nx_mk (lo, m) ⟨q1, by simp only []; omega, by simp only []; omega⟩ (by simp only []; omega) (by (try simp only [go_sem,seval]) <;> (try simp (disch := omega) [wrap64]) <;> (try omega)) (Heap.Le.refl _)
 ·have hkd : decide ((lo : Int) < hi') = false := decide_eq_false (by omega)
  have e : lo = i := by omega
  subst e
  have hli : (lo : Int) < ns.length := by omega
  repeat' (first | with_reducible refine And.intro ?_ ?_ | simp only [go_sem,seval, hkd, hli, Rw_at _ _ hi, Rw_get _ _ hi, he] | simp (disch := omega) only [wrap64, Rw_at] | intro hx_ | omega)
  exact Fin.same h
theorem getC_a {Q} (x : VlV) (s : ByteArray) (H : Heap) (h : Q (.int .i64 (Lib.compareBytes (B x.v) (B s))) H) : ACalls Tryz.prog 126 [.agg (vlC x), .str s] H Q := by
 refine acalls_of_wp [] Tryz.mixed Tryz.func126 rfl (by kernel_rfl) (of_decide_eq_true (by kernel_rfl)) (by kernel_rfl) ?_
 simp only [go_sem,seval, Tryz.results126]
 repeat' (first | with_reducible refine And.intro ?_ ?_ | simp only [go_sem,seval] | intro hx_ | with_reducible refine compare_a _ _ _ ?_ | omega)
 exact Fin.less (by simp only [Go.Av.Heap.Le, Go.Av.Heap.set, Go.Av.Heap.del] at * <;> grind) h
def posV (l : List VlV) (s : ByteArray) (i : Nat) : Prop := i ≤ l.length ∧ (∀ (k : Nat) (hk : k < l.length), k < i → ltS l[k].v s = true) ∧ ∀ hk : i < l.length, ltS l[i].v s = false
theorem bsearchV_a {Q} (l : List VlV) (hv : valuesL l = true) (s : ByteArray) (hlen : l.length ≤ 1000000000000000) (H : Heap) (h : ∀ i, posV l s i → Q (.tuple [.int .i64 (i : Int), .bool (if hk : i < l.length then decide (l[i].v = s) else false)]) H) :
  ACalls Tryz.prog 125 [.sl 2 (Rw vlC l), .str s, .fn (.func 126) [] []] H Q := by
 refine acalls_of_wp [] Tryz.mixed Tryz.func125 rfl (by kernel_rfl) (of_decide_eq_true (by kernel_rfl)) (by kernel_rfl) ?_
 simp only [go_sem,seval, Tryz.results125]
 have hup := values_up hv
 repeat' (first | with_reducible refine And.intro ?_ ?_ | simp only [go_sem,seval] | simp (disch := omega) only [wrap64, Rw_at] | intro hx_ | omega)
 refine loop_c [0, 1, 2, 8] (fun (p : Nat × Nat) => [(9, .int .i64 (p.1 : Int)), (10, .int .i64 (p.2 : Int))]) (fun (p : Nat × Nat) => H) (fun (p : Nat × Nat) => p.1 ≤ p.2 ∧ p.2 ≤ l.length ∧ (∀ (k : Nat) (hk : k < l.length), k < p.1 → ltS l[k].v s = true) ∧ ∀ (k : Nat) (hk : k < l.length), p.2 ≤ k → ltS l[k].v s = false) (fun (p : Nat × Nat) => p.2 - p.1) ((0, l.length)) (⟨Nat.zero_le _, Nat.le_refl _, fun k _ h => absurd h (Nat.not_lt_zero _), fun k hk h => absurd hk (by simp only [] at h; omega)⟩) (by (try simp only [go_sem,seval]) <;> (try simp (disch := omega) [wrap64]) <;> (try omega)) (by first | with_reducible exact Heap.Le.refl _ | exact heap_set_le (by assumption) | exact Heap.Le.refl _ | exact heap_le_set (by assumption) | exact (by simp only [Go.Av.Heap.Le, Go.Av.Heap.set, Go.Av.Heap.del] at * <;> grind)) ?_
 rintro Ec rfl ⟨lo, hi'⟩ ⟨q1, q2, q3, q4⟩
 simp only at q1 q2 q3 q4
 by_cases hlt : lo < hi'
 ·have hkd : decide ((lo : Int) < hi') = true := decide_eq_true (by omega)
  obtain ⟨m, hm⟩ : ∃ m, m = (lo + hi') / 2 := ⟨_, rfl⟩
  have hml : m < l.length := by omega
  have hmi : (m : Int) < l.length := by omega
  have w1 : IntKind.u64.wrap ((lo : Int) + hi') / 2 = (m : Int) := by rw [u64w (by omega) (by omega)]; omega
  have w2 : IntKind.i64.wrap (m : Int) = m := by rw [wrap64 (by omega) (by omega)]
  have hc : decide (Lib.compareBytes (B l[m].v) (B s) < 0) = ltS l[m].v s := cmp_lt _ _
  cases g : ltS l[m].v s with
  | true =>
   rw [g] at hc
   repeat' (first | with_reducible refine And.intro ?_ ?_ | simp only [go_sem,seval, hkd, w1, w2, hmi, Rw_at _ _ hml, Rw_get _ _ hml, hc] | simp (disch := omega) only [wrap64, Rw_at] | intro hx_ | with_reducible refine getC_a _ _ _ ?_ | omega)
   refine nx_mk (m + 1, hi') ⟨by simp only []; omega, q2, fun k hk hkm => ?_, q4⟩ (by simp only []; omega) (by (try simp only [go_sem,seval]) <;> (try simp (disch := omega) [wrap64]) <;> (try omega)) (Heap.Le.refl _)
   simp only [] at hkm
   rcases Nat.lt_or_ge k m with g2 | g2
   ·exact ltS_trans (hup k m hk hml g2) g
   ·have : k = m := by omega
    subst this; exact g
  | false =>
   rw [g] at hc
   repeat' (first | with_reducible refine And.intro ?_ ?_ | simp only [go_sem,seval, hkd, w1, w2, hmi, Rw_at _ _ hml, Rw_get _ _ hml, hc] | simp (disch := omega) only [wrap64, Rw_at] | intro hx_ | with_reducible refine getC_a _ _ _ ?_ | omega)
   refine nx_mk (lo, m) ⟨by simp only []; omega, by simp only []; omega, q3, fun k hk hkm => ?_⟩ (by simp only []; omega) (by (try simp only [go_sem,seval]) <;> (try simp (disch := omega) [wrap64]) <;> (try omega)) (Heap.Le.refl _)
   simp only [] at hkm
   rcases Nat.lt_or_eq_of_le hkm with g2 | g2
   ·rw [← Bool.not_eq_true]
    intro g3
    have := ltS_trans (hup m k hml hk g2) g3
    rw [g] at this; cases this
   ·subst g2; exact g
 ·have hkd : decide ((lo : Int) < hi') = false := decide_eq_false (by omega)
  have e : lo = hi' := by omega
  subst e
  have h := h lo ⟨q2, q3, fun hk => q4 lo hk (Nat.le_refl _)⟩
  by_cases hl : lo < l.length
  ·have hli : (lo : Int) < l.length := by omega
   have hc : decide (Lib.compareBytes (B l[lo].v) (B s) = 0) = decide (l[lo].v = s) := by
    rw [cmp_eq0]; exact decide_eq_decide.2 ⟨fun g => B_inj g, fun g => by rw [g]⟩
   rw [dif_pos hl] at h
   repeat' (first | with_reducible refine And.intro ?_ ?_ | simp only [go_sem,seval, hkd, hli, Rw_at _ _ hl, Rw_get _ _ hl, hc] | simp (disch := omega) only [wrap64, Rw_at] | intro hx_ | with_reducible refine getC_a _ _ _ ?_ | omega)
   exact Fin.same h
  ·have hli : ¬ (lo : Int) < l.length := by omega
   rw [dif_neg hl] at h
   repeat' (first | with_reducible refine And.intro ?_ ?_ | simp only [go_sem,seval, hkd, hli] | simp (disch := omega) only [wrap64, Rw_at] | intro hx_ | with_reducible refine getC_a _ _ _ ?_ | omega)
   exact Fin.same h
theorem get_a {Q} (l : List VlV) (hv : valuesL l = true) (s : ByteArray) (hlen : l.length ≤ 1000000000000000) (H : Heap) (h : Q (.tuple [.int .i64 ((getL l s).getD 0), .bool (getL l s).isSome]) H) : ACalls Tryz.prog 104 [.sl 2 (Rw vlC l), .str s] H Q := by
 refine acalls_of_wp [] Tryz.mixed Tryz.func104 rfl (by kernel_rfl) (of_decide_eq_true (by kernel_rfl)) (by kernel_rfl) ?_
 simp only [go_sem,seval, Tryz.results104]
 repeat' (first | with_reducible refine And.intro ?_ ?_ | simp only [go_sem,seval] | simp (disch := omega) only [Rw_at, getL_at] | intro hx_ | omega)
 refine bsearchV_a l hv s hlen _ fun i hp => ?_
 obtain ⟨p1, p2, p3⟩ := hp
 rw [getL_at hv p1 p2 p3] at h
 by_cases hl : i < l.length
 ·have hli : (i : Int) < l.length := by omega
  rw [dif_pos hl] at h ⊢
  by_cases g : l[i].v = s
  ·rw [if_pos g] at h
   rw [decide_eq_true g]
   simp only [Option.getD_some, Option.isSome_some] at h
   repeat' (first | with_reducible refine And.intro ?_ ?_ | simp only [go_sem,seval, hli, Rw_at _ _ hl, Rw_get _ _ hl] | simp (disch := omega) only [Rw_at, getL_at] | intro hx_ | omega)
   exact Fin.same h
  ·rw [if_neg g] at h
   rw [decide_eq_false g]
   simp only [Option.getD_none, Option.isSome_none] at h
   repeat' (first | with_reducible refine And.intro ?_ ?_ | simp only [go_sem,seval] | simp (disch := omega) only [Rw_at, getL_at] | intro hx_ | omega)
   exact Fin.same h
 ·rw [dif_neg hl] at h ⊢
  simp only [Option.getD_none, Option.isSome_none] at h
  repeat' (first | with_reducible refine And.intro ?_ ?_ | simp only [go_sem,seval] | simp (disch := omega) only [Rw_at, getL_at] | intro hx_ | omega)
  exact Fin.same h
end Go.Proofs.YtacekpdodelnbaaGreatDoor
end
section
set_option maxRecDepth 20000
namespace Go.Lin
open Go Go.Av
theorem putB_up {H : Heap} {sz : Nat} {es : List (List D)} {ob : Option Nat} (h : ∀ b, ob = some b → H b = none) : H.Le (putB H sz es ob) := by
 cases ob with
 | none => exact Heap.Le.refl H
 | some b => exact heap_le_set (h b rfl)
theorem any_not {α : Type} (p : α → Bool) : ∀ l : List α, (!l.any fun x => !p x) = l.all p
 | [] => rfl
 | x :: l => by rw [List.any_cons, List.all_cons, ← any_not p l]; cases p x <;> simp
def chT (l : List Row) (k : Nat) : Ch := (List.range k).foldl (chooseA l) ⟨none, false, 0⟩
@[go_sem] theorem chT_z0 (l : List Row) : optI (chT l 0).best = -1 := rfl
@[go_sem] theorem chT_z1 (l : List Row) : (chT l 0).sure = false := rfl
@[go_sem] theorem chT_z2 (l : List Row) : (chT l 0).cost = 0 := rfl
theorem chT_succ (l : List Row) (k : Nat) : chT l (k + 1) = chooseA l (chT l k) k := by simp [chT, List.range_succ, List.foldl_append]
end Go.Lin
namespace Go.Proofs.YtacekpdodelnbaaGreatDoor
open Go Go.Av Go.Lin
attribute [local irreducible] ACalls at8
theorem unit1_a {Q} (r : Row) (k b : Nat) (hk : k < r.c.length) (H : Heap) (hb : H b = some (.box [.int .i64 (k : Int)])) (h : Q (.bool (!((getI r.c k).natAbs == 1))) H) : ACalls Tryz.prog 218 [.agg (rowC r), .box b 0] H Q := by
 refine acalls_of_wp [] Tryz.mixed Tryz.func218 rfl (by kernel_rfl) (of_decide_eq_true (by kernel_rfl)) (by kernel_rfl) ?_
 simp only [go_sem,seval, Tryz.results218]
 intro b2 hb2
 have e2 : (H.set b2 (.box (rowC r))) b2 = some (.box (rowC r)) := heap_same _ _
 have e1 : (H.set b2 (.box (rowC r))) b = some (.box [.int .i64 (k : Int)]) := (heap_le_set hb2) _ _ hb
 have hle : H.Le (H.set b2 (.box (rowC r))) := heap_le_set hb2
 generalize H.set b2 (.box (rowC r)) = Bs at e1 e2 hle ⊢
 have hki : (k : Int) < r.c.length := by omega
 rw [getI_at _ _ hk] at h
 have e : (!(r.c[k].natAbs == 1)) = (!decide (r.c[k].natAbs = 1)) := by by_cases g : r.c[k].natAbs = 1 <;> simp [g]
 rw [e] at h
 repeat' (first | with_reducible refine And.intro ?_ ?_ | simp only [go_sem,seval, e1, e2, hki, Rw_at _ _ hk, Rw_get _ _ hk] | simp (disch := omega) only [Rw_at, getI_at] | intro hx_ | with_reducible refine one_a _ _ ?_ | omega)
 exact Fin.less hle h
theorem unit_a {Q} (l : List Row) (k : Nat) (hlen : l.length ≤ 1000000) (hk : ∀ r ∈ l, k < r.c.length) (H : Heap) (h : Q (.bool (unitR l k)) H) : ACalls Tryz.prog 185 [.sl 4 (Rw rowC l), .int .i64 (k : Int)] H Q := by
 refine acalls_of_wp [] Tryz.mixed Tryz.func185 rfl (by kernel_rfl) (of_decide_eq_true (by kernel_rfl)) (by kernel_rfl) ?_
 simp only [go_sem,seval, Tryz.results185]
 intro b3 hb3
 have e3 : (H.set b3 (.box [.int .i64 (k : Int)])) b3 = some (.box [.int .i64 (k : Int)]) := heap_same _ _
 unfold unitR at h
 rw [← any_not] at h
 have hf : ∀ a ∈ l, ∀ (Q : D → Heap → Prop), Q (.bool (!((getI a.c k).natAbs == 1))) (H.set b3 (.box [.int .i64 (k : Int)])) → ACalls Tryz.prog 218 ([] ++ [.agg (rowC a)] ++ [.box b3 0]) (H.set b3 (.box [.int .i64 (k : Int)])) Q := fun a ha Q hq => unit1_a a k b3 (hk a ha) _ e3 hq
 repeat' (first | with_reducible refine And.intro ?_ ?_ | simp only [go_sem,seval] | intro hx_ | omega)
 refine hasW_a (fun r => !((getI r.c k).natAbs == 1)) l (by omega) 218 [] [.box b3 0] _ hf ?_
 repeat' (first | with_reducible refine And.intro ?_ ?_ | simp only [go_sem,seval] | intro hx_ | omega)
 exact Fin.less (heap_le_set hb3) h
set_option maxHeartbeats 4000000 in
theorem choose_a {Q} (l : List Row) (n : Nat) (hl : l ≠ []) (hlen : l.length ≤ 1000000) (hw : ∀ r ∈ l, r.c.length = n) (hn : n ≤ 1000000) (H : Heap) (h : Q (.tuple [.int .i64 (optI (chooseR l).best), .bool (chooseR l).sure]) H) :
  ACalls Tryz.prog 138 [.sl 4 (Rw rowC l)] H Q := by
 refine acalls_of_wp [] Tryz.mixed Tryz.func138 rfl (by kernel_rfl) (of_decide_eq_true (by kernel_rfl)) (by kernel_rfl) ?_
 simp only [go_sem,seval, Tryz.results138]
 have h0 : 0 < l.length := List.length_pos_iff.2 hl
 have h0i : (0 : Int) < l.length := by omega
 have hl0 : l[0].c.length = n := hw _ (List.getElem_mem h0)
 have hr : chooseR l = chT l n := by
  unfold chooseR chT
  rw [show (l.headD default).c.length = n from by rw [← hl0]; cases l with | nil => exact absurd rfl hl | cons x l => rfl]
 rw [hr] at h
 repeat' (first | with_reducible refine And.intro ?_ ?_ | simp only [go_sem,seval, h0i, Rw_at _ _ h0, Rw_get _ _ h0, hl0] | simp (disch := omega) only [wrap64, Rw_at] | intro hx_ | omega)
 refine loop_c [0, 15] (fun (k : Nat) => [(16, .int .i64 k), (2, .int .i64 (optI (chT l k).best)), (3, .bool (chT l k).sure), (4, .int .i64 (chT l k).cost)]) (fun (k : Nat) => H) (fun (k : Nat) => k ≤ n) (fun (k : Nat) => n - k) (0) (Nat.zero_le _) (by (try simp only [go_sem,seval]) <;> (try simp (disch := omega) [wrap64]) <;> (try omega)) (by first | with_reducible exact Heap.Le.refl _ | exact heap_set_le (by assumption) | exact Heap.Le.refl _ | exact heap_le_set (by assumption) | exact (by simp only [Go.Av.Heap.Le, Go.Av.Heap.set, Go.Av.Heap.del] at * <;> grind)) ?_
 rintro Ec rfl k hk
 by_cases hlt : k < n
 ·have hkd : decide ((k : Int) < n) = true := decide_eq_true (by omega)
  repeat' (first | with_reducible refine And.intro ?_ ?_ | simp only [go_sem,seval, hkd] | simp (disch := omega) only [wrap64, Rw_at] | intro hx_ | omega)
  refine sides_a l k hlen (fun r hr => by rw [hw r hr]; exact hlt) _ fun ob _ hob => ?_
  have hle := putB_up (sz := 4) (es := Rw rowC (restR l k)) hob
  generalize putB H 4 (Rw rowC (restR l k)) ob = Hp at hle ⊢
  have m1 : (lowR l k).length ≤ 1000000 := Nat.le_trans (filt_len _) hlen
  have m2 : (highR l k).length ≤ 1000000 := Nat.le_trans (filt_len _) hlen
  obtain ⟨p, hp⟩ : ∃ p, p = (lowR l k).length := ⟨_, rfl⟩
  obtain ⟨q, hq⟩ : ∃ q, q = (highR l k).length := ⟨_, rfl⟩
  have hs := chT_succ l k
  unfold chooseA at hs
  simp only [← hp, ← hq] at hs
  have w1 : ∀ r ∈ lowR l k, k < r.c.length := fun r hr => by rw [hw r ((List.mem_filter.1 hr).1)]; exact hlt
  have w2 : ∀ r ∈ highR l k, k < r.c.length := fun r hr => by rw [hw r ((List.mem_filter.1 hr).1)]; exact hlt
  have m3 : (p : Int) * q ≤ 1000000000000 := by
   have : p * q ≤ 1000000 * 1000000 := Nat.mul_le_mul (by omega) (by omega)
   rw [← Int.natCast_mul]; omega
  have m4 : (0 : Int) ≤ (p : Int) * q := by rw [← Int.natCast_mul]; omega
  by_cases hz : p + q = 0
  ·have hzi : (p : Int) + q = 0 := by omega
   rw [if_pos hz] at hs
   repeat' (first | with_reducible refine And.intro ?_ ?_ | simp only [go_sem,seval, ← hp, ← hq, hzi] | simp (disch := omega) only [wrap64, Rw_at] | intro hx_ | omega)
   refine nx_mk (k + 1) (by omega) (by omega) (by (try simp only [go_sem,seval, hs]) <;> (try simp (disch := omega) [wrap64]) <;> (try omega)) hle
  ·have hzi : ¬ (p : Int) + q = 0 := by omega
   rw [if_neg hz] at hs
   obtain ⟨c, hc⟩ : ∃ c, c = (chT l k).cost := ⟨_, rfl⟩
   obtain ⟨m, hm⟩ : ∃ m, m = (p : Int) * q := ⟨_, rfl⟩
   rw [← hc, ← hm] at hs
   rw [← hm] at m3 m4
   have hu : unitR (lowR l k) k = true ∨ (unitR (lowR l k) k = false ∧ unitR (highR l k) k = true) ∨ (unitR (lowR l k) k = false ∧ unitR (highR l k) k = false) := by
    cases unitR (lowR l k) k <;> cases unitR (highR l k) k <;> simp
   have hbs : (chT l k).best = none ∨ ∃ j, (chT l k).best = some j := by cases (chT l k).best <;> simp
   rcases hu with hu1 | ⟨hu1, hu2⟩ | ⟨hu1, hu2⟩
   ·have hu2 : True := trivial
    rcases hbs with hb | ⟨j, hb⟩
    ·have hsu : True := trivial
     have hx : True := trivial
     have hs2 := hs
     simp [hu1, hu2, hb, hsu, hx] at hs2
     have o1 : ∀ j : Nat, ¬ (optI (some j) < 0) := fun j => by show ¬ ((j : Int) < 0); omega
     have o2 : optI none = -1 := rfl
     have o3 : optI (some k) = k := rfl
     repeat' (first | with_reducible refine And.intro ?_ ?_ | simp only [go_sem,seval, ← hp, ← hq, ← hc, ← hm, hzi, hu1, hu2, hb, hsu, hx, o1, o2, decide_true, decide_false] | simp (disch := omega) only [wrap64, Rw_at] | intro hx_ | with_reducible refine unit_a (lowR l k) k (by omega) w1 _ ?_ | with_reducible refine unit_a (highR l k) k (by omega) w2 _ ?_ | omega)
     refine nx_mk (k + 1) (by omega) (by omega) (by (try simp only [go_sem,seval, hs2, hb, hsu, o2, o3, ← hc]) <;> (try simp (disch := omega) [wrap64]) <;> (try omega)) hle
    ·cases hsu : (chT l k).sure
     ·have hx : True := trivial
      have hs2 := hs
      simp [hu1, hu2, hb, hsu, hx] at hs2
      have o1 : ∀ j : Nat, ¬ (optI (some j) < 0) := fun j => by show ¬ ((j : Int) < 0); omega
      have o2 : optI none = -1 := rfl
      have o3 : optI (some k) = k := rfl
      repeat' (first | with_reducible refine And.intro ?_ ?_ | simp only [go_sem,seval, ← hp, ← hq, ← hc, ← hm, hzi, hu1, hu2, hb, hsu, hx, o1, o2, decide_true, decide_false] | simp (disch := omega) only [wrap64, Rw_at] | intro hx_ | with_reducible refine unit_a (lowR l k) k (by omega) w1 _ ?_ | with_reducible refine unit_a (highR l k) k (by omega) w2 _ ?_ | omega)
      refine nx_mk (k + 1) (by omega) (by omega) (by (try simp only [go_sem,seval, hs2, hb, hsu, o2, o3, ← hc]) <;> (try simp (disch := omega) [wrap64]) <;> (try omega)) hle
     ·by_cases hx : m - p - q < c
      ·have hs2 := hs
       simp [hu1, hu2, hb, hsu, hx] at hs2
       have o1 : ∀ j : Nat, ¬ (optI (some j) < 0) := fun j => by show ¬ ((j : Int) < 0); omega
       have o2 : optI none = -1 := rfl
       have o3 : optI (some k) = k := rfl
       repeat' (first | with_reducible refine And.intro ?_ ?_ | simp only [go_sem,seval, ← hp, ← hq, ← hc, ← hm, hzi, hu1, hu2, hb, hsu, hx, o1, o2, decide_true, decide_false] | simp (disch := omega) only [wrap64, Rw_at] | intro hx_ | with_reducible refine unit_a (lowR l k) k (by omega) w1 _ ?_ | with_reducible refine unit_a (highR l k) k (by omega) w2 _ ?_ | omega)
       refine nx_mk (k + 1) (by omega) (by omega) (by (try simp only [go_sem,seval, hs2, hb, hsu, o2, o3, ← hc]) <;> (try simp (disch := omega) [wrap64]) <;> (try omega)) hle
      ·have hs2 := hs
       simp [hu1, hu2, hb, hsu, hx] at hs2
       have o1 : ∀ j : Nat, ¬ (optI (some j) < 0) := fun j => by show ¬ ((j : Int) < 0); omega
       have o2 : optI none = -1 := rfl
       have o3 : optI (some k) = k := rfl
       repeat' (first | with_reducible refine And.intro ?_ ?_ | simp only [go_sem,seval, ← hp, ← hq, ← hc, ← hm, hzi, hu1, hu2, hb, hsu, hx, o1, o2, decide_true, decide_false] | simp (disch := omega) only [wrap64, Rw_at] | intro hx_ | with_reducible refine unit_a (lowR l k) k (by omega) w1 _ ?_ | with_reducible refine unit_a (highR l k) k (by omega) w2 _ ?_ | omega)
       refine nx_mk (k + 1) (by omega) (by omega) (by (try simp only [go_sem,seval, hs2, hb, hsu, o2, o3, ← hc]) <;> (try simp (disch := omega) [wrap64]) <;> (try omega)) hle
   ·rcases hbs with hb | ⟨j, hb⟩
    ·have hsu : True := trivial
     have hx : True := trivial
     have hs2 := hs
     simp [hu1, hu2, hb, hsu, hx] at hs2
     have o1 : ∀ j : Nat, ¬ (optI (some j) < 0) := fun j => by show ¬ ((j : Int) < 0); omega
     have o2 : optI none = -1 := rfl
     have o3 : optI (some k) = k := rfl
     repeat' (first | with_reducible refine And.intro ?_ ?_ | simp only [go_sem,seval, ← hp, ← hq, ← hc, ← hm, hzi, hu1, hu2, hb, hsu, hx, o1, o2, decide_true, decide_false] | simp (disch := omega) only [wrap64, Rw_at] | intro hx_ | with_reducible refine unit_a (lowR l k) k (by omega) w1 _ ?_ | with_reducible refine unit_a (highR l k) k (by omega) w2 _ ?_ | omega)
     refine nx_mk (k + 1) (by omega) (by omega) (by (try simp only [go_sem,seval, hs2, hb, hsu, o2, o3, ← hc]) <;> (try simp (disch := omega) [wrap64]) <;> (try omega)) hle
    ·cases hsu : (chT l k).sure
     ·have hx : True := trivial
      have hs2 := hs
      simp [hu1, hu2, hb, hsu, hx] at hs2
      have o1 : ∀ j : Nat, ¬ (optI (some j) < 0) := fun j => by show ¬ ((j : Int) < 0); omega
      have o2 : optI none = -1 := rfl
      have o3 : optI (some k) = k := rfl
      repeat' (first | with_reducible refine And.intro ?_ ?_ | simp only [go_sem,seval, ← hp, ← hq, ← hc, ← hm, hzi, hu1, hu2, hb, hsu, hx, o1, o2, decide_true, decide_false] | simp (disch := omega) only [wrap64, Rw_at] | intro hx_ | with_reducible refine unit_a (lowR l k) k (by omega) w1 _ ?_ | with_reducible refine unit_a (highR l k) k (by omega) w2 _ ?_ | omega)
      refine nx_mk (k + 1) (by omega) (by omega) (by (try simp only [go_sem,seval, hs2, hb, hsu, o2, o3, ← hc]) <;> (try simp (disch := omega) [wrap64]) <;> (try omega)) hle
     ·by_cases hx : m - p - q < c
      ·have hs2 := hs
       simp [hu1, hu2, hb, hsu, hx] at hs2
       have o1 : ∀ j : Nat, ¬ (optI (some j) < 0) := fun j => by show ¬ ((j : Int) < 0); omega
       have o2 : optI none = -1 := rfl
       have o3 : optI (some k) = k := rfl
       repeat' (first | with_reducible refine And.intro ?_ ?_ | simp only [go_sem,seval, ← hp, ← hq, ← hc, ← hm, hzi, hu1, hu2, hb, hsu, hx, o1, o2, decide_true, decide_false] | simp (disch := omega) only [wrap64, Rw_at] | intro hx_ | with_reducible refine unit_a (lowR l k) k (by omega) w1 _ ?_ | with_reducible refine unit_a (highR l k) k (by omega) w2 _ ?_ | omega)
       refine nx_mk (k + 1) (by omega) (by omega) (by (try simp only [go_sem,seval, hs2, hb, hsu, o2, o3, ← hc]) <;> (try simp (disch := omega) [wrap64]) <;> (try omega)) hle
      ·have hs2 := hs
       simp [hu1, hu2, hb, hsu, hx] at hs2
       have o1 : ∀ j : Nat, ¬ (optI (some j) < 0) := fun j => by show ¬ ((j : Int) < 0); omega
       have o2 : optI none = -1 := rfl
       have o3 : optI (some k) = k := rfl
       repeat' (first | with_reducible refine And.intro ?_ ?_ | simp only [go_sem,seval, ← hp, ← hq, ← hc, ← hm, hzi, hu1, hu2, hb, hsu, hx, o1, o2, decide_true, decide_false] | simp (disch := omega) only [wrap64, Rw_at] | intro hx_ | with_reducible refine unit_a (lowR l k) k (by omega) w1 _ ?_ | with_reducible refine unit_a (highR l k) k (by omega) w2 _ ?_ | omega)
       refine nx_mk (k + 1) (by omega) (by omega) (by (try simp only [go_sem,seval, hs2, hb, hsu, o2, o3, ← hc]) <;> (try simp (disch := omega) [wrap64]) <;> (try omega)) hle
   ·rcases hbs with hb | ⟨j, hb⟩
    ·have hsu : True := trivial
     have hx : True := trivial
     have hs2 := hs
     simp [hu1, hu2, hb, hsu, hx] at hs2
     have o1 : ∀ j : Nat, ¬ (optI (some j) < 0) := fun j => by show ¬ ((j : Int) < 0); omega
     have o2 : optI none = -1 := rfl
     have o3 : optI (some k) = k := rfl
     repeat' (first | with_reducible refine And.intro ?_ ?_ | simp only [go_sem,seval, ← hp, ← hq, ← hc, ← hm, hzi, hu1, hu2, hb, hsu, hx, o1, o2, decide_true, decide_false] | simp (disch := omega) only [wrap64, Rw_at] | intro hx_ | with_reducible refine unit_a (lowR l k) k (by omega) w1 _ ?_ | with_reducible refine unit_a (highR l k) k (by omega) w2 _ ?_ | omega)
     refine nx_mk (k + 1) (by omega) (by omega) (by (try simp only [go_sem,seval, hs2, hb, hsu, o2, o3, ← hc]) <;> (try simp (disch := omega) [wrap64]) <;> (try omega)) hle
    ·cases hsu : (chT l k).sure
     ·by_cases hx : m - p - q < c
      ·have hs2 := hs
       simp [hu1, hu2, hb, hsu, hx] at hs2
       have o1 : ∀ j : Nat, ¬ (optI (some j) < 0) := fun j => by show ¬ ((j : Int) < 0); omega
       have o2 : optI none = -1 := rfl
       have o3 : optI (some k) = k := rfl
       repeat' (first | with_reducible refine And.intro ?_ ?_ | simp only [go_sem,seval, ← hp, ← hq, ← hc, ← hm, hzi, hu1, hu2, hb, hsu, hx, o1, o2, decide_true, decide_false] | simp (disch := omega) only [wrap64, Rw_at] | intro hx_ | with_reducible refine unit_a (lowR l k) k (by omega) w1 _ ?_ | with_reducible refine unit_a (highR l k) k (by omega) w2 _ ?_ | omega)
       refine nx_mk (k + 1) (by omega) (by omega) (by (try simp only [go_sem,seval, hs2, hb, hsu, o2, o3, ← hc]) <;> (try simp (disch := omega) [wrap64]) <;> (try omega)) hle
      ·have hs2 := hs
       simp [hu1, hu2, hb, hsu, hx] at hs2
       have o1 : ∀ j : Nat, ¬ (optI (some j) < 0) := fun j => by show ¬ ((j : Int) < 0); omega
       have o2 : optI none = -1 := rfl
       have o3 : optI (some k) = k := rfl
       repeat' (first | with_reducible refine And.intro ?_ ?_ | simp only [go_sem,seval, ← hp, ← hq, ← hc, ← hm, hzi, hu1, hu2, hb, hsu, hx, o1, o2, decide_true, decide_false] | simp (disch := omega) only [wrap64, Rw_at] | intro hx_ | with_reducible refine unit_a (lowR l k) k (by omega) w1 _ ?_ | with_reducible refine unit_a (highR l k) k (by omega) w2 _ ?_ | omega)
       refine nx_mk (k + 1) (by omega) (by omega) (by (try simp only [go_sem,seval, hs2, hb, hsu, o2, o3, ← hc]) <;> (try simp (disch := omega) [wrap64]) <;> (try omega)) hle
     ·have hx : True := trivial
      have hs2 := hs
      simp [hu1, hu2, hb, hsu, hx] at hs2
      have o1 : ∀ j : Nat, ¬ (optI (some j) < 0) := fun j => by show ¬ ((j : Int) < 0); omega
      have o2 : optI none = -1 := rfl
      have o3 : optI (some k) = k := rfl
      repeat' (first | with_reducible refine And.intro ?_ ?_ | simp only [go_sem,seval, ← hp, ← hq, ← hc, ← hm, hzi, hu1, hu2, hb, hsu, hx, o1, o2, decide_true, decide_false] | simp (disch := omega) only [wrap64, Rw_at] | intro hx_ | with_reducible refine unit_a (lowR l k) k (by omega) w1 _ ?_ | with_reducible refine unit_a (highR l k) k (by omega) w2 _ ?_ | omega)
      refine nx_mk (k + 1) (by omega) (by omega) (by (try simp only [go_sem,seval, hs2, hb, hsu, o2, o3, ← hc]) <;> (try simp (disch := omega) [wrap64]) <;> (try omega)) hle
 ·have hkd : decide ((k : Int) < n) = false := decide_eq_false (by omega)
  have hkn : k = n := by omega
  subst hkn
  repeat' (first | with_reducible refine And.intro ?_ ?_ | simp only [go_sem,seval, hkd] | simp (disch := omega) only [wrap64, Rw_at] | intro hx_ | omega)
  exact Fin.same h
end Go.Proofs.YtacekpdodelnbaaGreatDoor
end
section
set_option maxRecDepth 20000
namespace Go.Lin
open Go Go.Av Go.Lexs
theorem totalL_step (k : Int) (l : List LTm) (vs : List VlV) (i : Nat) (h : i < l.length) : totalL k (l.drop i) vs = match getL vs l[i].v with | none => none | some n => totalL (k + l[i].c * n) (l.drop (i + 1)) vs := by
 rw [List.drop_eq_getElem_cons h, totalL]; rfl
theorem getL_abs {vs : List VlV} (hv : valuesL vs = true) {s : ByteArray} {n : Int} (h : getL vs s = some n) : n.natAbs ≤ 2147483647 := by
 have key : ∀ (m : List VlV), (∀ (i : Nat) (hi : i < m.length), m[i].n.natAbs ≤ 2147483647) → getL m s = some n → n.natAbs ≤ 2147483647 := by
  intro m
  induction m with
  | nil => intro _ h; cases h
  | cons x m ih =>
   intro hm h
   rw [getL] at h
   split at h
   ·cases h; exact hm 0 (by simp)
   ·exact ih (fun i hi => hm (i + 1) (by simpa using hi)) h
 exact key vs (fun i hi => (okV_get hv hi).2.1) h
structure VaOk (a : LinV) : Prop where
 len : a.t.length ≤ 12
 k : a.k.natAbs ≤ 1099511627776
 t : termsOk a.t = true
theorem valid_ok {a : LinV} (h : validL a = true) : VaOk a := by
 unfold validL within at h
 simp only [Bool.and_eq_true, decide_eq_true_eq] at h
 exact ⟨h.1.2, by omega, h.1.1⟩
theorem prod_abs {a b : Int} (ha : a.natAbs ≤ 1048576) (hb : b.natAbs ≤ 2147483647) : (a * b).natAbs ≤ 2251799812636672 := by
 rw [Int.natAbs_mul]
 exact Nat.le_trans (Nat.mul_le_mul ha hb) (by decide)
end Go.Lin
namespace Go.Proofs.YtacekpdodelnbaaGreatDoor
open Go Go.Av Go.Lexs Go.Lin
attribute [local irreducible] ACalls at8
theorem total_a {Q} (a : LinV) (ha : validL a = true) (vs : List VlV) (hv : valuesL vs = true) (hlen : vs.length ≤ 1000000000000000) (H : Heap) (h : Q (.tuple [.int .i64 ((totalL a.k a.t vs).getD 0), .bool (totalL a.k a.t vs).isSome]) H) : ACalls Tryz.prog 70 [.agg (linC a), .sl 2 (Rw vlC vs)] H Q := by
 refine acalls_of_wp [] Tryz.mixed Tryz.func70 rfl (by kernel_rfl) (of_decide_eq_true (by kernel_rfl)) (by kernel_rfl) ?_
 simp only [go_sem,seval, Tryz.results70]
 have ok := valid_ok ha
 intro b1 hb1
 have e1 : (H.set b1 (.box (linC a))) b1 = some (.box (linC a)) := heap_same _ _
 have hle : H.Le (H.set b1 (.box (linC a))) := heap_le_set hb1
 generalize H.set b1 (.box (linC a)) = Bs at e1 hle ⊢
 have okl := ok.len
 have okk := ok.k
 repeat' (first | with_reducible refine And.intro ?_ ?_ | simp only [go_sem,seval, e1] | simp (disch := omega) only [wrap64, Rw_at] | intro hx_ | omega)
 refine loop_c [1, 14, 15] (fun (p : Nat × Int) => [(16, .int .i64 p.1), (6, .int .i64 p.2)]) (fun (p : Nat × Int) => H) (fun (p : Nat × Int) => p.1 ≤ a.t.length ∧ totalL a.k a.t vs = totalL p.2 (a.t.drop p.1) vs ∧ p.2.natAbs ≤ 1099511627776 + p.1 * 2251799812636672) (fun (p : Nat × Int) => a.t.length - p.1) ((0, a.k)) (⟨Nat.zero_le _, rfl, by simpa using okk⟩) (by (try simp only [go_sem,seval]) <;> (try simp (disch := omega) [wrap64]) <;> (try omega)) (by first | with_reducible exact Heap.Le.refl _ | exact heap_set_le (by assumption) | exact Heap.Le.refl _ | exact heap_le_set (by assumption) | exact (by simp only [Go.Av.Heap.Le, Go.Av.Heap.set, Go.Av.Heap.del] at * <;> grind)) ?_
 rintro Ec rfl ⟨i, s⟩ ⟨hi, hT, hs⟩
 simp only at hi hT hs
 by_cases hlt : i < a.t.length
 ·have hkd : decide ((i : Int) < a.t.length) = true := decide_eq_true (by omega)
  have hti : (i : Int) < a.t.length := by omega
  have ot := okAt_get ok.t hlt
  rw [totalL_step _ _ _ _ hlt] at hT
  cases hg : getL vs a.t[i].v with
  | none =>
   rw [hg] at hT
   have hT : totalL a.k a.t vs = none := hT
   rw [hT] at h
   simp only [Option.getD_none, Option.isSome_none] at h
   have gc : ∀ (H : Heap) (Q : D → Heap → Prop), Q (.tuple [.int .i64 0, .bool false]) H → ACalls Tryz.prog 104 [.sl 2 (Rw vlC vs), .str a.t[i].v] H Q := fun H Q hq => get_a vs hv _ hlen H (by rw [hg]; exact hq)
   repeat' (first | with_reducible refine And.intro ?_ ?_ | simp only [go_sem,seval, hkd, hti, Rw_at _ _ hlt, Rw_get _ _ hlt] | simp (disch := omega) only [wrap64, Rw_at] | intro hx_ | with_reducible refine gc _ _ ?_ | omega)
   exact Fin.less (by simp only [Go.Av.Heap.Le, Go.Av.Heap.set, Go.Av.Heap.del] at * <;> grind) h
  | some n =>
   rw [hg] at hT
   have hT : totalL a.k a.t vs = totalL (s + a.t[i].c * n) (a.t.drop (i + 1)) vs := hT
   have hn := getL_abs hv hg
   have hp := prod_abs ot.2.2.1 hn
   have gc : ∀ (H : Heap) (Q : D → Heap → Prop), Q (.tuple [.int .i64 n, .bool true]) H → ACalls Tryz.prog 104 [.sl 2 (Rw vlC vs), .str a.t[i].v] H Q := fun H Q hq => get_a vs hv _ hlen H (by rw [hg]; exact hq)
   obtain ⟨z, hz⟩ : ∃ z, z = a.t[i].c * n := ⟨_, rfl⟩
   rw [← hz] at hT hp
   repeat' (first | with_reducible refine And.intro ?_ ?_ | simp only [go_sem,seval, hkd, hti, Rw_at _ _ hlt, Rw_get _ _ hlt, ← hz] | simp (disch := omega) only [wrap64, Rw_at] | intro hx_ | with_reducible refine gc _ _ ?_ | omega)
   refine nx_mk (i + 1, s + z) ⟨by simp only []; omega, hT, by simp only []; omega⟩ (by simp only []; omega) (by (try simp only [go_sem,seval]) <;> (try simp (disch := omega) [wrap64]) <;> (try omega)) (by simp only [Go.Av.Heap.Le, Go.Av.Heap.set, Go.Av.Heap.del] at * <;> grind)
 ·have hkd : decide ((i : Int) < a.t.length) = false := decide_eq_false (by omega)
  rw [List.drop_eq_nil_of_le (by omega), totalL] at hT
  rw [hT] at h
  simp only [Option.getD_some, Option.isSome_some] at h
  repeat' (first | with_reducible refine And.intro ?_ ?_ | simp only [go_sem,seval, hkd] | simp (disch := omega) only [wrap64, Rw_at] | intro hx_ | omega)
  exact Fin.same h
theorem at_a {Q} (a : LinV) (fa : LinFit a) (vs : List VlV) (fv : VlFit vs) (H : Heap) (h : Q (.tuple [.bool (atR a vs).1, .int .i64 (atR a vs).2]) H) : ACalls Tryz.prog 28 [.agg (linC a), .sl 2 (Rw vlC vs)] H Q := by
 refine acalls_of_wp [] Tryz.mixed Tryz.func28 rfl (by kernel_rfl) (of_decide_eq_true (by kernel_rfl)) (by kernel_rfl) ?_
 simp only [go_sem,seval, Tryz.results28]
 intro b1 hb1
 have e1 : (H.set b1 (.box (linC a))) b1 = some (.box (linC a)) := heap_same _ _
 have hle : H.Le (H.set b1 (.box (linC a))) := heap_le_set hb1
 generalize H.set b1 (.box (linC a)) = Bs at e1 hle ⊢
 have hvl := fv.len
 unfold atR at h
 cases ha : validL a with
 | false =>
  rw [ha] at h
  simp only [Bool.false_eq_true, false_and, if_false] at h
  repeat' (first | with_reducible refine And.intro ?_ ?_ | simp only [go_sem,seval, e1, ha] | intro hx_ | with_reducible refine valid_a a fa _ ?_ | omega)
  exact Fin.less hle h
 | true =>
  cases hv : valuesL vs with
  | false =>
   rw [ha, hv] at h
   simp only [Bool.false_eq_true, and_false, if_false] at h
   repeat' (first | with_reducible refine And.intro ?_ ?_ | simp only [go_sem,seval, e1, ha, hv] | intro hx_ | with_reducible refine valid_a a fa _ ?_ | with_reducible refine values_a vs fv _ ?_ | omega)
   exact Fin.less hle h
  | true =>
   rw [ha, hv] at h
   simp only [and_self, if_true] at h
   cases ht : totalL a.k a.t vs with
   | none =>
    rw [ht] at h
    have tc : ∀ (H : Heap) (Q : D → Heap → Prop), Q (.tuple [.int .i64 0, .bool false]) H → ACalls Tryz.prog 70 [.agg (linC a), .sl 2 (Rw vlC vs)] H Q := fun H Q hq => total_a a ha vs hv (by omega) H (by rw [ht]; exact hq)
    repeat' (first | with_reducible refine And.intro ?_ ?_ | simp only [go_sem,seval, e1, ha, hv] | intro hx_ | with_reducible refine valid_a a fa _ ?_ | with_reducible refine values_a vs fv _ ?_ | with_reducible refine tc _ _ ?_ | omega)
    exact Fin.less hle h
   | some n =>
    rw [ht] at h
    have tc : ∀ (H : Heap) (Q : D → Heap → Prop), Q (.tuple [.int .i64 n, .bool true]) H → ACalls Tryz.prog 70 [.agg (linC a), .sl 2 (Rw vlC vs)] H Q := fun H Q hq => total_a a ha vs hv (by omega) H (by rw [ht]; exact hq)
    simp only [holdsL] at h
    rcases Int.lt_trichotomy n 0 with g | g | g
    ·have g1 : ¬ n = 0 := by omega
     have g2 : ¬ 0 < n := by omega
     rw [decide_eq_false g1, decide_eq_false g2] at h
     repeat' (first | with_reducible refine And.intro ?_ ?_ | simp only [go_sem,seval, e1, ha, hv, g1, g2, decide_false] | intro hx_ | with_reducible refine valid_a a fa _ ?_ | with_reducible refine values_a vs fv _ ?_ | with_reducible refine tc _ _ ?_ | omega)
     exact Fin.less hle h
    ·rw [decide_eq_true g] at h
     subst g
     repeat' (first | with_reducible refine And.intro ?_ ?_ | simp only [go_sem,seval, e1, ha, hv] | intro hx_ | with_reducible refine valid_a a fa _ ?_ | with_reducible refine values_a vs fv _ ?_ | with_reducible refine tc _ _ ?_ | omega)
     exact Fin.less hle h
    ·have g1 : ¬ n = 0 := by omega
     rw [decide_eq_false g1, decide_eq_true g] at h
     repeat' (first | with_reducible refine And.intro ?_ ?_ | simp only [go_sem,seval, e1, ha, hv, g1, g, decide_false, decide_true] | intro hx_ | with_reducible refine valid_a a fa _ ?_ | with_reducible refine values_a vs fv _ ?_ | with_reducible refine tc _ _ ?_ | omega)
     exact Fin.less hle h
theorem allC_a {Q} (a : LinV) (fa : LinFit a) (H : Heap) (h : Q (.bool (!validL a)) H) : ACalls Tryz.prog 53 [.agg (linC a)] H Q := by
 refine acalls_of_wp [] Tryz.mixed Tryz.func53 rfl (by kernel_rfl) (of_decide_eq_true (by kernel_rfl)) (by kernel_rfl) ?_
 simp only [go_sem,seval, Tryz.results53]
 repeat' (first | with_reducible refine And.intro ?_ ?_ | simp only [go_sem,seval] | intro hx_ | with_reducible refine valid_a a fa _ ?_ | omega)
 exact Fin.less (by simp only [Go.Av.Heap.Le, Go.Av.Heap.set, Go.Av.Heap.del] at * <;> grind) h
theorem all_a {Q} (l : List LinV) (hlen : l.length ≤ 1000000000) (fl : ∀ c ∈ l, LinFit c) (H : Heap) (h : Q (.bool (allL l)) H) : ACalls Tryz.prog 17 [.sl 3 (Rw linC l)] H Q := by
 refine acalls_of_wp [] Tryz.mixed Tryz.func17 rfl (by kernel_rfl) (of_decide_eq_true (by kernel_rfl)) (by kernel_rfl) ?_
 simp only [go_sem,seval, Tryz.results17]
 unfold allL at h
 by_cases h1 : l.length ≤ 60
 ·have g1 : ¬ (60 : Int) < l.length := by omega
  rw [decide_eq_true h1] at h
  have hc : ∀ (H : Heap) (Q : D → Heap → Prop), Q (.bool (!l.all validL)) H → ACalls Tryz.prog 52 [.sl 3 (Rw linC l), .fn (.func 53) [] []] H Q := fun H Q hq => hasA_a (fun c => !validL c) l (by omega) _ [] [] H (fun a ha Q hq => allC_a a (fl a ha) H hq) (by
   have : (l.any fun c => !validL c) = !l.all validL := by rw [← any_not validL l, Bool.not_not]
   rw [this]; exact hq)
  cases hv : l.all validL with
  | false =>
   rw [hv] at h
   simp only [Bool.true_and, Bool.false_and] at h
   repeat' (first | with_reducible refine And.intro ?_ ?_ | simp only [go_sem,seval, g1, hv] | intro hx_ | with_reducible refine hc _ _ ?_ | omega)
   exact Fin.same h
  | true =>
   rw [hv] at h
   simp only [Bool.true_and] at h
   have hval : ∀ c ∈ l, validL c = true := fun c hx => List.all_eq_true.1 hv c hx
   have hnl : (namesL l).length ≤ 12 * l.length := by
    have key : ∀ (m : List LinV), (∀ c ∈ m, validL c = true) → (namesL m).length ≤ 12 * m.length := by
     intro m
     induction m with
     | nil => intro _; simp [namesL]
     | cons c m ih =>
      intro hm
      have i1 := ih (fun x hx => hm x (List.mem_cons_of_mem _ hx))
      have i2 := (valid_ok (hm c (List.mem_cons_self ..))).len
      unfold namesL at i1 ⊢
      rw [List.flatMap_cons, List.length_append, List.length_map, List.length_cons]
      omega
    exact key l hval
   have hst : ∀ s ∈ namesL l, s.size ≤ 4611686018427387904 := fun s hs => by
    unfold namesL at hs
    obtain ⟨c, hc, hs⟩ := List.mem_flatMap.1 hs
    obtain ⟨t, ht, rfl⟩ := List.mem_map.1 hs
    have := (fl c hc).str t ht
    omega
   have e12 : decide ((varsL l).length ≤ 12) = decide (((varsL l).length : Int) ≤ 12) := decide_eq_decide.2 (by omega)
   rw [e12] at h
   repeat' (first | with_reducible refine And.intro ?_ ?_ | simp only [go_sem,seval, g1, hv] | intro hx_ | with_reducible refine hc _ _ ?_ | with_reducible refine vars_a l hlen (by omega) hst (fun c hx => by have := (valid_ok (hval c hx)).len; omega) _ ?_ | omega)
   exact Fin.same h
 ·have g1 : (60 : Int) < l.length := by omega
  rw [decide_eq_false h1] at h
  simp only [Bool.false_and] at h
  repeat' (first | with_reducible refine And.intro ?_ ?_ | simp only [go_sem,seval, g1] | intro hx_ | omega)
  exact Fin.same h
end Go.Proofs.YtacekpdodelnbaaGreatDoor
end
section
namespace Go.Lin
open Go Go.Av Go.Proofs.YtacekpdodelnbaaGreatDoor
abbrev RowP (n m : Nat) (r : Row) : Prop := r.c.length = n ∧ RowS r m
abbrev hit (r s : Row) : Prop := r.eq = false ∧ s.eq = false ∧ oppR r s 1 = true
theorem putR_cons (r s : Row) (l : List Row) : putR r (s :: l) = if hit r s then (if r.k < s.k then { s with k := r.k } else s) :: l else s :: putR r l := rfl
theorem putR_hit (r : Row) : ∀ (l : List Row) (j : Nat) (hj : j < l.length), (∀ (k : Nat) (hk : k < l.length), k < j → ¬ hit r l[k]) → hit r l[j] → putR r l = if r.k < l[j].k then l.set j { l[j] with k := r.k } else l
 | [], j, hj, _, _ => by simp at hj
 | s :: l, 0, hj, _, h => by
  simp only [List.getElem_cons_zero] at h ⊢
  rw [putR_cons, if_pos h]
  split <;> rfl
 | s :: l, j + 1, hj, h1, h => by
  have h0 := h1 0 (by simp) (by omega)
  simp only [List.getElem_cons_zero] at h0
  simp only [List.getElem_cons_succ] at h ⊢
  rw [putR_cons, if_neg h0, putR_hit r l j (by simpa using hj) (fun k hk hkj => by have := h1 (k + 1) (by simpa using hk) (by omega); simpa using this) h]
  split <;> rfl
theorem putR_miss (r : Row) : ∀ (l : List Row), (∀ (k : Nat) (hk : k < l.length), ¬ hit r l[k]) → putR r l = l ++ [r]
 | [], _ => rfl
 | s :: l, h1 => by
  have h0 := h1 0 (by simp)
  simp only [List.getElem_cons_zero] at h0
  rw [putR_cons, if_neg h0, putR_miss r l (fun k hk => by have := h1 (k + 1) (by simpa using hk); simpa using this)]; rfl
theorem putR_P {n m : Nat} (r : Row) (hr : RowP n m r) : ∀ (l : List Row), (∀ s ∈ l, RowP n m s) → ∀ s ∈ putR r l, RowP n m s
 | [], _, s, hs => by simp [putR] at hs; subst hs; exact hr
 | x :: l, h, s, hs => by
  have hx := h x (List.mem_cons_self ..)
  rw [putR_cons] at hs
  split at hs
  ·rcases List.mem_cons.1 hs with rfl | hs
   ·split
    ·exact ⟨hx.1, hr.2.1, hx.2.2⟩
    ·exact hx
   ·exact h s (List.mem_cons_of_mem _ hs)
  ·rcases List.mem_cons.1 hs with rfl | hs
   ·exact hx
   ·exact putR_P r hr l (fun y hy => h y (List.mem_cons_of_mem _ hy)) s hs
theorem putR_len (r : Row) : ∀ l, (putR r l).length ≤ l.length + 1
 | [] => by simp [putR]
 | x :: l => by rw [putR_cons]; have := putR_len r l; split <;> simp <;> omega
theorem pairs1_succ (l : List Row) (i : Nat) (h : i < l.length) : pairs1 (l.take (i + 1)) = putR l[i] (pairs1 (l.take i)) := by
 unfold pairs1
 rw [List.take_succ_eq_append_getElem h, List.foldl_append]; rfl
theorem pairs1_P {n m : Nat} : ∀ (l acc : List Row), (∀ s ∈ l, RowP n m s) → (∀ s ∈ acc, RowP n m s) → ∀ s ∈ l.foldl (fun out r => putR r out) acc, RowP n m s
 | [], _, _, h => h
 | r :: l, acc, h1, h2 => pairs1_P l _ (fun s hs => h1 s (List.mem_cons_of_mem _ hs)) (putR_P r (h1 r (List.mem_cons_self ..)) acc h2)
theorem pairs1_len : ∀ (l acc : List Row), (l.foldl (fun out r => putR r out) acc).length ≤ acc.length + l.length
 | [], _ => by simp
 | r :: l, acc => by have := pairs1_len l (putR r acc); have := putR_len r acc; simp only [List.foldl_cons, List.length_cons]; omega
theorem meet_cons (r s : Row) (l : List Row) : meet r (s :: l) = if r.eq = true ∨ s.eq = true ∨ oppR r s (-1) = false then meet r l
  else if r.k + s.k < 0 then none else if r.k + s.k = 0 then meet { r with eq := true } l else meet r l := rfl
theorem pairs2_cons (done : List Row) (r : Row) (l : List Row) : pairs2 done (r :: l) = match meet r done with | none => none | some r' => pairs2 (done ++ [r']) l := rfl
def resD : Option (List Row) → D
 | none => .tuple [.sl 4 [], .bool false]
 | some l => .tuple [.sl 4 (Rw rowC l), .bool true]
end Go.Lin
end
section
namespace Go.Av
theorem O3.putle {H Hp : Heap} {sz : Nat} {e1 e2 e3 : List (List D)} {o1 o2 o3 : Option Nat} (h : O3 H Hp sz e1 e2 e3 o1 o2 o3) : (putB H sz e1 o1).Le Hp := by
 cases o1 with
 | none => exact h.le
 | some b =>
  intro k o hk
  have hk : (H.set b (.vec sz e1)) k = some o := hk
  by_cases e : k = b
  ·subst e; rw [heap_same] at hk; cases hk; exact h.a1
  ·rw [heap_ne _ e] at hk; exact h.le _ _ hk
theorem O3.base {H H2 Hp Hc : Heap} {sz : Nat} {e1 e2 e3 : List (List D)} {o1 o2 o3 : Option Nat} (h : O3 H Hp sz e1 e2 e3 o1 o2 o3) (h1 : H2.Le Hc) (h2 : Hp.Le Hc) (hn : ∀ b, Hp b ≠ none → H b = none → H2 b = none) : O3 H2 Hc sz e1 e2 e3 o1 o2 o3 := by
 have key : ∀ {e : List (List D)} {o : Option Nat}, OutAt Hp sz e o → (∀ b, o = some b → H b = none) → ∀ b, o = some b → H2 b = none := fun {e o} ha hh b g => hn b (by rw [ha.some_of g]; simp) (hh b g)
 exact ⟨h1, h.a1.up h2, h.a2.up h2, h.a3.up h2, key h.a1 h.n1, key h.a2 h.n2, key h.a3 h.n3, h.d12, h.d13, h.d23⟩
end Go.Av
namespace Go.Lin
open Go Go.Av Go.Proofs.YtacekpdodelnbaaGreatDoor
def gcdT (c : List Int) (j : Nat) : Nat := gcdR (c.take j)
theorem gcdT_zero (c : List Int) : gcdT c 0 = 0 := rfl
theorem gcdT_succ (c : List Int) (j : Nat) (h : j < c.length) : gcdT c (j + 1) = Nat.gcd c[j].natAbs (gcdT c j) := by
 unfold gcdT gcdR
 rw [List.take_succ_eq_append_getElem h, List.foldl_append]; rfl
theorem gcdT_all (c : List Int) : gcdT c c.length = gcdR c := by unfold gcdT; rw [List.take_length]
theorem gcdT_le (c : List Int) (m : Nat) (hm : ∀ x ∈ c, x.natAbs ≤ m) : ∀ j, j ≤ c.length → gcdT c j ≤ m
 | 0, _ => by rw [gcdT_zero]; omega
 | j + 1, h => by
  have ih := gcdT_le c m hm j (by omega)
  rw [gcdT_succ c j (by omega)]
  by_cases h0 : gcdT c j = 0
  ·rw [h0, Nat.gcd_zero_right]; exact hm _ (List.getElem_mem _)
  ·exact Nat.le_trans (Nat.gcd_le_right _ (by omega)) ih
def gB (j : Nat) (g : Int) : List D := if j = 0 then [.bool false, .nilsl] else bigC g
theorem gB_succ (j : Nat) (g : Int) : gB (j + 1) g = bigC g := rfl
theorem gB_nil (c : List Int) (j : Nat) : NilR (.agg (gB j (gcdT c j : Nat))) (.agg (bigC (gcdT c j : Nat))) := by
 cases j with
 | zero => rw [gcdT_zero]; exact nil_big
 | succ j => exact .same _
def tidy1 (r : Row) : Option (List Row) :=
 let g := gcdR r.c
 if g = 0 then (if r.k < 0 ∨ (r.eq = true ∧ 0 < r.k) then none else some [])
 else if g = 1 then some [r]
 else
  let k := r.k.fdiv g
  if r.eq = true ∧ k * g - r.k ≠ 0 then none
  else some [⟨r.c.map (Int.fdiv · g), k, r.eq⟩]
theorem tidyA_cons (r : Row) (l : List Row) : tidyA (r :: l) = (tidy1 r).bind fun x => (tidyA l).map (x ++ ·) := by
 rw [tidyA]
 unfold tidy1
 simp only []
 split
 ·split
  ·rfl
  ·simp
 ·split
  ·rfl
  ·split
   ·rfl
   ·rfl
theorem tidy_step {l : List Row} {i : Nat} {D : List Row} (h : i < l.length) (hd : tidyA l = (tidyA (l.drop i)).map (D ++ ·)) : tidyA l = (tidy1 l[i]).bind fun x => (tidyA (l.drop (i + 1))).map ((D ++ x) ++ ·) := by
 rw [hd, List.drop_eq_getElem_cons h, tidyA_cons]
 cases tidy1 l[i] with
 | none => rfl
 | some x => cases tidyA (l.drop (i + 1)) <;> simp
theorem fdiv_absle (a : Int) (b : Nat) (hb : b ≠ 0) : (a.fdiv b).natAbs ≤ a.natAbs := by
 rw [Int.fdiv_eq_ediv_of_nonneg _ (by omega)]
 by_cases h : 0 ≤ a
 ·have h1 := Int.ediv_nonneg h (show (0 : Int) ≤ b by omega)
  have h2 := Int.ediv_le_self (b := (b : Int)) h
  omega
 ·have h1 : a / (b : Int) < 0 := Int.ediv_neg_of_neg_of_pos (by omega) (by omega)
  have h2 : a ≤ a / (b : Int) := by
   have := Int.ediv_mul_le a (show (b : Int) ≠ 0 by omega)
   have h3 := Int.mul_le_mul_of_nonpos_left (show a / (b : Int) ≤ 0 by omega) (show (1 : Int) ≤ b by omega)
   have h4 := Int.lt_ediv_add_one_mul_self a (show (0 : Int) < b by omega)
   refine Int.le_ediv_of_mul_le (by omega) ?_
   have := Int.mul_le_mul_of_nonpos_left (show a ≤ 0 by omega) (show (1 : Int) ≤ b by omega)
   omega
  omega
theorem tidy1_P {n m : Nat} {r : Row} {x : List Row} (hr : RowP n m r) (h : tidy1 r = some x) : (∀ s ∈ x, RowP n m s) ∧ x.length ≤ 1 := by
 unfold tidy1 at h
 simp only [] at h
 split at h
 ·split at h
  ·cases h
  ·cases h; simp
 ·rename_i g0
  split at h
  ·cases h; exact ⟨fun s hs => by simp at hs; subst hs; exact hr, by simp⟩
  ·split at h
   ·cases h
   ·cases h
    refine ⟨fun s hs => ?_, by simp⟩
    simp at hs
    subst hs
    refine ⟨by simp [hr.1], Nat.le_trans (fdiv_absle _ _ g0) hr.2.1, fun y hy => ?_⟩
    simp only [List.mem_map] at hy
    obtain ⟨z, hz, rfl⟩ := hy
    exact Nat.le_trans (fdiv_absle _ _ g0) (hr.2.2 z hz)
end Go.Lin
end
section
set_option maxRecDepth 20000
namespace Go.Lin
open Go Go.Av Go.Lexs
def zrV (names : List ByteArray) (a : LinV) : ZR := ⟨padT names a.t, rowV names a⟩
def zrB (n i : Nat) (s : Int) : ZR := ⟨(List.replicate n zB).set i (bigC s), ⟨unitC n i s, 2147483647, false⟩⟩
def zrR (names : List ByteArray) (l : List LinV) (m : Nat) : List ZR := l.map (zrV names) ++ (List.range m).flatMap fun i => [zrB names.length i 1, zrB names.length i (-1)]
theorem zrR_rows (names : List ByteArray) (l : List LinV) : (zrR names l names.length).map (·.r) = rowsV l names := by
 unfold zrR rowsV
 rw [List.map_append, List.map_map, List.map_flatMap]
 rfl
theorem zrR_ok (names : List ByteArray) (l : List LinV) (m : Nat) (hm : m ≤ names.length) : ∀ z ∈ zrR names l m, zOk z := fun z hz => by
 unfold zrR at hz
 rcases List.mem_append.1 hz with h | h
 ·obtain ⟨a, _, rfl⟩ := List.mem_map.1 h
  exact padT_nil names a.t
 ·obtain ⟨i, hi, h⟩ := List.mem_flatMap.1 h
  have hi2 := List.mem_range.1 hi
  rcases List.mem_cons.1 h with rfl | h
  ·exact unit_nil _ _ _ (by omega)
  ·simp at h; rw [h]; exact unit_nil _ _ _ (by omega)
end Go.Lin
namespace Go.Lin
open Go Go.Av Go.Lexs
def zrJ (names : List ByteArray) (l : List LinV) (i j : Nat) : List ZR := zrR names l i ++ ([zrB names.length i 1, zrB names.length i (-1)].take j)
theorem zrJ_zero (names : List ByteArray) (l : List LinV) (i : Nat) : zrJ names l i 0 = zrR names l i := by simp [zrJ]
theorem zrJ_two (names : List ByteArray) (l : List LinV) (i : Nat) : zrJ names l i 2 = zrR names l (i + 1) := by
 unfold zrJ zrR
 rw [List.range_succ, List.flatMap_append]
 simp
theorem zrJ_one (names : List ByteArray) (l : List LinV) (i : Nat) : zrJ names l i 1 = zrJ names l i 0 ++ [zrB names.length i 1] := by simp [zrJ]
theorem zrJ_two' (names : List ByteArray) (l : List LinV) (i : Nat) : zrJ names l i 2 = zrJ names l i 1 ++ [zrB names.length i (-1)] := by simp [zrJ]
theorem zrR_zero (names : List ByteArray) (l : List LinV) : zrR names l 0 = l.map (zrV names) := by simp [zrR]
theorem zrR_len (names : List ByteArray) (l : List LinV) (i : Nat) : (zrR names l i).length = l.length + 2 * i := by
 unfold zrR
 rw [List.length_append, List.length_map]
 congr 1
 induction i with
 | zero => rfl
 | succ i ih => rw [List.range_succ, List.flatMap_append, List.length_append, ih]; simp; omega
theorem zrJ_len (names : List ByteArray) (l : List LinV) (i j : Nat) (hj : j ≤ 2) : (zrJ names l i j).length = l.length + 2 * i + j := by
 unfold zrJ
 rw [List.length_append, zrR_len, List.length_take]
 simp; omega
end Go.Lin
namespace Go.Proofs.YtacekpdodelnbaaGreatDoor
open Go Go.Av Go.Lexs Go.Lin
attribute [local irreducible] ACalls at8
theorem blank_a {Q} (b : Nat) (es : List ByteArray) (hn : es.length ≤ 1000000) (H : Heap) (hb : H b = some (.box [.sl 1 (Rw strC es)])) (h : ∀ v, H v = none → Q (.vec v 2 0 es.length) (H.set v (.vec 2 (List.replicate es.length zB)))) : ACalls Tryz.prog 141 [.box b 0] H Q := by
 refine acalls_of_wp [] Tryz.mixed Tryz.func141 rfl (by kernel_rfl) (of_decide_eq_true (by kernel_rfl)) (by kernel_rfl) ?_
 simp only [go_sem,seval, Tryz.results141]
 repeat' (first | with_reducible refine And.intro ?_ ?_ | simp only [go_sem,seval, hb] | intro hx_ | omega)
 rename_i v
 exact Fin.same (h v hx_)
set_option maxHeartbeats 2000000 in
theorem rows_a {Q} (l : List LinV) (names : List ByteArray) (hlen : l.length ≤ 1000000) (hn : names.length ≤ 1000000) (hup : names.Pairwise fun x y => ltS x y = true) (hv : ∀ a ∈ l, validL a = true) (hm : ∀ a ∈ l, ∀ t ∈ a.t, t.v ∈ names) (H : Heap) (h : Q (.sl 4 (Rw rowC (rowsV l names))) H) :
  ACalls Tryz.prog 114 [.sl 3 (Rw linC l), .sl 1 (Rw strC names)] H Q := by
 refine acalls_of_wp [(6, .par), (11, .par), (22, .par)] Tryz.mixed Tryz.func114 rfl (by kernel_rfl) (of_decide_eq_true (by kernel_rfl)) (by kernel_rfl) ?_
 simp only [go_sem,seval, Tryz.results114]
 intro b3 hb3
 have e3 : (H.set b3 (.box [.sl 1 (Rw strC names)])) b3 = some (.box [.sl 1 (Rw strC names)]) := heap_same _ _
 have hle3 : H.Le (H.set b3 (.box [.sl 1 (Rw strC names)])) := heap_le_set hb3
 generalize H.set b3 (.box [.sl 1 (Rw strC names)]) = Bs at e3 hle3 ⊢
 have hnd : names.Nodup := hup.imp fun {x y} g e => by rw [e, ltS_irr] at g; cases g
 repeat' (first | with_reducible refine And.intro ?_ ?_ | simp only [go_sem,seval] | simp (disch := omega) only [wrap64, Rw_at] | simp (disch := first | omega | grind) only [heap_ne_] | (intro hx_; try simp only [set_none] at hx_) | omega)
 refine loop_c [3, 6, 19, 20] (fun (p : Nat × Option Nat) => [(21, .int .i64 p.1), (5, outG 4 p.1 p.2)]) (fun (p : Nat × Option Nat) => putB Bs 4 (Rw zrC ((l.take p.1).map (zrV names))) p.2) (fun (p : Nat × Option Nat) => p.1 ≤ l.length ∧ (p.2 = none → p.1 = 0) ∧ (∀ b, p.2 = some b → Bs b = none)) (fun (p : Nat × Option Nat) => l.length - p.1) ((0, none)) (⟨Nat.zero_le _, by simp, by simp⟩) (by (try simp only [go_sem,seval]) <;> (try simp (disch := omega) [wrap64]) <;> (try omega)) (by first | with_reducible exact Heap.Le.refl _ | exact heap_set_le (by assumption) | exact Heap.Le.refl _ | exact heap_le_set (by assumption) | exact (by simp only [Go.Av.Heap.Le, Go.Av.Heap.set, Go.Av.Heap.del] at * <;> grind)) ?_
 rintro Ec rfl ⟨i, o1⟩ ⟨hi, ho, hob⟩
 simp only at hi ho hob
 have h3 := O3.put (H := Bs) (sz := 4) (es := Rw zrC ((l.take i).map (zrV names))) (ob := o1) (fun e => by rw [ho e]; rfl) hob
 have fl := map_len (zrV names) l i hi
 generalize putB Bs 4 (Rw zrC ((l.take i).map (zrV names))) o1 = Hp at h3 ⊢
 by_cases hlt : i < l.length
 ·have hkd : decide ((i : Int) < l.length) = true := decide_eq_true (by omega)
  have hti : (i : Int) < l.length := by omega
  have hva := hv _ (List.getElem_mem hlt)
  have hma := hm _ (List.getElem_mem hlt)
  have fs := map_succ (zrV names) l i hlt
  obtain ⟨a, haa⟩ : ∃ a, a = l[i] := ⟨_, rfl⟩
  rw [← haa] at hva hma fs
  have ok := valid_ok hva
  repeat' (first | with_reducible refine And.intro ?_ ?_ | simp only [go_sem,seval, hkd, Rw_at _ _ hlt, Rw_get _ _ hlt, ← haa] | simp (disch := omega) only [wrap64, Rw_at] | simp (disch := first | omega | grind) only [heap_ne_] | (intro hx_; try simp only [set_none] at hx_) | omega)
  rename_i b8
  have h8 := hx_
  clear hx_
  have c8 : (Hp.set b8 (.box (linC a))) b8 = some (.box (linC a)) := heap_same _ _
  have hle8 : Hp.Le (Hp.set b8 (.box (linC a))) := heap_le_set h8
  have c3 : (Hp.set b8 (.box (linC a))) b3 = some (.box [.sl 1 (Rw strC names)]) := hle8 _ _ (h3.le _ _ e3)
  generalize Hp.set b8 (.box (linC a)) = B8 at c8 hle8 c3 ⊢
  have m3 : b3 ∈ [b3, b8] := by simp
  have m8 : b8 ∈ [b3, b8] := by simp
  obtain ⟨k, hk⟩ : ∃ k, k = a.k := ⟨_, rfl⟩
  have okk := ok.k
  rw [← hk] at okk
  have c8' : B8 b8 = some (.box [.sl 2 (Rw ltC a.t), .int .i64 k, .bool a.e]) := by rw [hk]; exact c8
  refine par_mk2 (fun i' => if i' = 1 then .mk' (fun v => .vec v 2 0 names.length) (.vec 2 (List.replicate names.length zB)) else if i' = 4 then .c (.agg (bigC k)) else .c .undef) [b3, b8] ?_
  repeat' (first | with_reducible refine And.intro ?_ ?_ | simp only [go_sem,seval, c8', c3, m3, m8] | simp (disch := omega) only [wrap64, Rw_at] | simp (disch := first | omega | grind) only [heap_ne_] | (intro hx_; try simp only [set_none] at hx_) | with_reducible refine pcmr c3 m3 (by simp) rfl (fun H' Q hro hb hq => blank_a b3 names hn H' hb hq) ?_ | with_reducible refine pc0 (fun H' Q hro hq => whole_a k (by omega) (by omega) H' hq) ?_ | omega)
  rename_i bv hv b9
  have h9 := hx_
  clear hx_
  have nb : b9 ≠ bv := h9.1
  have k3 : b3 ≠ bv ∧ b3 ≠ b9 := ⟨(fun g => by rw [g, hv] at c3; cases c3), (fun g => by rw [g, h9.2] at c3; cases c3)⟩
  rw [show List.replicate names.length zB = padT names (a.t.take 0) from (padT_zero names).symm]
  refine loop_c [3, 5, 6, 9, 19, 20, 21, 34, 35] (fun (j : Nat) => [(36, .int .i64 j)]) (fun (j : Nat) => (B8.set bv (.vec 2 (padT names (a.t.take j)))).set b9 (.box [.vec bv 2 0 names.length, .bool (decide (k < 0)), .sl 1 (Rw digC (digs k.natAbs)), .bool a.e])) (fun (j : Nat) => j ≤ a.t.length) (fun (j : Nat) => a.t.length - j) (0) (Nat.zero_le _) (by (try simp only [go_sem,seval]) <;> (try simp (disch := omega) [wrap64]) <;> (try omega)) (by first | with_reducible exact Heap.Le.refl _ | exact heap_set_le (by assumption) | exact Heap.Le.refl _ | exact heap_le_set (by assumption) | exact (by simp only [Go.Av.Heap.Le, Go.Av.Heap.set, Go.Av.Heap.del] at * <;> grind)) ?_
  rintro Ec rfl j hj
  have okl := ok.len
  by_cases hjt : j < a.t.length
  ·have hkd2 : decide ((j : Int) < a.t.length) = true := decide_eq_true (by omega)
   have hjr : (j : Int) < a.t.length := by omega
   obtain ⟨t, ht⟩ : ∃ t, t = a.t[j] := ⟨_, rfl⟩
   have tc := (okAt_get ok.t hjt).2.2.1
   rw [← ht] at tc
   obtain ⟨x, hx, hxe⟩ := List.getElem_of_mem (hma _ (List.getElem_mem hjt))
   rw [← ht] at hxe
   have hxi : (x : Int) < names.length := by omega
   have hdj : ∀ y ∈ a.t.take j, y.v ≠ t.v := fun y hy g => by
    obtain ⟨q, hq, rfl⟩ := List.getElem_of_mem hy
    rw [List.length_take] at hq
    have := List.pairwise_iff_getElem.1 (termsOk_up ok.t) q j (by omega) hjt (by omega)
    rw [List.getElem_take] at g
    rw [← ht, g, ltS_irr] at this; cases this
   obtain ⟨z, hz⟩ : ∃ z, z = t.c := ⟨_, rfl⟩
   have ts : a.t.take (j + 1) = a.t.take j ++ [t] := by rw [List.take_succ_eq_append_getElem hjt, ht]
   have hset := padT_set names (a.t.take j) t x hx hxe hnd hdj
   rw [← ts, ← hz] at hset
   have hpg := padT_get names (a.t.take j) x hx (fun y hy => by rw [hxe]; exact hdj y hy)
   have hpl := padT_len names (a.t.take j)
   rw [← hz] at tc
   have hz2 : t.c = z := hz.symm
   repeat' (first | with_reducible refine And.intro ?_ ?_ | simp only [go_sem,seval, hkd2, hjr, Rw_at _ _ hjt, Rw_get _ _ hjt, ← ht, hz2] | simp (disch := omega) only [wrap64, Rw_at] | simp (disch := first | omega | grind) only [heap_ne_] | (intro hx_; try simp only [set_none] at hx_) | omega)
   rename_i b11
   have h11 := hx_
   clear hx_
   have j1 := h11.1
   have j2 := h11.2.1
   have j3 : b3 ≠ b11 := fun g => by have := h11.2.2; rw [← g, c3] at this; cases this
   have p9 : b9 ∈ [b9, b11] := by simp
   have p11 : b11 ∈ [b9, b11] := by simp
   repeat' (first | with_reducible refine And.intro ?_ ?_ | simp only [go_sem,seval, heap_ne _ j3, heap_ne _ k3.2, heap_ne _ k3.1, c3] | simp (disch := omega) only [wrap64, Rw_at] | simp (disch := first | omega | grind) only [heap_ne_] | (intro hx_; try simp only [set_none] at hx_) | with_reducible refine bsearch_a names hup t.v x hx hxe (by omega) _ ?_ | omega)
   refine par_mk (fun i' => if i' = 5 then .agg (bigC z) else .undef) [b9, b11] ?_
   repeat' (first | with_reducible refine And.intro ?_ ?_ | simp only [go_sem,seval, p9, p11, hxi, hpl, hpg.1, hpg.2] | simp (disch := omega) only [wrap64, Rw_at] | simp (disch := first | omega | grind) only [heap_ne_] | (intro hx_; try simp only [set_none] at hx_) | with_reducible refine pc0 (fun H' Q hro hq => whole_a z (by omega) (by omega) H' hq) ?_ | omega)
   have hset2 : (padT names (a.t.take j)).set x ((zB.set 0 (D.bool (decide (z < 0)))).set 1 (D.sl 1 (Rw digC (digs z.natAbs)))) = padT names (a.t.take (j + 1)) := hset
   refine nx_mk (j + 1) (by omega) (by omega) (by (try simp only [go_sem,seval]) <;> (try simp (disch := omega) [wrap64]) <;> (try omega)) ?_
   rw [← hset2]
   intro q o hq
   have e11 : q ≠ b11 := fun g => by rw [g, heap_ne _ j1, heap_ne _ j2, h11.2.2] at hq; cases hq
   by_cases g : q = bv
   ·subst g; rw [heap_ne _ nb.symm, heap_same] at hq; rw [heap_same]; exact hq
   ·rw [heap_ne _ g, heap_ne _ e11]
    by_cases e12 : q = b9
    ·subst e12; rw [heap_same] at hq ⊢; exact hq
    ·rw [heap_ne _ e12, heap_ne _ g] at hq ⊢; exact hq
  ·have hkd2 : decide ((j : Int) < a.t.length) = false := decide_eq_false (by omega)
   have hje : j = a.t.length := by omega
   subst hje
   rw [List.take_length]
   repeat' (first | with_reducible refine And.intro ?_ ?_ | simp only [go_sem,seval, hkd2] | simp (disch := omega) only [wrap64, Rw_at] | simp (disch := first | omega | grind) only [heap_ne_] | (intro hx_; try simp only [set_none] at hx_) | omega)
   rename_i bx
   have hbx := hx_
   clear hx_
   have hBb : Bs bv = none := (h3.le.trans hle8).none hv
   have q1 : (Bs.set bv (.vec 2 (padT names a.t))).Le ((B8.set bv (.vec 2 (padT names a.t))).set b9 (.box [.vec bv 2 0 names.length, .bool (decide (k < 0)), .sl 1 (Rw digC (digs k.natAbs)), .bool a.e])) := by
    intro q o hq
    by_cases g : q = bv
    ·subst g; rw [heap_ne _ nb.symm, heap_same]; rw [heap_same] at hq; exact hq
    ·rw [heap_ne _ g] at hq
     have hB := hle8 _ _ (h3.le _ _ hq)
     have g9 : q ≠ b9 := fun g => by rw [g, h9.2] at hB; cases hB
     rw [heap_ne _ g9, heap_ne _ g]; exact hB
   have q2 : Hp.Le ((B8.set bv (.vec 2 (padT names a.t))).set b9 (.box [.vec bv 2 0 names.length, .bool (decide (k < 0)), .sl 1 (Rw digC (digs k.natAbs)), .bool a.e])) := by
    intro q o hq
    have hB := hle8 _ _ hq
    have g : q ≠ bv := fun g => by rw [g, hv] at hB; cases hB
    have g9 : q ≠ b9 := fun g => by rw [g, h9.2] at hB; cases hB
    rw [heap_ne _ g9, heap_ne _ g]; exact hB
   have h3b := h3.base q1 q2 (fun b hb1 hb2 => by rw [heap_ne _ (fun g => hb1 (by rw [g]; exact hle8.none hv))]; exact hb2)
   refine O3.ap h3b (e1' := Rw zrC ((l.take i).map (zrV names)) ++ [[.vec bv 2 0 names.length, .bool (decide (k < 0)), .sl 1 (Rw digC (digs k.natAbs)), .bool a.e]]) (Heap.Le.refl _) (by simp only [set_none]; exact hbx) (by simp) (by rw [Rw_len, fl]) (by simp only [List.length_cons, List.length_nil]; omega) (by simp only [List.length_cons, List.length_nil]; omega) rfl fun b' H' h4 => ?_
   clear h3b q1 q2 hbx
   repeat' (first | with_reducible refine And.intro ?_ ?_ | simp only [go_sem,seval] | simp (disch := omega) only [wrap64, Rw_at] | simp (disch := first | omega | grind) only [heap_ne_] | (intro hx_; try simp only [set_none] at hx_) | omega)
   have hn4 := h4.n1 _ rfl
   have nbv : bv ≠ b' := fun g => by rw [← g, heap_same] at hn4; cases hn4
   have eX : Rw zrC ((l.take (i + 1)).map (zrV names)) = Rw zrC ((l.take i).map (zrV names)) ++ [.sl 2 (padT names a.t) :: [.bool (decide (k < 0)), .sl 1 (Rw digC (digs k.natAbs)), .bool a.e]] := by rw [fs, ← Rw_app, hk]; rfl
   refine nx_w (i + 1, some b') ⟨by simp only []; omega, by simp, fun b e => ?_⟩ (by simp only []; omega) ?_
   ·have := h4.n1 _ e
    rw [heap_ne _ (by cases e; exact nbv.symm)] at this
    exact this
   ·show Weak _ (Bs.set b' (.vec 4 (Rw zrC ((l.take (i + 1)).map (zrV names))))) _ _
    rw [eX]
    refine weak_rowN (by (try simp only [go_sem,seval, out_some]) <;> (try simp (disch := omega) [wrap64]) <;> (try omega)) (by rw [padT_len]) h4.a1 (h4.le _ _ (heap_same _ _)) nbv (fun q o hq ho => ?_)
    have hkb : q ≠ bv := fun g => by rw [g, hBb] at ho; cases ho
    exact ⟨hkb, h4.le q o (by rw [heap_ne _ hkb]; exact ho)⟩
 ·have hkd : decide ((i : Int) < l.length) = false := decide_eq_false (by omega)
  have hie : i = l.length := by omega
  rw [List.take_of_length_le (by omega), ← zrR_zero] at h3
  have hl0 : i = (zrR names l 0).length := by rw [zrR_len]; omega
  have c3 := h3.le _ _ e3
  rw [hl0]
  repeat' (first | with_reducible refine And.intro ?_ ?_ | simp only [go_sem,seval, decide_eq_false (show ¬ (((zrR names l 0).length : Nat) : Int) < l.length by omega), c3] | simp (disch := omega) only [wrap64, Rw_at] | simp (disch := first | omega | grind) only [heap_ne_] | (intro hx_; try simp only [set_none] at hx_) | omega)
  clear hkd hob ho hi hlt fl hie
  refine loop_c [6, 61] (fun (p : Nat × Option Nat × Heap) => [(62, .int .i64 p.1), (5, outG 4 (zrR names l p.1).length p.2.1)]) (fun (p : Nat × Option Nat × Heap) => p.2.2) (fun (p : Nat × Option Nat × Heap) => p.1 ≤ names.length ∧ O3 Bs p.2.2 4 (Rw zrC (zrR names l p.1)) [] [] p.2.1 none none) (fun (p : Nat × Option Nat × Heap) => names.length - p.1) ((0, o1, Hp)) (⟨Nat.zero_le _, h3⟩) (by (try simp only [go_sem,seval]) <;> (try simp (disch := omega) [wrap64]) <;> (try omega)) (by first | with_reducible exact Heap.Le.refl _ | exact heap_set_le (by assumption) | exact Heap.Le.refl _ | exact heap_le_set (by assumption) | exact (by simp only [Go.Av.Heap.Le, Go.Av.Heap.set, Go.Av.Heap.del] at * <;> grind)) ?_
  clear h3 c3
  obtain ⟨M, hM⟩ : ∃ M : Int, M = 2147483647 := ⟨_, rfl⟩
  have wm : ∀ (H : Heap) (Q : D → Heap → Prop), Q (.agg (bigC M)) H → ACalls Tryz.prog 142 [.int .i64 2147483647] H Q := fun H Q hq => whole_a 2147483647 (by omega) (by omega) H (by rw [← hM]; exact hq)
  rintro Ec rfl ⟨i, o1, Hp⟩ ⟨hi, h3⟩
  simp only at hi h3
  by_cases hit : i < names.length
  ·have hkd2 : decide ((i : Int) < names.length) = true := decide_eq_true (by omega)
   have hin : (i : Int) < names.length := by omega
   repeat' (first | with_reducible refine And.intro ?_ ?_ | simp only [go_sem,seval, hkd2] | simp (disch := omega) only [wrap64, Rw_at] | simp (disch := first | omega | grind) only [heap_ne_] | (intro hx_; try simp only [set_none] at hx_) | omega)
   rename_i bs
   have hbs := hx_
   clear hx_
   have g3 := h3.grow hbs (.vec 1 [[.int .i64 1], [.int .i64 (-1)]])
   have es : (Bs.set bs (.vec 1 [[.int .i64 1], [.int .i64 (-1)]])) bs = some (.vec 1 [[.int .i64 1], [.int .i64 (-1)]]) := heap_same _ _
   have hB1 : Bs.Le (Bs.set bs (.vec 1 [[.int .i64 1], [.int .i64 (-1)]])) := heap_le_set (h3.le.none hbs)
   generalize Hp.set bs (.vec 1 [[.int .i64 1], [.int .i64 (-1)]]) = Hq at g3 ⊢
   generalize Bs.set bs (.vec 1 [[.int .i64 1], [.int .i64 (-1)]]) = B1 at g3 es hB1
   rw [← zrJ_zero] at g3 ⊢
   refine loop_c [6, 14, 61, 62, 65, 66] (fun (p : Nat × Option Nat × Heap) => [(67, .int .i64 p.1), (5, outG 4 (zrJ names l i p.1).length p.2.1)]) (fun (p : Nat × Option Nat × Heap) => p.2.2) (fun (p : Nat × Option Nat × Heap) => p.1 ≤ 2 ∧ O3 B1 p.2.2 4 (Rw zrC (zrJ names l i p.1)) [] [] p.2.1 none none) (fun (p : Nat × Option Nat × Heap) => 2 - p.1) ((0, o1, Hq)) (⟨Nat.zero_le _, g3⟩) (by (try simp only [go_sem,seval]) <;> (try simp (disch := omega) [wrap64]) <;> (try omega)) (by first | with_reducible exact Heap.Le.refl _ | exact heap_set_le (by assumption) | exact Heap.Le.refl _ | exact heap_le_set (by assumption) | exact (by simp only [Go.Av.Heap.Le, Go.Av.Heap.set, Go.Av.Heap.del] at * <;> grind)) ?_
   clear g3 h3
   rintro Ec rfl ⟨j, o1, Hp⟩ ⟨hj, h3⟩
   simp only at hj h3
   have d3 := h3.le _ _ (hB1 _ _ e3)
   have ds := h3.le _ _ es
   match j, hj with
   | 0, _ =>
    have k3 : decide (((0 : Nat) : Int) < ((2 : Nat) : Int)) = true := by decide
    have g1 := zrJ_one names l i
    have gl := zrJ_len names l i 0 (by omega)
    have gl2 := zrJ_len names l i (1) (by omega)
    obtain ⟨s, hs⟩ : ∃ s : Int, s = 1 := ⟨1, rfl⟩
    have ws : ∀ (H : Heap) (Q : D → Heap → Prop), Q (.agg (bigC s)) H → ACalls Tryz.prog 142 [.int .i64 (1)] H Q := fun H Q hq => whole_a (1) (by omega) (by omega) H (by rw [← hs]; exact hq)
    repeat' (first | with_reducible refine And.intro ?_ ?_ | simp only [go_sem,seval, k3, ds, d3, List.getD_cons_zero, List.getD_cons_succ] | simp (disch := omega) only [wrap64, Rw_at] | simp (disch := first | omega | grind) only [heap_ne_] | (intro hx_; try simp only [set_none] at hx_) | with_reducible refine blank_a b3 names hn _ d3 ?_ | with_reducible refine wm _ _ ?_ | omega)
    rename_i v hv b17
    have h17 := hx_
    clear hx_
    have nb : b17 ≠ v := h17.1
    have p17 : b17 ∈ [b17] := by simp
    have hpz : (List.replicate names.length zB)[i]? = some zB ∧ (List.replicate names.length zB).getD i [] = zB := by
     have : (List.replicate names.length zB)[i]? = some zB := by simp [hit]
     exact ⟨this, by rw [List.getD_eq_getElem?_getD, this]; rfl⟩
    have hzl : (List.replicate names.length zB).length = names.length := List.length_replicate
    refine par_mk (fun i' => if i' = 4 then .agg (bigC s) else .undef) [b17] ?_
    obtain ⟨Z, hZ⟩ : ∃ Z, Z = List.replicate names.length zB := ⟨_, rfl⟩
    rw [← hZ] at hpz hzl ⊢
    repeat' (first | with_reducible refine And.intro ?_ ?_ | simp only [go_sem,seval, p17, hin, hzl, hpz.1, hpz.2] | simp (disch := omega) only [wrap64, Rw_at] | simp (disch := first | omega | grind) only [heap_ne_] | (intro hx_; try simp only [set_none] at hx_) | with_reducible refine pc0 (fun H' Q hro hq => ws H' Q hq) ?_ | omega)
    rename_i bx
    have hbx := hx_
    clear hx_
    have hset : Z.set i ((zB.set 0 (D.bool (decide (s < 0)))).set 1 (D.sl 1 (Rw digC (digs s.natAbs)))) = (List.replicate names.length zB).set i (bigC s) := by rw [hZ]; rfl
    rw [hset]
    obtain ⟨Y, hY⟩ : ∃ Y, Y = (List.replicate names.length zB).set i (bigC s) := ⟨_, rfl⟩
    rw [← hY]
    have hYl : Y.length = names.length := by rw [hY, List.length_set, List.length_replicate]
    have hBv : B1 v = none := h3.le.none hv
    have q1 : (B1.set v (.vec 2 Y)).Le (((Hp.set v (.vec 2 Z)).set b17 (.box [.vec v 2 0 names.length, .bool (decide (M < 0)), .sl 1 (Rw digC (digs M.natAbs)), .bool false])).set v (.vec 2 Y)) := by
     intro q o hq
     by_cases g : q = v
     ·subst g; rw [heap_same] at hq ⊢; exact hq
     ·rw [heap_ne _ g] at hq
      have hB := h3.le _ _ hq
      have g9 : q ≠ b17 := fun g => by rw [g, h17.2] at hB; cases hB
      rw [heap_ne _ g, heap_ne _ g9, heap_ne _ g]; exact hB
    have q2 : Hp.Le (((Hp.set v (.vec 2 Z)).set b17 (.box [.vec v 2 0 names.length, .bool (decide (M < 0)), .sl 1 (Rw digC (digs M.natAbs)), .bool false])).set v (.vec 2 Y)) := by
     intro q o hB
     have g : q ≠ v := fun g => by rw [g, hv] at hB; cases hB
     have g9 : q ≠ b17 := fun g => by rw [g, h17.2] at hB; cases hB
     rw [heap_ne _ g, heap_ne _ g9, heap_ne _ g]; exact hB
    have h3b := h3.base q1 q2 (fun b hb1 hb2 => by rw [heap_ne _ (fun g => hb1 (by rw [g]; exact hv))]; exact hb2)
    refine O3.ap h3b (e1' := Rw zrC (zrJ names l i 0) ++ [[.vec v 2 0 names.length, .bool (decide (M < 0)), .sl 1 (Rw digC (digs M.natAbs)), .bool false]]) (Heap.Le.refl _) (by simp only [set_none]; simp only [hbx, ne_eq, not_false_eq_true, and_self]) (by simp) (by rw [Rw_len]) (by simp only [List.length_cons, List.length_nil]; omega) (by simp only [List.length_cons, List.length_nil]; omega) rfl fun b' H' h4 => ?_
    clear h3b q1 q2 hbx
    repeat' (first | with_reducible refine And.intro ?_ ?_ | simp only [go_sem,seval] | simp (disch := omega) only [wrap64, Rw_at] | simp (disch := first | omega | grind) only [heap_ne_] | (intro hx_; try simp only [set_none] at hx_) | omega)
    have hn4 := h4.n1 _ rfl
    have nbv : v ≠ b' := fun g => by rw [← g, heap_same] at hn4; cases hn4
    have hn5 : B1 b' = none := by rw [heap_ne _ nbv.symm] at hn4; exact hn4
    have eX : Rw zrC (zrJ names l i 1) = Rw zrC (zrJ names l i 0) ++ [.sl 2 Y :: [.bool (decide (M < 0)), .sl 1 (Rw digC (digs M.natAbs)), .bool false]] := by rw [g1, ← Rw_app, hY, hM, hs]; rfl
    refine nx_w (1, some b', B1.set b' (.vec 4 (Rw zrC (zrJ names l i 1)))) ⟨by simp only []; omega, O3.put (H := B1) (ob := some b') (by simp) (fun b e => by cases e; exact hn5)⟩ (by simp only []; omega) ?_
    show Weak _ (B1.set b' (.vec 4 (Rw zrC (zrJ names l i 1)))) _ _
    rw [eX]
    refine weak_rowN (by (try simp only [go_sem,seval, out_some, gl, gl2]) <;> (try simp (disch := omega) [wrap64]) <;> (try omega)) hYl.symm h4.a1 (h4.le _ _ (heap_same _ _)) nbv (fun q o hq ho => ?_)
    have hkb : q ≠ v := fun g => by rw [g, hBv] at ho; cases ho
    exact ⟨hkb, h4.le q o (by rw [heap_ne _ hkb]; exact ho)⟩
   | 1, _ =>
    have k3 : decide (((1 : Nat) : Int) < ((2 : Nat) : Int)) = true := by decide
    have g1 := zrJ_two' names l i
    have gl := zrJ_len names l i 1 (by omega)
    have gl2 := zrJ_len names l i (2) (by omega)
    obtain ⟨s, hs⟩ : ∃ s : Int, s = -1 := ⟨-1, rfl⟩
    have ws : ∀ (H : Heap) (Q : D → Heap → Prop), Q (.agg (bigC s)) H → ACalls Tryz.prog 142 [.int .i64 (-1)] H Q := fun H Q hq => whole_a (-1) (by omega) (by omega) H (by rw [← hs]; exact hq)
    repeat' (first | with_reducible refine And.intro ?_ ?_ | simp only [go_sem,seval, k3, ds, d3, List.getD_cons_zero, List.getD_cons_succ] | simp (disch := omega) only [wrap64, Rw_at] | simp (disch := first | omega | grind) only [heap_ne_] | (intro hx_; try simp only [set_none] at hx_) | with_reducible refine blank_a b3 names hn _ d3 ?_ | with_reducible refine wm _ _ ?_ | omega)
    rename_i v hv b17
    have h17 := hx_
    clear hx_
    have nb : b17 ≠ v := h17.1
    have p17 : b17 ∈ [b17] := by simp
    have hpz : (List.replicate names.length zB)[i]? = some zB ∧ (List.replicate names.length zB).getD i [] = zB := by
     have : (List.replicate names.length zB)[i]? = some zB := by simp [hit]
     exact ⟨this, by rw [List.getD_eq_getElem?_getD, this]; rfl⟩
    have hzl : (List.replicate names.length zB).length = names.length := List.length_replicate
    refine par_mk (fun i' => if i' = 4 then .agg (bigC s) else .undef) [b17] ?_
    obtain ⟨Z, hZ⟩ : ∃ Z, Z = List.replicate names.length zB := ⟨_, rfl⟩
    rw [← hZ] at hpz hzl ⊢
    repeat' (first | with_reducible refine And.intro ?_ ?_ | simp only [go_sem,seval, p17, hin, hzl, hpz.1, hpz.2] | simp (disch := omega) only [wrap64, Rw_at] | simp (disch := first | omega | grind) only [heap_ne_] | (intro hx_; try simp only [set_none] at hx_) | with_reducible refine pc0 (fun H' Q hro hq => ws H' Q hq) ?_ | omega)
    rename_i bx
    have hbx := hx_
    clear hx_
    have hset : Z.set i ((zB.set 0 (D.bool (decide (s < 0)))).set 1 (D.sl 1 (Rw digC (digs s.natAbs)))) = (List.replicate names.length zB).set i (bigC s) := by rw [hZ]; rfl
    rw [hset]
    obtain ⟨Y, hY⟩ : ∃ Y, Y = (List.replicate names.length zB).set i (bigC s) := ⟨_, rfl⟩
    rw [← hY]
    have hYl : Y.length = names.length := by rw [hY, List.length_set, List.length_replicate]
    have hBv : B1 v = none := h3.le.none hv
    have q1 : (B1.set v (.vec 2 Y)).Le (((Hp.set v (.vec 2 Z)).set b17 (.box [.vec v 2 0 names.length, .bool (decide (M < 0)), .sl 1 (Rw digC (digs M.natAbs)), .bool false])).set v (.vec 2 Y)) := by
     intro q o hq
     by_cases g : q = v
     ·subst g; rw [heap_same] at hq ⊢; exact hq
     ·rw [heap_ne _ g] at hq
      have hB := h3.le _ _ hq
      have g9 : q ≠ b17 := fun g => by rw [g, h17.2] at hB; cases hB
      rw [heap_ne _ g, heap_ne _ g9, heap_ne _ g]; exact hB
    have q2 : Hp.Le (((Hp.set v (.vec 2 Z)).set b17 (.box [.vec v 2 0 names.length, .bool (decide (M < 0)), .sl 1 (Rw digC (digs M.natAbs)), .bool false])).set v (.vec 2 Y)) := by
     intro q o hB
     have g : q ≠ v := fun g => by rw [g, hv] at hB; cases hB
     have g9 : q ≠ b17 := fun g => by rw [g, h17.2] at hB; cases hB
     rw [heap_ne _ g, heap_ne _ g9, heap_ne _ g]; exact hB
    have h3b := h3.base q1 q2 (fun b hb1 hb2 => by rw [heap_ne _ (fun g => hb1 (by rw [g]; exact hv))]; exact hb2)
    refine O3.ap h3b (e1' := Rw zrC (zrJ names l i 1) ++ [[.vec v 2 0 names.length, .bool (decide (M < 0)), .sl 1 (Rw digC (digs M.natAbs)), .bool false]]) (Heap.Le.refl _) (by simp only [set_none]; simp only [hbx, ne_eq, not_false_eq_true, and_self]) (by simp) (by rw [Rw_len]) (by simp only [List.length_cons, List.length_nil]; omega) (by simp only [List.length_cons, List.length_nil]; omega) rfl fun b' H' h4 => ?_
    clear h3b q1 q2 hbx
    repeat' (first | with_reducible refine And.intro ?_ ?_ | simp only [go_sem,seval] | simp (disch := omega) only [wrap64, Rw_at] | simp (disch := first | omega | grind) only [heap_ne_] | (intro hx_; try simp only [set_none] at hx_) | omega)
    have hn4 := h4.n1 _ rfl
    have nbv : v ≠ b' := fun g => by rw [← g, heap_same] at hn4; cases hn4
    have hn5 : B1 b' = none := by rw [heap_ne _ nbv.symm] at hn4; exact hn4
    have eX : Rw zrC (zrJ names l i 2) = Rw zrC (zrJ names l i 1) ++ [.sl 2 Y :: [.bool (decide (M < 0)), .sl 1 (Rw digC (digs M.natAbs)), .bool false]] := by rw [g1, ← Rw_app, hY, hM, hs]; rfl
    refine nx_w (2, some b', B1.set b' (.vec 4 (Rw zrC (zrJ names l i 2)))) ⟨by simp only []; omega, O3.put (H := B1) (ob := some b') (by simp) (fun b e => by cases e; exact hn5)⟩ (by simp only []; omega) ?_
    show Weak _ (B1.set b' (.vec 4 (Rw zrC (zrJ names l i 2)))) _ _
    rw [eX]
    refine weak_rowN (by (try simp only [go_sem,seval, out_some, gl, gl2]) <;> (try simp (disch := omega) [wrap64]) <;> (try omega)) hYl.symm h4.a1 (h4.le _ _ (heap_same _ _)) nbv (fun q o hq ho => ?_)
    have hkb : q ≠ v := fun g => by rw [g, hBv] at ho; cases ho
    exact ⟨hkb, h4.le q o (by rw [heap_ne _ hkb]; exact ho)⟩
   | 2, _ =>
    rw [zrJ_two] at h3
    repeat' (first | with_reducible refine And.intro ?_ ?_ | simp only [go_sem,seval, zrJ_two] | simp (disch := omega) only [wrap64, Rw_at] | simp (disch := first | omega | grind) only [heap_ne_] | (intro hx_; try simp only [set_none] at hx_) | omega)
    refine nx_mk (i + 1, o1, Hp) ⟨by simp only []; omega, h3.less hB1⟩ (by simp only []; omega) (by (try simp only [go_sem,seval]) <;> (try simp (disch := omega) [wrap64]) <;> (try omega)) (Heap.Le.refl _)
   | j + 3, hj => omega
  ·have hkd2 : decide ((i : Int) < names.length) = false := decide_eq_false (by omega)
   have hie : i = names.length := by omega
   subst hie
   repeat' (first | with_reducible refine And.intro ?_ ?_ | simp only [go_sem,seval, hkd2] | simp (disch := omega) only [wrap64, Rw_at] | simp (disch := first | omega | grind) only [heap_ne_] | (intro hx_; try simp only [set_none] at hx_) | omega)
   refine Fin.out (by rw [Rw_len]) h3.a1 (Fin.nilR (nilR_rows _ (zrR_ok names l _ (Nat.le_refl _))) ?_)
   rw [zrR_rows]
   exact Fin.less (hle3.trans (O3.one h3)) h
end Go.Proofs.YtacekpdodelnbaaGreatDoor
end
section
set_option maxRecDepth 20000
namespace Go.Proofs.YtacekpdodelnbaaGreatDoor
open Go Go.Av Go.Lin
attribute [local irreducible] ACalls at8
set_option maxHeartbeats 4000000 in
theorem pairs_a {Q} (l : List Row) (n : Nat) (hlen : l.length ≤ 1000000) (hn : n ≤ 1000000) (hP : ∀ r ∈ l, RowP n 18446744073709551616 r) (H : Heap) (h : Q (resD (pairs2 [] (pairs1 l))) H) : ACalls Tryz.prog 174 [.sl 4 (Rw rowC l)] H Q := by
 refine acalls_of_wp [(10, .par), (11, .par), (23, .par), (24, .par)] Tryz.mixed Tryz.func174 rfl (by kernel_rfl) (of_decide_eq_true (by kernel_rfl)) (by kernel_rfl) ?_
 simp only [go_sem,seval, Tryz.results174]
 have z0 : D.nilsl = outG 4 (pairs1 (l.take 0)).length none := rfl
 repeat' (first | with_reducible refine And.intro ?_ ?_ | simp only [go_sem,seval] | simp (disch := omega) only [wrap64, Rw_at] | intro hx_ | omega)
 refine loop_c [13, 14] (fun (p : Nat × Option Nat × Heap) => [(15, .int .i64 p.1), (4, outG 4 (pairs1 (l.take p.1)).length p.2.1)]) (fun (p : Nat × Option Nat × Heap) => p.2.2) (fun (p : Nat × Option Nat × Heap) => p.1 ≤ l.length ∧ O3 H p.2.2 4 (Rw rowC (pairs1 (l.take p.1))) [] [] p.2.1 none none) (fun (p : Nat × Option Nat × Heap) => l.length - p.1) ((0, none, H)) (⟨Nat.zero_le _, O3.nil H 4⟩) (by (try simp only [go_sem,seval]) <;> (try simp (disch := omega) [wrap64]) <;> (try omega)) (by first | with_reducible exact Heap.Le.refl _ | exact heap_set_le (by assumption) | exact Heap.Le.refl _ | exact heap_le_set (by assumption) | exact (by simp only [Go.Av.Heap.Le, Go.Av.Heap.set, Go.Av.Heap.del] at * <;> grind)) ?_
 rintro Ec rfl ⟨i, o1, Hp⟩ ⟨hi, h3⟩
 simp only at hi h3
 have hz : o1 = none → (pairs1 (l.take i)).length = 0 := fun e => by
  have := h3.a1
  rw [e] at this
  have this : Rw rowC (pairs1 (l.take i)) = [] := this
  rw [← Rw_len (f := rowC), this]; rfl
 have ol : (pairs1 (l.take i)).length ≤ 1000000 := by have := pairs1_len (l.take i) []; simp at this; unfold pairs1; omega
 have oP : ∀ s ∈ pairs1 (l.take i), RowP n 18446744073709551616 s := pairs1_P _ _ (fun s hs => hP s (List.mem_of_mem_take hs)) (by simp)
 by_cases hlt : i < l.length
 ·have hkd : decide ((i : Int) < l.length) = true := decide_eq_true (by omega)
  have hti : (i : Int) < l.length := by omega
  have ps := pairs1_succ l i hlt
  have hr := hP _ (List.getElem_mem hlt)
  generalize pairs1 (l.take i) = out at h3 hz ol oP ps ⊢
  obtain ⟨r, hrr⟩ : ∃ r, r = l[i] := ⟨_, rfl⟩
  rw [← hrr] at ps hr
  repeat' (first | with_reducible refine And.intro ?_ ?_ | simp only [go_sem,seval, hkd, Rw_at _ _ hlt, Rw_get _ _ hlt, ← hrr, len_out hz] | simp (disch := omega) only [wrap64, Rw_at] | intro hx_ | omega)
  rename_i b6
  have h6 := hx_
  clear hx_
  have e6 : (Hp.set b6 (.box (rowC r))) b6 = some (.box (rowC r)) := heap_same _ _
  have hle6 : Hp.Le (Hp.set b6 (.box (rowC r))) := heap_le_set h6
  generalize Hp.set b6 (.box (rowC r)) = Hq at e6 hle6 ⊢
  refine loop_c [4, 6, 13, 14, 15, 20] (fun (j : Nat) => [(21, .int .i64 j)]) (fun (j : Nat) => Hq) (fun (j : Nat) => j ≤ out.length ∧ ∀ (k : Nat) (hk : k < out.length), k < j → ¬ hit r out[k]) (fun (j : Nat) => out.length - j) (0) (⟨Nat.zero_le _, fun _ _ h => absurd h (Nat.not_lt_zero _)⟩) (by (try simp only [go_sem,seval]) <;> (try simp (disch := omega) [wrap64]) <;> (try omega)) (by first | with_reducible exact Heap.Le.refl _ | exact heap_set_le (by assumption) | exact Heap.Le.refl _ | exact heap_le_set (by assumption) | exact (by simp only [Go.Av.Heap.Le, Go.Av.Heap.set, Go.Av.Heap.del] at * <;> grind)) ?_
  rintro Ec rfl j ⟨hj, hall⟩
  by_cases hjt : j < out.length
  ·have hkd2 : decide ((j : Int) < out.length) = true := decide_eq_true (by omega)
   have hjo : (j : Int) < out.length := by omega
   obtain ⟨c, rfl⟩ : ∃ c, o1 = some c := by
    cases o1 with
    | none => have := hz rfl; omega
    | some c => exact ⟨c, rfl⟩
   have ec : Hq c = some (.vec 4 (Rw rowC out)) := hle6 _ _ h3.a1
   have hs := oP _ (List.getElem_mem hjt)
   have step : ¬ hit r out[j] → ∀ (k : Nat) (hk : k < out.length), k < j + 1 → ¬ hit r out[k] := fun g k hk hkj => by
    by_cases e : k = j
    ·subst e; exact g
    ·exact hall k hk (by omega)
   have go1 : ¬ hit r out[j] → (j + 1 ≤ out.length ∧ ∀ (k : Nat) (hk : k < out.length), k < j + 1 → ¬ hit r out[k]) := fun g => ⟨by omega, step g⟩
   have m6 : b6 ∈ [b6, c] := by simp
   have mc : c ∈ [b6, c] := by simp
   cases hre : r.eq with
   | true =>
    repeat' (first | with_reducible refine And.intro ?_ ?_ | simp only [go_sem,seval, hkd2, e6, ec, hre] | simp (disch := omega) only [wrap64, Rw_at] | intro hx_ | omega)
    exact nx_mk (j + 1) (go1 (fun g => by have := g.1; rw [hre] at this; cases this)) (by omega) (by (try simp only [go_sem,seval]) <;> (try simp (disch := omega) [wrap64]) <;> (try omega)) (Heap.Le.refl _)
   | false =>
    cases hse : out[j].eq with
    | true =>
     repeat' (first | with_reducible refine And.intro ?_ ?_ | simp only [go_sem,seval, hkd2, e6, ec, hre, hjo, Rw_at _ _ hjt, Rw_get _ _ hjt, hse] | simp (disch := omega) only [wrap64, Rw_at] | intro hx_ | omega)
     exact nx_mk (j + 1) (go1 (fun g => by have := g.2.1; rw [hse] at this; cases this)) (by omega) (by (try simp only [go_sem,seval]) <;> (try simp (disch := omega) [wrap64]) <;> (try omega)) (Heap.Le.refl _)
    | false =>
     repeat' (first | with_reducible refine And.intro ?_ ?_ | simp only [go_sem,seval, hkd2, e6, ec, hre, hjo, Rw_at _ _ hjt, Rw_get _ _ hjt, hse] | simp (disch := omega) only [wrap64, Rw_at] | intro hx_ | omega)
     refine par_mk (fun i' => if i' = 4 then .bool (oppR r out[j] 1) else .undef) [b6, c] ?_
     cases ho : oppR r out[j] 1 with
     | false =>
      repeat' (first | with_reducible refine And.intro ?_ ?_ | simp only [go_sem,seval, e6, ec, m6, mc, hjo, Rw_at _ _ hjt, Rw_get _ _ hjt] | simp (disch := omega) only [wrap64, Rw_at] | intro hx_ | with_reducible refine pc0 (fun H' Q hro hq => opposite_a r out[j] 1 (.inl rfl) (by rw [hr.1, hs.1]) (by rw [hr.1]; exact hn) hr.2 hs.2 H' (by rw [ho]; exact hq)) ?_ | omega)
      exact nx_mk (j + 1) (go1 (fun g => by have := g.2.2; rw [ho] at this; cases this)) (by omega) (by (try simp only [go_sem,seval]) <;> (try simp (disch := omega) [wrap64]) <;> (try omega)) (Heap.Le.refl _)
     | true =>
      have hh : hit r out[j] := ⟨hre, hse, ho⟩
      have ph := putR_hit r out j hjt hall hh
      have sk := hr.2.1
      have sk2 := hs.2.1
      have s1 : Sz r.k := sz_two (by omega)
      have s2 : Sz out[j].k := sz_two (by omega)
      repeat' (first | with_reducible refine And.intro ?_ ?_ | simp only [go_sem,seval, e6, ec, m6, mc, hjo, Rw_at _ _ hjt, Rw_get _ _ hjt] | simp (disch := omega) only [wrap64, Rw_at] | intro hx_ | with_reducible refine pc0 (fun H' Q hro hq => opposite_a r out[j] 1 (.inl rfl) (by rw [hr.1, hs.1]) (by rw [hr.1]; exact hn) hr.2 hs.2 H' (by rw [ho]; exact hq)) ?_ | omega)
      refine par_mk (fun i' => if i' = 6 then .bool (decide (r.k < out[j].k)) else .undef) [b6, c] ?_
      repeat' (first | with_reducible refine And.intro ?_ ?_ | simp only [go_sem,seval, e6, ec, m6, mc, hjo, Rw_at _ _ hjt, Rw_get _ _ hjt] | simp (disch := omega) only [wrap64, Rw_at] | intro hx_ | with_reducible refine pc0 (fun H' Q hro hq => bless_a r.k out[j].k s1 s2 H' hq) ?_ | omega)
      ·have hk : r.k < out[j].k := by assumption
       rw [if_pos hk] at ph
       have e : pairs1 (l.take (i + 1)) = out.set j { out[j] with k := r.k } := by rw [ps, ph]
       have el : (pairs1 (l.take (i + 1))).length = out.length := by rw [e, List.length_set]
       refine nx_mk (i + 1, some c, Hq.set c (.vec 4 (Rw rowC (pairs1 (l.take (i + 1)))))) ⟨by simp only []; omega, h3.set1 hle6⟩ (by simp only []; omega) (by (try simp only [go_sem,seval, el, out_some]) <;> (try simp (disch := omega) [wrap64]) <;> (try omega)) ?_
       simp only []
       rw [e, ← Rw_set out j { out[j] with k := r.k } _ rfl]
       exact Heap.Le.refl _
      ·have hk : ¬ r.k < out[j].k := by omega
       rw [if_neg hk] at ph
       have e : pairs1 (l.take (i + 1)) = out := by rw [ps, ph]
       refine nx_mk (i + 1, some c, Hp) ⟨by simp only []; omega, by simp only [e]; exact h3⟩ (by simp only []; omega) (by (try simp only [go_sem,seval, e, out_some]) <;> (try simp (disch := omega) [wrap64]) <;> (try omega)) hle6
  ·have hkd2 : decide ((j : Int) < out.length) = false := decide_eq_false (by omega)
   have e : pairs1 (l.take (i + 1)) = out ++ [r] := by rw [ps, putR_miss r out (fun k hk => hall k hk (by omega))]
   have el : (pairs1 (l.take (i + 1))).length = out.length + 1 := by rw [e]; simp
   repeat' (first | with_reducible refine And.intro ?_ ?_ | simp only [go_sem,seval, hkd2, e6] | simp (disch := omega) only [wrap64, Rw_at] | intro hx_ | omega)
   rename_i bx
   have hbx := hx_
   clear hx_
   refine O3.ap h3 (e1' := Rw rowC (pairs1 (l.take (i + 1)))) hle6 hbx (by simp) (by rw [Rw_len]) (by simp only [List.length_cons, List.length_nil]; omega) (by simp only [List.length_cons, List.length_nil]; omega) (by rw [e, ← Rw_app]; rfl) fun b' H' h4 => ?_
   repeat' (first | with_reducible refine And.intro ?_ ?_ | simp only [go_sem,seval] | simp (disch := omega) only [wrap64, Rw_at] | intro hx_ | omega)
   refine nx_mk (i + 1, some b', H') ⟨by simp only []; omega, h4⟩ (by simp only []; omega) (by (try simp only [go_sem,seval, out_some, el]) <;> (try simp (disch := omega) [wrap64]) <;> (try omega)) (Heap.Le.refl _)
 ·have hkd : decide ((i : Int) < l.length) = false := decide_eq_false (by omega)
  rw [List.take_of_length_le (by omega)] at h3 hz ol oP
  have e1 : l.take i = l := List.take_of_length_le (by omega)
  rw [e1] at *
  have hml : (pairs1 l).length ≤ 1000000 := ol
  generalize pairs1 l = m at *
  repeat' (first | with_reducible refine And.intro ?_ ?_ | simp only [go_sem,seval, hkd, len_out hz] | simp (disch := omega) only [wrap64, Rw_at] | intro hx_ | omega)
  refine loop_c [4, 59] (fun (p : Nat × List Row × Heap) => [(60, .int .i64 p.1)]) (fun (p : Nat × List Row × Heap) => p.2.2) (fun (p : Nat × List Row × Heap) => p.1 ≤ m.length ∧ p.2.1.length = m.length ∧ p.2.1.drop p.1 = m.drop p.1 ∧ pairs2 [] m = pairs2 (p.2.1.take p.1) (m.drop p.1) ∧ (∀ s ∈ p.2.1, RowP n 18446744073709551616 s) ∧ O3 H p.2.2 4 (Rw rowC p.2.1) [] [] o1 none none) (fun (p : Nat × List Row × Heap) => m.length - p.1) ((0, m, Hp)) (⟨Nat.zero_le _, rfl, rfl, rfl, oP, h3⟩) (by (try simp only [go_sem,seval]) <;> (try simp (disch := omega) [wrap64]) <;> (try omega)) (by first | with_reducible exact Heap.Le.refl _ | exact heap_set_le (by assumption) | exact Heap.Le.refl _ | exact heap_le_set (by assumption) | exact (by simp only [Go.Av.Heap.Le, Go.Av.Heap.set, Go.Av.Heap.del] at * <;> grind)) ?_
  clear h3 oP
  rintro Ec rfl ⟨i, X, Hp⟩ ⟨hi2, hXl, hXd, hX2, hXP, h3⟩
  simp only at hi2 hXl hXd hX2 hXP h3
  by_cases hit : i < m.length
  ·have hkd3 : decide ((i : Int) < m.length) = true := decide_eq_true (by omega)
   have him : (i : Int) < m.length := by omega
   obtain ⟨c, rfl⟩ : ∃ c, o1 = some c := by
    cases o1 with
    | none => have := hz rfl; omega
    | some c => exact ⟨c, rfl⟩
   have hiX : i < X.length := by omega
   have hmi : m[i] = X[i] := by
    have h1 := List.drop_eq_getElem_cons hiX
    have h2 := List.drop_eq_getElem_cons hit
    rw [hXd, h2] at h1
    exact (List.cons.inj h1).1
   rw [List.drop_eq_getElem_cons hit, pairs2_cons, hmi] at hX2
   repeat' (first | with_reducible refine And.intro ?_ ?_ | simp only [go_sem,seval, hkd3] | simp (disch := omega) only [wrap64, Rw_at] | intro hx_ | omega)
   refine loop_c [4, 9, 59, 60, 63] (fun (p : Nat × Row × Heap) => [(64, .int .i64 p.1)]) (fun (p : Nat × Row × Heap) => p.2.2) (fun (p : Nat × Row × Heap) => p.1 ≤ i ∧ RowP n 18446744073709551616 p.2.1 ∧ meet X[i] (X.take i) = meet p.2.1 ((X.take i).drop p.1) ∧ O3 H p.2.2 4 (Rw rowC (X.set i p.2.1)) [] [] (some c) none none) (fun (p : Nat × Row × Heap) => i - p.1) ((0, X[i], Hp)) (⟨Nat.zero_le _, hXP _ (List.getElem_mem hiX), rfl, by rw [List.set_getElem_self]; exact h3⟩) (by (try simp only [go_sem,seval]) <;> (try simp (disch := omega) [wrap64]) <;> (try omega)) (by first | with_reducible exact Heap.Le.refl _ | exact heap_set_le (by assumption) | exact Heap.Le.refl _ | exact heap_le_set (by assumption) | exact (by simp only [Go.Av.Heap.Le, Go.Av.Heap.set, Go.Av.Heap.del] at * <;> grind)) ?_
   clear h3
   rintro Ec rfl ⟨j, r, Hp⟩ ⟨hj, hr, hm, h3⟩
   simp only at hj hr hm h3
   by_cases hjt : j < i
   ·have hkd4 : decide ((j : Int) < i) = true := decide_eq_true (by omega)
    have hjX : j < X.length := by omega
    have hs := hXP _ (List.getElem_mem hjX)
    obtain ⟨s, hss⟩ : ∃ s, s = X[j] := ⟨_, rfl⟩
    rw [← hss] at hs
    have dj : (X.take i).drop j = s :: (X.take i).drop (j + 1) := by
     rw [List.drop_eq_getElem_cons (by rw [List.length_take]; omega), List.getElem_take, hss]
    rw [dj, meet_cons] at hm
    have yi : (X.set i r).length = X.length := List.length_set ..
    have hiY : i < (X.set i r).length := by omega
    have hjY : j < (X.set i r).length := by omega
    have gi : (X.set i r)[i] = r := List.getElem_set_self ..
    have gj : (X.set i r)[j] = s := by rw [List.getElem_set_ne (by omega), hss]
    have hiXi : (i : Int) < X.length := by omega
    have hjXi : (j : Int) < X.length := by omega
    have ec : Hp c = some (.vec 4 (Rw rowC (X.set i r))) := h3.a1
    have ri := Rw_at (f := rowC) (X.set i r) i hiY
    have ri2 := Rw_get (f := rowC) (X.set i r) i hiY
    have rj := Rw_at (f := rowC) (X.set i r) j hjY
    have rj2 := Rw_get (f := rowC) (X.set i r) j hjY
    rw [gi] at ri ri2
    rw [gj] at rj rj2
    have mc : c ∈ [c] := by simp
    cases hre : r.eq with
    | true =>
     rw [if_pos (.inl hre)] at hm
     repeat' (first | with_reducible refine And.intro ?_ ?_ | simp only [go_sem,seval, hkd4, hiXi, hjXi, ← hXl] | simp (disch := omega) only [wrap64, Rw_at] | intro hx_ | omega)
     refine par_mk (fun i' => .undef) [c] ?_
     repeat' (first | with_reducible refine And.intro ?_ ?_ | simp only [go_sem,seval, ec, mc, ri, ri2, hre, yi, hiXi] | simp (disch := omega) only [wrap64, Rw_at] | intro hx_ | omega)
     exact nx_mk (j + 1, r, Hp) ⟨by simp only []; omega, hr, hm, h3⟩ (by simp only []; omega) (by (try simp only [go_sem,seval]) <;> (try simp (disch := omega) [wrap64]) <;> (try omega)) (Heap.Le.refl _)
    | false =>
     cases hse : s.eq with
     | true =>
      rw [if_pos (.inr (.inl hse))] at hm
      repeat' (first | with_reducible refine And.intro ?_ ?_ | simp only [go_sem,seval, hkd4, hiXi, hjXi, ← hXl] | simp (disch := omega) only [wrap64, Rw_at] | intro hx_ | omega)
      refine par_mk (fun i' => .undef) [c] ?_
      repeat' (first | with_reducible refine And.intro ?_ ?_ | simp only [go_sem,seval, ec, mc, ri, ri2, rj, rj2, hre, hse, yi, hiXi, hjXi] | simp (disch := omega) only [wrap64, Rw_at] | intro hx_ | omega)
      exact nx_mk (j + 1, r, Hp) ⟨by simp only []; omega, hr, hm, h3⟩ (by simp only []; omega) (by (try simp only [go_sem,seval]) <;> (try simp (disch := omega) [wrap64]) <;> (try omega)) (Heap.Le.refl _)
     | false =>
      have hn1 : r.c.length = s.c.length := by rw [hr.1, hs.1]
      have hn2 : r.c.length ≤ 1000000 := by rw [hr.1]; exact hn
      have opp : ∀ (b : Bool), oppR r s (-1) = b → ∀ (H' : Heap) (Q : D → Heap → Prop), Q (.bool b) H' → ACalls Tryz.prog 213 [.agg [.sl 2 (Rw bigC r.c), .bool (decide (r.k < 0)), .sl 1 (Rw digC (digs r.k.natAbs)), .bool false], .agg [.sl 2 (Rw bigC s.c), .bool (decide (s.k < 0)), .sl 1 (Rw digC (digs s.k.natAbs)), .bool false], .int .i64 (-1)] H' Q := fun b hb H' Q hq => by
       have h0 := opposite_a (Q := Q) r s (-1) (.inr rfl) hn1 hn2 hr.2 hs.2 H' (by rw [hb]; exact hq)
       rw [rowC_d, rowC_d, hre, hse] at h0
       exact h0
      repeat' (first | with_reducible refine And.intro ?_ ?_ | simp only [go_sem,seval, hkd4, hiXi, hjXi, ← hXl] | simp (disch := omega) only [wrap64, Rw_at] | intro hx_ | omega)
      cases ho : oppR r s (-1) with
      | false =>
       rw [if_pos (.inr (.inr ho))] at hm
       refine par_mk (fun i' => if i' = 17 then .bool false else .undef) [c] ?_
       repeat' (first | with_reducible refine And.intro ?_ ?_ | simp only [go_sem,seval, ec, mc, ri, ri2, rj, rj2, hre, hse, yi, hiXi, hjXi] | simp (disch := omega) only [wrap64, Rw_at] | intro hx_ | with_reducible refine pc0 (fun H' Q hro hq => opp _ ho H' Q hq) ?_ | omega)
       exact nx_mk (j + 1, r, Hp) ⟨by simp only []; omega, hr, hm, h3⟩ (by simp only []; omega) (by (try simp only [go_sem,seval]) <;> (try simp (disch := omega) [wrap64]) <;> (try omega)) (Heap.Le.refl _)
      | true =>
       rw [if_neg (by rw [hre, hse, ho]; decide)] at hm
       have sk := hr.2.1
       have sk2 := hs.2.1
       have s1 : Sz r.k := sz_two (by omega)
       have s2 : Sz s.k := sz_two (by omega)
       refine par_mk (fun i' => if i' = 17 then .bool true else .undef) [c] ?_
       repeat' (first | with_reducible refine And.intro ?_ ?_ | simp only [go_sem,seval, ec, mc, ri, ri2, rj, rj2, hre, hse, yi, hiXi, hjXi] | simp (disch := omega) only [wrap64, Rw_at] | intro hx_ | with_reducible refine pc0 (fun H' Q hro hq => opp _ ho H' Q hq) ?_ | omega)
       rcases Int.lt_trichotomy (r.k + s.k) 0 with g | g | g
       ·rw [if_pos g] at hm
        have sg : (r.k + s.k).sign = -1 := Int.sign_eq_neg_one_of_neg g
        rw [hm] at hX2
        simp only [] at hX2
        rw [hX2] at h
        refine par_mk (fun i' => if i' = 8 then .agg (bigC (r.k + s.k)) else if i' = 9 then .int .i64 (-1) else .undef) [c] ?_
        repeat' (first | with_reducible refine And.intro ?_ ?_ | simp only [go_sem,seval, ec, mc, ri, ri2, rj, rj2, yi, hiXi, hjXi] | simp (disch := omega) only [wrap64, Rw_at] | intro hx_ | with_reducible refine pc0 (fun H' Q hro hq => bplus_a r.k s.k s1 s2 H' hq) ?_ | with_reducible refine pc0 (fun H' Q hro hq => sign_a (r.k + s.k) H' (by rw [sg]; exact hq)) ?_ | omega)
        exact Fin.nilsl 4 _ (Fin.less h3.le h)
       ·have g1 : ¬ r.k + s.k < 0 := by omega
        rw [if_neg g1, if_pos g] at hm
        have sg : (r.k + s.k).sign = 0 := by rw [g]; rfl
        refine par_mk (fun i' => if i' = 8 then .agg (bigC (r.k + s.k)) else if i' = 9 then .int .i64 0 else .undef) [c] ?_
        repeat' (first | with_reducible refine And.intro ?_ ?_ | simp only [go_sem,seval, ec, mc, ri, ri2, rj, rj2, yi, hiXi, hjXi] | simp (disch := omega) only [wrap64, Rw_at] | intro hx_ | with_reducible refine pc0 (fun H' Q hro hq => bplus_a r.k s.k s1 s2 H' hq) ?_ | with_reducible refine pc0 (fun H' Q hro hq => sign_a (r.k + s.k) H' (by rw [sg]; exact hq)) ?_ | omega)
        refine nx_mk (j + 1, { r with eq := true }, Hp.set c (.vec 4 (Rw rowC (X.set i { r with eq := true })))) ⟨by simp only []; omega, ⟨hr.1, hr.2⟩, hm, h3.set1 (Heap.Le.refl _)⟩ (by simp only []; omega) (by (try simp only [go_sem,seval]) <;> (try simp (disch := omega) [wrap64]) <;> (try omega)) ?_
        simp only []
        rw [← List.set_set (a := r) (b := ({ r with eq := true } : Row)), ← Rw_set (X.set i r) i { r with eq := true } _ rfl]
        exact Heap.Le.refl _
       ·have g1 : ¬ r.k + s.k < 0 := by omega
        have g2 : ¬ r.k + s.k = 0 := by omega
        rw [if_neg g1, if_neg g2] at hm
        have sg : (r.k + s.k).sign = 1 := Int.sign_eq_one_of_pos g
        refine par_mk (fun i' => if i' = 8 then .agg (bigC (r.k + s.k)) else if i' = 9 then .int .i64 1 else .undef) [c] ?_
        repeat' (first | with_reducible refine And.intro ?_ ?_ | simp only [go_sem,seval, ec, mc, ri, ri2, rj, rj2, yi, hiXi, hjXi] | simp (disch := omega) only [wrap64, Rw_at] | intro hx_ | with_reducible refine pc0 (fun H' Q hro hq => bplus_a r.k s.k s1 s2 H' hq) ?_ | with_reducible refine pc0 (fun H' Q hro hq => sign_a (r.k + s.k) H' (by rw [sg]; exact hq)) ?_ | omega)
        exact nx_mk (j + 1, r, Hp) ⟨by simp only []; omega, hr, hm, h3⟩ (by simp only []; omega) (by (try simp only [go_sem,seval]) <;> (try simp (disch := omega) [wrap64]) <;> (try omega)) (Heap.Le.refl _)
   ·have hkd4 : decide ((j : Int) < i) = false := decide_eq_false (by omega)
    have hje : j = i := by omega
    subst hje
    rw [List.drop_eq_nil_of_le (by rw [List.length_take]; omega)] at hm
    rw [hm] at hX2
    simp only [meet] at hX2
    repeat' (first | with_reducible refine And.intro ?_ ?_ | simp only [go_sem,seval, hkd4] | simp (disch := omega) only [wrap64, Rw_at] | intro hx_ | omega)
    refine nx_mk (j + 1, X.set j r, Hp) ⟨by simp only []; omega, by simp only [List.length_set]; exact hXl, ?_, ?_, ?_, h3⟩ (by simp only []; omega) (by (try simp only [go_sem,seval]) <;> (try simp (disch := omega) [wrap64]) <;> (try omega)) (Heap.Le.refl _)
    ·show (X.set j r).drop (j + 1) = m.drop (j + 1)
     rw [List.drop_set_of_lt (by omega), ← List.drop_drop, ← List.drop_drop, hXd]
    ·show pairs2 [] m = pairs2 ((X.set j r).take (j + 1)) (m.drop (j + 1))
     rw [hX2, List.take_succ_eq_append_getElem (by rw [List.length_set]; exact hiX), List.take_set_of_le (by omega), List.getElem_set_self]
    ·intro s hs
     rcases List.mem_or_eq_of_mem_set hs with g | g
     ·exact hXP s g
     ·rw [g]; exact hr
  ·have hkd3 : decide ((i : Int) < m.length) = false := decide_eq_false (by omega)
   rw [List.drop_eq_nil_of_le (by omega), List.take_of_length_le (by omega)] at hX2
   rw [hX2] at h
   repeat' (first | with_reducible refine And.intro ?_ ?_ | simp only [go_sem,seval, hkd3] | simp (disch := omega) only [wrap64, Rw_at] | intro hx_ | omega)
   refine Fin.out1 (by rw [Rw_len]; exact hXl.symm) h3.a1 (Fin.less (O3.one h3) h)
end Go.Proofs.YtacekpdodelnbaaGreatDoor
end
