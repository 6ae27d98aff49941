/- Part of the proof: what the last text builds on. No condition stands here. -/
import Derived.Test.YtmohcdihdhggoaaGreatDoorProg
import Derived.Test.YtmohcdihdhggoaaGreatDoorRows
import Derived.Test.YtmohcdihdhggoaaGreatDoorK4
set_option linter.unusedSimpArgs false
set_option linter.unusedVariables false
section
set_option maxRecDepth 20000
namespace Go.Av
theorem Weak.trans {E0 E1 E2 : Env} {H0 H1 H2 : Heap} (h : Weak E0 H0 E1 H1) (g : Weak E1 H1 E2 H2) : Weak E0 H0 E2 H2 := fun N w0 Hz a w hs => h N w0 Hz a w (g N w0 Hz a w hs)
theorem Loop.weak {P : Program} {Z : List (Nat × Rc)} {c : Code} {Q : AX → Env → Heap → Prop} {E E0 : Env} {H H0 : Heap} (h : Weak E0 H0 E H) (g : Loop P Z c Q E0 H0) : Loop P Z c Q E H := by
 unfold Loop at g ⊢
 obtain ⟨I, ⟨n, E1, H1, h1, h2⟩, h3⟩ := g
 exact ⟨I, ⟨n, E1, H1, h1.trans h, h2⟩, h3⟩
theorem p_apS {P : Program} {c : CR} {bl : Bl} {ev : Operand → D} {H : Heap} {KD : D → Heap → Prop} {s x : Operand} {t t' : Nat} (e by_ : Nat) {sz n m bx : Nat} {ob : Option Nat} {es xs : List (List D)}
  (hT : elemT P t = some (e, sz, by_)) (hz : 0 < sz) (h1 : apT (baseT P t')) (h2 : apZ (zeroD P e) sz) (hs : ev s = outG sz n ob) (hx : ev x = .vec bx sz 0 m) (hbx : H bx = some (.vec sz xs)) (hm : m = xs.length) (hne : xs ≠ [])
  (hout : OutAt H sz es ob) (hn : n = es.length) (hxb : bx ∉ bl.l) (hob : ob ≠ some bx) (hcb : ∀ c, ob = some c → c ∉ bl.l)
  (h3 : (n + xs.length) * by_ ≤ 140737488355328) (h4 : n + xs.length ≤ 9223372036854775807)
  (h : ∀ b', delB (H.del bx) ob b' = none → KD (.vec b' sz 0 (n + xs.length)) ((delB (H.del bx) ob).set b' (.vec sz (es ++ xs)))) : pOp P c bl ev H KD (.call ⟨.builtin .append, #[s, x], #[t, t']⟩) := by
 refine p_append_mk ?_
 rw [hT, paK_some]
 refine ⟨hz, h1, h2, ?_⟩
 have hel : elemsD H sz (ev x) = some xs := by
  rw [hx]; unfold elemsD; simp [hbx, hm]
 have ho : outB bl.l [bx] = [bx] := by rw [outB_out bx [] hxb, outB_nil]
 have hxk : xOk bl H [bx] := xOk_one bx _ hbx rfl (.inl hxb)
 rw [hel, paX_some, hs, hx]
 show paS _ bl [bx] sz by_ xs H KD
 cases ob with
 | none =>
  have e0 : es = [] := hout
  subst e0
  subst hn
  simp only [List.length_nil, Nat.zero_add, List.nil_append] at h3 h4 h
  show paS .nilsl bl [bx] sz by_ xs H KD
  rw [paS_nil]
  refine ⟨h3, h4, by cases xs <;> simp_all, hxk, fun b hb => ?_⟩
  rw [ho, minus_cons, minus_nil]
  refine h b ?_
  show (H.del bx) b = none
  unfold Heap.del
  rw [ho] at hb
  rcases hb with hb | hb
  ·split <;> simp_all
  ·simp at hb; rw [if_pos hb]
 | some k =>
  have hk : H k = some (.vec sz es) := hout
  have hkb : k ≠ bx := fun e => hob (by rw [e])
  show paS (.vec k sz 0 n) bl [bx] sz by_ xs H KD
  rw [paS_vec, hk, paV_vec]
  refine ⟨rfl, rfl, rfl, by omega, h3, h4, .inl (hcb k rfl), hxk, fun b' hb' => ?_⟩
  rw [ho, List.take_of_length_le (by omega), minus_cons, minus_cons, minus_nil]
  have hdd : (H.del k).del bx = (H.del bx).del k := by funext q; simp only [Heap.del]; split <;> split <;> rfl
  rw [hdd]
  refine h b' ?_
  show ((H.del bx).del k) b' = none
  rw [ho] at hb'
  simp only [Heap.del]
  rcases hb' with hb' | hb'
  ·split
   ·rfl
   ·split
    ·rfl
    ·exact hb'
  ·simp at hb'
   rcases hb' with hb' | hb'
   ·rw [if_pos hb']
   ·split
    ·rfl
    ·first | rfl | rw [if_pos hb']
end Go.Av
namespace Go.Proofs.YtmohcdihdhggoaaGreatDoor
open Go Go.Av Go.Lexs Go.Bis
attribute [local irreducible] ACalls at8
theorem sat1_a {Q} (rows : List (List Bool)) (l0 : 0 < rows.length) (k : Nat) (hk : k < rows[0].length) (b8 : Nat) (H : Heap) (hb : H b8 = some (.box [.sl 1 (Rw boolsC rows)])) (h : Q (.bool rows[0][k]) H) : ACalls Tryz.prog 78 [.int .i64 k, .box b8 0] H Q := by
 refine acalls_of_wp [] Tryz.mixed Tryz.func78 rfl (by kernel_rfl) (of_decide_eq_true (by kernel_rfl)) (by kernel_rfl) ?_
 simp only [go_sem,seval, Tryz.results78]
 have hl : (0 : Int) < rows.length := by omega
 repeat' (first | with_reducible refine And.intro ?_ ?_ | simp only [go_sem,seval, hb, hl, Rw_at _ _ l0, Rw_get _ _ l0, Rw_at _ _ hk, Rw_get _ _ hk] | simp (disch := omega) only [wrap64, cell_at, Rw_at] | simp (disch := first | omega | grind) only [heap_ne_, del_ne] | (intro hx_; try simp only [set_none] at hx_) | omega)
 all_goals exact Fin.same h
theorem sat2_a {Q} (row : List Bool) (i : Nat) (hi : i < row.length) (b11 : Nat) (H : Heap) (hb : H b11 = some (.box [.int .i64 i])) (h : Q (.bool (!row[i])) H) : ACalls Tryz.prog 80 [.sl 1 (Rw boolC row), .box b11 0] H Q := by
 refine acalls_of_wp [] Tryz.mixed Tryz.func80 rfl (by kernel_rfl) (of_decide_eq_true (by kernel_rfl)) (by kernel_rfl) ?_
 simp only [go_sem,seval, Tryz.results80]
 repeat' (first | with_reducible refine And.intro ?_ ?_ | simp only [go_sem,seval, hb, Rw_at _ _ hi, Rw_get _ _ hi] | simp (disch := omega) only [wrap64, cell_at, Rw_at] | simp (disch := first | omega | grind) only [heap_ne_, del_ne] | (intro hx_; try simp only [set_none] at hx_) | omega)
 all_goals exact Fin.same h
set_option maxHeartbeats 4000000 in
theorem sat_n (n : Nat) (s : Sy) (hs : SyFit s) (ho : SyOk s) : ∀ {Q} (m : Mo) (hn : SizeOf.sizeOf m ≤ n) (hm : MoFit m) (hv : okM m = true) (H : Heap) (h : Q (.sl 1 (Rw boolC (satRow s (toN s) m))) H),
  ACalls Tryz.prog 53 [.agg (syC s), .sl 1 (Rw natsC (leadsL s)), .agg (moC m)] H Q := by
 induction n with
 | zero => intro Q m hn; cases m; simp at hn
 | succ n ih =>
 intro Q m hn hm hv H h
 refine acalls_of_wp [(6, .par), (12, .ord [0, 1, 2, 3, 4, 5, 6, 7]), (14, .ord [0, 1, 2, 3, 4, 5, 6, 7, 8, 9, 10, 11]), (16, .ord [0, 1, 2, 3, 4, 5, 6, 7, 8]), (18, .ord [0, 1, 2, 3, 4, 5, 6, 7, 8, 9]), (20, .ord [0, 1, 2, 3, 4, 5, 6, 7, 8, 9, 10])] Tryz.mixed Tryz.func53 rfl (by kernel_rfl) (of_decide_eq_true (by kernel_rfl)) (by kernel_rfl) ?_
 simp only [go_sem,seval, Tryz.results53]
 have hN := ho.n
 have hfl := ho.f
 have hl := hm.l
 rw [okM_eq, Bool.and_eq_true] at hv
 obtain ⟨hv1, hv2⟩ := hv
 rw [okL_all, List.all_eq_true] at hv2
 intro b1 hb1 b2 hb2
 have e1 : ((H.set b1 (.box (syC s))).set b2 (.box (moC m))) b1 = some (.box (syC s)) := by rw [heap_ne _ (by rintro rfl; rw [heap_same] at hb2; cases hb2)]; exact heap_same _ _
 have e2 : ((H.set b1 (.box (syC s))).set b2 (.box (moC m))) b2 = some (.box (moC m)) := heap_same _ _
 have hle : H.Le ((H.set b1 (.box (syC s))).set b2 (.box (moC m))) := (heap_le_set hb1).trans (heap_le_set hb2)
 generalize (H.set b1 (.box (syC s))).set b2 (.box (moC m)) = Bs at e1 e2 hle ⊢
 repeat' (first | with_reducible refine And.intro ?_ ?_ | simp only [go_sem,seval, e1, e2, rep_b] | simp (disch := omega) only [wrap64, cell_at, Rw_at, satRow_at] | simp (disch := first | omega | grind) only [heap_ne_, del_ne] | (intro hx_; try simp only [set_none] at hx_) | omega)
 rename_i b7 hf7 b8
 have hf8 := hx_
 clear hx_
 have n1 : b1 ≠ b7 := by rintro rfl; rw [e1] at hf7; cases hf7
 have n2 : b2 ≠ b7 := by rintro rfl; rw [e2] at hf7; cases hf7
 have hf8' : (Bs.set b7 (.vec 1 (Rw boolC (List.replicate s.seen.length false)))) b8 = none := by simpa only [set_none] using hf8
 have c1 : (Bs.set b7 (.vec 1 (Rw boolC (List.replicate s.seen.length false)))) b1 = some (.box (syC s)) := by rw [heap_ne _ n1]; exact e1
 have c2 : (Bs.set b7 (.vec 1 (Rw boolC (List.replicate s.seen.length false)))) b2 = some (.box (moC m)) := by rw [heap_ne _ n2]; exact e2
 have c7 : (Bs.set b7 (.vec 1 (Rw boolC (List.replicate s.seen.length false)))) b7 = some (.vec 1 (Rw boolC (List.replicate s.seen.length false))) := heap_same _ _
 have cle : Bs.Le (Bs.set b7 (.vec 1 (Rw boolC (List.replicate s.seen.length false)))) := heap_le_set hf7
 generalize Bs.set b7 (.vec 1 (Rw boolC (List.replicate s.seen.length false))) = Cs at c1 c2 c7 cle hf8' ⊢
 clear hf8
 refine loop_c [1, 3, 5, 7, 8, 17, 18] (fun (p : Nat × Option Nat) => [(19, .int .i64 p.1)]) (fun (p : Nat × Option Nat) => (putB Cs 1 (Rw boolsC ((m.kids.map (satRow s (toN s))).take p.1)) p.2).set b8 (.box [outG 1 p.1 p.2])) (fun (p : Nat × Option Nat) => p.1 ≤ m.kids.length ∧ (p.2 = none → p.1 = 0) ∧ ∀ b, p.2 = some b → Cs b = none ∧ b ≠ b8) (fun (p : Nat × Option Nat) => m.kids.length - p.1) ((0, none)) (⟨Nat.zero_le _, fun _ => rfl, fun b e => by cases e⟩) (by (try simp only [go_sem,seval]) <;> (try simp (disch := omega) [wrap64]) <;> (try omega)) (by first | with_reducible exact Heap.Le.refl _ | exact heap_set_le (by assumption) | exact Heap.Le.refl _ | exact heap_le_set (by assumption) | exact (by simp only [Go.Av.Heap.Le, Go.Av.Heap.set, Go.Av.Heap.del] at * <;> grind)) ?_
 rintro Ec rfl ⟨k, ob⟩ ⟨hk, h0, h1⟩
 simp only at hk h0 h1
 have hin := OutIn.mk (H := Cs) (sz := 1) (es := Rw boolsC ((m.kids.map (satRow s (toN s))).take k)) (ob := ob) (fun e => by rw [h0 e]; rfl) (fun b e => (h1 b e).1)
 have hml : (m.kids.map (satRow s (toN s))).length = m.kids.length := by simp
 by_cases hlt : k < m.kids.length
 ·have hkd : decide ((k : Int) < m.kids.length) = true := decide_eq_true (by omega)
  have hmem := List.getElem_mem hlt
  have n18 : b1 ≠ b8 := by rintro rfl; rw [c1] at hf8'; cases hf8'
  have d1 : ((putB Cs 1 (Rw boolsC ((m.kids.map (satRow s (toN s))).take k)) ob).set b8 (.box [outG 1 k ob])) b1 = some (.box (syC s)) := by rw [heap_ne _ n18]; exact hin.get c1
  have d8 : ((putB Cs 1 (Rw boolsC ((m.kids.map (satRow s (toN s))).take k)) ob).set b8 (.box [outG 1 k ob])) b8 = some (.box [outG 1 k ob]) := heap_same _ _
  have hCH : ∀ q o, q ≠ b8 → Cs q = some o → ((putB Cs 1 (Rw boolsC ((m.kids.map (satRow s (toN s))).take k)) ob).set b8 (.box [outG 1 k ob])) q = some o := fun q o hq ho => by rw [heap_ne _ hq]; exact hin.get ho
  have hOH : OutAt ((putB Cs 1 (Rw boolsC ((m.kids.map (satRow s (toN s))).take k)) ob).set b8 (.box [outG 1 k ob])) 1 (Rw boolsC ((m.kids.map (satRow s (toN s))).take k)) ob := by
   have := hin.2.1
   cases ob with
   | none => exact this
   | some c => show (Heap.set _ b8 _) c = _; rw [heap_ne _ (h1 c rfl).2]; exact this
  generalize hHp : (putB Cs 1 (Rw boolsC ((m.kids.map (satRow s (toN s))).take k)) ob).set b8 (.box [outG 1 k ob]) = Hp at d1 d8 hCH hOH ⊢
  repeat' (first | with_reducible refine And.intro ?_ ?_ | simp only [go_sem,seval, hkd, Rw_at _ _ hlt] | simp (disch := omega) only [wrap64, cell_at, Rw_at, satRow_at] | simp (disch := first | omega | grind) only [heap_ne_, del_ne] | (intro hx_; try simp only [set_none] at hx_) | omega)
  rename_i b10
  have hf10 := hx_
  clear hx_
  refine par_mk (fun i => .sl 1 (Rw boolC (satRow s (toN s) m.kids[k]))) [b1, b8, b10] ?_
  have m1 : b1 ∈ [b1, b8, b10] := by simp
  have m2 : b8 ∈ [b1, b8, b10] := by simp
  have m3 : b10 ∈ [b1, b8, b10] := by simp
  repeat' (first | with_reducible refine And.intro ?_ ?_ | simp only [go_sem,seval, d1, d8, m1, m2, m3] | simp (disch := omega) only [wrap64, cell_at, Rw_at, satRow_at] | simp (disch := first | omega | grind) only [heap_ne_, del_ne] | (intro hx_; try simp only [set_none] at hx_) | with_reducible refine pc0 (fun H' Q hro hq => ih m.kids[k] (by have := mkid_lt hmem; omega) (hm.k _ hmem) (hv2 _ hmem) H' hq) ?_ | omega)
  rename_i x
  have hfx := hx_
  clear hx_
  obtain ⟨hx10, hxH⟩ := hfx
  have hxf : (Hp.set b10 (.box (moC m.kids[k]))) x = none := by rw [heap_ne _ hx10]; exact hxH
  have hc10 : ∀ c, ob = some c → c ≠ b10 ∧ c ≠ x := fun c e => by
   subst e
   have hc : Hp c = some _ := hOH
   exact ⟨fun e => (by rw [e, hf10] at hc; cases hc), fun e => (by rw [e, hxH] at hc; cases hc)⟩
  have hout2 : OutAt ((Hp.set b10 (.box (moC m.kids[k]))).set x (.vec 1 [[.sl 1 (Rw boolC (satRow s (toN s) m.kids[k]))]])) 1 (Rw boolsC ((m.kids.map (satRow s (toN s))).take k)) ob := by
   cases ob with
   | none => exact hOH
   | some c => show (Heap.set _ x _) c = _; rw [heap_ne _ (hc10 c rfl).2, heap_ne _ (hc10 c rfl).1]; exact hOH
  have hxb : x ∉ [b1, b8, b10] := by
   simp only [List.mem_cons, List.not_mem_nil, or_false, not_or]
   exact ⟨fun e => (by rw [e, d1] at hxH; cases hxH), fun e => (by rw [e, d8] at hxH; cases hxH), hx10⟩
  have hcb : ∀ c, ob = some c → c ∉ [b1, b8, b10] := fun c e => by
   simp only [List.mem_cons, List.not_mem_nil, or_false, not_or]
   exact ⟨fun e2 => (by have := (h1 c e).1; rw [e2, c1] at this; cases this), (h1 c e).2, (hc10 c e).1⟩
  refine p_apS 23 24 (n := k) (m := 1) (bx := x) (ob := ob) (es := Rw boolsC ((m.kids.map (satRow s (toN s))).take k)) (xs := [[.sl 1 (Rw boolC (satRow s (toN s) m.kids[k]))]]) (by simp only [go_sem,seval]) (by decide) (by simp only [go_sem,seval]) (by simp only [go_sem,seval]) (by simp only [go_sem,seval]) (by simp only [go_sem,seval]) (heap_same _ _) rfl (by simp) hout2 (Rw_take_len _ _ (by omega)).symm hxb (fun e => (hc10 x e).2 rfl) hcb (by simp only [List.length_cons, List.length_nil]; omega) (by simp only [List.length_cons, List.length_nil]; omega) fun b' hb' => ?_
  rw [set_del hxf] at hb' ⊢
  have hbH : delB (Hp.set b10 (.box (moC m.kids[k]))) ob b' = none := hb'
  have hb8' : b' ≠ b8 := fun e => by
   subst e
   have h10 : b' ≠ b10 := fun e => by rw [← e, d8] at hf10; cases hf10
   cases ob with
   | none => change (Heap.set _ b10 _) b' = none at hbH; rw [heap_ne _ h10, d8] at hbH; cases hbH
   | some c => change (Heap.del _ c) b' = none at hbH; simp only [Heap.del] at hbH; rw [if_neg (Ne.symm (h1 c rfl).2), heap_ne _ h10, d8] at hbH; cases hbH
  have d8' : ((delB (Hp.set b10 (.box (moC m.kids[k]))) ob).set b' (.vec 1 (Rw boolsC ((m.kids.map (satRow s (toN s))).take k) ++ [[.sl 1 (Rw boolC (satRow s (toN s) m.kids[k]))]]))) b8 = some (.box [outG 1 k ob]) := by
   rw [heap_ne _ (Ne.symm hb8')]
   have h10 : b8 ≠ b10 := fun e => by rw [← e, d8] at hf10; cases hf10
   cases ob with
   | none => show (Heap.set _ b10 _) b8 = _; rw [heap_ne _ h10]; exact d8
   | some c => show (Heap.del _ c) b8 = _; simp only [Heap.del]; rw [if_neg (Ne.symm (h1 c rfl).2), heap_ne _ h10]; exact d8
  have hkeep : ∀ q o, q ≠ b8 → Cs q = some o → delB (Hp.set b10 (.box (moC m.kids[k]))) ob q = some o := fun q o hq hqo => by
   have h2 := hCH q o hq hqo
   have h10 : q ≠ b10 := fun e => by rw [e, hf10] at h2; cases h2
   cases ob with
   | none => show (Heap.set _ b10 _) q = _; rw [heap_ne _ h10]; exact h2
   | some c =>
    have hqc : q ≠ c := fun e => by rw [e, (h1 c rfl).1] at hqo; cases hqo
    show (Heap.del _ c) q = _; simp only [Heap.del]; rw [if_neg hqc, heap_ne _ h10]; exact h2
  have hCb : Cs b' = none := by
   cases ho : Cs b' with
   | none => rfl
   | some o => have := hkeep b' o hb8' ho; rw [hbH] at this; cases this
  repeat' (first | with_reducible refine And.intro ?_ ?_ | simp only [go_sem,seval, d8', m2] | simp (disch := omega) only [wrap64, cell_at, Rw_at, satRow_at] | simp (disch := first | omega | grind) only [heap_ne_, del_ne] | (intro hx_; try simp only [set_none] at hx_) | omega)
  refine nx_mk (k + 1, some b') ⟨by simp only []; omega, (fun e => by cases e), fun b e => by cases e; exact ⟨hCb, hb8'⟩⟩ (by simp only []; omega) (by (try simp only [go_sem,seval]) <;> (try simp (disch := omega) [wrap64]) <;> (try omega)) ?_
  have hr5 : Rw boolsC ((m.kids.map (satRow s (toN s))).take (k + 1)) = Rw boolsC ((m.kids.map (satRow s (toN s))).take k) ++ [[.sl 1 (Rw boolC (satRow s (toN s) m.kids[k]))]] := by
   rw [Rw_take_succ _ _ (by rw [hml]; exact hlt)]; simp [boolsC]
  simp only [hr5, putB]
  intro q o hq
  unfold Heap.set at hq
  by_cases hq8 : q = b8
  ·rw [if_pos hq8] at hq
   rw [hq8, heap_same]
   exact hq
  ·rw [if_neg hq8] at hq
   rw [heap_ne _ hq8]
   by_cases hqb : q = b'
   ·rw [if_pos hqb] at hq
    rw [hqb, heap_same]; exact hq
   ·rw [if_neg hqb] at hq
    rw [heap_ne _ hqb]
    exact hkeep q o hq8 hq
 ·have hkd : decide ((k : Int) < m.kids.length) = false := decide_eq_false (by omega)
  have hkl : k = m.kids.length := by omega
  subst hkl
  rw [List.take_of_length_le (by omega)] at hin ⊢
  have hkv : ∃ kv, (kv = D.nilsl ∧ m.kids = [] ∨ kv = D.sl 1 (Rw boolsC (m.kids.map (satRow s (toN s))))) ∧ ∀ (E' E : Env), Sub E' E → Weak E' (Cs.set b8 (.box [kv])) E ((putB Cs 1 (Rw boolsC (m.kids.map (satRow s (toN s)))) ob).set b8 (.box [outG 1 m.kids.length ob])) := by
   cases ob with
   | none => exact ⟨.nilsl, .inl ⟨rfl, List.eq_nil_of_length_eq_zero (h0 rfl)⟩, fun E' E hE => weak_of hE.all (Heap.Le.refl _)⟩
   | some c =>
    refine ⟨.sl 1 (Rw boolsC (m.kids.map (satRow s (toN s)))), .inr rfl, fun E' E hE => ?_⟩
    obtain ⟨hc1, hc2⟩ := h1 c rfl
    refine weak_freeze (b := c) (sz := 1) (es := Rw boolsC (m.kids.map (satRow s (toN s)))) (by rw [heap_ne _ hc2]; exact heap_same _ _) (fz_sub hE) (fun q o' hq => ?_)
    unfold Heap.set at hq
    by_cases hq8 : q = b8
    ·subst hq8
     rw [if_pos rfl] at hq; cases hq
     refine ⟨Ne.symm hc2, _, heap_same _ _, .box _ _ _ rfl fun i d d' hd hd' => ?_⟩
     match i with
     | 0 =>
      cases hd; cases hd'
      rw [show m.kids.length = (Rw boolsC (m.kids.map (satRow s (toN s)))).length by rw [Rw_len, hml]]
      exact .all
     | i + 1 => cases hd
    ·rw [if_neg hq8] at hq
     have hqc : q ≠ c := fun e => by rw [e, hc1] at hq; cases hq
     refine ⟨hqc, o', ?_, .same _⟩
     rw [heap_ne _ hq8]
     show (Heap.set Cs c _) q = _
     rw [heap_ne _ hqc]; exact hq
  obtain ⟨kv, hkv1, hkv2⟩ := hkv
  have q2 : ((putB Cs 1 (Rw boolsC (m.kids.map (satRow s (toN s)))) ob).set b8 (.box [outG 1 m.kids.length ob])) b2 = some (.box (moC m)) := by
   rw [heap_ne _ (by rintro rfl; rw [c2] at hf8'; cases hf8')]; exact hin.get c2
  generalize (putB Cs 1 (Rw boolsC (m.kids.map (satRow s (toN s)))) ob).set b8 (.box [outG 1 m.kids.length ob]) = He at hkv2 q2 ⊢
  repeat' (first | with_reducible refine And.intro ?_ ?_ | simp only [go_sem,seval, hkd, q2] | simp (disch := omega) only [wrap64, cell_at, Rw_at, satRow_at] | simp (disch := first | omega | grind) only [heap_ne_, del_ne] | (intro hx_; try simp only [set_none] at hx_) | omega)
  refine Loop.weak (hkv2 _ _ (sub_consts _ [1, 3, 5, 7, 8, 31, 32, 33])) ?_
  have hleP : H.Le Cs := hle.trans cle
  have h7n : H b7 = none := hle.none hf7
  have h8n : H b8 = none := hleP.none hf8'
  have s1 : (Cs.set b8 (.box [kv])) b1 = some (.box (syC s)) := by rw [heap_ne _ (by rintro rfl; rw [c1] at hf8'; cases hf8')]; exact c1
  have s2 : (Cs.set b8 (.box [kv])) b2 = some (.box (moC m)) := by rw [heap_ne _ (by rintro rfl; rw [c2] at hf8'; cases hf8')]; exact c2
  have s7 : (Cs.set b8 (.box [kv])) b7 = some (.vec 1 (Rw boolC (List.replicate s.seen.length false))) := by rw [heap_ne _ (by rintro rfl; rw [c7] at hf8'; cases hf8')]; exact c7
  have s8 : (Cs.set b8 (.box [kv])) b8 = some (.box [kv]) := heap_same _ _
  have hleK : H.Le (Cs.set b8 (.box [kv])) := hleP.trans (heap_le_set hf8')
  generalize Cs.set b8 (.box [kv]) = Kp at s1 s2 s7 s8 hleK ⊢
  clear hkv2 hin q2 c1 c2 c7 cle hf8' h1 h0
  have hle8 : (Kp.set b7 (.vec 1 (Rw boolC (padF (satM s (toN s) m) s.seen.length 0)))).Le Kp := fun q o hq => by
   unfold Heap.set at hq
   by_cases hq8 : q = b7
   ·rw [if_pos hq8, padF_zero] at hq; rw [hq8, s7]; exact hq
   ·rw [if_neg hq8] at hq; exact hq
  refine loop_c [1, 3, 5, 7, 8, 32] (fun (i : Nat) => [(33, .int .i64 i)]) (fun (i : Nat) => Kp.set b7 (.vec 1 (Rw boolC (padF (satM s (toN s) m) s.seen.length i)))) (fun (i : Nat) => i ≤ s.seen.length) (fun (i : Nat) => s.seen.length - i) (0) (Nat.zero_le _) (by (try simp only [go_sem,seval]) <;> (try simp (disch := omega) [wrap64]) <;> (try omega)) (by first | with_reducible exact Heap.Le.refl _ | exact heap_set_le (by assumption) | exact Heap.Le.refl _ | exact heap_le_set (by assumption) | exact (by simp only [Go.Av.Heap.Le, Go.Av.Heap.set, Go.Av.Heap.del] at * <;> grind)) ?_
  rintro Ec rfl i hi
  have hpl := padF_length (satM s (toN s) m) s.seen.length i
  by_cases hlt2 : i < s.seen.length
  ·have hid : decide ((i : Int) < s.seen.length) = true := decide_eq_true (by omega)
   have p1 : b1 ≠ b7 := fun e => by rw [e, s7] at s1; cases s1
   have p2 : b2 ≠ b7 := fun e => by rw [e, s7] at s2; cases s2
   have p8 : b8 ≠ b7 := fun e => by rw [e, s7] at s8; cases s8
   have hsb : ∀ (v : List Bool) (x : Bool), (Rw boolC v).set i [D.bool x] = Rw boolC (v.set i x) := fun v x => Rw_set _ _ _ _ rfl
   have hip : i < (padF (satM s (toN s) m) s.seen.length i).length := by omega
   have hii : (i : Int) < s.seen.length := by omega
   have hif : (i : Int) < s.final.length := by omega
   have fi : i < s.final.length := by omega
   have hps := padF_set (satM s (toN s) m) s.seen.length i hlt2
   have hsat := satM_eq s (toN s) m i
   have hgs : s.seen.getD i default = s.seen[i] := by simp [hlt2]
   have hgf : s.final.getD i false = s.final[i] := by simp [fi]
   rw [hgs, hgf] at hsat
   have u1 : (Kp.set b7 (.vec 1 (Rw boolC (padF (satM s (toN s) m) s.seen.length i)))) b1 = some (.box (syC s)) := by rw [heap_ne _ p1]; exact s1
   have u2 : (Kp.set b7 (.vec 1 (Rw boolC (padF (satM s (toN s) m) s.seen.length i)))) b2 = some (.box (moC m)) := by rw [heap_ne _ p2]; exact s2
   have u8 : (Kp.set b7 (.vec 1 (Rw boolC (padF (satM s (toN s) m) s.seen.length i)))) b8 = some (.box [kv]) := by rw [heap_ne _ p8]; exact s8
   have u7 : (Kp.set b7 (.vec 1 (Rw boolC (padF (satM s (toN s) m) s.seen.length i)))) b7 = some (.vec 1 (Rw boolC (padF (satM s (toN s) m) s.seen.length i))) := heap_same _ _
   have uu : ∀ o q x, q ≠ b7 → Kp q = some x → ((Kp.set b7 (.vec 1 (Rw boolC (padF (satM s (toN s) m) s.seen.length i)))).set b7 o) q = some x := fun o q x hq hx => by rw [heap_ne _ hq, heap_ne _ hq]; exact hx
   have hfin : ∀ (x : Bool) (Hz : Heap), satM s (toN s) m i = x → (∀ q o, q ≠ b7 → Kp q = some o → Hz q = some o) → Hz b7 = some (.vec 1 (Rw boolC ((padF (satM s (toN s) m) s.seen.length i).set i x))) → (Kp.set b7 (.vec 1 (Rw boolC (padF (satM s (toN s) m) s.seen.length (i + 1))))).Le Hz := fun x Hz hx hk h7 q o hq => by
    rw [← hps, hx] at hq
    unfold Heap.set at hq
    by_cases hq7 : q = b7
    ·rw [if_pos hq7] at hq; rw [hq7, h7]; exact hq
    ·rw [if_neg hq7] at hq; exact hk q o hq7 hq
   have uk : ∀ q o, q ≠ b7 → Kp q = some o → (Kp.set b7 (.vec 1 (Rw boolC (padF (satM s (toN s) m) s.seen.length i)))) q = some o := fun q o hq ho => by rw [heap_ne _ hq]; exact ho
   generalize Kp.set b7 (.vec 1 (Rw boolC (padF (satM s (toN s) m) s.seen.length i))) = Kq at u1 u2 u7 u8 uu uk ⊢
   by_cases o1 : m.op = 1
   ·rw [if_pos o1] at hsat
    repeat' (first | with_reducible refine And.intro ?_ ?_ | simp only [go_sem,seval, hid, u2, o1] | simp (disch := omega) only [wrap64, cell_at, Rw_at, satRow_at] | simp (disch := first | omega | grind) only [heap_ne_, del_ne] | (intro hx_; try simp only [set_none] at hx_) | omega)
    rename_i b11
    have hf11 := hx_
    clear hx_
    have w1 : b1 ≠ b11 := fun e => by rw [e, hf11] at u1; cases u1
    have w2 : b2 ≠ b11 := fun e => by rw [e, hf11] at u2; cases u2
    have w7 : b7 ≠ b11 := fun e => by rw [e, hf11] at u7; cases u7
    have w8 : b8 ≠ b11 := fun e => by rw [e, hf11] at u8; cases u8
    have wk : ∀ o1 o2 q x, q ≠ b7 → Kp q = some x → ((Kq.set b11 o1).set b7 o2) q = some x := fun o1 o2 q x hq hx => by
     have := uk q x hq hx
     rw [heap_ne _ hq, heap_ne _ (fun e => by rw [e, hf11] at this; cases this)]; exact this
    refine ord_mk [b11, b1, b2] ?_
    have m1 : b11 ∈ [b11, b1, b2] := by simp
    have m2 : b1 ∈ [b11, b1, b2] := by simp
    have m3 : b2 ∈ [b11, b1, b2] := by simp
    repeat' (first | with_reducible refine And.intro ?_ ?_ | simp only [go_sem,seval, forall_eq, m1, m2, m3, u1, u2, u7, hii, hpl, Rw_at _ _ hlt2, Rw_at _ _ hip, hsb] | simp (disch := omega) only [wrap64, cell_at, Rw_at, satRow_at] | simp (disch := first | omega | grind) only [heap_ne_, del_ne] | (intro hx_; try simp only [set_none] at hx_) | with_reducible refine same_a _ _ (hs.tm _ (List.getElem_mem hlt2)) hm.t _ ?_ | omega)
    exact nx_mk (i + 1) (by omega) (by omega) (by (try simp only [go_sem,seval]) <;> (try simp (disch := omega) [wrap64]) <;> (try omega)) (hfin _ _ hsat (wk _ _) (heap_same _ _))
   rw [if_neg o1] at hsat
   by_cases o2 : m.op = 2
   ·rw [if_pos o2] at hsat
    repeat' (first | with_reducible refine And.intro ?_ ?_ | simp only [go_sem,seval, hid, u2, o2] | simp (disch := omega) only [wrap64, cell_at, Rw_at, satRow_at] | simp (disch := first | omega | grind) only [heap_ne_, del_ne] | (intro hx_; try simp only [set_none] at hx_) | omega)
    rename_i b11
    have hf11 := hx_
    clear hx_
    have w1 : b1 ≠ b11 := fun e => by rw [e, hf11] at u1; cases u1
    have w2 : b2 ≠ b11 := fun e => by rw [e, hf11] at u2; cases u2
    have w7 : b7 ≠ b11 := fun e => by rw [e, hf11] at u7; cases u7
    have w8 : b8 ≠ b11 := fun e => by rw [e, hf11] at u8; cases u8
    have wk : ∀ o1 o2 q x, q ≠ b7 → Kp q = some x → ((Kq.set b11 o1).set b7 o2) q = some x := fun o1 o2 q x hq hx => by
     have := uk q x hq hx
     rw [heap_ne _ hq, heap_ne _ (fun e => by rw [e, hf11] at this; cases this)]; exact this
    refine ord_mk [b11, b1] ?_
    have m1 : b11 ∈ [b11, b1] := by simp
    have m2 : b1 ∈ [b11, b1] := by simp
    repeat' (first | with_reducible refine And.intro ?_ ?_ | simp only [go_sem,seval, forall_eq, m1, m2, u1, u2, u7, hii, hif, hpl, Rw_at _ _ fi, Rw_at _ _ hip, hsb] | simp (disch := omega) only [wrap64, cell_at, Rw_at, satRow_at] | simp (disch := first | omega | grind) only [heap_ne_, del_ne] | (intro hx_; try simp only [set_none] at hx_) | omega)
    exact nx_mk (i + 1) (by omega) (by omega) (by (try simp only [go_sem,seval]) <;> (try simp (disch := omega) [wrap64]) <;> (try omega)) (hfin _ _ hsat (wk _ _) (heap_same _ _))
   rw [if_neg o2] at hsat
   unfold nodeM at hv1
   rw [if_neg o1, if_neg o2, Bool.and_eq_true] at hv1
   by_cases o3 : m.op = 3
   ·rw [if_pos o3] at hsat
    rw [if_pos (.inl o3)] at hv1
    have hk1 : m.kids.length = 1 := by simpa using hv1.2
    have l0 : 0 < m.kids.length := by omega
    have l0' : 0 < (m.kids.map (satRow s (toN s))).length := by omega
    have hkr : (m.kids.map (satRow s (toN s)))[0] = satRow s (toN s) m.kids[0] := by simp
    have hsl := satRow_length s (toN s) m.kids[0]
    have hkvS : kv = D.sl 1 (Rw boolsC (m.kids.map (satRow s (toN s)))) := by
     rcases hkv1 with ⟨_, e⟩ | e
     ·rw [e] at l0; simp at l0
     ·exact e
    rw [hkvS] at u8
    have li : i < (leadsL s).length := by rw [leadsL_length]; exact hlt2
    have hll := leadsL_length s
    have hrow : (leadsL s)[i] = toN s i := by simp [leadsL, toN]
    have htl : (toN s i).length ≤ 1000 := by
     have : (rowL (nxS s) s.seen.length i).length ≤ s.seen.length := by
      unfold rowL; exact Nat.le_trans (List.length_filter_le _ _) (by simp)
     show (rowL (nxS s) s.seen.length i).length ≤ 1000
     omega
    have hany : ((toN s i).map (fun (k : Nat) => (k : Int))).any (fun k => satM s (toN s) m.kids[0] k.toNat) = (toN s i).any (fun k => satH s (toN s) m.kids k) := by
     rw [List.any_map]
     congr 1
     funext k
     simp only [Function.comp, Int.toNat_natCast]
     exact (satH_one l0 k).symm
    rw [← hany] at hsat
    repeat' (first | with_reducible refine And.intro ?_ ?_ | simp only [go_sem,seval, hid, u2, o3] | simp (disch := omega) only [wrap64, cell_at, Rw_at, satRow_at] | simp (disch := first | omega | grind) only [heap_ne_, del_ne] | (intro hx_; try simp only [set_none] at hx_) | omega)
    rename_i b11
    have hf11 := hx_
    clear hx_
    have w1 : b1 ≠ b11 := fun e => by rw [e, hf11] at u1; cases u1
    have w2 : b2 ≠ b11 := fun e => by rw [e, hf11] at u2; cases u2
    have w7 : b7 ≠ b11 := fun e => by rw [e, hf11] at u7; cases u7
    have w8 : b8 ≠ b11 := fun e => by rw [e, hf11] at u8; cases u8
    have wk : ∀ o1 o2 q x, q ≠ b7 → Kp q = some x → ((Kq.set b11 o1).set b7 o2) q = some x := fun o1 o2 q x hq hx => by
     have := uk q x hq hx
     rw [heap_ne _ hq, heap_ne _ (fun e => by rw [e, hf11] at this; cases this)]; exact this
    refine ord_mk [b11] ?_
    have m1 : b11 ∈ [b11] := by simp
    have q8 : ∀ o, (Kq.set b11 o) b8 = some (.box [.sl 1 (Rw boolsC (m.kids.map (satRow s (toN s))))]) := fun o => by rw [heap_ne _ w8]; exact u8
    have hcl : ∀ o, ∀ a ∈ (toN s i).map (fun (k : Nat) => (k : Int)), ∀ (Q : D → Heap → Prop), Q (.bool (satM s (toN s) m.kids[0] a.toNat)) (Kq.set b11 o) → ACalls Tryz.prog 78 ([] ++ [.int .i64 a] ++ [.box b8 0]) (Kq.set b11 o) Q := fun o a ha Q hq => by
     obtain ⟨k, hk, rfl⟩ := List.mem_map.1 ha
     have hkn := toN_mem hk
     refine sat1_a (m.kids.map (satRow s (toN s))) l0' k (by rw [hkr, hsl]; exact hkn) b8 _ (q8 o) ?_
     have : (m.kids.map (satRow s (toN s)))[0][k]'(by rw [hkr, hsl]; exact hkn) = satM s (toN s) m.kids[0] k := by simp [satRow]
     rw [this]; exact hq
    repeat' (first | with_reducible refine And.intro ?_ ?_ | simp only [go_sem,seval, forall_eq, m1, u1, u2, u7, hii, hpl, hll, hrow, Rw_at _ _ li, Rw_get _ _ li] | simp (disch := omega) only [wrap64, cell_at, Rw_at, satRow_at] | simp (disch := first | omega | grind) only [heap_ne_, del_ne] | (intro hx_; try simp only [set_none] at hx_) | omega)
    ·first | exact hx_ | (simp at hx_; done) | simpa using hx_
    rw [natR_int]
    refine hasI_a (fun k => satM s (toN s) m.kids[0] k.toNat) _ (by rw [List.length_map]; omega) _ _ _ _ (hcl _) ?_
    repeat' (first | with_reducible refine And.intro ?_ ?_ | simp only [go_sem,seval, forall_eq, m1, u1, u2, u7, hii, hpl, Rw_at _ _ hip, hsb] | simp (disch := omega) only [wrap64, cell_at, Rw_at, satRow_at] | simp (disch := first | omega | grind) only [heap_ne_, del_ne] | (intro hx_; try simp only [set_none] at hx_) | omega)
    exact nx_mk (i + 1) (by omega) (by omega) (by (try simp only [go_sem,seval]) <;> (try simp (disch := omega) [wrap64]) <;> (try omega)) (hfin _ _ hsat (wk _ _) (heap_same _ _))
   rw [if_neg o3] at hsat
   by_cases o4 : m.op = 4
   ·rw [if_pos o4] at hsat
    rw [if_pos (.inr o4)] at hv1
    have hk1 : m.kids.length = 1 := by simpa using hv1.2
    have l0 : 0 < m.kids.length := by omega
    have l0' : 0 < (m.kids.map (satRow s (toN s))).length := by omega
    have hkr : (m.kids.map (satRow s (toN s)))[0] = satRow s (toN s) m.kids[0] := by simp
    have hsl := satRow_length s (toN s) m.kids[0]
    have hkvS : kv = D.sl 1 (Rw boolsC (m.kids.map (satRow s (toN s)))) := by
     rcases hkv1 with ⟨_, e⟩ | e
     ·rw [e] at l0; simp at l0
     ·exact e
    rw [hkvS] at u8
    have his : i < (satRow s (toN s) m.kids[0]).length := by omega
    rw [satH_one l0] at hsat
    repeat' (first | with_reducible refine And.intro ?_ ?_ | simp only [go_sem,seval, hid, u2, o4] | simp (disch := omega) only [wrap64, cell_at, Rw_at, satRow_at] | simp (disch := first | omega | grind) only [heap_ne_, del_ne] | (intro hx_; try simp only [set_none] at hx_) | omega)
    rename_i b11
    have hf11 := hx_
    clear hx_
    have w1 : b1 ≠ b11 := fun e => by rw [e, hf11] at u1; cases u1
    have w2 : b2 ≠ b11 := fun e => by rw [e, hf11] at u2; cases u2
    have w7 : b7 ≠ b11 := fun e => by rw [e, hf11] at u7; cases u7
    have w8 : b8 ≠ b11 := fun e => by rw [e, hf11] at u8; cases u8
    have wk : ∀ o1 o2 q x, q ≠ b7 → Kp q = some x → ((Kq.set b11 o1).set b7 o2) q = some x := fun o1 o2 q x hq hx => by
     have := uk q x hq hx
     rw [heap_ne _ hq, heap_ne _ (fun e => by rw [e, hf11] at this; cases this)]; exact this
    refine ord_mk [b11, b8] ?_
    have m1 : b11 ∈ [b11, b8] := by simp
    have m2 : b8 ∈ [b11, b8] := by simp
    repeat' (first | with_reducible refine And.intro ?_ ?_ | simp only [go_sem,seval, forall_eq, m1, m2, u1, u2, u7, u8, hii, hpl, Rw_at _ _ hip, Rw_at _ _ l0', Rw_get _ _ l0', hkr, hsl, Rw_at _ _ his, Rw_get _ _ his, hml, hk1, hsb] | simp (disch := omega) only [wrap64, cell_at, Rw_at, satRow_at] | simp (disch := first | omega | grind) only [heap_ne_, del_ne] | (intro hx_; try simp only [set_none] at hx_) | omega)
    exact nx_mk (i + 1) (by omega) (by omega) (by (try simp only [go_sem,seval]) <;> (try simp (disch := omega) [wrap64]) <;> (try omega)) (hfin _ _ hsat (wk _ _) (heap_same _ _))
   rw [if_neg o4, satA_all] at hsat
   ·repeat' (first | with_reducible refine And.intro ?_ ?_ | simp only [go_sem,seval, hid, u2, o1, o2, o3, o4] | simp (disch := omega) only [wrap64, cell_at, Rw_at, satRow_at] | simp (disch := first | omega | grind) only [heap_ne_, del_ne] | (intro hx_; try simp only [set_none] at hx_) | omega)
    rename_i b11
    have hf11 := hx_
    clear hx_
    have w1 : b1 ≠ b11 := fun e => by rw [e, hf11] at u1; cases u1
    have w2 : b2 ≠ b11 := fun e => by rw [e, hf11] at u2; cases u2
    have w7 : b7 ≠ b11 := fun e => by rw [e, hf11] at u7; cases u7
    have w8 : b8 ≠ b11 := fun e => by rw [e, hf11] at u8; cases u8
    have wk : ∀ o1 o2 q x, q ≠ b7 → Kp q = some x → ((Kq.set b11 o1).set b7 o2) q = some x := fun o1 o2 q x hq hx => by
     have := uk q x hq hx
     rw [heap_ne _ hq, heap_ne _ (fun e => by rw [e, hf11] at this; cases this)]; exact this
    refine ord_mk [b11, b8] ?_
    have m1 : b11 ∈ [b11, b8] := by simp
    have m2 : b8 ∈ [b11, b8] := by simp
    have q11 : (Kq.set b11 (.box [.int .i64 (i : Int)])) b11 = some (.box [.int .i64 (i : Int)]) := heap_same _ _
    have hany : (m.kids.map (satRow s (toN s))).any (fun l => !(l.getD i false)) = !(m.kids.all fun k => satM s (toN s) k i) := by
     rw [List.any_map, Bool.eq_iff_iff, List.any_eq_true]
     simp [satRow, hlt2]
    rw [show (m.kids.all fun k => satM s (toN s) k i) = !((m.kids.map (satRow s (toN s))).any (fun l => !(l.getD i false))) by rw [hany, Bool.not_not]] at hsat
    have hcl : ∀ a ∈ m.kids.map (satRow s (toN s)), ∀ (Q : D → Heap → Prop), Q (.bool (!(a.getD i false))) (Kq.set b11 (.box [.int .i64 (i : Int)])) → ACalls Tryz.prog 80 ([] ++ [.sl 1 (Rw boolC a)] ++ [.box b11 0]) (Kq.set b11 (.box [.int .i64 (i : Int)])) Q := fun a ha Q hq => by
     obtain ⟨k, hk, rfl⟩ := List.mem_map.1 ha
     have hkl := satRow_length s (toN s) k
     refine sat2_a (satRow s (toN s) k) i (by omega) b11 _ q11 ?_
     have : (satRow s (toN s) k)[i]'(by omega) = (satRow s (toN s) k).getD i false := by simp [hkl, hlt2]
     rw [this]; exact hq
    have hcall : ∀ (Q : D → Heap → Prop), Q (.bool ((m.kids.map (satRow s (toN s))).any (fun l => !(l.getD i false)))) (Kq.set b11 (.box [.int .i64 (i : Int)])) → ACalls Tryz.prog 79 [kv, .fn (.func 80) [] [.box b11 0]] (Kq.set b11 (.box [.int .i64 (i : Int)])) Q := fun Q hq => by
     have hb := hasBB_a (fun l => !(l.getD i false)) (m.kids.map (satRow s (toN s))) (by omega) 80 [] [.box b11 0] (Kq.set b11 (.box [.int .i64 (i : Int)])) hcl hq
     rcases hkv1 with ⟨e, e2⟩ | e
     ·rw [e]
      rw [e2] at hb
      exact ACalls.out (n := 0) (sz := 1) (es := []) (ob := none) rfl rfl hb
     ·rw [e]; exact hb
    have hkone : kv.one = true := by rcases hkv1 with ⟨e, _⟩ | e <;> rw [e] <;> rfl
    repeat' (first | with_reducible refine And.intro ?_ ?_ | simp only [go_sem,seval, forall_eq, m1, m2, u1, u2, u7, u8, hii, hpl, Rw_at _ _ hip, hsb] | simp (disch := omega) only [wrap64, cell_at, Rw_at, satRow_at] | simp (disch := first | omega | grind) only [heap_ne_, del_ne] | (intro hx_; try simp only [set_none] at hx_) | with_reducible refine hcall _ ?_ | omega)
    exact nx_mk (i + 1) (by omega) (by omega) (by (try simp only [go_sem,seval]) <;> (try simp (disch := omega) [wrap64]) <;> (try omega)) (hfin _ _ hsat (wk _ _) (heap_same _ _))
  ·have hid : decide ((i : Int) < s.seen.length) = false := decide_eq_false (by omega)
   repeat' (first | with_reducible refine And.intro ?_ ?_ | simp only [go_sem,seval, hid] | simp (disch := omega) only [wrap64, cell_at, Rw_at, satRow_at] | simp (disch := first | omega | grind) only [heap_ne_, del_ne] | (intro hx_; try simp only [set_none] at hx_) | omega)
   rw [padF_all _ _ _ (by omega)]
   refine Fin.out (ob := some b7) (by rw [Rw_len]; simp) (heap_same _ _) (Fin.less (H' := H) (fun q o hq => ?_) h)
   have hq8 : q ≠ b7 := fun e => by rw [e, h7n] at hq; cases hq
   show ((Kp.set b7 _).del b7) q = _
   simp only [Heap.del, Heap.set, if_neg hq8]
   exact hleK q o hq
theorem sat_a {Q} (s : Sy) (hs : SyFit s) (ho : SyOk s) (m : Mo) (hm : MoFit m) (hv : okM m = true) (H : Heap) (h : Q (.sl 1 (Rw boolC (satRow s (toN s) m))) H) : ACalls Tryz.prog 53 [.agg (syC s), .sl 1 (Rw natsC (leadsL s)), .agg (moC m)] H Q := sat_n _ s hs ho m (Nat.le_refl _) hm hv H h
theorem bSat_a {Q} (s : Sy) (hs : SyFit s) (i : Int) (m : Mo) (hm : MoFit m) (hc : cntM m ≤ 1000000000) (H : Heap) (h : Q (satR s i m) H) : ACalls Tryz.prog 23 [.agg (syC s), .int .i64 i, .agg (moC m)] H Q := by
 refine acalls_of_wp [(5, .par)] Tryz.mixed Tryz.func23 rfl (by kernel_rfl) (of_decide_eq_true (by kernel_rfl)) (by kernel_rfl) ?_
 simp only [go_sem,seval, Tryz.results23]
 unfold satR at h
 intro b1 hb1 b2 hb2
 have e1 : ((H.set b1 (.box (syC s))).set b2 (.box (moC m))) b1 = some (.box (syC s)) := by rw [heap_ne _ (by rintro rfl; rw [heap_same] at hb2; cases hb2)]; exact heap_same _ _
 have e2 : ((H.set b1 (.box (syC s))).set b2 (.box (moC m))) b2 = some (.box (moC m)) := heap_same _ _
 have hle : H.Le ((H.set b1 (.box (syC s))).set b2 (.box (moC m))) := (heap_le_set hb1).trans (heap_le_set hb2)
 generalize (H.set b1 (.box (syC s))).set b2 (.box (moC m)) = Bs at e1 e2 hle ⊢
 cases hvs : validY s with
 | false =>
  rw [hvs, Bool.false_and, if_neg (by simp)] at h
  repeat' (first | with_reducible refine And.intro ?_ ?_ | simp only [go_sem,seval, e1, e2, hvs] | simp (disch := omega) only [wrap64, cell_at, Rw_at, satRow_at] | simp (disch := first | omega | grind) only [heap_ne_, del_ne] | (intro hx_; try simp only [set_none] at hx_) | with_reducible refine bvalid_a s hs _ ?_ | omega)
  exact Fin.less hle h
 | true =>
  cases hvm : validM m with
  | false =>
   rw [hvs, hvm, Bool.and_false, if_neg (by simp)] at h
   repeat' (first | with_reducible refine And.intro ?_ ?_ | simp only [go_sem,seval, e1, e2, hvs, hvm] | simp (disch := omega) only [wrap64, cell_at, Rw_at, satRow_at] | simp (disch := first | omega | grind) only [heap_ne_, del_ne] | (intro hx_; try simp only [set_none] at hx_) | with_reducible refine bvalid_a s hs _ ?_ | with_reducible refine isModal_a m hm hc _ ?_ | omega)
   exact Fin.less hle h
  | true =>
   rw [hvs, hvm, Bool.and_true, if_pos rfl] at h
   have ho := validY_ok hvs
   have hok : okM m = true := by unfold validM at hvm; simp only [Bool.and_eq_true] at hvm; exact hvm.1.1
   by_cases h0 : 0 ≤ i
   ·by_cases h1 : i < s.seen.length
    ·have d0 : decide (i < 0) = false := decide_eq_false (by omega)
     have d1 : decide ((s.seen.length : Int) ≤ i) = false := decide_eq_false (by omega)
     have hsl := satRow_length s (toN s) m
     have hit : i.toNat < (satRow s (toN s) m).length := by omega
     have hat := satRow_at s (toN s) m i.toNat (by omega)
     rw [if_pos ⟨h0, h1⟩, ← hat] at h
     have m1 : b1 ∈ [b1, b2] := by simp
     have m2 : b2 ∈ [b1, b2] := by simp
     repeat' (first | with_reducible refine And.intro ?_ ?_ | simp only [go_sem,seval, e1, e2, hvs, hvm, d0, d1, h0, h1, hsl] | simp (disch := omega) only [wrap64, cell_at, Rw_at, satRow_at] | simp (disch := first | omega | grind) only [heap_ne_, del_ne] | (intro hx_; try simp only [set_none] at hx_) | with_reducible refine bvalid_a s hs _ ?_ | with_reducible refine isModal_a m hm hc _ ?_ | omega)
     refine par_mk (fun i => if i = 2 then .sl 1 (Rw natsC (leadsL s)) else .sl 1 (Rw boolC (satRow s (toN s) m))) [b1, b2] ?_
     repeat' (first | with_reducible refine And.intro ?_ ?_ | simp only [go_sem,seval, e1, e2, m1, m2, h0, h1, hsl, Rw_at _ _ hit, Rw_get _ _ hit] | simp (disch := omega) only [wrap64, cell_at, Rw_at, satRow_at] | simp (disch := first | omega | grind) only [heap_ne_, del_ne] | (intro hx_; try simp only [set_none] at hx_) | with_reducible refine pc0 (fun H' Q hro hq => leads_a s hs ho H' hq) ?_ | with_reducible refine pc0 (fun H' Q hro hq => sat_a s hs ho m hm hok H' hq) ?_ | omega)
     rw [← hat]
     exact Fin.less hle h
    ·have d0 : decide (i < 0) = false := decide_eq_false (by omega)
     have d1 : decide ((s.seen.length : Int) ≤ i) = true := decide_eq_true (by omega)
     rw [if_neg (fun e => h1 e.2)] at h
     repeat' (first | with_reducible refine And.intro ?_ ?_ | simp only [go_sem,seval, e1, e2, hvs, hvm, d0, d1] | simp (disch := omega) only [wrap64, cell_at, Rw_at, satRow_at] | simp (disch := first | omega | grind) only [heap_ne_, del_ne] | (intro hx_; try simp only [set_none] at hx_) | with_reducible refine bvalid_a s hs _ ?_ | with_reducible refine isModal_a m hm hc _ ?_ | omega)
     exact Fin.less hle h
   ·have d0 : decide (i < 0) = true := decide_eq_true (by omega)
    rw [if_neg (fun e => h0 e.1)] at h
    repeat' (first | with_reducible refine And.intro ?_ ?_ | simp only [go_sem,seval, e1, e2, hvs, hvm, d0] | simp (disch := omega) only [wrap64, cell_at, Rw_at, satRow_at] | simp (disch := first | omega | grind) only [heap_ne_, del_ne] | (intro hx_; try simp only [set_none] at hx_) | with_reducible refine bvalid_a s hs _ ?_ | with_reducible refine isModal_a m hm hc _ ?_ | omega)
    exact Fin.less hle h
end Go.Proofs.YtmohcdihdhggoaaGreatDoor
end
section
set_option maxRecDepth 20000
namespace Go.Proofs.YtmohcdihdhggoaaGreatDoor
open Go Go.Av Go.Lexs Go.Bis
attribute [local irreducible] ACalls at8
theorem cloneAll_w {Q} (l : List Tm) (hl : l.length ≤ 1466015503658) (H : Heap)
  (hS : ∀ a ∈ l, ∀ (Q : D → Heap → Prop) (H : Heap), Q (.agg (tmC a)) H → ACalls Tryz.prog 55 [.agg (tmC a)] H Q) (h : Q (.sl 6 (Rw tmC l)) H) :
  ACalls Tryz.prog 81 [.sl 6 (Rw tmC l)] H Q := by
 refine acalls_of_wp [] Tryz.mixed Tryz.func81 rfl (by kernel_rfl) (of_decide_eq_true (by kernel_rfl)) (by kernel_rfl) ?_
 simp only [go_sem,seval, Tryz.results81]
 refine loop_c [6, 7] (fun (p : Nat × Option Nat) => [(8, .int .i64 p.1), (3, outG 6 p.1 p.2)]) (fun (p : Nat × Option Nat) => putB H 6 (Rw tmC (l.take p.1)) p.2) (fun (p : Nat × Option Nat) => p.1 ≤ l.length ∧ (p.2 = none → p.1 = 0) ∧ ∀ b, p.2 = some b → H b = none) (fun (p : Nat × Option Nat) => l.length - p.1) ((0, none)) (⟨Nat.zero_le _, fun _ => rfl, fun b hb => by cases hb⟩) (by (try simp only [go_sem,seval]) <;> (try simp (disch := omega) [wrap64]) <;> (try omega)) (by first | with_reducible exact Heap.Le.refl _ | exact heap_set_le (by assumption) | exact Heap.Le.refl _ | exact heap_le_set (by assumption) | exact (by simp only [Go.Av.Heap.Le, Go.Av.Heap.set, Go.Av.Heap.del] at * <;> grind)) ?_
 rintro Ec rfl ⟨k, ob⟩ ⟨hk, h0, h1⟩
 simp only at hk h0 h1
 have hin := OutIn.mk (H := H) (sz := 6) (es := Rw tmC (l.take k)) (ob := ob) (fun e => by rw [h0 e]; rfl) h1
 by_cases hlt : k < l.length
 ·have hkd : decide ((k : Int) < l.length) = true := decide_eq_true (by omega)
  repeat' (first | with_reducible refine And.intro ?_ ?_ | simp only [go_sem,seval, hkd, Rw_at _ _ hlt] | simp (disch := omega) only [wrap64, cell_at, Rw_at] | simp (disch := first | omega | grind) only [heap_ne_, del_ne] | (intro hx_; try simp only [set_none] at hx_) | with_reducible refine hS l[k] (List.getElem_mem hlt) _ _ ?_ | omega)
  refine apS_q (by first | exact hin | exact OutIn.set (hin) (by first | assumption | (refine set_none.2 ?_; assumption) | (simp only [set_none]; assumption) | (simp only [set_none] at *; simp_all; done)) _ | exact OutIn.set (OutIn.set (hin) (by first | assumption | (refine set_none.2 ?_; assumption) | (simp only [set_none]; assumption) | (simp only [set_none] at *; simp_all; done)) _) (by first | assumption | (refine set_none.2 ?_; assumption) | (simp only [set_none]; assumption) | (simp only [set_none] at *; simp_all; done)) _ | exact OutIn.set (OutIn.set (OutIn.set (hin) (by first | assumption | (refine set_none.2 ?_; assumption) | (simp only [set_none]; assumption) | (simp only [set_none] at *; simp_all; done)) _) (by first | assumption | (refine set_none.2 ?_; assumption) | (simp only [set_none]; assumption) | (simp only [set_none] at *; simp_all; done)) _) (by first | assumption | (refine set_none.2 ?_; assumption) | (simp only [set_none]; assumption) | (simp only [set_none] at *; simp_all; done)) _ | exact OutIn.set (OutIn.set (OutIn.set (OutIn.set (hin) (by first | assumption | (refine set_none.2 ?_; assumption) | (simp only [set_none]; assumption) | (simp only [set_none] at *; simp_all; done)) _) (by first | assumption | (refine set_none.2 ?_; assumption) | (simp only [set_none]; assumption) | (simp only [set_none] at *; simp_all; done)) _) (by first | assumption | (refine set_none.2 ?_; assumption) | (simp only [set_none]; assumption) | (simp only [set_none] at *; simp_all; done)) _) (by first | assumption | (refine set_none.2 ?_; assumption) | (simp only [set_none]; assumption) | (simp only [set_none] at *; simp_all; done)) _ ) (by simp) (by first | rfl | (simp only [go_sem,seval, Rw_take_len]; done) | (simp only [go_sem,seval, Rw_take_len]; omega) | simp | (simp; omega)) (by simp only [List.length_cons, List.length_nil]; omega) (by simp only [List.length_cons, List.length_nil]; omega) fun b' hb' hb2 hle => ?_
  repeat' (first | with_reducible refine And.intro ?_ ?_ | simp only [go_sem,seval] | simp (disch := omega) only [wrap64, cell_at, Rw_at] | simp (disch := first | omega | grind) only [heap_ne_, del_ne] | (intro hx_; try simp only [set_none] at hx_) | omega)
  exact nx_mk (k + 1, some b') ⟨by simp only []; omega, (fun e => by cases e), fun b e => by cases e; exact hb'⟩ (by simp only []; omega) (by (try simp only [go_sem,seval]) <;> (try simp (disch := omega) [wrap64]) <;> (try omega)) (putB_le hle (Rw_take_succ l k hlt))
 ·have hkd : decide ((k : Int) < l.length) = false := decide_eq_false (by omega)
  repeat' (first | with_reducible refine And.intro ?_ ?_ | simp only [go_sem,seval, hkd] | simp (disch := omega) only [wrap64, cell_at, Rw_at] | simp (disch := first | omega | grind) only [heap_ne_, del_ne] | (intro hx_; try simp only [set_none] at hx_) | omega)
  exact Fin.o hin (Rw_take_len l k hk).symm (by rw [Rw_take_all l k (by omega)]; exact h)
theorem clone_n (n : Nat) : ∀ {Q} (a : Tm) (hn : SizeOf.sizeOf a ≤ n) (ha : TmFit a) (H : Heap) (h : Q (.agg (tmC a)) H), ACalls Tryz.prog 55 [.agg (tmC a)] H Q := by
 induction n with
 | zero => intro Q a hn; cases a; simp at hn
 | succ n ih =>
 intro Q a hn ha H h
 refine acalls_of_wp [(1, .par)] Tryz.mixed Tryz.func55 rfl (by kernel_rfl) (of_decide_eq_true (by kernel_rfl)) (by kernel_rfl) ?_
 simp only [go_sem,seval, Tryz.results55]
 intro b1 hb1 b2 hb2
 simp only [set_none] at hb2
 refine par_mk (fun i => if i = 2 then .sl 6 (Rw tmC a.kids) else .sl 6 (Rw tmC a.rest)) [b1] ?_
 have h21 : b1 ≠ b2 := by omega
 have hm1 : b1 ∈ [b1] := by simp
 have e4 : (tmC a).set 4 (.sl 6 (Rw tmC a.kids)) = tmC a := by rw [tmC_eta]; rfl
 have e5 : (tmC a).set 5 (.sl 6 (Rw tmC a.rest)) = tmC a := by rw [tmC_eta]; rfl
 repeat' (first | with_reducible refine And.intro ?_ ?_ | simp only [go_sem,seval, hm1, e4, e5] | simp (disch := omega) only [wrap64, cell_at] | simp (disch := first | omega | grind) only [heap_ne_, del_ne] | (intro hx_; try simp only [set_none] at hx_) | with_reducible refine pc0 (fun H' Q hro hq => cloneAll_w a.kids ha.hkl H' (fun x hx Q H h => ih x (by have := kids_lt hx; omega) (ha.kid x hx) H h) hq) ?_ | with_reducible refine pc0 (fun H' Q hro hq => cloneAll_w a.rest ha.hrl H' (fun x hx Q H h => ih x (by have := rest_lt hx; omega) (ha.res x hx) H h) hq) ?_ | omega)
 all_goals (refine Av.Fin.less (H' := H) (by first | with_reducible exact Heap.Le.refl _ | exact heap_le_set (by assumption) | exact (heap_le_set (by assumption)).trans (heap_le_set (by assumption)) | exact (heap_le_set (by assumption)).trans ((heap_le_set (by assumption)).trans (heap_le_set (by assumption))) | exact (by simp only [Go.Av.Heap.Le, Go.Av.Heap.set, Go.Av.Heap.del] at * <;> grind)) ?_; first | exact h | (simp_all; done) | simpa [*] using h)
theorem clone_a {Q} (a : Tm) (ha : TmFit a) (H : Heap) (h : Q (.agg (tmC a)) H) : ACalls Tryz.prog 55 [.agg (tmC a)] H Q := clone_n _ a (Nat.le_refl _) ha H h
theorem parts_n (n : Nat) : ∀ {Q} (l : List Tm) (hn : SizeOf.sizeOf l ≤ n) (hl : l.length ≤ 1466015503658) (fl : ∀ a ∈ l, TmFit a) (left deep : Int) (h0 : -1 ≤ left) (h1 : left ≤ 1500) (h2 : 0 ≤ deep) (h3 : deep ≤ 81) (H : Heap) (h : ∀ r : Int, -1 ≤ r → r ≤ 1500 → Q (.int .i64 r) H),
  ACalls Tryz.prog 61 [.sl 6 (Rw tmC l), .int .i64 left, .int .i64 deep] H Q := by
 induction n with
 | zero => intro Q l hn; cases l <;> simp at hn
 | succ n ih =>
 intro Q l hn hl fl left deep h0 h1 h2 h3 H h
 refine acalls_of_wp [] Tryz.mixed Tryz.func61 rfl (by kernel_rfl) (of_decide_eq_true (by kernel_rfl)) (by kernel_rfl) ?_
 simp only [go_sem,seval, Tryz.results61]
 have hwd : IntKind.i64.wrap (deep + 1) = deep + 1 := wrap64 (by omega) (by omega)
 have hdv : ∀ a : Int, 0 ≤ a → a ≤ 1000000000000000 → IntKind.i64.wrap (a.tdiv 50) = a / 50 := fun a h1 h2 => by rw [Int.tdiv_eq_ediv_of_nonneg h1]; exact wrap64 (by omega) (by omega)
 repeat' (first | with_reducible refine And.intro ?_ ?_ | simp only [go_sem,seval, hwd] | simp (disch := omega) only [wrap64, cell_at, Rw_at] | simp (disch := first | omega | grind) only [heap_ne_, del_ne] | (intro hx_; try simp only [set_none] at hx_) | omega)
 ·exact Fin.same (h _ (by omega) (by omega))
 ·refine loop_c [2, 11, 12] (fun (p : Nat × Int) => [(13, .int .i64 p.1), (1, .int .i64 p.2)]) (fun (p : Nat × Int) => H) (fun (p : Nat × Int) => p.1 ≤ l.length ∧ -1 ≤ p.2 ∧ p.2 ≤ 1500) (fun (p : Nat × Int) => l.length - p.1) ((0, left)) (⟨Nat.zero_le _, h0, h1⟩) (by (try simp only [go_sem,seval]) <;> (try simp (disch := omega) [wrap64]) <;> (try omega)) (by first | with_reducible exact Heap.Le.refl _ | exact heap_set_le (by assumption) | exact Heap.Le.refl _ | exact heap_le_set (by assumption) | exact (by simp only [Go.Av.Heap.Le, Go.Av.Heap.set, Go.Av.Heap.del] at * <;> grind)) ?_
  rintro Ec rfl ⟨k, M⟩ ⟨q1, q2, q3⟩
  simp only at q1 q2 q3
  by_cases hlt : k < l.length
  ·have hkd : decide ((k : Int) < l.length) = true := decide_eq_true (by omega)
   have hm := List.getElem_mem hlt
   have hf := fl _ hm
   have hx := hf.hx
   have hs := hf.hs
   have hsz := List.sizeOf_lt_of_mem hm
   have hsk : SizeOf.sizeOf l[k].kids < SizeOf.sizeOf l[k] := by cases l[k]; simp [Tm.kids]; omega
   have hsr : SizeOf.sizeOf l[k].rest < SizeOf.sizeOf l[k] := by cases l[k]; simp [Tm.rest]; omega
   have e1 : IntKind.i64.wrap ((l[k].text.size : Int) + l[k].sort.size) = (l[k].text.size : Int) + l[k].sort.size := wrap64 (by omega) (by omega)
   have e2 := hdv ((l[k].text.size : Int) + l[k].sort.size) (by omega) (by omega)
   have e3 : IntKind.i64.wrap (1 + ((l[k].text.size : Int) + l[k].sort.size) / 50) = 1 + ((l[k].text.size : Int) + l[k].sort.size) / 50 := wrap64 (by omega) (by omega)
   have e4 : IntKind.i64.wrap (M - (1 + ((l[k].text.size : Int) + l[k].sort.size) / 50)) = M - (1 + ((l[k].text.size : Int) + l[k].sort.size) / 50) := wrap64 (by omega) (by omega)
   repeat' (first | with_reducible refine And.intro ?_ ?_ | simp only [go_sem,seval, hkd, hwd, Rw_at _ _ hlt, e1, e2, e3, e4] | simp (disch := omega) only [wrap64, cell_at, Rw_at] | simp (disch := first | omega | grind) only [heap_ne_, del_ne] | (intro hx_; try simp only [set_none] at hx_) | with_reducible refine ih l[k].kids (by omega) hf.hkl hf.kid _ _ (by omega) (by omega) (by omega) (by omega) _ ?_ | with_reducible refine ih l[k].rest (by omega) hf.hrl hf.res _ _ (by omega) (by omega) (by omega) (by omega) _ ?_ | omega)
   ·exact Fin.less (by simp only [Go.Av.Heap.Le, Go.Av.Heap.set, Go.Av.Heap.del] at * <;> grind) (h _ (by omega) (by omega))
   ·exact Fin.less (by simp only [Go.Av.Heap.Le, Go.Av.Heap.set, Go.Av.Heap.del] at * <;> grind) (h _ (by omega) (by omega))
   ·rename_i r2 h4 h5
    exact nx_mk (k + 1, r2) ⟨by simp only []; omega, h4, h5⟩ (by simp only []; omega) (by (try simp only [go_sem,seval]) <;> (try simp (disch := omega) [wrap64]) <;> (try omega)) (by simp only [Go.Av.Heap.Le, Go.Av.Heap.set, Go.Av.Heap.del] at * <;> grind)
  ·have hkd : decide ((k : Int) < l.length) = false := decide_eq_false (by omega)
   repeat' (first | with_reducible refine And.intro ?_ ?_ | simp only [go_sem,seval, hkd] | simp (disch := omega) only [wrap64, cell_at, Rw_at] | simp (disch := first | omega | grind) only [heap_ne_, del_ne] | (intro hx_; try simp only [set_none] at hx_) | omega)
   exact Fin.same (h _ q2 q3)
theorem few_a {Q} (l : List Tm) (hl : l.length ≤ 1466015503658) (fl : ∀ a ∈ l, TmFit a) (H : Heap) (h : ∀ b, Q (.bool b) H) : ACalls Tryz.prog 31 [.int .i64 1500, .sl 6 (Rw tmC l)] H Q := by
 refine acalls_of_wp [] Tryz.mixed Tryz.func31 rfl (by kernel_rfl) (of_decide_eq_true (by kernel_rfl)) (by kernel_rfl) ?_
 simp only [go_sem,seval, Tryz.results31]
 repeat' (first | with_reducible refine And.intro ?_ ?_ | simp only [go_sem,seval] | simp (disch := omega) only [wrap64, cell_at] | simp (disch := first | omega | grind) only [heap_ne_, del_ne] | (intro hx_; try simp only [set_none] at hx_) | with_reducible refine parts_n _ l (Nat.le_refl _) hl fl 1500 0 (by omega) (by omega) (by omega) (by omega) _ ?_ | omega)
 exact Fin.same (h _)
end Go.Proofs.YtmohcdihdhggoaaGreatDoor
end
section
set_option maxRecDepth 20000
namespace Go.Av
theorem p_apZ {P : Program} {c : CR} {bl : Bl} {ev : Operand → D} {H0 : Heap} {KD : D → Heap → Prop} {s x : Operand} {t t' : Nat} (e by_ : Nat) {sz n m bx : Nat} {ob : Option Nat} {es xs : List (List D)}
  (hT : elemT P t = some (e, sz, by_)) (hz : 0 < sz) (h1 : apT (baseT P t')) (h2 : apZ (zeroD P e) sz) (hs : ev s = outG sz n ob) (hx : ev x = .vec bx sz 0 m) (hx0 : H0 bx = none) (hm : m = xs.length) (hne : xs ≠ [])
  (hout : OutAt H0 sz es ob) (hn : n = es.length) (hbl : ∀ c ∈ bl.l, ∃ o, H0 c = some o ∧ o ≠ .vec sz es)
  (h3 : (n + xs.length) * by_ ≤ 140737488355328) (h4 : n + xs.length ≤ 9223372036854775807)
  (h : ∀ b' H', Apd H0 sz ob (es ++ xs) b' H' → KD (.vec b' sz 0 (n + xs.length)) H') : pOp P c bl ev (H0.set bx (.vec sz xs)) KD (.call ⟨.builtin .append, #[s, x], #[t, t']⟩) := by
 have hob : ob ≠ some bx := fun e => by subst e; have : H0 bx = some (.vec sz es) := hout; rw [hx0] at this; cases this
 have hout2 : OutAt (H0.set bx (.vec sz xs)) sz es ob := by
  cases ob with
  | none => exact hout
  | some c => show Heap.set _ bx _ c = _; rw [heap_ne _ (fun e => hob (by rw [e]))]; exact hout
 refine p_apS e by_ hT hz h1 h2 hs hx (heap_same _ _) hm hne hout2 hn (fun hb => ?_) hob (fun c hc hb => ?_) h3 h4 fun b' hb' => ?_
 ·obtain ⟨o, h5, _⟩ := hbl bx hb; rw [hx0] at h5; cases h5
 ·obtain ⟨o, h5, h7⟩ := hbl c hb
  subst hc
  have h6 : H0 c = some (.vec sz es) := hout
  rw [h5] at h6; exact h7 (Option.some.inj h6)
 ·rw [set_del hx0] at hb' ⊢
  exact h b' _ ⟨heap_same _ _, fun q x hq hqo => keepK hq hqo hb', newK hb'⟩
end Go.Av
namespace Go.Proofs.YtmohcdihdhggoaaGreatDoor
open Go Go.Av Go.Lexs Go.Bis
attribute [local irreducible] ACalls at8
set_option maxHeartbeats 4000000 in
theorem bSmall_a {Q} (s : Sy) (hs : SyFit s) (hm : validY s = true → ∀ l ∈ s.next, l.length ≤ 900) (H : Heap) (hT : Tabs H) (h : Q (smallR s) H) : ACalls Tryz.prog 24 [.agg (syC s)] H Q := by
 refine acalls_of_wp [(13, .par), (24, .par), (31, .ord [0, 1, 2, 3, 4, 5, 6])] Tryz.mixed Tryz.func24 rfl (by kernel_rfl) (of_decide_eq_true (by kernel_rfl)) (by kernel_rfl) ?_
 simp only [go_sem,seval, Tryz.results24]
 unfold smallR at h
 intro b1 hb1 b2 hb2
 have e1 : ((H.set b1 (.box (syC s))).set b2 (.box [.nilsl, .nilsl, .nilsl])) b1 = some (.box (syC s)) := by rw [heap_ne _ (by rintro rfl; rw [heap_same] at hb2; cases hb2)]; exact heap_same _ _
 have e2 : ((H.set b1 (.box (syC s))).set b2 (.box [.nilsl, .nilsl, .nilsl])) b2 = some (.box [.nilsl, .nilsl, .nilsl]) := heap_same _ _
 have hle : H.Le ((H.set b1 (.box (syC s))).set b2 (.box [.nilsl, .nilsl, .nilsl])) := (heap_le_set hb1).trans (heap_le_set hb2)
 have hH2 : H b2 = none := (heap_le_set hb1).none hb2
 have hT2 : Tabs ((H.set b1 (.box (syC s))).set b2 (.box [.nilsl, .nilsl, .nilsl])) := hT.le hle
 generalize (H.set b1 (.box (syC s))).set b2 (.box [.nilsl, .nilsl, .nilsl]) = Bs at e1 e2 hle hT2 ⊢
 cases hvs : validY s with
 | false =>
  rw [hvs, if_neg (by simp)] at h
  repeat' (first | with_reducible refine And.intro ?_ ?_ | simp only [go_sem,seval, e1, e2, hvs] | simp (disch := omega) only [wrap64, cell_at, Rw_at, nxS_at] | simp (disch := first | omega | grind) only [heap_ne_, del_ne] | (intro hx_; try simp only [set_none] at hx_) | with_reducible refine bvalid_a s hs _ ?_ | omega)
  refine Fin.less (H' := H) (fun q o hq => ?_) h
  rw [heap_ne _ (fun e => by rw [e, hH2] at hq; cases hq)]
  exact hle q o hq
 | true =>
  rw [hvs, if_pos rfl] at h
  have ho := validY_ok hvs
  have hn1 := validY_n hvs
  have hp := validY_pl hvs
  have hm := hm hvs
  repeat' (first | with_reducible refine And.intro ?_ ?_ | simp only [go_sem,seval, e1, e2, hvs] | simp (disch := omega) only [wrap64, cell_at, Rw_at, nxS_at] | simp (disch := first | omega | grind) only [heap_ne_, del_ne] | (intro hx_; try simp only [set_none] at hx_) | with_reducible refine bvalid_a s hs _ ?_ | omega)
  refine classes_a s hs ho hp _ hT2 (fun kk hkk hno => ?_)
  have hal := allS_length s kk
  have hkl : kk < (allS s kk).length := by omega
  have hat : (allS s kk)[kk] = fixS s := by rw [← itS_fix hkk]; simp [allS]
  have hk1 : (((kk + 1 : Nat) : Int) - 1).toNat = kk := by omega
  have hkf := itS_few _ kk hno
  have hfl := fixS_length s
  have hll := leadsL_length s
  have l0 : 0 < (leadsL s).length := by omega
  have h0 : (leadsL s)[0] = toN s 0 := by simp [leadsL, toN]
  have hl0 : (0 : Int) < s.seen.length := by omega
  repeat' (first | with_reducible refine And.intro ?_ ?_ | simp only [go_sem,seval, hal, hk1, Rw_at _ _ hkl, hat, Rw_at _ _ l0, Rw_get _ _ l0, h0, hll, hl0] | simp (disch := omega) only [wrap64, cell_at, Rw_at, nxS_at] | simp (disch := first | omega | grind) only [heap_ne_, del_ne] | (intro hx_; try simp only [set_none] at hx_) | omega)
  rename_i b7 hf7 b8
  have hf8 := hx_
  clear hx_
  have n87 : b8 ≠ b7 := hf8.1
  have hB8 : Bs b8 = none := hf8.2
  have n17 : b1 ≠ b7 := fun e => by rw [e, hf7] at e1; cases e1
  have n18 : b1 ≠ b8 := fun e => by rw [e, hB8] at e1; cases e1
  have hst0 : SmI s Bs b7 b8 0 none none none ((Bs.set b7 (.box [.nilsl, .nilsl, .nilsl])).set b8 (.map [])) := ⟨Nat.zero_le _, by rw [heap_ne _ (Ne.symm n87)]; exact heap_same _ _, heap_same _ _, rfl, rfl, rfl, (fun q o hq => by rw [heap_ne _ (fun e => by rw [e, hB8] at hq; cases hq), heap_ne _ (fun e => by rw [e, hf7] at hq; cases hq)]; exact hq), (fun c e => by cases e), (fun c e => by cases e), (fun c e => by cases e), (fun c e => by cases e)⟩
  refine loop_c [1, 2, 5, 6, 7, 8, 39, 40] (fun (p : Nat × (Option Nat × Option Nat × Option Nat) × Heap) => [(41, .int .i64 p.1)]) (fun (p : Nat × (Option Nat × Option Nat × Option Nat) × Heap) => p.2.2) (fun (p : Nat × (Option Nat × Option Nat × Option Nat) × Heap) => SmI s Bs b7 b8 p.1 p.2.1.1 p.2.1.2.1 p.2.1.2.2 p.2.2) (fun (p : Nat × (Option Nat × Option Nat × Option Nat) × Heap) => (toN s 0).length - p.1) ((0, (none, none, none), ((Bs.set b7 (.box [.nilsl, .nilsl, .nilsl])).set b8 (.map [])))) (hst0) (by (try simp only [go_sem,seval]) <;> (try simp (disch := omega) [wrap64]) <;> (try omega)) (by first | with_reducible exact Heap.Le.refl _ | exact heap_set_le (by assumption) | exact Heap.Le.refl _ | exact heap_le_set (by assumption) | exact (by simp only [Go.Av.Heap.Le, Go.Av.Heap.set, Go.Av.Heap.del] at * <;> grind)) ?_
  rintro Ec rfl ⟨k, ⟨oT, oF, oN⟩, Hs⟩ hI
  simp only at hI
  have hkl := hI.kl
  have r1 := hI.keep _ _ e1
  have r7 := hI.box
  have r8 := hI.map
  have hml := pkN_len s k
  have htl : (toN s 0).length ≤ s.seen.length := by rw [toN_re]; exact Nat.le_trans (List.length_filter_le _ _) (by simp)
  by_cases hlt : k < (toN s 0).length
  ·have hkd : decide ((k : Int) < (toN s 0).length) = true := decide_eq_true (by omega)
   have hin : (toN s 0)[k] < s.seen.length := toN_mem (List.getElem_mem hlt)
   have hif : (toN s 0)[k] < (fixS s).length := by omega
   have hii : (((toN s 0)[k] : Nat) : Int) < s.seen.length := by omega
   have hcl : (fixS s)[(toN s 0)[k]] = clN s (toN s 0)[k] := by simp [clN, hif]
   by_cases hng : numI (clN s) (pkN s k) (clN s (toN s 0)[k]) < 0
   ·have hfn := find_new hng
    have hk1 := pkN_new hlt hng
    have hsl : (pkS s k).length = (pkN s k).length := by simp [pkS]
    have hfr : (pkF s k).length = (pkN s k).length := by simp [pkF]
    have hT0 : oT = none → (pkN s k).length = 0 := fun e => by
     have := hI.tT; subst e
     have h2 : Rw tmC (pkS s k) = [] := this
     have h3 := congrArg List.length h2
     rw [Rw_len, hsl] at h3; exact h3
    have hlenT : lenD Tryz.prog 22 (outG 6 (pkN s k).length oT) = some (.int .i64 (pkN s k).length) := by
     rw [len_out hT0]; first | (simp only [go_sem,seval]; done) | rfl
    repeat' (first | with_reducible refine And.intro ?_ ?_ | simp only [go_sem,seval, hkd, r1, r7, r8, Rw_at _ _ hlt, Rw_get _ _ hlt, hfl, hii, Rw_at _ _ hif, Rw_get _ _ hif, hcl, hfn, hlenT] | simp (disch := omega) only [wrap64, cell_at, Rw_at, nxS_at] | simp (disch := first | omega | grind) only [heap_ne_, del_ne] | (intro hx_; try simp only [set_none] at hx_) | omega)
    have w1 : ∀ o, (Hs.set b8 o) b1 = some (.box (syC s)) := fun o => by rw [heap_ne _ n18]; exact r1
    have w7 : ∀ o, (Hs.set b8 o) b7 = some (.box [outG 6 (pkN s k).length oT, outG 1 (pkN s k).length oF, outG 1 (pkN s k).length oN]) := fun o => by rw [heap_ne _ (Ne.symm n87)]; exact r7
    refine par_mk2 (fun i => if i = 7 then .c (.agg (tmC s.seen[(toN s 0)[k]])) else .c .undef) [b1, b7] ?_
    have m1 : b1 ∈ [b1, b7] := by simp
    have m2 : b7 ∈ [b1, b7] := by simp
    have hone1 : (outG 6 (pkN s k).length oT).one = true := by cases oT <;> rfl
    have hone2 : (outG 1 (pkN s k).length oF).one = true := by cases oF <;> rfl
    have hone3 : (outG 1 (pkN s k).length oN).one = true := by cases oN <;> rfl
    unfold D.one at hone1 hone2 hone3
    have htm := hs.tm _ (List.getElem_mem hin)
    repeat' (first | with_reducible refine And.intro ?_ ?_ | simp only [go_sem,seval, w1, w7, m1, m2, hii, Rw_at _ _ hin, hone1, hone2, hone3] | simp (disch := omega) only [wrap64, cell_at, Rw_at, nxS_at] | simp (disch := first | omega | grind) only [heap_ne_, del_ne] | (intro hx_; try simp only [set_none] at hx_) | omega)
    refine pc0 (fun H' Q hro hq => clone_a _ htm H' hq) ?_
    repeat' (first | with_reducible refine And.intro ?_ ?_ | simp only [go_sem,seval, w1, w7, m1, m2, hii, Rw_at _ _ hin, hone1, hone2, hone3] | simp (disch := omega) only [wrap64, cell_at, Rw_at, nxS_at] | simp (disch := first | omega | grind) only [heap_ne_, del_ne] | (intro hx_; try simp only [set_none] at hx_) | omega)
    rename_i x1
    have hx1 := hx_
    clear hx_
    generalize hM : Av.Obj.map (kvC (clN s) 0 (pkN s k) ++ [(D.int IntKind.i64 ((clN s (toN s 0)[k] : Nat) : Int), D.int IntKind.i64 ((pkN s k).length : Int))]) = M at hx1 ⊢
    have hx1 : (Hs.set b8 M) x1 = none := set_none.2 hx1
    have k1 : ∀ q o, q ≠ b8 → Hs q = some o → (Hs.set b8 M) q = some o := fun q o hq ho => by rw [heap_ne _ hq]; exact ho
    have k8 : (Hs.set b8 M) b8 = some (.map (kvC (clN s) 0 (pkN s (k + 1)))) := by rw [heap_same, ← hM, hk1, kvC_snoc, Nat.zero_add]
    have u1 := w1 M
    have u7 := w7 M
    have notM : ∀ {sz : Nat} {es : List (List D)} {ob : Option Nat}, OutAt Hs sz es ob → ob ≠ some b8 := fun h => outAt_ne h r8 (by simp)
    have uT := outAt_keep hI.tT (H' := Hs.set b8 M) (fun q o hq e => k1 q o (fun g => notM hI.tT (by rw [e, g])) hq)
    have uF := outAt_keep hI.tF (H' := Hs.set b8 M) (fun q o hq e => k1 q o (fun g => notM hI.tF (by rw [e, g])) hq)
    have uN := outAt_keep hI.tN (H' := Hs.set b8 M) (fun q o hq e => k1 q o (fun g => notM hI.tN (by rw [e, g])) hq)
    have uK : ∀ q o, Bs q = some o → (Hs.set b8 M) q = some o := fun q o hq => k1 q o (fun e => by rw [e, hB8] at hq; cases hq) (hI.keep q o hq)
    generalize Hs.set b8 M = H1 at hx1 k8 u1 u7 uT uF uN uK ⊢
    clear k1 w1 w7 r1 r7 r8 notM
    have hle6 : (pkN s k).length < 1000 := by omega
    refine p_apZ 41 96 (n := (pkN s k).length) (m := 1) (ob := oT) (es := Rw tmC (pkS s k)) (xs := [tmC s.seen[(toN s 0)[k]]]) (by simp only [go_sem,seval]) (by decide) (by simp only [go_sem,seval]) (by simp only [go_sem,seval]) (by simp only [go_sem,seval]) (by simp only [go_sem,seval]) hx1 rfl (by simp) uT (by rw [Rw_len, hsl]) (fun c hc => by simp only [List.mem_cons, List.not_mem_nil, or_false] at hc; rcases hc with rfl | rfl; exact ⟨_, u1, by simp⟩; exact ⟨_, u7, by simp⟩) (by simp only [List.length_cons, List.length_nil]; omega) (by simp only [List.length_cons, List.length_nil]; omega) fun bT H2 hA2 => ?_
    obtain ⟨vT, vK, vN⟩ := hA2
    have v1 := vK _ _ u1 (outAt_ne uT u1 (by simp))
    have v7 := vK _ _ u7 (outAt_ne uT u7 (by simp))
    have v8 := vK _ _ k8 (outAt_ne uT k8 (by simp))
    have vF := outAt_keep uF (fun q o hq e => vK q o hq (fun g => by subst e; have h1 : H1 q = _ := uF; subst g; have h2 : H1 q = _ := uT; rw [h1] at h2; simp at h2))
    have vN' := outAt_keep uN (fun q o hq e => vK q o hq (fun g => by subst e; have h1 : H1 q = _ := uN; subst g; have h2 : H1 q = _ := uT; rw [h1] at h2; simp at h2))
    have vKs : ∀ q o, Bs q = some o → H2 q = some o := fun q o hq => vK q o (uK q o hq) (fun g => by have := hI.nT q g; rw [hq] at this; cases this)
    have vB : Bs bT = none := by
     rcases vN with g | g
     ·cases hb : Bs bT with
      | none => rfl
      | some o => rw [uK _ _ hb] at g; cases g
     ·exact hI.nT _ g
    clear vK vN uT uF uN uK k8 u1 u7
    have hfl2 := ho.f
    have hif2 : (toN s 0)[k] < s.final.length := by omega
    have hii2 : (((toN s 0)[k] : Nat) : Int) < s.final.length := by omega
    repeat' (first | with_reducible refine And.intro ?_ ?_ | simp only [go_sem,seval, v1, v7, m1, m2, hii2, Rw_at _ _ hif2, hone1, hone2, hone3] | simp (disch := omega) only [wrap64, cell_at, Rw_at, nxS_at] | simp (disch := first | omega | grind) only [heap_ne_, del_ne] | (intro hx_; try simp only [set_none] at hx_) | omega)
    rename_i x2
    have hx2 := hx_
    clear hx_
    refine p_apZ 4 1 (n := (pkN s k).length) (m := 1) (ob := oF) (es := Rw boolC (pkF s k)) (xs := [[.bool s.final[(toN s 0)[k]]]]) (by simp only [go_sem,seval]) (by decide) (by simp only [go_sem,seval]) (by simp only [go_sem,seval]) (by simp only [go_sem,seval]) (by simp only [go_sem,seval]) hx2 rfl (by simp) vF (by rw [Rw_len, hfr]) (fun c hc => by simp only [List.mem_cons, List.not_mem_nil, or_false] at hc; rcases hc with rfl | rfl; exact ⟨_, v1, by simp⟩; exact ⟨_, v7, by simp⟩) (by simp only [List.length_cons, List.length_nil]; omega) (by simp only [List.length_cons, List.length_nil]; omega) fun bF H3 hA3 => ?_
    obtain ⟨wF, wK, wN⟩ := hA3
    have w1 := wK _ _ v1 (outAt_ne vF v1 (by simp))
    have w7 := wK _ _ v7 (outAt_ne vF v7 (by simp))
    have w8 := wK _ _ v8 (outAt_ne vF v8 (by simp))
    have wT := wK _ _ vT (outAt_ne vF vT (by simp))
    have wN' := outAt_keep vN' (fun q o hq e => wK q o hq (fun g => hI.aFN q g e))
    have wKs : ∀ q o, Bs q = some o → H3 q = some o := fun q o hq => wK q o (vKs q o hq) (fun g => by have := hI.nF q g; rw [hq] at this; cases this)
    have wB : Bs bF = none := by
     rcases wN with g | g
     ·cases hb : Bs bF with
      | none => rfl
      | some o => rw [vKs _ _ hb] at g; cases g
     ·exact hI.nF _ g
    have wFN : oN ≠ some bF := fun e => by
     rcases wN with g | g
     ·subst e; have h2 : H2 bF = _ := vN'; rw [g] at h2; cases h2
     ·exact hI.aFN _ g e
    clear wK wN v1 v7 v8 vT vF vN' vKs
    repeat' (first | with_reducible refine And.intro ?_ ?_ | simp only [go_sem,seval, w1, w7, m1, m2, hone1, hone2, hone3] | simp (disch := omega) only [wrap64, cell_at, Rw_at, nxS_at] | simp (disch := first | omega | grind) only [heap_ne_, del_ne] | (intro hx_; try simp only [set_none] at hx_) | omega)
    rename_i x3
    have hx3 := hx_
    clear hx_
    refine p_apZ 29 24 (n := (pkN s k).length) (m := 1) (ob := oN) (es := List.replicate (pkN s k).length [.nilsl]) (xs := [[.nilsl]]) (by simp only [go_sem,seval]) (by decide) (by simp only [go_sem,seval]) (by simp only [go_sem,seval]) (by simp only [go_sem,seval]) (by simp only [go_sem,seval]) hx3 rfl (by simp) wN' (by simp) (fun c hc => by simp only [List.mem_cons, List.not_mem_nil, or_false] at hc; rcases hc with rfl | rfl; exact ⟨_, w1, by simp⟩; exact ⟨_, w7, by simp⟩) (by simp only [List.length_cons, List.length_nil]; omega) (by simp only [List.length_cons, List.length_nil]; omega) fun bN H4 hA4 => ?_
    obtain ⟨yN, yK, yW⟩ := hA4
    have y1 := yK _ _ w1 (outAt_ne wN' w1 (by simp))
    have y7 := yK _ _ w7 (outAt_ne wN' w7 (by simp))
    have y8 := yK _ _ w8 (outAt_ne wN' w8 (by simp))
    have yT := yK _ _ wT (outAt_ne wN' wT (by simp))
    have yF := yK _ _ wF wFN
    have yKs : ∀ q o, Bs q = some o → H4 q = some o := fun q o hq => yK q o (wKs q o hq) (fun g => by have := hI.nN q g; rw [hq] at this; cases this)
    have yB : Bs bN = none := by
     rcases yW with g | g
     ·cases hb : Bs bN with
      | none => rfl
      | some o => rw [wKs _ _ hb] at g; cases g
     ·exact hI.nN _ g
    have yFN : bN ≠ bF := fun e => by
     rcases yW with g | g
     ·rw [e, wF] at g; cases g
     ·exact wFN (by rw [g, e])
    clear yK yW w1 w7 w8 wT wF wN' wKs wFN
    repeat' (first | with_reducible refine And.intro ?_ ?_ | simp only [go_sem,seval, y1, y7, m1, m2, hone1, hone2, hone3] | simp (disch := omega) only [wrap64, cell_at, Rw_at, nxS_at] | simp (disch := first | omega | grind) only [heap_ne_, del_ne] | (intro hx_; try simp only [set_none] at hx_) | omega)
    have n7 : ∀ q o, H4 q = some o → (∀ cs, o ≠ .box cs) → q ≠ b7 := fun q o hq h e => by rw [e, y7] at hq; exact h _ (Option.some.inj hq).symm
    have ls : (pkN s (k + 1)).length = (pkN s k).length + 1 := by rw [hk1]; simp
    have eS : Rw tmC (pkS s (k + 1)) = Rw tmC (pkS s k) ++ [tmC s.seen[(toN s 0)[k]]] := by unfold pkS; rw [hk1]; simp [Rw, hin]
    have eF : Rw boolC (pkF s (k + 1)) = Rw boolC (pkF s k) ++ [[.bool s.final[(toN s 0)[k]]]] := by unfold pkF; rw [hk1]; simp [Rw, boolC, hif2]
    have eN : List.replicate (pkN s (k + 1)).length [D.nilsl] = List.replicate (pkN s k).length [D.nilsl] ++ [[D.nilsl]] := by rw [ls, List.replicate_succ']
    refine nx_mk (k + 1, (some bT, some bF, some bN), H4.set b7 (.box [.vec bT 6 0 ((pkN s k).length + 1), .vec bF 1 0 ((pkN s k).length + 1), .vec bN 1 0 ((pkN s k).length + 1)])) ?_ (by simp only []; omega) (by (try simp only [go_sem,seval]) <;> (try simp (disch := omega) [wrap64]) <;> (try omega)) (Heap.Le.refl _)
    simp only []
    refine ⟨by omega, by rw [heap_same, ls]; rfl, by rw [heap_ne _ n87]; exact y8, ?_, ?_, ?_, (fun q o hq => ?_), (fun c e => by cases e; exact vB), (fun c e => by cases e; exact wB), (fun c e => by cases e; exact yB), (fun c e g => by cases e; cases g; exact yFN rfl)⟩
    ·show Heap.set _ b7 _ bT = _; rw [heap_ne _ (n7 _ _ yT (by simp)), eS]; exact yT
    ·show Heap.set _ b7 _ bF = _; rw [heap_ne _ (n7 _ _ yF (by simp)), eF]; exact yF
    ·show Heap.set _ b7 _ bN = _; rw [heap_ne _ (n7 _ _ yN (by simp)), eN]; exact yN
    ·rw [heap_ne _ (fun e => by rw [e, hf7] at hq; cases hq)]; exact yKs q o hq
   ·obtain ⟨m, hm1, hfo⟩ := find_old hng
    have hk1 := pkN_old hlt hng
    repeat' (first | with_reducible refine And.intro ?_ ?_ | simp only [go_sem,seval, hkd, r1, r7, r8, Rw_at _ _ hlt, Rw_get _ _ hlt, hfl, hii, Rw_at _ _ hif, Rw_get _ _ hif, hcl, hfo] | simp (disch := omega) only [wrap64, cell_at, Rw_at, nxS_at] | simp (disch := first | omega | grind) only [heap_ne_, del_ne] | (intro hx_; try simp only [set_none] at hx_) | omega)
    refine nx_mk (k + 1, (oT, oF, oN), Hs) ?_ (by simp only []; omega) (by (try simp only [go_sem,seval]) <;> (try simp (disch := omega) [wrap64]) <;> (try omega)) (Heap.Le.refl _)
    simp only []
    have e2 : pkS s (k + 1) = pkS s k := by unfold pkS; rw [hk1]
    have e3 : pkF s (k + 1) = pkF s k := by unfold pkF; rw [hk1]
    exact ⟨by omega, by rw [hk1]; exact r7, by rw [hk1]; exact r8, by rw [e2]; exact hI.tT, by rw [e3]; exact hI.tF, by rw [hk1]; exact hI.tN, hI.keep, hI.nT, hI.nF, hI.nN, hI.aFN⟩
  ·have hkd : decide ((k : Int) < (toN s 0).length) = false := decide_eq_false (by omega)
   have hkk : k = (toN s 0).length := by omega
   have hpk : pkN s k = repsS s := pkN_all (by omega)
   obtain ⟨z1, z2⟩ := num_zero (s := s) hn1.1
   have tT := hI.tT
   have tF := hI.tF
   have tN := hI.tN
   have eS : pkS s k = (smallS s).seen := by unfold pkS; rw [hpk]; rfl
   have eF : pkF s k = (smallS s).final := by unfold pkF; rw [hpk]; rfl
   obtain ⟨sl1, sl2, sl3⟩ := small_len s
   rw [eS] at tT
   rw [eF] at tF
   rw [hpk] at tN r7 r8
   have nT := hI.nT
   have nF := hI.nF
   have nN := hI.nN
   have aFN := hI.aFN
   have kB := hI.keep
   rcases oT with _ | cT
   ·have h2 : Rw tmC (smallS s).seen = [] := tT
    have h3 := congrArg List.length h2
    rw [Rw_len, sl1, List.length_nil] at h3; omega
   rcases oF with _ | cF
   ·have h2 : Rw boolC (smallS s).final = [] := tF
    have h3 := congrArg List.length h2
    rw [Rw_len, sl2, List.length_nil] at h3; omega
   rcases oN with _ | cN
   ·have h2 : List.replicate (repsS s).length [D.nilsl] = [] := tN
    have h3 := congrArg List.length h2
    rw [List.length_replicate, List.length_nil] at h3; omega
   change Hs cT = some (.vec 6 (Rw tmC (smallS s).seen)) at tT
   change Hs cF = some (.vec 1 (Rw boolC (smallS s).final)) at tF
   change Hs cN = some (.vec 1 (List.replicate (repsS s).length [D.nilsl])) at tN
   change Hs b7 = some (.box [.vec cT 6 0 (repsS s).length, .vec cF 1 0 (repsS s).length, .vec cN 1 0 (repsS s).length]) at r7
   have nFN : cF ≠ cN := fun e => aFN cF rfl (by rw [e])
   have hz : ∀ q o, q ≠ cN → Hs q = some o → (Hs.del cN) q = some o := fun q o hq ho => by rw [del_ne hq]; exact ho
   have hzN : (Hs.del cN) cN = none := by simp [Heap.del]
   have z_1 := hz b1 _ (fun e => by rw [e, tN] at r1; simp at r1) r1
   have z_7 := hz b7 _ (fun e => by rw [e, tN] at r7; simp at r7) r7
   have z_8 := hz b8 _ (fun e => by rw [e, tN] at r8; simp at r8) r8
   have z_T := hz cT _ (fun e => by rw [e, tN] at tT; simp at tT) tT
   have z_F := hz cF _ nFN tF
   have z_B : ∀ q o, Bs q = some o → (Hs.del cN) q = some o := fun q o hq => hz q o (fun e => by have := nN cN rfl; rw [e, this] at hq; cases hq) (kB q o hq)
   have hz2 : ∀ q o, (Hs.del cN) q = some o → Hs q = some o := fun q o hq => Heap.del_le Hs cN q o hq
   have hBT := nT cT rfl
   have hBF := nF cF rfl
   have hBN := nN cN rfl
   generalize hBz : Hs.del cN = Bz at hzN z_1 z_7 z_8 z_T z_F z_B hz2
   have hJ0 : SmJ s Bz cN (wTo s 0) 0 (List.replicate (repsS s).length ⟨false, none, []⟩) Hs := by
    refine ⟨by simp, fun c h => by simp, ⟨by rw [tN]; congr 2; simp [Rw, rrC, outG], fun q h _ => ?_, fun q q' h h' b _ _ e => ?_, fun q h b _ e => ?_⟩, hz2, fun c h e => ?_, fun c h x => ?_, fun c h => by simp⟩
    ·simp; rfl
    ·simp at e
    ·simp at e
    ·simp at e
    ·simp [wTo]
   clear hI tN nT nF nN aFN kB hz r1 r7 r8 tT tF
   repeat' (first | with_reducible refine And.intro ?_ ?_ | simp only [go_sem,seval, hkd, Rw_at _ _ l0, Rw_get _ _ l0, h0, hll, hl0] | simp (disch := omega) only [wrap64, cell_at, Rw_at, nxS_at] | simp (disch := first | omega | grind) only [heap_ne_, del_ne] | (intro hx_; try simp only [set_none] at hx_) | omega)
   refine loop_c [1, 2, 6, 7, 8, 93, 94] (fun (p : Nat × List Rr × Heap) => [(95, .int .i64 p.1)]) (fun (p : Nat × List Rr × Heap) => p.2.2) (fun (p : Nat × List Rr × Heap) => p.1 ≤ (toN s 0).length ∧ SmJ s Bz cN (wTo s p.1) (900 * p.1) p.2.1 p.2.2) (fun (p : Nat × List Rr × Heap) => (toN s 0).length - p.1) ((0, List.replicate (repsS s).length ⟨false, none, []⟩, Hs)) (⟨Nat.zero_le _, hJ0⟩) (by (try simp only [go_sem,seval]) <;> (try simp (disch := omega) [wrap64]) <;> (try omega)) (by first | with_reducible exact Heap.Le.refl _ | exact heap_set_le (by assumption) | exact Heap.Le.refl _ | exact heap_le_set (by assumption) | exact (by simp only [Go.Av.Heap.Le, Go.Av.Heap.set, Go.Av.Heap.del] at * <;> grind)) ?_
   rintro Ec1 rfl ⟨j, L, Hj⟩ ⟨hj, hJ⟩
   simp only at hj hJ
   by_cases hjt : j < (toN s 0).length
   ·have hjd : decide ((j : Int) < (toN s 0).length) = true := decide_eq_true (by omega)
    have hmem := List.getElem_mem hjt
    generalize hi : (toN s 0)[j] = i at hmem
    have hin : i < s.seen.length := toN_mem hmem
    have hre : reS s i = true := by rw [toN_re] at hmem; exact (List.mem_filter.1 hmem).2
    have hif : i < (fixS s).length := by omega
    have hii : (i : Int) < s.seen.length := by omega
    have hcl : (fixS s)[i] = clN s i := by simp [clN, hif]
    obtain ⟨c, hc, hci⟩ := num_nat hin hre
    have hci2 : numI (clN s) (repsS s) (clN s i) = (c : Int) := hci
    obtain ⟨mi, _, hfi⟩ := find_old (cl := clN s) (F := repsS s) (x := clN s i) (by rw [hci2]; omega)
    rw [hci2] at hfi
    have hxl := ho.x
    have hix : i < s.next.length := by omega
    have hixi : (i : Int) < s.next.length := by omega
    have hnx := nxS_at hix
    have hil := hm _ (List.getElem_mem hix)
    have hnl : (nxS s i).length = s.next[i].length := by rw [hnx, List.length_map]
    have j1 := hJ.keep _ _ z_1
    have j8 := hJ.keep _ _ z_8
    repeat' (first | with_reducible refine And.intro ?_ ?_ | simp only [go_sem,seval, hjd, j1, j8, Rw_at _ _ hjt, Rw_get _ _ hjt, hi, hfl, hii, hixi, Rw_at _ _ hif, Rw_get _ _ hif, hcl, hfi, Rw_at _ _ hix, Rw_get _ _ hix] | simp (disch := omega) only [wrap64, cell_at, Rw_at, nxS_at] | simp (disch := first | omega | grind) only [heap_ne_, del_ne] | (intro hx_; try simp only [set_none] at hx_) | omega)
    refine loop_c [1, 2, 6, 7, 8, 15, 93, 94, 95, 109, 110] (fun (p : Nat × List Rr × Heap) => [(111, .int .i64 p.1)]) (fun (p : Nat × List Rr × Heap) => p.2.2) (fun (p : Nat × List Rr × Heap) => p.1 ≤ s.next[i].length ∧ SmJ s Bz cN (wTo s j ++ ((nxS s i).take p.1).map (fun k => (i, k))) (900 * j + p.1) p.2.1 p.2.2) (fun (p : Nat × List Rr × Heap) => s.next[i].length - p.1) ((0, L, Hj)) (⟨Nat.zero_le _, by simpa using hJ⟩) (by (try simp only [go_sem,seval]) <;> (try simp (disch := omega) [wrap64]) <;> (try omega)) (by first | with_reducible exact Heap.Le.refl _ | exact heap_set_le (by assumption) | exact Heap.Le.refl _ | exact heap_le_set (by assumption) | exact (by simp only [Go.Av.Heap.Le, Go.Av.Heap.set, Go.Av.Heap.del] at * <;> grind)) ?_
    rintro Ec2 rfl ⟨q, M, Hq⟩ ⟨hq, hK⟩
    simp only at hq hK
    have q1 := hK.keep _ _ z_1
    have q7 := hK.keep _ _ z_7
    have q8 := hK.keep _ _ z_8
    have qN := hK.rr.row
    by_cases hqt : q < s.next[i].length
    ·have hqd : decide ((q : Int) < s.next[i].length) = true := decide_eq_true (by omega)
     obtain ⟨y1, y2⟩ := ho.r _ (List.getElem_mem hix) _ (List.getElem_mem hqt)
     have hqn : q < (nxS s i).length := by omega
     have hnq : (nxS s i)[q] = (s.next[i][q]).toNat := by simp [hnx]
     have htk : (nxS s i).take (q + 1) = (nxS s i).take q ++ [(s.next[i][q]).toNat] := by rw [List.take_succ_eq_append_getElem hqn, hnq]
     have hkn : (s.next[i][q]).toNat < s.seen.length := by omega
     have hmk : (s.next[i][q]).toNat ∈ nxS s i := by rw [← hnq]; exact List.getElem_mem hqn
     have hkr : reS s (s.next[i][q]).toNat = true := (reS_iff hkn).2 (.step ((reS_iff hin).1 hre) hmk)
     obtain ⟨e, he, hee⟩ := num_nat hkn hkr
     have hee2 : numI (clN s) (repsS s) (clN s (s.next[i][q]).toNat) = (e : Int) := hee
     obtain ⟨me, _, hfe⟩ := find_old (cl := clN s) (F := repsS s) (x := clN s (s.next[i][q]).toNat) (by rw [hee2]; omega)
     rw [hee2] at hfe
     have hkf : (s.next[i][q]).toNat < (fixS s).length := by omega
     have hkcl : (fixS s)[(s.next[i][q]).toNat] = clN s (s.next[i][q]).toNat := by simp [clN, hkf]
     by_cases hec : e = c
     ·have hed : ((e : Int) = c) := by omega
      repeat' (first | with_reducible refine And.intro ?_ ?_ | simp only [go_sem,seval, hqd, q1, q8, Rw_at _ _ hqt, y1, y2, hfl, Rw_at _ _ hkf, Rw_get _ _ hkf, hkcl, hfe, hed] | simp (disch := omega) only [wrap64, cell_at, Rw_at, nxS_at] | simp (disch := first | omega | grind) only [heap_ne_, del_ne] | (intro hx_; try simp only [set_none] at hx_) | omega)
      refine nx_mk (q + 1, M, Hq) ⟨by simp only []; omega, ?_⟩ (by simp only []; omega) (by (try simp only [go_sem,seval]) <;> (try simp (disch := omega) [wrap64]) <;> (try omega)) (Heap.Le.refl _)
      simp only []
      rw [← hnx, htk, List.map_append, ← List.append_assoc]
      exact (hK.skip (by rw [hee, hci, hed])).more (by omega)
     ·have hed : ¬ ((e : Int) = c) := by omega
      repeat' (first | with_reducible refine And.intro ?_ ?_ | simp only [go_sem,seval, hqd, q1, q8, Rw_at _ _ hqt, y1, y2, hfl, Rw_at _ _ hkf, Rw_get _ _ hkf, hkcl, hfe, hed] | simp (disch := omega) only [wrap64, cell_at, Rw_at, nxS_at] | simp (disch := first | omega | grind) only [heap_ne_, del_ne] | (intro hx_; try simp only [set_none] at hx_) | omega)
      have hcM : c < M.length := by rw [hK.len]; exact hc
      have hrr := rrC_o (hK.opn c hcM)
      have hblk := hK.rr.blk c hcM (hK.opn c hcM)
      have hbd := hK.bnd c hcM
      have hone : (outG 1 M[c].l.length M[c].ob).one = true := by cases M[c].ob <;> rfl
      unfold D.one at hone
      have hMl := hK.len
      have hcm : (c : Int) < (repsS s).length := by omega
      refine par_mk2 (fun i => .c .undef) [b7, cN] ?_
      have m1 : b7 ∈ [b7, cN] := by simp
      have m2 : cN ∈ [b7, cN] := by simp
      repeat' (first | with_reducible refine And.intro ?_ ?_ | simp only [go_sem,seval, q7, qN, m1, m2, Rw_at _ _ hcM, Rw_get _ _ hcM, hrr, hone, hMl, hcm] | simp (disch := omega) only [wrap64, cell_at, Rw_at, nxS_at] | simp (disch := first | omega | grind) only [heap_ne_, del_ne] | (intro hx_; try simp only [set_none] at hx_) | omega)
      rename_i x
      have hx := hx_
      clear hx_
      have hrne : Av.Obj.vec 1 (Rw rrC M) ≠ .vec 1 (Rw intC M[c].l) := fun g => by
       injection g with _ g
       exact rr_ne_int (by omega) g
      refine p_apZ 3 8 (n := M[c].l.length) (m := 1) (ob := M[c].ob) (es := Rw intC M[c].l) (xs := [[.int .i64 e]]) (by simp only [go_sem,seval]) (by decide) (by simp only [go_sem,seval]) (by simp only [go_sem,seval]) (by simp only [go_sem,seval]) (by simp only [go_sem,seval]) hx rfl (by simp) hblk (by rw [Rw_len]) (fun c hc => by simp only [List.mem_cons, List.not_mem_nil, or_false] at hc; rcases hc with rfl | rfl; exact ⟨_, q7, by simp⟩; exact ⟨_, qN, hrne⟩) (by simp only [List.length_cons, List.length_nil]; omega) (by simp only [List.length_cons, List.length_nil]; omega) fun b' H' hA => ?_
      have hA' : Apd Hq 1 M[c].ob (Rw intC (M[c].l ++ [(e : Int)])) b' H' := by
       have : Rw intC (M[c].l ++ [(e : Int)]) = Rw intC M[c].l ++ [[.int .i64 e]] := by simp [Rw, intC]
       rw [this]; exact hA
      have a7 := hA.2.1 _ _ q7 (outAt_ne hblk q7 (by simp))
      have aN := hA.2.1 _ _ qN (fun g => (hK.rr.new c hcM cN (hK.opn c hcM) g).2 rfl)
      have hcR : c < (Rw rrC M).length := by rw [Rw_len]; exact hcM
      repeat' (first | with_reducible refine And.intro ?_ ?_ | simp only [go_sem,seval, a7, aN, m1, m2, Rw_at _ _ hcM, Rw_get _ _ hcM, hrr, hone, hMl, hcm, hcR] | simp (disch := omega) only [wrap64, cell_at, Rw_at, nxS_at] | simp (disch := first | omega | grind) only [heap_ne_, del_ne] | (intro hx_; try simp only [set_none] at hx_) | omega)
      refine nx_mk (q + 1, M.set c ⟨false, some b', M[c].l ++ [(e : Int)]⟩, H'.set cN (.vec 1 ((Rw rrC M).set c [.vec b' 1 0 (M[c].l.length + 1)]))) ⟨by simp only []; omega, ?_⟩ (by simp only []; omega) (by (try simp only [go_sem,seval]) <;> (try simp (disch := omega) [wrap64]) <;> (try omega)) (Heap.Le.refl _)
      simp only []
      rw [← hnx, htk, List.map_append, ← List.append_assoc]
      exact (hK.app hcM hci hee hec hzN hA').more (by omega)
    ·have hqd : decide ((q : Int) < s.next[i].length) = false := decide_eq_false (by omega)
     repeat' (first | with_reducible refine And.intro ?_ ?_ | simp only [go_sem,seval, hqd] | simp (disch := omega) only [wrap64, cell_at, Rw_at, nxS_at] | simp (disch := first | omega | grind) only [heap_ne_, del_ne] | (intro hx_; try simp only [set_none] at hx_) | omega)
     refine nx_mk (j + 1, M, Hq) ⟨by simp only []; omega, ?_⟩ (by simp only []; omega) (by (try simp only [go_sem,seval]) <;> (try simp (disch := omega) [wrap64]) <;> (try omega)) (Heap.Le.refl _)
     simp only []
     rw [wTo_succ s j hjt, hi]
     rw [List.take_of_length_le (by omega)] at hK
     exact hK.more (by omega)
   ·have hjd : decide ((j : Int) < (toN s 0).length) = false := decide_eq_false (by omega)
    repeat' (first | with_reducible refine And.intro ?_ ?_ | simp only [go_sem,seval, hjd] | simp (disch := omega) only [wrap64, cell_at, Rw_at, nxS_at] | simp (disch := first | omega | grind) only [heap_ne_, del_ne] | (intro hx_; try simp only [set_none] at hx_) | omega)
    have hJe : SmJ s Bz cN (wTo s (toN s 0).length) (900 * j) L Hj := by
     rw [show j = (toN s 0).length by omega] at hJ ⊢; exact hJ
    have hK0 := hJe.toK
    have j7 := hJ.keep _ _ z_7
    have hLl := hJ.len
    have hrl : (repsS s).length ≤ s.seen.length := repsTo_le s _
    repeat' (first | with_reducible refine And.intro ?_ ?_ | simp only [go_sem,seval, j7] | simp (disch := omega) only [wrap64, cell_at, Rw_at, nxS_at] | simp (disch := first | omega | grind) only [heap_ne_, del_ne] | (intro hx_; try simp only [set_none] at hx_) | omega)
    refine loop_c [2, 7, 139, 140] (fun (p : Nat × List Rr × Heap) => [(141, .int .i64 p.1)]) (fun (p : Nat × List Rr × Heap) => p.2.2) (fun (p : Nat × List Rr × Heap) => SmK s Bz cN p.1 (900 * j) p.2.1 p.2.2) (fun (p : Nat × List Rr × Heap) => (repsS s).length - p.1) ((0, L, Hj)) (hK0) (by (try simp only [go_sem,seval]) <;> (try simp (disch := omega) [wrap64]) <;> (try omega)) (by first | with_reducible exact Heap.Le.refl _ | exact heap_set_le (by assumption) | exact Heap.Le.refl _ | exact heap_le_set (by assumption) | exact (by simp only [Go.Av.Heap.Le, Go.Av.Heap.set, Go.Av.Heap.del] at * <;> grind)) ?_
    rintro Ec3 rfl ⟨c, M, Hq⟩ hK
    simp only at hK
    have q7 := hK.keep _ _ z_7
    have qN := hK.rr.row
    have hMl := hK.len
    have hcl := hK.cl
    by_cases hct : c < (repsS s).length
    ·have hcd : decide ((c : Int) < (repsS s).length) = true := decide_eq_true (by omega)
     have hcM : c < M.length := by omega
     obtain ⟨o1, o2, o3, o4⟩ := hK.op c hcM (Nat.le_refl _)
     have hrr := rrC_o o1
     have hblk := hK.rr.blk c hcM o1
     have hnew := hK.rr.new c hcM
     have hcm : (c : Int) < (repsS s).length := by omega
     have hcR : c < (Rw rrC M).length := by rw [Rw_len]; exact hcM
     cases hob : M[c].ob with
     | none =>
      rw [hob] at hrr hblk
      have hl0 : M[c].l = [] := by
       have h2 : Rw intC M[c].l = [] := hblk
       have h3 := congrArg List.length h2
       rw [Rw_len] at h3
       exact List.eq_nil_of_length_eq_zero h3
      repeat' (first | with_reducible refine And.intro ?_ ?_ | simp only [go_sem,seval, hcd, q7, qN, Rw_at _ _ hcM, Rw_get _ _ hcM, hrr, hMl, hcm] | simp (disch := omega) only [wrap64, cell_at, Rw_at, nxS_at] | simp (disch := first | omega | grind) only [heap_ne_, del_ne] | (intro hx_; try simp only [set_none] at hx_) | with_reducible refine sortNil_a _ ?_ | omega)
      refine ord_mk [b7] ?_
      have m1 : b7 ∈ [b7] := by simp
      repeat' (first | with_reducible refine And.intro ?_ ?_ | simp only [go_sem,seval, forall_eq, m1, q7, qN, hMl, hcm, hcR, Rw_at _ _ hcM, Rw_get _ _ hcM, hrr] | simp (disch := omega) only [wrap64, cell_at, Rw_at, nxS_at] | simp (disch := first | omega | grind) only [heap_ne_, del_ne] | (intro hx_; try simp only [set_none] at hx_) | with_reducible refine compactNil_a _ ?_ | omega)
      have hz0 : riseZ M[c].l = [] := List.eq_nil_of_length_eq_zero (by have := riseZ_length_le M[c].l; rw [hl0] at this; simpa [hl0] using this)
      refine nx_w (c + 1, M.set c ⟨true, none, riseZ M[c].l⟩, Hq.set cN (.vec 1 ((Rw rrC M).set c [.sl 1 (Rw intC (riseZ M[c].l))]))) ?_ (by simp only []; omega) ?_
      ·simp only []
       exact hK.step ho hcM (heap_same _ _) hzN (fun q o h1 h2 _ => by rw [heap_ne _ h1]; exact h2)
      ·simp only []
       rw [hz0, show (Rw rrC M).set c [D.sl 1 (Rw intC [])] = ((Rw rrC M).set c [D.nilsl]).set c [D.sl 1 []] by rw [List.set_set]; rfl]
       exact weak_nilAt (by (try simp only [go_sem,seval]) <;> (try simp (disch := omega) [wrap64]) <;> (try omega)) (by rw [List.getElem?_set_self hcR]) (heap_same _ _) (fun k o h1 h2 => by rw [heap_ne _ h1]; exact h2)
     | some b =>
      rw [hob] at hrr hblk
      change Hq b = some (.vec 1 (Rw intC M[c].l)) at hblk
      have hne := o2 (by rw [hob]; simp)
      have hbN := hnew b o1 hob
      repeat' (first | with_reducible refine And.intro ?_ ?_ | simp only [go_sem,seval, hcd, q7, qN, Rw_at _ _ hcM, Rw_get _ _ hcM, hrr, hMl, hcm] | simp (disch := omega) only [wrap64, cell_at, Rw_at, nxS_at] | simp (disch := first | omega | grind) only [heap_ne_, del_ne] | (intro hx_; try simp only [set_none] at hx_) | with_reducible refine sort_a b M[c].l hne (by omega) _ hblk ?_ | omega)
      have hms : ((M[c].l).mergeSort fun x y => decide (x ≤ y)).length = (M[c].l).length := List.length_mergeSort _
      have hne2 : ((M[c].l).mergeSort fun x y => decide (x ≤ y)) ≠ [] := by intro e; rw [e] at hms; exact hne (List.eq_nil_of_length_eq_zero (by simpa using hms.symm))
      have hb7 : b7 ≠ b := fun e => by rw [e, hblk] at q7; simp at q7
      have u7 : ∀ o, (Hq.set b o) b7 = some (.box [.vec cT 6 0 (repsS s).length, .vec cF 1 0 (repsS s).length, .vec cN 1 0 (repsS s).length]) := fun o => by rw [heap_ne _ hb7]; exact q7
      have uN : ∀ o, (Hq.set b o) cN = some (.vec 1 (Rw rrC M)) := fun o => by rw [heap_ne _ (Ne.symm hbN.2)]; exact qN
      refine ord_mk [b7] ?_
      have m1 : b7 ∈ [b7] := by simp
      rw [← hms]
      repeat' (first | with_reducible refine And.intro ?_ ?_ | simp only [go_sem,seval, forall_eq, m1, u7, uN, hMl, hcm, hcR, Rw_at _ _ hcM, Rw_get _ _ hcM, hrr] | simp (disch := omega) only [wrap64, cell_at, Rw_at, nxS_at] | simp (disch := first | omega | grind) only [heap_ne_, del_ne] | (intro hx_; try simp only [set_none] at hx_) | with_reducible refine compact_a b _ hne2 (by omega) _ (heap_same _ _) ?_ | omega)
      have hrz : Lib.compact (M[c].l.mergeSort fun x y => decide (x ≤ y)) = riseZ M[c].l := rfl
      rw [hrz]
      refine nx_w (c + 1, M.set c ⟨true, none, riseZ M[c].l⟩, (Hq.del b).set cN (.vec 1 ((Rw rrC M).set c [.sl 1 (Rw intC (riseZ M[c].l))]))) ?_ (by simp only []; omega) ?_
      ·simp only []
       exact hK.step ho hcM (heap_same _ _) hzN (fun q o h1 h2 h3 => by rw [heap_ne _ h1, del_ne (fun e => h3 (by rw [hob, e]))]; exact h2)
      ·simp only []
       rw [show (Rw rrC M).set c [D.sl 1 (Rw intC (riseZ M[c].l))] = ((Rw rrC M).set c [.vec b 1 0 (riseZ M[c].l).length]).set c [D.sl 1 (Rw intC (riseZ M[c].l))] by rw [List.set_set]]
       refine weak_rowAt (m := b) (n := (riseZ M[c].l).length) (es := Rw intC (riseZ M[c].l)) (by (try simp only [go_sem,seval]) <;> (try simp (disch := omega) [wrap64]) <;> (try omega)) (by rw [Rw_len]) (by rw [List.getElem?_set_self hcR]) (heap_same _ _) (by rw [heap_ne _ hbN.2]; exact heap_same _ _) hbN.2 (fun k o h1 h2 => ?_)
       have hkb : k ≠ b := fun e => by rw [e] at h2; simp [Heap.del] at h2
       rw [del_ne hkb] at h2
       exact ⟨hkb, by rw [heap_ne _ h1, heap_ne _ hkb]; exact h2⟩
    ·have hcd : decide ((c : Int) < (repsS s).length) = false := decide_eq_false (by omega)
     have hall := hK.all (by omega)
     have q2 := hK.keep _ _ (z_B _ _ e2)
     repeat' (first | with_reducible refine And.intro ?_ ?_ | simp only [go_sem,seval, hcd, q7, q2] | simp (disch := omega) only [wrap64, cell_at, Rw_at, nxS_at] | simp (disch := first | omega | grind) only [heap_ne_, del_ne] | (intro hx_; try simp only [set_none] at hx_) | omega)
     have qT := hK.keep _ _ z_T
     have qF := hK.keep _ _ z_F
     have n2 : ∀ q o, Hq q = some o → (∀ cs, o ≠ .box cs) → q ≠ b2 := fun q o hq h e => by rw [e, q2] at hq; exact h _ (Option.some.inj hq).symm
     have hTF : cT ≠ cF := fun e => by rw [e, qF] at qT; simp at qT
     have hTN : cT ≠ cN := fun e => by rw [e, hzN] at z_T; cases z_T
     have e3 : (repsS s).length = (Rw rrC M).length := by rw [Rw_len, hMl]
     refine Fin.freezeT (cs' := [.vec cT 6 0 (repsS s).length, .vec cF 1 0 (repsS s).length, .sl 1 (Rw rrC M)]) (b := cN) (by rw [heap_ne _ (n2 _ _ qN (by simp))]; exact qN) rfl (fun q d d' h1 h2 => ?_) ?_
     ·match q with
      | 0 => cases h1; cases h2; exact .same _
      | 1 => cases h1; cases h2; exact .same _
      | 2 => cases h1; cases h2; rw [e3]; exact .all
      | q + 3 => cases h1
     refine Fin.freezeT (cs' := [.vec cT 6 0 (repsS s).length, .sl 1 (Rw boolC (smallS s).final), .sl 1 (Rw rrC M)]) (b := cF) (by rw [del_ne nFN, heap_ne _ (n2 _ _ qF (by simp))]; exact qF) rfl (fun q d d' h1 h2 => ?_) ?_
     ·match q with
      | 0 => cases h1; cases h2; exact .same _
      | 1 => cases h1; cases h2; rw [show (repsS s).length = (Rw boolC (smallS s).final).length by rw [Rw_len, sl2]]; exact .all
      | 2 => cases h1; cases h2; exact .same _
      | q + 3 => cases h1
     refine Fin.freezeT (cs' := syC (smallS s)) (b := cT) (by rw [del_ne hTF, del_ne hTN, heap_ne _ (n2 _ _ qT (by simp))]; exact qT) rfl (fun q d d' h1 h2 => ?_) (Fin.less (fun q o hq => ?_) h)
     ·match q with
      | 0 => cases h1; cases h2; rw [show (repsS s).length = (Rw tmC (smallS s).seen).length by rw [Rw_len, sl1]]; exact .all
      | 1 => cases h1; cases h2; exact .same _
      | 2 => cases h1; cases h2; rw [hall]; exact .same _
      | q + 3 => cases h1
     ·have hb := hle q o hq
      rw [del_ne (fun e => by rw [e, hBT] at hb; cases hb), del_ne (fun e => by rw [e, hBF] at hb; cases hb), del_ne (fun e => by rw [e, hBN] at hb; cases hb), heap_ne _ (fun e => by rw [e, hH2] at hq; cases hq)]
      exact hK.keep _ _ (z_B _ _ hb)
end Go.Proofs.YtmohcdihdhggoaaGreatDoor
end
section
set_option maxRecDepth 20000
namespace Go.Bis
open Go Go.Av Go.Lexs Go.Proofs.YtmohcdihdhggoaaGreatDoor
def more1 (nx : Nat → List Nat) (n : Nat) (v : List Bool) : List Bool := (List.range n).map fun k => v.getD k false || (List.range n).any fun j => v.getD j false && (nx j).contains k
def moreN (nx : Nat → List Nat) (n : Nat) : Nat → List Bool → List Bool
 | 0, v => v
 | t + 1, v => moreN nx n t (more1 nx n v)
theorem more1_snd {nx : Nat → List Nat} {n i : Nat} {v : List Bool} (h : Snd nx i v) : Snd nx i (more1 nx n v) := fun k hk => by
 have hget : ∀ j, v.getD j false = true → v[j]? = some true := fun j hj => by
  rw [List.getD_eq_getElem?_getD] at hj
  cases hv : v[j]? with
  | none => rw [hv] at hj; simp at hj
  | some b => rw [hv] at hj; simp at hj; rw [hj]
 obtain ⟨hl, he⟩ := List.getElem?_eq_some_iff.1 hk
 simp only [more1, List.getElem_map, List.getElem_range, Bool.or_eq_true, List.any_eq_true, List.mem_range, Bool.and_eq_true, List.contains_iff_mem] at he
 rcases he with he | ⟨j, _, hj, hm⟩
 ·exact h k (hget k he)
 ·exact .step (h j (hget j hj)) hm
theorem moreN_snd {nx : Nat → List Nat} {n i : Nat} : ∀ (t : Nat) {v : List Bool}, Snd nx i v → Snd nx i (moreN nx n t v)
 | 0, _, h => h
 | t + 1, _, h => moreN_snd t (more1_snd h)
def outB' (nx : Nat → List Nat) (n : Nat) (v : List Bool) : Bool := (List.range n).all fun k => !(v.getD k false) || (nx k).all fun m => v.getD m false
theorem toN_eval {s : Sy} {i : Nat} {v : List Bool} (hv : moreN (nxS s) s.seen.length s.seen.length ((List.replicate s.seen.length false).set i true) = v) (hn : v.length = s.seen.length) (hi : v[i]? = some true) (hc : outB' (nxS s) s.seen.length v = true) :
  toN s i = (List.range s.seen.length).filter fun j => v[j]? == some true := by
 have hs : Snd (nxS s) i v := by rw [← hv]; exact moreN_snd _ Snd.start
 have hget : ∀ j, v.getD j false = true ↔ v[j]? = some true := fun j => by
  rw [List.getD_eq_getElem?_getD]
  cases hv : v[j]? with
  | none => simp
  | some b => simp
 have hcl : ∀ k, ClAt (nxS s) v k := fun k hk m hm => by
  have hkn : k < s.seen.length := by rw [← hn]; exact (List.getElem?_eq_some_iff.1 hk).1
  unfold outB' at hc
  rw [List.all_eq_true] at hc
  have := hc k (List.mem_range.2 hkn)
  rw [Bool.or_eq_true, Bool.not_eq_true', List.all_eq_true] at this
  rcases this with h | h
  ·rw [(hget k).2 hk] at h; cases h
  ·exact (hget m).1 (h m hm)
 rw [rowV_of hn hi hs hcl]
 exact (rowL_of (nxS s) s.seen.length i).symm
theorem itC_congr {e0 : Nat → Nat → Bool} {R R' : List Nat → Nat → Nat → Bool} {n : Nat} (h : ∀ c i j, i < n → j < n → R c i j = R' c i j) : ∀ t, itC e0 R n t = itC e0 R' n t
 | 0 => rfl
 | t + 1 => by
  have ih := itC_congr (e0 := e0) h t
  show numE (R (itC e0 R n t).1) n = numE (R' (itC e0 R' n t).1) n
  rw [ih]
  exact numE_congr fun i j hji hi => h _ i j hi (by omega)
theorem itS_eval {s : Sy} {T : List (List Nat)} (hT : ∀ i, i < s.seen.length → toN s i = T.getD i []) (t : Nat) : itS s t = (itC (clE s) (relR (fun i => T.getD i []) s.seen.length) s.seen.length t).1 := by
 unfold itS
 rw [itC_congr (R' := relR (fun i => T.getD i []) s.seen.length) fun c i j hi hj => by unfold relR; rw [hT i hi, hT j hj]]
def iT (n : Int) : Tm := .mk 1 n ⟨#[]⟩ ⟨#[]⟩ [] []
def sysY (l : List Int) (next : List (List Int)) : Sy := ⟨l.map iT, next.map List.isEmpty, next⟩
def aY : Sy := sysY [0, 1] [[1], []]
def bY : Sy := sysY [0, 0, 1] [[1], [2], []]
def cY : Sy := sysY [0, 1, 2] [[1, 2], [], []]
def mY : Mo := .mk 3 zeroT [.mk 1 (iT 2) []]
theorem iT_fit (n : Int) (h : -9223372036854775808 ≤ n ∧ n ≤ 9223372036854775807) : TmFit (iT n) := .mk _ _ _ _ _ _ (by omega) h (by decide) (by decide) (by decide) (by decide) (by simp) (by simp)
theorem sysY_fit {l : List Int} {next : List (List Int)} (h1 : l.length ≤ 10) (h2 : next.length ≤ 10) (h3 : ∀ m ∈ next, m.length ≤ 10) (h4 : ∀ n ∈ l, 0 ≤ n ∧ n ≤ 10) : SyFit (sysY l next) := by
 refine ⟨by simp [sysY]; omega, by simp [sysY]; omega, by simp [sysY]; omega, fun t ht => ?_, fun m hm => by have := h3 m hm; omega⟩
 simp only [sysY, List.mem_map] at ht
 obtain ⟨n, hn, rfl⟩ := ht
 have := h4 n hn
 exact iT_fit n (by omega)
theorem aY_fit : SyFit aY := sysY_fit (by decide) (by decide) (by decide) (by decide)
theorem bY_fit : SyFit bY := sysY_fit (by decide) (by decide) (by decide) (by decide)
theorem cY_fit : SyFit cY := sysY_fit (by decide) (by decide) (by decide) (by decide)
theorem aY_valid : validY aY = true := by decide +kernel
theorem bY_valid : validY bY = true := by decide +kernel
theorem cY_valid : validY cY = true := by decide +kernel
theorem mY_fit : MoFit mY := .mk _ _ _ (by decide) zeroT_fit (by decide) fun k hk => by
 simp only [List.mem_singleton] at hk
 subst hk
 exact .mk _ _ _ (by decide) (iT_fit 2 (by decide)) (by decide) (by simp)
theorem mY_valid : validM mY = true := by decide +kernel
theorem mY_cnt : cntM mY = 2 := by decide +kernel
def uV : Sy := unionS aY bY
def uU : Sy := unionS cY aY
def tV : List (List Nat) := [[0, 1], [1], [2, 3, 4], [3, 4], [4]]
def tU : List (List Nat) := [[0, 1, 2], [1], [2], [3, 4], [4]]
theorem toV : ∀ i, i < uV.seen.length → toN uV i = tV.getD i []
  | 0, _ => toN_eval (v := [true, true, false, false, false]) (by decide +kernel) (by decide +kernel) (by decide +kernel) (by decide +kernel)
  | 1, _ => toN_eval (v := [false, true, false, false, false]) (by decide +kernel) (by decide +kernel) (by decide +kernel) (by decide +kernel)
  | 2, _ => toN_eval (v := [false, false, true, true, true]) (by decide +kernel) (by decide +kernel) (by decide +kernel) (by decide +kernel)
  | 3, _ => toN_eval (v := [false, false, false, true, true]) (by decide +kernel) (by decide +kernel) (by decide +kernel) (by decide +kernel)
  | 4, _ => toN_eval (v := [false, false, false, false, true]) (by decide +kernel) (by decide +kernel) (by decide +kernel) (by decide +kernel)
  | i + 5, h => by have : uV.seen.length = 5 := by decide +kernel
                   omega
theorem toU : ∀ i, i < uU.seen.length → toN uU i = tU.getD i []
  | 0, _ => toN_eval (v := [true, true, true, false, false]) (by decide +kernel) (by decide +kernel) (by decide +kernel) (by decide +kernel)
  | 1, _ => toN_eval (v := [false, true, false, false, false]) (by decide +kernel) (by decide +kernel) (by decide +kernel) (by decide +kernel)
  | 2, _ => toN_eval (v := [false, false, true, false, false]) (by decide +kernel) (by decide +kernel) (by decide +kernel) (by decide +kernel)
  | 3, _ => toN_eval (v := [false, false, false, true, true]) (by decide +kernel) (by decide +kernel) (by decide +kernel) (by decide +kernel)
  | 4, _ => toN_eval (v := [false, false, false, false, true]) (by decide +kernel) (by decide +kernel) (by decide +kernel) (by decide +kernel)
  | i + 5, h => by have : uU.seen.length = 5 := by decide +kernel
                   omega
theorem toB : ∀ i, i < bY.seen.length → toN bY i = [[0, 1, 2], [1, 2], [2]].getD i []
  | 0, _ => toN_eval (v := [true, true, true]) (by decide +kernel) (by decide +kernel) (by decide +kernel) (by decide +kernel)
  | 1, _ => toN_eval (v := [false, true, true]) (by decide +kernel) (by decide +kernel) (by decide +kernel) (by decide +kernel)
  | 2, _ => toN_eval (v := [false, false, true]) (by decide +kernel) (by decide +kernel) (by decide +kernel) (by decide +kernel)
  | i + 3, h => by have : bY.seen.length = 3 := by decide +kernel
                   omega
theorem toA0 : toN aY 0 = [0, 1] := toN_eval (v := [true, true]) (by decide +kernel) (by decide +kernel) (by decide +kernel) (by decide +kernel)
theorem toC0 : toN cY 0 = [0, 1, 2] := toN_eval (v := [true, true, true]) (by decide +kernel) (by decide +kernel) (by decide +kernel) (by decide +kernel)
theorem itV (t : Nat) : itS uV t = (itC (clE uV) (relR (fun i => tV.getD i []) 5) 5 t).1 := itS_eval toV t
theorem itU (t : Nat) : itS uU t = (itC (clE uU) (relR (fun i => tU.getD i []) 5) 5 t).1 := itS_eval toU t
theorem itB (t : Nat) : itS bY t = (itC (clE bY) (relR (fun i => [[0, 1, 2], [1, 2], [2]].getD i []) 3) 3 t).1 := itS_eval toB t
theorem itV0 : itS uV 0 = [0, 1, 0, 0, 1] := by rw [itV]; decide +kernel
theorem itV1 : itS uV 1 = [0, 1, 0, 0, 1] := by rw [itV]; decide +kernel
theorem itU0 : itS uU 0 = [0, 1, 2, 0, 1] := by rw [itU]; decide +kernel
theorem itU1 : itS uU 1 = [0, 1, 2, 3, 1] := by rw [itU]; decide +kernel
theorem itU2 : itS uU 2 = [0, 1, 2, 3, 1] := by rw [itU]; decide +kernel
theorem fixV : fixS uV = [0, 1, 0, 0, 1] := by rw [← itS_fix (s := uV) (k := 0) (by rw [itV0, itV1]), itV0]
theorem fixU : fixS uU = [0, 1, 2, 3, 1] := by rw [← itS_fix (s := uU) (k := 1) (by rw [itU1, itU2]), itU1]
theorem fixB : fixS bY = [0, 0, 1] := by
 rw [← itS_fix (s := bY) (k := 0) (by rw [itB, itB]; decide +kernel), itB]; decide +kernel
theorem clA_ab : clA aY bY = [0, 1] := by show (fixS uV).take 2 = _; rw [fixV]; rfl
theorem clB_ab : clB aY bY = [0, 0, 1] := by show (fixS uV).drop 2 = _; rw [fixV]; rfl
theorem alike_ab : alikeV aY bY = true := by unfold alikeV; rw [clA_ab, clB_ab]; rfl
theorem alike_cd : alikeV cY aY = false := by
 unfold alikeV
 rw [show clA cY aY = [0, 1, 2] by show (fixS uU).take 3 = _; rw [fixU]; rfl, show clB cY aY = [3, 1] by show (fixS uU).drop 3 = _; rw [fixU]; rfl]; rfl
theorem sat_c : satM cY (toN cY) mY 0 = true := by
 rw [satM_eq]; show ((toN cY 0).any fun k => satH cY (toN cY) [.mk 1 (iT 2) []] k) = true
 rw [toC0]; simp only [List.any_cons, List.any_nil, satH, satM]; decide +kernel
theorem sat_d : satM aY (toN aY) mY 0 = false := by
 rw [satM_eq]; show ((toN aY 0).any fun k => satH aY (toN aY) [.mk 1 (iT 2) []] k) = false
 rw [toA0]; simp only [List.any_cons, List.any_nil, satH, satM]; decide +kernel
theorem clN_B (k : Nat) : clN bY k = [0, 0, 1].getD k 0 := by unfold clN; rw [fixB]
theorem reS_B : ∀ k, k < 3 → reS bY k = true := fun k hk => by
 rw [reS_iff (show k < bY.seen.length by show k < 3; exact hk)]
 have h0 : toN bY 0 = [0, 1, 2] := toB 0 (by decide +kernel)
 have : k ∈ toN bY 0 := by
  rw [h0]; match k, hk with
  | 0, _ => simp
  | 1, _ => simp
  | 2, _ => simp
 exact (mem_rowL.1 this).2
theorem reps_B : repsS bY = [0, 2] := by
 show repsTo bY 3 = _
 have e : ∀ l x, numI (clN bY) l x = numI (fun k => [0, 0, 1].getD k 0) l x := fun l x => by rw [show clN bY = fun k => [0, 0, 1].getD k 0 from funext clN_B]
 simp only [repsTo, reS_B 0 (by omega), reS_B 1 (by omega), reS_B 2 (by omega), e, clN_B]
 decide +kernel
theorem num_B (k : Nat) : numS' bY k = numI (fun k => [0, 0, 1].getD k 0) [0, 2] ([0, 0, 1].getD k 0) := by
 unfold numS'; rw [reps_B, clN_B, show clN bY = fun k => [0, 0, 1].getD k 0 from funext clN_B]
theorem step_B1 : stepS bY 0 1 = true := step_iff.2 ⟨1, by decide +kernel, reS_B 1 (by omega), by rw [num_B]; decide +kernel, 2, by decide +kernel, by rw [num_B]; decide +kernel⟩
theorem step_B2 : stepS bY 1 0 = false := by
 rw [← Bool.not_eq_true, step_iff]
 rintro ⟨i, hi, _, h1, k, h2, h3⟩
 have hi3 : i < 3 := hi
 match i, hi3 with
 | 0, _ => rw [num_B] at h1; revert h1; decide +kernel
 | 1, _ => rw [num_B] at h1; revert h1; decide +kernel
 | 2, _ => revert h2; show k ∈ nxS bY 2 → False; rw [show nxS bY 2 = [] by decide +kernel]; simp
theorem small_B : smallS bY = aY := by
 unfold smallS
 rw [reps_B]
 simp only [List.length_cons, List.length_nil, List.map_cons, List.map_nil, show (List.range (0 + 1 + 1)) = [0, 1] from rfl, List.filter_cons, List.filter_nil, step_B1, step_B2]
 simp [aY, sysY, bY, iT]
end Go.Bis
end
section
set_option maxRecDepth 20000
namespace Go.Bis
open Go Go.Av Go.Lexs
def tmZ (n : Int) : List D := [.int .i64 1, .int .i64 n, .str ⟨#[]⟩, .str ⟨#[]⟩, .nilsl, .nilsl]
theorem tmZ_nil (l : List Int) : NilR (.sl 6 (Rw tmZ l)) (.sl 6 (Rw tmC (l.map iT))) := by
 rw [show Rw tmC (l.map iT) = Rw (fun n => tmC (iT n)) l by simp [Rw]]
 refine NilR.rw 6 l (fun x _ => by rw [iT, tmC_mk]; rfl) (fun x _ j d d' h1 h2 => ?_)
 rw [iT, tmC_mk] at h2
 match j with
 | 0 => cases h1; cases h2; exact .same _
 | 1 => cases h1; cases h2; exact .same _
 | 2 => cases h1; cases h2; exact .same _
 | 3 => cases h1; cases h2; exact .same _
 | 4 => cases h1; cases h2; exact .nil _
 | 5 => cases h1; cases h2; exact .nil _
 | j + 6 => cases h1
structure SeI (l : List Int) (next : List (List Int)) (Bs : Heap) (b5 k : Nat) (oT oF : Option Nat) (Hs : Heap) : Prop where
 kl : k ≤ l.length
 box : Hs b5 = some (.box [outG 6 k oT, outG 1 k oF, .sl 1 (Rw intsC next)])
 tT : OutAt Hs 6 (Rw tmZ (l.take k)) oT
 tF : OutAt Hs 1 (Rw boolC ((next.map List.isEmpty).take k)) oF
 keep : ∀ q o, Bs q = some o → Hs q = some o
 nT : ∀ c, oT = some c → Bs c = none
 nF : ∀ c, oF = some c → Bs c = none
end Go.Bis
namespace Go.Proofs.YtmohcdihdhggoaaGreatDoor
open Go Go.Av Go.Lexs Go.Bis
attribute [local irreducible] ACalls at8
set_option maxHeartbeats 2000000 in
theorem lseen_a {Q} (l : List Int) (next : List (List Int)) (hl : l.length ≤ 10) (h0 : 0 < l.length) (hn : next.length = l.length) (hx : ∀ m ∈ next, m.length ≤ 10) (H : Heap) (h : Q (.agg (syC (sysY l next))) H) : ACalls Tryz.prog 32 [.sl 1 (Rw intC l), .sl 1 (Rw intsC next)] H Q := by
 refine acalls_of_wp [(6, .par)] Tryz.mixed Tryz.func32 rfl (by kernel_rfl) (of_decide_eq_true (by kernel_rfl)) (by kernel_rfl) ?_
 simp only [go_sem,seval, Tryz.results32]
 intro b4 hb4
 repeat' (first | with_reducible refine And.intro ?_ ?_ | simp only [go_sem,seval] | simp (disch := omega) only [wrap64, cell_at, Rw_at] | simp (disch := first | omega | grind) only [heap_ne_, del_ne] | (intro hx_; try simp only [set_none] at hx_) | omega)
 rename_i b5
 have hf5 := hx_
 clear hx_
 have hB5 : (H.set b4 (.box [.nilsl, .nilsl, .nilsl])) b5 = none := by first | exact hf5 | exact set_none.2 hf5
 have hH4 : H.Le (H.set b4 (.box [.nilsl, .nilsl, .nilsl])) := heap_le_set hb4
 have hb44 : (H.set b4 (.box [.nilsl, .nilsl, .nilsl])) b4 = some (.box [.nilsl, .nilsl, .nilsl]) := heap_same _ _
 clear hf5
 generalize (H.set b4 (.box [.nilsl, .nilsl, .nilsl])) = Bs at hB5 hH4 hb44 ⊢
 have n45 : b4 ≠ b5 := fun e => by rw [e, hB5] at hb44; cases hb44
 have hst0 : SeI l next Bs b5 0 none none (Bs.set b5 (.box [.nilsl, .nilsl, .sl 1 (Rw intsC next)])) := ⟨Nat.zero_le _, heap_same _ _, rfl, rfl, (fun q o hq => by rw [heap_ne _ (fun e => by rw [e, hB5] at hq; cases hq)]; exact hq), (fun c e => by cases e), (fun c e => by cases e)⟩
 refine loop_c [1, 4, 5, 10, 11] (fun (p : Nat × (Option Nat × Option Nat) × Heap) => [(12, .int .i64 p.1)]) (fun (p : Nat × (Option Nat × Option Nat) × Heap) => p.2.2) (fun (p : Nat × (Option Nat × Option Nat) × Heap) => SeI l next Bs b5 p.1 p.2.1.1 p.2.1.2 p.2.2) (fun (p : Nat × (Option Nat × Option Nat) × Heap) => l.length - p.1) ((0, (none, none), (Bs.set b5 (.box [.nilsl, .nilsl, .sl 1 (Rw intsC next)])))) (hst0) (by (try simp only [go_sem,seval]) <;> (try simp (disch := omega) [wrap64]) <;> (try omega)) (by first | with_reducible exact Heap.Le.refl _ | exact heap_set_le (by assumption) | exact Heap.Le.refl _ | exact heap_le_set (by assumption) | exact (by simp only [Go.Av.Heap.Le, Go.Av.Heap.set, Go.Av.Heap.del] at * <;> grind)) ?_
 rintro Ec rfl ⟨k, ⟨oT, oF⟩, Hs⟩ hI
 simp only at hI
 have hkl := hI.kl
 have r5 := hI.box
 have hlm : (l.map iT).length = l.length := List.length_map _
 have hnm : (next.map List.isEmpty).length = l.length := by rw [List.length_map, hn]
 have hone1 : (outG 6 k oT).one = true := by cases oT <;> rfl
 have hone2 : (outG 1 k oF).one = true := by cases oF <;> rfl
 unfold D.one at hone1 hone2
 by_cases hlt : k < l.length
 ·have hkd : decide ((k : Int) < l.length) = true := decide_eq_true (by omega)
  have hkn : k < next.length := by omega
  have hkni : (k : Int) < next.length := by omega
  repeat' (first | with_reducible refine And.intro ?_ ?_ | simp only [go_sem,seval, hkd, r5, Rw_at _ _ hlt, Rw_get _ _ hlt] | simp (disch := omega) only [wrap64, cell_at, Rw_at] | simp (disch := first | omega | grind) only [heap_ne_, del_ne] | (intro hx_; try simp only [set_none] at hx_) | omega)
  rename_i x1
  have hx1 := hx_
  clear hx_
  refine apS_z (P := Tryz.prog) (es := Rw tmZ (l.take k)) hx1 (by simp) hI.tT (by rw [Rw_take_len _ _ (by omega)]) (by simp only [List.length_cons, List.length_nil]; omega) (by simp only [List.length_cons, List.length_nil]; omega) fun bT H2 hA2 => ?_
  obtain ⟨vT, vK, vN⟩ := hA2
  have v5 := vK _ _ r5 (outAt_ne hI.tT r5 (by simp))
  have vF := outAt_keep hI.tF (fun q o hq e => vK q o hq (fun g => by subst e; have h1 : Hs q = _ := hI.tF; subst g; have h2 : Hs q = _ := hI.tT; rw [h1] at h2; simp at h2))
  have vKs : ∀ q o, Bs q = some o → H2 q = some o := fun q o hq => vK q o (hI.keep q o hq) (fun g => by have := hI.nT q g; rw [hq] at this; cases this)
  have vB : Bs bT = none := by
   rcases vN with g | g
   ·cases hb : Bs bT with
    | none => rfl
    | some o => rw [hI.keep _ _ hb] at g; cases g
   ·exact hI.nT _ g
  repeat' (first | with_reducible refine And.intro ?_ ?_ | simp only [go_sem,seval, v5] | simp (disch := omega) only [wrap64, cell_at, Rw_at] | simp (disch := first | omega | grind) only [heap_ne_, del_ne] | (intro hx_; try simp only [set_none] at hx_) | omega)
  have vT5 : bT ≠ b5 := fun e => by rw [e, v5] at vT; simp at vT
  obtain ⟨O, hO⟩ : ∃ O, O = Av.Obj.box [.vec bT 6 0 (k + 1), outG 1 k oF, .sl 1 (Rw intsC next)] := ⟨_, rfl⟩
  rw [← hO]
  have w5 : (H2.set b5 O) b5 = some (.box [.vec bT 6 0 (k + 1), outG 1 k oF, .sl 1 (Rw intsC next)]) := by rw [← hO]; exact heap_same _ _
  have wT : (H2.set b5 O) bT = some (.vec 6 (Rw tmZ (l.take k) ++ [tmZ l[k]])) := by rw [heap_ne _ vT5]; exact vT
  have nF5 := outAt_ne vF v5 (by simp)
  have wF : OutAt (H2.set b5 O) 1 (Rw boolC ((next.map List.isEmpty).take k)) oF := outAt_keep vF (fun q o hq e => by rw [heap_ne _ (fun g => nF5 (by rw [e, g]))]; exact hq)
  have wKs : ∀ q x, Bs q = some x → (H2.set b5 O) q = some x := fun q x hq => by rw [heap_ne _ (fun e => by rw [e, hB5] at hq; cases hq)]; exact vKs q x hq
  generalize H2.set b5 O = H5 at w5 wT wF wKs ⊢
  refine par_mk2 (fun i => .c .undef) [b5] ?_
  have m1 : b5 ∈ [b5] := by simp
  repeat' (first | with_reducible refine And.intro ?_ ?_ | simp only [go_sem,seval, w5, m1, hkni, Rw_at _ _ hkn, Rw_get _ _ hkn, hone1, hone2] | simp (disch := omega) only [wrap64, cell_at, Rw_at] | simp (disch := first | omega | grind) only [heap_ne_, del_ne] | (intro hx_; try simp only [set_none] at hx_) | omega)
  rename_i x2
  have hx2 := hx_
  clear hx_
  have hbe : (next.map List.isEmpty)[k]'(by omega) = decide ((next[k].length : Int) = 0) := by
   rw [List.getElem_map, Bool.eq_iff_iff, decide_eq_true_eq, List.isEmpty_iff_length_eq_zero]; omega
  refine p_apZ 4 1 (n := k) (m := 1) (ob := oF) (es := Rw boolC ((next.map List.isEmpty).take k)) (xs := [[.bool (decide ((next[k].length : Int) = 0))]]) (by simp only [go_sem,seval]) (by decide) (by simp only [go_sem,seval]) (by simp only [go_sem,seval]) (by simp only [go_sem,seval]) (by simp only [go_sem,seval]) hx2 rfl (by simp) wF (by rw [Rw_take_len _ _ (by omega)]) (fun c hc => by simp only [List.mem_cons, List.not_mem_nil, or_false] at hc; subst hc; exact ⟨_, w5, by simp⟩) (by simp only [List.length_cons, List.length_nil]; omega) (by simp only [List.length_cons, List.length_nil]; omega) fun bF H3 hA3 => ?_
  obtain ⟨yF, yK, yN⟩ := hA3
  have y5 := yK _ _ w5 (outAt_ne wF w5 (by simp))
  have yT := yK _ _ wT (outAt_ne wF wT (by simp))
  have yKs : ∀ q o, Bs q = some o → H3 q = some o := fun q o hq => yK q o (wKs q o hq) (fun g => by have := hI.nF q g; rw [hq] at this; cases this)
  have yB : Bs bF = none := by
   rcases yN with g | g
   ·cases hb : Bs bF with
    | none => rfl
    | some o => rw [wKs _ _ hb] at g; cases g
   ·exact hI.nF _ g
  repeat' (first | with_reducible refine And.intro ?_ ?_ | simp only [go_sem,seval, y5, m1, hone1, hone2] | simp (disch := omega) only [wrap64, cell_at, Rw_at] | simp (disch := first | omega | grind) only [heap_ne_, del_ne] | (intro hx_; try simp only [set_none] at hx_) | omega)
  refine nx_mk (k + 1, (some bT, some bF), H3.set b5 (.box [.vec bT 6 0 (k + 1), .vec bF 1 0 (k + 1), .sl 1 (Rw intsC next)])) ?_ (by simp only []; omega) (by (try simp only [go_sem,seval]) <;> (try simp (disch := omega) [wrap64]) <;> (try omega)) (Heap.Le.refl _)
  simp only []
  have yF5 : bF ≠ b5 := fun e => by rw [e, y5] at yF; simp at yF
  refine ⟨by omega, heap_same _ _, ?_, ?_, (fun q o hq => ?_), (fun c e => by cases e; exact vB), (fun c e => by cases e; exact yB)⟩
  ·show Heap.set _ b5 _ bT = _; rw [heap_ne _ vT5, Rw_take_succ _ _ hlt]; exact yT
  ·show Heap.set _ b5 _ bF = _; rw [heap_ne _ yF5, Rw_take_succ _ _ (by omega), hbe]; exact yF
  ·rw [heap_ne _ (fun e => by rw [e, hB5] at hq; cases hq)]; exact yKs q o hq
 ·have hkd : decide ((k : Int) < l.length) = false := decide_eq_false (by omega)
  have r4 := hI.keep _ _ hb44
  repeat' (first | with_reducible refine And.intro ?_ ?_ | simp only [go_sem,seval, hkd, r5, r4, hone1, hone2] | simp (disch := omega) only [wrap64, cell_at, Rw_at] | simp (disch := first | omega | grind) only [heap_ne_, del_ne] | (intro hx_; try simp only [set_none] at hx_) | omega)
  have hk : k = l.length := by omega
  subst hk
  rcases oT with _ | cT
  ·have h2 : Rw tmZ (l.take l.length) = [] := hI.tT
   have h3 := congrArg List.length h2
   rw [Rw_take_len _ _ (Nat.le_refl _), List.length_nil] at h3; omega
  rcases oF with _ | cF
  ·have h2 : Rw boolC ((next.map List.isEmpty).take l.length) = [] := hI.tF
   have h3 := congrArg List.length h2
   rw [Rw_take_len _ _ (by omega), List.length_nil] at h3; omega
  have qT : Hs cT = some (.vec 6 (Rw tmZ (l.take l.length))) := hI.tT
  have qF : Hs cF = some (.vec 1 (Rw boolC ((next.map List.isEmpty).take l.length))) := hI.tF
  rw [List.take_of_length_le (by omega)] at qT qF
  have n4 : ∀ q o, Hs q = some o → (∀ cs, o ≠ .box cs) → q ≠ b4 := fun q o hq h e => by rw [e, r4] at hq; exact h _ (Option.some.inj hq).symm
  have hTF : cT ≠ cF := fun e => by rw [e, qF] at qT; simp at qT
  have hBT := hI.nT cT rfl
  have hBF := hI.nF cF rfl
  refine Fin.freezeA (cs' := [.vec cT 6 0 l.length, .sl 1 (Rw boolC (next.map List.isEmpty)), .sl 1 (Rw intsC next)]) (b := cF) (by rw [heap_ne _ (n4 _ _ qF (by simp))]; exact qF) rfl (fun q d d' h1 h2 => ?_) ?_
  ·match q with
   | 0 => cases h1; cases h2; exact .same _
   | 1 => cases h1; cases h2; rw [show l.length = (Rw boolC (next.map List.isEmpty)).length by rw [Rw_len]; omega]; exact .all
   | 2 => cases h1; cases h2; exact .same _
   | q + 3 => cases h1
  refine Fin.freezeA (cs' := [.sl 6 (Rw tmZ l), .sl 1 (Rw boolC (next.map List.isEmpty)), .sl 1 (Rw intsC next)]) (b := cT) (by rw [del_ne hTF, heap_ne _ (n4 _ _ qT (by simp))]; exact qT) rfl (fun q d d' h1 h2 => ?_) ?_
  ·match q with
   | 0 => cases h1; cases h2; rw [show l.length = (Rw tmZ l).length by rw [Rw_len]]; exact .all
   | 1 => cases h1; cases h2; exact .same _
   | 2 => cases h1; cases h2; exact .same _
   | q + 3 => cases h1
  refine Fin.nilR (d' := .agg (syC (sysY l next))) (.agg _ _ rfl fun q d d' h1 h2 => ?_) (Fin.less (fun q o hq => ?_) h)
  ·match q with
   | 0 => cases h1; cases h2; exact tmZ_nil l
   | 1 => cases h1; cases h2; exact .same _
   | 2 => cases h1; cases h2; exact .same _
   | q + 3 => cases h1
  ·have hb := hH4 q o hq
   rw [del_ne (fun e => by rw [e, hBT] at hb; cases hb), del_ne (fun e => by rw [e, hBF] at hb; cases hb), heap_ne _ (fun e => by rw [e, hb4] at hq; cases hq)]
   exact hI.keep _ _ hb
end Go.Proofs.YtmohcdihdhggoaaGreatDoor
end
section
set_option maxRecDepth 20000
namespace Go.Bis
open Go Go.Av Go.Lexs
def toldC (m : Mo) (n : Int) : List D := moC m ++ [.int .i64 n]
theorem told_eta (m : Mo) (n : Int) : toldC m n = [.int .i64 m.op, .int .i64 m.term.kind, .int .i64 m.term.n, .str m.term.text, .str m.term.sort, .sl 6 (Rw tmC m.term.kids), .sl 6 (Rw tmC m.term.rest), .sl 8 (Rw moC m.kids), .int .i64 n] := by unfold toldC; rw [moC_eta]; rfl
@[go_sem] theorem told_len (m : Mo) (n : Int) : (toldC m n).length = 9 := by rw [told_eta]; rfl
@[go_sem] theorem told_take (m : Mo) (n : Int) : (toldC m n).take 8 = moC m := by rw [told_eta, moC_eta]; rfl
@[go_sem] theorem told_take9 (m : Mo) (n : Int) : (toldC m n).take 9 = toldC m n := by rw [told_eta]; rfl
@[go_sem] theorem told_8 (m : Mo) (n : Int) : ((toldC m n).drop 8).head? = some (.int .i64 n) := by rw [told_eta]; rfl
@[go_sem] theorem told_all (m : Mo) (n : Int) : (toldC m n).all D.one = true := by rw [told_eta]; rfl
@[go_sem] theorem told_7 (m : Mo) (n : Int) : ((toldC m n).drop 7).head? = some (.sl 8 (Rw moC m.kids)) := by rw [told_eta]; rfl
@[go_sem] theorem told_put (a b c d e f g h i : D) (m : Mo) (n : Int) : putAt [a, b, c, d, e, f, g, h, i] 0 (toldC m n) = toldC m n := by rw [told_eta]; rfl
@[go_sem] theorem told_putt (m m' : Mo) (n n' : Int) : putAt (toldC m n) 0 (toldC m' n') = toldC m' n' := by rw [told_eta, told_eta]; rfl
end Go.Bis
namespace Go.Proofs.YtmohcdihdhggoaaGreatDoor
open Go Go.Av Go.Lexs Go.Bis
attribute [local irreducible] ACalls at8
theorem over_a {Q} (op n : Int) (m : Mo) (hn : 0 ≤ n ∧ n < 2000) (H : Heap) (h : Q (.agg (toldC (.mk op zeroT [m]) (n + 1))) H) : ACalls Tryz.prog 94 [.int .i64 op, .agg (toldC m n)] H Q := by
 refine acalls_of_wp [] Tryz.mixed Tryz.func94 rfl (by kernel_rfl) (of_decide_eq_true (by kernel_rfl)) (by kernel_rfl) ?_
 simp only [go_sem,seval, Tryz.results94]
 have d1 : decide ((2000 : Int) ≤ n) = false := decide_eq_false (by omega)
 repeat' (first | with_reducible refine And.intro ?_ ?_ | simp only [go_sem,seval, d1] | simp (disch := omega) only [wrap64, cell_at] | simp (disch := first | omega | grind) only [heap_ne_, del_ne] | (intro hx_; try simp only [set_none] at hx_) | omega)
 rename_i b3 hb3 b4 hb4 bx
 have hbx := hx_
 clear hx_
 refine Fin.freezeA (cs' := [.int .i64 op, .int .i64 0, .int .i64 0, .str ⟨#[]⟩, .str ⟨#[]⟩, .nilsl, .nilsl, .sl 8 (Rw moC [m]), .int .i64 (n + 1)]) (b := bx) (sz := 8) (es := Rw moC [m]) (by rw [heap_ne _ (by omega)]; exact heap_same _ _) rfl (fun q d d' h1 h2 => ?_) ?_
 ·match q with
  | 0 => cases h1; cases h2; exact .same _
  | 1 => cases h1; cases h2; exact .same _
  | 2 => cases h1; cases h2; exact .same _
  | 3 => cases h1; cases h2; exact .same _
  | 4 => cases h1; cases h2; exact .same _
  | 5 => cases h1; cases h2; exact .same _
  | 6 => cases h1; cases h2; exact .same _
  | 7 => cases h1; cases h2; exact .all
  | 8 => cases h1; cases h2; exact .same _
  | q + 9 => cases h1
 refine Fin.nilR (d' := .agg (toldC (.mk op zeroT [m]) (n + 1))) (.agg _ _ rfl fun q d d' h1 h2 => ?_) (Fin.less (fun q o hq => ?_) h)
 ·rw [told_eta] at h2
  match q with
  | 0 => cases h1; cases h2; exact .same _
  | 1 => cases h1; cases h2; exact .same _
  | 2 => cases h1; cases h2; exact .same _
  | 3 => cases h1; cases h2; exact .same _
  | 4 => cases h1; cases h2; exact .same _
  | 5 => cases h1; cases h2; exact .nil _
  | 6 => cases h1; cases h2; exact .nil _
  | 7 => cases h1; cases h2; exact .same _
  | 8 => cases h1; cases h2; exact .same _
  | q + 9 => cases h1
 ·simp only [Heap.del, Heap.set]
  have q1 : q ≠ bx := fun e => by rw [e, hbx.2.2] at hq; cases hq
  have q2 : q ≠ b4 := fun e => by rw [e, hb4.2] at hq; cases hq
  have q3 : q ≠ b3 := fun e => by rw [e, hb3] at hq; cases hq
  rw [if_neg q1, if_neg q2, if_neg q1, if_neg q2, if_neg q3]; exact hq
theorem index_a {Q} (l : List Int) (x : Int) (hl : l.length ≤ 1000000000) (H : Heap) (h : Q (.int .i64 (idxI (fun y => decide (x = y)) l)) H) : ACalls Tryz.prog 144 [.sl 1 (Rw intC l), .int .i64 x] H Q := by
 refine acalls_of_wp [] Tryz.mixed Tryz.func144 rfl (by kernel_rfl) (of_decide_eq_true (by kernel_rfl)) (by kernel_rfl) ?_
 simp only [go_sem,seval, Tryz.results144]
 refine loop_c [0, 1, 7] (fun (k : Nat) => [(8, .int .i64 k)]) (fun (k : Nat) => H) (fun (k : Nat) => k ≤ l.length ∧ idxI (fun y => decide (x = y)) l = if idxI (fun y => decide (x = y)) (l.drop k) < 0 then -1 else idxI (fun y => decide (x = y)) (l.drop k) + k) (fun (k : Nat) => l.length - k) (0) (⟨Nat.zero_le _, by have := idxI_ge (fun y => decide (x = y)) l; rw [List.drop_zero]; split <;> omega⟩) (by (try simp only [go_sem,seval]) <;> (try simp (disch := omega) [wrap64]) <;> (try omega)) (by first | with_reducible exact Heap.Le.refl _ | exact heap_set_le (by assumption) | exact Heap.Le.refl _ | exact heap_le_set (by assumption) | exact (by simp only [Go.Av.Heap.Le, Go.Av.Heap.set, Go.Av.Heap.del] at * <;> grind)) ?_
 rintro Ec rfl k ⟨hk, hp⟩
 by_cases hlt : k < l.length
 ·have hkd : decide ((k : Int) < l.length) = true := decide_eq_true (by omega)
  rw [idxI_drop _ l k hlt] at hp
  by_cases he : x = l[k]
  ·rw [if_pos (decide_eq_true he)] at hp
   simp only [Int.zero_add, show ¬ ((0 : Int) < 0) by omega, if_false] at hp
   rw [hp] at h
   repeat' (first | with_reducible refine And.intro ?_ ?_ | simp only [go_sem,seval, hkd, Rw_at _ _ hlt, he] | simp (disch := omega) only [wrap64, cell_at, Rw_at] | simp (disch := first | omega | grind) only [heap_ne_, del_ne] | (intro hx_; try simp only [set_none] at hx_) | omega)
   exact Fin.same h
  ·simp only [he, decide_false, Bool.false_eq_true, if_false] at hp
   repeat' (first | with_reducible refine And.intro ?_ ?_ | simp only [go_sem,seval, hkd, Rw_at _ _ hlt, he] | simp (disch := omega) only [wrap64, cell_at, Rw_at] | simp (disch := first | omega | grind) only [heap_ne_, del_ne] | (intro hx_; try simp only [set_none] at hx_) | omega)
   exact nx_mk (k + 1) ⟨by omega, by rw [hp]; have := idxI_ge (fun y => decide (x = y)) (l.drop (k + 1)); split <;> split <;> omega⟩ (by omega) (by (try simp only [go_sem,seval]) <;> (try simp (disch := omega) [wrap64]) <;> (try omega)) (Heap.Le.refl _)
 ·have hkd : decide ((k : Int) < l.length) = false := decide_eq_false (by omega)
  rw [List.drop_eq_nil_of_le (by omega), idxI] at hp
  repeat' (first | with_reducible refine And.intro ?_ ?_ | simp only [go_sem,seval, hkd] | simp (disch := omega) only [wrap64, cell_at, Rw_at] | simp (disch := first | omega | grind) only [heap_ne_, del_ne] | (intro hx_; try simp only [set_none] at hx_) | omega)
  simp only [show ((-1 : Int) < 0) by omega, if_true] at hp
  rw [hp] at h
  exact Fin.same h
theorem contains_a {Q} (l : List Int) (x : Int) (hl : l.length ≤ 1000000000) (H : Heap) (h : Q (.bool (l.any fun y => decide (x = y))) H) : ACalls Tryz.prog 127 [.sl 1 (Rw intC l), .int .i64 x] H Q := by
 refine acalls_of_wp [] Tryz.mixed Tryz.func127 rfl (by kernel_rfl) (of_decide_eq_true (by kernel_rfl)) (by kernel_rfl) ?_
 simp only [go_sem,seval, Tryz.results127]
 rw [← idxI_any] at h
 repeat' (first | with_reducible refine And.intro ?_ ?_ | simp only [go_sem,seval] | simp (disch := omega) only [wrap64, cell_at] | simp (disch := first | omega | grind) only [heap_ne_, del_ne] | (intro hx_; try simp only [set_none] at hx_) | with_reducible refine index_a l x hl _ ?_ | omega)
 exact Fin.same h
theorem find1_a {Q} (row : List Int) (i j : Nat) (hi : i < row.length) (hj : j < row.length) (b4 b5 : Nat) (H : Heap) (h4 : H b4 = some (.box [.int .i64 i])) (h5 : H b5 = some (.box [.int .i64 j])) (h : Q (.bool (!decide (row[i] = row[j]))) H) : ACalls Tryz.prog 93 [.sl 1 (Rw intC row), .box b4 0, .box b5 0] H Q := by
 refine acalls_of_wp [] Tryz.mixed Tryz.func93 rfl (by kernel_rfl) (of_decide_eq_true (by kernel_rfl)) (by kernel_rfl) ?_
 simp only [go_sem,seval, Tryz.results93]
 have hii : (i : Int) < row.length := by omega
 have hjj : (j : Int) < row.length := by omega
 repeat' (first | with_reducible refine And.intro ?_ ?_ | simp only [go_sem,seval, h4, h5, hii, hjj, Rw_at _ _ hi, Rw_get _ _ hi, Rw_at _ _ hj, Rw_get _ _ hj] | simp (disch := omega) only [wrap64, cell_at, Rw_at] | simp (disch := first | omega | grind) only [heap_ne_, del_ne] | (intro hx_; try simp only [set_none] at hx_) | omega)
 all_goals (refine Av.Fin.less (H' := H) (by first | with_reducible exact Heap.Le.refl _ | exact heap_le_set (by assumption) | exact (heap_le_set (by assumption)).trans (heap_le_set (by assumption)) | exact (heap_le_set (by assumption)).trans ((heap_le_set (by assumption)).trans (heap_le_set (by assumption))) | exact (by simp only [Go.Av.Heap.Le, Go.Av.Heap.set, Go.Av.Heap.del] at * <;> grind)) ?_; first | exact h | (simp_all; done) | simpa [*] using h)
end Go.Proofs.YtmohcdihdhggoaaGreatDoor
end
section
set_option maxRecDepth 20000
namespace Go.Bis
open Go Go.Av Go.Lexs
def moP (m : Mo) (d : D) : List D := [.int .i64 m.op, .int .i64 m.term.kind, .int .i64 m.term.n, .str m.term.text, .str m.term.sort, .sl 6 (Rw tmC m.term.kids), .sl 6 (Rw tmC m.term.rest), d]
@[go_sem] theorem tmC_put1 (o a b c d e f g : D) (t : Tm) : putAt [o, a, b, c, d, e, f, g] 1 (tmC t) = [o, .int .i64 t.kind, .int .i64 t.n, .str t.text, .str t.sort, .sl 6 (Rw tmC t.kids), .sl 6 (Rw tmC t.rest), g] := by rw [tmC_eta]; rfl
structure ClI (m : Mo) (Bs : Heap) (b3 k : Nat) (ob : Option Nat) (Hs : Heap) : Prop where
 kl : k ≤ m.kids.length
 box : Hs b3 = some (.box (moP m (outG 8 k ob)))
 t : OutAt Hs 8 (Rw moC (m.kids.take k)) ob
 keep : ∀ q o, Bs q = some o → Hs q = some o
 n : ∀ c, ob = some c → Bs c = none
end Go.Bis
namespace Go.Proofs.YtmohcdihdhggoaaGreatDoor
open Go Go.Av Go.Lexs Go.Bis
attribute [local irreducible] ACalls at8
set_option maxHeartbeats 2000000 in
theorem cloneM_n (n : Nat) : ∀ {Q} (m : Mo) (hn : SizeOf.sizeOf m ≤ n) (hm : MoFit m) (H : Heap) (h : Q (.agg (moC m)) H), ACalls Tryz.prog 47 [.agg (moC m)] H Q := by
 induction n with
 | zero => intro Q m hn; cases m; simp at hn
 | succ n ih =>
 intro Q m hn hm H h
 refine acalls_of_wp [(1, .par), (5, .par)] Tryz.mixed Tryz.func47 rfl (by kernel_rfl) (of_decide_eq_true (by kernel_rfl)) (by kernel_rfl) ?_
 simp only [go_sem,seval, Tryz.results47]
 have ht := hm.t
 have hl := hm.l
 intro b1 hb1 b2 hb2
 have e1 : ∀ o, ((H.set b1 (.box (moC m))).set b2 o) b1 = some (.box (moC m)) := fun o => by rw [heap_ne _ (by rintro rfl; rw [heap_same] at hb2; cases hb2)]; exact heap_same _ _
 refine par_mk2 (fun i => if i = 4 then .c (.agg (tmC m.term)) else .c .undef) [b1] ?_
 have m1 : b1 ∈ [b1] := by simp
 repeat' (first | with_reducible refine And.intro ?_ ?_ | simp only [go_sem,seval, e1, m1] | simp (disch := omega) only [wrap64, cell_at, Rw_at] | simp (disch := first | omega | grind) only [heap_ne_, del_ne] | (intro hx_; try simp only [set_none] at hx_) | with_reducible refine pc0 (fun H' Q hro hq => clone_a _ ht H' hq) ?_ | omega)
 rename_i b3
 have hf3 := hx_
 clear hx_
 have e2 : ((H.set b1 (.box (moC m))).set b2 (.box [.int .i64 0, .int .i64 0, .int .i64 0, .str ⟨#[]⟩, .str ⟨#[]⟩, .nilsl, .nilsl, .nilsl])) b2 = some (.box [.int .i64 0, .int .i64 0, .int .i64 0, .str ⟨#[]⟩, .str ⟨#[]⟩, .nilsl, .nilsl, .nilsl]) := heap_same _ _
 have hle : H.Le ((H.set b1 (.box (moC m))).set b2 (.box [.int .i64 0, .int .i64 0, .int .i64 0, .str ⟨#[]⟩, .str ⟨#[]⟩, .nilsl, .nilsl, .nilsl])) := (heap_le_set hb1).trans (heap_le_set hb2)
 have hH2 : H b2 = none := (heap_le_set hb1).none hb2
 have e1 := e1 (.box [.int .i64 0, .int .i64 0, .int .i64 0, .str ⟨#[]⟩, .str ⟨#[]⟩, .nilsl, .nilsl, .nilsl])
 have hB3 : ((H.set b1 (.box (moC m))).set b2 (.box [.int .i64 0, .int .i64 0, .int .i64 0, .str ⟨#[]⟩, .str ⟨#[]⟩, .nilsl, .nilsl, .nilsl])) b3 = none := by first | exact hf3 | (simp only [set_none]; exact hf3)
 clear hf3
 generalize (H.set b1 (.box (moC m))).set b2 (.box [.int .i64 0, .int .i64 0, .int .i64 0, .str ⟨#[]⟩, .str ⟨#[]⟩, .nilsl, .nilsl, .nilsl]) = Bs at e1 e2 hle hB3 ⊢
 have n23 : b2 ≠ b3 := fun e => by rw [e, hB3] at e2; cases e2
 have hst0 : ClI m Bs b3 0 none (Bs.set b3 (.box (moP m .nilsl))) := ⟨Nat.zero_le _, heap_same _ _, rfl, (fun q o hq => by rw [heap_ne _ (fun e => by rw [e, hB3] at hq; cases hq)]; exact hq), fun c e => by cases e⟩
 refine loop_c [2, 3, 13, 14] (fun (p : Nat × Option Nat × Heap) => [(15, .int .i64 p.1)]) (fun (p : Nat × Option Nat × Heap) => p.2.2) (fun (p : Nat × Option Nat × Heap) => ClI m Bs b3 p.1 p.2.1 p.2.2) (fun (p : Nat × Option Nat × Heap) => m.kids.length - p.1) ((0, none, (Bs.set b3 (.box (moP m .nilsl))))) (hst0) (by (try simp only [go_sem,seval]) <;> (try simp (disch := omega) [wrap64]) <;> (try omega)) (by first | with_reducible exact Heap.Le.refl _ | exact heap_set_le (by assumption) | exact Heap.Le.refl _ | exact heap_le_set (by assumption) | exact (by simp only [Go.Av.Heap.Le, Go.Av.Heap.set, Go.Av.Heap.del] at * <;> grind)) ?_
 rintro Ec rfl ⟨k, ob, Hs⟩ hI
 simp only at hI
 have hkl := hI.kl
 have r3 := hI.box
 have r2 := hI.keep _ _ e2
 have hone : (outG 8 k ob).one = true := by cases ob <;> rfl
 unfold D.one at hone
 unfold moP at r3
 by_cases hlt : k < m.kids.length
 ·have hkd : decide ((k : Int) < m.kids.length) = true := decide_eq_true (by omega)
  have hmem := List.getElem_mem hlt
  have hkm := hm.k _ hmem
  repeat' (first | with_reducible refine And.intro ?_ ?_ | simp only [go_sem,seval, hkd, r3, Rw_at _ _ hlt] | simp (disch := omega) only [wrap64, cell_at, Rw_at] | simp (disch := first | omega | grind) only [heap_ne_, del_ne] | (intro hx_; try simp only [set_none] at hx_) | omega)
  rename_i b5
  have hf5 := hx_
  clear hx_
  have n35 : b3 ≠ b5 := fun e => by rw [e, hf5] at r3; cases r3
  have q3 : (Hs.set b5 (.box (moC m.kids[k]))) b3 = some (.box [.int .i64 m.op, .int .i64 m.term.kind, .int .i64 m.term.n, .str m.term.text, .str m.term.sort, .sl 6 (Rw tmC m.term.kids), .sl 6 (Rw tmC m.term.rest), outG 8 k ob]) := by rw [heap_ne _ n35]; exact r3
  have q5 : (Hs.set b5 (.box (moC m.kids[k]))) b5 = some (.box (moC m.kids[k])) := heap_same _ _
  have qt : OutAt (Hs.set b5 (.box (moC m.kids[k]))) 8 (Rw moC (m.kids.take k)) ob := outAt_keep hI.t (fun q o hq e => by rw [heap_ne _ (fun g => by rw [g, hf5] at hq; cases hq)]; exact hq)
  have qK : ∀ q o, Bs q = some o → (Hs.set b5 (.box (moC m.kids[k]))) q = some o := fun q o hq => by
   have := hI.keep q o hq
   rw [heap_ne _ (fun g => by rw [g, hf5] at this; cases this)]; exact this
  generalize Hs.set b5 (.box (moC m.kids[k])) = H1 at q3 q5 qt qK ⊢
  refine par_mk2 (fun i => if i = 3 then .c (.agg (moC m.kids[k])) else .c .undef) [b3, b5] ?_
  have m3 : b3 ∈ [b3, b5] := by simp
  have m5 : b5 ∈ [b3, b5] := by simp
  repeat' (first | with_reducible refine And.intro ?_ ?_ | simp only [go_sem,seval, q3, q5, m3, m5, hone] | simp (disch := omega) only [wrap64, cell_at, Rw_at] | simp (disch := first | omega | grind) only [heap_ne_, del_ne] | (intro hx_; try simp only [set_none] at hx_) | with_reducible refine pc0 (fun H' Q hro hq => ih m.kids[k] (by have := mkid_lt hmem; omega) hkm H' hq) ?_ | omega)
  rename_i x1
  have hx1 := hx_
  clear hx_
  refine p_apZ 44 128 (n := k) (m := 1) (ob := ob) (es := Rw moC (m.kids.take k)) (xs := [moC m.kids[k]]) (by simp only [go_sem,seval]) (by decide) (by simp only [go_sem,seval]) (by simp only [go_sem,seval]) (by simp only [go_sem,seval]) (by simp only [go_sem,seval]) hx1 rfl (by simp) qt (by rw [Rw_take_len _ _ (by omega)]) (fun c hc => by simp only [List.mem_cons, List.not_mem_nil, or_false] at hc; rcases hc with rfl | rfl; exact ⟨_, q3, by simp⟩; exact ⟨_, q5, by simp⟩) (by simp only [List.length_cons, List.length_nil]; omega) (by simp only [List.length_cons, List.length_nil]; omega) fun b' H3 hA3 => ?_
  obtain ⟨yF, yK, yN⟩ := hA3
  have y3 := yK _ _ q3 (outAt_ne qt q3 (by simp))
  have yKs : ∀ q o, Bs q = some o → H3 q = some o := fun q o hq => yK q o (qK q o hq) (fun g => by have := hI.n q g; rw [hq] at this; cases this)
  have yB : Bs b' = none := by
   rcases yN with g | g
   ·cases hb : Bs b' with
    | none => rfl
    | some o => rw [qK _ _ hb] at g; cases g
   ·exact hI.n _ g
  repeat' (first | with_reducible refine And.intro ?_ ?_ | simp only [go_sem,seval, y3, m3, m5, hone] | simp (disch := omega) only [wrap64, cell_at, Rw_at] | simp (disch := first | omega | grind) only [heap_ne_, del_ne] | (intro hx_; try simp only [set_none] at hx_) | omega)
  refine nx_mk (k + 1, some b', H3.set b3 (.box (moP m (.vec b' 8 0 (k + 1))))) ?_ (by simp only []; omega) (by (try simp only [go_sem,seval]) <;> (try simp (disch := omega) [wrap64]) <;> (try omega)) (Heap.Le.refl _)
  simp only []
  have yF3 : b' ≠ b3 := fun e => by rw [e, y3] at yF; simp at yF
  refine ⟨by omega, heap_same _ _, ?_, (fun q o hq => ?_), (fun c e => by cases e; exact yB)⟩
  ·show Heap.set _ b3 _ b' = _; rw [heap_ne _ yF3, Rw_take_succ _ _ hlt]; exact yF
  ·rw [heap_ne _ (fun e => by rw [e, hB3] at hq; cases hq)]; exact yKs q o hq
 ·have hkd : decide ((k : Int) < m.kids.length) = false := decide_eq_false (by omega)
  repeat' (first | with_reducible refine And.intro ?_ ?_ | simp only [go_sem,seval, hkd, r3, r2, hone] | simp (disch := omega) only [wrap64, cell_at, Rw_at] | simp (disch := first | omega | grind) only [heap_ne_, del_ne] | (intro hx_; try simp only [set_none] at hx_) | omega)
  have hk : k = m.kids.length := by omega
  subst hk
  have fin : ∀ q o, H q = some o → Hs q = some o ∧ q ≠ b2 := fun q o hq => ⟨hI.keep _ _ (hle q o hq), fun e => by rw [e, hH2] at hq; cases hq⟩
  rcases ob with _ | c
  ·have h0 : m.kids = [] := by
    have h2 : Rw moC (m.kids.take m.kids.length) = [] := hI.t
    have h3 := congrArg List.length h2
    rw [Rw_take_len _ _ (Nat.le_refl _)] at h3
    exact List.eq_nil_of_length_eq_zero h3
   refine Fin.nilR (d' := .agg (moC m)) (.agg _ _ (by rw [moC_len]; rfl) fun q d d' h1 h2 => ?_) (Fin.less (fun q o hq => by rw [heap_ne _ (fin q o hq).2]; exact (fin q o hq).1) h)
   rw [moC_eta, h0] at h2
   match q with
   | 0 => cases h1; cases h2; exact .same _
   | 1 => cases h1; cases h2; exact .same _
   | 2 => cases h1; cases h2; exact .same _
   | 3 => cases h1; cases h2; exact .same _
   | 4 => cases h1; cases h2; exact .same _
   | 5 => cases h1; cases h2; exact .same _
   | 6 => cases h1; cases h2; exact .same _
   | 7 => cases h1; cases h2; exact .nil _
   | q + 8 => cases h1
  ·have hc : Hs c = some (.vec 8 (Rw moC (m.kids.take m.kids.length))) := hI.t
   rw [List.take_of_length_le (by omega)] at hc
   have hc2 : c ≠ b2 := fun e => by rw [e, r2] at hc; simp at hc
   have hBc := hI.n c rfl
   refine Fin.freezeA (cs' := moC m) (b := c) (by rw [heap_ne _ hc2]; exact hc) (by rw [moC_len]; rfl) (fun q d d' h1 h2 => ?_) (Fin.less (fun q o hq => ?_) h)
   ·rw [moC_eta] at h2
    match q with
    | 0 => cases h1; cases h2; exact .same _
    | 1 => cases h1; cases h2; exact .same _
    | 2 => cases h1; cases h2; exact .same _
    | 3 => cases h1; cases h2; exact .same _
    | 4 => cases h1; cases h2; exact .same _
    | 5 => cases h1; cases h2; exact .same _
    | 6 => cases h1; cases h2; exact .same _
    | 7 => cases h1; cases h2; rw [show m.kids.length = (Rw moC m.kids).length by rw [Rw_len]]; exact .all
    | q + 8 => cases h1
   ·rw [del_ne (fun e => by have := hle q o hq; rw [e, hBc] at this; cases this), heap_ne _ (fin q o hq).2]; exact (fin q o hq).1
theorem cloneM_a {Q} (m : Mo) (hm : MoFit m) (H : Heap) (h : Q (.agg (moC m)) H) : ACalls Tryz.prog 47 [.agg (moC m)] H Q := cloneM_n _ m (Nat.le_refl _) hm H h
end Go.Proofs.YtmohcdihdhggoaaGreatDoor
end
section
set_option maxRecDepth 20000
namespace Go.Bis
open Go Go.Av Go.Lexs
def allI : List (List Int) := [[0, 1, 2, 0, 1], [0, 1, 2, 3, 1]]
def toI : List (List Int) := [[0, 1, 2], [1], [2], [3, 4], [4]]
def tlC (mb : Nat) : List D := [.sl 6 (Rw tmC uU.seen), .sl 1 (Rw boolC uU.final), .sl 1 (Rw intsC uU.next), .sl 1 (Rw intsC allI), .sl 1 (Rw intsC toI), .map mb]
def m20 : Mo := .mk 1 (iT 2) []
def z9 : List D := [.int .i64 0, .int .i64 0, .int .i64 0, .str ⟨#[]⟩, .str ⟨#[]⟩, .nilsl, .nilsl, .nilsl, .int .i64 0]
def k20 : D × D := (.agg [.int .i64 2, .int .i64 0], .agg (toldC m20 1))
theorem leadsU : Rw natsC (leadsL uU) = Rw intsC toI := by
 have : leadsL uU = tU := by
  refine List.ext_getElem (by rw [leadsL_length]; decide +kernel) fun k h1 h2 => ?_
  have hk : k < uU.seen.length := by rw [leadsL_length] at h1; exact h1
  have e1 := toU k hk
  rw [← leadsL_at uU k hk] at e1
  simpa [h1, h2] using e1
 rw [this]; rfl
theorem sat20 : satRow uU (toN uU) m20 = [false, false, true, false, false] := by
 have h : ∀ i, satM uU (toN uU) m20 i = eqT (uU.seen.getD i default) (iT 2) := fun i => by rw [satM_eq]; rfl
 unfold satRow
 rw [List.map_congr_left (fun i _ => h i)]
 decide +kernel
theorem cls34 : clsZ [0, 1, 2, 0, 1] [3, 4] = [0, 1] := strict_ext (riseZ_strict _).1 (by decide) fun x => by
 show x ∈ riseZ _ ↔ _
 rw [(riseZ_strict _).2]; simp
theorem cls012 : clsZ [0, 1, 2, 0, 1] [0, 1, 2] = [0, 1, 2] := strict_ext (riseZ_strict _).1 (by decide) fun x => by
 show x ∈ riseZ _ ↔ _
 rw [(riseZ_strict _).2]; simp
theorem uU_ok : SyOk uU := validY_ok (by decide +kernel)
theorem uU_fit : SyFit uU := union_fit cY_fit aY_fit (validY_ok cY_valid) (validY_ok aY_valid)
theorem m20_fit : MoFit m20 := .mk _ _ _ (by decide) (iT_fit 2 (by decide)) (by decide) (by simp)
end Go.Bis
namespace Go.Proofs.YtmohcdihdhggoaaGreatDoor
open Go Go.Av Go.Lexs Go.Bis
attribute [local irreducible] ACalls at8
theorem findF {H : Heap} {b4 b5 i j : Nat} (h4 : H b4 = some (.box [.int .i64 i])) (h5 : H b5 = some (.box [.int .i64 j])) (hi : i < 5) (hj : j < 5) : ∀ a ∈ allI, ∀ (Q : D → Heap → Prop), Q (.bool (!decide (a.getD i 0 = a.getD j 0))) H → ACalls Tryz.prog 93 ([] ++ [.sl 1 (Rw intC a)] ++ [.box b4 0, .box b5 0]) H Q := fun a ha Q hq => by
 have hl : a.length = 5 := by
  simp only [allI, List.mem_cons, List.not_mem_nil, or_false] at ha
  rcases ha with rfl | rfl <;> rfl
 refine find1_a a i j (by omega) (by omega) b4 b5 H h4 h5 ?_
 have e1 : a.getD i 0 = a[i]'(by omega) := by simp [show i < a.length by omega]
 have e2 : a.getD j 0 = a[j]'(by omega) := by simp [show j < a.length by omega]
 rw [← e1, ← e2]; exact hq
set_option maxHeartbeats 2000000 in
theorem find20_a {Q} (tb mb : Nat) (H : Heap) (ht : H tb = some (.box (tlC mb))) (h : Q (.agg (toldC m20 1)) H) : ACalls Tryz.prog 74 [.box tb 0, .int .i64 2, .int .i64 0] H Q := by
 refine acalls_of_wp [] Tryz.mixed Tryz.func74 rfl (by kernel_rfl) (of_decide_eq_true (by kernel_rfl)) (by kernel_rfl) ?_
 simp only [go_sem,seval, Tryz.results74]
 unfold tlC at ht
 repeat' (first | with_reducible refine And.intro ?_ ?_ | simp only [go_sem,seval, ht] | simp (disch := omega) only [wrap64, cell_at, Rw_at] | simp (disch := first | omega | grind) only [heap_ne_, del_ne] | (intro hx_; try simp only [set_none] at hx_) | omega)
 rename_i b4 hb4 b5 hb5 b6
 have hb6 := hx_
 clear hx_
 have g4 : (((H.set b4 (.box [.int .i64 2])).set b5 (.box [.int .i64 0])).set b6 (.box [.int .i64 0, .int .i64 0, .int .i64 0, .str ⟨#[]⟩, .str ⟨#[]⟩, .nilsl, .nilsl, .nilsl, .int .i64 0])) b4 = some (.box [.int .i64 (2 : Nat)]) := by simp only [Heap.set]; grind
 have g5 : (((H.set b4 (.box [.int .i64 2])).set b5 (.box [.int .i64 0])).set b6 (.box [.int .i64 0, .int .i64 0, .int .i64 0, .str ⟨#[]⟩, .str ⟨#[]⟩, .nilsl, .nilsl, .nilsl, .int .i64 0])) b5 = some (.box [.int .i64 (0 : Nat)]) := by simp only [Heap.set]; grind
 have g6 : (((H.set b4 (.box [.int .i64 2])).set b5 (.box [.int .i64 0])).set b6 (.box [.int .i64 0, .int .i64 0, .int .i64 0, .str ⟨#[]⟩, .str ⟨#[]⟩, .nilsl, .nilsl, .nilsl, .int .i64 0])) b6 = some (.box [.int .i64 0, .int .i64 0, .int .i64 0, .str ⟨#[]⟩, .str ⟨#[]⟩, .nilsl, .nilsl, .nilsl, .int .i64 0]) := heap_same _ _
 have gK : ∀ q o, H q = some o → (((H.set b4 (.box [.int .i64 2])).set b5 (.box [.int .i64 0])).set b6 (.box [.int .i64 0, .int .i64 0, .int .i64 0, .str ⟨#[]⟩, .str ⟨#[]⟩, .nilsl, .nilsl, .nilsl, .int .i64 0])) q = some o := fun q o hq => by simp only [Heap.set]; grind
 have gt := gK _ _ ht
 have hH6 : H b6 = none := hb6.2.2
 generalize ((H.set b4 (.box [.int .i64 2])).set b5 (.box [.int .i64 0])).set b6 (.box [.int .i64 0, .int .i64 0, .int .i64 0, .str ⟨#[]⟩, .str ⟨#[]⟩, .nilsl, .nilsl, .nilsl, .int .i64 0]) = Bs at g4 g5 g6 gK gt ⊢
 have hix : idxI (fun a : List Int => !decide (a.getD 2 0 = a.getD 0 0)) allI = 0 := by decide +kernel
 have l2 : 2 < uU.seen.length := by decide +kernel
 have l0 : 0 < uU.seen.length := by decide +kernel
 have l2i : (2 : Int) < uU.seen.length := by decide +kernel
 have l0i : (0 : Int) < uU.seen.length := by decide +kernel
 have s2 : uU.seen[2] = iT 2 := rfl
 have s0 : uU.seen[0] = iT 0 := rfl
 have hne : eqT (iT 2) (iT 0) = false := by decide +kernel
 refine idxII_a (fun a => !decide (a.getD 2 0 = a.getD 0 0)) allI (by decide) _ _ _ _ (findF g4 g5 (by omega) (by omega)) ?_
 rw [hix]
 repeat' (first | with_reducible refine And.intro ?_ ?_ | simp only [go_sem,seval, gt, g4, g5, g6, l2i, l0i, Rw_at _ _ l2, Rw_get _ _ l2, Rw_at _ _ l0, Rw_get _ _ l0, s2, s0, hne] | simp (disch := omega) only [wrap64, cell_at, Rw_at] | simp (disch := first | omega | grind) only [heap_ne_, del_ne] | (intro hx_; try simp only [set_none] at hx_) | with_reducible refine same_a (iT 2) (iT 0) (iT_fit 2 (by decide)) (iT_fit 0 (by decide)) _ ?_ | omega)
 refine Fin.nilR (d' := .agg (toldC m20 1)) (.agg _ _ rfl fun q d d' h1 h2 => ?_) (Fin.less (fun q o hq => by rw [heap_ne _ (fun e => by rw [e, hH6] at hq; cases hq)]; exact gK q o hq) h)
 rw [told_eta] at h2
 match q with
 | 0 => cases h1; cases h2; exact .same _
 | 1 => cases h1; cases h2; exact .same _
 | 2 => cases h1; cases h2; exact .same _
 | 3 => cases h1; cases h2; exact .same _
 | 4 => cases h1; cases h2; exact .same _
 | 5 => cases h1; cases h2; exact .same _
 | 6 => cases h1; cases h2; exact .same _
 | 7 => cases h1; cases h2; exact .nil _
 | 8 => cases h1; cases h2; exact .same _
 | q + 9 => cases h1
theorem tell_a {Q} (i j n : Int) (m : Mo) (tb mb : Nat) (kvs kvs' : List (D × D)) (H : Heap) (ht : H tb = some (.box (tlC mb))) (hmb : H mb = some (.map kvs)) (hk : findD (.arr 2 .int) (.agg [.int .i64 i, .int .i64 j]) kvs 0 = some none) (hk' : findD (.arr 2 .int) (.agg [.int .i64 i, .int .i64 j]) kvs' 0 = some none)
  (hf : ∀ (Hx : Heap) (Q : D → Heap → Prop), Hx tb = some (.box (tlC mb)) → Hx mb = some (.map kvs) → Q (.agg (toldC m n)) (Hx.set mb (.map kvs')) → ACalls Tryz.prog 74 [.box tb 0, .int .i64 i, .int .i64 j] Hx Q)
  (h : Q (.agg (toldC m n)) (H.set mb (.map (kvs' ++ [(.agg [.int .i64 i, .int .i64 j], .agg (toldC m n))])))) : ACalls Tryz.prog 46 [.box tb 0, .int .i64 i, .int .i64 j] H Q := by
 refine acalls_of_wp [(2, .par)] Tryz.mixed Tryz.func46 rfl (by kernel_rfl) (of_decide_eq_true (by kernel_rfl)) (by kernel_rfl) ?_
 simp only [go_sem,seval, Tryz.results46]
 have ht' := ht
 unfold tlC at ht
 repeat' (first | with_reducible refine And.intro ?_ ?_ | simp only [go_sem,seval, ht] | simp (disch := omega) only [wrap64, cell_at] | simp (disch := first | omega | grind) only [heap_ne_, del_ne] | (intro hx_; try simp only [set_none] at hx_) | omega)
 rename_i b6 hb6 b7
 have hb7 := hx_
 clear hx_
 have n67 : b7 ≠ b6 := by first | exact hb7.1 | skip
 have ntm : tb ≠ mb := fun e => by rw [e, hmb] at ht; cases ht
 have g7 : ∀ o o', ((H.set b6 o).set b7 o') b7 = some o' := fun o o' => heap_same _ _
 have g6 : ∀ o o', ((H.set b6 o).set b7 o') b6 = some o := fun o o' => by rw [heap_ne _ (Ne.symm n67)]; exact heap_same _ _
 have gK : ∀ o o' q x, H q = some x → ((H.set b6 o).set b7 o') q = some x := fun o o' q x hq => by
  rw [heap_ne _ (fun e => by have := hb7.2; rw [← e, hq] at this; cases this), heap_ne _ (fun e => by rw [e, hb6] at hq; cases hq)]; exact hq
 have gt := fun o o' => gK o o' _ _ ht
 have gm := fun o o' => gK o o' _ _ hmb
 refine par_mk2 (fun i => .c .undef) [tb, b7, mb] ?_
 have m1 : tb ∈ [tb, b7, mb] := by simp
 have m2 : b7 ∈ [tb, b7, mb] := by simp
 have m3 : mb ∈ [tb, b7, mb] := by simp
 repeat' (first | with_reducible refine And.intro ?_ ?_ | simp only [go_sem,seval, gt, g7, gm, m1, m2, m3, hk] | simp (disch := omega) only [wrap64, cell_at] | simp (disch := first | omega | grind) only [heap_ne_, del_ne] | (intro hx_; try simp only [set_none] at hx_) | omega)
 rename_i b8
 have hb8 := hx_
 clear hx_
 have e7 := g7 (.box [.int .i64 0, .int .i64 0, .int .i64 0, .str ⟨#[]⟩, .str ⟨#[]⟩, .nilsl, .nilsl, .nilsl, .int .i64 0]) (.box [.int .i64 i, .int .i64 j])
 have e6 := g6 (.box [.int .i64 0, .int .i64 0, .int .i64 0, .str ⟨#[]⟩, .str ⟨#[]⟩, .nilsl, .nilsl, .nilsl, .int .i64 0]) (.box [.int .i64 i, .int .i64 j])
 have eK := gK (.box [.int .i64 0, .int .i64 0, .int .i64 0, .str ⟨#[]⟩, .str ⟨#[]⟩, .nilsl, .nilsl, .nilsl, .int .i64 0]) (.box [.int .i64 i, .int .i64 j])
 have hB8 : ((H.set b6 (.box [.int .i64 0, .int .i64 0, .int .i64 0, .str ⟨#[]⟩, .str ⟨#[]⟩, .nilsl, .nilsl, .nilsl, .int .i64 0])).set b7 (.box [.int .i64 i, .int .i64 j])) b8 = none := by first | exact hb8 | (simp only [set_none]; exact hb8)
 clear g7 g6 gt gm gK hb8
 generalize (H.set b6 (.box [.int .i64 0, .int .i64 0, .int .i64 0, .str ⟨#[]⟩, .str ⟨#[]⟩, .nilsl, .nilsl, .nilsl, .int .i64 0])).set b7 (.box [.int .i64 i, .int .i64 j]) = Bs at e7 e6 eK hB8 ⊢
 have c7 : ∀ o, (Bs.set b8 o) b7 = some (.box [.int .i64 i, .int .i64 j]) := fun o => by rw [heap_ne _ (fun e => by rw [e, hB8] at e7; cases e7)]; exact e7
 have c6 : ∀ o, (Bs.set b8 o) b6 = some (.box [.int .i64 0, .int .i64 0, .int .i64 0, .str ⟨#[]⟩, .str ⟨#[]⟩, .nilsl, .nilsl, .nilsl, .int .i64 0]) := fun o => by rw [heap_ne _ (fun e => by rw [e, hB8] at e6; cases e6)]; exact e6
 have cK : ∀ o q x, H q = some x → (Bs.set b8 o) q = some x := fun o q x hq => by
  have h2 := eK q x hq
  rw [heap_ne _ (fun e => by rw [e, hB8] at h2; cases h2)]; exact h2
 have c8 : ∀ o, (Bs.set b8 o) b8 = some o := fun o => heap_same _ _
 generalize hO : Av.Obj.box [.int .i64 0, .int .i64 0, .int .i64 0, .str ⟨#[]⟩, .str ⟨#[]⟩, .nilsl, .nilsl, .nilsl, .int .i64 0] = O at c6 ⊢
 have d7 := c7 O
 have d6 := c6 O
 have dK := cK O
 have d8 := c8 O
 clear c7 c6 cK c8
 generalize Bs.set b8 O = Cs at d7 d6 dK d8 ⊢
 have dt := dK _ _ ht
 have dm := dK _ _ hmb
 refine hf Cs _ (by rw [dt]; rfl) dm ?_
 have n8m : b8 ≠ mb := fun e => by rw [e, dm] at d8; rw [← hO] at d8; cases d8
 have n7m : b7 ≠ mb := fun e => by rw [e, dm] at d7; cases d7
 have n6m : b6 ≠ mb := fun e => by rw [e, dm] at d6; rw [← hO] at d6; cases d6
 have f7 : ∀ o, (Cs.set mb o) b7 = some (.box [.int .i64 i, .int .i64 j]) := fun o => by rw [heap_ne _ n7m]; exact d7
 have f6 : ∀ o, (Cs.set mb o) b6 = some O := fun o => by rw [heap_ne _ n6m]; exact d6
 have f8 : ∀ o, (Cs.set mb o) b8 = some O := fun o => by rw [heap_ne _ n8m]; exact d8
 have fm : ∀ o, (Cs.set mb o) mb = some o := fun o => heap_same _ _
 have ft : ∀ o, (Cs.set mb o) tb = some (.box [.sl 6 (Rw tmC uU.seen), .sl 1 (Rw boolC uU.final), .sl 1 (Rw intsC uU.next), .sl 1 (Rw intsC allI), .sl 1 (Rw intsC toI), .map mb]) := fun o => by rw [heap_ne _ ntm]; exact dt
 rw [← hO] at f6 f8
 have n78 : b7 ≠ b8 := fun e => by rw [e, d8] at d7; rw [← hO] at d7; simp at d7
 have n68 : b6 ≠ b8 := fun e => by
  have := hB8
  rw [← e, e6] at this; cases this
 have nt8 : tb ≠ b8 := fun e => by rw [e, d8] at dt; rw [← hO] at dt; simp at dt
 rw [← hO] at d6
 repeat' (first | with_reducible refine And.intro ?_ ?_ | simp only [go_sem,seval, f7, f6, f8, fm, ft, hk', dt, d7, d6, dm] | simp (disch := omega) only [wrap64, cell_at] | simp (disch := first | omega | grind) only [heap_ne_, del_ne] | (intro hx_; try simp only [set_none] at hx_) | omega)
 refine Fin.less (fun q o hq => ?_) h
 have nb6 : H b6 = none := hb6
 have nb8 : H b8 = none := by
  cases hc : H b8 with
  | none => rfl
  | some x => have := eK _ _ hc; rw [hB8] at this; cases this
 simp only [Heap.set] at hq ⊢
 by_cases em : q = mb
 ·subst em
  rw [if_pos rfl] at hq
  rw [if_neg (Ne.symm n6m)]
  simpa using hq
 ·rw [if_neg em] at hq
  have q6 : q ≠ b6 := fun e => by rw [e, nb6] at hq; cases hq
  have q8 : q ≠ b8 := fun e => by rw [e, nb8] at hq; cases hq
  rw [if_neg q6, if_neg em, if_neg q8, if_neg em]
  exact dK q o hq
end Go.Proofs.YtmohcdihdhggoaaGreatDoor
end
section
set_option maxRecDepth 20000
namespace Go.Bis
open Go Go.Av Go.Lexs
structure ApI (Bs : Heap) (mb b8 b9 b10 b11 k : Nat) (Hs : Heap) : Prop where
 kl : k ≤ 2
 keep : ∀ q o, q ≠ mb → Bs q = some o → Hs q = some o
 s8 : Hs b8 = some (.box z9)
 s0 : k = 0 → Hs mb = some (.map []) ∧ Hs b9 = some (.box [.int .i64 5, .int .i64 0, .int .i64 0, .str ⟨#[]⟩, .str ⟨#[]⟩, .nilsl, .nilsl, .nilsl, .int .i64 1]) ∧ Hs b10 = some (.box z9) ∧ Hs b11 = some (.vec 1 (Rw boolC [true, true, true, true, true]))
 s1 : k ≠ 0 → Hs mb = some (.map [k20]) ∧ (∃ bK, Hs b9 = some (.box [.int .i64 5, .int .i64 0, .int .i64 0, .str ⟨#[]⟩, .str ⟨#[]⟩, .nilsl, .nilsl, .vec bK 8 0 1, .int .i64 2])) ∧ Hs b10 = some (.box (toldC m20 1)) ∧ Hs b11 = some (.vec 1 (Rw boolC [false, false, true, false, false]))
def hAt : Nat → List Bool
 | 0 => [true, true, true, true, true]
 | 1 => [false, true, true, true, true]
 | 2 => [false, false, true, true, true]
 | 3 => [false, false, true, true, true]
 | 4 => [false, false, true, false, true]
 | _ => [false, false, true, false, false]
end Go.Bis
namespace Go.Proofs.YtmohcdihdhggoaaGreatDoor
open Go Go.Av Go.Lexs Go.Bis
attribute [local irreducible] ACalls at8
theorem clsA_a {Q} (H : Heap) (h : Q (.sl 1 (Rw intC [0, 1])) H) : ACalls Tryz.prog 88 [.sl 1 (Rw intC [0, 1, 2, 0, 1]), .sl 1 (Rw intC [3, 4])] H Q :=
 classesOf_a [0, 1, 2, 0, 1] [3, 4] (by decide) (by decide) (by decide) (by decide) H (by rw [cls34]; exact h)
theorem clsB_a {Q} (H : Heap) (h : Q (.sl 1 (Rw intC [0, 1, 2])) H) : ACalls Tryz.prog 88 [.sl 1 (Rw intC [0, 1, 2, 0, 1]), .sl 1 (Rw intC [0, 1, 2])] H Q :=
 classesOf_a [0, 1, 2, 0, 1] [0, 1, 2] (by decide) (by decide) (by decide) (by decide) H (by rw [cls012]; exact h)
theorem sat20_a {Q} (H : Heap) (h : Q (.sl 1 (Rw boolC [false, false, true, false, false])) H) : ACalls Tryz.prog 53 [.agg [.sl 6 (Rw tmC uU.seen), .sl 1 (Rw boolC uU.final), .sl 1 (Rw intsC uU.next)], .sl 1 (Rw intsC toI), .agg (moC m20)] H Q := by
 have := sat_a (Q := Q) uU uU_fit uU_ok m20 m20_fit (by decide +kernel) H (by rw [sat20]; exact h)
 rw [leadsU] at this
 exact this
theorem tell20_a {Q} (tb mb : Nat) (H : Heap) (ht : H tb = some (.box (tlC mb))) (hmb : H mb = some (.map [])) (h : Q (.agg (toldC m20 1)) (H.set mb (.map [k20]))) : ACalls Tryz.prog 46 [.box tb 0, .int .i64 2, .int .i64 0] H Q :=
 tell_a 2 0 1 m20 tb mb [] [] H ht hmb rfl rfl (fun Hx Q h1 h2 hq => find20_a tb mb Hx h1 (by
  have : Hx.set mb (.map []) = Hx := by
   funext q; unfold Heap.set
   by_cases e : q = mb
   ·rw [if_pos e, e, h2]
   ·rw [if_neg e]
  rw [this] at hq; exact hq)) h
set_option maxHeartbeats 4000000 in
theorem apart_a {Q} (tb mb : Nat) (H : Heap) (ht : H tb = some (.box (tlC mb))) (hmb : H mb = some (.map [])) (h : Q (.agg (toldC m20 1)) (H.set mb (.map [k20]))) : ACalls Tryz.prog 128 [.box tb 0, .int .i64 2, .sl 1 (Rw intC [0, 1]), .sl 1 (Rw intC [0, 1, 2, 0, 1])] H Q := by
 refine acalls_of_wp [] Tryz.mixed Tryz.func128 rfl (by kernel_rfl) (of_decide_eq_true (by kernel_rfl)) (by kernel_rfl) ?_
 simp only [go_sem,seval, Tryz.results128]
 repeat' (first | with_reducible refine And.intro ?_ ?_ | simp only [go_sem,seval] | simp (disch := omega) only [wrap64, cell_at, Rw_at] | simp (disch := first | omega | grind) only [heap_ne_, del_ne] | (intro hx_; try simp only [set_none] at hx_) | omega)
 rename_i b8 hb8 b9 hb9 b10 hb10 b11
 have hb11 := hx_
 clear hx_
 have ntm : tb ≠ mb := fun e => by rw [e, hmb] at ht; cases ht
 have h9H : H b9 = none := hb9.2
 have h10H : H b10 = none := hb10.2.2
 have h11H : H b11 = none := hb11.2.2.2
 have u9 : b9 ≠ b8 := hb9.1
 have u10 : b10 ≠ b9 ∧ b10 ≠ b8 := ⟨hb10.1, hb10.2.1⟩
 have u11 : b11 ≠ b10 ∧ b11 ≠ b9 ∧ b11 ≠ b8 := ⟨hb11.1, hb11.2.1, hb11.2.2.1⟩
 have g8 : ((((H.set b8 (.box z9)).set b9 (.box [.int .i64 5, .int .i64 0, .int .i64 0, .str ⟨#[]⟩, .str ⟨#[]⟩, .nilsl, .nilsl, .nilsl, .int .i64 1])).set b10 (.box z9))) b8 = some (.box z9) := by
  rw [heap_ne _ (Ne.symm u10.2), heap_ne _ (Ne.symm u9)]; exact heap_same _ _
 have g9 : ((((H.set b8 (.box z9)).set b9 (.box [.int .i64 5, .int .i64 0, .int .i64 0, .str ⟨#[]⟩, .str ⟨#[]⟩, .nilsl, .nilsl, .nilsl, .int .i64 1])).set b10 (.box z9))) b9 = some (.box [.int .i64 5, .int .i64 0, .int .i64 0, .str ⟨#[]⟩, .str ⟨#[]⟩, .nilsl, .nilsl, .nilsl, .int .i64 1]) := by
  rw [heap_ne _ (Ne.symm u10.1)]; exact heap_same _ _
 have g10 : ((((H.set b8 (.box z9)).set b9 (.box [.int .i64 5, .int .i64 0, .int .i64 0, .str ⟨#[]⟩, .str ⟨#[]⟩, .nilsl, .nilsl, .nilsl, .int .i64 1])).set b10 (.box z9))) b10 = some (.box z9) := heap_same _ _
 have g11 : ((((H.set b8 (.box z9)).set b9 (.box [.int .i64 5, .int .i64 0, .int .i64 0, .str ⟨#[]⟩, .str ⟨#[]⟩, .nilsl, .nilsl, .nilsl, .int .i64 1])).set b10 (.box z9))) b11 = none := by
  rw [heap_ne _ u11.1, heap_ne _ u11.2.1, heap_ne _ u11.2.2]; exact h11H
 have gK : ∀ q o, H q = some o → ((((H.set b8 (.box z9)).set b9 (.box [.int .i64 5, .int .i64 0, .int .i64 0, .str ⟨#[]⟩, .str ⟨#[]⟩, .nilsl, .nilsl, .nilsl, .int .i64 1])).set b10 (.box z9))) q = some o := fun q o hq => by
  rw [heap_ne _ (fun e => by rw [e, h10H] at hq; cases hq), heap_ne _ (fun e => by rw [e, h9H] at hq; cases hq), heap_ne _ (fun e => by rw [e, hb8] at hq; cases hq)]; exact hq
 unfold z9 at g8 g9 g10 g11 gK
 generalize (((H.set b8 (.box [.int .i64 0, .int .i64 0, .int .i64 0, .str ⟨#[]⟩, .str ⟨#[]⟩, .nilsl, .nilsl, .nilsl, .int .i64 0])).set b9 (.box [.int .i64 5, .int .i64 0, .int .i64 0, .str ⟨#[]⟩, .str ⟨#[]⟩, .nilsl, .nilsl, .nilsl, .int .i64 1])).set b10 (.box [.int .i64 0, .int .i64 0, .int .i64 0, .str ⟨#[]⟩, .str ⟨#[]⟩, .nilsl, .nilsl, .nilsl, .int .i64 0])) = Bs at g8 g9 g10 g11 gK ⊢
 have hrp : ([[D.bool false], [D.bool false], [D.bool false], [D.bool false], [D.bool false]] : List (List D)) = Rw boolC (padF (fun _ => true) 5 0) := rfl
 rw [hrp]
 refine loop_c [0, 1, 2, 3, 8, 9, 10, 11, 24] (fun (k : Nat) => [(25, .int .i64 k)]) (fun (k : Nat) => Bs.set b11 (.vec 1 (Rw boolC (padF (fun _ => true) 5 k)))) (fun (k : Nat) => k ≤ 5) (fun (k : Nat) => 5 - k) (0) (by omega) (by (try simp only [go_sem,seval]) <;> (try simp (disch := omega) [wrap64]) <;> (try omega)) (by first | with_reducible exact Heap.Le.refl _ | exact heap_set_le (by assumption) | exact Heap.Le.refl _ | exact heap_le_set (by assumption) | exact (by simp only [Go.Av.Heap.Le, Go.Av.Heap.set, Go.Av.Heap.del] at * <;> grind)) ?_
 rintro Ec rfl k hk
 have hpl := padF_length (fun _ => true) 5 k
 by_cases hkt : k < 5
 ·have hkd : decide ((k : Int) < (5 : Nat)) = true := decide_eq_true (by omega)
  have hkp : k < (padF (fun _ => true) 5 k).length := by omega
  have hst : (Rw boolC (padF (fun _ => true) 5 k)).set k [D.bool true] = Rw boolC (padF (fun _ => true) 5 (k + 1)) := by rw [← padF_set (fun _ => true) 5 k hkt]; exact Rw_set _ _ _ _ rfl
  repeat' (first | with_reducible refine And.intro ?_ ?_ | simp only [go_sem,seval, hkd, hpl, Rw_at _ _ hkp, hst] | simp (disch := omega) only [wrap64, cell_at, Rw_at] | simp (disch := first | omega | grind) only [heap_ne_, del_ne] | (intro hx_; try simp only [set_none] at hx_) | omega)
  exact nx_mk (k + 1) (by omega) (by omega) (by (try simp only [go_sem,seval]) <;> (try simp (disch := omega) [wrap64]) <;> (try omega)) (Heap.Le.refl _)
 ·have hkd : decide ((k : Int) < (5 : Nat)) = false := decide_eq_false (by omega)
  have hk5 : k = 5 := by omega
  subst hk5
  have hall : Rw boolC (padF (fun _ => true) 5 5) = Rw boolC [true, true, true, true, true] := rfl
  rw [hall]
  repeat' (first | with_reducible refine And.intro ?_ ?_ | simp only [go_sem,seval, hkd] | simp (disch := omega) only [wrap64, cell_at, Rw_at] | simp (disch := first | omega | grind) only [heap_ne_, del_ne] | (intro hx_; try simp only [set_none] at hx_) | omega)
  have nm : ∀ q o, Bs q = some o → (∀ kvs, o ≠ .map kvs) → q ≠ mb := fun q o hq h e => by
   have := gK mb _ hmb
   rw [e, this] at hq; exact h _ (Option.some.inj hq).symm
  have n11m : b11 ≠ mb := fun e => by have := gK mb _ hmb; rw [← e, g11] at this; cases this
  have n9m := nm _ _ g9 (by simp)
  have n10m := nm _ _ g10 (by simp)
  have n8m := nm _ _ g8 (by simp)
  have hst : ApI H mb b8 b9 b10 b11 0 (Bs.set b11 (.vec 1 (Rw boolC [true, true, true, true, true]))) := by
   refine ⟨by omega, fun q o _ hq => ?_, by rw [heap_ne _ (Ne.symm u11.2.2)]; exact g8, fun _ => ⟨by rw [heap_ne _ (Ne.symm n11m)]; exact gK _ _ hmb, by rw [heap_ne _ (Ne.symm u11.2.1)]; exact g9, by rw [heap_ne _ (Ne.symm u11.1)]; exact g10, heap_same _ _⟩, fun e => absurd rfl e⟩
   have h2 := gK q o hq
   rw [heap_ne _ (fun e => by rw [e, g11] at h2; cases h2)]; exact h2
  clear g8 g9 g10 gK
  refine loop_c [0, 1, 3, 8, 9, 10, 11, 32, 33] (fun (p : Nat × Heap) => [(34, .int .i64 p.1)]) (fun (p : Nat × Heap) => p.2) (fun (p : Nat × Heap) => ApI H mb b8 b9 b10 b11 p.1 p.2) (fun (p : Nat × Heap) => 2 - p.1) ((0, Bs.set b11 (.vec 1 (Rw boolC [true, true, true, true, true])))) (hst) (by (try simp only [go_sem,seval]) <;> (try simp (disch := omega) [wrap64]) <;> (try omega)) (by first | with_reducible exact Heap.Le.refl _ | exact heap_set_le (by assumption) | exact Heap.Le.refl _ | exact heap_le_set (by assumption) | exact (by simp only [Go.Av.Heap.Le, Go.Av.Heap.set, Go.Av.Heap.del] at * <;> grind)) ?_
  rintro Ec1 rfl ⟨j, Hs⟩ hI
  simp only at hI
  have i0 : idxI (fun y : Int => decide ((0 : Int) = y)) [0, 1, 2, 0, 1] = 0 := by decide +kernel
  have i1 : idxI (fun y : Int => decide ((1 : Int) = y)) [0, 1, 2, 0, 1] = 1 := by decide +kernel
  have rt := hI.keep tb _ ntm ht
  have r8 := hI.s8
  unfold z9 at r8
  have c0 : (Rw intC [0, 1]).getD 0 [] = [D.int .i64 0] := rfl
  have c1 : (Rw intC [0, 1]).getD 1 [] = [D.int .i64 1] := rfl
  have t0 : (Rw boolC [true, true, true, true, true])[0]? = some [D.bool true] := rfl
  have f1 : (Rw boolC [false, false, true, false, false])[1]? = some [D.bool false] := rfl
  match j, hI with
  | 0, hI =>
   obtain ⟨rm, r9, r10, r11⟩ := hI.s0 rfl
   unfold z9 at r10
   have rt' := rt
   unfold tlC at rt'
   repeat' (first | with_reducible refine And.intro ?_ ?_ | simp only [go_sem,seval, i0, r8, r9, r10, r11, c0, t0, rt'] | simp (disch := omega) only [wrap64, cell_at, Rw_at] | simp (disch := first | omega | grind) only [heap_ne_, del_ne] | (intro hx_; try simp only [set_none] at hx_) | with_reducible refine index_a _ _ (by decide) _ ?_ | with_reducible refine tell20_a tb mb _ rt rm ?_ | with_reducible refine sat20_a _ ?_ | omega)
   rename_i x1 hx1 x2
   have hx2 := hx_
   clear hx_
   have n9m : b9 ≠ mb := fun e => by rw [e, rm] at r9; cases r9
   have n10m : b10 ≠ mb := fun e => by rw [e, rm] at r10; cases r10
   have n11m : b11 ≠ mb := fun e => by rw [e, rm] at r11; cases r11
   have n8m : b8 ≠ mb := fun e => by rw [e, rm] at r8; cases r8
   have hx1' : Hs x1 = none := hx1.2.2.2
   have hx2' : Hs x2 = none ∧ x2 ≠ b9 ∧ x2 ≠ b10 ∧ x2 ≠ mb ∧ x2 ≠ x1 := ⟨hx2.2.2.2.2, hx2.2.1, hx2.2.2.1, hx2.2.2.2.1, hx2.1⟩
   have o1 : ∀ q o, Hs q = some o → q ≠ x1 ∧ q ≠ x2 := fun q o hq => ⟨fun e => (by rw [e, hx1'] at hq; cases hq), fun e => (by rw [e, hx2'.1] at hq; cases hq)⟩
   have cK : ∀ q o, q ≠ mb → q ≠ b9 → q ≠ b10 → Hs q = some o → ((((((Hs.set mb (.map [k20])).set b10 (.box (toldC m20 1))).set b9 (.box [.int .i64 5, .int .i64 0, .int .i64 0, .str ⟨#[]⟩, .str ⟨#[]⟩, .nilsl, .nilsl, .nilsl, .int .i64 2])).set x1 (.vec 8 [moC m20])).set x2 (.vec 8 [moC m20])).set b9 (.box [.int .i64 5, .int .i64 0, .int .i64 0, .str ⟨#[]⟩, .str ⟨#[]⟩, .nilsl, .nilsl, .vec x2 8 0 1, .int .i64 2])) q = some o := fun q o h1 h2 h3 hq => by
    obtain ⟨q1, q2⟩ := o1 q o hq
    rw [heap_ne _ h2, heap_ne _ q2, heap_ne _ q1, heap_ne _ h2, heap_ne _ h3, heap_ne _ h1]; exact hq
   have c9 : ((((((Hs.set mb (.map [k20])).set b10 (.box (toldC m20 1))).set b9 (.box [.int .i64 5, .int .i64 0, .int .i64 0, .str ⟨#[]⟩, .str ⟨#[]⟩, .nilsl, .nilsl, .nilsl, .int .i64 2])).set x1 (.vec 8 [moC m20])).set x2 (.vec 8 [moC m20])).set b9 (.box [.int .i64 5, .int .i64 0, .int .i64 0, .str ⟨#[]⟩, .str ⟨#[]⟩, .nilsl, .nilsl, .vec x2 8 0 1, .int .i64 2])) b9 = some (.box [.int .i64 5, .int .i64 0, .int .i64 0, .str ⟨#[]⟩, .str ⟨#[]⟩, .nilsl, .nilsl, .vec x2 8 0 1, .int .i64 2]) := heap_same _ _
   have c10 : ((((((Hs.set mb (.map [k20])).set b10 (.box (toldC m20 1))).set b9 (.box [.int .i64 5, .int .i64 0, .int .i64 0, .str ⟨#[]⟩, .str ⟨#[]⟩, .nilsl, .nilsl, .nilsl, .int .i64 2])).set x1 (.vec 8 [moC m20])).set x2 (.vec 8 [moC m20])).set b9 (.box [.int .i64 5, .int .i64 0, .int .i64 0, .str ⟨#[]⟩, .str ⟨#[]⟩, .nilsl, .nilsl, .vec x2 8 0 1, .int .i64 2])) b10 = some (.box (toldC m20 1)) := by
    obtain ⟨q1, q2⟩ := o1 _ _ r10
    rw [heap_ne _ u10.1, heap_ne _ q2, heap_ne _ q1, heap_ne _ u10.1]; exact heap_same _ _
   have cm : ((((((Hs.set mb (.map [k20])).set b10 (.box (toldC m20 1))).set b9 (.box [.int .i64 5, .int .i64 0, .int .i64 0, .str ⟨#[]⟩, .str ⟨#[]⟩, .nilsl, .nilsl, .nilsl, .int .i64 2])).set x1 (.vec 8 [moC m20])).set x2 (.vec 8 [moC m20])).set b9 (.box [.int .i64 5, .int .i64 0, .int .i64 0, .str ⟨#[]⟩, .str ⟨#[]⟩, .nilsl, .nilsl, .vec x2 8 0 1, .int .i64 2])) mb = some (.map [k20]) := by
    obtain ⟨q1, q2⟩ := o1 _ _ rm
    rw [heap_ne _ (Ne.symm n9m), heap_ne _ q2, heap_ne _ q1, heap_ne _ (Ne.symm n9m), heap_ne _ (Ne.symm n10m)]; exact heap_same _ _
   have c11 := cK b11 _ n11m u11.2.1 u11.1 r11
   have c8 := cK b8 _ n8m (Ne.symm u9) (Ne.symm u10.2) r8
   have cH : ∀ q o, q ≠ mb → H q = some o → ((((((Hs.set mb (.map [k20])).set b10 (.box (toldC m20 1))).set b9 (.box [.int .i64 5, .int .i64 0, .int .i64 0, .str ⟨#[]⟩, .str ⟨#[]⟩, .nilsl, .nilsl, .nilsl, .int .i64 2])).set x1 (.vec 8 [moC m20])).set x2 (.vec 8 [moC m20])).set b9 (.box [.int .i64 5, .int .i64 0, .int .i64 0, .str ⟨#[]⟩, .str ⟨#[]⟩, .nilsl, .nilsl, .vec x2 8 0 1, .int .i64 2])) q = some o := fun q o h1 hq => cK q o h1 (fun e => by rw [e, h9H] at hq; cases hq) (fun e => by rw [e, h10H] at hq; cases hq) (hI.keep q o h1 hq)
   generalize (((((Hs.set mb (.map [k20])).set b10 (.box (toldC m20 1))).set b9 (.box [.int .i64 5, .int .i64 0, .int .i64 0, .str ⟨#[]⟩, .str ⟨#[]⟩, .nilsl, .nilsl, .nilsl, .int .i64 2])).set x1 (.vec 8 [moC m20])).set x2 (.vec 8 [moC m20])).set b9 (.box [.int .i64 5, .int .i64 0, .int .i64 0, .str ⟨#[]⟩, .str ⟨#[]⟩, .nilsl, .nilsl, .vec x2 8 0 1, .int .i64 2]) = Hc at c9 c10 cm c11 c8 cH ⊢
   clear cK o1
   refine loop_c [0, 1, 3, 8, 9, 10, 11, 32, 33, 34, 79, 80] (fun (p : Nat × Heap) => [(81, .int .i64 p.1)]) (fun (p : Nat × Heap) => p.2) (fun (p : Nat × Heap) => p.1 ≤ 5 ∧ p.2 b11 = some (.vec 1 (Rw boolC (hAt p.1))) ∧ ∀ q o, q ≠ b11 → Hc q = some o → p.2 q = some o) (fun (p : Nat × Heap) => 5 - p.1) ((0, Hc)) (⟨by omega, c11, fun q o _ hq => hq⟩) (by (try simp only [go_sem,seval]) <;> (try simp (disch := omega) [wrap64]) <;> (try omega)) (by first | with_reducible exact Heap.Le.refl _ | exact heap_set_le (by assumption) | exact Heap.Le.refl _ | exact heap_le_set (by assumption) | exact (by simp only [Go.Av.Heap.Le, Go.Av.Heap.set, Go.Av.Heap.del] at * <;> grind)) ?_
   rintro Ec2 rfl ⟨i, Hi⟩ ⟨hi, d11, dK⟩
   simp only at hi d11 dK
   match i, hi, d11 with
   | 0, _, d11 =>
    have e1 : (Rw boolC (hAt 0)).getD 0 [] = [D.bool true] := rfl
    have e1' : (Rw boolC (hAt 0))[0]? = some [D.bool true] := rfl
    have e2 : (Rw boolC [false, false, true, false, false]).getD 0 [] = [D.bool false] := rfl
    have e3 : (Rw boolC (hAt 0)).length = 5 := rfl
    repeat' (first | with_reducible refine And.intro ?_ ?_ | simp only [go_sem,seval, d11, e1, e1', e2, e3] | simp (disch := omega) only [wrap64, cell_at, Rw_at] | simp (disch := first | omega | grind) only [heap_ne_, del_ne] | (intro hx_; try simp only [set_none] at hx_) | omega)
    refine nx_mk (1, Hi.set b11 (.vec 1 (Rw boolC (hAt 1)))) ⟨by simp only []; omega, heap_same _ _, fun q o h1 h2 => ?_⟩ (by simp only []; omega) (by (try simp only [go_sem,seval]) <;> (try simp (disch := omega) [wrap64]) <;> (try omega)) (Heap.Le.refl _)
    simp only []
    rw [heap_ne _ h1]; exact dK q o h1 h2
   | 1, _, d11 =>
    have e1 : (Rw boolC (hAt 1)).getD 1 [] = [D.bool true] := rfl
    have e1' : (Rw boolC (hAt 1))[1]? = some [D.bool true] := rfl
    have e2 : (Rw boolC [false, false, true, false, false]).getD 1 [] = [D.bool false] := rfl
    have e3 : (Rw boolC (hAt 1)).length = 5 := rfl
    repeat' (first | with_reducible refine And.intro ?_ ?_ | simp only [go_sem,seval, d11, e1, e1', e2, e3] | simp (disch := omega) only [wrap64, cell_at, Rw_at] | simp (disch := first | omega | grind) only [heap_ne_, del_ne] | (intro hx_; try simp only [set_none] at hx_) | omega)
    refine nx_mk (2, Hi.set b11 (.vec 1 (Rw boolC (hAt 2)))) ⟨by simp only []; omega, heap_same _ _, fun q o h1 h2 => ?_⟩ (by simp only []; omega) (by (try simp only [go_sem,seval]) <;> (try simp (disch := omega) [wrap64]) <;> (try omega)) (Heap.Le.refl _)
    simp only []
    rw [heap_ne _ h1]; exact dK q o h1 h2
   | 2, _, d11 =>
    have e1 : (Rw boolC (hAt 2)).getD 2 [] = [D.bool true] := rfl
    have e1' : (Rw boolC (hAt 2))[2]? = some [D.bool true] := rfl
    have e2 : (Rw boolC [false, false, true, false, false]).getD 2 [] = [D.bool true] := rfl
    have e3 : (Rw boolC (hAt 2)).length = 5 := rfl
    repeat' (first | with_reducible refine And.intro ?_ ?_ | simp only [go_sem,seval, d11, e1, e1', e2, e3] | simp (disch := omega) only [wrap64, cell_at, Rw_at] | simp (disch := first | omega | grind) only [heap_ne_, del_ne] | (intro hx_; try simp only [set_none] at hx_) | omega)
    refine nx_mk (3, Hi.set b11 (.vec 1 (Rw boolC (hAt 3)))) ⟨by simp only []; omega, heap_same _ _, fun q o h1 h2 => ?_⟩ (by simp only []; omega) (by (try simp only [go_sem,seval]) <;> (try simp (disch := omega) [wrap64]) <;> (try omega)) (Heap.Le.refl _)
    simp only []
    rw [heap_ne _ h1]; exact dK q o h1 h2
   | 3, _, d11 =>
    have e1 : (Rw boolC (hAt 3)).getD 3 [] = [D.bool true] := rfl
    have e1' : (Rw boolC (hAt 3))[3]? = some [D.bool true] := rfl
    have e2 : (Rw boolC [false, false, true, false, false]).getD 3 [] = [D.bool false] := rfl
    have e3 : (Rw boolC (hAt 3)).length = 5 := rfl
    repeat' (first | with_reducible refine And.intro ?_ ?_ | simp only [go_sem,seval, d11, e1, e1', e2, e3] | simp (disch := omega) only [wrap64, cell_at, Rw_at] | simp (disch := first | omega | grind) only [heap_ne_, del_ne] | (intro hx_; try simp only [set_none] at hx_) | omega)
    refine nx_mk (4, Hi.set b11 (.vec 1 (Rw boolC (hAt 4)))) ⟨by simp only []; omega, heap_same _ _, fun q o h1 h2 => ?_⟩ (by simp only []; omega) (by (try simp only [go_sem,seval]) <;> (try simp (disch := omega) [wrap64]) <;> (try omega)) (Heap.Le.refl _)
    simp only []
    rw [heap_ne _ h1]; exact dK q o h1 h2
   | 4, _, d11 =>
    have e1 : (Rw boolC (hAt 4)).getD 4 [] = [D.bool true] := rfl
    have e1' : (Rw boolC (hAt 4))[4]? = some [D.bool true] := rfl
    have e2 : (Rw boolC [false, false, true, false, false]).getD 4 [] = [D.bool false] := rfl
    have e3 : (Rw boolC (hAt 4)).length = 5 := rfl
    repeat' (first | with_reducible refine And.intro ?_ ?_ | simp only [go_sem,seval, d11, e1, e1', e2, e3] | simp (disch := omega) only [wrap64, cell_at, Rw_at] | simp (disch := first | omega | grind) only [heap_ne_, del_ne] | (intro hx_; try simp only [set_none] at hx_) | omega)
    refine nx_mk (5, Hi.set b11 (.vec 1 (Rw boolC (hAt 5)))) ⟨by simp only []; omega, heap_same _ _, fun q o h1 h2 => ?_⟩ (by simp only []; omega) (by (try simp only [go_sem,seval]) <;> (try simp (disch := omega) [wrap64]) <;> (try omega)) (Heap.Le.refl _)
    simp only []
    rw [heap_ne _ h1]; exact dK q o h1 h2
   | 5, _, d11 =>
    repeat' (first | with_reducible refine And.intro ?_ ?_ | simp only [go_sem,seval, d11] | simp (disch := omega) only [wrap64, cell_at, Rw_at] | simp (disch := first | omega | grind) only [heap_ne_, del_ne] | (intro hx_; try simp only [set_none] at hx_) | omega)
    have p11 := fun q o (h1 : q ≠ b11) (h2 : Hc q = some o) => dK q o h1 h2
    refine nx_mk (1, Hi) ⟨by simp only []; omega, fun q o h1 h2 => ?_, ?_, fun e => absurd e (by simp only []; omega), fun _ => ⟨?_, ⟨x2, ?_⟩, ?_, d11⟩⟩ (by simp only []; omega) (by (try simp only [go_sem,seval]) <;> (try simp (disch := omega) [wrap64]) <;> (try omega)) (Heap.Le.refl _)
    ·exact dK q o (fun e => by rw [e, h11H] at h2; cases h2) (cH q o h1 h2)
    ·exact dK _ _ (Ne.symm u11.2.2) c8
    ·exact dK _ _ (Ne.symm n11m) cm
    ·exact dK _ _ (Ne.symm u11.2.1) c9
    ·exact dK _ _ (Ne.symm u11.1) c10
   | i + 6, hi, _ => exact absurd hi (by omega)
  | 1, hI =>
   obtain ⟨rm, ⟨bK, r9⟩, r10, r11⟩ := hI.s1 (by omega)
   repeat' (first | with_reducible refine And.intro ?_ ?_ | simp only [go_sem,seval, i1, r8, r9, r10, r11, c1, f1] | simp (disch := omega) only [wrap64, cell_at, Rw_at] | simp (disch := first | omega | grind) only [heap_ne_, del_ne] | (intro hx_; try simp only [set_none] at hx_) | with_reducible refine index_a _ _ (by decide) _ ?_ | omega)
   exact nx_mk (2, Hs) ⟨by simp only []; omega, hI.keep, hI.s8, fun e => absurd e (by simp only []; omega), fun _ => hI.s1 (by omega)⟩ (by simp only []; omega) (by (try simp only [go_sem,seval]) <;> (try simp (disch := omega) [wrap64]) <;> (try omega)) (Heap.Le.refl _)
  | 2, hI =>
   obtain ⟨rm, ⟨bK, r9⟩, r10, r11⟩ := hI.s1 (by omega)
   repeat' (first | with_reducible refine And.intro ?_ ?_ | simp only [go_sem,seval, r8, r9, r10, r11] | simp (disch := omega) only [wrap64, cell_at, Rw_at] | simp (disch := first | omega | grind) only [heap_ne_, del_ne] | (intro hx_; try simp only [set_none] at hx_) | omega)
   refine Fin.less (fun q o hq => ?_) h
   have n8m : b8 ≠ mb := fun e => by rw [e, rm] at r8; cases r8
   by_cases em : q = mb
   ·subst em
    rw [heap_same] at hq
    rw [heap_ne _ (Ne.symm n8m), rm]; exact hq
   ·rw [heap_ne _ em] at hq
    rw [heap_ne _ (fun e => by rw [e, hb8] at hq; cases hq)]
    exact hI.keep q o em hq
  | j + 3, hI => exact absurd hI.kl (by omega)
end Go.Proofs.YtmohcdihdhggoaaGreatDoor
end
section
set_option maxRecDepth 20000
namespace Go.Bis
open Go Go.Av Go.Lexs
structure CnI (H : Heap) (mb b8 k : Nat) (Hs : Heap) : Prop where
 kl : k ≤ 3
 keep : ∀ q o, q ≠ mb → H q = some o → Hs q = some o
 s0 : k ≠ 3 → Hs mb = some (.map []) ∧ Hs b8 = some (.box z9)
 s1 : k = 3 → Hs mb = some (.map [k20]) ∧ Hs b8 = some (.box (toldC mY 2))
end Go.Bis
namespace Go.Proofs.YtmohcdihdhggoaaGreatDoor
open Go Go.Av Go.Lexs Go.Bis
attribute [local irreducible] ACalls at8
set_option maxHeartbeats 4000000 in
theorem can03_a {Q} (tb mb : Nat) (H : Heap) (ht : H tb = some (.box (tlC mb))) (hmb : H mb = some (.map [])) (h : Q (.tuple [.agg (toldC mY 2), .bool true]) (H.set mb (.map [k20]))) : ACalls Tryz.prog 95 [.box tb 0, .int .i64 0, .int .i64 3, .sl 1 (Rw intC [0, 1, 2, 0, 1])] H Q := by
 refine acalls_of_wp [] Tryz.mixed Tryz.func95 rfl (by kernel_rfl) (of_decide_eq_true (by kernel_rfl)) (by kernel_rfl) ?_
 simp only [go_sem,seval, Tryz.results95]
 have ntm : tb ≠ mb := fun e => by rw [e, hmb] at ht; cases ht
 have ht' := ht
 unfold tlC at ht'
 have w0 : (Rw intsC toI)[0]? = some [.sl 1 (Rw intC [0, 1, 2])] := rfl
 have w3 : (Rw intsC toI)[3]? = some [.sl 1 (Rw intC [3, 4])] := rfl
 have w0' : (Rw intsC toI).getD 0 [] = [.sl 1 (Rw intC [0, 1, 2])] := rfl
 have w3' : (Rw intsC toI).getD 3 [] = [.sl 1 (Rw intC [3, 4])] := rfl
 have wl : toI.length = 5 := rfl
 repeat' (first | with_reducible refine And.intro ?_ ?_ | simp only [go_sem,seval, ht', w0, w3, w0', w3', wl] | simp (disch := omega) only [wrap64, cell_at, Rw_at] | simp (disch := first | omega | grind) only [heap_ne_, del_ne] | (intro hx_; try simp only [set_none] at hx_) | with_reducible refine clsA_a _ ?_ | omega)
 rename_i b8
 have hb8 := hx_
 clear hx_
 have n8m : b8 ≠ mb := fun e => by rw [e, hmb] at hb8; cases hb8
 have hst : CnI H mb b8 0 (H.set b8 (.box z9)) := ⟨by omega, fun q o _ hq => by rw [heap_ne _ (fun e => by rw [e, hb8] at hq; cases hq)]; exact hq, fun _ => ⟨by rw [heap_ne _ (Ne.symm n8m)]; exact hmb, heap_same _ _⟩, fun e => by cases e⟩
 refine loop_c [0, 3, 8, 10, 29, 30] (fun (p : Nat × Heap) => [(31, .int .i64 p.1), (9, .bool (decide (p.1 = 3)))]) (fun (p : Nat × Heap) => p.2) (fun (p : Nat × Heap) => CnI H mb b8 p.1 p.2) (fun (p : Nat × Heap) => 3 - p.1) ((0, H.set b8 (.box z9))) (hst) (by (try simp only [go_sem,seval]) <;> (try simp (disch := omega) [wrap64]) <;> (try omega)) (by first | with_reducible exact Heap.Le.refl _ | exact heap_set_le (by assumption) | exact Heap.Le.refl _ | exact heap_le_set (by assumption) | exact (by simp only [Go.Av.Heap.Le, Go.Av.Heap.set, Go.Av.Heap.del] at * <;> grind)) ?_
 rintro Ec rfl ⟨k, Hs⟩ hI
 simp only at hI
 have rt := hI.keep tb _ ntm ht
 have rt' := hI.keep tb _ ntm ht'
 have hu : (uU.seen.length : Int) = 5 := rfl
 match k, hI with
 | 0, hI =>
  obtain ⟨rm, r8⟩ := hI.s0 (by omega)
  unfold z9 at r8
  have c0 : (Rw intC [0, 1, 2]).getD 0 [] = [D.int .i64 0] := rfl
  have c1 : (Rw intC [0, 1, 2, 0, 1]).getD 0 [] = [D.int .i64 0] := rfl
  have c2 : (Rw intC [0, 1, 2, 0, 1])[0]? = some [D.int .i64 0] := rfl
  have c3 : (([0, 1] : List Int).any fun y => decide ((0 : Int) = y)) = true := rfl
  repeat' (first | with_reducible refine And.intro ?_ ?_ | simp only [go_sem,seval, r8, rt', c0, c1, c2, c3] | simp (disch := omega) only [wrap64, cell_at, Rw_at] | simp (disch := first | omega | grind) only [heap_ne_, del_ne] | (intro hx_; try simp only [set_none] at hx_) | with_reducible refine contains_a _ _ (by decide) _ ?_ | omega)
  exact nx_mk (1, Hs) ⟨by simp only []; omega, hI.keep, fun _ => hI.s0 (by omega), fun e => by cases e⟩ (by simp only []; omega) (by (try simp only [go_sem,seval]) <;> (try simp (disch := omega) [wrap64]) <;> (try omega)) (Heap.Le.refl _)
 | 1, hI =>
  obtain ⟨rm, r8⟩ := hI.s0 (by omega)
  unfold z9 at r8
  have c0 : (Rw intC [0, 1, 2]).getD 1 [] = [D.int .i64 1] := rfl
  have c1 : (Rw intC [0, 1, 2, 0, 1]).getD 1 [] = [D.int .i64 1] := rfl
  have c2 : (Rw intC [0, 1, 2, 0, 1])[1]? = some [D.int .i64 1] := rfl
  have c3 : (([0, 1] : List Int).any fun y => decide ((1 : Int) = y)) = true := rfl
  repeat' (first | with_reducible refine And.intro ?_ ?_ | simp only [go_sem,seval, r8, rt', c0, c1, c2, c3] | simp (disch := omega) only [wrap64, cell_at, Rw_at] | simp (disch := first | omega | grind) only [heap_ne_, del_ne] | (intro hx_; try simp only [set_none] at hx_) | with_reducible refine contains_a _ _ (by decide) _ ?_ | omega)
  exact nx_mk (2, Hs) ⟨by simp only []; omega, hI.keep, fun _ => hI.s0 (by omega), fun e => by cases e⟩ (by simp only []; omega) (by (try simp only [go_sem,seval]) <;> (try simp (disch := omega) [wrap64]) <;> (try omega)) (Heap.Le.refl _)
 | 2, hI =>
  obtain ⟨rm, r8⟩ := hI.s0 (by omega)
  unfold z9 at r8
  have c0 : (Rw intC [0, 1, 2]).getD 2 [] = [D.int .i64 2] := rfl
  have c1 : (Rw intC [0, 1, 2, 0, 1]).getD 2 [] = [D.int .i64 2] := rfl
  have c2 : (Rw intC [0, 1, 2, 0, 1])[2]? = some [D.int .i64 2] := rfl
  have c3 : (([0, 1] : List Int).any fun y => decide ((2 : Int) = y)) = false := rfl
  repeat' (first | with_reducible refine And.intro ?_ ?_ | simp only [go_sem,seval, r8, rt', c0, c1, c2, c3, hu] | simp (disch := omega) only [wrap64, cell_at, Rw_at] | simp (disch := first | omega | grind) only [heap_ne_, del_ne] | (intro hx_; try simp only [set_none] at hx_) | with_reducible refine contains_a _ _ (by decide) _ ?_ | with_reducible refine apart_a tb mb _ rt rm ?_ | with_reducible refine over_a 3 1 m20 (by omega) _ ?_ | omega)
  rename_i b13
  have hb13 := hx_
  clear hx_
  have n13 : b13 ≠ mb ∧ Hs b13 = none := by first | exact hb13 | simpa only [set_none] using hb13
  refine nx_mk (3, ((Hs.set mb (.map [k20])).set b13 (.box (toldC mY 2))).set b8 (.box (toldC mY 2))) ⟨by simp only []; omega, fun q o h1 h2 => ?_, fun e => absurd rfl e, fun _ => ⟨?_, heap_same _ _⟩⟩ (by simp only []; omega) (by (try simp only [go_sem,seval]) <;> (try simp (disch := omega) [wrap64]) <;> (try omega)) (Heap.Le.refl _)
  ·have h3 := hI.keep q o h1 h2
   simp only []
   rw [heap_ne _ (fun e => by rw [e, hb8] at h2; cases h2), heap_ne _ (fun e => by rw [e, n13.2] at h3; cases h3), heap_ne _ h1]; exact h3
  ·simp only []
   rw [heap_ne _ (Ne.symm n8m), heap_ne _ (Ne.symm n13.1)]; exact heap_same _ _
 | 3, hI =>
  obtain ⟨rm, r8⟩ := hI.s1 rfl
  repeat' (first | with_reducible refine And.intro ?_ ?_ | simp only [go_sem,seval, r8] | simp (disch := omega) only [wrap64, cell_at, Rw_at] | simp (disch := first | omega | grind) only [heap_ne_, del_ne] | (intro hx_; try simp only [set_none] at hx_) | omega)
  refine Fin.less (fun q o hq => ?_) h
  by_cases em : q = mb
  ·subst em
   rw [heap_same] at hq
   rw [heap_ne _ (Ne.symm n8m), rm]; exact hq
  ·rw [heap_ne _ em] at hq
   rw [heap_ne _ (fun e => by rw [e, hb8] at hq; cases hq)]
   exact hI.keep q o em hq
 | k + 4, hI => exact absurd hI.kl (by omega)
set_option maxHeartbeats 4000000 in
theorem can30_a {Q} (tb mb : Nat) (H : Heap) (ht : H tb = some (.box (tlC mb))) (h : Q (.tuple [.agg z9, .bool false]) H) : ACalls Tryz.prog 95 [.box tb 0, .int .i64 3, .int .i64 0, .sl 1 (Rw intC [0, 1, 2, 0, 1])] H Q := by
 refine acalls_of_wp [] Tryz.mixed Tryz.func95 rfl (by kernel_rfl) (of_decide_eq_true (by kernel_rfl)) (by kernel_rfl) ?_
 simp only [go_sem,seval, Tryz.results95]
 have ht' := ht
 unfold tlC at ht'
 have w0 : (Rw intsC toI)[0]? = some [.sl 1 (Rw intC [0, 1, 2])] := rfl
 have w3 : (Rw intsC toI)[3]? = some [.sl 1 (Rw intC [3, 4])] := rfl
 have w0' : (Rw intsC toI).getD 0 [] = [.sl 1 (Rw intC [0, 1, 2])] := rfl
 have w3' : (Rw intsC toI).getD 3 [] = [.sl 1 (Rw intC [3, 4])] := rfl
 have wl : toI.length = 5 := rfl
 repeat' (first | with_reducible refine And.intro ?_ ?_ | simp only [go_sem,seval, ht', w0, w3, w0', w3', wl] | simp (disch := omega) only [wrap64, cell_at, Rw_at] | simp (disch := first | omega | grind) only [heap_ne_, del_ne] | (intro hx_; try simp only [set_none] at hx_) | with_reducible refine clsB_a _ ?_ | omega)
 rename_i b8
 have hb8 := hx_
 clear hx_
 refine loop_c [0, 3, 8, 10, 29, 30] (fun (k : Nat) => [(31, .int .i64 k), (9, .bool false)]) (fun (k : Nat) => H.set b8 (.box z9)) (fun (k : Nat) => k ≤ 2) (fun (k : Nat) => 2 - k) (0) (by omega) (by (try simp only [go_sem,seval]) <;> (try simp (disch := omega) [wrap64]) <;> (try omega)) (by first | with_reducible exact Heap.Le.refl _ | exact heap_set_le (by assumption) | exact Heap.Le.refl _ | exact heap_le_set (by assumption) | exact (by simp only [Go.Av.Heap.Le, Go.Av.Heap.set, Go.Av.Heap.del] at * <;> grind)) ?_
 rintro Ec rfl k hk
 have r8 : (H.set b8 (.box z9)) b8 = some (.box z9) := heap_same _ _
 unfold z9 at r8
 match k, hk with
 | 0, _ =>
  have c0 : (Rw intC [3, 4]).getD 0 [] = [D.int .i64 3] := rfl
  have c1 : (Rw intC [0, 1, 2, 0, 1]).getD 3 [] = [D.int .i64 0] := rfl
  have c2 : (Rw intC [0, 1, 2, 0, 1])[3]? = some [D.int .i64 0] := rfl
  have c3 : (([0, 1, 2] : List Int).any fun y => decide ((0 : Int) = y)) = true := rfl
  repeat' (first | with_reducible refine And.intro ?_ ?_ | simp only [go_sem,seval, r8, c0, c1, c2, c3] | simp (disch := omega) only [wrap64, cell_at, Rw_at] | simp (disch := first | omega | grind) only [heap_ne_, del_ne] | (intro hx_; try simp only [set_none] at hx_) | with_reducible refine contains_a _ _ (by decide) _ ?_ | omega)
  exact nx_mk 1 (by omega) (by omega) (by (try simp only [go_sem,seval]) <;> (try simp (disch := omega) [wrap64]) <;> (try omega)) (Heap.Le.refl _)
 | 1, _ =>
  have c0 : (Rw intC [3, 4]).getD 1 [] = [D.int .i64 4] := rfl
  have c1 : (Rw intC [0, 1, 2, 0, 1]).getD 4 [] = [D.int .i64 1] := rfl
  have c2 : (Rw intC [0, 1, 2, 0, 1])[4]? = some [D.int .i64 1] := rfl
  have c3 : (([0, 1, 2] : List Int).any fun y => decide ((1 : Int) = y)) = true := rfl
  repeat' (first | with_reducible refine And.intro ?_ ?_ | simp only [go_sem,seval, r8, c0, c1, c2, c3] | simp (disch := omega) only [wrap64, cell_at, Rw_at] | simp (disch := first | omega | grind) only [heap_ne_, del_ne] | (intro hx_; try simp only [set_none] at hx_) | with_reducible refine contains_a _ _ (by decide) _ ?_ | omega)
  exact nx_mk 2 (by omega) (by omega) (by (try simp only [go_sem,seval]) <;> (try simp (disch := omega) [wrap64]) <;> (try omega)) (Heap.Le.refl _)
 | 2, _ =>
  unfold z9
  repeat' (first | with_reducible refine And.intro ?_ ?_ | simp only [go_sem,seval, r8] | simp (disch := omega) only [wrap64, cell_at, Rw_at] | simp (disch := first | omega | grind) only [heap_ne_, del_ne] | (intro hx_; try simp only [set_none] at hx_) | omega)
  refine Fin.less (fun q o hq => ?_) h
  rw [heap_ne _ (fun e => by rw [e, hb8] at hq; cases hq)]; exact hq
 | k + 3, hk => exact absurd hk (by omega)
set_option maxHeartbeats 4000000 in
theorem find03_a {Q} (tb mb : Nat) (H : Heap) (ht : H tb = some (.box (tlC mb))) (hmb : H mb = some (.map [])) (h : Q (.agg (toldC mY 2)) (H.set mb (.map [k20]))) : ACalls Tryz.prog 74 [.box tb 0, .int .i64 0, .int .i64 3] H Q := by
 refine acalls_of_wp [] Tryz.mixed Tryz.func74 rfl (by kernel_rfl) (of_decide_eq_true (by kernel_rfl)) (by kernel_rfl) ?_
 simp only [go_sem,seval, Tryz.results74]
 have ntm : tb ≠ mb := fun e => by rw [e, hmb] at ht; cases ht
 have ht0 := ht
 unfold tlC at ht
 repeat' (first | with_reducible refine And.intro ?_ ?_ | simp only [go_sem,seval, ht] | simp (disch := omega) only [wrap64, cell_at, Rw_at] | simp (disch := first | omega | grind) only [heap_ne_, del_ne] | (intro hx_; try simp only [set_none] at hx_) | omega)
 rename_i b4 hb4 b5 hb5 b6
 have hb6 := hx_
 clear hx_
 have g4 : (((H.set b4 (.box [.int .i64 0])).set b5 (.box [.int .i64 3])).set b6 (.box [.int .i64 0, .int .i64 0, .int .i64 0, .str ⟨#[]⟩, .str ⟨#[]⟩, .nilsl, .nilsl, .nilsl, .int .i64 0])) b4 = some (.box [.int .i64 (0 : Nat)]) := by simp only [Heap.set]; grind
 have g5 : (((H.set b4 (.box [.int .i64 0])).set b5 (.box [.int .i64 3])).set b6 (.box [.int .i64 0, .int .i64 0, .int .i64 0, .str ⟨#[]⟩, .str ⟨#[]⟩, .nilsl, .nilsl, .nilsl, .int .i64 0])) b5 = some (.box [.int .i64 (3 : Nat)]) := by simp only [Heap.set]; grind
 have g6 : (((H.set b4 (.box [.int .i64 0])).set b5 (.box [.int .i64 3])).set b6 (.box [.int .i64 0, .int .i64 0, .int .i64 0, .str ⟨#[]⟩, .str ⟨#[]⟩, .nilsl, .nilsl, .nilsl, .int .i64 0])) b6 = some (.box [.int .i64 0, .int .i64 0, .int .i64 0, .str ⟨#[]⟩, .str ⟨#[]⟩, .nilsl, .nilsl, .nilsl, .int .i64 0]) := heap_same _ _
 have gK : ∀ q o, H q = some o → (((H.set b4 (.box [.int .i64 0])).set b5 (.box [.int .i64 3])).set b6 (.box [.int .i64 0, .int .i64 0, .int .i64 0, .str ⟨#[]⟩, .str ⟨#[]⟩, .nilsl, .nilsl, .nilsl, .int .i64 0])) q = some o := fun q o hq => by simp only [Heap.set]; grind
 have gt := gK _ _ ht
 have gm := gK _ _ hmb
 have hH6 : H b6 = none := hb6.2.2
 generalize ((H.set b4 (.box [.int .i64 0])).set b5 (.box [.int .i64 3])).set b6 (.box [.int .i64 0, .int .i64 0, .int .i64 0, .str ⟨#[]⟩, .str ⟨#[]⟩, .nilsl, .nilsl, .nilsl, .int .i64 0]) = Bs at g4 g5 g6 gK gt gm ⊢
 have hix : idxI (fun a : List Int => !decide (a.getD 0 0 = a.getD 3 0)) allI = 1 := by decide +kernel
 refine idxII_a (fun a => !decide (a.getD 0 0 = a.getD 3 0)) allI (by decide) _ _ _ _ (findF g4 g5 (by omega) (by omega)) ?_
 rw [hix]
 have a0 : (Rw intsC allI).getD 0 [] = [.sl 1 (Rw intC [0, 1, 2, 0, 1])] := rfl
 have a0' : (Rw intsC allI)[0]? = some [.sl 1 (Rw intC [0, 1, 2, 0, 1])] := rfl
 have al : allI.length = 2 := rfl
 have n4m : b4 ≠ mb := fun e => by rw [e, gm] at g4; cases g4
 have n5m : b5 ≠ mb := fun e => by rw [e, gm] at g5; cases g5
 have n6m : b6 ≠ mb := fun e => by rw [e, gm] at g6; cases g6
 repeat' (first | with_reducible refine And.intro ?_ ?_ | simp only [go_sem,seval, gt, g4, g5, g6, a0, a0', al] | simp (disch := omega) only [wrap64, cell_at, Rw_at] | simp (disch := first | omega | grind) only [heap_ne_, del_ne] | (intro hx_; try simp only [set_none] at hx_) | omega)
 refine can03_a tb mb _ gt gm ?_
 have f4 : ∀ o, (Bs.set mb o) b4 = some (.box [.int .i64 (0 : Nat)]) := fun o => by rw [heap_ne _ n4m]; exact g4
 have f5 : ∀ o, (Bs.set mb o) b5 = some (.box [.int .i64 (3 : Nat)]) := fun o => by rw [heap_ne _ n5m]; exact g5
 have f6 : ∀ o, (Bs.set mb o) b6 = some (.box [.int .i64 0, .int .i64 0, .int .i64 0, .str ⟨#[]⟩, .str ⟨#[]⟩, .nilsl, .nilsl, .nilsl, .int .i64 0]) := fun o => by rw [heap_ne _ n6m]; exact g6
 have ft : ∀ o, (Bs.set mb o) tb = some (.box (tlC mb)) := fun o => by rw [heap_ne _ ntm]; exact gt
 have fm : ∀ o, (Bs.set mb o) mb = some o := fun o => heap_same _ _
 have fK : ∀ o q x, q ≠ mb → H q = some x → (Bs.set mb o) q = some x := fun o q x h1 h2 => by rw [heap_ne _ h1]; exact gK q x h2
 generalize hC : Bs.set mb (.map [k20]) = Cs
 have e4 := f4 (.map [k20])
 have e5 := f5 (.map [k20])
 have e6 := f6 (.map [k20])
 have et := ft (.map [k20])
 have em := fm (.map [k20])
 have eK := fK (.map [k20])
 rw [hC] at e4 e5 e6 et em eK
 clear f4 f5 f6 ft fm fK g4 g5 g6 gt gm gK
 repeat' (first | with_reducible refine And.intro ?_ ?_ | simp only [go_sem,seval, e4, e5, e6, et] | simp (disch := omega) only [wrap64, cell_at, Rw_at] | simp (disch := first | omega | grind) only [heap_ne_, del_ne] | (intro hx_; try simp only [set_none] at hx_) | omega)
 rename_i b10
 have hb10 := hx_
 clear hx_
 have n10 : ∀ q o, Cs q = some o → (Cs.set b10 (.box (toldC mY 2))) q = some o := fun q o hq => by rw [heap_ne _ (fun e => by rw [e, hb10] at hq; cases hq)]; exact hq
 have d4 := n10 _ _ e4
 have d5 := n10 _ _ e5
 have d6 := n10 _ _ e6
 have dt := n10 _ _ et
 have dm := n10 _ _ em
 have d10 : (Cs.set b10 (.box (toldC mY 2))) b10 = some (.box (toldC mY 2)) := heap_same _ _
 have dK := fun q o h1 h2 => n10 q o (eK q o h1 h2)
 generalize Cs.set b10 (.box (toldC mY 2)) = Ds at d4 d5 d6 dt dm d10 dK ⊢
 refine can30_a tb mb _ dt ?_
 unfold z9
 repeat' (first | with_reducible refine And.intro ?_ ?_ | simp only [go_sem,seval, d4, d5, d6, d10] | simp (disch := omega) only [wrap64, cell_at, Rw_at] | simp (disch := first | omega | grind) only [heap_ne_, del_ne] | (intro hx_; try simp only [set_none] at hx_) | omega)
 rename_i b12
 have hb12 := hx_
 clear hx_
 have nb12 : Ds b12 = none := by first | exact hb12 | simpa only [set_none] using hb12
 refine Fin.less (fun q o hq => ?_) h
 have dK2 : ∀ q o, (H.set mb (.map [k20])) q = some o → Ds q = some o := fun q o hq => by
  by_cases em : q = mb
  ·subst em
   rw [heap_same] at hq; rw [dm]; exact hq
  ·rw [heap_ne _ em] at hq
   exact dK q o em hq
 have h1 := dK2 q o hq
 have h6 : q ≠ b6 := fun e => by
  rw [e] at hq
  rw [heap_ne _ n6m, hH6] at hq; cases hq
 rw [heap_ne _ h6, heap_ne _ (fun e => by rw [e, nb12] at h1; cases h1)]; exact h1
theorem tell03_a {Q} (tb mb : Nat) (H : Heap) (ht : H tb = some (.box (tlC mb))) (hmb : H mb = some (.map [])) (h : Q (.agg (toldC mY 2)) (H.set mb (.map [k20, (.agg [.int .i64 0, .int .i64 3], .agg (toldC mY 2))]))) : ACalls Tryz.prog 46 [.box tb 0, .int .i64 0, .int .i64 3] H Q :=
 tell_a 0 3 2 mY tb mb [] [k20] H ht hmb rfl rfl (fun Hx Q h1 h2 hq => find03_a tb mb Hx h1 h2 hq) h
end Go.Proofs.YtmohcdihdhggoaaGreatDoor
end
section
set_option maxRecDepth 20000
namespace Go.Bis
open Go Go.Av Go.Lexs
def zM : List D := [.int .i64 0, .int .i64 0, .int .i64 0, .str ⟨#[]⟩, .str ⟨#[]⟩, .nilsl, .nilsl, .nilsl]
@[go_sem] theorem syC_put6 (a b c d e f : D) (s : Sy) : putAt [a, b, c, d, e, f] 0 (syC s) = [.sl 6 (Rw tmC s.seen), .sl 1 (Rw boolC s.final), .sl 1 (Rw intsC s.next), d, e, f] := rfl
theorem allU_rows {k : Nat} (h1 : itS uU (k + 1) = itS uU k) (h2 : ∀ j, j < k → itS uU (j + 1) ≠ itS uU j) : Rw natsC (allS uU k) = Rw intsC allI := by
 have hk : k = 1 := by
  match k, h1, h2 with
  | 0, h1, _ => rw [itU0, itU1] at h1; cases h1
  | 1, _, _ => rfl
  | k + 2, _, h2 => exact absurd (by rw [itU1, itU2]) (h2 1 (by omega))
 subst hk
 show Rw natsC [itS uU 0, itS uU 1] = _
 rw [itU0, itU1]; rfl
theorem allV_rows {k : Nat} (h1 : itS uV (k + 1) = itS uV k) (h2 : ∀ j, j < k → itS uV (j + 1) ≠ itS uV j) : Rw natsC (allS uV k) = Rw intsC [[0, 1, 0, 0, 1]] := by
 have hk : k = 0 := by
  match k, h1, h2 with
  | 0, _, _ => rfl
  | k + 1, _, h2 => exact absurd (by rw [itV0, itV1]) (h2 0 (by omega))
 subst hk
 show Rw natsC [itS uV 0] = _
 rw [itV0]; rfl
theorem uV_ok : SyOk uV := validY_ok (by decide +kernel)
theorem uV_fit : SyFit uV := union_fit aY_fit bY_fit (validY_ok aY_valid) (validY_ok bY_valid)
theorem uV_pl : SyPl uV := validY_pl (by decide +kernel)
theorem uU_pl : SyPl uU := validY_pl (by decide +kernel)
end Go.Bis
namespace Go.Proofs.YtmohcdihdhggoaaGreatDoor
open Go Go.Av Go.Lexs Go.Bis
attribute [local irreducible] ACalls at8
set_option maxHeartbeats 4000000 in
theorem differV_a {Q} (H : Heap) (hT : Tabs H) (h : Q (.tuple [.agg zM, .int .i64 4]) H) : ACalls Tryz.prog 19 [.agg (syC aY), .agg (syC bY)] H Q := by
 refine acalls_of_wp [] Tryz.mixed Tryz.func19 rfl (by kernel_rfl) (of_decide_eq_true (by kernel_rfl)) (by kernel_rfl) ?_
 simp only [go_sem,seval, Tryz.results19]
 intro b2 hb2
 have va := aY_valid
 have vb := bY_valid
 have e2 : (H.set b2 (.box (syC aY))) b2 = some (.box (syC aY)) := heap_same _ _
 repeat' (first | with_reducible refine And.intro ?_ ?_ | simp only [go_sem,seval, va, vb] | simp (disch := omega) only [wrap64, cell_at] | simp (disch := first | omega | grind) only [heap_ne_, del_ne] | (intro hx_; try simp only [set_none] at hx_) | with_reducible refine bvalid_a aY aY_fit _ ?_ | with_reducible refine bvalid_a bY bY_fit _ ?_ | with_reducible refine union_a aY bY aY_fit bY_fit (validY_ok aY_valid) (validY_ok bY_valid) (by decide) _ ?_ | omega)
 rename_i b3 hb3 b4 hb4 mb hmb b6
 have hb6 := hx_
 clear hx_
 clear e2
 change ACalls _ _ [.agg (syC uV)] (((((H.set b2 (.box (syC aY))).set b3 (.box (syC bY))).set b4 (.box zM)).set mb (.map [])).set b6 (.box [.sl 6 (Rw tmC uV.seen), .sl 1 (Rw boolC uV.final), .sl 1 (Rw intsC uV.next), .nilsl, .nilsl, .map mb])) _
 obtain ⟨Bs, hBs⟩ : ∃ Bs, Bs = (((((H.set b2 (.box (syC aY))).set b3 (.box (syC bY))).set b4 (.box zM)).set mb (.map [])).set b6 (.box [.sl 6 (Rw tmC uV.seen), .sl 1 (Rw boolC uV.final), .sl 1 (Rw intsC uV.next), .nilsl, .nilsl, .map mb])) := ⟨_, rfl⟩
 have e2 : Bs b2 = some (.box (syC aY)) := by rw [hBs]; simp only [Heap.set]; grind
 have e4 : Bs b4 = some (.box zM) := by rw [hBs]; simp only [Heap.set]; grind
 have em : Bs mb = some (.map []) := by rw [hBs]; simp only [Heap.set]; grind
 have e6 : Bs b6 = some (.box [.sl 6 (Rw tmC uV.seen), .sl 1 (Rw boolC uV.final), .sl 1 (Rw intsC uV.next), .nilsl, .nilsl, .map mb]) := by rw [hBs]; exact heap_same _ _
 have eK : ∀ q o, H q = some o → Bs q = some o := fun q o hq => by rw [hBs]; simp only [Heap.set]; grind
 have n46 : b4 ≠ b6 := fun e => hb6.2.1 e.symm
 have n26 : b2 ≠ b6 := fun e => hb6.2.2.2.1 e.symm
 have nm6 : mb ≠ b6 := fun e => hb6.1 e.symm
 have nm4 : mb ≠ b4 := hmb.1
 have hH4 : H b4 = none := hb4.2.2
 have hH6 : H b6 = none := hb6.2.2.2.2
 have hHm : H mb = none := hmb.2.2.2
 have hTB : Tabs Bs := hT.le eK
 rw [← hBs]
 clear hBs hb3 hb4 hmb hb6 hb2
 refine classes_a uV uV_fit uV_ok uV_pl Bs hTB (fun k hk hno => ?_)
 rw [allV_rows hk hno]
 have f6 : ∀ o, (Bs.set b6 o) b6 = some o := fun o => heap_same _ _
 have f2 : ∀ o, (Bs.set b6 o) b2 = some (.box (syC aY)) := fun o => by rw [heap_ne _ n26]; exact e2
 have f4 : ∀ o, (Bs.set b6 o) b4 = some (.box zM) := fun o => by rw [heap_ne _ n46]; exact e4
 have sa : aY.seen.length = 2 := rfl
 unfold zM at f4 h
 have r0 : (Rw intsC [[0, 1, 0, 0, 1]]).getD 0 [] = [D.sl 1 (Rw intC [0, 1, 0, 0, 1])] := rfl
 have r0' : (Rw intsC [[0, 1, 0, 0, 1]])[0]? = some [D.sl 1 (Rw intC [0, 1, 0, 0, 1])] := rfl
 have c0 : (Rw intC [0, 1, 0, 0, 1]).getD 0 [] = [D.int .i64 0] := rfl
 have c0' : (Rw intC [0, 1, 0, 0, 1])[0]? = some [D.int .i64 0] := rfl
 have c2 : (Rw intC [0, 1, 0, 0, 1]).getD 2 [] = [D.int .i64 0] := rfl
 have c2' : (Rw intC [0, 1, 0, 0, 1])[2]? = some [D.int .i64 0] := rfl
 have k1 : ((((1 : Nat) : Int) - 1).toNat) = 0 := rfl
 repeat' (first | with_reducible refine And.intro ?_ ?_ | simp only [go_sem,seval, e6, f6, f2, f4, e2, e4, sa, r0, r0', c0, c0', c2, c2', k1] | simp (disch := omega) only [wrap64, cell_at] | simp (disch := first | omega | grind) only [heap_ne_, del_ne] | (intro hx_; try simp only [set_none] at hx_) | omega)
 refine Fin.less (fun q o hq => ?_) h
 rw [heap_ne _ (fun e => by rw [e, hH4] at hq; cases hq), heap_ne _ (fun e => by rw [e, hH6] at hq; cases hq)]; exact eK q o hq
set_option maxHeartbeats 4000000 in
theorem differU_a {Q} (H : Heap) (hT : Tabs H) (h : Q (.tuple [.agg (moC mY), .int .i64 0]) H) : ACalls Tryz.prog 19 [.agg (syC cY), .agg (syC aY)] H Q := by
 refine acalls_of_wp [] Tryz.mixed Tryz.func19 rfl (by kernel_rfl) (of_decide_eq_true (by kernel_rfl)) (by kernel_rfl) ?_
 simp only [go_sem,seval, Tryz.results19]
 intro b2 hb2
 have va := cY_valid
 have vb := aY_valid
 have e2 : (H.set b2 (.box (syC cY))) b2 = some (.box (syC cY)) := heap_same _ _
 repeat' (first | with_reducible refine And.intro ?_ ?_ | simp only [go_sem,seval, va, vb] | simp (disch := omega) only [wrap64, cell_at, Rw_at] | simp (disch := first | omega | grind) only [heap_ne_, del_ne] | (intro hx_; try simp only [set_none] at hx_) | with_reducible refine bvalid_a cY cY_fit _ ?_ | with_reducible refine bvalid_a aY aY_fit _ ?_ | with_reducible refine union_a cY aY cY_fit aY_fit (validY_ok cY_valid) (validY_ok aY_valid) (by decide) _ ?_ | omega)
 rename_i b3 hb3 b4 hb4 mb hmb b6
 have hb6 := hx_
 clear hx_
 clear e2
 change ACalls _ _ [.agg (syC uU)] (((((H.set b2 (.box (syC cY))).set b3 (.box (syC aY))).set b4 (.box zM)).set mb (.map [])).set b6 (.box [.sl 6 (Rw tmC uU.seen), .sl 1 (Rw boolC uU.final), .sl 1 (Rw intsC uU.next), .nilsl, .nilsl, .map mb])) _
 obtain ⟨Bs, hBs⟩ : ∃ Bs, Bs = (((((H.set b2 (.box (syC cY))).set b3 (.box (syC aY))).set b4 (.box zM)).set mb (.map [])).set b6 (.box [.sl 6 (Rw tmC uU.seen), .sl 1 (Rw boolC uU.final), .sl 1 (Rw intsC uU.next), .nilsl, .nilsl, .map mb])) := ⟨_, rfl⟩
 have e2 : Bs b2 = some (.box (syC cY)) := by rw [hBs]; simp only [Heap.set]; grind
 have e4 : Bs b4 = some (.box zM) := by rw [hBs]; simp only [Heap.set]; grind
 have em : Bs mb = some (.map []) := by rw [hBs]; simp only [Heap.set]; grind
 have e6 : Bs b6 = some (.box [.sl 6 (Rw tmC uU.seen), .sl 1 (Rw boolC uU.final), .sl 1 (Rw intsC uU.next), .nilsl, .nilsl, .map mb]) := by rw [hBs]; exact heap_same _ _
 have eK : ∀ q o, H q = some o → Bs q = some o := fun q o hq => by rw [hBs]; simp only [Heap.set]; grind
 have n46 : b4 ≠ b6 := fun e => hb6.2.1 e.symm
 have n26 : b2 ≠ b6 := fun e => hb6.2.2.2.1 e.symm
 have nm6 : mb ≠ b6 := fun e => hb6.1 e.symm
 have nm4 : mb ≠ b4 := hmb.1
 have hH4 : H b4 = none := hb4.2.2
 have hH6 : H b6 = none := hb6.2.2.2.2
 have hHm : H mb = none := hmb.2.2.2
 have hTB : Tabs Bs := hT.le eK
 rw [← hBs]
 clear hBs hb3 hb4 hmb hb6 hb2
 refine classes_a uU uU_fit uU_ok uU_pl Bs hTB (fun k hk hno => ?_)
 rw [allU_rows hk hno, leadsU]
 have f6 : ∀ o, (Bs.set b6 o) b6 = some o := fun o => heap_same _ _
 have f2 : ∀ o, (Bs.set b6 o) b2 = some (.box (syC cY)) := fun o => by rw [heap_ne _ n26]; exact e2
 have f4 : ∀ o, (Bs.set b6 o) b4 = some (.box zM) := fun o => by rw [heap_ne _ n46]; exact e4
 have sa : cY.seen.length = 3 := rfl
 have r0 : (Rw intsC allI).getD 1 [] = [D.sl 1 (Rw intC [0, 1, 2, 3, 1])] := rfl
 have r0' : (Rw intsC allI)[1]? = some [D.sl 1 (Rw intC [0, 1, 2, 3, 1])] := rfl
 have c0 : (Rw intC [0, 1, 2, 3, 1]).getD 0 [] = [D.int .i64 0] := rfl
 have c0' : (Rw intC [0, 1, 2, 3, 1])[0]? = some [D.int .i64 0] := rfl
 have c2 : (Rw intC [0, 1, 2, 3, 1]).getD 3 [] = [D.int .i64 3] := rfl
 have c2' : (Rw intC [0, 1, 2, 3, 1])[3]? = some [D.int .i64 3] := rfl
 have k1 : ((((2 : Nat) : Int) - 1).toNat) = 1 := rfl
 have al : allI.length = 2 := rfl
 have a1 : allI[1] = [0, 1, 2, 3, 1] := rfl
 unfold zM at f4
 repeat' (first | with_reducible refine And.intro ?_ ?_ | simp only [go_sem,seval, e6, f6, f2, f4, e2, e4, sa, r0, r0', c0, c0', c2, c2', k1, al, a1] | simp (disch := omega) only [wrap64, cell_at, Rw_at] | simp (disch := first | omega | grind) only [heap_ne_, del_ne] | (intro hx_; try simp only [set_none] at hx_) | omega)
 have g6 := f6 (.box [.sl 6 (Rw tmC uU.seen), .sl 1 (Rw boolC uU.final), .sl 1 (Rw intsC uU.next), .sl 1 (Rw intsC allI), .sl 1 (Rw intsC toI), .map mb])
 have gm : (Bs.set b6 (.box [.sl 6 (Rw tmC uU.seen), .sl 1 (Rw boolC uU.final), .sl 1 (Rw intsC uU.next), .sl 1 (Rw intsC allI), .sl 1 (Rw intsC toI), .map mb])) mb = some (.map []) := by rw [heap_ne _ nm6]; exact em
 have g4 := f4 (.box [.sl 6 (Rw tmC uU.seen), .sl 1 (Rw boolC uU.final), .sl 1 (Rw intsC uU.next), .sl 1 (Rw intsC allI), .sl 1 (Rw intsC toI), .map mb])
 have gK : ∀ q o, H q = some o → (Bs.set b6 (.box [.sl 6 (Rw tmC uU.seen), .sl 1 (Rw boolC uU.final), .sl 1 (Rw intsC uU.next), .sl 1 (Rw intsC allI), .sl 1 (Rw intsC toI), .map mb])) q = some o := fun q o hq => by
  rw [heap_ne _ (fun e => by rw [e, hH6] at hq; cases hq)]; exact eK q o hq
 generalize Bs.set b6 (.box [.sl 6 (Rw tmC uU.seen), .sl 1 (Rw boolC uU.final), .sl 1 (Rw intsC uU.next), .sl 1 (Rw intsC allI), .sl 1 (Rw intsC toI), .map mb]) = Cs at g6 gm g4 gK ⊢
 clear f6 f2 f4
 refine tell03_a b6 mb Cs g6 gm ?_
 have d4 : ∀ o, (Cs.set mb o) b4 = some (.box [.int .i64 0, .int .i64 0, .int .i64 0, .str ⟨#[]⟩, .str ⟨#[]⟩, .nilsl, .nilsl, .nilsl]) := fun o => by rw [heap_ne _ (Ne.symm nm4)]; exact g4
 have dK : ∀ o q x, H q = some x → (Cs.set mb o) q = some x := fun o q x hq => by rw [heap_ne _ (fun e => by rw [e, hHm] at hq; cases hq)]; exact gK q x hq
 generalize hM : Av.Obj.map [k20, (.agg [.int .i64 0, .int .i64 3], .agg (toldC mY 2))] = M
 have e4' := d4 M
 have eK' := dK M
 generalize Cs.set mb M = Ds at e4' eK' ⊢
 clear d4 dK g6 gm g4 gK
 have hmv := mY_valid
 have h9 : ∀ b o x, Ds b = none → Ds b4 = some x → (Ds.set b o) b4 = some x := fun b o x h1 h2 => by rw [heap_ne _ (fun e => by rw [e, h1] at h2; cases h2)]; exact h2
 repeat' (first | with_reducible refine And.intro ?_ ?_ | simp only [go_sem,seval, e4', hmv] | simp (disch := omega) only [wrap64, cell_at, Rw_at] | simp (disch := first | omega | grind) only [heap_ne_, del_ne] | (intro hx_; try simp only [set_none] at hx_) | with_reducible refine cloneM_a mY mY_fit _ ?_ | with_reducible refine isModal_a mY mY_fit (by rw [mY_cnt]; omega) _ ?_ | omega)
 rename_i x1 hx1 x2
 have hx2 : x2 ≠ x1 ∧ Ds x2 = none := by first | exact hx_ | simpa only [set_none] using hx_
 refine Fin.less (fun q o hq => ?_) h
 have h1 := eK' q o hq
 rw [heap_ne _ (fun e => by rw [e, hH4] at hq; cases hq), heap_ne _ (fun e => by rw [e, hx2.2] at h1; cases h1), heap_ne _ (fun e => by rw [e, hx1] at h1; cases h1)]; exact h1
end Go.Proofs.YtmohcdihdhggoaaGreatDoor
end
section
set_option maxRecDepth 20000
namespace Go.Av
theorem ACalls.freezeA3 {P : Program} {f v sz : Nat} {es : List (List D)} {a b : D} {cs cs' : List D} {H : Heap} {Q : D → Heap → Prop} (hb : H v = some (.vec sz es)) (hl : cs.length = cs'.length)
  (hz : ∀ (i : Nat) d d', cs[i]? = some d → cs'[i]? = some d' → Fz v sz es d d') (h : ACalls P f [a, b, .agg cs'] (H.del v) Q) : ACalls P f [a, b, .agg cs] H Q := by
 refine ACalls.shift (args' := [a, b, .agg cs']) (fun w vs h1 h2 hs => ⟨h1, fun i d hd => ?_, hs.less (Heap.del_le H v), fun k hn => (Heap.del_le H v).held hn⟩) h
 match i, hd with
 | 0, hd => cases hd; exact (h2 0 _ rfl).less (Heap.del_le H v)
 | 1, hd => cases hd; exact (h2 1 _ rfl).less (Heap.del_le H v)
 | 2, hd =>
  cases hd
  have hr := h2 2 (.agg cs) rfl
  revert hr
  generalize vs.getD 2 undef = x
  intro hr
  cases hr with
  | agg _ us hlv ho hr =>
   have key : ∀ (i : Nat) d', cs'[i]? = some d' → ∃ d, cs[i]? = some d ∧ Fz v sz es d d' := fun i d' hd' => by
    have hi := (List.getElem?_eq_some_iff.1 hd').1
    have hi' : i < cs.length := by omega
    exact ⟨cs[i], List.getElem?_eq_getElem hi', hz i _ _ (List.getElem?_eq_getElem hi') hd'⟩
   refine .agg cs' us (by omega) (fun i d' hd' => ?_) (fun i d' hd' => ?_)
   ·obtain ⟨d, hd, hf⟩ := key i d' hd'
    exact hf.one (ho i d hd)
   ·obtain ⟨d, hd, hf⟩ := key i d' hd'
    exact hf.R hs hb (hr i d hd)
 | i + 3, hd => cases hd
end Go.Av
namespace Go.Proofs.YtmohcdihdhggoaaGreatDoor
open Go Go.Av Go.Lexs Go.Bis
attribute [local irreducible] ACalls at8
theorem heap_two {H : Heap} {x y : Nat} {o p : Av.Obj} (hx : H x = none) (hy : H y = none) : (((H.set x o).set y p).del x).del y = H := by
 funext q
 simp only [Heap.del, Heap.set]
 by_cases e1 : q = y
 ·rw [if_pos e1, e1, hy]
 ·rw [if_neg e1]
  by_cases e2 : q = x
  ·rw [if_pos e2, e2, hx]
  ·rw [if_neg e2, if_neg e1, if_neg e2]
theorem seenV_a {Q} (l n0 : List Int) (k : Nat) (hl : l.length = k + 1) (hk : k ≤ 8) (hn : n0.length ≤ 10) (H : Heap) (x1 x2 x3 : Nat) (h1 : H x1 = none) (h2 : x2 ≠ x1 ∧ H x2 = none) (h3 : x3 ≠ x2 ∧ x3 ≠ x1 ∧ H x3 = none) (h : Q (.agg (syC (sysY l (n0 :: List.replicate k [])))) H) :
  ACalls Tryz.prog 32 [.vec x1 1 0 l.length, .vec x3 1 0 (k + 1)] (((H.set x1 (.vec 1 (Rw intC l))).set x2 (.vec 1 (Rw intC n0))).set x3 (.vec 1 ([.vec x2 1 0 n0.length] :: List.replicate k [.nilsl]))) Q := by
 have hr : Rw intsC (n0 :: List.replicate k []) = [D.sl 1 (Rw intC n0)] :: List.replicate k [.sl 1 []] := by
  show intsC n0 :: (List.replicate k ([] : List Int)).map intsC = _
  rw [List.map_replicate]; rfl
 refine ACalls.freezeO (b := x2) (sz := 1) (es := Rw intC n0) (H' := (H.set x1 (.vec 1 (Rw intC l))).set x3 (.vec 1 (Rw intsC (n0 :: List.replicate k [])))) (by rw [heap_ne _ (Ne.symm h3.1)]; exact heap_same _ _) (fun q o' ho => ?_) ?_
 ·by_cases e3 : q = x3
  ·subst e3
   rw [heap_same] at ho
   cases ho
   refine ⟨h3.1, _, heap_same _ _, ?_⟩
   rw [hr]
   refine .vec _ _ _ (by simp) (fun i y y' hy hy' => ?_)
   match i with
   | 0 =>
    cases hy; cases hy'
    refine ⟨rfl, fun j d d' hd hd' => ?_⟩
    match j with
    | 0 => cases hd; cases hd'; rw [show n0.length = (Rw intC n0).length by rw [Rw_len]]; exact .all
    | j + 1 => cases hd
   | i + 1 =>
    rw [List.getElem?_cons_succ, List.getElem?_replicate] at hy hy'
    split at hy
    ·rename_i hi
     rw [if_pos hi] at hy'
     cases hy; cases hy'
     refine ⟨rfl, fun j d d' hd hd' => ?_⟩
     match j with
     | 0 => cases hd; cases hd'; exact .nil _
     | j + 1 => cases hd
    ·cases hy
  ·rw [heap_ne _ e3] at ho
   have e2 : q ≠ x2 := fun e => by rw [e, heap_ne _ h2.1, h2.2] at ho; cases ho
   exact ⟨e2, o', by rw [heap_ne _ e3, heap_ne _ e2]; exact ho, .same _⟩
 refine ACalls.vec1 (es := Rw intC l) (by rw [heap_ne _ (Ne.symm h3.2.1)]; exact heap_same _ _) (by rw [Rw_len]) ?_
 refine ACalls.vec2 (es := Rw intsC (n0 :: List.replicate k [])) (by rw [del_ne h3.2.1]; exact heap_same _ _) (by rw [Rw_len]; simp) ?_
 refine lseen_a l _ (by omega) (by omega) (by simp; omega) (fun m hm => ?_) _ (by rw [heap_two h1 h3.2.2]; exact h)
 rcases List.mem_cons.1 hm with rfl | hm
 ·exact hn
 ·rw [List.eq_of_mem_replicate hm]; simp
theorem seenW_a {Q} (l n0 n1 : List Int) (hl : l.length = 3) (hn0 : n0.length ≤ 10) (hn1 : n1.length ≤ 10) (H : Heap) (x1 x2 y2 x3 : Nat) (h1 : H x1 = none) (h2 : x2 ≠ x1 ∧ H x2 = none) (h4 : y2 ≠ x2 ∧ y2 ≠ x1 ∧ H y2 = none) (h3 : x3 ≠ y2 ∧ x3 ≠ x2 ∧ x3 ≠ x1 ∧ H x3 = none) (h : Q (.agg (syC (sysY l [n0, n1, []]))) H) :
  ACalls Tryz.prog 32 [.vec x1 1 0 l.length, .vec x3 1 0 3] ((((H.set x1 (.vec 1 (Rw intC l))).set x2 (.vec 1 (Rw intC n0))).set y2 (.vec 1 (Rw intC n1))).set x3 (.vec 1 [[.vec x2 1 0 n0.length], [.vec y2 1 0 n1.length], [.nilsl]])) Q := by
 refine ACalls.freezeO (b := x2) (sz := 1) (es := Rw intC n0) (H' := ((H.set x1 (.vec 1 (Rw intC l))).set y2 (.vec 1 (Rw intC n1))).set x3 (.vec 1 [[.sl 1 (Rw intC n0)], [.vec y2 1 0 n1.length], [.sl 1 []]])) (by rw [heap_ne _ (Ne.symm h3.2.1), heap_ne _ (Ne.symm h4.1)]; exact heap_same _ _) (fun q o' ho => ?_) ?_
 ·by_cases e3 : q = x3
  ·subst e3
   rw [heap_same] at ho
   cases ho
   refine ⟨h3.2.1, _, heap_same _ _, .vec _ _ _ rfl (fun i y y' hy hy' => ?_)⟩
   match i with
   | 0 =>
    cases hy; cases hy'
    refine ⟨rfl, fun j d d' hd hd' => ?_⟩
    match j with
    | 0 => cases hd; cases hd'; rw [show n0.length = (Rw intC n0).length by rw [Rw_len]]; exact .all
    | j + 1 => cases hd
   | 1 => cases hy; cases hy'; exact ⟨rfl, fun j d d' hd hd' => by cases (show some d = some d' from hd.symm.trans hd'); exact .same _⟩
   | 2 =>
    cases hy; cases hy'
    refine ⟨rfl, fun j d d' hd hd' => ?_⟩
    match j with
    | 0 => cases hd; cases hd'; exact .nil _
    | j + 1 => cases hd
   | i + 3 => cases hy
  ·rw [heap_ne _ e3] at ho
   have e2 : q ≠ x2 := fun e => by rw [e, heap_ne _ (Ne.symm h4.1), heap_ne _ h2.1, h2.2] at ho; cases ho
   refine ⟨e2, o', ?_, .same _⟩
   rw [heap_ne _ e3]
   by_cases ey : q = y2
   ·subst ey; rw [heap_same] at ho ⊢; exact ho
   ·rw [heap_ne _ ey] at ho ⊢; rw [heap_ne _ e2]; exact ho
 refine ACalls.freezeO (b := y2) (sz := 1) (es := Rw intC n1) (H' := (H.set x1 (.vec 1 (Rw intC l))).set x3 (.vec 1 (Rw intsC [n0, n1, []]))) (by rw [heap_ne _ (Ne.symm h3.1)]; exact heap_same _ _) (fun q o' ho => ?_) ?_
 ·by_cases e3 : q = x3
  ·subst e3
   rw [heap_same] at ho
   cases ho
   refine ⟨h3.1, _, heap_same _ _, .vec _ _ _ rfl (fun i y y' hy hy' => ?_)⟩
   match i with
   | 0 => cases hy; cases hy'; exact ⟨rfl, fun j d d' hd hd' => by cases (show some d = some d' from hd.symm.trans hd'); exact .same _⟩
   | 1 =>
    cases hy; cases hy'
    refine ⟨rfl, fun j d d' hd hd' => ?_⟩
    match j with
    | 0 => cases hd; cases hd'; rw [show n1.length = (Rw intC n1).length by rw [Rw_len]]; exact .all
    | j + 1 => cases hd
   | 2 => cases hy; cases hy'; exact ⟨rfl, fun j d d' hd hd' => by cases (show some d = some d' from hd.symm.trans hd'); exact .same _⟩
   | i + 3 => cases hy
  ·rw [heap_ne _ e3] at ho
   have e2 : q ≠ y2 := fun e => by rw [e, heap_ne _ h4.2.1, h4.2.2] at ho; cases ho
   exact ⟨e2, o', by rw [heap_ne _ e3, heap_ne _ e2]; exact ho, .same _⟩
 refine ACalls.vec1 (es := Rw intC l) (by rw [heap_ne _ (Ne.symm h3.2.2.1)]; exact heap_same _ _) (by rw [Rw_len]) ?_
 refine ACalls.vec2 (es := Rw intsC [n0, n1, []]) (by rw [del_ne h3.2.2.1]; exact heap_same _ _) (by rw [Rw_len]; rfl) ?_
 refine lseen_a l _ (by omega) (by omega) (by simp; omega) (fun m hm => ?_) _ (by rw [heap_two h1 h3.2.2.2]; exact h)
 simp only [List.mem_cons, List.not_mem_nil, or_false] at hm
 rcases hm with rfl | rfl | rfl
 ·exact hn0
 ·exact hn1
 ·simp
end Go.Proofs.YtmohcdihdhggoaaGreatDoor
end
section
set_option maxRecDepth 20000
namespace Go.Bis
open Go Go.Av Go.Lexs
def eqY (x y : Sy) : Bool := eqL x.seen y.seen && decide (x.final = y.final) && decide (x.next = y.next)
theorem sy_eq {x y : Sy} : x = y ↔ x.seen = y.seen ∧ x.final = y.final ∧ x.next = y.next := by
 constructor
 ·rintro rfl; exact ⟨rfl, rfl, rfl⟩
 ·cases x; cases y; rintro ⟨rfl, rfl, rfl⟩; rfl
theorem eqY_iff {x y : Sy} : eqY x y = true ↔ x = y := by
 unfold eqY
 rw [Bool.and_eq_true, Bool.and_eq_true, eqL_iff, decide_eq_true_eq, decide_eq_true_eq, sy_eq, and_assoc]
theorem eqY_false {x y : Sy} (h : ¬ (x.seen = y.seen ∧ x.final = y.final ∧ x.next = y.next)) : eqY x y = false := by
 rw [← Bool.not_eq_true, eqY_iff, sy_eq]; exact h
theorem eqY_true {x y : Sy} (h : x.seen = y.seen ∧ x.final = y.final ∧ x.next = y.next) : eqY x y = true := eqY_iff.2 (sy_eq.2 h)
theorem take_eq_succ {α : Type} {l m : List α} {k : Nat} (h : l.take k = m.take k) (hl : k < l.length) (hm : k < m.length) (he : l[k] = m[k]) : l.take (k + 1) = m.take (k + 1) := by
 rw [List.take_succ_eq_append_getElem hl, List.take_succ_eq_append_getElem hm, h, he]
end Go.Bis
namespace Go.Proofs.YtmohcdihdhggoaaGreatDoor
open Go Go.Av Go.Lexs Go.Bis
attribute [local irreducible] ACalls at8
set_option maxHeartbeats 2000000 in
theorem rSameY_a {Q} (x y : Sy) (hx : SyFit x) (hy : SyFit y) (H : Heap) (h : Q (.bool (eqY x y)) H) : ACalls Tryz.prog 26 [.agg (syC x), .agg (syC y)] H Q := by
 refine acalls_of_wp [] Tryz.mixed Tryz.func26 rfl (by kernel_rfl) (of_decide_eq_true (by kernel_rfl)) (by kernel_rfl) ?_
 simp only [go_sem,seval, Tryz.results26]
 have x1 := hx.sl; have x2 := hx.fl; have x3 := hx.nl; have y1 := hy.sl; have y2 := hy.fl; have y3 := hy.nl
 intro b1 hb1 b2 hb2
 have e1 : ((H.set b1 (.box (syC x))).set b2 (.box (syC y))) b1 = some (.box (syC x)) := by rw [heap_ne _ (by rintro rfl; rw [heap_same] at hb2; cases hb2)]; exact heap_same _ _
 have e2 : ((H.set b1 (.box (syC x))).set b2 (.box (syC y))) b2 = some (.box (syC y)) := heap_same _ _
 have hle : H.Le ((H.set b1 (.box (syC x))).set b2 (.box (syC y))) := (heap_le_set hb1).trans (heap_le_set hb2)
 generalize (H.set b1 (.box (syC x))).set b2 (.box (syC y)) = Bs at e1 e2 hle ⊢
 by_cases l1 : x.seen.length = y.seen.length
 case neg =>
  rw [eqY_false (fun e => l1 (by rw [e.1]))] at h
  have d1 : ¬ (x.seen.length : Int) = y.seen.length := by omega
  repeat' (first | with_reducible refine And.intro ?_ ?_ | simp only [go_sem,seval, e1, e2, d1] | simp (disch := omega) only [wrap64, cell_at, Rw_at] | simp (disch := first | omega | grind) only [heap_ne_, del_ne] | (intro hx_; try simp only [set_none] at hx_) | omega)
  exact Fin.less hle h
 have d1 : (x.seen.length : Int) = y.seen.length := by omega
 by_cases l2 : x.final.length = y.final.length
 case neg =>
  rw [eqY_false (fun e => l2 (by rw [e.2.1]))] at h
  have d2 : ¬ (x.final.length : Int) = y.final.length := by omega
  repeat' (first | with_reducible refine And.intro ?_ ?_ | simp only [go_sem,seval, e1, e2, d1, d2] | simp (disch := omega) only [wrap64, cell_at, Rw_at] | simp (disch := first | omega | grind) only [heap_ne_, del_ne] | (intro hx_; try simp only [set_none] at hx_) | omega)
  exact Fin.less hle h
 have d2 : (x.final.length : Int) = y.final.length := by omega
 by_cases l3 : x.next.length = y.next.length
 case neg =>
  rw [eqY_false (fun e => l3 (by rw [e.2.2]))] at h
  have d3 : ¬ (x.next.length : Int) = y.next.length := by omega
  repeat' (first | with_reducible refine And.intro ?_ ?_ | simp only [go_sem,seval, e1, e2, d1, d2, d3] | simp (disch := omega) only [wrap64, cell_at, Rw_at] | simp (disch := first | omega | grind) only [heap_ne_, del_ne] | (intro hx_; try simp only [set_none] at hx_) | omega)
  exact Fin.less hle h
 have d3 : (x.next.length : Int) = y.next.length := by omega
 cases hsn : eqL x.seen y.seen with
 | false =>
  rw [eqY_false (fun e => by rw [(eqL_iff _ _).2 e.1] at hsn; cases hsn)] at h
  repeat' (first | with_reducible refine And.intro ?_ ?_ | simp only [go_sem,seval, e1, e2, d1, d2, d3, hsn] | simp (disch := omega) only [wrap64, cell_at, Rw_at] | simp (disch := first | omega | grind) only [heap_ne_, del_ne] | (intro hx_; try simp only [set_none] at hx_) | with_reducible refine rSameList_a _ _ x1 y1 hx.tm hy.tm _ ?_ | omega)
  exact Fin.less hle h
 | true =>
  have hse := (eqL_iff _ _).1 hsn
  repeat' (first | with_reducible refine And.intro ?_ ?_ | simp only [go_sem,seval, e1, e2, d1, d2, d3, hsn] | simp (disch := omega) only [wrap64, cell_at, Rw_at] | simp (disch := first | omega | grind) only [heap_ne_, del_ne] | (intro hx_; try simp only [set_none] at hx_) | with_reducible refine rSameList_a _ _ x1 y1 hx.tm hy.tm _ ?_ | omega)
  refine loop_c [2, 3, 42] (fun (k : Nat) => [(43, .int .i64 k)]) (fun (k : Nat) => Bs) (fun (k : Nat) => k ≤ x.final.length ∧ x.final.take k = y.final.take k) (fun (k : Nat) => x.final.length - k) (0) (⟨Nat.zero_le _, rfl⟩) (by (try simp only [go_sem,seval]) <;> (try simp (disch := omega) [wrap64]) <;> (try omega)) (by first | with_reducible exact Heap.Le.refl _ | exact heap_set_le (by assumption) | exact Heap.Le.refl _ | exact heap_le_set (by assumption) | exact (by simp only [Go.Av.Heap.Le, Go.Av.Heap.set, Go.Av.Heap.del] at * <;> grind)) ?_
  rintro Ec rfl k ⟨hk, hp⟩
  by_cases hlt : k < x.final.length
  ·have hkd : decide ((k : Int) < x.final.length) = true := decide_eq_true (by omega)
   have hky : k < y.final.length := by omega
   have hkx : (k : Int) < x.final.length := by omega
   have hkyi : (k : Int) < y.final.length := by omega
   by_cases hf : x.final[k] = y.final[k]
   ·repeat' (first | with_reducible refine And.intro ?_ ?_ | simp only [go_sem,seval, hkd, e1, e2, d1, d2, d3, hkx, hkyi, Rw_at _ _ hlt, Rw_at _ _ hky, hf] | simp (disch := omega) only [wrap64, cell_at, Rw_at] | simp (disch := first | omega | grind) only [heap_ne_, del_ne] | (intro hx_; try simp only [set_none] at hx_) | omega)
    exact nx_mk (k + 1) ⟨by omega, take_eq_succ hp hlt hky hf⟩ (by omega) (by (try simp only [go_sem,seval]) <;> (try simp (disch := omega) [wrap64]) <;> (try omega)) (Heap.Le.refl _)
   ·rw [eqY_false (fun e => hf (by simp [e.2.1]))] at h
    repeat' (first | with_reducible refine And.intro ?_ ?_ | simp only [go_sem,seval, hkd, e1, e2, d1, d2, d3, hkx, hkyi, Rw_at _ _ hlt, Rw_at _ _ hky, hf] | simp (disch := omega) only [wrap64, cell_at, Rw_at] | simp (disch := first | omega | grind) only [heap_ne_, del_ne] | (intro hx_; try simp only [set_none] at hx_) | omega)
    exact Fin.less hle h
  ·have hkd : decide ((k : Int) < x.final.length) = false := decide_eq_false (by omega)
   rw [List.take_of_length_le (by omega), List.take_of_length_le (by omega)] at hp
   repeat' (first | with_reducible refine And.intro ?_ ?_ | simp only [go_sem,seval, hkd, e1, e2] | simp (disch := omega) only [wrap64, cell_at, Rw_at] | simp (disch := first | omega | grind) only [heap_ne_, del_ne] | (intro hx_; try simp only [set_none] at hx_) | omega)
   refine loop_c [2, 3, 60] (fun (k : Nat) => [(61, .int .i64 k)]) (fun (k : Nat) => Bs) (fun (k : Nat) => k ≤ x.next.length ∧ x.next.take k = y.next.take k) (fun (k : Nat) => x.next.length - k) (0) (⟨Nat.zero_le _, rfl⟩) (by (try simp only [go_sem,seval]) <;> (try simp (disch := omega) [wrap64]) <;> (try omega)) (by first | with_reducible exact Heap.Le.refl _ | exact heap_set_le (by assumption) | exact Heap.Le.refl _ | exact heap_le_set (by assumption) | exact (by simp only [Go.Av.Heap.Le, Go.Av.Heap.set, Go.Av.Heap.del] at * <;> grind)) ?_
   rintro Ec rfl k ⟨hk, hq⟩
   by_cases hlt : k < x.next.length
   ·have hkd : decide ((k : Int) < x.next.length) = true := decide_eq_true (by omega)
    have hky : k < y.next.length := by omega
    have hkx : (k : Int) < x.next.length := by omega
    have hkyi : (k : Int) < y.next.length := by omega
    have i1 := hx.il _ (List.getElem_mem hlt)
    have i2 := hy.il _ (List.getElem_mem hky)
    by_cases hf : x.next[k] = y.next[k]
    ·repeat' (first | with_reducible refine And.intro ?_ ?_ | simp only [go_sem,seval, hkd, e1, e2, d1, d2, d3, hkx, hkyi, Rw_at _ _ hlt, Rw_at _ _ hky] | simp (disch := omega) only [wrap64, cell_at, Rw_at] | simp (disch := first | omega | grind) only [heap_ne_, del_ne] | (intro hx_; try simp only [set_none] at hx_) | with_reducible refine rInts_a _ _ i1 i2 _ ?_ | omega)
     all_goals first
      | exact nx_mk (k + 1) ⟨by omega, take_eq_succ hq hlt hky hf⟩ (by omega) (by (try simp only [go_sem,seval]) <;> (try simp (disch := omega) [wrap64]) <;> (try omega)) (Heap.Le.refl _)
      | (exfalso; simp_all; done)
    ·rw [eqY_false (fun e => hf (by simp [e.2.2]))] at h
     repeat' (first | with_reducible refine And.intro ?_ ?_ | simp only [go_sem,seval, hkd, e1, e2, d1, d2, d3, hkx, hkyi, Rw_at _ _ hlt, Rw_at _ _ hky] | simp (disch := omega) only [wrap64, cell_at, Rw_at] | simp (disch := first | omega | grind) only [heap_ne_, del_ne] | (intro hx_; try simp only [set_none] at hx_) | with_reducible refine rInts_a _ _ i1 i2 _ ?_ | omega)
     all_goals first
      | exact Fin.less hle h
      | (exfalso; simp_all; done)
   ·have hkd : decide ((k : Int) < x.next.length) = false := decide_eq_false (by omega)
    rw [List.take_of_length_le (by omega), List.take_of_length_le (by omega)] at hq
    rw [eqY_true ⟨hse, hp, hq⟩] at h
    repeat' (first | with_reducible refine And.intro ?_ ?_ | simp only [go_sem,seval, hkd] | simp (disch := omega) only [wrap64, cell_at, Rw_at] | simp (disch := first | omega | grind) only [heap_ne_, del_ne] | (intro hx_; try simp only [set_none] at hx_) | omega)
    exact Fin.less hle h
end Go.Proofs.YtmohcdihdhggoaaGreatDoor
end
section
set_option maxRecDepth 20000
namespace Go.Proofs.YtmohcdihdhggoaaGreatDoor
open Go Go.Av Go.Lexs Go.Bis
attribute [local irreducible] ACalls at8
theorem aw_alikeV {Q} (H : Heap) (hT : Tabs H) (h : Q (.tuple [.bool true, .int .i64 0]) H) : ACalls Tryz.prog 14 [.agg (syC aY), .agg (syC bY)] H Q :=
 bAlike_a aY bY aY_fit bY_fit H hT (by unfold alikeR; rw [aY_valid, bY_valid, alike_ab]; exact h)
theorem aw_alikeU {Q} (H : Heap) (hT : Tabs H) (h : Q (.tuple [.bool false, .int .i64 0]) H) : ACalls Tryz.prog 14 [.agg (syC cY), .agg (syC aY)] H Q :=
 bAlike_a cY aY cY_fit aY_fit H hT (by unfold alikeR; rw [aY_valid, cY_valid, alike_cd]; exact h)
theorem aw_classes {Q} (H : Heap) (hT : Tabs H) (h : Q (.tuple [.sl 1 (Rw intC [0, 1]), .sl 1 (Rw intC [0, 0, 1]), .int .i64 0]) H) : ACalls Tryz.prog 12 [.agg (syC aY), .agg (syC bY)] H Q :=
 bClasses_a aY bY aY_fit bY_fit H hT (by rw [aY_valid, bY_valid, clA_ab, clB_ab]; exact h)
theorem aw_satC {Q} (H : Heap) (h : Q (.tuple [.bool true, .int .i64 0]) H) : ACalls Tryz.prog 23 [.agg (syC cY), .int .i64 0, .agg (moC mY)] H Q :=
 bSat_a cY cY_fit 0 mY mY_fit (by rw [mY_cnt]; omega) H (by
  unfold satR; rw [cY_valid, mY_valid, Bool.and_true, if_pos rfl, if_pos ⟨by omega, by decide +kernel⟩]
  rw [show (0 : Int).toNat = 0 from rfl, sat_c]; exact h)
theorem aw_satA {Q} (H : Heap) (h : Q (.tuple [.bool false, .int .i64 0]) H) : ACalls Tryz.prog 23 [.agg (syC aY), .int .i64 0, .agg (moC mY)] H Q :=
 bSat_a aY aY_fit 0 mY mY_fit (by rw [mY_cnt]; omega) H (by
  unfold satR; rw [aY_valid, mY_valid, Bool.and_true, if_pos rfl, if_pos ⟨by omega, by decide +kernel⟩]
  rw [show (0 : Int).toNat = 0 from rfl, sat_d]; exact h)
theorem aw_small {Q} (H : Heap) (hT : Tabs H) (h : Q (.tuple [.agg (syC aY), .int .i64 0]) H) : ACalls Tryz.prog 24 [.agg (syC bY)] H Q :=
 bSmall_a bY bY_fit (fun _ => by decide) H hT (by unfold smallR; rw [bY_valid, if_pos rfl, small_B]; exact h)
theorem aw_same {Q} (H : Heap) (h : Q (.bool true) H) : ACalls Tryz.prog 26 [.agg (syC aY), .agg (syC aY)] H Q :=
 rSameY_a aY aY aY_fit aY_fit H (by rw [eqY_iff.2 rfl]; exact h)
theorem aw_validA {Q} (H : Heap) (h : Q (.bool true) H) : ACalls Tryz.prog 17 [.agg (syC aY)] H Q := bvalid_a aY aY_fit H (by rw [aY_valid]; exact h)
theorem aw_ints2 {Q} (H : Heap) (h : Q (.bool true) H) : ACalls Tryz.prog 16 [.sl 1 (Rw intC [0, 1]), .sl 1 (Rw intC [0, 1])] H Q := rInts_a [0, 1] [0, 1] (by decide) (by decide) H h
theorem aw_ints3 {Q} (H : Heap) (h : Q (.bool true) H) : ACalls Tryz.prog 16 [.sl 1 (Rw intC [0, 0, 1]), .sl 1 (Rw intC [0, 0, 1])] H Q := rInts_a [0, 0, 1] [0, 0, 1] (by decide) (by decide) H h
set_option maxHeartbeats 4000000 in
theorem awake_a {Q} (H : Heap) (hT : Tabs H) (h : Q (.bool true) H) : ACalls Tryz.prog 11 [] H Q := by
 refine acalls_of_wp [] Tryz.mixed Tryz.func11 rfl (by kernel_rfl) (of_decide_eq_true (by kernel_rfl)) (by kernel_rfl) ?_
 simp only [go_sem,seval, Tryz.results11]
 repeat' (first | with_reducible refine And.intro ?_ ?_ | simp only [go_sem,seval] | simp (disch := omega) only [wrap64, cell_at] | simp (disch := first | omega | grind) only [heap_ne_, del_ne] | (intro hx_; try simp only [set_none] at hx_) | omega)
 rename_i x1 hx1 x2 hx2 x3
 have hx3 := hx_
 clear hx_
 refine seenV_a [0, 1] [1] 1 rfl (by omega) (by decide) _ x1 x2 x3 hx1 hx2 hx3 ?_
 repeat' (first | with_reducible refine And.intro ?_ ?_ | simp only [go_sem,seval] | simp (disch := omega) only [wrap64, cell_at] | simp (disch := first | omega | grind) only [heap_ne_, del_ne] | (intro hx_; try simp only [set_none] at hx_) | omega)
 rename_i y1 hy1 y2 hy2 y4 hy4 y3
 have hy3 := hx_
 clear hx_
 refine seenW_a [0, 0, 1] [1] [2] rfl (by decide) (by decide) _ y1 y2 y4 y3 hy1 hy2 hy4 hy3 ?_
 repeat' (first | with_reducible refine And.intro ?_ ?_ | simp only [go_sem,seval] | simp (disch := omega) only [wrap64, cell_at] | simp (disch := first | omega | grind) only [heap_ne_, del_ne] | (intro hx_; try simp only [set_none] at hx_) | omega)
 rename_i a ha b hb p1 hp1 p2 hp2 p3
 have hp3 := hx_
 clear hx_
 obtain ⟨Bs, hBs⟩ : ∃ Bs, Bs = (((H.set a (.box [.nilsl, .nilsl, .nilsl])).set b (.box [.nilsl, .nilsl, .nilsl])).set a (.box (syC aY))).set b (.box (syC bY)) := ⟨_, rfl⟩
 have ra : Bs a = some (.box (syC aY)) := by rw [hBs]; simp only [Heap.set]; grind
 have rb : Bs b = some (.box (syC bY)) := by rw [hBs]; exact heap_same _ _
 have rK : ∀ q o, H q = some o → Bs q = some o := fun q o hq => by rw [hBs]; simp only [Heap.set]; grind
 have q1 : Bs p1 = none := by rw [hBs]; simp only [Heap.set]; grind
 have q2 : p2 ≠ p1 ∧ Bs p2 = none := by rw [hBs]; simp only [Heap.set]; grind
 have q3 : p3 ≠ p2 ∧ p3 ≠ p1 ∧ Bs p3 = none := by rw [hBs]; simp only [Heap.set]; grind
 change ACalls _ _ _ (((((((H.set a (.box [.nilsl, .nilsl, .nilsl])).set b (.box [.nilsl, .nilsl, .nilsl])).set a (.box (syC aY))).set b (.box (syC bY))).set p1 _).set p2 _).set p3 _) _
 rw [← hBs]
 clear hBs hp1 hp2 hp3
 have ha' : H a = none := ha
 have hb' : H b = none := hb.2
 clear ha hb
 refine seenV_a [0, 1, 2] [1, 2] 2 rfl (by omega) (by decide) Bs p1 p2 p3 q1 q2 q3 ?_
 clear q1 q2 q3
 repeat' (first | with_reducible refine And.intro ?_ ?_ | simp only [go_sem,seval] | simp (disch := omega) only [wrap64, cell_at] | simp (disch := first | omega | grind) only [heap_ne_, del_ne] | (intro hx_; try simp only [set_none] at hx_) | omega)
 rename_i y1 hy1 y2 hy2 y3
 have hy3 := hx_
 clear hx_
 refine seenV_a [0, 1] [1] 1 rfl (by omega) (by decide) _ y1 y2 y3 hy1 hy2 hy3 ?_
 clear hy1 hy2 hy3
 repeat' (first | with_reducible refine And.intro ?_ ?_ | simp only [go_sem,seval, ra, rb] | simp (disch := omega) only [wrap64, cell_at] | simp (disch := first | omega | grind) only [heap_ne_, del_ne] | (intro hx_; try simp only [set_none] at hx_) | omega)
 rename_i c hc d
 have hd := hx_
 clear hx_
 obtain ⟨Cs, hCs⟩ : ∃ Cs, Cs = (((Bs.set c (.box [.nilsl, .nilsl, .nilsl])).set d (.box [.nilsl, .nilsl, .nilsl])).set c (.box (syC cY))).set d (.box (syC aY)) := ⟨_, rfl⟩
 have hc' : Bs c = none := hc
 have hd' : d ≠ c ∧ Bs d = none := by first | exact hd | simpa only [set_none] using hd
 have sc : Cs c = some (.box (syC cY)) := by rw [hCs]; simp only [Heap.set]; grind
 have sd : Cs d = some (.box (syC aY)) := by rw [hCs]; exact heap_same _ _
 have sK : ∀ q o, Bs q = some o → Cs q = some o := fun q o hq => by rw [hCs]; simp only [Heap.set]; grind
 have sa := sK _ _ ra
 have sb := sK _ _ rb
 have hTC : Tabs Cs := hT.le (fun q o hq => sK q o (rK q o hq))
 change ACalls _ _ _ ((((Bs.set c (.box [.nilsl, .nilsl, .nilsl])).set d (.box [.nilsl, .nilsl, .nilsl])).set c (.box (syC cY))).set d (.box (syC aY))) _
 rw [← hCs]
 have sH : ∀ q o, H q = some o → Cs q = some o := fun q o hq => sK q o (rK q o hq)
 clear hCs hc hd hc' hd' sK rK ra rb
 repeat' (first | with_reducible refine And.intro ?_ ?_ | simp only [go_sem,seval, sa, sb, sc, sd] | simp (disch := omega) only [wrap64, cell_at] | simp (disch := first | omega | grind) only [heap_ne_, del_ne] | (intro hx_; try simp only [set_none] at hx_) | with_reducible refine aw_alikeV _ hTC ?_ | with_reducible refine aw_alikeU _ hTC ?_ | with_reducible refine aw_classes _ hTC ?_ | with_reducible refine differU_a _ hTC ?_ | omega)
 rename_i w
 have hw := hx_
 clear hx_
 have n1 : ∀ q o, Cs q = some o → (Cs.set w (.box (moC mY))) q = some o := fun q o hq => by rw [heap_ne _ (fun e => by rw [e, hw] at hq; cases hq)]; exact hq
 have ta := n1 _ _ sa
 have tb := n1 _ _ sb
 have tc := n1 _ _ sc
 have td := n1 _ _ sd
 have tw : (Cs.set w (.box (moC mY))) w = some (.box (moC mY)) := heap_same _ _
 have tH := fun q o h1 => n1 q o (sH q o h1)
 generalize Cs.set w (.box (moC mY)) = Ds at ta tb tc td tw tH ⊢
 have hTD : Tabs Ds := hT.le tH
 clear n1 sa sb sc sd sH hw
 repeat' (first | with_reducible refine And.intro ?_ ?_ | simp only [go_sem,seval, ta, tb, tc, td, tw] | simp (disch := omega) only [wrap64, cell_at] | simp (disch := first | omega | grind) only [heap_ne_, del_ne] | (intro hx_; try simp only [set_none] at hx_) | with_reducible refine aw_satC _ ?_ | with_reducible refine aw_satA _ ?_ | with_reducible refine aw_small _ hTD ?_ | omega)
 rename_i s8 hs8 v hv m8
 have hm8 := hx_
 clear hx_
 refine ACalls.freezeA3 (v := v) (sz := 8) (es := [[.int .i64 1, .int .i64 1, .int .i64 2, .str ⟨#[]⟩, .str ⟨#[]⟩, .nilsl, .nilsl, .nilsl]]) (cs' := [.int .i64 3, .int .i64 0, .int .i64 0, .str ⟨#[]⟩, .str ⟨#[]⟩, .nilsl, .nilsl, .sl 8 [[.int .i64 1, .int .i64 1, .int .i64 2, .str ⟨#[]⟩, .str ⟨#[]⟩, .nilsl, .nilsl, .nilsl]]]) (by rw [heap_ne _ (Ne.symm hm8.1)]; exact heap_same _ _) rfl (fun q d d' h1 h2 => ?_) ?_
 ·match q with
  | 0 => cases h1; cases h2; exact .same _
  | 1 => cases h1; cases h2; exact .same _
  | 2 => cases h1; cases h2; exact .same _
  | 3 => cases h1; cases h2; exact .same _
  | 4 => cases h1; cases h2; exact .same _
  | 5 => cases h1; cases h2; exact .same _
  | 6 => cases h1; cases h2; exact .same _
  | 7 => cases h1; cases h2; exact .all
  | q + 8 => cases h1
 refine ACalls.nilR (args' := [.agg (syC cY), .int .i64 0, .agg (moC mY)]) rfl (fun q d d' h1 h2 => ?_) (aw_satC _ ?_)
 ·match q with
  | 0 => cases h1; cases h2; exact .same _
  | 1 => cases h1; cases h2; exact .same _
  | 2 =>
   cases h1; cases h2
   refine .agg _ _ (by rw [moC_len]; rfl) fun j x y hx hy => ?_
   have e : moC mY = [.int .i64 3, .int .i64 0, .int .i64 0, .str ⟨#[]⟩, .str ⟨#[]⟩, .sl 6 [], .sl 6 [], .sl 8 [[.int .i64 1, .int .i64 1, .int .i64 2, .str ⟨#[]⟩, .str ⟨#[]⟩, .sl 6 [], .sl 6 [], .sl 8 []]]] := by
    rw [moC_eta]; simp only [mY, Mo.kids, Mo.op, Mo.term, Rw, List.map_cons, List.map_nil, moC_eta]; rfl
   rw [e] at hy
   match j with
   | 0 => cases hx; cases hy; exact .same _
   | 1 => cases hx; cases hy; exact .same _
   | 2 => cases hx; cases hy; exact .same _
   | 3 => cases hx; cases hy; exact .same _
   | 4 => cases hx; cases hy; exact .same _
   | 5 => cases hx; cases hy; exact .nil _
   | 6 => cases hx; cases hy; exact .nil _
   | 7 =>
    cases hx; cases hy
    refine .sl _ _ _ rfl (fun i e e' he he' => ?_) (fun i e e' j d d' he he' hd hd' => ?_)
    ·match i with
     | 0 => cases he; cases he'; rfl
     | i + 1 => cases he
    ·match i with
     | 0 =>
      cases he; cases he'
      match j with
      | 0 => cases hd; cases hd'; exact .same _
      | 1 => cases hd; cases hd'; exact .same _
      | 2 => cases hd; cases hd'; exact .same _
      | 3 => cases hd; cases hd'; exact .same _
      | 4 => cases hd; cases hd'; exact .same _
      | 5 => cases hd; cases hd'; exact .nil _
      | 6 => cases hd; cases hd'; exact .nil _
      | 7 => cases hd; cases hd'; exact .nil _
      | j + 8 => cases hd
     | i + 1 => cases he
   | j + 8 => cases hx
  | q + 3 => cases h1
 have hv' : v ≠ s8 ∧ Ds v = none := hv
 have hm' : m8 ≠ s8 ∧ Ds m8 = none := ⟨hm8.2.1, hm8.2.2⟩
 obtain ⟨O, hO⟩ : ∃ O, O = Av.Obj.box [.int .i64 3, .int .i64 0, .int .i64 0, .str ⟨#[]⟩, .str ⟨#[]⟩, .nilsl, .nilsl, .vec v 8 0 1] := ⟨_, rfl⟩
 obtain ⟨V, hV⟩ : ∃ V, V = Av.Obj.vec 8 [[.int .i64 1, .int .i64 1, .int .i64 2, .str ⟨#[]⟩, .str ⟨#[]⟩, .nilsl, .nilsl, .nilsl]] := ⟨_, rfl⟩
 rw [← hO, ← hV]
 have n2 : ∀ q o, Ds q = some o → ((((Ds.set s8 (.box (syC aY))).set v V).set m8 O).del v) q = some o := fun q o hq => by
  rw [del_ne (fun e => by rw [e, hv'.2] at hq; cases hq), heap_ne _ (fun e => by rw [e, hm'.2] at hq; cases hq), heap_ne _ (fun e => by rw [e, hv'.2] at hq; cases hq), heap_ne _ (fun e => by rw [e, hs8] at hq; cases hq)]; exact hq
 have us : ((((Ds.set s8 (.box (syC aY))).set v V).set m8 O).del v) s8 = some (.box (syC aY)) := by
  rw [del_ne (Ne.symm hv'.1), heap_ne _ (Ne.symm hm'.1), heap_ne _ (Ne.symm hv'.1)]; exact heap_same _ _
 have ua := n2 _ _ ta
 have ub := n2 _ _ tb
 have uH := fun q o h1 => n2 q o (tH q o h1)
 generalize ((((Ds.set s8 (.box (syC aY))).set v V).set m8 O).del v) = Es at us ua ub uH ⊢
 have hTE : Tabs Es := hT.le uH
 clear n2 ta tb tc td tw tH hv hv' hm8 hm' hs8 hO hV
 repeat' (first | with_reducible refine And.intro ?_ ?_ | simp only [go_sem,seval, us, ua, ub] | simp (disch := omega) only [wrap64, cell_at] | simp (disch := first | omega | grind) only [heap_ne_, del_ne] | (intro hx_; try simp only [set_none] at hx_) | omega)
 refine differV_a _ hTE ?_
 unfold zM
 repeat' (first | with_reducible refine And.intro ?_ ?_ | simp only [go_sem,seval, us, ua, ub] | simp (disch := omega) only [wrap64, cell_at] | simp (disch := first | omega | grind) only [heap_ne_, del_ne] | (intro hx_; try simp only [set_none] at hx_) | omega)
 rename_i z hz i1
 have hi1 := hx_
 clear hx_
 refine ACalls.vec2 (es := Rw intC [0, 1]) (heap_same _ _) rfl ?_
 rw [set_del (by first | exact hi1 | exact set_none.2 hi1)]
 refine aw_ints2 _ ?_
 clear hi1
 repeat' (first | with_reducible refine And.intro ?_ ?_ | simp only [go_sem,seval, us, ua, ub] | simp (disch := omega) only [wrap64, cell_at] | simp (disch := first | omega | grind) only [heap_ne_, del_ne] | (intro hx_; try simp only [set_none] at hx_) | omega)
 rename_i i2
 have hi2 := hx_
 clear hx_
 refine ACalls.vec2 (es := Rw intC [0, 0, 1]) (heap_same _ _) rfl ?_
 rw [set_del (by first | exact hi2 | exact set_none.2 hi2)]
 refine aw_ints3 _ ?_
 clear hi2
 repeat' (first | with_reducible refine And.intro ?_ ?_ | simp only [go_sem,seval, us, ua, ub] | simp (disch := omega) only [wrap64, cell_at] | simp (disch := first | omega | grind) only [heap_ne_, del_ne] | (intro hx_; try simp only [set_none] at hx_) | with_reducible refine aw_same _ ?_ | with_reducible refine aw_validA _ ?_ | omega)
 refine Fin.less (fun q o hq => ?_) h
 have h1 := uH q o hq
 rw [heap_ne _ (fun e => by rw [e, hz] at h1; cases h1)]; exact h1
end Go.Proofs.YtmohcdihdhggoaaGreatDoor
end
section
set_option maxRecDepth 20000
namespace Go.Bis
open Go Go.Av Go.Lexs
@[go_sem] theorem numE_zero2 (e : Nat → Nat → Bool) : (numE e 0).2 = 0 := rfl
end Go.Bis
namespace Go.Proofs.YtmohcdihdhggoaaGreatDoor
open Go Go.Av Go.Lexs Go.Bis
attribute [local irreducible] ACalls at8
end Go.Proofs.YtmohcdihdhggoaaGreatDoor
end
section
namespace Go.Av
open Go.RowKit Go.ChangeShapes Go.WideShapes
def tileB (P : Program) : Nat → List Field → Option Nat
 | o, [] => some o
 | o, f :: r => if f.offset = o then tileB P (o + P.cellsOf f.type) r else none
def plainT (P : Program) (l : List TypeId) (t : TypeId) : Bool := match P.underlying t with
 | some .bool | some (.int _) | some .string => decide (P.cellsOf t = 1)
 | some (.slice e) => decide (P.cellsOf t = 1) && l.contains e && decide (0 < P.cellsOf e) && decide (0 < P.bytesOf e)
 | some (.struct fs) => decide (tileB P 0 fs.toList = some (P.cellsOf t)) && fs.toList.all (fun f => l.contains f.type)
 | _ => false
def plainB (P : Program) (l : List TypeId) : Bool := l.all (plainT P l)
inductive Fits (P : Program) : TypeId → List D → Prop
 | bool {t : TypeId} (b : Bool) (h : P.underlying t = some .bool) : Fits P t [.bool b]
 | int {t : TypeId} {k : IntKind} (n : Int) (h : P.underlying t = some (.int k)) (hw : (Lit.int k n).wf = true) : Fits P t [.int k n]
 | str {t : TypeId} (s : ByteArray) (h : P.underlying t = some .string) (hs : s.size ≤ reachBytes) : Fits P t [.str s]
 | sl {t e : TypeId} (es : List (List D)) (h : P.underlying t = some (.slice e)) (hl : es.length * P.bytesOf e ≤ reachBytes) (he : ∀ x ∈ es, Fits P e x) : Fits P t [.sl (P.cellsOf e) es]
 | struct {t : TypeId} {fs : Array Field} (ps : List (List D)) (h : P.underlying t = some (.struct fs)) (hl : ps.length = fs.size) (hp : ∀ (i : Nat) (f : Field) (p : List D), fs[i]? = some f → ps[i]? = some p → Fits P f.type p) : Fits P t ps.flatten
section
variable {H : Type} {enc : TypeId × Value → H} {P : Program}
def RowL (w : World) (Hp : Heap) (ds : List D) (cs : List Value) : Prop := ∀ (j : Nat) (d : D), ds[j]? = some d → d.one = true ∧ R w Hp d (cs.getD j Go.undef)
theorem tile_rows {w : World} {Hp : Heap} {cs : List Value} : ∀ (fs : List Field) (o m : Nat) (ps : List (List D)), tileB P o fs = some m → m ≤ cs.length → ps.length = fs.length →
  (∀ (i : Nat) (f : Field) (p : List D), fs[i]? = some f → ps[i]? = some p → p.length = P.cellsOf f.type ∧ RowL w Hp p ((cs.drop f.offset).take (P.cellsOf f.type))) →
  o ≤ m ∧ o + ps.flatten.length = m ∧ ∀ (j : Nat) (d : D), ps.flatten[j]? = some d → d.one = true ∧ R w Hp d (cs.getD (o + j) Go.undef)
 | [], o, m, ps, ht, _, hl, _ => by
  have : ps = [] := List.eq_nil_of_length_eq_zero (by simpa using hl)
  subst this
  simp only [tileB, Option.some.injEq] at ht
  subst ht
  exact ⟨Nat.le_refl _, by simp, fun j d hd => by simp at hd⟩
 | f :: r, o, m, ps, ht, hm, hl, hp => by
  cases ps with
  | nil => simp at hl
  | cons p ps =>
   unfold tileB at ht
   split at ht
   ·rename_i ho
    obtain ⟨hpl, hpr⟩ := hp 0 f p rfl rfl
    obtain ⟨h1, h2, h3⟩ := tile_rows r (o + P.cellsOf f.type) m ps ht hm (by simpa using hl) (fun i f' p' hf hp' => hp (i + 1) f' p' (by simpa using hf) (by simpa using hp'))
    refine ⟨by omega, by rw [List.flatten_cons, List.length_append, hpl]; omega, fun j d hd => ?_⟩
    rw [List.flatten_cons, List.getElem?_append] at hd
    split at hd
    ·rename_i hj
     obtain ⟨k1, k2⟩ := hpr j d hd
     refine ⟨k1, ?_⟩
     have e : ((cs.drop f.offset).take (P.cellsOf f.type)).getD j Go.undef = cs.getD (o + j) Go.undef := by
      rw [List.getD_eq_getElem?_getD, List.getD_eq_getElem?_getD, List.getElem?_take_of_lt (by omega), List.getElem?_drop, ho]
     rw [← e]; exact k2
    ·rename_i hj
     have := h3 (j - p.length) d hd
     have e : o + P.cellsOf f.type + (j - p.length) = o + j := by omega
     rw [e] at this
     exact this
   ·cases ht
theorem weightsAll_mem {e : TypeId} {n : Nat} : ∀ {l : List (DataW H)}, (DataW.weightsAll P e l).all (· ≤ n) = true → ∀ d ∈ l, (d.weights P e).all (· ≤ n) = true
 | [], _, d, hd => by cases hd
 | x :: l, h, d, hd => by
  rw [DataW.weightsAll, List.all_append, Bool.and_eq_true] at h
  rcases List.mem_cons.1 hd with rfl | hd
  ·exact h.1
  ·exact weightsAll_mem h.2 d hd
theorem weightsEach_at {n : Nat} : ∀ {ts : List TypeId} {l : List (DataW H)}, (DataW.weightsEach P ts l).all (· ≤ n) = true → ∀ (i : Nat) t d, ts[i]? = some t → l[i]? = some d → (d.weights P t).all (· ≤ n) = true
 | [], _, _, i, t, d, ht, _ => by simp at ht
 | _ :: _, [], _, i, t, d, _, hd => by simp at hd
 | t0 :: ts, d0 :: l, h, i, t, d, ht, hd => by
  rw [DataW.weightsEach, List.all_append, Bool.and_eq_true] at h
  cases i with
  | zero => simp at ht hd; subst ht; subst hd; exact h.1
  | succ i => exact weightsEach_at h.2 i t d (by simpa using ht) (by simpa using hd)
theorem add_off' {a : Addr} (hs : a.spot = none) (n : Nat) : a.add n = ⟨a.block, a.off + n, none⟩ := by
 obtain ⟨b, o, s⟩ := a
 simp only at hs
 subst hs
 unfold Addr.add
 split
 ·rename_i h; subst h; rfl
 ·rfl
theorem fits_of_trod {l : List TypeId} (hB : plainB P l = true) {w : World} {base : Nat} {sp : Nat → Bool} {hd : Bool} {Hp : Heap} (hH : ∀ b, Hp.held b = false) :
  ∀ (n : Nat) (t : TypeId) (cs : List Value) (x : DataW H × List MemPlace), t ∈ l → DataW.trod enc P w base sp hd n t cs = some x → (x.1.weights P t).all (· ≤ reachBytes) = true →
   cs.length = P.cellsOf t ∧ ∃ ds, Fits P t ds ∧ ds.length = cs.length ∧ RowL w Hp ds cs := by
 intro n
 induction n with
 | zero => intro t cs x _ h; simp [DataW.trod] at h
 | succ n ih =>
  intro t cs x ht h hw
  have hpt : plainT P l t = true := List.all_eq_true.1 hB t ht
  unfold plainT at hpt
  have one : ∀ {d : D} {v : Value}, d.one = true → R w Hp d v → RowL w Hp [d] [v] := fun h1 h2 j d' hd' => by
   cases j with
   | zero => simp at hd'; subst hd'; exact ⟨h1, h2⟩
   | succ j => simp at hd'
  cases hu : P.underlying t with
  | none => rw [hu] at hpt; cases hpt
  | some u =>
   cases u with
   | bool =>
    rw [hu] at hpt
    obtain ⟨b, rfl, rfl⟩ := DataW.trod_bool hu h
    exact ⟨(of_decide_eq_true hpt).symm, _, .bool b hu, rfl, one rfl (.bool b)⟩
   | int k =>
    rw [hu] at hpt
    obtain ⟨m, rfl, rfl, hwf⟩ := DataW.trod_int hu h
    exact ⟨(of_decide_eq_true hpt).symm, _, .int m hu hwf, rfl, one rfl (.int k m)⟩
   | string =>
    rw [hu] at hpt
    obtain ⟨s, rfl, rfl, _⟩ := DataW.trod_string hu h
    have hsz : s.size ≤ reachBytes := by simpa [DataW.weights] using hw
    exact ⟨(of_decide_eq_true hpt).symm, _, .str s hu hsz, rfl, one rfl (.str s)⟩
   | slice e =>
    rw [hu] at hpt
    simp only [Bool.and_eq_true, decide_eq_true_eq] at hpt
    obtain ⟨⟨⟨hc1, hel⟩, hce⟩, hbe⟩ := hpt
    have hel : e ∈ l := by simpa using hel
    rcases DataW.trod_slice hu h with ⟨rfl, rfl⟩ | ⟨a, len, cap, elems, rest, m, hm, rfl, rfl, hb, hlc, hmx, hlen, hat, _, _⟩
    ·exact ⟨hc1.symm, _, .sl [] hu (by simp) (by simp), rfl, one rfl (.sl0 _ _ _)⟩
    ·cases hm
     have hw2 : (elems.length + rest.length) * P.bytesOf e ≤ reachBytes ∧ (DataW.weightsAll P e (elems.map (·.1))).all (· ≤ reachBytes) = true := by
      rw [DataW.weights, hu] at hw
      simp only [List.all_cons, List.all_append, Bool.and_eq_true, decide_eq_true_eq, List.length_map] at hw
      exact ⟨hw.1, hw.2.1⟩
     have hex : ∀ i, ∃ p : List D × List Value, i < len → Fits P e p.1 ∧ p.1.length = P.cellsOf e ∧ RowL w Hp p.1 p.2 ∧ ∀ j, j < P.cellsOf e → w.cell? ((a.add (i * P.cellsOf e)).add j) = some (p.2.getD j Go.undef) := by
      intro i
      by_cases hi : i < len
      ·have hy := hat i hi
       have hie : i < elems.length := by omega
       rw [List.getElem?_eq_getElem hie, Option.bind_eq_some_iff] at hy
       obtain ⟨ci, hci, hti⟩ := hy
       obtain ⟨_, hcl, hcg⟩ := World.cells?_some hci
       obtain ⟨k1, ds, k2, k3, k4⟩ := ih e ci elems[i] hel hti (weightsAll_mem hw2.2 _ (List.mem_map.2 ⟨_, List.getElem_mem hie, rfl⟩))
       refine ⟨(ds, ci), fun _ => ⟨k2, by rw [k3]; exact k1, k4, fun j hj => ?_⟩⟩
       rw [hcg j hj, List.getD_eq_getElem?_getD, List.getElem?_eq_getElem (by rw [hcl]; exact hj)]
       rfl
      ·exact ⟨([], []), fun h => absurd h hi⟩
     obtain ⟨g, hg⟩ := Classical.skolem.1 hex
     have hes : ∀ (i : Nat) (x : List D), ((List.range len).map fun i => (g i).1)[i]? = some x → i < len ∧ x = (g i).1 := fun i x hx => by
      simp only [List.getElem?_map, Option.map_eq_some_iff] at hx
      obtain ⟨y, hy, rfl⟩ := hx
      have hi := (List.getElem?_eq_some_iff.1 hy).1
      simp at hi
      rw [List.getElem?_range hi] at hy
      cases hy
      exact ⟨hi, rfl⟩
     have hl2 : ((List.range len).map fun i => (g i).1).length = len := by simp
     refine ⟨hc1.symm, _, .sl ((List.range len).map fun i => (g i).1) hu ?_ ?_, rfl, one rfl ?_⟩
     ·rw [hl2]
      refine Nat.le_trans (Nat.mul_le_mul_right _ ?_) hw2.1
      omega
     ·intro x hx
      obtain ⟨i, hi⟩ := List.mem_iff_getElem?.1 hx
      obtain ⟨hi', rfl⟩ := hes i x hi
      exact (hg i hi').1
     ·show R w Hp (.sl (P.cellsOf e) ((List.range len).map fun i => (g i).1)) (.slice (some a) len cap)
      by_cases hz : len = 0
      ·subst hz; exact .sl0 _ _ _
      ·have h00 := (hg 0 (by omega)).2.2.2 0 hce
       rw [Nat.zero_mul] at h00
       have hspot : a.spot = none := by
        have e0 : (a.add 0).add 0 = a := rfl
        rw [e0] at h00
        unfold World.cell? at h00
        split at h00
        ·split at h00
         ·cases h00
         ·rename_i hns
          cases hsp : a.spot with
          | none => rfl
          | some _ => rw [hsp] at hns; exact absurd rfl hns
        ·cases h00
       have hblk : a.block < w.heap.size := by
        have e0 : (a.add 0).add 0 = a := rfl
        rw [e0] at h00
        unfold World.cell? at h00
        by_cases hlt : a.block < w.heap.size
        ·exact hlt
        ·rw [Array.getElem?_eq_none (by omega)] at h00; cases h00
       have hcell : ∀ i j, i < len → j < P.cellsOf e → w.cell? ⟨a.block, a.off + i * P.cellsOf e + j, none⟩ = some ((g i).2.getD j Go.undef) := fun i j hi hj => by
        have := (hg i hi).2.2.2 j hj
        rw [add_off' hspot, add_off' rfl] at this
        exact this
       have hR := R.sl (w := w) (H := Hp) (P.cellsOf e) ((List.range len).map fun i => (g i).1) a.block a.off cap (fun i j => (g i).2.getD j Go.undef) hblk (hH _)
        (fun i x hx => by obtain ⟨hi, rfl⟩ := hes i x hx; exact (hg i hi).2.1) (by rw [hl2]; exact hlc) (fun i j hi hj => hcell i j (by rw [hl2] at hi; exact hi) hj)
        (fun i x j d hx hd' => by obtain ⟨hi, rfl⟩ := hes i x hx; exact ((hg i hi).2.2.1 j d hd').1) (fun i x j d hx hd' => by obtain ⟨hi, rfl⟩ := hes i x hx; exact ((hg i hi).2.2.1 j d hd').2)
       rw [hl2] at hR
       obtain ⟨ab, ao, as_⟩ := a
       simp only at hspot
       subst hspot
       exact hR
   | struct fs =>
    rw [hu] at hpt
    simp only [Bool.and_eq_true, decide_eq_true_eq, List.all_eq_true] at hpt
    obtain ⟨htile, hall⟩ := hpt
    obtain ⟨xs, m, hm, rfl, hcl, hxl, hat⟩ := DataW.trod_struct hu h
    cases hm
    have hwe : (DataW.weightsEach P (fs.toList.map (·.type)) (xs.map (·.1))).all (· ≤ reachBytes) = true := by
     rw [DataW.weights, hu] at hw; exact hw
    have hex : ∀ i : Nat, ∃ p : List D, ∀ f : Field, fs[i]? = some f → Fits P f.type p ∧ p.length = P.cellsOf f.type ∧ RowL w Hp p ((cs.drop f.offset).take (P.cellsOf f.type)) := by
     intro i
     cases hf : fs[i]? with
     | none => exact ⟨[], fun f h => by cases h⟩
     | some f =>
      have hi := (Array.getElem?_eq_some_iff.1 hf).1
      have hxi : i < xs.length := by omega
      have hy := hat i f hf
      rw [List.getElem?_eq_getElem hxi] at hy
      have hfl : f.type ∈ l := by
       have := hall f (by rw [Array.mem_toList_iff]; exact Array.mem_of_getElem? hf)
       simpa using this
      have hwi := weightsEach_at hwe i f.type xs[i].1 (by simp [hf]) (by simp [List.getElem?_eq_getElem hxi])
      obtain ⟨k1, ds, k2, k3, k4⟩ := ih f.type _ xs[i] hfl hy hwi
      refine ⟨ds, fun f' hf' => ?_⟩
      cases hf'
      exact ⟨k2, by rw [k3]; exact k1, k4⟩
    obtain ⟨g, hg⟩ := Classical.skolem.1 hex
    have hpl : ((List.range fs.size).map g).length = fs.size := by simp
    have hpg : ∀ (i : Nat) (f : Field) (p : List D), fs[i]? = some f → ((List.range fs.size).map g)[i]? = some p → p = g i := fun i f p hf hp => by
     have hi := (Array.getElem?_eq_some_iff.1 hf).1
     rw [List.getElem?_map, List.getElem?_range hi] at hp
     cases hp; rfl
    obtain ⟨_, hlen, hrow⟩ := tile_rows (P := P) (w := w) (Hp := Hp) (cs := cs) fs.toList 0 (P.cellsOf t) ((List.range fs.size).map g) htile (by omega) (by simp) (fun i f p hf hp => by
     have hf' : fs[i]? = some f := by simpa using hf
     have := hpg i f p hf' hp
     subst this
     exact ⟨(hg i f hf').2.1, (hg i f hf').2.2⟩)
    refine ⟨hcl, _, .struct ((List.range fs.size).map g) hu hpl (fun i f p hf hp => by have := hpg i f p hf hp; subst this; exact (hg i f hf).1), by omega, fun j d hd => ?_⟩
    have := hrow j d hd
    rwa [Nat.zero_add] at this
   | _ => rw [hu] at hpt; cases hpt
def FitsV (P : Program) (t : TypeId) (x : D) : Prop := match P.underlying t with
 | some (.struct _) => ∃ ds, x = .agg ds ∧ Fits P t ds
 | _ => Fits P t [x]
theorem arg_fits {l : List TypeId} (hB : plainB P l = true) {w : World} {base b0 : Nat} {sp : Nat → Bool} {hd : Bool} {Hp : Heap} (hH : ∀ b, Hp.held b = false) {t : TypeId} {v : Value} {d : DataW H} {ps : List MemPlace} (ht : t ∈ l)
  (hval : Value.okWide P w .any b0 t v) (h : DataW.Trod enc P w base sp hd t v d ps) (hw : (d.weights P t).all (· ≤ reachBytes) = true) : ∃ x, FitsV P t x ∧ R w Hp x v := by
 obtain ⟨n, hn⟩ := h
 obtain ⟨h1, ds, h2, h3, h4⟩ := fits_of_trod hB hH n t v.cells.toList (d, ps) ht hn hw
 have hpt : plainT P l t = true := List.all_eq_true.1 hB t ht
 have leaf : (∀ fs, P.underlying t ≠ some (.struct fs)) → v.cells.toList = [v] → ∃ x, FitsV P t x ∧ R w Hp x v := by
  intro hns hv
  rw [hv] at h3 h4
  match ds, h3 with
  | [x], _ =>
   refine ⟨x, ?_, (h4 0 x rfl).2⟩
   unfold FitsV
   split
   ·rename_i fs hfs; exact absurd hfs (hns fs)
   ·exact h2
 cases hu : P.underlying t with
 | none => unfold plainT at hpt; rw [hu] at hpt; cases hpt
 | some u =>
  cases u with
  | bool => obtain ⟨b, rfl⟩ := okWide_bool hu hval; exact leaf (by simp [hu]) rfl
  | int k => obtain ⟨m, rfl⟩ := okWide_int hu hval; exact leaf (by simp [hu]) rfl
  | string => obtain ⟨s, rfl⟩ := okWide_string hu hval; exact leaf (by simp [hu]) rfl
  | slice e => obtain ⟨a, len, cap, rfl⟩ := okWide_slice hu hval; exact leaf (by simp [hu]) rfl
  | struct fs =>
   simp only [Value.okWide, hu] at hval
   obtain ⟨cs, rfl, hsz, _⟩ := hval
   refine ⟨.agg ds, ?_, .agg _ _ (by rw [h3]; rfl) (fun i d hd => (h4 i d hd).1) (fun i d hd => ?_)⟩
   ·unfold FitsV; rw [hu]; exact ⟨ds, rfl, h2⟩
   ·have := (h4 i d hd).2
    have e : (Value.agg cs).cells.toList.getD i Go.undef = cs.getD i Go.undef := by
     show cs.toList.getD i Go.undef = _
     simp
    rwa [e] at this
  | _ => unfold plainT at hpt; rw [hu] at hpt; cases hpt
theorem fits_str {t : TypeId} {ds : List D} (hu : P.underlying t = some .string) (h : Fits P t ds) : ∃ s, ds = [.str s] ∧ s.size ≤ reachBytes := by
 cases h with
 | str s h hs => exact ⟨s, rfl, hs⟩
 | bool b h => rw [hu] at h; cases h
 | int n h => rw [hu] at h; cases h
 | sl es h => rw [hu] at h; cases h
 | struct ps h => rw [hu] at h; cases h
theorem fits_bool {t : TypeId} {ds : List D} (hu : P.underlying t = some .bool) (h : Fits P t ds) : ∃ b, ds = [.bool b] := by
 cases h with
 | bool b h => exact ⟨b, rfl⟩
 | str s h hs => rw [hu] at h; cases h
 | int n h => rw [hu] at h; cases h
 | sl es h => rw [hu] at h; cases h
 | struct ps h => rw [hu] at h; cases h
theorem fits_int {t : TypeId} {k : IntKind} {ds : List D} (hu : P.underlying t = some (.int k)) (h : Fits P t ds) : ∃ n, ds = [.int k n] ∧ (Lit.int k n).wf = true := by
 cases h with
 | int n h hw => rw [hu] at h; cases h; exact ⟨n, rfl, hw⟩
 | bool b h => rw [hu] at h; cases h
 | str s h hs => rw [hu] at h; cases h
 | sl es h => rw [hu] at h; cases h
 | struct ps h => rw [hu] at h; cases h
theorem fits_sl {t e : TypeId} {ds : List D} (hu : P.underlying t = some (.slice e)) (h : Fits P t ds) : ∃ es, ds = [.sl (P.cellsOf e) es] ∧ es.length * P.bytesOf e ≤ reachBytes ∧ ∀ x ∈ es, Fits P e x := by
 cases h with
 | sl es h hl he => rw [hu] at h; cases h; exact ⟨es, rfl, hl, he⟩
 | bool b h => rw [hu] at h; cases h
 | str s h hs => rw [hu] at h; cases h
 | int n h => rw [hu] at h; cases h
 | struct ps h => rw [hu] at h; cases h
theorem fits_struct {t : TypeId} {fs : Array Field} {ds : List D} (hu : P.underlying t = some (.struct fs)) (h : Fits P t ds) : ∃ ps : List (List D), ds = ps.flatten ∧ ps.length = fs.size ∧ ∀ (i : Nat) (f : Field) (p : List D), fs[i]? = some f → ps[i]? = some p → Fits P f.type p := by
 cases h with
 | struct ps h hl hp => rw [hu] at h; cases h; exact ⟨ps, rfl, hl, hp⟩
 | bool b h => rw [hu] at h; cases h
 | str s h hs => rw [hu] at h; cases h
 | int n h => rw [hu] at h; cases h
 | sl es h => rw [hu] at h; cases h
theorem fitsV_struct {t : TypeId} {fs : Array Field} {x : D} (hu : P.underlying t = some (.struct fs)) (h : FitsV P t x) : ∃ ds, x = .agg ds ∧ Fits P t ds := by
 unfold FitsV at h
 rw [hu] at h
 exact h
theorem wf_i64 {n : Int} (h : (Lit.int .i64 n).wf = true) : -9223372036854775808 ≤ n ∧ n ≤ 9223372036854775807 := by
 unfold Lit.wf at h
 rw [Bool.and_eq_true, decide_eq_true_eq, decide_eq_true_eq] at h
 exact h
theorem belowTrodAll (hl : laidOutB P = true) {W W' : World} (hb : Below W.heap.size W W') : ∀ {ts : List TypeId} {vs : List Value} {ds : List (DataW H)} {ps : List MemPlace}, ts.all (fun t => P.readableRec t && decide (t < P.types.size)) = true →
  DataW.TrodAll enc P W 0 (fun _ => true) true ts vs ds ps → (∀ x ∈ ps, x.block < W.heap.size) → DataW.TrodAll enc P W' 0 (fun b => decide (b < W.heap.size)) true ts vs ds ps
 | [], [], [], _, _, h, _ => h
 | [], [], _ :: _, _, _, h, _ => h.elim
 | [], _ :: _, _, _, _, h, _ => h.elim
 | _ :: _, [], _, _, _, h, _ => h.elim
 | _ :: _, _ :: _, [], _, _, h, _ => h.elim
 | t :: ts, v :: vs, d :: ds, ps, ht, h, hlt => by
  obtain ⟨p, q, h1, h2, rfl⟩ := h
  simp only [List.all_cons, Bool.and_eq_true, decide_eq_true_eq] at ht
  exact ⟨p, q, Below.trod hl ht.1.1 ht.1.2 h1 hb (fun x hx => hlt x (List.mem_append_left _ hx)), belowTrodAll hl hb ht.2 h2 (fun x hx => hlt x (List.mem_append_right _ hx)), rfl⟩
theorem laid_at {P : Program} {w : World} : ∀ {l : List (String × DataW Unit)} {ps : List MemPlace}, DataW.LaidVars P w l ps → ∀ n d, (n, d) ∈ l →
  ∃ g t cs fuel p, P.globalNamed n = some g ∧ (P.globals[g]?).map (·.type) = some t ∧ w.var? P n = some cs ∧ DataW.trod (fun _ => ()) P w 0 (fun _ => true) false fuel t cs.toList = some (d, p)
 | [], _, _, n, d, h => by cases h
 | (n0, d0) :: r, ps, h, n, d, hm => by
  obtain ⟨g, t, cs, fuel, p, q, h1, h2, h3, h4, h5, _⟩ := h
  rcases List.mem_cons.1 hm with e | hm
  ·cases e; exact ⟨g, t, cs, fuel, p, h1, h2, h3, h4⟩
  ·exact laid_at h5 n d hm
theorem tab_obj {P : Program} {W : World} {laid : List (String × DataW Unit)} (h : laidMet P laid W) {name : String} {k : IntKind} {zs : List Int} (hm : (name, Lib.tabData k zs) ∈ laid) {g : Nat} {t e : TypeId} {n : Nat}
  (hg : P.globalNamed name = some g) (hty : (P.globals[g]?).map (·.type) = some t) (ht : P.underlying t = some (.array n e)) (he : P.underlying e = some (.int k)) (hce : P.cellsOf e = 1) (hct : P.cellsOf t = n) (Hp : Heap) : ObjOk W Hp g (.ro (tabD k zs)) := by
 obtain ⟨ps, hl, _⟩ := h
 obtain ⟨g', t', cs, fuel, p, hg', ht', hvar, hd⟩ := laid_at hl _ _ hm
 obtain rfl := Option.some.inj (hg.symm.trans hg')
 obtain rfl := Option.some.inj (hty.symm.trans ht')
 have hcs := Lib.cells_of_tab ht he hce hct hd
 unfold World.var? at hvar
 rw [hg] at hvar
 simp only [Option.bind_some] at hvar
 split at hvar
 ·rename_i c T fz hw
  cases hvar
  refine ⟨cs, T, fz, hw, by rw [← Array.length_toList, hcs]; simp [tabD], fun j d hd => ?_⟩
  simp only [tabD, List.getElem?_map, Option.map_eq_some_iff] at hd
  obtain ⟨z, hz, rfl⟩ := hd
  have e : cs.getD j Go.undef = .int k z := by
   rw [show cs.getD j Go.undef = cs.toList.getD j Go.undef by simp, hcs]
   simp [hz]
  rw [e]
  exact ⟨rfl, .int _ _⟩
 ·cases hvar
end
end Go.Av
end
