/- BisimFormulas, proved: for every input the law returns true, and the arguments read as before; the listed tables hold what the program's text lays (the card). No other condition than the row's own. -/
import Derived.Test.YtmohcdihdhggoaaGreatDoorRows
import Derived.Test.YtmohcdihdhggoaaGreatDoorCards
import Derived.Test.YtmohcdihdhggoaaGreatDoorTie
import Derived.Test.YtmohcdihdhggoaaGreatDoorK6
set_option linter.unusedSimpArgs false
set_option linter.unusedVariables false
section
namespace Go.Av
section
variable {P : Program} {Z : List (Nat × Rc)} {Q : AX → Env → Heap → Prop} {E : Env} {H : Heap} {K : Env → Heap → Prop} {gs : List (Option Nat)} {l : List Oper} {KD : D → Heap → Prop} {ev : Operand → D} {bl : List Nat}
theorem rg_mk {gs : List (Option Nat)} {ops : List Oper} (bl : List Nat) (h : ∀ k ∈ bl, H k ≠ none) (h2 : wpOpsF P bl gs K ops E H) : raceK P gs ops K E H (some .rg) := ⟨bl, h, h2⟩
attribute [go_sem low] condA_bool
attribute [go_sem low] guardK_bool
attribute [go_sem low] guardF_bool
@[go_sem high] theorem guardF_ff (dst : Option Nat) (op : Op) (s : Nat) : guardF P bl gs K l dst op s (.bool false) false E H = wpOpF P bl (Env.ev ((s, .bool false) :: E)) H (opFK P bl gs K l dst ((s, .bool false) :: E)) op := by rw [guardF_bool]; simp
@[go_sem high] theorem guardF_tf (dst : Option Nat) (op : Op) (s : Nat) : guardF P bl gs K l dst op s (.bool true) false E H = wpOpsF P bl gs K l (Env.put ((s, .bool true) :: E) dst (.tuple [])) H := by rw [guardF_bool]; simp
def roH (H : Heap) : Heap := fun k => match H k with
 | some (.ro cs) => some (.ro cs)
 | _ => none
theorem roH_le (H : Heap) : (roH H).Le H := fun k o h => by
 unfold roH at h
 split at h
 ·rename_i cs e; cases h; exact e
 ·cases h
theorem roH_held (H : Heap) (k : Nat) : (roH H).held k = false := by
 cases h : roH H k with
 | none => exact held_none h
 | some o =>
  have h2 := h
  unfold roH at h2
  split at h2
  ·cases h2; rw [held_of h]; rfl
  ·cases h2
theorem sub_ro (H : Heap) : H.sub (roH H) = H := by
 funext k; unfold Heap.sub; rw [roH_held]; simp
def oneB (H : Heap) (b : Nat) : Heap := fun k => if k = b then H k else roH H k
theorem oneB_le (H : Heap) (b : Nat) : (oneB H b).Le H := fun k x e => by
 unfold oneB at e
 split at e
 ·exact e
 ·exact roH_le H k x e
theorem oneB_at (H : Heap) (b : Nat) : oneB H b b = H b := if_pos rfl
theorem oneB_held {H : Heap} {b k : Nat} (h : k ≠ b) : (oneB H b).held k = false := by
 have : (oneB H b) k = (roH H) k := if_neg h
 rw [held_ne this]; exact roH_held H k
theorem sub_one {H : Heap} {b : Nat} {o : Obj} (hb : H b = some o) (hr : o.rw = true) : H.sub (oneB H b) = H.del b := by
 funext k; unfold Heap.sub Heap.del
 by_cases e : k = b
 ·subst e
  have : (oneB H k).held k = true := by rw [held_ne (oneB_at H k), held_of hb]; exact hr
  rw [if_pos this, if_pos rfl]
 ·rw [oneB_held e, if_neg e]; simp
def callF (P : Program) (bl : List Nat) (f : D) (args : List D) (H : Heap) (K : D → Heap → Prop) : Prop := ∃ Hc : Heap, Hc.Le H ∧ (∀ k ∈ bl, Hc.held k = false) ∧ callA P f args Hc (fun d _ => flatD d = true ∧ K d (H.sub Hc))
theorem callF0 {g : Nat} {args : List D} {c : D} (hc : flatD c = true) (h : ∀ (Q : D → Heap → Prop), Q c (roH H) → ACalls P g args (roH H) Q) (hk : KD c H) : callF P bl (.fn (.func g) [] []) args H KD := by
 refine ⟨roH H, roH_le H, fun k _ => roH_held H k, ?_⟩
 show ACalls P g ([] ++ args ++ []) _ _
 rw [List.nil_append, List.append_nil, sub_ro]; exact h _ ⟨hc, hk⟩
theorem callF1 {g b : Nat} {o : Obj} {args : List D} (hb : H b = some o) (hr : o.rw = true) (hn : b ∉ bl) (h : ACalls P g args (oneB H b) (fun d _ => flatD d = true ∧ KD d (H.del b))) : callF P bl (.fn (.func g) [] []) args H KD := by
 refine ⟨oneB H b, oneB_le H b, fun k hk => oneB_held (fun e => hn (by rw [← e]; exact hk)), ?_⟩
 show ACalls P g ([] ++ args ++ []) _ _
 rw [List.nil_append, List.append_nil, sub_one hb hr]; exact h
variable {sx : Bool} {bl : List Nat}
@[go_sem] theorem f_move (x : Operand) : wpOpF P bl ev H KD (.move x) = wpOp P ev H KD (.move x) := by show (_ = _ ∧ _) = _; simp [cls]
@[go_sem] theorem f_pick (a b c : Operand) : wpOpF P bl ev H KD (.pick a b c) = wpOp P ev H KD (.pick a b c) := by show (_ = _ ∧ _) = _; simp [cls]
@[go_sem] theorem f_bin (op : BinOp) (t : Nat) (x y : Operand) (yt : Nat) : wpOpF P bl ev H KD (.binOp op t x y yt) = wpOp P ev H KD (.binOp op t x y yt) := by show (_ = _ ∧ _) = _; simp [cls]
@[go_sem] theorem f_un (op : UnOp) (t : Nat) (x : Operand) : wpOpF P bl ev H KD (.unOp op t x) = wpOp P ev H KD (.unOp op t x) := by show (_ = _ ∧ _) = _; simp [cls]
@[go_sem] theorem f_fa (t : Nat) (x : Operand) (f : Nat) : wpOpF P bl ev H KD (.fieldAddr t x f) = wpOp P ev H KD (.fieldAddr t x f) := by show (_ = _ ∧ _) = _; simp [cls]
@[go_sem] theorem f_call (f : Operand) (args : List Operand) (ts : Array Nat) : wpOpF P bl ev H KD (.call ⟨.value f, args.toArray, ts⟩) = callF P bl (ev f) (args.map ev) H KD := by
 show (∃ Hc : Heap, _ ∧ _ ∧ wpOp P ev Hc _ _) = _
 unfold callF
 simp only [s_call]
variable {t : Nat} {c : Bool} {k : IntKind} {a b : Int}
@[go_sem] theorem b_mul : binD P .mul t c (.int k a) (.int k b) = some (.int k (k.wrap (a * b))) := by simp [binD, intD]
variable {t : Nat}
end
end Go.Av
end
section
namespace Go.Bis
theorem Rch.lt {nx : Nat → List Nat} {n i k : Nat} (hx : ∀ k, k < n → ∀ m ∈ nx k, m < n) (hi : i < n) (h : Rch nx i k) : k < n := by
 induction h with
 | refl => exact hi
 | step _ hm ih => exact hx _ ih _ hm
theorem Rch.trans {nx : Nat → List Nat} {i j k : Nat} (h : Rch nx i j) (g : Rch nx j k) : Rch nx i k := by
 induction g with
 | refl => exact h
 | step _ hm ih => exact .step ih hm
section
variable (e0 : Nat → Nat → Bool) (R : List Nat → Nat → Nat → Bool) (n : Nat)
variable {e0 R n}
theorem fixC_iff (h : Fine e0 R n) (i j : Nat) (hi : i < n) (hj : j < n) : (fixC e0 R n).getD i 0 = (fixC e0 R n).getD j 0 ↔ R (fixC e0 R n) i j = true := by
 obtain ⟨u, hu, hs⟩ := itC_ends h
 have h1 := itC_fix h hs
 have h2 : (numE (R (fixC e0 R n)) n).1 = fixC e0 R n := by
  rw [← h1]; exact hs
 have := numE_iff (h.eq (fixC e0 R n)) i j hi hj
 rwa [h2] at this
end
end Go.Bis
end
section
set_option maxRecDepth 20000
namespace Go.Bis
open Go Go.Av Go.Lexs
theorem repsTo_lt (s : Sy) : ∀ k, ∀ r ∈ repsTo s k, r < k
 | 0 => by rw [repsTo]; simp
 | k + 1 => by
  rw [repsTo]
  have := repsTo_lt s k
  split
  ·intro r hr
   rcases List.mem_append.1 hr with hr | hr
   ·have := this r hr; omega
   ·simp at hr; omega
  ·intro r hr; have := this r hr; omega
end Go.Bis
end
section
set_option maxRecDepth 20000
namespace Go.Av
end Go.Av
namespace Go.Bis
open Go Go.Av Go.Lexs
namespace Mo
end Mo
theorem moC_tm (m : Mo) : moC m = .int .i64 m.op :: (tmC m.term ++ [.sl 8 (Rw moC m.kids)]) := by rw [moC_eta, tmC_eta]; rfl
theorem nodR_eq (m : Mo) (d : Nat) : nodR m d = if 200 < d then 2001 else nodL m.kids d 1 := by cases m; rw [nodR]; rfl
theorem nodL_cons (k : Mo) (ks : List Mo) (d n : Nat) : nodL (k :: ks) d n = nodL ks d (if n ≤ 2000 then n + nodR k (d + 1) else n) := by rw [nodL]
end Go.Bis
end
section
set_option maxRecDepth 20000
namespace Go.Bis
open Go Go.Av Go.Lexs
end Go.Bis
namespace Go.Proofs.YtmohcdihdhggoaaGreatDoor
open Go Go.Av Go.Lexs Go.Bis
attribute [local irreducible] ACalls at8
theorem nodes_n (n : Nat) : ∀ {Q} (m : Mo) (d : Nat) (hn : SizeOf.sizeOf m ≤ n) (hm : MoFit m) (hd : d ≤ 201) (H : Heap) (h : Q (.int .i64 (nodR m d)) H), ACalls Tryz.prog 22 [.agg (moC m), .int .i64 d] H Q := by
 induction n with
 | zero => intro Q m d hn; cases m; simp at hn
 | succ n ih =>
 intro Q m d hn hm hd H h
 refine acalls_of_wp [] Tryz.mixed Tryz.func22 rfl (by kernel_rfl) (of_decide_eq_true (by kernel_rfl)) (by kernel_rfl) ?_
 simp only [go_sem,seval, Tryz.results22]
 have hl := hm.l
 rw [nodR_eq] at h
 intro b1 hb1
 have e1 : (H.set b1 (.box (moC m))) b1 = some (.box (moC m)) := heap_same _ _
 have hle : H.Le (H.set b1 (.box (moC m))) := heap_le_set hb1
 generalize H.set b1 (.box (moC m)) = Bs at e1 hle ⊢
 by_cases hd2 : 200 < d
 ·have hdd : decide ((200 : Int) < d) = true := decide_eq_true (by omega)
  rw [if_pos hd2] at h
  repeat' (first | with_reducible refine And.intro ?_ ?_ | simp only [go_sem,seval, hdd, e1] | simp (disch := omega) only [wrap64, cell_at, Rw_at] | simp (disch := first | omega | grind) only [heap_ne_, del_ne] | (intro hx_; try simp only [set_none] at hx_) | omega)
  exact Fin.less hle h
 ·have hdd : decide ((200 : Int) < d) = false := decide_eq_false (by omega)
  rw [if_neg hd2] at h
  repeat' (first | with_reducible refine And.intro ?_ ?_ | simp only [go_sem,seval, hdd, e1] | simp (disch := omega) only [wrap64, cell_at, Rw_at] | simp (disch := first | omega | grind) only [heap_ne_, del_ne] | (intro hx_; try simp only [set_none] at hx_) | omega)
  refine loop_c [1, 11, 12] (fun (p : Nat × Nat) => [(13, .int .i64 p.1), (5, .int .i64 p.2)]) (fun (p : Nat × Nat) => Bs) (fun (p : Nat × Nat) => p.1 ≤ m.kids.length ∧ nodL (m.kids.drop p.1) d p.2 = nodL m.kids d 1 ∧ p.2 ≤ 1000000) (fun (p : Nat × Nat) => m.kids.length - p.1) ((0, 1)) (⟨Nat.zero_le _, rfl, by simp⟩) (by (try simp only [go_sem,seval]) <;> (try simp (disch := omega) [wrap64]) <;> (try omega)) (by first | with_reducible exact Heap.Le.refl _ | exact heap_set_le (by assumption) | exact Heap.Le.refl _ | exact heap_le_set (by assumption) | exact (by simp only [Go.Av.Heap.Le, Go.Av.Heap.set, Go.Av.Heap.del] at * <;> grind)) ?_
  rintro Ec rfl ⟨k, c⟩ ⟨q1, q2, q3⟩
  simp only at q1 q2 q3
  by_cases hlt : k < m.kids.length
  ·have hlk : decide ((k : Int) < m.kids.length) = true := decide_eq_true (by omega)
   have hmem := List.getElem_mem hlt
   rw [List.drop_eq_getElem_cons hlt, nodL_cons] at q2
   have hnr := nodR_le m.kids[k] (d + 1)
   by_cases hc : c ≤ 2000
   ·have hcd : decide ((c : Int) ≤ 2000) = true := decide_eq_true (by omega)
    rw [if_pos hc] at q2
    have ed : (d : Int) + 1 = ((d + 1 : Nat) : Int) := by omega
    have ec : (c : Int) + (nodR m.kids[k] (d + 1) : Nat) = ((c + nodR m.kids[k] (d + 1) : Nat) : Int) := by omega
    repeat' (first | with_reducible refine And.intro ?_ ?_ | simp only [go_sem,seval, hlk, hcd, ed, Rw_at _ _ hlt] | simp (disch := omega) only [wrap64, cell_at, Rw_at] | simp (disch := first | omega | grind) only [heap_ne_, del_ne] | (intro hx_; try simp only [set_none] at hx_) | with_reducible refine ih m.kids[k] (d + 1) (by have := mkid_lt hmem; omega) (hm.k _ hmem) (by omega) _ ?_ | omega)
    exact nx_mk (k + 1, c + nodR m.kids[k] (d + 1)) ⟨by simp only []; omega, q2, by simp only []; omega⟩ (by simp only []; omega) (by (try simp only [go_sem,seval, ec]) <;> (try simp (disch := omega) [wrap64]) <;> (try omega)) (heap_le_set (by assumption))
   ·have hcd : decide ((c : Int) ≤ 2000) = false := decide_eq_false (by omega)
    rw [if_neg hc] at q2
    repeat' (first | with_reducible refine And.intro ?_ ?_ | simp only [go_sem,seval, hlk, hcd, Rw_at _ _ hlt] | simp (disch := omega) only [wrap64, cell_at, Rw_at] | simp (disch := first | omega | grind) only [heap_ne_, del_ne] | (intro hx_; try simp only [set_none] at hx_) | omega)
    exact nx_mk (k + 1, c) ⟨by simp only []; omega, q2, q3⟩ (by simp only []; omega) (by (try simp only [go_sem,seval]) <;> (try simp (disch := omega) [wrap64]) <;> (try omega)) (heap_le_set (by assumption))
  ·have hlk : decide ((k : Int) < m.kids.length) = false := decide_eq_false (by omega)
   rw [List.drop_eq_nil_of_le (by omega), nodL] at q2
   repeat' (first | with_reducible refine And.intro ?_ ?_ | simp only [go_sem,seval, hlk] | simp (disch := omega) only [wrap64, cell_at, Rw_at] | simp (disch := first | omega | grind) only [heap_ne_, del_ne] | (intro hx_; try simp only [set_none] at hx_) | omega)
   rw [q2]
   exact Fin.less hle h
theorem nodes_a {Q} (m : Mo) (hm : MoFit m) (H : Heap) (h : Q (.int .i64 (nodR m 1)) H) : ACalls Tryz.prog 22 [.agg (moC m), .int .i64 1] H Q := nodes_n _ m 1 (Nat.le_refl _) hm (by omega) H h
end Go.Proofs.YtmohcdihdhggoaaGreatDoor
end
section
set_option maxRecDepth 20000
namespace Go.Bis
open Go Go.Av Go.Lexs Go.Proofs.YtmohcdihdhggoaaGreatDoor
theorem mem_toN {s : Sy} (ho : SyOk s) {i k : Nat} (hi : i < s.seen.length) : k ∈ toN s i ↔ Rch (nxS s) i k := by
 unfold toN
 rw [mem_rowL]
 exact ⟨fun h => h.2, fun h => ⟨Rch.lt (nxS_lt ho) hi h, h⟩⟩
theorem Beh.refl {a : Sy} (ho : SyOk a) : Beh a a (fun i j => i = j ∧ i < a.seen.length) :=
  ⟨fun i j h => by obtain ⟨rfl, h⟩ := h; exact ⟨h, h⟩, fun i j h => by rw [h.1]; exact ⟨rfl, rfl⟩,
   fun i j k h hr => by obtain ⟨rfl, h⟩ := h; exact ⟨k, hr, rfl, Rch.lt (nxS_lt ho) h hr⟩, fun i j k h hr => by obtain ⟨rfl, h⟩ := h; exact ⟨k, hr, rfl, Rch.lt (nxS_lt ho) h hr⟩⟩
theorem Beh.symm {a b : Sy} {B : Nat → Nat → Prop} (h : Beh a b B) : Beh b a (fun i j => B j i) :=
 ⟨fun i j g => (h.la j i g).symm, fun i j g => ⟨(h.see j i g).1.symm, (h.see j i g).2.symm⟩, fun i j k g hr => h.bw j i k g hr, fun i j k g hr => h.fw j i k g hr⟩
theorem Beh.comp {a b c : Sy} {B C : Nat → Nat → Prop} (h : Beh a b B) (g : Beh b c C) : Beh a c (fun i k => ∃ j, B i j ∧ C j k) := by
 refine ⟨fun i k ⟨j, h1, h2⟩ => ⟨(h.la i j h1).1, (g.la j k h2).2⟩, fun i k ⟨j, h1, h2⟩ => ?_, fun i k x ⟨j, h1, h2⟩ hr => ?_, fun i k x ⟨j, h1, h2⟩ hr => ?_⟩
 ·obtain ⟨p1, p2⟩ := h.see i j h1
  obtain ⟨q1, q2⟩ := g.see j k h2
  exact ⟨p1.trans q1, p2.trans q2⟩
 ·obtain ⟨m, hm, hB⟩ := h.fw i j x h1 hr
  obtain ⟨y, hy, hC⟩ := g.fw j k m h2 hm
  exact ⟨y, hy, m, hB, hC⟩
 ·obtain ⟨m, hm, hC⟩ := g.bw j k x h2 hr
  obtain ⟨y, hy, hB⟩ := h.bw i j m h1 hm
  exact ⟨y, hy, m, hB, hC⟩
theorem itC_e0 {e0 : Nat → Nat → Bool} {R : List Nat → Nat → Nat → Bool} {n : Nat} (h : Fine e0 R n) : ∀ (t i j : Nat), i < n → j < n → (itC e0 R n t).1.getD i 0 = (itC e0 R n t).1.getD j 0 → e0 i j = true
 | 0, i, j, hi, hj, g => (numE_iff h.e0 i j hi hj).1 g
 | t + 1, i, j, hi, hj, g => itC_e0 h t i j hi hj (h.fine _ i j hi hj ((numE_iff (h.eq _) i j hi hj).1 g))
theorem clE_see {s : Sy} {i j : Nat} : clE s i j = true ↔ s.final.getD i false = s.final.getD j false ∧ s.seen.getD i default = s.seen.getD j default := by
 simp only [clE, Bool.and_eq_true, beq_iff_eq, eqT_iff]
theorem it_lt {s : Sy} (t : Nat) {k : Nat} (hk : k < s.seen.length) : (itS s t).getD k 0 < s.seen.length := by
 have hk' : k < (itS s t).length := by rw [itS_length]; exact hk
 have : (itS s t).getD k 0 = (itS s t)[k] := by simp [hk']
 rw [this]
 exact itS_lt s t _ (List.getElem_mem hk')
theorem fix_beh {s : Sy} (ho : SyOk s) : Beh s s (fun i j => i < s.seen.length ∧ j < s.seen.length ∧ clN s i = clN s j) := by
 have key : ∀ i j k, i < s.seen.length → j < s.seen.length → clN s i = clN s j → Rch (nxS s) i k → ∃ m, Rch (nxS s) j m ∧ k < s.seen.length ∧ m < s.seen.length ∧ clN s k = clN s m := by
  intro i j k hi hj he hr
  have h1 := (fixC_iff (fineS s) i j hi hj).1 he
  simp only [relR, Bool.and_eq_true, beq_iff_eq] at h1
  have h2 := (seesB_iff (fun k hk => it_lt (s := s) s.seen.length (by rcases hk with hk | hk <;> exact toN_mem hk))).1 h1.2 (clN s k)
  obtain ⟨m, hm, hme⟩ := h2.1 ⟨k, (mem_toN ho hi).2 hr, rfl⟩
  exact ⟨m, (mem_toN ho hj).1 hm, Rch.lt (nxS_lt ho) hi hr, toN_mem hm, hme.symm⟩
 refine ⟨fun i j h => ⟨h.1, h.2.1⟩, fun i j h => ?_, fun i j k h hr => ?_, fun i j k h hr => ?_⟩
 ·exact clE_see.1 (itC_e0 (fineS s) s.seen.length i j h.1 h.2.1 h.2.2)
 ·exact key i j k h.1 h.2.1 h.2.2 hr
 ·obtain ⟨m, h1, h2, h3, h4⟩ := key j i k h.2.1 h.1 h.2.2.symm hr
  exact ⟨m, h1, h3, h2, h4.symm⟩
theorem beh_it {s : Sy} (ho : SyOk s) {B : Nat → Nat → Prop} (hB : Beh s s B) : ∀ (t i j : Nat), B i j → (itS s t).getD i 0 = (itS s t).getD j 0
 | 0, i, j, h => by
  obtain ⟨hi, hj⟩ := hB.la i j h
  exact (numE_iff (clE_eqv s s.seen.length) i j hi hj).2 (clE_see.2 (hB.see i j h))
 | t + 1, i, j, h => by
  obtain ⟨hi, hj⟩ := hB.la i j h
  refine (numE_iff (relR_eqv (toN s) s.seen.length (itS s t) s.seen.length) i j hi hj).2 ?_
  simp only [relR, Bool.and_eq_true, beq_iff_eq]
  refine ⟨beh_it ho hB t i j h, (seesB_iff (fun k hk => it_lt (s := s) t (by rcases hk with hk | hk <;> exact toN_mem hk))).2 fun m => ⟨?_, ?_⟩⟩
  ·rintro ⟨k, hk, rfl⟩
   obtain ⟨x, hx, hb⟩ := hB.fw i j k h ((mem_toN ho hi).1 hk)
   exact ⟨x, (mem_toN ho hj).2 hx, (beh_it ho hB t k x hb).symm⟩
  ·rintro ⟨k, hk, rfl⟩
   obtain ⟨x, hx, hb⟩ := hB.bw i j k h ((mem_toN ho hj).1 hk)
   exact ⟨x, (mem_toN ho hi).2 hx, beh_it ho hB t x k hb⟩
theorem beh_fix {s : Sy} (ho : SyOk s) {B : Nat → Nat → Prop} (hB : Beh s s B) {i j : Nat} (h : B i j) : clN s i = clN s j := beh_it ho hB s.seen.length i j h
theorem nx_left {a b : Sy} (ha : SyOk a) {i : Nat} (h : i < a.seen.length) : nxS (unionS a b) i = nxS a i := by
 have := ha.x
 simp only [nxS, unionS]
 rw [List.getD_eq_getElem?_getD, List.getD_eq_getElem?_getD, List.getElem?_append_left (by omega)]
theorem nx_right {a b : Sy} (ha : SyOk a) (hb : SyOk b) {j : Nat} (h : j < b.seen.length) : nxS (unionS a b) (a.seen.length + j) = (nxS b j).map (a.seen.length + ·) := by
 have h1 := ha.x; have h2 := hb.x
 have hj : j < b.next.length := by omega
 simp only [nxS, unionS]
 rw [List.getD_eq_getElem?_getD, List.getElem?_append_right (by omega), show a.seen.length + j - a.next.length = j by omega, List.getElem?_map, List.getElem?_eq_getElem hj]
 simp only [Option.map_some, Option.getD_some, shiftL, List.map_map, List.getD_eq_getElem?_getD, List.getElem?_eq_getElem hj]
 refine List.map_congr_left fun x hx => ?_
 have := hb.r _ (List.getElem_mem hj) x hx
 simp only [Function.comp]
 omega
theorem rch_left {a b : Sy} (ha : SyOk a) {i k : Nat} (hi : i < a.seen.length) : Rch (nxS (unionS a b)) i k ↔ Rch (nxS a) i k := by
 constructor
 ·intro h
  have : Rch (nxS a) i k ∧ k < a.seen.length := by
   induction h with
   | refl => exact ⟨.refl, hi⟩
   | step _ hm ih => rw [nx_left ha ih.2] at hm; exact ⟨.step ih.1 hm, nxS_lt ha _ ih.2 _ hm⟩
  exact this.1
 ·intro h
  induction h with
  | refl => exact .refl
  | step hr hm ih => exact .step ih (by rw [nx_left ha (Rch.lt (nxS_lt ha) hi hr)]; exact hm)
theorem rch_right {a b : Sy} (ha : SyOk a) (hb : SyOk b) {j m : Nat} (hj : j < b.seen.length) : Rch (nxS (unionS a b)) (a.seen.length + j) m ↔ ∃ k, m = a.seen.length + k ∧ Rch (nxS b) j k := by
 constructor
 ·intro h
  have : ∃ k, m = a.seen.length + k ∧ k < b.seen.length ∧ Rch (nxS b) j k := by
   induction h with
   | refl => exact ⟨j, rfl, hj, .refl⟩
   | step _ hm ih =>
    obtain ⟨k, rfl, hk, hr⟩ := ih
    rw [nx_right ha hb hk, List.mem_map] at hm
    obtain ⟨x, hx, rfl⟩ := hm
    exact ⟨x, rfl, nxS_lt hb _ hk _ hx, .step hr hx⟩
  obtain ⟨k, h1, _, h2⟩ := this
  exact ⟨k, h1, h2⟩
 ·rintro ⟨k, rfl, h⟩
  induction h with
  | refl => exact .refl
  | step hr hm ih => exact .step ih (by rw [nx_right ha hb (Rch.lt (nxS_lt hb) hj hr)]; exact List.mem_map.2 ⟨_, hm, rfl⟩)
theorem see_left {a b : Sy} (ha : SyOk a) {i : Nat} (hi : i < a.seen.length) : (unionS a b).final.getD i false = a.final.getD i false ∧ (unionS a b).seen.getD i default = a.seen.getD i default := by
 have := ha.f
 simp only [unionS, List.getD_eq_getElem?_getD]
 rw [List.getElem?_append_left (by omega), List.getElem?_append_left (by omega)]
 exact ⟨rfl, rfl⟩
theorem see_right {a b : Sy} (ha : SyOk a) (j : Nat) : (unionS a b).final.getD (a.seen.length + j) false = b.final.getD j false ∧ (unionS a b).seen.getD (a.seen.length + j) default = b.seen.getD j default := by
 have := ha.f
 simp only [unionS, List.getD_eq_getElem?_getD]
 rw [List.getElem?_append_right (by omega), List.getElem?_append_right (by omega), show a.seen.length + j - a.final.length = j by omega, show a.seen.length + j - a.seen.length = j by omega]
 exact ⟨rfl, rfl⟩
theorem union_len (a b : Sy) : (unionS a b).seen.length = a.seen.length + b.seen.length := by simp [unionS]
theorem beh_union {a b : Sy} (ha : SyOk a) (hb : SyOk b) {B : Nat → Nat → Prop} (h : Beh a b B) : Beh (unionS a b) (unionS a b) (fun i m => ∃ j, B i j ∧ m = a.seen.length + j) := by
 have hl := union_len a b
 refine ⟨fun i m ⟨j, g, e⟩ => ?_, fun i m ⟨j, g, e⟩ => ?_, fun i m k ⟨j, g, e⟩ hr => ?_, fun i m k ⟨j, g, e⟩ hr => ?_⟩
 all_goals (subst e; obtain ⟨li, lj⟩ := h.la i j g)
 ·omega
 ·obtain ⟨p1, p2⟩ := see_left (b := b) ha li
  obtain ⟨q1, q2⟩ := see_right (b := b) ha j
  obtain ⟨r1, r2⟩ := h.see i j g
  exact ⟨by rw [p1, q1, r1], by rw [p2, q2, r2]⟩
 ·obtain ⟨x, hx, hB⟩ := h.fw i j k g ((rch_left ha li).1 hr)
  exact ⟨a.seen.length + x, (rch_right ha hb lj).2 ⟨x, rfl, hx⟩, x, hB, rfl⟩
 ·obtain ⟨x, rfl, hx⟩ := (rch_right ha hb lj).1 hr
  obtain ⟨y, hy, hB⟩ := h.bw i j x g hx
  exact ⟨y, (rch_left ha li).2 hy, x, hB, rfl⟩
theorem union_beh {a b : Sy} (ha : SyOk a) (hb : SyOk b) {C : Nat → Nat → Prop} (h : Beh (unionS a b) (unionS a b) C) : Beh a b (fun i j => i < a.seen.length ∧ j < b.seen.length ∧ C i (a.seen.length + j)) := by
 refine ⟨fun i j g => ⟨g.1, g.2.1⟩, fun i j g => ?_, fun i j k g hr => ?_, fun i j m g hr => ?_⟩
 all_goals obtain ⟨li, lj, g⟩ := g
 ·obtain ⟨p1, p2⟩ := see_left (b := b) ha li
  obtain ⟨q1, q2⟩ := see_right (b := b) ha j
  obtain ⟨r1, r2⟩ := h.see i _ g
  exact ⟨by rw [← p1, ← q1, r1], by rw [← p2, ← q2, r2]⟩
 ·obtain ⟨x, hx, hB⟩ := h.fw i _ k g ((rch_left ha li).2 hr)
  obtain ⟨y, rfl, hy⟩ := (rch_right ha hb lj).1 hx
  exact ⟨y, hy, Rch.lt (nxS_lt ha) li hr, Rch.lt (nxS_lt hb) lj hy, hB⟩
 ·obtain ⟨x, hx, hB⟩ := h.bw i _ _ g ((rch_right ha hb lj).2 ⟨m, rfl, hr⟩)
  have hx' := (rch_left ha li).1 hx
  exact ⟨x, hx', Rch.lt (nxS_lt ha) li hx', Rch.lt (nxS_lt hb) lj hr, hB⟩
theorem alike_iff {a b : Sy} (ha : SyOk a) (hb : SyOk b) (h0 : 0 < a.seen.length) (h1 : 0 < b.seen.length) (hn : a.seen.length + b.seen.length ≤ 1000) : alikeV a b = true ↔ ∃ B, Beh a b B ∧ B 0 0 := by
 have ou := union_ok ha hb hn
 have hl := union_len a b
 have hf := fixS_length (unionS a b)
 have eA : (clA a b).getD 0 0 = clN (unionS a b) 0 := by
  simp only [clA, clN, List.getD_eq_getElem?_getD]; rw [List.getElem?_take_of_lt h0]
 have eB : (clB a b).getD 0 0 = clN (unionS a b) a.seen.length := by
  simp only [clB, clN, List.getD_eq_getElem?_getD]; rw [List.getElem?_drop, Nat.add_zero]
 unfold alikeV
 rw [decide_eq_true_eq, eA, eB]
 constructor
 ·intro h
  exact ⟨_, union_beh ha hb (fix_beh ou), h0, h1, by omega, by omega, by rw [Nat.add_zero]; exact h⟩
 ·rintro ⟨B, hB, g⟩
  exact beh_fix ou (beh_union ha hb hB) ⟨0, g, rfl⟩
theorem beh_sat {a b : Sy} (ha : SyOk a) (hb : SyOk b) {B : Nat → Nat → Prop} (h : Beh a b B) : ∀ (n : Nat) (m : Mo), SizeOf.sizeOf m ≤ n → ∀ i j, B i j → satM a (toN a) m i = satM b (toN b) m j := by
 intro n
 induction n with
 | zero => intro m hm; cases m; simp at hm
 | succ n ih =>
  intro m hm i j g
  obtain ⟨li, lj⟩ := h.la i j g
  obtain ⟨s1, s2⟩ := h.see i j g
  have hh : ∀ i j, B i j → satH a (toN a) m.kids i = satH b (toN b) m.kids j := fun i j g => by
   by_cases hk : 0 < m.kids.length
   ·rw [satH_one hk, satH_one hk]
    exact ih _ (by have := mkid_lt (List.getElem_mem hk); omega) i j g
   ·have e : m.kids = [] := List.eq_nil_of_length_eq_zero (by omega)
    rw [e, satH, satH]
  rw [satM_eq, satM_eq, s1, s2]
  have e3 : (toN a i).any (fun k => satH a (toN a) m.kids k) = (toN b j).any (fun k => satH b (toN b) m.kids k) := by
   rw [Bool.eq_iff_iff, List.any_eq_true, List.any_eq_true]
   constructor
   ·rintro ⟨k, hk, hs⟩
    obtain ⟨x, hx, hB⟩ := h.fw i j k g ((mem_toN ha li).1 hk)
    exact ⟨x, (mem_toN hb lj).2 hx, by rw [← hh k x hB]; exact hs⟩
   ·rintro ⟨k, hk, hs⟩
    obtain ⟨x, hx, hB⟩ := h.bw i j k g ((mem_toN hb lj).1 hk)
    exact ⟨x, (mem_toN ha li).2 hx, by rw [hh x k hB]; exact hs⟩
  have e5 : satA a (toN a) m.kids i = satA b (toN b) m.kids j := by
   rw [satA_all, satA_all, Bool.eq_iff_iff, List.all_eq_true, List.all_eq_true]
   constructor
   ·intro hs k hk
    rw [← ih k (by have := mkid_lt hk; omega) i j g]; exact hs k hk
   ·intro hs k hk
    rw [ih k (by have := mkid_lt hk; omega) i j g]; exact hs k hk
  rw [e3, hh i j g, e5]
theorem numI_some {cl : Nat → Nat} {reps : List Nat} {x e : Nat} (h : numI cl reps x = e) : ∃ he : e < reps.length, cl reps[e] = x := by
 unfold numI at h
 cases hf : reps.findIdx? (fun r => cl r == x) with
 | none => rw [hf] at h; simp only [] at h; omega
 | some j =>
  rw [hf] at h
  simp only [] at h
  obtain ⟨h1, h2, _⟩ := List.findIdx?_eq_some_iff_getElem.1 hf
  have hj : j = e := by omega
  subst hj
  exact ⟨h1, by simpa using h2⟩
theorem num_cl {s : Sy} {i j e : Nat} (h1 : numS' s i = e) (h2 : numS' s j = e) : clN s i = clN s j := by
 obtain ⟨he, g1⟩ := numI_some h1
 obtain ⟨_, g2⟩ := numI_some h2
 rw [← g1, ← g2]
theorem mem_nx_small {s : Sy} {e f : Nat} (he : e < (repsS s).length) : f ∈ nxS (smallS s) e ↔ f < (repsS s).length ∧ stepS s e f = true ∧ f ≠ e := by
 have hl : e < (smallS s).next.length := by rw [(small_len s).2.2]; exact he
 rw [nxS_at hl]
 simp only [smallS, List.getElem_map, List.getElem_range, List.map_map, List.mem_map, List.mem_filter, List.mem_range, Function.comp, Bool.and_eq_true, bne_iff_ne]
 constructor
 ·rintro ⟨x, h, rfl⟩; exact ⟨by simpa using h.1, by simpa using h.2.1, by simpa using h.2.2⟩
 ·intro h; exact ⟨f, ⟨h.1, h.2⟩, by simp⟩
theorem small_ok {s : Sy} (ho : SyOk s) : SyOk (smallS s) := by
 obtain ⟨l1, l2, l3⟩ := small_len s
 have hle : (repsS s).length ≤ s.seen.length := repsTo_le s _
 have := ho.n
 refine ⟨by omega, by omega, by omega, fun l hl k hk => ?_⟩
 simp only [smallS, List.mem_map, List.mem_range] at hl
 obtain ⟨e, he, rfl⟩ := hl
 simp only [List.mem_map, List.mem_filter, List.mem_range] at hk
 obtain ⟨f, hf, rfl⟩ := hk
 rw [l1]; omega
theorem small_beh {s : Sy} (ho : SyOk s) (h0 : 0 < s.seen.length) : Beh s (smallS s) (fun i e => i < s.seen.length ∧ reS s i = true ∧ numS' s i = e) := by
 obtain ⟨l1, l2, l3⟩ := small_len s
 have hstep : ∀ k m, k < s.seen.length → reS s k = true → Rch (nxS s) k m → m < s.seen.length ∧ reS s m = true := fun k m hk hr h => by
  have hm := Rch.lt (nxS_lt ho) hk h
  exact ⟨hm, (reS_iff hm).2 (((reS_iff hk).1 hr).trans h)⟩
 refine ⟨fun i e ⟨hi, hr, hn⟩ => ?_, fun i e ⟨hi, hr, hn⟩ => ?_, fun i e k ⟨hi, hr, hn⟩ hk => ?_, fun i e f ⟨hi, hr, hn⟩ hk => ?_⟩
 ·obtain ⟨x, hx, hx2⟩ := num_nat hi hr
  exact ⟨hi, by omega⟩
 ·obtain ⟨x, hx, hx2⟩ := num_nat hi hr
  have hxe : x = e := by omega
  subst hxe
  have hrx := num_rep s x hx
  have hlt := repsTo_lt s _ _ (List.getElem_mem hx)
  obtain ⟨q1, q2⟩ := (fix_beh ho).see i (repsS s)[x] ⟨hi, hlt, num_cl hn hrx⟩
  rw [q1, q2]
  simp only [smallS, List.getD_eq_getElem?_getD, List.getElem?_map, List.getElem?_eq_getElem hx, Option.map_some, Option.getD_some]
  exact ⟨trivial, trivial⟩
 ·have key : ∃ m, Rch (nxS (smallS s)) e m ∧ numS' s k = m := by
   induction hk with
   | refl => exact ⟨e, .refl, hn⟩
   | step hr1 hm ih =>
    rename_i k m
    obtain ⟨x, hx, hkx⟩ := ih
    obtain ⟨hk, hkr⟩ := hstep i k hi hr hr1
    obtain ⟨hm1, hmr⟩ := hstep i m hi hr (.step hr1 hm)
    obtain ⟨y, hy, hy2⟩ := num_nat hm1 hmr
    obtain ⟨x', hx', hx2⟩ := num_nat hk hkr
    have hxx : x' = x := by omega
    subst hxx
    by_cases hyx : y = x'
    ·subst hyx; exact ⟨y, hx, hy2⟩
    ·exact ⟨y, .step hx ((mem_nx_small hx').2 ⟨hy, step_iff.2 ⟨k, hk, hkr, hkx, m, hm, hy2⟩, hyx⟩), hy2⟩
  obtain ⟨m, h1, h2⟩ := key
  obtain ⟨g1, g2⟩ := hstep i k hi hr hk
  exact ⟨m, h1, g1, g2, h2⟩
 ·induction hk with
  | refl => exact ⟨i, .refl, hi, hr, hn⟩
  | step hr1 hm ih =>
   rename_i x m
   obtain ⟨k, hk1, hk2, hk3, hk4⟩ := ih
   obtain ⟨x', hx', hx2⟩ := num_nat hk2 hk3
   have hxx : x' = x := by omega
   subst hxx
   obtain ⟨_, hst, _⟩ := (mem_nx_small hx').1 hm
   obtain ⟨i0, a1, a2, a3, k0, a4, a5⟩ := step_iff.1 hst
   have hk0 := nxS_lt ho _ a1 _ a4
   have hk0r : reS s k0 = true := (reS_iff hk0).2 (.step ((reS_iff a1).1 a2) a4)
   obtain ⟨z, hz, hz1, hz2, hz3⟩ := (fix_beh ho).fw i0 k k0 ⟨a1, hk2, num_cl a3 hk4⟩ (.step .refl a4)
   obtain ⟨g1, g2⟩ := hstep k z hk2 hk3 hz
   refine ⟨z, hk1.trans hz, g1, g2, ?_⟩
   rw [← a5]
   unfold numS'
   rw [hz3]
theorem small_valid {s : Sy} (h : validY s = true) : validY (smallS s) = true := by
 have ho := validY_ok h
 have hn := validY_n h
 obtain ⟨l1, l2, l3⟩ := small_len s
 obtain ⟨z1, z2⟩ := num_zero hn.1
 have hle : (repsS s).length ≤ s.seen.length := repsTo_le s _
 have so := small_ok ho
 unfold validY at h ⊢
 simp only [Bool.and_eq_true, decide_eq_true_eq, List.all_eq_true] at h ⊢
 refine ⟨⟨⟨⟨⟨by omega, by omega⟩, by omega⟩, by omega⟩, fun t ht => ?_⟩, fun l hl => ?_⟩
 ·simp only [smallS, List.mem_map] at ht
  obtain ⟨r, hr, rfl⟩ := ht
  have hlt := repsTo_lt s _ _ hr
  have : s.seen.getD r default = s.seen[r] := by simp [hlt]
  rw [this]
  exact h.1.2 _ (List.getElem_mem hlt)
 ·unfold inR
  rw [List.all_eq_true]
  intro k hk
  have := so.r l hl k hk
  simpa using this
theorem small_fit {s : Sy} (hs : SyFit s) (ho : SyOk s) : SyFit (smallS s) := by
 obtain ⟨l1, l2, l3⟩ := small_len s
 have hle : (repsS s).length ≤ s.seen.length := repsTo_le s _
 have := ho.n
 refine ⟨by omega, by omega, by omega, fun t ht => ?_, fun l hl => ?_⟩
 ·simp only [smallS, List.mem_map] at ht
  obtain ⟨r, hr, rfl⟩ := ht
  have hlt := repsTo_lt s _ _ hr
  have : s.seen.getD r default = s.seen[r] := by simp [hlt]
  rw [this]
  exact hs.tm _ (List.getElem_mem hlt)
 ·simp only [smallS, List.mem_map, List.mem_range] at hl
  obtain ⟨e, he, rfl⟩ := hl
  rw [List.length_map]
  exact Nat.le_trans (List.length_filter_le _ _) (by simp; omega)
theorem alike_refl {a : Sy} (ha : SyOk a) (h0 : 0 < a.seen.length) (hn : a.seen.length ≤ 400) : alikeV a a = true :=
 (alike_iff ha ha h0 h0 (by omega)).2 ⟨_, Beh.refl ha, rfl, h0⟩
theorem alike_symm {a b : Sy} (ha : SyOk a) (hb : SyOk b) (h0 : 0 < a.seen.length) (h1 : 0 < b.seen.length) (hn : a.seen.length + b.seen.length ≤ 1000) : alikeV a b = alikeV b a := by
 rw [Bool.eq_iff_iff, alike_iff ha hb h0 h1 hn, alike_iff hb ha h1 h0 (by omega)]
 exact ⟨fun ⟨B, h, g⟩ => ⟨_, h.symm, g⟩, fun ⟨B, h, g⟩ => ⟨_, h.symm, g⟩⟩
theorem alike_small {a b : Sy} (ha : SyOk a) (hb : SyOk b) (h0 : 0 < a.seen.length) (h1 : 0 < b.seen.length) (hn : a.seen.length + b.seen.length ≤ 1000) : alikeV (smallS a) (smallS b) = alikeV a b := by
 have la := (small_len a).1
 have lb := (small_len b).1
 have hla : (repsS a).length ≤ a.seen.length := repsTo_le a _
 have hlb : (repsS b).length ≤ b.seen.length := repsTo_le b _
 obtain ⟨za, pa⟩ := num_zero (s := a) h0
 obtain ⟨zb, pb⟩ := num_zero (s := b) h1
 have ba := small_beh ha h0
 have bb := small_beh hb h1
 have ga : (0 < a.seen.length ∧ reS a 0 = true ∧ numS' a 0 = (0 : Nat)) := ⟨h0, reS_zero h0, by rw [za]; rfl⟩
 have gb : (0 < b.seen.length ∧ reS b 0 = true ∧ numS' b 0 = (0 : Nat)) := ⟨h1, reS_zero h1, by rw [zb]; rfl⟩
 rw [Bool.eq_iff_iff, alike_iff (small_ok ha) (small_ok hb) (by omega) (by omega) (by omega), alike_iff ha hb h0 h1 hn]
 constructor
 ·rintro ⟨B, h, g⟩
  exact ⟨_, (ba.comp h).comp bb.symm, 0, ⟨0, ga, g⟩, gb⟩
 ·rintro ⟨B, h, g⟩
  exact ⟨_, (ba.symm.comp h).comp bb, 0, ⟨0, ga, g⟩, gb⟩
end Go.Bis
end
section
set_option maxRecDepth 20000
namespace Go.Proofs.YtmohcdihdhggoaaGreatDoor
open Go Go.Av Go.Lexs Go.Bis
attribute [local irreducible] ACalls at8
theorem few200_a {Q} (l : List Tm) (hl : l.length ≤ 1466015503658) (fl : ∀ a ∈ l, TmFit a) (H : Heap) (h : ∀ b, Q (.bool b) H) : ACalls Tryz.prog 31 [.int .i64 200, .sl 6 (Rw tmC l)] H Q := by
 refine acalls_of_wp [] Tryz.mixed Tryz.func31 rfl (by kernel_rfl) (of_decide_eq_true (by kernel_rfl)) (by kernel_rfl) ?_
 simp only [go_sem,seval, Tryz.results31]
 repeat' (first | with_reducible refine And.intro ?_ ?_ | simp only [go_sem,seval] | simp (disch := omega) only [wrap64, cell_at] | simp (disch := first | omega | grind) only [heap_ne_, del_ne] | (intro hx_; try simp only [set_none] at hx_) | with_reducible refine parts_n _ l (Nat.le_refl _) hl fl 200 0 (by omega) (by omega) (by omega) (by omega) _ ?_ | omega)
 exact Fin.same (h _)
end Go.Proofs.YtmohcdihdhggoaaGreatDoor
end
section
set_option maxRecDepth 20000
namespace Go.Proofs.YtmohcdihdhggoaaGreatDoor
open Go Go.Av Go.Lexs Go.Bis
attribute [local irreducible] ACalls at8
theorem few201_a {Q} (t : Tm) (ht : TmFit t) (H : Heap) (h : ∀ b, Q (.bool b) H) : ACalls Tryz.prog 31 [.int .i64 200, .sl 6 [tmC t]] H Q := few200_a [t] (by simp) (by simpa using ht) H h
set_option maxHeartbeats 2000000 in
theorem count_n (n : Nat) : ∀ {Q} (m : Mo) (left deep : Int) (hn : SizeOf.sizeOf m ≤ n) (hm : MoFit m) (h0 : 0 ≤ left) (h1 : left ≤ 2100) (h2 : -1 ≤ deep) (h3 : deep ≤ 300) (H : Heap) (h : ∀ r : Int, -1 ≤ r → r ≤ 2100 → (0 ≤ r → r + cntM m ≤ left) → Q (.int .i64 r) H),
  ACalls Tryz.prog 52 [.agg (moC m), .int .i64 left, .int .i64 deep] H Q := by
 induction n with
 | zero => intro Q m left deep hn; cases m; simp at hn
 | succ n ih =>
 intro Q m left deep hn hm h0 h1 h2 h3 H h
 refine acalls_of_wp [] Tryz.mixed Tryz.func52 rfl (by kernel_rfl) (of_decide_eq_true (by kernel_rfl)) (by kernel_rfl) ?_
 simp only [go_sem,seval, Tryz.results52]
 have hl := hm.l
 have hcm : cntM m = 1 + cntML m.kids := cntM_eq m
 intro b1 hb1
 have e1 : (H.set b1 (.box (moC m))) b1 = some (.box (moC m)) := heap_same _ _
 have hle : H.Le (H.set b1 (.box (moC m))) := heap_le_set hb1
 generalize H.set b1 (.box (moC m)) = Bs at e1 hle ⊢
 have hneg : Q (.int .i64 (-1)) H := h (-1) (by omega) (by omega) (by omega)
 by_cases hd : deep < 0
 ·have hdd : decide (deep < 0) = true := decide_eq_true hd
  repeat' (first | with_reducible refine And.intro ?_ ?_ | simp only [go_sem,seval, hdd, e1] | simp (disch := omega) only [wrap64, cell_at, Rw_at] | simp (disch := first | omega | grind) only [heap_ne_, del_ne] | (intro hx_; try simp only [set_none] at hx_) | omega)
  exact Fin.less hle hneg
 ·have hdd : decide (deep < 0) = false := decide_eq_false hd
  repeat' (first | with_reducible refine And.intro ?_ ?_ | simp only [go_sem,seval, hdd, e1] | simp (disch := omega) only [wrap64, cell_at, Rw_at] | simp (disch := first | omega | grind) only [heap_ne_, del_ne] | (intro hx_; try simp only [set_none] at hx_) | omega)
  rename_i bx
  have hfx := hx_
  clear hx_
  refine ACalls.vec2 (heap_same _ _) rfl ?_
  rw [set_del hfx]
  refine few201_a _ hm.t _ (fun bb => ?_)
  cases bb with
  | false =>
   repeat' (first | with_reducible refine And.intro ?_ ?_ | simp only [go_sem,seval, e1] | simp (disch := omega) only [wrap64, cell_at, Rw_at] | simp (disch := first | omega | grind) only [heap_ne_, del_ne] | (intro hx_; try simp only [set_none] at hx_) | omega)
   exact Fin.less hle hneg
  | true =>
   repeat' (first | with_reducible refine And.intro ?_ ?_ | simp only [go_sem,seval, e1] | simp (disch := omega) only [wrap64, cell_at, Rw_at] | simp (disch := first | omega | grind) only [heap_ne_, del_ne] | (intro hx_; try simp only [set_none] at hx_) | omega)
   refine loop_c [2, 21, 22] (fun (p : Nat × Int) => [(23, .int .i64 p.1), (1, .int .i64 p.2)]) (fun (p : Nat × Int) => Bs) (fun (p : Nat × Int) => p.1 ≤ m.kids.length ∧ -1 ≤ p.2 ∧ p.2 ≤ 2100 ∧ (0 ≤ p.2 → p.2 + 1 + cntML (m.kids.take p.1) ≤ left)) (fun (p : Nat × Int) => m.kids.length - p.1) ((0, left - 1)) (⟨Nat.zero_le _, by simp only []; omega, by simp only []; omega, fun _ => by simp only [List.take_zero, cntML_nil]; omega⟩) (by (try simp only [go_sem,seval]) <;> (try simp (disch := omega) [wrap64]) <;> (try omega)) (by first | with_reducible exact Heap.Le.refl _ | exact heap_set_le (by assumption) | exact Heap.Le.refl _ | exact heap_le_set (by assumption) | exact (by simp only [Go.Av.Heap.Le, Go.Av.Heap.set, Go.Av.Heap.del] at * <;> grind)) ?_
   rintro Ec rfl ⟨k, c⟩ ⟨q1, q2, q3, q4⟩
   simp only at q1 q2 q3 q4
   by_cases hlt : k < m.kids.length
   ·have hlk : decide ((k : Int) < m.kids.length) = true := decide_eq_true (by omega)
    have hmem := List.getElem_mem hlt
    have ht := cntML_take m.kids k hlt
    by_cases hc : c < 0
    ·have hcd : decide (c < 0) = true := decide_eq_true hc
     repeat' (first | with_reducible refine And.intro ?_ ?_ | simp only [go_sem,seval, hlk, hcd, Rw_at _ _ hlt] | simp (disch := omega) only [wrap64, cell_at, Rw_at] | simp (disch := first | omega | grind) only [heap_ne_, del_ne] | (intro hx_; try simp only [set_none] at hx_) | omega)
     exact Fin.less (hle.trans (heap_le_set (by assumption))) (h c q2 q3 (by omega))
    ·have hcd : decide (c < 0) = false := decide_eq_false hc
     repeat' (first | with_reducible refine And.intro ?_ ?_ | simp only [go_sem,seval, hlk, hcd, Rw_at _ _ hlt] | simp (disch := omega) only [wrap64, cell_at, Rw_at] | simp (disch := first | omega | grind) only [heap_ne_, del_ne] | (intro hx_; try simp only [set_none] at hx_) | omega)
     rename_i b8
     have hf8 := hx_
     clear hx_
     refine ih m.kids[k] c (deep - 1) (by have := mkid_lt hmem; omega) (hm.k _ hmem) (by omega) (by omega) (by omega) (by omega) _ (fun r r1 r2 r3 => ?_)
     repeat' (first | with_reducible refine And.intro ?_ ?_ | simp only [go_sem,seval] | simp (disch := omega) only [wrap64, cell_at, Rw_at] | simp (disch := first | omega | grind) only [heap_ne_, del_ne] | (intro hx_; try simp only [set_none] at hx_) | omega)
     exact nx_mk (k + 1, r) ⟨by simp only []; omega, r1, r2, fun h0r => by simp only [] at h0r ⊢; have := r3 h0r; have := q4 (by omega); omega⟩ (by simp only []; omega) (by (try simp only [go_sem,seval]) <;> (try simp (disch := omega) [wrap64]) <;> (try omega)) (heap_le_set hf8)
   ·have hlk : decide ((k : Int) < m.kids.length) = false := decide_eq_false (by omega)
    rw [List.take_of_length_le (by omega)] at q4
    repeat' (first | with_reducible refine And.intro ?_ ?_ | simp only [go_sem,seval, hlk] | simp (disch := omega) only [wrap64, cell_at, Rw_at] | simp (disch := first | omega | grind) only [heap_ne_, del_ne] | (intro hx_; try simp only [set_none] at hx_) | omega)
    exact Fin.less hle (h c q2 q3 (fun h0c => by have := q4 h0c; omega))
theorem little_a {Q} (m : Mo) (hm : MoFit m) (H : Heap) (h : ∀ b, (b = true → cntM m ≤ 2100) → Q (.bool b) H) : ACalls Tryz.prog 21 [.agg (moC m)] H Q := by
 refine acalls_of_wp [] Tryz.mixed Tryz.func21 rfl (by kernel_rfl) (of_decide_eq_true (by kernel_rfl)) (by kernel_rfl) ?_
 simp only [go_sem,seval, Tryz.results21]
 intro b1 hb1
 repeat' (first | with_reducible refine And.intro ?_ ?_ | simp only [go_sem,seval] | simp (disch := omega) only [wrap64, cell_at] | simp (disch := first | omega | grind) only [heap_ne_, del_ne] | (intro hx_; try simp only [set_none] at hx_) | omega)
 refine count_n _ m 2100 300 (Nat.le_refl _) hm (by omega) (by omega) (by omega) (by omega) _ (fun r r1 r2 r3 => ?_)
 repeat' (first | with_reducible refine And.intro ?_ ?_ | simp only [go_sem,seval] | simp (disch := omega) only [wrap64, cell_at] | simp (disch := first | omega | grind) only [heap_ne_, del_ne] | (intro hx_; try simp only [set_none] at hx_) | omega)
 exact Fin.less (heap_le_set hb1) (h (decide (0 ≤ r)) (fun e => by
  have h4 := r3 (of_decide_eq_true e)
  have h5 : (cntM m : Int) ≤ 2100 := by
   have h6 : (0 : Int) ≤ r := of_decide_eq_true e
   exact Int.le_trans (Int.le_add_of_nonneg_left h6) h4
  exact_mod_cast h5))
end Go.Proofs.YtmohcdihdhggoaaGreatDoor
end
section
set_option maxRecDepth 20000
namespace Go.Bis
open Go Go.Av Go.Lexs
theorem validY_lens {s : Sy} (h : validY s = true) : s.seen.length ≤ 400 ∧ s.final.length ≤ 400 ∧ s.next.length ≤ 400 := by
 unfold validY at h
 simp only [Bool.and_eq_true, decide_eq_true_eq] at h
 omega
end Go.Bis
namespace Go.Proofs.YtmohcdihdhggoaaGreatDoor
open Go Go.Av Go.Lexs Go.Bis
attribute [local irreducible] ACalls at8
theorem wrap_ok {z : Int} (h1 : -9223372036854775808 ≤ z) (h2 : z ≤ 9223372036854775807) : IntKind.i64.wrap z = z := wrap64 h1 h2
set_option maxHeartbeats 2000000 in
theorem fewT_a {Q} (l : List Sy) (hl : l.length ≤ 2) (fl : ∀ s ∈ l, SyFit s) (H : Heap) (h : ∀ b, (b = true → (∀ s ∈ l, validY s = true) → ∀ s ∈ l, ∀ m ∈ s.next, m.length ≤ 900) → Q (.bool b) H) : ACalls Tryz.prog 10 [.sl 3 (Rw syC l)] H Q := by
 refine acalls_of_wp [] Tryz.mixed Tryz.func10 rfl (by kernel_rfl) (of_decide_eq_true (by kernel_rfl)) (by kernel_rfl) ?_
 simp only [go_sem,seval, Tryz.results10]
 have hF : Q (.bool false) H := h false (fun e => by cases e)
 repeat' (first | with_reducible refine And.intro ?_ ?_ | simp only [go_sem,seval] | simp (disch := omega) only [wrap64, cell_at, Rw_at] | simp (disch := first | omega | grind) only [heap_ne_, del_ne] | (intro hx_; try simp only [set_none] at hx_) | omega)
 refine loop_c [8, 9] (fun (p : Nat × Int) => [(10, .int .i64 p.1), (3, .int .i64 p.2)]) (fun (p : Nat × Int) => H) (fun (p : Nat × Int) => p.1 ≤ l.length ∧ ((∀ s ∈ l, validY s = true) → 0 ≤ p.2 ∧ p.2 ≤ 900 ∧ ∀ (i : Nat) (hi : i < l.length), i < p.1 → ∀ m ∈ l[i].next, m.length ≤ 900)) (fun (p : Nat × Int) => l.length - p.1) ((0, 0)) (⟨Nat.zero_le _, fun _ => ⟨by simp only []; omega, by simp only []; omega, fun i _ g => absurd g (Nat.not_lt_zero _)⟩⟩) (by (try simp only [go_sem,seval]) <;> (try simp (disch := omega) [wrap64]) <;> (try omega)) (by first | with_reducible exact Heap.Le.refl _ | exact heap_set_le (by assumption) | exact Heap.Le.refl _ | exact heap_le_set (by assumption) | exact (by simp only [Go.Av.Heap.Le, Go.Av.Heap.set, Go.Av.Heap.del] at * <;> grind)) ?_
 rintro Ec rfl ⟨k, c⟩ ⟨hk, hI⟩
 simp only at hk hI
 by_cases hlt : k < l.length
 ·have hlk : decide ((k : Int) < l.length) = true := decide_eq_true (by omega)
  have hmem := List.getElem_mem hlt
  have hs := fl _ hmem
  repeat' (first | with_reducible refine And.intro ?_ ?_ | simp only [go_sem,seval, hlk, Rw_at _ _ hlt] | simp (disch := omega) only [wrap64, cell_at, Rw_at] | simp (disch := first | omega | grind) only [heap_ne_, del_ne] | (intro hx_; try simp only [set_none] at hx_) | omega)
  rename_i b5
  have hf5 := hx_
  clear hx_
  have hst : (∀ s ∈ l, validY s = true) → IntKind.i64.wrap (c + IntKind.i64.wrap (IntKind.i64.wrap ((l[k].seen.length : Int) + l[k].final.length) + l[k].next.length)) = c + (l[k].seen.length + l[k].final.length + l[k].next.length) ∧ 0 ≤ c ∧ c ≤ 900 := fun hv => by
   obtain ⟨v1, v2, v3⟩ := validY_lens (hv _ hmem)
   obtain ⟨c1, c2, _⟩ := hI hv
   rw [wrap_ok (z := (l[k].seen.length : Int) + l[k].final.length) (by omega) (by omega), wrap_ok (z := (l[k].seen.length : Int) + l[k].final.length + l[k].next.length) (by omega) (by omega), wrap_ok (by omega) (by omega)]
   exact ⟨rfl, c1, c2⟩
  generalize IntKind.i64.wrap (c + IntKind.i64.wrap (IntKind.i64.wrap ((l[k].seen.length : Int) + l[k].final.length) + l[k].next.length)) = d0 at hst ⊢
  refine loop_c [5, 8, 9, 10, 28, 29] (fun (p : Nat × Int) => [(30, .int .i64 p.1), (3, .int .i64 p.2)]) (fun (p : Nat × Int) => H.set b5 (.box (syC l[k]))) (fun (p : Nat × Int) => p.1 ≤ l[k].next.length ∧ ((∀ s ∈ l, validY s = true) → 0 ≤ p.2 ∧ p.2 ≤ 2100 + p.1 * 17592186043904 ∧ ∀ (j : Nat) (hj : j < l[k].next.length), j < p.1 → (l[k].next[j].length : Int) ≤ p.2)) (fun (p : Nat × Int) => l[k].next.length - p.1) ((0, d0)) (⟨Nat.zero_le _, fun hv => by
   obtain ⟨v1, v2, v3⟩ := validY_lens (hv _ hmem)
   obtain ⟨s1, s2, s3⟩ := hst hv
   exact ⟨by simp only []; omega, by simp only []; omega, fun j _ g => absurd g (Nat.not_lt_zero _)⟩⟩) (by (try simp only [go_sem,seval]) <;> (try simp (disch := omega) [wrap64]) <;> (try omega)) (by first | with_reducible exact Heap.Le.refl _ | exact heap_set_le (by assumption) | exact Heap.Le.refl _ | exact heap_le_set (by assumption) | exact (by simp only [Go.Av.Heap.Le, Go.Av.Heap.set, Go.Av.Heap.del] at * <;> grind)) ?_
  rintro Ec2 rfl ⟨j, d⟩ ⟨hj, hJ⟩
  simp only at hj hJ
  have hnl := hs.nl
  by_cases hjt : j < l[k].next.length
  ·have hjk : decide ((j : Int) < l[k].next.length) = true := decide_eq_true (by omega)
   have hil := hs.il _ (List.getElem_mem hjt)
   repeat' (first | with_reducible refine And.intro ?_ ?_ | simp only [go_sem,seval, hjk, Rw_at _ _ hjt] | simp (disch := omega) only [wrap64, cell_at, Rw_at] | simp (disch := first | omega | grind) only [heap_ne_, del_ne] | (intro hx_; try simp only [set_none] at hx_) | omega)
   refine nx_mk (j + 1, IntKind.i64.wrap (d + l[k].next[j].length)) ⟨by simp only []; omega, fun hv => ?_⟩ (by simp only []; omega) (by (try simp only [go_sem,seval]) <;> (try simp (disch := omega) [wrap64]) <;> (try omega)) (Heap.Le.refl _)
   obtain ⟨v1, v2, v3⟩ := validY_lens (hv _ hmem)
   obtain ⟨j1, j2, j3⟩ := hJ hv
   have hw : IntKind.i64.wrap (d + l[k].next[j].length) = d + l[k].next[j].length := wrap_ok (by omega) (by omega)
   simp only [hw]
   refine ⟨by omega, by omega, fun i hi g => ?_⟩
   by_cases e : i = j
   ·subst e; omega
   ·have := j3 i hi (by omega); omega
  ·have hjk : decide ((j : Int) < l[k].next.length) = false := decide_eq_false (by omega)
   by_cases h9 : 900 < d
   ·have h9d : decide (900 < d) = true := decide_eq_true h9
    repeat' (first | with_reducible refine And.intro ?_ ?_ | simp only [go_sem,seval, hjk, h9d] | simp (disch := omega) only [wrap64, cell_at, Rw_at] | simp (disch := first | omega | grind) only [heap_ne_, del_ne] | (intro hx_; try simp only [set_none] at hx_) | omega)
    exact Fin.less (heap_le_set hf5) hF
   ·have h9d : decide (900 < d) = false := decide_eq_false h9
    repeat' (first | with_reducible refine And.intro ?_ ?_ | simp only [go_sem,seval, hjk, h9d] | simp (disch := omega) only [wrap64, cell_at, Rw_at] | simp (disch := first | omega | grind) only [heap_ne_, del_ne] | (intro hx_; try simp only [set_none] at hx_) | omega)
    refine few_a _ hs.sl hs.tm _ (fun bb => ?_)
    cases bb with
    | false =>
     repeat' (first | with_reducible refine And.intro ?_ ?_ | simp only [go_sem,seval] | simp (disch := omega) only [wrap64, cell_at, Rw_at] | simp (disch := first | omega | grind) only [heap_ne_, del_ne] | (intro hx_; try simp only [set_none] at hx_) | omega)
     exact Fin.less (heap_le_set hf5) hF
    | true =>
     repeat' (first | with_reducible refine And.intro ?_ ?_ | simp only [go_sem,seval] | simp (disch := omega) only [wrap64, cell_at, Rw_at] | simp (disch := first | omega | grind) only [heap_ne_, del_ne] | (intro hx_; try simp only [set_none] at hx_) | omega)
     refine nx_mk (k + 1, d) ⟨by simp only []; omega, fun hv => ?_⟩ (by simp only []; omega) (by (try simp only [go_sem,seval]) <;> (try simp (disch := omega) [wrap64]) <;> (try omega)) (heap_le_set hf5)
     simp only []
     obtain ⟨j1, j2, j3⟩ := hJ hv
     refine ⟨j1, by omega, fun i hi g m hm => ?_⟩
     by_cases e : i = k
     ·subst e
      obtain ⟨q, hq, rfl⟩ := List.mem_iff_getElem.1 hm
      have := j3 q hq (by omega)
      omega
     ·exact (hI hv).2.2 i hi (by omega) m hm
 ·have hlk : decide ((k : Int) < l.length) = false := decide_eq_false (by omega)
  repeat' (first | with_reducible refine And.intro ?_ ?_ | simp only [go_sem,seval, hlk] | simp (disch := omega) only [wrap64, cell_at, Rw_at] | simp (disch := first | omega | grind) only [heap_ne_, del_ne] | (intro hx_; try simp only [set_none] at hx_) | omega)
  refine Fin.same (h _ (fun _ hv s hs m hm => ?_))
  obtain ⟨i, hi, rfl⟩ := List.mem_iff_getElem.1 hs
  exact (hI hv).2.2 i hi (by omega) m hm
end Go.Proofs.YtmohcdihdhggoaaGreatDoor
end
section
set_option maxRecDepth 20000
namespace Go.Av
theorem callFr {P : Program} {bl : List Nat} {H : Heap} {KD : D → Heap → Prop} {g : Nat} {args : List D} (h : ACalls P g args (roH H) (fun d _ => flatD d = true ∧ KD d H)) : callF P bl (.fn (.func g) [] []) args H KD := by
 refine ⟨roH H, roH_le H, fun k _ => roH_held H k, ?_⟩
 show ACalls P g ([] ++ args ++ []) _ _
 rw [List.nil_append, List.append_nil, sub_ro]; exact h
end Go.Av
namespace Go.Proofs.YtmohcdihdhggoaaGreatDoor
open Go Go.Av Go.Lexs Go.Bis
attribute [local irreducible] ACalls at8
theorem satR_two (s : Sy) (i : Int) (m : Mo) : ∃ x e, satR s i m = .tuple [.bool x, .int .i64 e] := by
 unfold satR
 split
 ·split
  ·exact ⟨_, _, rfl⟩
  ·exact ⟨_, _, rfl⟩
 ·exact ⟨_, _, rfl⟩
end Go.Proofs.YtmohcdihdhggoaaGreatDoor
end
section
set_option maxRecDepth 20000
namespace Go.Proofs.YtmohcdihdhggoaaGreatDoor
open Go Go.Av Go.Lexs Go.Bis
attribute [local irreducible] ACalls at8
theorem sat_same {a b : Sy} (va : validY a = true) (vb : validY b = true) (hx : alikeV a b = true) (m : Mo) : satR b 0 m = satR a 0 m := by
 have na := validY_n va
 have nb := validY_n vb
 obtain ⟨B, hB, h0⟩ := (alike_iff (validY_ok va) (validY_ok vb) (by omega) (by omega) (by omega)).1 hx
 have hs := beh_sat (validY_ok va) (validY_ok vb) hB _ m (Nat.le_refl _) 0 0 h0
 have ga : 0 < (a.seen.length : Int) := by omega
 have gb : 0 < (b.seen.length : Int) := by omega
 unfold satR
 rw [va, vb]
 cases validM m with
 | false => rfl
 | true =>
  rw [Bool.and_self, if_pos rfl, if_pos rfl, if_pos ⟨Int.le_refl _, gb⟩, if_pos ⟨Int.le_refl _, ga⟩]
  show D.tuple [.bool (satM b (toN b) m 0), .int .i64 0] = D.tuple [.bool (satM a (toN a) m 0), .int .i64 0]
  rw [hs]
set_option maxHeartbeats 4000000 in
theorem lawFormulas_a {Q} (a b : Sy) (m : Mo) (fa : SyFit a) (fb : SyFit b) (fm : MoFit m) (H : Heap) (hT : Tabs H) (h : Q (.bool true) H) : ACalls Tryz.prog 7 [.agg (syC a), .agg (syC b), .agg (moC m)] H Q := by
 refine acalls_of_wp [(1, .rg)] Tryz.mixed Tryz.func7 rfl (by kernel_rfl) (of_decide_eq_true (by kernel_rfl)) (by kernel_rfl) ?_
 simp only [go_sem,seval, Tryz.results7]
 intro b3 hb3 b4 hb4 b5 hb5
 have hne : b4 ≠ b3 := by rintro rfl; rw [heap_same] at hb4; cases hb4
 have hne5 : b5 ≠ b4 := by rintro rfl; rw [heap_same] at hb5; cases hb5
 have hne53 : b5 ≠ b3 := by rintro rfl; rw [heap_ne _ hne.symm, heap_same] at hb5; cases hb5
 have e3 : (((H.set b3 (.box (syC a))).set b4 (.box (syC b))).set b5 (.box (moC m))) b3 = some (.box (syC a)) := by rw [heap_ne _ hne53.symm, heap_ne _ hne.symm]; exact heap_same _ _
 have e4 : (((H.set b3 (.box (syC a))).set b4 (.box (syC b))).set b5 (.box (moC m))) b4 = some (.box (syC b)) := by rw [heap_ne _ hne5.symm]; exact heap_same _ _
 have e5 : (((H.set b3 (.box (syC a))).set b4 (.box (syC b))).set b5 (.box (moC m))) b5 = some (.box (moC m)) := heap_same _ _
 have hle : H.Le (((H.set b3 (.box (syC a))).set b4 (.box (syC b))).set b5 (.box (moC m))) := ((heap_le_set hb3).trans (heap_le_set hb4)).trans (heap_le_set hb5)
 have hTB : Tabs (((H.set b3 (.box (syC a))).set b4 (.box (syC b))).set b5 (.box (moC m))) := hT.le hle
 generalize ((H.set b3 (.box (syC a))).set b4 (.box (syC b))).set b5 (.box (moC m)) = Bs at e3 e4 e5 hle hTB ⊢
 have m3 : b3 ∈ [b3, b4, b5] := by simp
 have m4 : b4 ∈ [b3, b4, b5] := by simp
 have m5 : b5 ∈ [b3, b4, b5] := by simp
 refine rg_mk [b3, b4, b5] (fun k hk => by simp at hk; rcases hk with rfl | rfl | rfl; rw [e3]; simp; rw [e4]; simp; rw [e5]; simp) ?_
 repeat' (first | with_reducible refine And.intro ?_ ?_ | simp only [go_sem,seval, e3, e4, e5, m3, m4, m5] | simp (disch := omega) only [wrap64, cell_at, oneB_at] | simp (disch := first | omega | grind) only [heap_ne_, del_ne] | (intro hx_; try simp only [set_none] at hx_) | omega)
 rename_i x
 have hx := hx_
 clear hx_
 have nx : x ∉ [b3, b4, b5] := by
  intro hk; simp at hk
  rcases hk with rfl | rfl | rfl
  ·rw [e3] at hx; cases hx
  ·rw [e4] at hx; cases hx
  ·rw [e5] at hx; cases hx
 refine callF1 (heap_same _ _) rfl nx ?_
 refine ACalls.vec1 (es := Rw syC [a, b]) (by rw [oneB_at, heap_same]; rfl) rfl ?_
 refine fewT_a [a, b] (by simp) (fun y hy => by simp only [List.mem_cons, List.not_mem_nil, or_false] at hy; rcases hy with rfl | rfl; exact fa; exact fb) _ (fun bb hfw => ⟨rfl, ?_⟩)
 rw [set_del hx]
 cases bb with
 | false =>
  repeat' (first | with_reducible refine And.intro ?_ ?_ | simp only [go_sem,seval, e3, e4, e5, m3, m4, m5] | simp (disch := omega) only [wrap64, cell_at, oneB_at] | simp (disch := first | omega | grind) only [heap_ne_, del_ne] | (intro hx_; try simp only [set_none] at hx_) | with_reducible refine awake_a _ hTB ?_ | omega)
  exact Fin.less hle h
 | true =>
  have hfw := hfw rfl
  repeat' (first | with_reducible refine And.intro ?_ ?_ | simp only [go_sem,seval, e3, e4, e5, m3, m4, m5] | simp (disch := omega) only [wrap64, cell_at, oneB_at] | simp (disch := first | omega | grind) only [heap_ne_, del_ne] | (intro hx_; try simp only [set_none] at hx_) | omega)
  refine callFr ?_
  refine little_a m fm _ (fun bb hc => ⟨rfl, ?_⟩)
  cases bb with
  | false =>
   repeat' (first | with_reducible refine And.intro ?_ ?_ | simp only [go_sem,seval, e3, e4, e5, m3, m4, m5] | simp (disch := omega) only [wrap64, cell_at, oneB_at] | simp (disch := first | omega | grind) only [heap_ne_, del_ne] | (intro hx_; try simp only [set_none] at hx_) | with_reducible refine awake_a _ hTB ?_ | omega)
   exact Fin.less hle h
  | true =>
   have hc := hc rfl
   cases va : validY a with
   | false =>
    repeat' (first | with_reducible refine And.intro ?_ ?_ | simp only [go_sem,seval, e3, e4, e5, m3, m4, m5, va] | simp (disch := omega) only [wrap64, cell_at, oneB_at] | simp (disch := first | omega | grind) only [heap_ne_, del_ne] | (intro hx_; try simp only [set_none] at hx_) | with_reducible refine callF0 rfl (fun Q hq => nodes_a m fm _ hq) ?_ | with_reducible refine callF0 rfl (fun Q hq => rvalid_a a fa _ hq) ?_ | with_reducible refine awake_a _ hTB ?_ | omega)
    all_goals first | rfl | exact Fin.less hle h
   | true =>
   cases vb : validY b with
   | false =>
    repeat' (first | with_reducible refine And.intro ?_ ?_ | simp only [go_sem,seval, e3, e4, e5, m3, m4, m5, va, vb] | simp (disch := omega) only [wrap64, cell_at, oneB_at] | simp (disch := first | omega | grind) only [heap_ne_, del_ne] | (intro hx_; try simp only [set_none] at hx_) | with_reducible refine callF0 rfl (fun Q hq => nodes_a m fm _ hq) ?_ | with_reducible refine callF0 rfl (fun Q hq => rvalid_a a fa _ hq) ?_ | with_reducible refine callF0 rfl (fun Q hq => rvalid_a b fb _ hq) ?_ | with_reducible refine awake_a _ hTB ?_ | omega)
    all_goals first | rfl | exact Fin.less hle h
   | true =>
   have hw := hfw (fun s hs => by simp only [List.mem_cons, List.not_mem_nil, or_false] at hs; rcases hs with rfl | rfl; exact va; exact vb)
   have wa := hw a (by simp)
   have wb := hw b (by simp)
   have na := validY_n va
   have nb := validY_n vb
   have oa := validY_ok va
   have ob := validY_ok vb
   have hAB : alikeR a b = .tuple [.bool (alikeV a b), .int .i64 0] := by unfold alikeR; rw [va, vb]; rfl
   have hBA : alikeR b a = .tuple [.bool (alikeV a b), .int .i64 0] := by unfold alikeR; rw [va, vb, alike_symm ob oa (by omega) (by omega) (by omega)]; rfl
   have hAA : alikeR a a = .tuple [.bool true, .int .i64 0] := by unfold alikeR; rw [va, alike_refl oa (by omega) (by omega)]; rfl
   have hSa : smallR a = .tuple [.agg (syC (smallS a)), .int .i64 0] := by unfold smallR; rw [va]; rfl
   have hSb : smallR b = .tuple [.agg (syC (smallS b)), .int .i64 0] := by unfold smallR; rw [vb]; rfl
   have hSS : alikeR (smallS a) (smallS b) = .tuple [.bool (alikeV a b), .int .i64 0] := by unfold alikeR; rw [small_valid va, small_valid vb, alike_small oa ob (by omega) (by omega) (by omega)]; rfl
   have fsa := small_fit fa oa
   have fsb := small_fit fb ob
   obtain ⟨xa, ea, hsa⟩ := satR_two a 0 m
   cases hX : alikeV a b with
   | true =>
    have hsb : satR b 0 m = .tuple [.bool xa, .int .i64 ea] := by rw [sat_same va vb hX m, hsa]
    rw [hX] at hAB hBA hSS
    repeat' (first | with_reducible refine And.intro ?_ ?_ | simp only [go_sem,seval, e3, e4, e5, m3, m4, m5, va, vb, hAB, hBA, hAA, hsa, hsb, hSa, hSb] | simp (disch := omega) only [wrap64, cell_at, oneB_at] | simp (disch := first | omega | grind) only [heap_ne_, del_ne] | (intro hx_; try simp only [set_none] at hx_) | with_reducible refine callF0 rfl (fun Q hq => nodes_a m fm _ hq) ?_ | with_reducible refine callF0 rfl (fun Q hq => rvalid_a a fa _ hq) ?_ | with_reducible refine callF0 rfl (fun Q hq => rvalid_a b fb _ hq) ?_ | with_reducible refine bAlike_a a b fa fb _ hTB ?_ | with_reducible refine bAlike_a b a fb fa _ hTB ?_ | with_reducible refine bAlike_a a a fa fa _ hTB ?_ | with_reducible refine bSat_a a fa 0 m fm (by omega) _ ?_ | with_reducible refine bSat_a b fb 0 m fm (by omega) _ ?_ | with_reducible refine bSmall_a a fa (fun _ => wa) _ hTB ?_ | omega)
    all_goals try rfl
    ·rename_i x
     have hx := hx_
     clear hx_
     have hT1 : Tabs (Bs.set x (.box (syC (smallS a)))) := hTB.le (heap_le_set hx)
     refine bSmall_a b fb (fun _ => wb) _ hT1 ?_
     rw [hSb]
     repeat' (first | with_reducible refine And.intro ?_ ?_ | simp only [go_sem,seval] | simp (disch := omega) only [wrap64, cell_at, oneB_at] | simp (disch := first | omega | grind) only [heap_ne_, del_ne] | (intro hx_; try simp only [set_none] at hx_) | omega)
     rename_i y
     have hy : (Bs.set x (.box (syC (smallS a)))) y = none := by rw [heap_ne _ hx_.1]; exact hx_.2
     clear hx_
     have hT2 : Tabs ((Bs.set x (.box (syC (smallS a)))).set y (.box (syC (smallS b)))) := hT1.le (heap_le_set hy)
     refine bAlike_a _ _ fsa fsb _ hT2 ?_
     rw [hSS]
     repeat' (first | with_reducible refine And.intro ?_ ?_ | simp only [go_sem,seval] | simp (disch := omega) only [wrap64, cell_at, oneB_at] | simp (disch := first | omega | grind) only [heap_ne_, del_ne] | (intro hx_; try simp only [set_none] at hx_) | with_reducible refine awake_a _ hT2 ?_ | omega)
     exact Fin.less (hle.trans ((heap_le_set hx).trans (heap_le_set hy))) h
    ·refine awake_a _ hTB ?_
     repeat' (first | with_reducible refine And.intro ?_ ?_ | simp only [go_sem,seval] | simp (disch := omega) only [wrap64, cell_at, oneB_at] | simp (disch := first | omega | grind) only [heap_ne_, del_ne] | (intro hx_; try simp only [set_none] at hx_) | omega)
     exact Fin.less hle h
   | false =>
    obtain ⟨xb, eb, hsb⟩ := satR_two b 0 m
    rw [hX] at hAB hBA hSS
    repeat' (first | with_reducible refine And.intro ?_ ?_ | simp only [go_sem,seval, e3, e4, e5, m3, m4, m5, va, vb, hAB, hBA, hAA, hsa, hsb, hSa, hSb] | simp (disch := omega) only [wrap64, cell_at, oneB_at] | simp (disch := first | omega | grind) only [heap_ne_, del_ne] | (intro hx_; try simp only [set_none] at hx_) | with_reducible refine callF0 rfl (fun Q hq => nodes_a m fm _ hq) ?_ | with_reducible refine callF0 rfl (fun Q hq => rvalid_a a fa _ hq) ?_ | with_reducible refine callF0 rfl (fun Q hq => rvalid_a b fb _ hq) ?_ | with_reducible refine bAlike_a a b fa fb _ hTB ?_ | with_reducible refine bAlike_a b a fb fa _ hTB ?_ | with_reducible refine bAlike_a a a fa fa _ hTB ?_ | with_reducible refine bSat_a a fa 0 m fm (by omega) _ ?_ | with_reducible refine bSat_a b fb 0 m fm (by omega) _ ?_ | with_reducible refine bSmall_a a fa (fun _ => wa) _ hTB ?_ | omega)
    all_goals try rfl
    ·rename_i x
     have hx := hx_
     clear hx_
     have hT1 : Tabs (Bs.set x (.box (syC (smallS a)))) := hTB.le (heap_le_set hx)
     refine bSmall_a b fb (fun _ => wb) _ hT1 ?_
     rw [hSb]
     repeat' (first | with_reducible refine And.intro ?_ ?_ | simp only [go_sem,seval] | simp (disch := omega) only [wrap64, cell_at, oneB_at] | simp (disch := first | omega | grind) only [heap_ne_, del_ne] | (intro hx_; try simp only [set_none] at hx_) | omega)
     rename_i y
     have hy : (Bs.set x (.box (syC (smallS a)))) y = none := by rw [heap_ne _ hx_.1]; exact hx_.2
     clear hx_
     have hT2 : Tabs ((Bs.set x (.box (syC (smallS a)))).set y (.box (syC (smallS b)))) := hT1.le (heap_le_set hy)
     refine bAlike_a _ _ fsa fsb _ hT2 ?_
     rw [hSS]
     repeat' (first | with_reducible refine And.intro ?_ ?_ | simp only [go_sem,seval] | simp (disch := omega) only [wrap64, cell_at, oneB_at] | simp (disch := first | omega | grind) only [heap_ne_, del_ne] | (intro hx_; try simp only [set_none] at hx_) | with_reducible refine awake_a _ hT2 ?_ | omega)
     exact Fin.less (hle.trans ((heap_le_set hx).trans (heap_le_set hy))) h
    ·refine awake_a _ hTB ?_
     repeat' (first | with_reducible refine And.intro ?_ ?_ | simp only [go_sem,seval] | simp (disch := omega) only [wrap64, cell_at, oneB_at] | simp (disch := first | omega | grind) only [heap_ne_, del_ne] | (intro hx_; try simp only [set_none] at hx_) | omega)
     exact Fin.less hle h
end Go.Proofs.YtmohcdihdhggoaaGreatDoor
end
section
set_option maxRecDepth 100000
namespace Go.Proofs.YtmohcdihdhggoaaGreatDoor
open Go Go.Av Go.Lexs Go.Bis
section
open Go.RowKit Go.ChangeShapes Go.WideShapes
end
theorem fits_mo (n : Nat) : ∀ (el : List D), SizeOf.sizeOf el ≤ n → Fits Tryz.prog 44 el → ∃ m : Mo, el = moC m ∧ MoFit m := by
 induction n with
 | zero => intro el hn; cases el <;> simp at hn
 | succ n ih =>
 intro el hn h
 have hre : reachBytes = 140737488351232 := rfl
 have hc : Tryz.prog.cellsOf 44 = 8 := by kernel_rfl
 have hb : Tryz.prog.bytesOf 44 = 128 := by kernel_rfl
 obtain ⟨ps, rfl, hl, hp⟩ := fits_struct Tryz.underlying44 h
 obtain ⟨p0, p1, p2, rfl⟩ := list_three ps hl
 obtain ⟨k, rfl, hk⟩ := fits_int (k := .i64) (by kernel_rfl) (hp 0 _ _ rfl rfl)
 obtain ⟨t, rfl, ht⟩ := fits_tm _ p1 (Nat.le_refl _) (hp 1 _ _ rfl rfl)
 obtain ⟨es, rfl, he, hes⟩ := fits_sl (e := 44) (by kernel_rfl) (hp 2 _ _ rfl rfl)
 rw [hc] at hn ⊢
 rw [hb] at he
 simp only [List.flatten_cons, List.flatten_nil, List.singleton_append, List.append_nil, List.cons.sizeOf_spec, List.nil.sizeOf_spec, D.sl.sizeOf_spec, List.cons_append, List.nil_append] at hn ⊢
 have hsz : SizeOf.sizeOf es < SizeOf.sizeOf (tmC t ++ [D.sl 8 es]) := by
  have hm : D.sl 8 es ∈ tmC t ++ [D.sl 8 es] := by simp
  have := List.sizeOf_lt_of_mem hm
  simp only [D.sl.sizeOf_spec] at this
  omega
 obtain ⟨ks, rfl, hks⟩ := rw_ex (f := moC) (p := MoFit) es (fun y hy => ih y (by have := List.sizeOf_lt_of_mem hy; omega) (hes y hy))
 rw [Rw_len] at he
 exact ⟨.mk k t ks, by rw [moC_tm]; rfl, .mk _ _ _ (wf_i64 hk) ht (by omega) hks⟩
theorem fitsV_mo {x : D} (h : FitsV Tryz.prog 44 x) : ∃ m : Mo, x = .agg (moC m) ∧ MoFit m := by
 obtain ⟨ds, rfl, hv⟩ := fitsV_struct Tryz.underlying44 h
 obtain ⟨m, rfl, hm⟩ := fits_mo _ ds (Nat.le_refl _) hv
 exact ⟨m, rfl, hm⟩
end Go.Proofs.YtmohcdihdhggoaaGreatDoor
end
section
set_option maxRecDepth 100000
namespace Go.Proofs.YtmohcdihdhggoaaGreatDoor.bisimFormulas
open Go Go.Av Go.Lexs Go.Bis Go.ChangeShapes Go.WideShapes Go.RowKit
theorem lifted (os : Os) (started : os.Started) (H : Type) (enc : TypeId × Value → H) (F : Stop.Interp) :
  ReturnsInHanded { calm := true } Tryz.checked os 7 .any (fun w args => (Rows.bisimFormulasSpec.pre enc Tryz.prog Tryz.f7 Rows.bisimFormulasRow.domain false w args ∧ laidMetH Tryz.prog Rows.bisimFormulasRow.laid w) ∧ sizedMet enc Tryz.prog Tryz.f7 (OpenSpec.ofChange Rows.bisimFormulasSpec) false w args)
   ((OpenSpec.ofChange Rows.bisimFormulasSpec).postWith enc Tryz.prog Tryz.f7 F (outsideKept [.timePasses]) false true false) := by
 refine Go.Clock.returns_of_change (C := Tryz.checked) (X := fun w _ => laidMetH Tryz.prog Rows.bisimFormulasRow.laid w) (fun _ _ _ hh h => h.of_heap hh) own started (by kernel_rfl) Tryz.func7
  (Go.Clock.witness_at (enc := enc) (C := Tryz.checked) (X := fun w _ => laidMetH Tryz.prog Rows.bisimFormulasRow.laid w) (World.laidAll Tryz.prog os Rows.bisimFormulasRow.laid) #[.agg #[.slice none 0 0, .slice none 0 0, .slice none 0 0], .agg #[.slice none 0 0, .slice none 0 0, .slice none 0 0], .agg #[.int .i64 0, .int .i64 0, .int .i64 0, .string ⟨#[]⟩, .string ⟨#[]⟩, .slice none 0 0, .slice none 0 0, .slice none 0 0]] 8 (World.laidAll_os _ _ _)
   (World.shaped_of_ZipB (by kernel_rfl) (by kernel_rfl)) (by kernel_rfl) (by kernel_rfl) (by kernel_rfl)
   (by rw [MakeChecks.laidMetH_plain _ _ _ (by kernel_rfl)]; exact laidMet_laidAll _ (by kernel_rfl) (by kernel_rfl))) ?_
 intro W base args ds gs before hval hW _ hsz hL _
 rw [MakeChecks.laidMetH_plain _ _ _ (by kernel_rfl)] at hL
 have hS := tabs_sat hL (by simp [Rows.bisimFormulasRow]) (by simp [Rows.bisimFormulasRow]) (by simp [Rows.bisimFormulasRow]) (by simp [Rows.bisimFormulasRow]) (by simp [Rows.bisimFormulasRow]) (by simp [Rows.bisimFormulasRow]) (by simp [Rows.bisimFormulasRow])
 have hW' := hW
 obtain ⟨p, q, hA0, hV, _, _, _⟩ := hW
 rw [Tryz.params7] at hA0 hval hsz
 obtain ⟨v0, v1, v2, d0, d1, d2, p0, p1, p2, rfl, rfl, rfl, h0, h1, h2⟩ := trodAll_three hA0
 obtain ⟨rfl, rfl⟩ := trodVars_none hV
 obtain ⟨x0, k0, r0⟩ := arg_fits plain28 tabs_held (by simp) (hval 0 _ _ rfl rfl) h0 (weightsEach_at hsz 0 _ _ rfl rfl)
 obtain ⟨x1, k1, r1⟩ := arg_fits plain28 tabs_held (by simp) (hval 1 _ _ rfl rfl) h1 (weightsEach_at hsz 1 _ _ rfl rfl)
 obtain ⟨x2, k2, r2⟩ := arg_fits plain28 tabs_held (by simp) (hval 2 _ _ rfl rfl) h2 (weightsEach_at hsz 2 _ _ rfl rfl)
 obtain ⟨a, rfl, fa⟩ := fits_sy k0
 obtain ⟨b, rfl, fb⟩ := fits_sy k1
 obtain ⟨m, rfl, fm⟩ := fitsV_mo k2
 have hre : reachBytes = 140737488351232 := rfl
 refine law_callsT laidOut (by kernel_rfl) rfl (tb := 4) (by kernel_rfl) (by kernel_rfl) rfl hW' tabs tabs_held hS [.agg (syC a), .agg (syC b), .agg (moC m)] rfl (fun i d hd => ?_) (fun Q hQ => lawFormulas_a a b m fa fb fm _ tabs_tabs hQ)
 match i, hd with
 | 0, hd => simp at hd; subst hd; exact r0
 | 1, hd => simp at hd; subst hd; exact r1
 | 2, hd => simp at hd; subst hd; exact r2
 | i + 3, hd => simp at hd
theorem said : Rows.BisimFormulasSaid :=
 Go.Clock.holds_of_wide_time 7 Tryz.f7 rfl rfl rfl rfl rfl rfl rfl ⟨rfl, rfl, rfl, rfl, rfl⟩ rfl rfl rfl rfl rfl (by kernel_rfl) Tryz.func7 (by kernel_rfl)
  (of_decide_eq_true (by kernel_rfl)) (by unfold Func.isWrapper; first | (rw [if_pos (by decide +kernel)]; kernel_rfl) | (rw [if_neg (by decide +kernel)]; exact ⟨rfl, rfl⟩))
  (fun os started H enc _ F => lifted os started H enc F)
theorem plain (f : FuncId) (fn : Func) (hf : Tryz.pinned.checked.prog.funcNamed "voussoir/voussoirlaw28.BisimFormulas" = some f) (hfn : Tryz.pinned.checked.prog.funcs[f]? = some fn) :
  false = Tryz.pinned.checked.prog.looks [] ∧ ∀ (j : Nat) t, fn.params[j]? = some t → Tryz.pinned.checked.prog.wantsStandIn t = false := by
 obtain rfl : f = 7 := Option.some.inj ((show Tryz.prog.funcNamed "voussoir/voussoirlaw28.BisimFormulas" = some 7 by kernel_rfl).symm.trans hf) |>.symm
 obtain rfl : fn = Tryz.f7 := (Option.some.inj (Tryz.func7.symm.trans hfn)).symm
 refine ⟨by kernel_rfl, fun j t ht => ?_⟩
 have hall : ((Tryz.f7.params.toList).all fun u => !Tryz.prog.wantsStandIn u) = true := by kernel_rfl
 have := List.all_eq_true.1 hall t (by rw [Array.mem_toList_iff]; exact Array.mem_of_getElem? ht)
 exact (by simpa using this : Tryz.prog.wantsStandIn t = false)
theorem card : Rows.BisimFormulasCardSaid :=
 Claim7.holds_tied_plain_at .later [] _ _ _ _ said (fun _ h => by cases h) (by kernel_rfl) (fun _ h => by cases h) bisimFormulas_row_tie rfl ⟨rfl, rfl⟩ (by kernel_rfl) rfl plain (by kernel_rfl)
end Go.Proofs.YtmohcdihdhggoaaGreatDoor.bisimFormulas
namespace Go.Proofs.YtmohcdihdhggoaaGreatDoor
theorem bisimFormulas_holds : Rows.BisimFormulasCardSaid := bisimFormulas.card
end Go.Proofs.YtmohcdihdhggoaaGreatDoor
end
