/- BisimSat, proved: for every input the law returns true, and the arguments read as before; the listed tables hold what the program's text lays (the card). No other condition than the row's own. -/
import Derived.Test.YtmohcdihdhggoaaGreatDoorRows
import Derived.Test.YtmohcdihdhggoaaGreatDoorCards
import Derived.Test.YtmohcdihdhggoaaGreatDoorTie
import Derived.Test.YtmohcdihdhggoaaGreatDoorK6
set_option linter.unusedSimpArgs false
set_option linter.unusedVariables false
section
namespace Go.Av
section
variable {P : Program} {Z : List (Nat × Rc)} {Q : AX → Env → Heap → Prop} {E : Env} {H : Heap} {K : Env → Heap → Prop} {gs : List (Option Nat)} {l : List Oper} {KD : D → Heap → Prop} {ev : Operand → D} {bl : List Nat}
theorem rg_mk {gs : List (Option Nat)} {ops : List Oper} (bl : List Nat) (h : ∀ k ∈ bl, H k ≠ none) (h2 : wpOpsF P bl gs K ops E H) : raceK P gs ops K E H (some .rg) := ⟨bl, h, h2⟩
attribute [go_sem low] condA_bool
attribute [go_sem low] guardK_bool
attribute [go_sem low] guardF_bool
@[go_sem high] theorem guardF_ff (dst : Option Nat) (op : Op) (s : Nat) : guardF P bl gs K l dst op s (.bool false) false E H = wpOpF P bl (Env.ev ((s, .bool false) :: E)) H (opFK P bl gs K l dst ((s, .bool false) :: E)) op := by rw [guardF_bool]; simp
@[go_sem high] theorem guardF_tf (dst : Option Nat) (op : Op) (s : Nat) : guardF P bl gs K l dst op s (.bool true) false E H = wpOpsF P bl gs K l (Env.put ((s, .bool true) :: E) dst (.tuple [])) H := by rw [guardF_bool]; simp
def roH (H : Heap) : Heap := fun k => match H k with
 | some (.ro cs) => some (.ro cs)
 | _ => none
theorem roH_le (H : Heap) : (roH H).Le H := fun k o h => by
 unfold roH at h
 split at h
 ·rename_i cs e; cases h; exact e
 ·cases h
theorem roH_held (H : Heap) (k : Nat) : (roH H).held k = false := by
 cases h : roH H k with
 | none => exact held_none h
 | some o =>
  have h2 := h
  unfold roH at h2
  split at h2
  ·cases h2; rw [held_of h]; rfl
  ·cases h2
theorem sub_ro (H : Heap) : H.sub (roH H) = H := by
 funext k; unfold Heap.sub; rw [roH_held]; simp
def oneB (H : Heap) (b : Nat) : Heap := fun k => if k = b then H k else roH H k
theorem oneB_le (H : Heap) (b : Nat) : (oneB H b).Le H := fun k x e => by
 unfold oneB at e
 split at e
 ·exact e
 ·exact roH_le H k x e
theorem oneB_at (H : Heap) (b : Nat) : oneB H b b = H b := if_pos rfl
theorem oneB_held {H : Heap} {b k : Nat} (h : k ≠ b) : (oneB H b).held k = false := by
 have : (oneB H b) k = (roH H) k := if_neg h
 rw [held_ne this]; exact roH_held H k
theorem sub_one {H : Heap} {b : Nat} {o : Obj} (hb : H b = some o) (hr : o.rw = true) : H.sub (oneB H b) = H.del b := by
 funext k; unfold Heap.sub Heap.del
 by_cases e : k = b
 ·subst e
  have : (oneB H k).held k = true := by rw [held_ne (oneB_at H k), held_of hb]; exact hr
  rw [if_pos this, if_pos rfl]
 ·rw [oneB_held e, if_neg e]; simp
def callF (P : Program) (bl : List Nat) (f : D) (args : List D) (H : Heap) (K : D → Heap → Prop) : Prop := ∃ Hc : Heap, Hc.Le H ∧ (∀ k ∈ bl, Hc.held k = false) ∧ callA P f args Hc (fun d _ => flatD d = true ∧ K d (H.sub Hc))
theorem callF0 {g : Nat} {args : List D} {c : D} (hc : flatD c = true) (h : ∀ (Q : D → Heap → Prop), Q c (roH H) → ACalls P g args (roH H) Q) (hk : KD c H) : callF P bl (.fn (.func g) [] []) args H KD := by
 refine ⟨roH H, roH_le H, fun k _ => roH_held H k, ?_⟩
 show ACalls P g ([] ++ args ++ []) _ _
 rw [List.nil_append, List.append_nil, sub_ro]; exact h _ ⟨hc, hk⟩
theorem callF1 {g b : Nat} {o : Obj} {args : List D} (hb : H b = some o) (hr : o.rw = true) (hn : b ∉ bl) (h : ACalls P g args (oneB H b) (fun d _ => flatD d = true ∧ KD d (H.del b))) : callF P bl (.fn (.func g) [] []) args H KD := by
 refine ⟨oneB H b, oneB_le H b, fun k hk => oneB_held (fun e => hn (by rw [← e]; exact hk)), ?_⟩
 show ACalls P g ([] ++ args ++ []) _ _
 rw [List.nil_append, List.append_nil, sub_one hb hr]; exact h
variable {sx : Bool} {bl : List Nat}
@[go_sem] theorem f_move (x : Operand) : wpOpF P bl ev H KD (.move x) = wpOp P ev H KD (.move x) := by show (_ = _ ∧ _) = _; simp [cls]
@[go_sem] theorem f_pick (a b c : Operand) : wpOpF P bl ev H KD (.pick a b c) = wpOp P ev H KD (.pick a b c) := by show (_ = _ ∧ _) = _; simp [cls]
@[go_sem] theorem f_bin (op : BinOp) (t : Nat) (x y : Operand) (yt : Nat) : wpOpF P bl ev H KD (.binOp op t x y yt) = wpOp P ev H KD (.binOp op t x y yt) := by show (_ = _ ∧ _) = _; simp [cls]
@[go_sem] theorem f_un (op : UnOp) (t : Nat) (x : Operand) : wpOpF P bl ev H KD (.unOp op t x) = wpOp P ev H KD (.unOp op t x) := by show (_ = _ ∧ _) = _; simp [cls]
@[go_sem] theorem f_fa (t : Nat) (x : Operand) (f : Nat) : wpOpF P bl ev H KD (.fieldAddr t x f) = wpOp P ev H KD (.fieldAddr t x f) := by show (_ = _ ∧ _) = _; simp [cls]
@[go_sem] theorem f_call (f : Operand) (args : List Operand) (ts : Array Nat) : wpOpF P bl ev H KD (.call ⟨.value f, args.toArray, ts⟩) = callF P bl (ev f) (args.map ev) H KD := by
 show (∃ Hc : Heap, _ ∧ _ ∧ wpOp P ev Hc _ _) = _
 unfold callF
 simp only [s_call]
variable {t : Nat} {c : Bool} {k : IntKind} {a b : Int}
@[go_sem] theorem b_mul : binD P .mul t c (.int k a) (.int k b) = some (.int k (k.wrap (a * b))) := by simp [binD, intD]
variable {t : Nat}
end
end Go.Av
end
section
set_option maxRecDepth 20000
namespace Go.Bis
open Go Go.Av Go.Lexs
noncomputable def leadsV (s : Sy) : List (List Bool) := (List.range s.seen.length).map (rowV (nxS s) s.seen.length)
theorem leadsV_length (s : Sy) : (leadsV s).length = s.seen.length := by simp [leadsV]
end Go.Bis
namespace Go.Proofs.YtmohcdihdhggoaaGreatDoor
open Go Go.Av Go.Lexs Go.Bis
attribute [local irreducible] ACalls at8
theorem rLeads_a {Q} (s : Sy) (hs : SyFit s) (ho : SyOk s) (H : Heap) (h : Q (.sl 1 (Rw boolsC (leadsV s))) H) : ACalls Tryz.prog 51 [.agg (syC s)] H Q := by
 refine acalls_of_wp [] Tryz.mixed Tryz.func51 rfl (by kernel_rfl) (of_decide_eq_true (by kernel_rfl)) (by kernel_rfl) ?_
 simp only [go_sem,seval, Tryz.results51]
 have hn := ho.n
 have hxl := ho.x
 intro b1 hb1
 repeat' (first | with_reducible refine And.intro ?_ ?_ | simp only [go_sem,seval] | simp (disch := omega) only [wrap64, cell_at, Rw_at, nxS_at] | simp (disch := first | omega | grind) only [heap_ne_, del_ne] | (intro hx_; try simp only [set_none] at hx_) | omega)
 refine loop_c [1, 3, 16] (fun (p : Nat × Option Nat) => [(17, .int .i64 p.1), (4, outG 1 p.1 p.2)]) (fun (p : Nat × Option Nat) => putB (H.set b1 (.box (syC s))) 1 (Rw boolsC ((leadsV s).take p.1)) p.2) (fun (p : Nat × Option Nat) => p.1 ≤ s.seen.length ∧ (p.2 = none → p.1 = 0) ∧ ∀ b, p.2 = some b → (H.set b1 (.box (syC s))) b = none) (fun (p : Nat × Option Nat) => s.seen.length - p.1) ((0, none)) (⟨Nat.zero_le _, fun _ => rfl, fun b e => by cases e⟩) (by (try simp only [go_sem,seval]) <;> (try simp (disch := omega) [wrap64]) <;> (try omega)) (by first | with_reducible exact Heap.Le.refl _ | exact heap_set_le (by assumption) | exact Heap.Le.refl _ | exact heap_le_set (by assumption) | exact (by simp only [Go.Av.Heap.Le, Go.Av.Heap.set, Go.Av.Heap.del] at * <;> grind)) ?_
 rintro Ec rfl ⟨i, ob⟩ ⟨hi, h0, h1⟩
 simp only at hi h0 h1
 have hin := OutIn.mk (H := H.set b1 (.box (syC s))) (sz := 1) (es := Rw boolsC ((leadsV s).take i)) (ob := ob) (fun e => by rw [h0 e]; rfl) h1
 by_cases hlt : i < s.seen.length
 ·have hkd : decide ((i : Int) < s.seen.length) = true := decide_eq_true (by omega)
  have hrp : i < (List.replicate s.seen.length false).length := by simp; omega
  repeat' (first | with_reducible refine And.intro ?_ ?_ | simp only [go_sem,seval, hkd, List.length_replicate, rep_b, Rw_at _ _ hrp, set_b] | simp (disch := omega) only [wrap64, cell_at, Rw_at, nxS_at] | simp (disch := first | omega | grind) only [heap_ne_, del_ne] | (intro hx_; try simp only [set_none] at hx_) | omega)
  rename_i b2
  have hf2 := hx_
  clear hx_
  generalize hHc : putB (H.set b1 (.box (syC s))) 1 (Rw boolsC ((leadsV s).take i)) ob = Hc at hf2 hin ⊢
  have hbx : Hc b1 = some (.box (syC s)) := hin.1 _ _ (heap_same _ _)
  have hn0 : ((List.replicate s.seen.length false).set i true).length = s.seen.length := by simp
  refine loop_c [1, 3, 4, 6, 16, 17] (fun (p : List Bool × Bool) => [(7, .bool p.2)]) (fun (p : List Bool × Bool) => Hc.set b2 (.vec 1 (Rw boolC p.1))) (fun (p : List Bool × Bool) => p.1.length = s.seen.length ∧ p.1[i]? = some true ∧ Snd (nxS s) i p.1 ∧ (p.2 = false → ∀ k, ClAt (nxS s) p.1 k)) (fun (p : List Bool × Bool) => p.1.count false + (if p.2 then 1 else 0)) (((List.replicate s.seen.length false).set i true, true)) (⟨hn0, mark_there (by simp; omega), Snd.start, fun e => by cases e⟩) (by (try simp only [go_sem,seval]) <;> (try simp (disch := omega) [wrap64]) <;> (try omega)) (by first | with_reducible exact Heap.Le.refl _ | exact heap_set_le (by assumption) | exact Heap.Le.refl _ | exact heap_le_set (by assumption) | exact (by simp only [Go.Av.Heap.Le, Go.Av.Heap.set, Go.Av.Heap.del] at * <;> grind)) ?_
  rintro Ec2 rfl ⟨v, more⟩ ⟨v1, v2, v3, v4⟩
  simp only at v1 v2 v3 v4
  have hin2 : OutIn (H.set b1 (.box (syC s))) 1 (Rw boolsC ((leadsV s).take i)) ob (Hc.set b2 (.vec 1 (Rw boolC v))) := OutIn.set hin hf2 _
  cases more with
  | false =>
   have hrow : v = rowV (nxS s) s.seen.length i := rowV_of v1 v2 v3 (v4 rfl)
   repeat' (first | with_reducible refine And.intro ?_ ?_ | simp only [go_sem,seval] | simp (disch := omega) only [wrap64, cell_at, Rw_at, nxS_at] | simp (disch := first | omega | grind) only [heap_ne_, del_ne] | (intro hx_; try simp only [set_none] at hx_) | omega)
   rename_i b3
   have hb3 := hx_
   clear hx_
   have h32 : b3 ≠ b2 := by intro e; rw [e] at hb3; simp [Heap.set] at hb3
   have hd2 : delB ((Hc.set b2 (.vec 1 (Rw boolC v))).set b3 (.vec 1 [[.vec b2 1 0 s.seen.length]])) ob b2 = some (.vec 1 (Rw boolC v)) := by
    cases ob with
    | none => simp [delB, Heap.set, Ne.symm h32]
    | some c =>
     have hc2 : c ≠ b2 := by
      intro e
      have := hin.2.1
      rw [e] at this
      exact absurd (this.symm.trans hf2) (by simp)
     simp [delB, Heap.del, Heap.set, Ne.symm h32, Ne.symm hc2]
   have hlv : i < (leadsV s).length := by rw [leadsV_length]; exact hlt
   refine apS_q (by first | exact hin2 | exact OutIn.set (hin2) (by first | assumption | (refine set_none.2 ?_; assumption) | (simp only [set_none]; assumption) | (simp only [set_none] at *; simp_all; done)) _ | exact OutIn.set (OutIn.set (hin2) (by first | assumption | (refine set_none.2 ?_; assumption) | (simp only [set_none]; assumption) | (simp only [set_none] at *; simp_all; done)) _) (by first | assumption | (refine set_none.2 ?_; assumption) | (simp only [set_none]; assumption) | (simp only [set_none] at *; simp_all; done)) _ | exact OutIn.set (OutIn.set (OutIn.set (hin2) (by first | assumption | (refine set_none.2 ?_; assumption) | (simp only [set_none]; assumption) | (simp only [set_none] at *; simp_all; done)) _) (by first | assumption | (refine set_none.2 ?_; assumption) | (simp only [set_none]; assumption) | (simp only [set_none] at *; simp_all; done)) _) (by first | assumption | (refine set_none.2 ?_; assumption) | (simp only [set_none]; assumption) | (simp only [set_none] at *; simp_all; done)) _ | exact OutIn.set (OutIn.set (OutIn.set (OutIn.set (hin2) (by first | assumption | (refine set_none.2 ?_; assumption) | (simp only [set_none]; assumption) | (simp only [set_none] at *; simp_all; done)) _) (by first | assumption | (refine set_none.2 ?_; assumption) | (simp only [set_none]; assumption) | (simp only [set_none] at *; simp_all; done)) _) (by first | assumption | (refine set_none.2 ?_; assumption) | (simp only [set_none]; assumption) | (simp only [set_none] at *; simp_all; done)) _) (by first | assumption | (refine set_none.2 ?_; assumption) | (simp only [set_none]; assumption) | (simp only [set_none] at *; simp_all; done)) _ ) (by simp) (by first | rfl | (simp only [go_sem,seval, Rw_take_len]; done) | (simp only [go_sem,seval, Rw_take_len]; omega) | simp | (simp; omega)) (by simp only [List.length_cons, List.length_nil]; omega) (by simp only [List.length_cons, List.length_nil]; omega) fun b' hb' hb2 hle => ?_
   have hne : b2 ≠ b' := by intro e; rw [← e] at hb2; rw [hd2] at hb2; cases hb2
   repeat' (first | with_reducible refine And.intro ?_ ?_ | simp only [go_sem,seval] | simp (disch := omega) only [wrap64, cell_at, Rw_at, nxS_at] | simp (disch := first | omega | grind) only [heap_ne_, del_ne] | (intro hx_; try simp only [set_none] at hx_) | omega)
   refine nx_w (i + 1, some b') ⟨by simp only []; omega, (fun e => by cases e), fun b e => by cases e; exact hb'⟩ (by simp only []; omega) ?_
   have hrow2 : (leadsV s)[i] = v := by rw [hrow]; simp [leadsV]
   have e5 : Rw boolsC ((leadsV s).take (i + 1)) = Rw boolsC ((leadsV s).take i) ++ [[.sl 1 (Rw boolC v)]] := by rw [Rw_take_succ _ _ hlv, hrow2]; rfl
   have hb2n : (H.set b1 (.box (syC s))) b2 = none := hin.1.none hf2
   simp only [putB]
   rw [e5]
   refine weak_row (m := b2) ?_ ?_ (by rw [heap_same]) (by rw [heap_ne _ hne]; exact hd2) hne (fun k o hk ho => ⟨fun e => ?_, hle _ k o ?_⟩)
   ·exact (by (try simp only [go_sem,seval]) <;> (try simp (disch := omega) [wrap64]) <;> (try omega))
   ·rw [Rw_len, v1]
   ·rw [e] at ho
    exact absurd (ho.symm.trans hb2n) (by simp)
   ·unfold Heap.set at ho ⊢
    rw [if_neg hk]; exact ho
  | true =>
   repeat' (first | with_reducible refine And.intro ?_ ?_ | simp only [go_sem,seval] | simp (disch := omega) only [wrap64, cell_at, Rw_at, nxS_at] | simp (disch := first | omega | grind) only [heap_ne_, del_ne] | (intro hx_; try simp only [set_none] at hx_) | omega)
   refine loop_c [1, 3, 4, 6, 16, 17, 27] (fun (p : Nat × List Bool × Bool) => [(28, .int .i64 p.1), (7, .bool p.2.2)]) (fun (p : Nat × List Bool × Bool) => Hc.set b2 (.vec 1 (Rw boolC p.2.1))) (fun (p : Nat × List Bool × Bool) => p.1 ≤ s.seen.length ∧ p.2.1.length = s.seen.length ∧ p.2.1[i]? = some true ∧ Snd (nxS s) i p.2.1 ∧ p.2.1.count false ≤ v.count false ∧ (p.2.2 = true → p.2.1.count false < v.count false) ∧ (p.2.2 = false → p.2.1 = v ∧ ∀ j, j < p.1 → ClAt (nxS s) v j)) (fun (p : Nat × List Bool × Bool) => s.seen.length - p.1) ((0, v, false)) (⟨Nat.zero_le _, v1, v2, v3, Nat.le_refl _, (fun e => by cases e), fun _ => ⟨rfl, fun j hj => absurd hj (Nat.not_lt_zero _)⟩⟩) (by (try simp only [go_sem,seval]) <;> (try simp (disch := omega) [wrap64]) <;> (try omega)) (by first | with_reducible exact Heap.Le.refl _ | exact heap_set_le (by assumption) | exact Heap.Le.refl _ | exact heap_le_set (by assumption) | exact (by simp only [Go.Av.Heap.Le, Go.Av.Heap.set, Go.Av.Heap.del] at * <;> grind)) ?_
   rintro Ec3 rfl ⟨k, u, m2⟩ ⟨u0, u1, u2, u3, u4, u5, u6⟩
   simp only at u0 u1 u2 u3 u4 u5 u6
   by_cases hkt : k < s.seen.length
   ·have hkk : decide ((k : Int) < s.seen.length) = true := decide_eq_true (by omega)
    have hku : k < u.length := by omega
    have hki : (k : Int) < s.seen.length := by omega
    have hkx : k < s.next.length := by omega
    have hil := hs.il s.next[k] (List.getElem_mem hkx)
    cases huk : u[k] with
    | false =>
     repeat' (first | with_reducible refine And.intro ?_ ?_ | simp only [go_sem,seval, hkk, hki, hbx, Rw_get _ _ hku, huk] | simp (disch := omega) only [wrap64, cell_at, Rw_at, nxS_at] | simp (disch := first | omega | grind) only [heap_ne_, del_ne] | (intro hx_; try simp only [set_none] at hx_) | omega)
     refine nx_mk (k + 1, u, m2) ⟨by simp only []; omega, u1, u2, u3, u4, u5, fun e => ?_⟩ (by simp only []; omega) (by (try simp only [go_sem,seval]) <;> (try simp (disch := omega) [wrap64]) <;> (try omega)) (Heap.Le.refl _)
     obtain ⟨e1, e2⟩ := u6 e
     refine ⟨e1, fun j hj => ?_⟩
     by_cases hjk : j = k
     ·subst hjk
      intro hv
      rw [← e1, List.getElem?_eq_getElem hku, huk] at hv
      cases hv
     ·exact e2 j (by simp only [] at hj; omega)
    | true =>
     repeat' (first | with_reducible refine And.intro ?_ ?_ | simp only [go_sem,seval, hkk, hki, hbx, Rw_get _ _ hku, huk, Rw_at _ _ hkx] | simp (disch := omega) only [wrap64, cell_at, Rw_at, nxS_at] | simp (disch := first | omega | grind) only [heap_ne_, del_ne] | (intro hx_; try simp only [set_none] at hx_) | omega)
     have hnx := nxS_at hkx
     refine loop_c [1, 3, 4, 6, 16, 17, 27, 28, 40, 41] (fun (p : Nat × List Bool × Bool) => [(42, .int .i64 p.1), (7, .bool p.2.2)]) (fun (p : Nat × List Bool × Bool) => Hc.set b2 (.vec 1 (Rw boolC p.2.1))) (fun (p : Nat × List Bool × Bool) => p.1 ≤ s.next[k].length ∧ p.2.1.length = s.seen.length ∧ p.2.1[i]? = some true ∧ Snd (nxS s) i p.2.1 ∧ p.2.1.count false ≤ v.count false ∧ (p.2.2 = true → p.2.1.count false < v.count false) ∧ p.2.1[k]? = some true ∧ (p.2.2 = false → p.2.1 = v ∧ (∀ j, j < k → ClAt (nxS s) v j) ∧ ∀ m ∈ (s.next[k].take p.1).map Int.toNat, v[m]? = some true)) (fun (p : Nat × List Bool × Bool) => s.next[k].length - p.1) ((0, u, m2)) (⟨Nat.zero_le _, u1, u2, u3, u4, u5, (by rw [List.getElem?_eq_getElem hku, huk]), fun e => ⟨(u6 e).1, (u6 e).2, fun m hm => by simp at hm⟩⟩) (by (try simp only [go_sem,seval]) <;> (try simp (disch := omega) [wrap64]) <;> (try omega)) (by first | with_reducible exact Heap.Le.refl _ | exact heap_set_le (by assumption) | exact Heap.Le.refl _ | exact heap_le_set (by assumption) | exact (by simp only [Go.Av.Heap.Le, Go.Av.Heap.set, Go.Av.Heap.del] at * <;> grind)) ?_
     rintro Ec4 rfl ⟨j, q, m3⟩ ⟨w0, w1, w2, w3, w4, w5, w7, w6⟩
     simp only at w0 w1 w2 w3 w4 w5 w6 w7
     by_cases hjt : j < s.next[k].length
     ·have hjj : decide ((j : Int) < s.next[k].length) = true := decide_eq_true (by omega)
      obtain ⟨r1, r2⟩ := ho.r _ (List.getElem_mem hkx) _ (List.getElem_mem hjt)
      have hqm : (s.next[k][j]).toNat < q.length := by omega
      have hmem : (s.next[k][j]).toNat ∈ nxS s k := by rw [hnx]; exact List.mem_map.2 ⟨_, List.getElem_mem hjt, rfl⟩
      have htk : s.next[k].take (j + 1) = s.next[k].take j ++ [s.next[k][j]] := List.take_succ_eq_append_getElem hjt
      cases hqv : q[(s.next[k][j]).toNat] with
      | false =>
       have hq2 : q[(s.next[k][j]).toNat]? = some false := by rw [List.getElem?_eq_getElem hqm, hqv]
       have hct := mark_count hq2
       repeat' (first | with_reducible refine And.intro ?_ ?_ | simp only [go_sem,seval, hjj, r1, r2, hbx, Rw_at _ _ hjt, Rw_get _ _ hqm, Rw_at _ _ hqm, hqv, set_b] | simp (disch := omega) only [wrap64, cell_at, Rw_at, nxS_at] | simp (disch := first | omega | grind) only [heap_ne_, del_ne] | (intro hx_; try simp only [set_none] at hx_) | omega)
       refine nx_mk (j + 1, q.set (s.next[k][j]).toNat true, true) ⟨by simp only []; omega, by simp only [List.length_set]; exact w1, mark_keep w2, w3.set w7 hmem, by simp only []; omega, fun _ => by simp only []; omega, mark_keep w7, fun e => by cases e⟩ (by simp only []; omega) (by (try simp only [go_sem,seval]) <;> (try simp (disch := omega) [wrap64]) <;> (try omega)) (Heap.Le.refl _)
      | true =>
       repeat' (first | with_reducible refine And.intro ?_ ?_ | simp only [go_sem,seval, hjj, r1, r2, hbx, Rw_at _ _ hjt, Rw_get _ _ hqm, hqv] | simp (disch := omega) only [wrap64, cell_at, Rw_at, nxS_at] | simp (disch := first | omega | grind) only [heap_ne_, del_ne] | (intro hx_; try simp only [set_none] at hx_) | omega)
       refine nx_mk (j + 1, q, m3) ⟨by simp only []; omega, w1, w2, w3, w4, w5, w7, fun e => ⟨(w6 e).1, (w6 e).2.1, fun m hm => ?_⟩⟩ (by simp only []; omega) (by (try simp only [go_sem,seval]) <;> (try simp (disch := omega) [wrap64]) <;> (try omega)) (Heap.Le.refl _)
       simp only [] at hm
       rw [htk, List.map_append, List.mem_append] at hm
       rcases hm with hm | hm
       ·exact (w6 e).2.2 m hm
       ·simp only [List.map_cons, List.map_nil, List.mem_singleton] at hm
        rw [hm, ← (w6 e).1, List.getElem?_eq_getElem hqm, hqv]
     ·have hjj : decide ((j : Int) < s.next[k].length) = false := decide_eq_false (by omega)
      repeat' (first | with_reducible refine And.intro ?_ ?_ | simp only [go_sem,seval, hjj] | simp (disch := omega) only [wrap64, cell_at, Rw_at, nxS_at] | simp (disch := first | omega | grind) only [heap_ne_, del_ne] | (intro hx_; try simp only [set_none] at hx_) | omega)
      refine nx_mk (k + 1, q, m3) ⟨by simp only []; omega, w1, w2, w3, w4, w5, fun e => ⟨(w6 e).1, fun j' hj' => ?_⟩⟩ (by simp only []; omega) (by (try simp only [go_sem,seval]) <;> (try simp (disch := omega) [wrap64]) <;> (try omega)) (Heap.Le.refl _)
      by_cases hjk : j' < k
      ·exact (w6 e).2.1 j' hjk
      ·obtain rfl : j' = k := by simp only [] at hj'; omega
       intro _ m hm
       rw [hnx] at hm
       exact (w6 e).2.2 m (by rw [List.take_of_length_le (by omega)]; exact hm)
   ·have hkk : decide ((k : Int) < s.seen.length) = false := decide_eq_false (by omega)
    repeat' (first | with_reducible refine And.intro ?_ ?_ | simp only [go_sem,seval, hkk] | simp (disch := omega) only [wrap64, cell_at, Rw_at, nxS_at] | simp (disch := first | omega | grind) only [heap_ne_, del_ne] | (intro hx_; try simp only [set_none] at hx_) | omega)
    refine nx_mk (u, m2) ⟨u1, u2, u3, fun e => ?_⟩ ?_ (by (try simp only [go_sem,seval]) <;> (try simp (disch := omega) [wrap64]) <;> (try omega)) (Heap.Le.refl _)
    ·obtain ⟨e1, e2⟩ := u6 e
     intro j
     by_cases hj : j < k
     ·simp only []; rw [e1]; exact e2 j hj
     ·intro hv
      have := (List.getElem?_eq_some_iff.1 hv).1
      simp only [] at this
      omega
    ·cases m2 with
     | true => have := u5 rfl; simp; omega
     | false => have := u4; simp; omega
 ·have hkd : decide ((i : Int) < s.seen.length) = false := decide_eq_false (by omega)
  repeat' (first | with_reducible refine And.intro ?_ ?_ | simp only [go_sem,seval, hkd] | simp (disch := omega) only [wrap64, cell_at, Rw_at, nxS_at] | simp (disch := first | omega | grind) only [heap_ne_, del_ne] | (intro hx_; try simp only [set_none] at hx_) | omega)
  exact Fin.o (hin.less (heap_le_set hb1)) (Rw_take_len _ i (by rw [leadsV_length]; omega)).symm (by rw [Rw_take_all _ i (by rw [leadsV_length]; omega)]; exact h)
end Go.Proofs.YtmohcdihdhggoaaGreatDoor
end
section
set_option maxRecDepth 20000
namespace Go.Av
end Go.Av
namespace Go.Bis
open Go Go.Av Go.Lexs
namespace Mo
end Mo
theorem moC_tm (m : Mo) : moC m = .int .i64 m.op :: (tmC m.term ++ [.sl 8 (Rw moC m.kids)]) := by rw [moC_eta, tmC_eta]; rfl
theorem nodR_eq (m : Mo) (d : Nat) : nodR m d = if 200 < d then 2001 else nodL m.kids d 1 := by cases m; rw [nodR]; rfl
theorem nodL_cons (k : Mo) (ks : List Mo) (d n : Nat) : nodL (k :: ks) d n = nodL ks d (if n ≤ 2000 then n + nodR k (d + 1) else n) := by rw [nodL]
theorem nod_iff (m : Mo) : nodR m 1 ≤ 2000 ↔ cntM m ≤ 2000 ∧ deepM m ≤ 200 := by
 rw [(nodR_iff m 1).1]; omega
end Go.Bis
end
section
set_option maxRecDepth 20000
namespace Go.Bis
open Go Go.Av Go.Lexs
end Go.Bis
namespace Go.Proofs.YtmohcdihdhggoaaGreatDoor
open Go Go.Av Go.Lexs Go.Bis
attribute [local irreducible] ACalls at8
theorem rSame0_a {Q} (a : Tm) (ha : TmFit a) (H : Heap) (h : Q (.bool (eqT a zeroT)) H) : ACalls Tryz.prog 60 [.agg (tmC a), .agg [.int .i64 0, .int .i64 0, .str ⟨#[]⟩, .str ⟨#[]⟩, .nilsl, .nilsl]] H Q :=
 ACalls.agg2 (by rw [tmC_len]; rfl) zeroC (rSame_a a zeroT ha zeroT_fit H h)
theorem nodes_n (n : Nat) : ∀ {Q} (m : Mo) (d : Nat) (hn : SizeOf.sizeOf m ≤ n) (hm : MoFit m) (hd : d ≤ 201) (H : Heap) (h : Q (.int .i64 (nodR m d)) H), ACalls Tryz.prog 22 [.agg (moC m), .int .i64 d] H Q := by
 induction n with
 | zero => intro Q m d hn; cases m; simp at hn
 | succ n ih =>
 intro Q m d hn hm hd H h
 refine acalls_of_wp [] Tryz.mixed Tryz.func22 rfl (by kernel_rfl) (of_decide_eq_true (by kernel_rfl)) (by kernel_rfl) ?_
 simp only [go_sem,seval, Tryz.results22]
 have hl := hm.l
 rw [nodR_eq] at h
 intro b1 hb1
 have e1 : (H.set b1 (.box (moC m))) b1 = some (.box (moC m)) := heap_same _ _
 have hle : H.Le (H.set b1 (.box (moC m))) := heap_le_set hb1
 generalize H.set b1 (.box (moC m)) = Bs at e1 hle ⊢
 by_cases hd2 : 200 < d
 ·have hdd : decide ((200 : Int) < d) = true := decide_eq_true (by omega)
  rw [if_pos hd2] at h
  repeat' (first | with_reducible refine And.intro ?_ ?_ | simp only [go_sem,seval, hdd, e1] | simp (disch := omega) only [wrap64, cell_at, Rw_at] | simp (disch := first | omega | grind) only [heap_ne_, del_ne] | (intro hx_; try simp only [set_none] at hx_) | omega)
  exact Fin.less hle h
 ·have hdd : decide ((200 : Int) < d) = false := decide_eq_false (by omega)
  rw [if_neg hd2] at h
  repeat' (first | with_reducible refine And.intro ?_ ?_ | simp only [go_sem,seval, hdd, e1] | simp (disch := omega) only [wrap64, cell_at, Rw_at] | simp (disch := first | omega | grind) only [heap_ne_, del_ne] | (intro hx_; try simp only [set_none] at hx_) | omega)
  refine loop_c [1, 11, 12] (fun (p : Nat × Nat) => [(13, .int .i64 p.1), (5, .int .i64 p.2)]) (fun (p : Nat × Nat) => Bs) (fun (p : Nat × Nat) => p.1 ≤ m.kids.length ∧ nodL (m.kids.drop p.1) d p.2 = nodL m.kids d 1 ∧ p.2 ≤ 1000000) (fun (p : Nat × Nat) => m.kids.length - p.1) ((0, 1)) (⟨Nat.zero_le _, rfl, by simp⟩) (by (try simp only [go_sem,seval]) <;> (try simp (disch := omega) [wrap64]) <;> (try omega)) (by first | with_reducible exact Heap.Le.refl _ | exact heap_set_le (by assumption) | exact Heap.Le.refl _ | exact heap_le_set (by assumption) | exact (by simp only [Go.Av.Heap.Le, Go.Av.Heap.set, Go.Av.Heap.del] at * <;> grind)) ?_
  rintro Ec rfl ⟨k, c⟩ ⟨q1, q2, q3⟩
  simp only at q1 q2 q3
  by_cases hlt : k < m.kids.length
  ·have hlk : decide ((k : Int) < m.kids.length) = true := decide_eq_true (by omega)
   have hmem := List.getElem_mem hlt
   rw [List.drop_eq_getElem_cons hlt, nodL_cons] at q2
   have hnr := nodR_le m.kids[k] (d + 1)
   by_cases hc : c ≤ 2000
   ·have hcd : decide ((c : Int) ≤ 2000) = true := decide_eq_true (by omega)
    rw [if_pos hc] at q2
    have ed : (d : Int) + 1 = ((d + 1 : Nat) : Int) := by omega
    have ec : (c : Int) + (nodR m.kids[k] (d + 1) : Nat) = ((c + nodR m.kids[k] (d + 1) : Nat) : Int) := by omega
    repeat' (first | with_reducible refine And.intro ?_ ?_ | simp only [go_sem,seval, hlk, hcd, ed, Rw_at _ _ hlt] | simp (disch := omega) only [wrap64, cell_at, Rw_at] | simp (disch := first | omega | grind) only [heap_ne_, del_ne] | (intro hx_; try simp only [set_none] at hx_) | with_reducible refine ih m.kids[k] (d + 1) (by have := mkid_lt hmem; omega) (hm.k _ hmem) (by omega) _ ?_ | omega)
    exact nx_mk (k + 1, c + nodR m.kids[k] (d + 1)) ⟨by simp only []; omega, q2, by simp only []; omega⟩ (by simp only []; omega) (by (try simp only [go_sem,seval, ec]) <;> (try simp (disch := omega) [wrap64]) <;> (try omega)) (heap_le_set (by assumption))
   ·have hcd : decide ((c : Int) ≤ 2000) = false := decide_eq_false (by omega)
    rw [if_neg hc] at q2
    repeat' (first | with_reducible refine And.intro ?_ ?_ | simp only [go_sem,seval, hlk, hcd, Rw_at _ _ hlt] | simp (disch := omega) only [wrap64, cell_at, Rw_at] | simp (disch := first | omega | grind) only [heap_ne_, del_ne] | (intro hx_; try simp only [set_none] at hx_) | omega)
    exact nx_mk (k + 1, c) ⟨by simp only []; omega, q2, q3⟩ (by simp only []; omega) (by (try simp only [go_sem,seval]) <;> (try simp (disch := omega) [wrap64]) <;> (try omega)) (heap_le_set (by assumption))
  ·have hlk : decide ((k : Int) < m.kids.length) = false := decide_eq_false (by omega)
   rw [List.drop_eq_nil_of_le (by omega), nodL] at q2
   repeat' (first | with_reducible refine And.intro ?_ ?_ | simp only [go_sem,seval, hlk] | simp (disch := omega) only [wrap64, cell_at, Rw_at] | simp (disch := first | omega | grind) only [heap_ne_, del_ne] | (intro hx_; try simp only [set_none] at hx_) | omega)
   rw [q2]
   exact Fin.less hle h
theorem nodes_a {Q} (m : Mo) (hm : MoFit m) (H : Heap) (h : Q (.int .i64 (nodR m 1)) H) : ACalls Tryz.prog 22 [.agg (moC m), .int .i64 1] H Q := nodes_n _ m 1 (Nat.le_refl _) hm (by omega) H h
end Go.Proofs.YtmohcdihdhggoaaGreatDoor
end
section
set_option maxRecDepth 20000
namespace Go.Proofs.YtmohcdihdhggoaaGreatDoor
open Go Go.Av Go.Lexs Go.Bis
attribute [local irreducible] ACalls at8
set_option maxHeartbeats 4000000 in
theorem shape_n (n : Nat) : ∀ {Q} (m : Mo) (hn : SizeOf.sizeOf m ≤ n) (hm : MoFit m) (H : Heap) (h : Q (.bool (okM m)) H), ACalls Tryz.prog 76 [.agg (moC m)] H Q := by
 induction n with
 | zero => intro Q m hn; cases m; simp at hn
 | succ n ih =>
 intro Q m hn hm H h
 refine acalls_of_wp [] Tryz.mixed Tryz.func76 rfl (by kernel_rfl) (of_decide_eq_true (by kernel_rfl)) (by kernel_rfl) ?_
 simp only [go_sem,seval, Tryz.results76]
 have hl := hm.l
 have ho := hm.o
 rw [okM_eq] at h
 intro b1 hb1
 have e1 : (H.set b1 (.box (moC m))) b1 = some (.box (moC m)) := heap_same _ _
 have hle : H.Le (H.set b1 (.box (moC m))) := heap_le_set hb1
 generalize H.set b1 (.box (moC m)) = Bs at e1 hle ⊢
 repeat' (first | with_reducible refine And.intro ?_ ?_ | simp only [go_sem,seval, e1] | simp (disch := omega) only [wrap64, cell_at, Rw_at] | simp (disch := first | omega | grind) only [heap_ne_, del_ne] | (intro hx_; try simp only [set_none] at hx_) | omega)
 refine loop_c [1, 6, 7] (fun (k : Nat) => [(8, .int .i64 k)]) (fun (k : Nat) => Bs) (fun (k : Nat) => k ≤ m.kids.length ∧ okL (m.kids.take k) = true) (fun (k : Nat) => m.kids.length - k) (0) (⟨Nat.zero_le _, by simp [okL]⟩) (by (try simp only [go_sem,seval]) <;> (try simp (disch := omega) [wrap64]) <;> (try omega)) (by first | with_reducible exact Heap.Le.refl _ | exact heap_set_le (by assumption) | exact Heap.Le.refl _ | exact heap_le_set (by assumption) | exact (by simp only [Go.Av.Heap.Le, Go.Av.Heap.set, Go.Av.Heap.del] at * <;> grind)) ?_
 rintro Ec rfl k ⟨hk0, hok⟩
 by_cases hlt : k < m.kids.length
 ·have hlk : decide ((k : Int) < m.kids.length) = true := decide_eq_true (by omega)
  have hmem := List.getElem_mem hlt
  cases hkk : okM m.kids[k] with
  | false =>
   have hof : okL m.kids = false := by rw [okL_all, List.all_eq_false]; exact ⟨_, hmem, by rw [hkk]; simp⟩
   rw [hof, Bool.and_false] at h
   repeat' (first | with_reducible refine And.intro ?_ ?_ | simp only [go_sem,seval, hlk, hkk, Rw_at _ _ hlt] | simp (disch := omega) only [wrap64, cell_at, Rw_at] | simp (disch := first | omega | grind) only [heap_ne_, del_ne] | (intro hx_; try simp only [set_none] at hx_) | with_reducible refine ih m.kids[k] (by have := mkid_lt hmem; omega) (hm.k _ hmem) _ ?_ | omega)
   exact Fin.less (hle.trans (heap_le_set (by assumption))) h
  | true =>
   repeat' (first | with_reducible refine And.intro ?_ ?_ | simp only [go_sem,seval, hlk, hkk, Rw_at _ _ hlt] | simp (disch := omega) only [wrap64, cell_at, Rw_at] | simp (disch := first | omega | grind) only [heap_ne_, del_ne] | (intro hx_; try simp only [set_none] at hx_) | with_reducible refine ih m.kids[k] (by have := mkid_lt hmem; omega) (hm.k _ hmem) _ ?_ | omega)
   exact nx_mk (k + 1) ⟨by omega, by rw [okL_take _ _ hlt, hok, hkk]; rfl⟩ (by omega) (by (try simp only [go_sem,seval]) <;> (try simp (disch := omega) [wrap64]) <;> (try omega)) (heap_le_set (by assumption))
 ·have hlk : decide ((k : Int) < m.kids.length) = false := decide_eq_false (by omega)
  rw [List.take_of_length_le (by omega)] at hok
  rw [hok, Bool.and_true] at h
  by_cases h1 : m.op = 1
  ·by_cases hk : m.kids.length = 0
   ·have hkd : decide ((m.kids.length : Int) = 0) = true := decide_eq_true (by omega)
    repeat' (first | with_reducible refine And.intro ?_ ?_ | simp only [go_sem,seval, hlk, e1, h1, hkd] | simp (disch := omega) only [wrap64, cell_at, Rw_at] | simp (disch := first | omega | grind) only [heap_ne_, del_ne] | (intro hx_; try simp only [set_none] at hx_) | with_reducible refine rValid_a m.term hm.t _ ?_ | omega)
    refine Fin.less hle ?_
    simpa [nodeM, h1, hk] using h
   ·have hkd : decide ((m.kids.length : Int) = 0) = false := decide_eq_false (by omega)
    repeat' (first | with_reducible refine And.intro ?_ ?_ | simp only [go_sem,seval, hlk, e1, h1, hkd] | simp (disch := omega) only [wrap64, cell_at, Rw_at] | simp (disch := first | omega | grind) only [heap_ne_, del_ne] | (intro hx_; try simp only [set_none] at hx_) | with_reducible refine rValid_a m.term hm.t _ ?_ | omega)
    refine Fin.less hle ?_
    simpa [nodeM, h1, hk] using h
  ·cases hv : eqT m.term zeroT with
   | false =>
    repeat' (first | with_reducible refine And.intro ?_ ?_ | simp only [go_sem,seval, hlk, e1, h1, hv] | simp (disch := omega) only [wrap64, cell_at, Rw_at] | simp (disch := first | omega | grind) only [heap_ne_, del_ne] | (intro hx_; try simp only [set_none] at hx_) | with_reducible refine rSame0_a m.term hm.t _ ?_ | omega)
    refine Fin.less hle ?_
    simpa [nodeM, h1, hv] using h
   | true =>
    have key0 : decide ((m.kids.length : Int) = 0) = decide (m.kids.length = 0) := by rw [Bool.eq_iff_iff, decide_eq_true_eq, decide_eq_true_eq]; omega
    have key1 : decide ((m.kids.length : Int) = 1) = decide (m.kids.length = 1) := by rw [Bool.eq_iff_iff, decide_eq_true_eq, decide_eq_true_eq]; omega
    by_cases h2 : m.op = 2
    ·repeat' (first | with_reducible refine And.intro ?_ ?_ | simp only [go_sem,seval, hlk, e1, h2, hv, key0] | simp (disch := omega) only [wrap64, cell_at, Rw_at] | simp (disch := first | omega | grind) only [heap_ne_, del_ne] | (intro hx_; try simp only [set_none] at hx_) | with_reducible refine rSame0_a m.term hm.t _ ?_ | omega)
     refine Fin.less hle ?_
     simpa [nodeM, h2, hv] using h
    ·by_cases h3 : m.op = 3
     ·repeat' (first | with_reducible refine And.intro ?_ ?_ | simp only [go_sem,seval, hlk, e1, h3, hv, key1] | simp (disch := omega) only [wrap64, cell_at, Rw_at] | simp (disch := first | omega | grind) only [heap_ne_, del_ne] | (intro hx_; try simp only [set_none] at hx_) | with_reducible refine rSame0_a m.term hm.t _ ?_ | omega)
      refine Fin.less hle ?_
      simpa [nodeM, h3, hv] using h
     ·by_cases h4 : m.op = 4
      ·repeat' (first | with_reducible refine And.intro ?_ ?_ | simp only [go_sem,seval, hlk, e1, h4, hv, key1] | simp (disch := omega) only [wrap64, cell_at, Rw_at] | simp (disch := first | omega | grind) only [heap_ne_, del_ne] | (intro hx_; try simp only [set_none] at hx_) | with_reducible refine rSame0_a m.term hm.t _ ?_ | omega)
       refine Fin.less hle ?_
       simpa [nodeM, h4, hv] using h
      ·repeat' (first | with_reducible refine And.intro ?_ ?_ | simp only [go_sem,seval, hlk, e1, h1, h2, h3, h4, hv] | simp (disch := omega) only [wrap64, cell_at, Rw_at] | simp (disch := first | omega | grind) only [heap_ne_, del_ne] | (intro hx_; try simp only [set_none] at hx_) | with_reducible refine rSame0_a m.term hm.t _ ?_ | omega)
       refine Fin.less hle ?_
       simpa [nodeM, h1, h2, h3, h4, hv] using h
theorem mshape_a {Q} (m : Mo) (hm : MoFit m) (H : Heap) (h : Q (.bool (okM m)) H) : ACalls Tryz.prog 76 [.agg (moC m)] H Q := shape_n _ m (Nat.le_refl _) hm H h
theorem rModal_a {Q} (m : Mo) (hm : MoFit m) (H : Heap) (h : Q (.bool (validM m)) H) : ACalls Tryz.prog 49 [.agg (moC m)] H Q := by
 refine acalls_of_wp [] Tryz.mixed Tryz.func49 rfl (by kernel_rfl) (of_decide_eq_true (by kernel_rfl)) (by kernel_rfl) ?_
 simp only [go_sem,seval, Tryz.results49]
 intro b1 hb1
 have hle : H.Le (H.set b1 (.box (moC m))) := heap_le_set hb1
 unfold validM at h
 have hi := nod_iff m
 by_cases hc : nodR m 1 ≤ 2000
 ·have hd : decide (((nodR m 1 : Nat) : Int) ≤ 2000) = true := decide_eq_true (by omega)
  obtain ⟨h1, h2⟩ := hi.1 hc
  repeat' (first | with_reducible refine And.intro ?_ ?_ | simp only [go_sem,seval, hd] | simp (disch := omega) only [wrap64, cell_at] | simp (disch := first | omega | grind) only [heap_ne_, del_ne] | (intro hx_; try simp only [set_none] at hx_) | with_reducible refine nodes_a m hm _ ?_ | with_reducible refine mshape_a m hm _ ?_ | omega)
  refine Fin.less hle ?_
  simpa [h1, h2] using h
 ·have hd : decide (((nodR m 1 : Nat) : Int) ≤ 2000) = false := decide_eq_false (by omega)
  have hn : ¬ (cntM m ≤ 2000 ∧ deepM m ≤ 200) := fun e => hc (hi.2 e)
  have hf : (okM m && decide (cntM m ≤ 2000) && decide (deepM m ≤ 200)) = false := by
   rw [Bool.and_assoc, ← Bool.decide_and, decide_eq_false hn, Bool.and_false]
  rw [hf] at h
  repeat' (first | with_reducible refine And.intro ?_ ?_ | simp only [go_sem,seval, hd] | simp (disch := omega) only [wrap64, cell_at] | simp (disch := first | omega | grind) only [heap_ne_, del_ne] | (intro hx_; try simp only [set_none] at hx_) | with_reducible refine nodes_a m hm _ ?_ | omega)
  exact Fin.less hle h
end Go.Proofs.YtmohcdihdhggoaaGreatDoor
end
section
set_option maxRecDepth 20000
namespace Go.Bis
open Go Go.Av Go.Lexs
theorem padF_false (f : Nat → Bool) (n i : Nat) : (padF f n i).set i false = padF f n i := by
 apply List.ext_getElem (by simp [padF])
 intro j h1 h2
 rw [List.getElem_set]
 by_cases e : i = j
 ·subst e; simp [padF]
 ·rw [if_neg e]
theorem padF_putg (f : Nat → Bool) (n i : Nat) (x : Bool) (h : i < n) (h2 : i < ((padF f n i).set i x).length) : ((padF f n i).set i x)[i] = x := by simp
theorem padF_two (f : Nat → Bool) (n i : Nat) (x y : Bool) : ((padF f n i).set i x).set i y = (padF f n i).set i y := by simp
theorem any_row (nx : Nat → List Nat) (n i : Nat) (f : Nat → Bool) : (rowL nx n i).any f = (List.range n).any fun k => (rowV nx n i).getD k false && f k := by
 unfold rowL
 rw [List.any_filter, Bool.eq_iff_iff, List.any_eq_true, List.any_eq_true]
 constructor
 ·rintro ⟨k, hk, h⟩
  refine ⟨k, hk, ?_⟩
  have := List.mem_range.1 hk
  simpa [rowV, this] using h
 ·rintro ⟨k, hk, h⟩
  refine ⟨k, hk, ?_⟩
  have := List.mem_range.1 hk
  simpa [rowV, this] using h
theorem any_range_succ (f : Nat → Bool) (k : Nat) : (List.range (k + 1)).any f = ((List.range k).any f || f k) := by rw [List.range_succ, List.any_append]; simp
end Go.Bis
end
section
set_option maxRecDepth 20000
namespace Go.Proofs.YtmohcdihdhggoaaGreatDoor
open Go Go.Av Go.Lexs Go.Bis
attribute [local irreducible] ACalls at8
set_option maxHeartbeats 4000000 in
theorem all_n (n : Nat) (s : Sy) (hs : SyFit s) (ho : SyOk s) : ∀ {Q} (m : Mo) (hn : SizeOf.sizeOf m ≤ n) (hm : MoFit m) (hv : okM m = true) (H : Heap) (h : Q (.sl 1 (Rw boolC (satRow s (toN s) m))) H),
  ACalls Tryz.prog 50 [.agg (syC s), .sl 1 (Rw boolsC (leadsV s)), .agg (moC m)] H Q := by
 induction n with
 | zero => intro Q m hn; cases m; simp at hn
 | succ n ih =>
 intro Q m hn hm hv H h
 refine acalls_of_wp [] Tryz.mixed Tryz.func50 rfl (by kernel_rfl) (of_decide_eq_true (by kernel_rfl)) (by kernel_rfl) ?_
 simp only [go_sem,seval, Tryz.results50]
 have hN := ho.n
 have hfl := ho.f
 have hl := hm.l
 rw [okM_eq, Bool.and_eq_true] at hv
 obtain ⟨hv1, hv2⟩ := hv
 rw [okL_all, List.all_eq_true] at hv2
 intro b1 hb1 b2 hb2
 have e1 : ((H.set b1 (.box (syC s))).set b2 (.box (moC m))) b1 = some (.box (syC s)) := by rw [heap_ne _ (by rintro rfl; rw [heap_same] at hb2; cases hb2)]; exact heap_same _ _
 have e2 : ((H.set b1 (.box (syC s))).set b2 (.box (moC m))) b2 = some (.box (moC m)) := heap_same _ _
 have hle : H.Le ((H.set b1 (.box (syC s))).set b2 (.box (moC m))) := (heap_le_set hb1).trans (heap_le_set hb2)
 generalize (H.set b1 (.box (syC s))).set b2 (.box (moC m)) = Bs at e1 e2 hle ⊢
 repeat' (first | with_reducible refine And.intro ?_ ?_ | simp only [go_sem,seval, e1, e2, rep_b] | simp (disch := omega) only [wrap64, cell_at, Rw_at, satRow_at] | simp (disch := first | omega | grind) only [heap_ne_, del_ne] | (intro hx_; try simp only [set_none] at hx_) | omega)
 rename_i b8
 have hf8 := hx_
 clear hx_
 have n1 : b1 ≠ b8 := by rintro rfl; rw [e1] at hf8; cases hf8
 have n2 : b2 ≠ b8 := by rintro rfl; rw [e2] at hf8; cases hf8
 have c1 : (Bs.set b8 (.vec 1 (Rw boolC (List.replicate s.seen.length false)))) b1 = some (.box (syC s)) := by rw [heap_ne _ n1]; exact e1
 have c2 : (Bs.set b8 (.vec 1 (Rw boolC (List.replicate s.seen.length false)))) b2 = some (.box (moC m)) := by rw [heap_ne _ n2]; exact e2
 have c8 : (Bs.set b8 (.vec 1 (Rw boolC (List.replicate s.seen.length false)))) b8 = some (.vec 1 (Rw boolC (List.replicate s.seen.length false))) := heap_same _ _
 have cle : Bs.Le (Bs.set b8 (.vec 1 (Rw boolC (List.replicate s.seen.length false)))) := heap_le_set hf8
 generalize Bs.set b8 (.vec 1 (Rw boolC (List.replicate s.seen.length false))) = Cs at c1 c2 c8 cle ⊢
 refine loop_c [1, 3, 5, 8, 23, 24] (fun (p : Nat × Option Nat) => [(25, .int .i64 p.1), (9, outG 1 p.1 p.2)]) (fun (p : Nat × Option Nat) => putB Cs 1 (Rw boolsC ((m.kids.map (satRow s (toN s))).take p.1)) p.2) (fun (p : Nat × Option Nat) => p.1 ≤ m.kids.length ∧ (p.2 = none → p.1 = 0) ∧ ∀ b, p.2 = some b → Cs b = none) (fun (p : Nat × Option Nat) => m.kids.length - p.1) ((0, none)) (⟨Nat.zero_le _, fun _ => rfl, fun b e => by cases e⟩) (by (try simp only [go_sem,seval]) <;> (try simp (disch := omega) [wrap64]) <;> (try omega)) (by first | with_reducible exact Heap.Le.refl _ | exact heap_set_le (by assumption) | exact Heap.Le.refl _ | exact heap_le_set (by assumption) | exact (by simp only [Go.Av.Heap.Le, Go.Av.Heap.set, Go.Av.Heap.del] at * <;> grind)) ?_
 rintro Ec rfl ⟨k, ob⟩ ⟨hk, h0, h1⟩
 simp only at hk h0 h1
 have hin := OutIn.mk (H := Cs) (sz := 1) (es := Rw boolsC ((m.kids.map (satRow s (toN s))).take k)) (ob := ob) (fun e => by rw [h0 e]; rfl) h1
 have hml : (m.kids.map (satRow s (toN s))).length = m.kids.length := by simp
 by_cases hlt : k < m.kids.length
 ·have hkd : decide ((k : Int) < m.kids.length) = true := decide_eq_true (by omega)
  have hmem := List.getElem_mem hlt
  generalize hHp : putB Cs 1 (Rw boolsC ((m.kids.map (satRow s (toN s))).take k)) ob = Hp at hin ⊢
  have d1 := hin.get c1
  repeat' (first | with_reducible refine And.intro ?_ ?_ | simp only [go_sem,seval, hkd, d1, Rw_at _ _ hlt] | simp (disch := omega) only [wrap64, cell_at, Rw_at, satRow_at] | simp (disch := first | omega | grind) only [heap_ne_, del_ne] | (intro hx_; try simp only [set_none] at hx_) | with_reducible refine ih m.kids[k] (by have := mkid_lt hmem; omega) (hm.k _ hmem) (hv2 _ hmem) _ ?_ | omega)
  rename_i b11 hf11 b12
  have hf12 := hx_
  clear hx_
  refine apS_q (by first | exact (OutIn.set hin hf11 _) | exact OutIn.set ((OutIn.set hin hf11 _)) (by first | assumption | (refine set_none.2 ?_; assumption) | (simp only [set_none]; assumption) | (simp only [set_none] at *; simp_all; done)) _ | exact OutIn.set (OutIn.set ((OutIn.set hin hf11 _)) (by first | assumption | (refine set_none.2 ?_; assumption) | (simp only [set_none]; assumption) | (simp only [set_none] at *; simp_all; done)) _) (by first | assumption | (refine set_none.2 ?_; assumption) | (simp only [set_none]; assumption) | (simp only [set_none] at *; simp_all; done)) _ | exact OutIn.set (OutIn.set (OutIn.set ((OutIn.set hin hf11 _)) (by first | assumption | (refine set_none.2 ?_; assumption) | (simp only [set_none]; assumption) | (simp only [set_none] at *; simp_all; done)) _) (by first | assumption | (refine set_none.2 ?_; assumption) | (simp only [set_none]; assumption) | (simp only [set_none] at *; simp_all; done)) _) (by first | assumption | (refine set_none.2 ?_; assumption) | (simp only [set_none]; assumption) | (simp only [set_none] at *; simp_all; done)) _ | exact OutIn.set (OutIn.set (OutIn.set (OutIn.set ((OutIn.set hin hf11 _)) (by first | assumption | (refine set_none.2 ?_; assumption) | (simp only [set_none]; assumption) | (simp only [set_none] at *; simp_all; done)) _) (by first | assumption | (refine set_none.2 ?_; assumption) | (simp only [set_none]; assumption) | (simp only [set_none] at *; simp_all; done)) _) (by first | assumption | (refine set_none.2 ?_; assumption) | (simp only [set_none]; assumption) | (simp only [set_none] at *; simp_all; done)) _) (by first | assumption | (refine set_none.2 ?_; assumption) | (simp only [set_none]; assumption) | (simp only [set_none] at *; simp_all; done)) _ ) (by simp) (by first | rfl | (simp only [go_sem,seval, Rw_take_len]; done) | (simp only [go_sem,seval, Rw_take_len]; omega) | simp | (simp; omega)) (by simp only [List.length_cons, List.length_nil]; omega) (by simp only [List.length_cons, List.length_nil]; omega) fun b' hb' hb2 hle => ?_
  repeat' (first | with_reducible refine And.intro ?_ ?_ | simp only [go_sem,seval] | simp (disch := omega) only [wrap64, cell_at, Rw_at, satRow_at] | simp (disch := first | omega | grind) only [heap_ne_, del_ne] | (intro hx_; try simp only [set_none] at hx_) | omega)
  exact nx_mk (k + 1, some b') ⟨by simp only []; omega, (fun e => by cases e), fun b e => by cases e; exact hb'⟩ (by simp only []; omega) (by (try simp only [go_sem,seval]) <;> (try simp (disch := omega) [wrap64]) <;> (try omega)) (putB_le hle (by rw [Rw_take_succ _ _ (by rw [hml]; exact hlt)]; simp [boolsC]))
 ·have hkd : decide ((k : Int) < m.kids.length) = false := decide_eq_false (by omega)
  rw [List.take_of_length_le (by omega)] at hin ⊢
  have g1 := hin.get c1
  have g2 := hin.get c2
  have g8 := hin.get c8
  have hout := hin.2.1
  have hleP : H.Le (putB Cs 1 (Rw boolsC (m.kids.map (satRow s (toN s)))) ob) := (hle.trans cle).trans hin.1
  have h8b : ob ≠ some b8 := fun e => by have := h1 b8 e; rw [c8] at this; cases this
  have h8n : H b8 = none := hle.none hf8
  generalize putB Cs 1 (Rw boolsC (m.kids.map (satRow s (toN s)))) ob = Kp at g1 g2 g8 hout hleP ⊢
  clear hin cle c1 c2 c8 h1
  have hkl : k = m.kids.length := by omega
  subst hkl
  repeat' (first | with_reducible refine And.intro ?_ ?_ | simp only [go_sem,seval, hkd, g8] | simp (disch := omega) only [wrap64, cell_at, Rw_at, satRow_at] | simp (disch := first | omega | grind) only [heap_ne_, del_ne] | (intro hx_; try simp only [set_none] at hx_) | omega)
  have hle8 : (Kp.set b8 (.vec 1 (Rw boolC (padF (satM s (toN s) m) s.seen.length 0)))).Le Kp := fun q o hq => by
   unfold Heap.set at hq
   by_cases hq8 : q = b8
   ·rw [if_pos hq8, padF_zero] at hq; rw [hq8, g8]; exact hq
   ·rw [if_neg hq8] at hq; exact hq
  refine loop_c [1, 3, 5, 8, 9, 38] (fun (i : Nat) => [(39, .int .i64 i)]) (fun (i : Nat) => Kp.set b8 (.vec 1 (Rw boolC (padF (satM s (toN s) m) s.seen.length i)))) (fun (i : Nat) => i ≤ s.seen.length) (fun (i : Nat) => s.seen.length - i) (0) (Nat.zero_le _) (by (try simp only [go_sem,seval]) <;> (try simp (disch := omega) [wrap64]) <;> (try omega)) (by first | with_reducible exact Heap.Le.refl _ | exact heap_set_le (by assumption) | exact Heap.Le.refl _ | exact heap_le_set (by assumption) | exact (by simp only [Go.Av.Heap.Le, Go.Av.Heap.set, Go.Av.Heap.del] at * <;> grind)) ?_
  rintro Ec rfl i hi
  have hpl := padF_length (satM s (toN s) m) s.seen.length i
  by_cases hlt2 : i < s.seen.length
  ·have hid : decide ((i : Int) < s.seen.length) = true := decide_eq_true (by omega)
   have r1 : ∀ o, (Kp.set b8 o) b1 = some (.box (syC s)) := fun o => by rw [heap_ne _ n1]; exact g1
   have r2 : ∀ o, (Kp.set b8 o) b2 = some (.box (moC m)) := fun o => by rw [heap_ne _ n2]; exact g2
   have hsb : ∀ (v : List Bool) (x : Bool), (Rw boolC v).set i [D.bool x] = Rw boolC (v.set i x) := fun v x => Rw_set _ _ _ _ rfl
   have hip : i < (padF (satM s (toN s) m) s.seen.length i).length := by omega
   have hii : (i : Int) < s.seen.length := by omega
   have hif : (i : Int) < s.final.length := by omega
   have fi : i < s.final.length := by omega
   have hps := padF_set (satM s (toN s) m) s.seen.length i hlt2
   have hsat := satM_eq s (toN s) m i
   have hgs : s.seen.getD i default = s.seen[i] := by simp [hlt2]
   have hgf : s.final.getD i false = s.final[i] := by simp [fi]
   rw [hgs, hgf] at hsat
   by_cases o1 : m.op = 1
   ·rw [if_pos o1] at hsat
    repeat' (first | with_reducible refine And.intro ?_ ?_ | simp only [go_sem,seval, hid, r1, r2, o1, hii, hpl, Rw_at _ _ hlt2, Rw_at _ _ hip, hsb] | simp (disch := omega) only [wrap64, cell_at, Rw_at, satRow_at] | simp (disch := first | omega | grind) only [heap_ne_, del_ne] | (intro hx_; try simp only [set_none] at hx_) | with_reducible refine rSame_a _ _ (hs.tm _ (List.getElem_mem hlt2)) hm.t _ ?_ | omega)
    exact nx_mk (i + 1) (by omega) (by omega) (by (try simp only [go_sem,seval]) <;> (try simp (disch := omega) [wrap64]) <;> (try omega)) (by rw [← hps, hsat]; exact Heap.Le.refl _)
   rw [if_neg o1] at hsat
   by_cases o2 : m.op = 2
   ·rw [if_pos o2] at hsat
    repeat' (first | with_reducible refine And.intro ?_ ?_ | simp only [go_sem,seval, hid, r1, r2, o2, hii, hif, hpl, Rw_at _ _ hlt2, Rw_at _ _ fi, Rw_at _ _ hip, hsb] | simp (disch := omega) only [wrap64, cell_at, Rw_at, satRow_at] | simp (disch := first | omega | grind) only [heap_ne_, del_ne] | (intro hx_; try simp only [set_none] at hx_) | omega)
    exact nx_mk (i + 1) (by omega) (by omega) (by (try simp only [go_sem,seval]) <;> (try simp (disch := omega) [wrap64]) <;> (try omega)) (by rw [← hps, hsat]; exact Heap.Le.refl _)
   rw [if_neg o2] at hsat
   unfold nodeM at hv1
   rw [if_neg o1, if_neg o2, Bool.and_eq_true] at hv1
   by_cases o3 : m.op = 3
   ·rw [if_pos o3] at hsat
    rw [if_pos (.inl o3)] at hv1
    have hk1 : m.kids.length = 1 := by simpa using hv1.2
    cases ob with
    | none => have := h0 rfl; omega
    | some c =>
    have l0 : 0 < m.kids.length := by omega
    have l0' : 0 < (m.kids.map (satRow s (toN s))).length := by omega
    have hc8 : c ≠ b8 := fun e => h8b (by rw [e])
    have rc : ∀ o, (Kp.set b8 o) c = some (.vec 1 (Rw boolsC (m.kids.map (satRow s (toN s))))) := fun o => by rw [heap_ne _ hc8]; exact hout
    have li : i < (leadsV s).length := by rw [leadsV_length]; exact hlt2
    have hrow : (leadsV s)[i] = rowV (nxS s) s.seen.length i := by simp [leadsV]
    have hrl := rowV_length (nxS s) s.seen.length i
    have hkr : (m.kids.map (satRow s (toN s)))[0] = satRow s (toN s) m.kids[0] := by simp
    have hsl := satRow_length s (toN s) m.kids[0]
    have hst : Kp.set b8 (.vec 1 (Rw boolC (padF (satM s (toN s) m) s.seen.length i))) = Kp.set b8 (.vec 1 (Rw boolC ((padF (satM s (toN s) m) s.seen.length i).set i ((List.range 0).any fun k => (rowV (nxS s) s.seen.length i).getD k false && satH s (toN s) m.kids k)))) := by
     rw [show ((List.range 0).any fun k => (rowV (nxS s) s.seen.length i).getD k false && satH s (toN s) m.kids k) = false by simp, padF_false]
    rw [hst]
    repeat' (first | with_reducible refine And.intro ?_ ?_ | simp only [go_sem,seval, hid, r1, r2, o3, hii, hrl, hrow, Rw_at _ _ li, leadsV_length] | simp (disch := omega) only [wrap64, cell_at, Rw_at, satRow_at] | simp (disch := first | omega | grind) only [heap_ne_, del_ne] | (intro hx_; try simp only [set_none] at hx_) | omega)
    refine loop_c [1, 3, 5, 8, 9, 12, 38, 39, 107, 108] (fun (k : Nat) => [(109, .int .i64 k)]) (fun (k : Nat) => Kp.set b8 (.vec 1 (Rw boolC ((padF (satM s (toN s) m) s.seen.length i).set i ((List.range k).any fun k => (rowV (nxS s) s.seen.length i).getD k false && satH s (toN s) m.kids k))))) (fun (k : Nat) => k ≤ s.seen.length) (fun (k : Nat) => s.seen.length - k) (0) (Nat.zero_le _) (by (try simp only [go_sem,seval]) <;> (try simp (disch := omega) [wrap64]) <;> (try omega)) (by first | with_reducible exact Heap.Le.refl _ | exact heap_set_le (by assumption) | exact Heap.Le.refl _ | exact heap_le_set (by assumption) | exact (by simp only [Go.Av.Heap.Le, Go.Av.Heap.set, Go.Av.Heap.del] at * <;> grind)) ?_
    rintro Ec rfl k hk
    have hpl2 : ((padF (satM s (toN s) m) s.seen.length i).set i ((List.range k).any fun k => (rowV (nxS s) s.seen.length i).getD k false && satH s (toN s) m.kids k)).length = s.seen.length := by rw [List.length_set]; exact hpl
    have hip2 : i < ((padF (satM s (toN s) m) s.seen.length i).set i ((List.range k).any fun k => (rowV (nxS s) s.seen.length i).getD k false && satH s (toN s) m.kids k)).length := by omega
    have hpg := padF_putg (satM s (toN s) m) s.seen.length i ((List.range k).any fun k => (rowV (nxS s) s.seen.length i).getD k false && satH s (toN s) m.kids k) hlt2 hip2
    have hp2 := fun y => padF_two (satM s (toN s) m) s.seen.length i ((List.range k).any fun k => (rowV (nxS s) s.seen.length i).getD k false && satH s (toN s) m.kids k) y
    have hrs := any_range_succ (fun k => (rowV (nxS s) s.seen.length i).getD k false && satH s (toN s) m.kids k) k
    generalize hX : ((List.range k).any fun k => (rowV (nxS s) s.seen.length i).getD k false && satH s (toN s) m.kids k) = X at hpl2 hip2 hpg hp2 hrs ⊢
    by_cases hkt : k < s.seen.length
    ·have hkk : decide ((k : Int) < s.seen.length) = true := decide_eq_true (by omega)
     have hkr2 : k < (rowV (nxS s) s.seen.length i).length := by omega
     have hks : k < (satRow s (toN s) m.kids[0]).length := by omega
     have hki : (k : Int) < s.seen.length := by omega
     have hrg : (rowV (nxS s) s.seen.length i).getD k false = (rowV (nxS s) s.seen.length i)[k] := by simp [hkr2]
     have hsg : satH s (toN s) m.kids k = satM s (toN s) m.kids[0] k := satH_one l0 k
     rw [hrg, hsg] at hrs
     cases X with
     | true =>
      rw [Bool.true_or] at hrs
      repeat' (first | with_reducible refine And.intro ?_ ?_ | simp only [go_sem,seval, hkk, r1, r2, rc, hii, hki, hpl2, hrl, Rw_at _ _ hip2, Rw_get _ _ hip2, hpg, Rw_at _ _ hkr2, Rw_get _ _ hkr2, hsb, hp2] | simp (disch := omega) only [wrap64, cell_at, Rw_at, satRow_at] | simp (disch := first | omega | grind) only [heap_ne_, del_ne] | (intro hx_; try simp only [set_none] at hx_) | omega)
      exact nx_mk (k + 1) (by omega) (by omega) (by (try simp only [go_sem,seval]) <;> (try simp (disch := omega) [wrap64]) <;> (try omega)) (by rw [hrs]; exact Heap.Le.refl _)
     | false =>
      rw [Bool.false_or] at hrs
      cases hrv : (rowV (nxS s) s.seen.length i)[k] with
      | false =>
       rw [hrv, Bool.false_and] at hrs
       repeat' (first | with_reducible refine And.intro ?_ ?_ | simp only [go_sem,seval, hkk, r1, r2, rc, hii, hki, hpl2, hrl, Rw_at _ _ hip2, Rw_get _ _ hip2, hpg, Rw_at _ _ hkr2, Rw_get _ _ hkr2, hrv, hsb, hp2] | simp (disch := omega) only [wrap64, cell_at, Rw_at, satRow_at] | simp (disch := first | omega | grind) only [heap_ne_, del_ne] | (intro hx_; try simp only [set_none] at hx_) | omega)
       exact nx_mk (k + 1) (by omega) (by omega) (by (try simp only [go_sem,seval]) <;> (try simp (disch := omega) [wrap64]) <;> (try omega)) (by rw [hrs]; exact Heap.Le.refl _)
      | true =>
       rw [hrv, Bool.true_and] at hrs
       repeat' (first | with_reducible refine And.intro ?_ ?_ | simp only [go_sem,seval, hkk, r1, r2, rc, hii, hki, hpl2, hrl, Rw_at _ _ hip2, Rw_get _ _ hip2, hpg, Rw_at _ _ hkr2, Rw_get _ _ hkr2, hrv, Rw_at _ _ l0', Rw_get _ _ l0', hkr, hsl, Rw_at _ _ hks, Rw_get _ _ hks, hsb, hp2, hml, hk1] | simp (disch := omega) only [wrap64, cell_at, Rw_at, satRow_at] | simp (disch := first | omega | grind) only [heap_ne_, del_ne] | (intro hx_; try simp only [set_none] at hx_) | omega)
       exact nx_mk (k + 1) (by omega) (by omega) (by (try simp only [go_sem,seval]) <;> (try simp (disch := omega) [wrap64]) <;> (try omega)) (by rw [hrs]; exact Heap.Le.refl _)
    ·have hkk : decide ((k : Int) < s.seen.length) = false := decide_eq_false (by omega)
     repeat' (first | with_reducible refine And.intro ?_ ?_ | simp only [go_sem,seval, hkk] | simp (disch := omega) only [wrap64, cell_at, Rw_at, satRow_at] | simp (disch := first | omega | grind) only [heap_ne_, del_ne] | (intro hx_; try simp only [set_none] at hx_) | omega)
     have hXs : X = satM s (toN s) m i := by
      rw [hsat, ← hX, toN, any_row, show k = s.seen.length by omega]
     exact nx_mk (i + 1) (by omega) (by omega) (by (try simp only [go_sem,seval]) <;> (try simp (disch := omega) [wrap64]) <;> (try omega)) (by rw [← hps, ← hXs]; exact Heap.Le.refl _)
   rw [if_neg o3] at hsat
   by_cases o4 : m.op = 4
   ·rw [if_pos o4] at hsat
    rw [if_pos (.inr o4)] at hv1
    have hk1 : m.kids.length = 1 := by simpa using hv1.2
    cases ob with
    | none => have := h0 rfl; omega
    | some c =>
    have l0 : 0 < m.kids.length := by omega
    have l0' : 0 < (m.kids.map (satRow s (toN s))).length := by omega
    have hc8 : c ≠ b8 := fun e => h8b (by rw [e])
    have rc : ∀ o, (Kp.set b8 o) c = some (.vec 1 (Rw boolsC (m.kids.map (satRow s (toN s))))) := fun o => by rw [heap_ne _ hc8]; exact hout
    have hkr : (m.kids.map (satRow s (toN s)))[0] = satRow s (toN s) m.kids[0] := by simp
    have hsl := satRow_length s (toN s) m.kids[0]
    have his : i < (satRow s (toN s) m.kids[0]).length := by omega
    have hsg : satH s (toN s) m.kids i = satM s (toN s) m.kids[0] i := satH_one l0 i
    rw [hsg] at hsat
    repeat' (first | with_reducible refine And.intro ?_ ?_ | simp only [go_sem,seval, hid, r1, r2, rc, o4, hii, hpl, Rw_at _ _ hip, Rw_at _ _ l0', Rw_get _ _ l0', hkr, hsl, Rw_at _ _ his, Rw_get _ _ his, hsb, hml, hk1] | simp (disch := omega) only [wrap64, cell_at, Rw_at, satRow_at] | simp (disch := first | omega | grind) only [heap_ne_, del_ne] | (intro hx_; try simp only [set_none] at hx_) | omega)
    exact nx_mk (i + 1) (by omega) (by omega) (by (try simp only [go_sem,seval]) <;> (try simp (disch := omega) [wrap64]) <;> (try omega)) (by rw [← hps, hsat]; exact Heap.Le.refl _)
   rw [if_neg o4, satA_all] at hsat
   cases ob with
   | none =>
    have hk0 := h0 rfl
    rw [List.eq_nil_of_length_eq_zero hk0, List.all_nil] at hsat
    repeat' (first | with_reducible refine And.intro ?_ ?_ | simp only [go_sem,seval, hid, r1, r2, o1, o2, o3, o4, hii, hpl, Rw_at _ _ hip, hsb] | simp (disch := omega) only [wrap64, cell_at, Rw_at, satRow_at] | simp (disch := first | omega | grind) only [heap_ne_, del_ne] | (intro hx_; try simp only [set_none] at hx_) | omega)
    refine loop_c [1, 3, 5, 8, 9, 12, 38, 39, 47, 48] (fun (k : Nat) => [(49, .int .i64 k)]) (fun (k : Nat) => Kp.set b8 (.vec 1 (Rw boolC ((padF (satM s (toN s) m) s.seen.length i).set i true)))) (fun (k : Nat) => k = 0) (fun (k : Nat) => 0) (0) (rfl) (by (try simp only [go_sem,seval]) <;> (try simp (disch := omega) [wrap64]) <;> (try omega)) (by first | with_reducible exact Heap.Le.refl _ | exact heap_set_le (by assumption) | exact Heap.Le.refl _ | exact heap_le_set (by assumption) | exact (by simp only [Go.Av.Heap.Le, Go.Av.Heap.set, Go.Av.Heap.del] at * <;> grind)) ?_
    rintro Ec rfl k rfl
    have hkk : decide ((0 : Int) < 0) = false := rfl
    repeat' (first | with_reducible refine And.intro ?_ ?_ | simp only [go_sem,seval, hkk] | simp (disch := omega) only [wrap64, cell_at, Rw_at, satRow_at] | simp (disch := first | omega | grind) only [heap_ne_, del_ne] | (intro hx_; try simp only [set_none] at hx_) | omega)
    rw [← hsat]
    exact nx_mk (i + 1) (by omega) (by omega) (by (try simp only [go_sem,seval]) <;> (try simp (disch := omega) [wrap64]) <;> (try omega)) (by rw [← hps]; exact Heap.Le.refl _)
   | some c =>
    have hc8 : c ≠ b8 := fun e => h8b (by rw [e])
    have rc : ∀ o, (Kp.set b8 o) c = some (.vec 1 (Rw boolsC (m.kids.map (satRow s (toN s))))) := fun o => by rw [heap_ne _ hc8]; exact hout
    have hal : (m.kids.take 0).all (fun k => satM s (toN s) k i) = true := by simp
    repeat' (first | with_reducible refine And.intro ?_ ?_ | simp only [go_sem,seval, hid, r1, r2, rc, o1, o2, o3, o4, hii, hpl, Rw_at _ _ hip, hsb] | simp (disch := omega) only [wrap64, cell_at, Rw_at, satRow_at] | simp (disch := first | omega | grind) only [heap_ne_, del_ne] | (intro hx_; try simp only [set_none] at hx_) | omega)
    rw [show Kp.set b8 (.vec 1 (Rw boolC ((padF (satM s (toN s) m) s.seen.length i).set i true))) = Kp.set b8 (.vec 1 (Rw boolC ((padF (satM s (toN s) m) s.seen.length i).set i ((m.kids.take 0).all fun k => satM s (toN s) k i)))) by rw [hal]]
    refine loop_c [1, 3, 5, 8, 9, 12, 38, 39, 47, 48] (fun (k : Nat) => [(49, .int .i64 k)]) (fun (k : Nat) => Kp.set b8 (.vec 1 (Rw boolC ((padF (satM s (toN s) m) s.seen.length i).set i ((m.kids.take k).all fun k => satM s (toN s) k i))))) (fun (k : Nat) => k ≤ m.kids.length) (fun (k : Nat) => m.kids.length - k) (0) (Nat.zero_le _) (by (try simp only [go_sem,seval]) <;> (try simp (disch := omega) [wrap64]) <;> (try omega)) (by first | with_reducible exact Heap.Le.refl _ | exact heap_set_le (by assumption) | exact Heap.Le.refl _ | exact heap_le_set (by assumption) | exact (by simp only [Go.Av.Heap.Le, Go.Av.Heap.set, Go.Av.Heap.del] at * <;> grind)) ?_
    rintro Ec rfl k hk
    by_cases hkt : k < m.kids.length
    ·have hkk : decide ((k : Int) < m.kids.length) = true := decide_eq_true (by omega)
     have hrs := all_take_succ m.kids (fun k => satM s (toN s) k i) k hkt
     have hip2 : i < ((padF (satM s (toN s) m) s.seen.length i).set i ((m.kids.take k).all fun k => satM s (toN s) k i)).length := by rw [List.length_set]; omega
     have hpl2 : ((padF (satM s (toN s) m) s.seen.length i).set i ((m.kids.take k).all fun k => satM s (toN s) k i)).length = s.seen.length := by rw [List.length_set]; exact hpl
     have hpg := padF_putg (satM s (toN s) m) s.seen.length i ((m.kids.take k).all fun k => satM s (toN s) k i) hlt2 hip2
     have hp2 := fun y => padF_two (satM s (toN s) m) s.seen.length i ((m.kids.take k).all fun k => satM s (toN s) k i) y
     generalize hX : ((m.kids.take k).all fun k => satM s (toN s) k i) = X at hpl2 hip2 hpg hp2 hrs ⊢
     have lk : k < (m.kids.map (satRow s (toN s))).length := by omega
     have hkr : (m.kids.map (satRow s (toN s)))[k] = satRow s (toN s) m.kids[k] := by simp
     have hsl := satRow_length s (toN s) m.kids[k]
     have his : i < (satRow s (toN s) m.kids[k]).length := by omega
     cases X with
     | false =>
      rw [Bool.false_and] at hrs
      repeat' (first | with_reducible refine And.intro ?_ ?_ | simp only [go_sem,seval, hkk, r1, r2, rc, hii, hpl2, Rw_at _ _ hip2, Rw_get _ _ hip2, hpg, Rw_at _ _ lk, Rw_get _ _ lk, hkr, hsb, hp2] | simp (disch := omega) only [wrap64, cell_at, Rw_at, satRow_at] | simp (disch := first | omega | grind) only [heap_ne_, del_ne] | (intro hx_; try simp only [set_none] at hx_) | omega)
      exact nx_mk (k + 1) (by omega) (by omega) (by (try simp only [go_sem,seval]) <;> (try simp (disch := omega) [wrap64]) <;> (try omega)) (by rw [hrs]; exact Heap.Le.refl _)
     | true =>
      rw [Bool.true_and] at hrs
      repeat' (first | with_reducible refine And.intro ?_ ?_ | simp only [go_sem,seval, hkk, r1, r2, rc, hii, hpl2, Rw_at _ _ hip2, Rw_get _ _ hip2, hpg, Rw_at _ _ lk, Rw_get _ _ lk, hkr, hsl, Rw_at _ _ his, Rw_get _ _ his, hsb, hp2] | simp (disch := omega) only [wrap64, cell_at, Rw_at, satRow_at] | simp (disch := first | omega | grind) only [heap_ne_, del_ne] | (intro hx_; try simp only [set_none] at hx_) | omega)
      exact nx_mk (k + 1) (by omega) (by omega) (by (try simp only [go_sem,seval]) <;> (try simp (disch := omega) [wrap64]) <;> (try omega)) (by rw [hrs]; exact Heap.Le.refl _)
    ·have hkk : decide ((k : Int) < m.kids.length) = false := decide_eq_false (by omega)
     repeat' (first | with_reducible refine And.intro ?_ ?_ | simp only [go_sem,seval, hkk] | simp (disch := omega) only [wrap64, cell_at, Rw_at, satRow_at] | simp (disch := first | omega | grind) only [heap_ne_, del_ne] | (intro hx_; try simp only [set_none] at hx_) | omega)
     rw [List.take_of_length_le (by omega), ← hsat]
     exact nx_mk (i + 1) (by omega) (by omega) (by (try simp only [go_sem,seval]) <;> (try simp (disch := omega) [wrap64]) <;> (try omega)) (by rw [← hps]; exact Heap.Le.refl _)
  ·have hid : decide ((i : Int) < s.seen.length) = false := decide_eq_false (by omega)
   repeat' (first | with_reducible refine And.intro ?_ ?_ | simp only [go_sem,seval, hid] | simp (disch := omega) only [wrap64, cell_at, Rw_at, satRow_at] | simp (disch := first | omega | grind) only [heap_ne_, del_ne] | (intro hx_; try simp only [set_none] at hx_) | omega)
   rw [padF_all _ _ _ (by omega)]
   refine Fin.out (ob := some b8) (by rw [Rw_len]; simp) (heap_same _ _) (Fin.less (H' := H) (fun q o hq => ?_) h)
   have hq8 : q ≠ b8 := fun e => by rw [e, h8n] at hq; cases hq
   show ((Kp.set b8 _).del b8) q = _
   simp only [Heap.del, Heap.set, if_neg hq8]
   exact hleP q o hq
theorem all_a {Q} (s : Sy) (hs : SyFit s) (ho : SyOk s) (m : Mo) (hm : MoFit m) (hv : okM m = true) (H : Heap) (h : Q (.sl 1 (Rw boolC (satRow s (toN s) m))) H) : ACalls Tryz.prog 50 [.agg (syC s), .sl 1 (Rw boolsC (leadsV s)), .agg (moC m)] H Q := all_n _ s hs ho m (Nat.le_refl _) hm hv H h
theorem rSat_a {Q} (s : Sy) (hs : SyFit s) (i : Int) (m : Mo) (hm : MoFit m) (H : Heap) (h : Q (satR s i m) H) : ACalls Tryz.prog 20 [.agg (syC s), .int .i64 i, .agg (moC m)] H Q := by
 refine acalls_of_wp [(5, .par)] Tryz.mixed Tryz.func20 rfl (by kernel_rfl) (of_decide_eq_true (by kernel_rfl)) (by kernel_rfl) ?_
 simp only [go_sem,seval, Tryz.results20]
 unfold satR at h
 intro b1 hb1 b2 hb2
 have e1 : ((H.set b1 (.box (syC s))).set b2 (.box (moC m))) b1 = some (.box (syC s)) := by rw [heap_ne _ (by rintro rfl; rw [heap_same] at hb2; cases hb2)]; exact heap_same _ _
 have e2 : ((H.set b1 (.box (syC s))).set b2 (.box (moC m))) b2 = some (.box (moC m)) := heap_same _ _
 have hle : H.Le ((H.set b1 (.box (syC s))).set b2 (.box (moC m))) := (heap_le_set hb1).trans (heap_le_set hb2)
 generalize (H.set b1 (.box (syC s))).set b2 (.box (moC m)) = Bs at e1 e2 hle ⊢
 cases hvs : validY s with
 | false =>
  rw [hvs, Bool.false_and, if_neg (by simp)] at h
  repeat' (first | with_reducible refine And.intro ?_ ?_ | simp only [go_sem,seval, e1, e2, hvs] | simp (disch := omega) only [wrap64, cell_at, Rw_at, satRow_at] | simp (disch := first | omega | grind) only [heap_ne_, del_ne] | (intro hx_; try simp only [set_none] at hx_) | with_reducible refine rvalid_a s hs _ ?_ | omega)
  exact Fin.less hle h
 | true =>
  cases hvm : validM m with
  | false =>
   rw [hvs, hvm, Bool.and_false, if_neg (by simp)] at h
   repeat' (first | with_reducible refine And.intro ?_ ?_ | simp only [go_sem,seval, e1, e2, hvs, hvm] | simp (disch := omega) only [wrap64, cell_at, Rw_at, satRow_at] | simp (disch := first | omega | grind) only [heap_ne_, del_ne] | (intro hx_; try simp only [set_none] at hx_) | with_reducible refine rvalid_a s hs _ ?_ | with_reducible refine rModal_a m hm _ ?_ | omega)
   exact Fin.less hle h
  | true =>
   rw [hvs, hvm, Bool.and_true, if_pos rfl] at h
   have ho := validY_ok hvs
   have hok : okM m = true := by unfold validM at hvm; simp only [Bool.and_eq_true] at hvm; exact hvm.1.1
   by_cases h0 : 0 ≤ i
   ·by_cases h1 : i < s.seen.length
    ·have d0 : decide (i < 0) = false := decide_eq_false (by omega)
     have d1 : decide ((s.seen.length : Int) ≤ i) = false := decide_eq_false (by omega)
     have hsl := satRow_length s (toN s) m
     have hit : i.toNat < (satRow s (toN s) m).length := by omega
     have hat := satRow_at s (toN s) m i.toNat (by omega)
     rw [if_pos ⟨h0, h1⟩, ← hat] at h
     have m1 : b1 ∈ [b1, b2] := by simp
     have m2 : b2 ∈ [b1, b2] := by simp
     repeat' (first | with_reducible refine And.intro ?_ ?_ | simp only [go_sem,seval, e1, e2, hvs, hvm, d0, d1, h0, h1, hsl] | simp (disch := omega) only [wrap64, cell_at, Rw_at, satRow_at] | simp (disch := first | omega | grind) only [heap_ne_, del_ne] | (intro hx_; try simp only [set_none] at hx_) | with_reducible refine rvalid_a s hs _ ?_ | with_reducible refine rModal_a m hm _ ?_ | omega)
     refine par_mk (fun i => if i = 2 then .sl 1 (Rw boolsC (leadsV s)) else .sl 1 (Rw boolC (satRow s (toN s) m))) [b1, b2] ?_
     repeat' (first | with_reducible refine And.intro ?_ ?_ | simp only [go_sem,seval, e1, e2, m1, m2, h0, h1, hsl, Rw_at _ _ hit, Rw_get _ _ hit] | simp (disch := omega) only [wrap64, cell_at, Rw_at, satRow_at] | simp (disch := first | omega | grind) only [heap_ne_, del_ne] | (intro hx_; try simp only [set_none] at hx_) | with_reducible refine pc0 (fun H' Q hro hq => rLeads_a s hs ho H' hq) ?_ | with_reducible refine pc0 (fun H' Q hro hq => all_a s hs ho m hm hok H' hq) ?_ | omega)
     rw [← hat]
     exact Fin.less hle h
    ·have d0 : decide (i < 0) = false := decide_eq_false (by omega)
     have d1 : decide ((s.seen.length : Int) ≤ i) = true := decide_eq_true (by omega)
     rw [if_neg (fun e => h1 e.2)] at h
     repeat' (first | with_reducible refine And.intro ?_ ?_ | simp only [go_sem,seval, e1, e2, hvs, hvm, d0, d1] | simp (disch := omega) only [wrap64, cell_at, Rw_at, satRow_at] | simp (disch := first | omega | grind) only [heap_ne_, del_ne] | (intro hx_; try simp only [set_none] at hx_) | with_reducible refine rvalid_a s hs _ ?_ | with_reducible refine rModal_a m hm _ ?_ | omega)
     exact Fin.less hle h
   ·have d0 : decide (i < 0) = true := decide_eq_true (by omega)
    rw [if_neg (fun e => h0 e.1)] at h
    repeat' (first | with_reducible refine And.intro ?_ ?_ | simp only [go_sem,seval, e1, e2, hvs, hvm, d0] | simp (disch := omega) only [wrap64, cell_at, Rw_at, satRow_at] | simp (disch := first | omega | grind) only [heap_ne_, del_ne] | (intro hx_; try simp only [set_none] at hx_) | with_reducible refine rvalid_a s hs _ ?_ | with_reducible refine rModal_a m hm _ ?_ | omega)
    exact Fin.less hle h
end Go.Proofs.YtmohcdihdhggoaaGreatDoor
end
section
set_option maxRecDepth 20000
namespace Go.Proofs.YtmohcdihdhggoaaGreatDoor
open Go Go.Av Go.Lexs Go.Bis
attribute [local irreducible] ACalls at8
theorem few200_a {Q} (l : List Tm) (hl : l.length ≤ 1466015503658) (fl : ∀ a ∈ l, TmFit a) (H : Heap) (h : ∀ b, Q (.bool b) H) : ACalls Tryz.prog 31 [.int .i64 200, .sl 6 (Rw tmC l)] H Q := by
 refine acalls_of_wp [] Tryz.mixed Tryz.func31 rfl (by kernel_rfl) (of_decide_eq_true (by kernel_rfl)) (by kernel_rfl) ?_
 simp only [go_sem,seval, Tryz.results31]
 repeat' (first | with_reducible refine And.intro ?_ ?_ | simp only [go_sem,seval] | simp (disch := omega) only [wrap64, cell_at] | simp (disch := first | omega | grind) only [heap_ne_, del_ne] | (intro hx_; try simp only [set_none] at hx_) | with_reducible refine parts_n _ l (Nat.le_refl _) hl fl 200 0 (by omega) (by omega) (by omega) (by omega) _ ?_ | omega)
 exact Fin.same (h _)
end Go.Proofs.YtmohcdihdhggoaaGreatDoor
end
section
set_option maxRecDepth 20000
namespace Go.Proofs.YtmohcdihdhggoaaGreatDoor
open Go Go.Av Go.Lexs Go.Bis
attribute [local irreducible] ACalls at8
theorem few201_a {Q} (t : Tm) (ht : TmFit t) (H : Heap) (h : ∀ b, Q (.bool b) H) : ACalls Tryz.prog 31 [.int .i64 200, .sl 6 [tmC t]] H Q := few200_a [t] (by simp) (by simpa using ht) H h
set_option maxHeartbeats 2000000 in
theorem count_n (n : Nat) : ∀ {Q} (m : Mo) (left deep : Int) (hn : SizeOf.sizeOf m ≤ n) (hm : MoFit m) (h0 : 0 ≤ left) (h1 : left ≤ 2100) (h2 : -1 ≤ deep) (h3 : deep ≤ 300) (H : Heap) (h : ∀ r : Int, -1 ≤ r → r ≤ 2100 → (0 ≤ r → r + cntM m ≤ left) → Q (.int .i64 r) H),
  ACalls Tryz.prog 52 [.agg (moC m), .int .i64 left, .int .i64 deep] H Q := by
 induction n with
 | zero => intro Q m left deep hn; cases m; simp at hn
 | succ n ih =>
 intro Q m left deep hn hm h0 h1 h2 h3 H h
 refine acalls_of_wp [] Tryz.mixed Tryz.func52 rfl (by kernel_rfl) (of_decide_eq_true (by kernel_rfl)) (by kernel_rfl) ?_
 simp only [go_sem,seval, Tryz.results52]
 have hl := hm.l
 have hcm : cntM m = 1 + cntML m.kids := cntM_eq m
 intro b1 hb1
 have e1 : (H.set b1 (.box (moC m))) b1 = some (.box (moC m)) := heap_same _ _
 have hle : H.Le (H.set b1 (.box (moC m))) := heap_le_set hb1
 generalize H.set b1 (.box (moC m)) = Bs at e1 hle ⊢
 have hneg : Q (.int .i64 (-1)) H := h (-1) (by omega) (by omega) (by omega)
 by_cases hd : deep < 0
 ·have hdd : decide (deep < 0) = true := decide_eq_true hd
  repeat' (first | with_reducible refine And.intro ?_ ?_ | simp only [go_sem,seval, hdd, e1] | simp (disch := omega) only [wrap64, cell_at, Rw_at] | simp (disch := first | omega | grind) only [heap_ne_, del_ne] | (intro hx_; try simp only [set_none] at hx_) | omega)
  exact Fin.less hle hneg
 ·have hdd : decide (deep < 0) = false := decide_eq_false hd
  repeat' (first | with_reducible refine And.intro ?_ ?_ | simp only [go_sem,seval, hdd, e1] | simp (disch := omega) only [wrap64, cell_at, Rw_at] | simp (disch := first | omega | grind) only [heap_ne_, del_ne] | (intro hx_; try simp only [set_none] at hx_) | omega)
  rename_i bx
  have hfx := hx_
  clear hx_
  refine ACalls.vec2 (heap_same _ _) rfl ?_
  rw [set_del hfx]
  refine few201_a _ hm.t _ (fun bb => ?_)
  cases bb with
  | false =>
   repeat' (first | with_reducible refine And.intro ?_ ?_ | simp only [go_sem,seval, e1] | simp (disch := omega) only [wrap64, cell_at, Rw_at] | simp (disch := first | omega | grind) only [heap_ne_, del_ne] | (intro hx_; try simp only [set_none] at hx_) | omega)
   exact Fin.less hle hneg
  | true =>
   repeat' (first | with_reducible refine And.intro ?_ ?_ | simp only [go_sem,seval, e1] | simp (disch := omega) only [wrap64, cell_at, Rw_at] | simp (disch := first | omega | grind) only [heap_ne_, del_ne] | (intro hx_; try simp only [set_none] at hx_) | omega)
   refine loop_c [2, 21, 22] (fun (p : Nat × Int) => [(23, .int .i64 p.1), (1, .int .i64 p.2)]) (fun (p : Nat × Int) => Bs) (fun (p : Nat × Int) => p.1 ≤ m.kids.length ∧ -1 ≤ p.2 ∧ p.2 ≤ 2100 ∧ (0 ≤ p.2 → p.2 + 1 + cntML (m.kids.take p.1) ≤ left)) (fun (p : Nat × Int) => m.kids.length - p.1) ((0, left - 1)) (⟨Nat.zero_le _, by simp only []; omega, by simp only []; omega, fun _ => by simp only [List.take_zero, cntML_nil]; omega⟩) (by (try simp only [go_sem,seval]) <;> (try simp (disch := omega) [wrap64]) <;> (try omega)) (by first | with_reducible exact Heap.Le.refl _ | exact heap_set_le (by assumption) | exact Heap.Le.refl _ | exact heap_le_set (by assumption) | exact (by simp only [Go.Av.Heap.Le, Go.Av.Heap.set, Go.Av.Heap.del] at * <;> grind)) ?_
   rintro Ec rfl ⟨k, c⟩ ⟨q1, q2, q3, q4⟩
   simp only at q1 q2 q3 q4
   by_cases hlt : k < m.kids.length
   ·have hlk : decide ((k : Int) < m.kids.length) = true := decide_eq_true (by omega)
    have hmem := List.getElem_mem hlt
    have ht := cntML_take m.kids k hlt
    by_cases hc : c < 0
    ·have hcd : decide (c < 0) = true := decide_eq_true hc
     repeat' (first | with_reducible refine And.intro ?_ ?_ | simp only [go_sem,seval, hlk, hcd, Rw_at _ _ hlt] | simp (disch := omega) only [wrap64, cell_at, Rw_at] | simp (disch := first | omega | grind) only [heap_ne_, del_ne] | (intro hx_; try simp only [set_none] at hx_) | omega)
     exact Fin.less (hle.trans (heap_le_set (by assumption))) (h c q2 q3 (by omega))
    ·have hcd : decide (c < 0) = false := decide_eq_false hc
     repeat' (first | with_reducible refine And.intro ?_ ?_ | simp only [go_sem,seval, hlk, hcd, Rw_at _ _ hlt] | simp (disch := omega) only [wrap64, cell_at, Rw_at] | simp (disch := first | omega | grind) only [heap_ne_, del_ne] | (intro hx_; try simp only [set_none] at hx_) | omega)
     rename_i b8
     have hf8 := hx_
     clear hx_
     refine ih m.kids[k] c (deep - 1) (by have := mkid_lt hmem; omega) (hm.k _ hmem) (by omega) (by omega) (by omega) (by omega) _ (fun r r1 r2 r3 => ?_)
     repeat' (first | with_reducible refine And.intro ?_ ?_ | simp only [go_sem,seval] | simp (disch := omega) only [wrap64, cell_at, Rw_at] | simp (disch := first | omega | grind) only [heap_ne_, del_ne] | (intro hx_; try simp only [set_none] at hx_) | omega)
     exact nx_mk (k + 1, r) ⟨by simp only []; omega, r1, r2, fun h0r => by simp only [] at h0r ⊢; have := r3 h0r; have := q4 (by omega); omega⟩ (by simp only []; omega) (by (try simp only [go_sem,seval]) <;> (try simp (disch := omega) [wrap64]) <;> (try omega)) (heap_le_set hf8)
   ·have hlk : decide ((k : Int) < m.kids.length) = false := decide_eq_false (by omega)
    rw [List.take_of_length_le (by omega)] at q4
    repeat' (first | with_reducible refine And.intro ?_ ?_ | simp only [go_sem,seval, hlk] | simp (disch := omega) only [wrap64, cell_at, Rw_at] | simp (disch := first | omega | grind) only [heap_ne_, del_ne] | (intro hx_; try simp only [set_none] at hx_) | omega)
    exact Fin.less hle (h c q2 q3 (fun h0c => by have := q4 h0c; omega))
theorem little_a {Q} (m : Mo) (hm : MoFit m) (H : Heap) (h : ∀ b, (b = true → cntM m ≤ 2100) → Q (.bool b) H) : ACalls Tryz.prog 21 [.agg (moC m)] H Q := by
 refine acalls_of_wp [] Tryz.mixed Tryz.func21 rfl (by kernel_rfl) (of_decide_eq_true (by kernel_rfl)) (by kernel_rfl) ?_
 simp only [go_sem,seval, Tryz.results21]
 intro b1 hb1
 repeat' (first | with_reducible refine And.intro ?_ ?_ | simp only [go_sem,seval] | simp (disch := omega) only [wrap64, cell_at] | simp (disch := first | omega | grind) only [heap_ne_, del_ne] | (intro hx_; try simp only [set_none] at hx_) | omega)
 refine count_n _ m 2100 300 (Nat.le_refl _) hm (by omega) (by omega) (by omega) (by omega) _ (fun r r1 r2 r3 => ?_)
 repeat' (first | with_reducible refine And.intro ?_ ?_ | simp only [go_sem,seval] | simp (disch := omega) only [wrap64, cell_at] | simp (disch := first | omega | grind) only [heap_ne_, del_ne] | (intro hx_; try simp only [set_none] at hx_) | omega)
 exact Fin.less (heap_le_set hb1) (h (decide (0 ≤ r)) (fun e => by
  have h4 := r3 (of_decide_eq_true e)
  have h5 : (cntM m : Int) ≤ 2100 := by
   have h6 : (0 : Int) ≤ r := of_decide_eq_true e
   exact Int.le_trans (Int.le_add_of_nonneg_left h6) h4
  exact_mod_cast h5))
set_option maxHeartbeats 2000000 in
theorem fewL_a {Q} (l : List Sy) (hl : l.length ≤ 2) (fl : ∀ s ∈ l, SyFit s) (H : Heap) (h : ∀ b, Q (.bool b) H) : ACalls Tryz.prog 10 [.sl 3 (Rw syC l)] H Q := by
 refine acalls_of_wp [] Tryz.mixed Tryz.func10 rfl (by kernel_rfl) (of_decide_eq_true (by kernel_rfl)) (by kernel_rfl) ?_
 simp only [go_sem,seval, Tryz.results10]
 repeat' (first | with_reducible refine And.intro ?_ ?_ | simp only [go_sem,seval] | simp (disch := omega) only [wrap64, cell_at, Rw_at] | simp (disch := first | omega | grind) only [heap_ne_, del_ne] | (intro hx_; try simp only [set_none] at hx_) | omega)
 refine loop_c [8, 9] (fun (p : Nat × Int) => [(10, .int .i64 p.1), (3, .int .i64 p.2)]) (fun (p : Nat × Int) => H) (fun (p : Nat × Int) => p.1 ≤ l.length) (fun (p : Nat × Int) => l.length - p.1) ((0, 0)) (Nat.zero_le _) (by (try simp only [go_sem,seval]) <;> (try simp (disch := omega) [wrap64]) <;> (try omega)) (by first | with_reducible exact Heap.Le.refl _ | exact heap_set_le (by assumption) | exact Heap.Le.refl _ | exact heap_le_set (by assumption) | exact (by simp only [Go.Av.Heap.Le, Go.Av.Heap.set, Go.Av.Heap.del] at * <;> grind)) ?_
 rintro Ec rfl ⟨k, c⟩ hk
 simp only at hk
 by_cases hlt : k < l.length
 ·have hlk : decide ((k : Int) < l.length) = true := decide_eq_true (by omega)
  have hmem := List.getElem_mem hlt
  have hs := fl _ hmem
  repeat' (first | with_reducible refine And.intro ?_ ?_ | simp only [go_sem,seval, hlk, Rw_at _ _ hlt] | simp (disch := omega) only [wrap64, cell_at, Rw_at] | simp (disch := first | omega | grind) only [heap_ne_, del_ne] | (intro hx_; try simp only [set_none] at hx_) | omega)
  rename_i b5
  have hf5 := hx_
  clear hx_
  refine loop_c [5, 8, 9, 10, 28, 29] (fun (p : Nat × Int) => [(30, .int .i64 p.1), (3, .int .i64 p.2)]) (fun (p : Nat × Int) => H.set b5 (.box (syC l[k]))) (fun (p : Nat × Int) => p.1 ≤ l[k].next.length) (fun (p : Nat × Int) => l[k].next.length - p.1) ((0, IntKind.i64.wrap (c + IntKind.i64.wrap (IntKind.i64.wrap ((l[k].seen.length : Int) + l[k].final.length) + l[k].next.length)))) (Nat.zero_le _) (by (try simp only [go_sem,seval]) <;> (try simp (disch := omega) [wrap64]) <;> (try omega)) (by first | with_reducible exact Heap.Le.refl _ | exact heap_set_le (by assumption) | exact Heap.Le.refl _ | exact heap_le_set (by assumption) | exact (by simp only [Go.Av.Heap.Le, Go.Av.Heap.set, Go.Av.Heap.del] at * <;> grind)) ?_
  rintro Ec2 rfl ⟨j, d⟩ hj
  simp only at hj
  have hnl := hs.nl
  by_cases hjt : j < l[k].next.length
  ·have hjk : decide ((j : Int) < l[k].next.length) = true := decide_eq_true (by omega)
   repeat' (first | with_reducible refine And.intro ?_ ?_ | simp only [go_sem,seval, hjk, Rw_at _ _ hjt] | simp (disch := omega) only [wrap64, cell_at, Rw_at] | simp (disch := first | omega | grind) only [heap_ne_, del_ne] | (intro hx_; try simp only [set_none] at hx_) | omega)
   exact nx_mk (j + 1, IntKind.i64.wrap (d + l[k].next[j].length)) (by simp only []; omega) (by simp only []; omega) (by (try simp only [go_sem,seval]) <;> (try simp (disch := omega) [wrap64]) <;> (try omega)) (Heap.Le.refl _)
  ·have hjk : decide ((j : Int) < l[k].next.length) = false := decide_eq_false (by omega)
   by_cases h9 : 900 < d
   ·have h9d : decide (900 < d) = true := decide_eq_true h9
    repeat' (first | with_reducible refine And.intro ?_ ?_ | simp only [go_sem,seval, hjk, h9d] | simp (disch := omega) only [wrap64, cell_at, Rw_at] | simp (disch := first | omega | grind) only [heap_ne_, del_ne] | (intro hx_; try simp only [set_none] at hx_) | omega)
    exact Fin.less (heap_le_set hf5) (h _)
   ·have h9d : decide (900 < d) = false := decide_eq_false h9
    repeat' (first | with_reducible refine And.intro ?_ ?_ | simp only [go_sem,seval, hjk, h9d] | simp (disch := omega) only [wrap64, cell_at, Rw_at] | simp (disch := first | omega | grind) only [heap_ne_, del_ne] | (intro hx_; try simp only [set_none] at hx_) | omega)
    refine few_a _ hs.sl hs.tm _ (fun bb => ?_)
    cases bb with
    | false =>
     repeat' (first | with_reducible refine And.intro ?_ ?_ | simp only [go_sem,seval] | simp (disch := omega) only [wrap64, cell_at, Rw_at] | simp (disch := first | omega | grind) only [heap_ne_, del_ne] | (intro hx_; try simp only [set_none] at hx_) | omega)
     exact Fin.less (heap_le_set hf5) (h _)
    | true =>
     repeat' (first | with_reducible refine And.intro ?_ ?_ | simp only [go_sem,seval] | simp (disch := omega) only [wrap64, cell_at, Rw_at] | simp (disch := first | omega | grind) only [heap_ne_, del_ne] | (intro hx_; try simp only [set_none] at hx_) | omega)
     exact nx_mk (k + 1, d) (by simp only []; omega) (by simp only []; omega) (by (try simp only [go_sem,seval]) <;> (try simp (disch := omega) [wrap64]) <;> (try omega)) (heap_le_set hf5)
 ·have hlk : decide ((k : Int) < l.length) = false := decide_eq_false (by omega)
  repeat' (first | with_reducible refine And.intro ?_ ?_ | simp only [go_sem,seval, hlk] | simp (disch := omega) only [wrap64, cell_at, Rw_at] | simp (disch := first | omega | grind) only [heap_ne_, del_ne] | (intro hx_; try simp only [set_none] at hx_) | omega)
  exact Fin.same (h _)
end Go.Proofs.YtmohcdihdhggoaaGreatDoor
end
section
set_option maxRecDepth 20000
namespace Go.Av
theorem callFr {P : Program} {bl : List Nat} {H : Heap} {KD : D → Heap → Prop} {g : Nat} {args : List D} (h : ACalls P g args (roH H) (fun d _ => flatD d = true ∧ KD d H)) : callF P bl (.fn (.func g) [] []) args H KD := by
 refine ⟨roH H, roH_le H, fun k _ => roH_held H k, ?_⟩
 show ACalls P g ([] ++ args ++ []) _ _
 rw [List.nil_append, List.append_nil, sub_ro]; exact h
end Go.Av
namespace Go.Proofs.YtmohcdihdhggoaaGreatDoor
open Go Go.Av Go.Lexs Go.Bis
attribute [local irreducible] ACalls at8
theorem satR_two (s : Sy) (i : Int) (m : Mo) : ∃ x e, satR s i m = .tuple [.bool x, .int .i64 e] := by
 unfold satR
 split
 ·split
  ·exact ⟨_, _, rfl⟩
  ·exact ⟨_, _, rfl⟩
 ·exact ⟨_, _, rfl⟩
set_option maxHeartbeats 4000000 in
theorem lawSat_a {Q} (s : Sy) (i : Int) (m : Mo) (fs : SyFit s) (fm : MoFit m) (H : Heap) (hT : Tabs H) (h : Q (.bool true) H) : ACalls Tryz.prog 5 [.agg (syC s), .int .i64 i, .agg (moC m)] H Q := by
 refine acalls_of_wp [(1, .rg)] Tryz.mixed Tryz.func5 rfl (by kernel_rfl) (of_decide_eq_true (by kernel_rfl)) (by kernel_rfl) ?_
 simp only [go_sem,seval, Tryz.results5]
 intro b3 hb3 b5 hb5
 have e3 : ((H.set b3 (.box (syC s))).set b5 (.box (moC m))) b3 = some (.box (syC s)) := by rw [heap_ne _ (by rintro rfl; rw [heap_same] at hb5; cases hb5)]; exact heap_same _ _
 have e5 : ((H.set b3 (.box (syC s))).set b5 (.box (moC m))) b5 = some (.box (moC m)) := heap_same _ _
 have hle : H.Le ((H.set b3 (.box (syC s))).set b5 (.box (moC m))) := (heap_le_set hb3).trans (heap_le_set hb5)
 have hTB : Tabs ((H.set b3 (.box (syC s))).set b5 (.box (moC m))) := hT.le hle
 generalize (H.set b3 (.box (syC s))).set b5 (.box (moC m)) = Bs at e3 e5 hle hTB ⊢
 have m3 : b3 ∈ [b3, b5] := by simp
 have m5 : b5 ∈ [b3, b5] := by simp
 refine rg_mk [b3, b5] (fun k hk => by simp at hk; rcases hk with rfl | rfl; rw [e3]; simp; rw [e5]; simp) ?_
 repeat' (first | with_reducible refine And.intro ?_ ?_ | simp only [go_sem,seval, e3, e5, m3, m5] | simp (disch := omega) only [wrap64, cell_at, oneB_at] | simp (disch := first | omega | grind) only [heap_ne_, del_ne] | (intro hx_; try simp only [set_none] at hx_) | omega)
 rename_i x
 have hx := hx_
 clear hx_
 have nx : x ∉ [b3, b5] := by
  intro hk; simp at hk
  rcases hk with rfl | rfl
  ·rw [e3] at hx; cases hx
  ·rw [e5] at hx; cases hx
 refine callF1 (heap_same _ _) rfl nx ?_
 refine ACalls.vec1 (es := Rw syC [s]) (by rw [oneB_at, heap_same]; rfl) rfl ?_
 refine fewL_a [s] (by simp) (fun y hy => by simp only [List.mem_cons, List.not_mem_nil, or_false] at hy; rw [hy]; exact fs) _ (fun bb => ⟨rfl, ?_⟩)
 rw [set_del hx]
 cases bb with
 | false =>
  repeat' (first | with_reducible refine And.intro ?_ ?_ | simp only [go_sem,seval, e3, e5, m3, m5] | simp (disch := omega) only [wrap64, cell_at, oneB_at] | simp (disch := first | omega | grind) only [heap_ne_, del_ne] | (intro hx_; try simp only [set_none] at hx_) | with_reducible refine awake_a _ hTB ?_ | omega)
  exact Fin.less hle h
 | true =>
  repeat' (first | with_reducible refine And.intro ?_ ?_ | simp only [go_sem,seval, e3, e5, m3, m5] | simp (disch := omega) only [wrap64, cell_at, oneB_at] | simp (disch := first | omega | grind) only [heap_ne_, del_ne] | (intro hx_; try simp only [set_none] at hx_) | omega)
  refine callFr ?_
  refine little_a m fm _ (fun bb hc => ⟨rfl, ?_⟩)
  cases bb with
  | false =>
   repeat' (first | with_reducible refine And.intro ?_ ?_ | simp only [go_sem,seval, e3, e5, m3, m5] | simp (disch := omega) only [wrap64, cell_at, oneB_at] | simp (disch := first | omega | grind) only [heap_ne_, del_ne] | (intro hx_; try simp only [set_none] at hx_) | with_reducible refine awake_a _ hTB ?_ | omega)
   exact Fin.less hle h
  | true =>
   have hc := hc rfl
   obtain ⟨sx, se, hsat⟩ := satR_two s i m
   repeat' (first | with_reducible refine And.intro ?_ ?_ | simp only [go_sem,seval, e3, e5, m3, m5] | simp (disch := omega) only [wrap64, cell_at, oneB_at] | simp (disch := first | omega | grind) only [heap_ne_, del_ne] | (intro hx_; try simp only [set_none] at hx_) | with_reducible refine callF0 rfl (fun Q hq => nodes_a m fm _ hq) ?_ | omega)
   ·rfl
   ·refine awake_a _ hTB ?_
    repeat' (first | with_reducible refine And.intro ?_ ?_ | simp only [go_sem,seval, e3, e5] | simp (disch := omega) only [wrap64, cell_at, oneB_at] | simp (disch := first | omega | grind) only [heap_ne_, del_ne] | (intro hx_; try simp only [set_none] at hx_) | omega)
    exact Fin.less hle h
   ·refine bSat_a s fs i m fm (by omega) _ ?_
    rw [hsat]
    repeat' (first | with_reducible refine And.intro ?_ ?_ | simp only [go_sem,seval, e3, e5] | simp (disch := omega) only [wrap64, cell_at, oneB_at] | simp (disch := first | omega | grind) only [heap_ne_, del_ne] | (intro hx_; try simp only [set_none] at hx_) | omega)
    refine rSat_a s fs i m fm _ ?_
    rw [hsat]
    repeat' (first | with_reducible refine And.intro ?_ ?_ | simp only [go_sem,seval, e3, e5] | simp (disch := omega) only [wrap64, cell_at, oneB_at] | simp (disch := first | omega | grind) only [heap_ne_, del_ne] | (intro hx_; try simp only [set_none] at hx_) | with_reducible refine awake_a _ hTB ?_ | omega)
    exact Fin.less hle h
end Go.Proofs.YtmohcdihdhggoaaGreatDoor
end
section
namespace Go.Av
open Go.RowKit Go.ChangeShapes Go.WideShapes
section
variable {H : Type} {enc : TypeId × Value → H} {P : Program}
theorem fitsV_leaf {t : TypeId} {x : D} (hn : ∀ fs, P.underlying t ≠ some (.struct fs)) (h : FitsV P t x) : Fits P t [x] := by
 unfold FitsV at h
 split at h
 ·rename_i fs hfs; exact absurd hfs (hn fs)
 ·exact h
theorem fitsV_int {t : TypeId} {k : IntKind} {x : D} (hu : P.underlying t = some (.int k)) (h : FitsV P t x) : ∃ n, x = .int k n ∧ (Lit.int k n).wf = true := by
 obtain ⟨s, h1, h2⟩ := fits_int hu (fitsV_leaf (by simp [hu]) h)
 simp at h1
 exact ⟨s, h1, h2⟩
end
end Go.Av
end
section
set_option maxRecDepth 100000
namespace Go.Proofs.YtmohcdihdhggoaaGreatDoor
open Go Go.Av Go.Lexs Go.Bis
section
open Go.RowKit Go.ChangeShapes Go.WideShapes
end
theorem fits_mo (n : Nat) : ∀ (el : List D), SizeOf.sizeOf el ≤ n → Fits Tryz.prog 44 el → ∃ m : Mo, el = moC m ∧ MoFit m := by
 induction n with
 | zero => intro el hn; cases el <;> simp at hn
 | succ n ih =>
 intro el hn h
 have hre : reachBytes = 140737488351232 := rfl
 have hc : Tryz.prog.cellsOf 44 = 8 := by kernel_rfl
 have hb : Tryz.prog.bytesOf 44 = 128 := by kernel_rfl
 obtain ⟨ps, rfl, hl, hp⟩ := fits_struct Tryz.underlying44 h
 obtain ⟨p0, p1, p2, rfl⟩ := list_three ps hl
 obtain ⟨k, rfl, hk⟩ := fits_int (k := .i64) (by kernel_rfl) (hp 0 _ _ rfl rfl)
 obtain ⟨t, rfl, ht⟩ := fits_tm _ p1 (Nat.le_refl _) (hp 1 _ _ rfl rfl)
 obtain ⟨es, rfl, he, hes⟩ := fits_sl (e := 44) (by kernel_rfl) (hp 2 _ _ rfl rfl)
 rw [hc] at hn ⊢
 rw [hb] at he
 simp only [List.flatten_cons, List.flatten_nil, List.singleton_append, List.append_nil, List.cons.sizeOf_spec, List.nil.sizeOf_spec, D.sl.sizeOf_spec, List.cons_append, List.nil_append] at hn ⊢
 have hsz : SizeOf.sizeOf es < SizeOf.sizeOf (tmC t ++ [D.sl 8 es]) := by
  have hm : D.sl 8 es ∈ tmC t ++ [D.sl 8 es] := by simp
  have := List.sizeOf_lt_of_mem hm
  simp only [D.sl.sizeOf_spec] at this
  omega
 obtain ⟨ks, rfl, hks⟩ := rw_ex (f := moC) (p := MoFit) es (fun y hy => ih y (by have := List.sizeOf_lt_of_mem hy; omega) (hes y hy))
 rw [Rw_len] at he
 exact ⟨.mk k t ks, by rw [moC_tm]; rfl, .mk _ _ _ (wf_i64 hk) ht (by omega) hks⟩
theorem fitsV_mo {x : D} (h : FitsV Tryz.prog 44 x) : ∃ m : Mo, x = .agg (moC m) ∧ MoFit m := by
 obtain ⟨ds, rfl, hv⟩ := fitsV_struct Tryz.underlying44 h
 obtain ⟨m, rfl, hm⟩ := fits_mo _ ds (Nat.le_refl _) hv
 exact ⟨m, rfl, hm⟩
end Go.Proofs.YtmohcdihdhggoaaGreatDoor
end
section
set_option maxRecDepth 100000
namespace Go.Proofs.YtmohcdihdhggoaaGreatDoor.bisimSat
open Go Go.Av Go.Lexs Go.Bis Go.ChangeShapes Go.WideShapes Go.RowKit
theorem lifted (os : Os) (started : os.Started) (H : Type) (enc : TypeId × Value → H) (F : Stop.Interp) :
  ReturnsInHanded { calm := true } Tryz.checked os 5 .any (fun w args => (Rows.bisimSatSpec.pre enc Tryz.prog Tryz.f5 Rows.bisimSatRow.domain false w args ∧ laidMetH Tryz.prog Rows.bisimSatRow.laid w) ∧ sizedMet enc Tryz.prog Tryz.f5 (OpenSpec.ofChange Rows.bisimSatSpec) false w args)
   ((OpenSpec.ofChange Rows.bisimSatSpec).postWith enc Tryz.prog Tryz.f5 F (outsideKept [.timePasses]) false true false) := by
 refine Go.Clock.returns_of_change (C := Tryz.checked) (X := fun w _ => laidMetH Tryz.prog Rows.bisimSatRow.laid w) (fun _ _ _ hh h => h.of_heap hh) own started (by kernel_rfl) Tryz.func5
  (Go.Clock.witness_at (enc := enc) (C := Tryz.checked) (X := fun w _ => laidMetH Tryz.prog Rows.bisimSatRow.laid w) (World.laidAll Tryz.prog os Rows.bisimSatRow.laid) #[.agg #[.slice none 0 0, .slice none 0 0, .slice none 0 0], .int .i64 0, .agg #[.int .i64 0, .int .i64 0, .int .i64 0, .string ⟨#[]⟩, .string ⟨#[]⟩, .slice none 0 0, .slice none 0 0, .slice none 0 0]] 8 (World.laidAll_os _ _ _)
   (World.shaped_of_ZipB (by kernel_rfl) (by kernel_rfl)) (by kernel_rfl) (by kernel_rfl) (by kernel_rfl)
   (by rw [MakeChecks.laidMetH_plain _ _ _ (by kernel_rfl)]; exact laidMet_laidAll _ (by kernel_rfl) (by kernel_rfl))) ?_
 intro W base args ds gs before hval hW _ hsz hL _
 rw [MakeChecks.laidMetH_plain _ _ _ (by kernel_rfl)] at hL
 have hS := tabs_sat hL (by simp [Rows.bisimSatRow]) (by simp [Rows.bisimSatRow]) (by simp [Rows.bisimSatRow]) (by simp [Rows.bisimSatRow]) (by simp [Rows.bisimSatRow]) (by simp [Rows.bisimSatRow]) (by simp [Rows.bisimSatRow])
 have hW' := hW
 obtain ⟨p, q, hA0, hV, _, _, _⟩ := hW
 rw [Tryz.params5] at hA0 hval hsz
 obtain ⟨v0, v1, v2, d0, d1, d2, p0, p1, p2, rfl, rfl, rfl, h0, h1, h2⟩ := trodAll_three hA0
 obtain ⟨rfl, rfl⟩ := trodVars_none hV
 obtain ⟨x0, k0, r0⟩ := arg_fits plain28 tabs_held (by simp) (hval 0 _ _ rfl rfl) h0 (weightsEach_at hsz 0 _ _ rfl rfl)
 obtain ⟨x1, k1, r1⟩ := arg_fits plain28 tabs_held (by simp) (hval 1 _ _ rfl rfl) h1 (weightsEach_at hsz 1 _ _ rfl rfl)
 obtain ⟨x2, k2, r2⟩ := arg_fits plain28 tabs_held (by simp) (hval 2 _ _ rfl rfl) h2 (weightsEach_at hsz 2 _ _ rfl rfl)
 obtain ⟨s, rfl, fs⟩ := fits_sy k0
 obtain ⟨i, rfl, hi⟩ := fitsV_int (k := .i64) (by kernel_rfl) k1
 have hi := wf_i64 hi
 obtain ⟨m, rfl, fm⟩ := fitsV_mo k2
 have hre : reachBytes = 140737488351232 := rfl
 refine law_callsT laidOut (by kernel_rfl) rfl (tb := 4) (by kernel_rfl) (by kernel_rfl) rfl hW' tabs tabs_held hS [.agg (syC s), .int .i64 i, .agg (moC m)] rfl (fun i d hd => ?_) (fun Q hQ => lawSat_a s i m fs fm _ tabs_tabs hQ)
 match i, hd with
 | 0, hd => simp at hd; subst hd; exact r0
 | 1, hd => simp at hd; subst hd; exact r1
 | 2, hd => simp at hd; subst hd; exact r2
 | i + 3, hd => simp at hd
theorem said : Rows.BisimSatSaid :=
 Go.Clock.holds_of_wide_time 5 Tryz.f5 rfl rfl rfl rfl rfl rfl rfl ⟨rfl, rfl, rfl, rfl, rfl⟩ rfl rfl rfl rfl rfl (by kernel_rfl) Tryz.func5 (by kernel_rfl)
  (of_decide_eq_true (by kernel_rfl)) (by unfold Func.isWrapper; first | (rw [if_pos (by decide +kernel)]; kernel_rfl) | (rw [if_neg (by decide +kernel)]; exact ⟨rfl, rfl⟩))
  (fun os started H enc _ F => lifted os started H enc F)
theorem plain (f : FuncId) (fn : Func) (hf : Tryz.pinned.checked.prog.funcNamed "voussoir/voussoirlaw28.BisimSat" = some f) (hfn : Tryz.pinned.checked.prog.funcs[f]? = some fn) :
  false = Tryz.pinned.checked.prog.looks [] ∧ ∀ (j : Nat) t, fn.params[j]? = some t → Tryz.pinned.checked.prog.wantsStandIn t = false := by
 obtain rfl : f = 5 := Option.some.inj ((show Tryz.prog.funcNamed "voussoir/voussoirlaw28.BisimSat" = some 5 by kernel_rfl).symm.trans hf) |>.symm
 obtain rfl : fn = Tryz.f5 := (Option.some.inj (Tryz.func5.symm.trans hfn)).symm
 refine ⟨by kernel_rfl, fun j t ht => ?_⟩
 have hall : ((Tryz.f5.params.toList).all fun u => !Tryz.prog.wantsStandIn u) = true := by kernel_rfl
 have := List.all_eq_true.1 hall t (by rw [Array.mem_toList_iff]; exact Array.mem_of_getElem? ht)
 exact (by simpa using this : Tryz.prog.wantsStandIn t = false)
theorem card : Rows.BisimSatCardSaid :=
 Claim7.holds_tied_plain_at .later [] _ _ _ _ said (fun _ h => by cases h) (by kernel_rfl) (fun _ h => by cases h) bisimSat_row_tie rfl ⟨rfl, rfl⟩ (by kernel_rfl) rfl plain (by kernel_rfl)
end Go.Proofs.YtmohcdihdhggoaaGreatDoor.bisimSat
namespace Go.Proofs.YtmohcdihdhggoaaGreatDoor
theorem bisimSat_holds : Rows.BisimSatCardSaid := bisimSat.card
end Go.Proofs.YtmohcdihdhggoaaGreatDoor
end
