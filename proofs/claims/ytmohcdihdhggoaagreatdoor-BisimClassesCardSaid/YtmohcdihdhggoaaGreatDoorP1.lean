/- BisimClasses, proved: for every input the law returns true, and the arguments read as before; the listed tables hold what the program's text lays (the card). No other condition than the row's own. -/
import Derived.Test.YtmohcdihdhggoaaGreatDoorCards
import Derived.Test.YtmohcdihdhggoaaGreatDoorTie
import Derived.Test.YtmohcdihdhggoaaGreatDoorK6
set_option linter.unusedSimpArgs false
set_option linter.unusedVariables false
section
namespace Go.Av
section
variable {P : Program} {Z : List (Nat × Rc)} {Q : AX → Env → Heap → Prop} {E : Env} {H : Heap} {K : Env → Heap → Prop} {gs : List (Option Nat)} {l : List Oper} {KD : D → Heap → Prop} {ev : Operand → D} {bl : List Nat}
theorem rg_mk {gs : List (Option Nat)} {ops : List Oper} (bl : List Nat) (h : ∀ k ∈ bl, H k ≠ none) (h2 : wpOpsF P bl gs K ops E H) : raceK P gs ops K E H (some .rg) := ⟨bl, h, h2⟩
attribute [go_sem low] condA_bool
attribute [go_sem low] guardK_bool
attribute [go_sem low] guardF_bool
@[go_sem high] theorem guardF_tt (dst : Option Nat) (op : Op) (s : Nat) : guardF P bl gs K l dst op s (.bool true) true E H = wpOpF P bl (Env.ev ((s, .bool true) :: E)) H (opFK P bl gs K l dst ((s, .bool true) :: E)) op := by rw [guardF_bool]; simp
def roH (H : Heap) : Heap := fun k => match H k with
 | some (.ro cs) => some (.ro cs)
 | _ => none
theorem roH_at {H : Heap} {k : Nat} {cs : List D} (h : H k = some (.ro cs)) : roH H k = some (.ro cs) := by unfold roH; rw [h]
theorem roH_le (H : Heap) : (roH H).Le H := fun k o h => by
 unfold roH at h
 split at h
 ·rename_i cs e; cases h; exact e
 ·cases h
theorem roH_held (H : Heap) (k : Nat) : (roH H).held k = false := by
 cases h : roH H k with
 | none => exact held_none h
 | some o =>
  have h2 := h
  unfold roH at h2
  split at h2
  ·cases h2; rw [held_of h]; rfl
  ·cases h2
theorem sub_ro (H : Heap) : H.sub (roH H) = H := by
 funext k; unfold Heap.sub; rw [roH_held]; simp
def callF (P : Program) (bl : List Nat) (f : D) (args : List D) (H : Heap) (K : D → Heap → Prop) : Prop := ∃ Hc : Heap, Hc.Le H ∧ (∀ k ∈ bl, Hc.held k = false) ∧ callA P f args Hc (fun d _ => flatD d = true ∧ K d (H.sub Hc))
theorem callF0 {g : Nat} {args : List D} {c : D} (hc : flatD c = true) (h : ∀ (Q : D → Heap → Prop), Q c (roH H) → ACalls P g args (roH H) Q) (hk : KD c H) : callF P bl (.fn (.func g) [] []) args H KD := by
 refine ⟨roH H, roH_le H, fun k _ => roH_held H k, ?_⟩
 show ACalls P g ([] ++ args ++ []) _ _
 rw [List.nil_append, List.append_nil, sub_ro]; exact h _ ⟨hc, hk⟩
variable {sx : Bool} {bl : List Nat}
@[go_sem] theorem f_move (x : Operand) : wpOpF P bl ev H KD (.move x) = wpOp P ev H KD (.move x) := by show (_ = _ ∧ _) = _; simp [cls]
@[go_sem] theorem f_assign (x : Operand) : wpOpF P bl ev H KD (.assign x) = wpOp P ev H KD (.assign x) := by show (_ = _ ∧ _) = _; simp [cls]
@[go_sem] theorem f_pick (a b c : Operand) : wpOpF P bl ev H KD (.pick a b c) = wpOp P ev H KD (.pick a b c) := by show (_ = _ ∧ _) = _; simp [cls]
@[go_sem] theorem f_bin (op : BinOp) (t : Nat) (x y : Operand) (yt : Nat) : wpOpF P bl ev H KD (.binOp op t x y yt) = wpOp P ev H KD (.binOp op t x y yt) := by show (_ = _ ∧ _) = _; simp [cls]
@[go_sem] theorem f_call (f : Operand) (args : List Operand) (ts : Array Nat) : wpOpF P bl ev H KD (.call ⟨.value f, args.toArray, ts⟩) = callF P bl (ev f) (args.map ev) H KD := by
 show (∃ Hc : Heap, _ ∧ _ ∧ wpOp P ev Hc _ _) = _
 unfold callF
 simp only [s_call]
variable {t : Nat} {c : Bool} {k : IntKind} {a b : Int}
variable {t : Nat}
end
end Go.Av
end
section
set_option maxRecDepth 20000
namespace Go.Bis
open Go Go.Av Go.Lexs
noncomputable def leadsV (s : Sy) : List (List Bool) := (List.range s.seen.length).map (rowV (nxS s) s.seen.length)
theorem leadsV_length (s : Sy) : (leadsV s).length = s.seen.length := by simp [leadsV]
end Go.Bis
namespace Go.Proofs.YtmohcdihdhggoaaGreatDoor
open Go Go.Av Go.Lexs Go.Bis
attribute [local irreducible] ACalls at8
theorem rLeads_a {Q} (s : Sy) (hs : SyFit s) (ho : SyOk s) (H : Heap) (h : Q (.sl 1 (Rw boolsC (leadsV s))) H) : ACalls Tryz.prog 51 [.agg (syC s)] H Q := by
 refine acalls_of_wp [] Tryz.mixed Tryz.func51 rfl (by kernel_rfl) (of_decide_eq_true (by kernel_rfl)) (by kernel_rfl) ?_
 simp only [go_sem,seval, Tryz.results51]
 have hn := ho.n
 have hxl := ho.x
 intro b1 hb1
 repeat' (first | with_reducible refine And.intro ?_ ?_ | simp only [go_sem,seval] | simp (disch := omega) only [wrap64, cell_at, Rw_at, nxS_at] | simp (disch := first | omega | grind) only [heap_ne_, del_ne] | (intro hx_; try simp only [set_none] at hx_) | omega)
 refine loop_c [1, 3, 16] (fun (p : Nat × Option Nat) => [(17, .int .i64 p.1), (4, outG 1 p.1 p.2)]) (fun (p : Nat × Option Nat) => putB (H.set b1 (.box (syC s))) 1 (Rw boolsC ((leadsV s).take p.1)) p.2) (fun (p : Nat × Option Nat) => p.1 ≤ s.seen.length ∧ (p.2 = none → p.1 = 0) ∧ ∀ b, p.2 = some b → (H.set b1 (.box (syC s))) b = none) (fun (p : Nat × Option Nat) => s.seen.length - p.1) ((0, none)) (⟨Nat.zero_le _, fun _ => rfl, fun b e => by cases e⟩) (by (try simp only [go_sem,seval]) <;> (try simp (disch := omega) [wrap64]) <;> (try omega)) (by first | with_reducible exact Heap.Le.refl _ | exact heap_set_le (by assumption) | exact Heap.Le.refl _ | exact heap_le_set (by assumption) | exact (by simp only [Go.Av.Heap.Le, Go.Av.Heap.set, Go.Av.Heap.del] at * <;> grind)) ?_
 rintro Ec rfl ⟨i, ob⟩ ⟨hi, h0, h1⟩
 simp only at hi h0 h1
 have hin := OutIn.mk (H := H.set b1 (.box (syC s))) (sz := 1) (es := Rw boolsC ((leadsV s).take i)) (ob := ob) (fun e => by rw [h0 e]; rfl) h1
 by_cases hlt : i < s.seen.length
 ·have hkd : decide ((i : Int) < s.seen.length) = true := decide_eq_true (by omega)
  have hrp : i < (List.replicate s.seen.length false).length := by simp; omega
  repeat' (first | with_reducible refine And.intro ?_ ?_ | simp only [go_sem,seval, hkd, List.length_replicate, rep_b, Rw_at _ _ hrp, set_b] | simp (disch := omega) only [wrap64, cell_at, Rw_at, nxS_at] | simp (disch := first | omega | grind) only [heap_ne_, del_ne] | (intro hx_; try simp only [set_none] at hx_) | omega)
  rename_i b2
  have hf2 := hx_
  clear hx_
  generalize hHc : putB (H.set b1 (.box (syC s))) 1 (Rw boolsC ((leadsV s).take i)) ob = Hc at hf2 hin ⊢
  have hbx : Hc b1 = some (.box (syC s)) := hin.1 _ _ (heap_same _ _)
  have hn0 : ((List.replicate s.seen.length false).set i true).length = s.seen.length := by simp
  refine loop_c [1, 3, 4, 6, 16, 17] (fun (p : List Bool × Bool) => [(7, .bool p.2)]) (fun (p : List Bool × Bool) => Hc.set b2 (.vec 1 (Rw boolC p.1))) (fun (p : List Bool × Bool) => p.1.length = s.seen.length ∧ p.1[i]? = some true ∧ Snd (nxS s) i p.1 ∧ (p.2 = false → ∀ k, ClAt (nxS s) p.1 k)) (fun (p : List Bool × Bool) => p.1.count false + (if p.2 then 1 else 0)) (((List.replicate s.seen.length false).set i true, true)) (⟨hn0, mark_there (by simp; omega), Snd.start, fun e => by cases e⟩) (by (try simp only [go_sem,seval]) <;> (try simp (disch := omega) [wrap64]) <;> (try omega)) (by first | with_reducible exact Heap.Le.refl _ | exact heap_set_le (by assumption) | exact Heap.Le.refl _ | exact heap_le_set (by assumption) | exact (by simp only [Go.Av.Heap.Le, Go.Av.Heap.set, Go.Av.Heap.del] at * <;> grind)) ?_
  rintro Ec2 rfl ⟨v, more⟩ ⟨v1, v2, v3, v4⟩
  simp only at v1 v2 v3 v4
  have hin2 : OutIn (H.set b1 (.box (syC s))) 1 (Rw boolsC ((leadsV s).take i)) ob (Hc.set b2 (.vec 1 (Rw boolC v))) := OutIn.set hin hf2 _
  cases more with
  | false =>
   have hrow : v = rowV (nxS s) s.seen.length i := rowV_of v1 v2 v3 (v4 rfl)
   repeat' (first | with_reducible refine And.intro ?_ ?_ | simp only [go_sem,seval] | simp (disch := omega) only [wrap64, cell_at, Rw_at, nxS_at] | simp (disch := first | omega | grind) only [heap_ne_, del_ne] | (intro hx_; try simp only [set_none] at hx_) | omega)
   rename_i b3
   have hb3 := hx_
   clear hx_
   have h32 : b3 ≠ b2 := by intro e; rw [e] at hb3; simp [Heap.set] at hb3
   have hd2 : delB ((Hc.set b2 (.vec 1 (Rw boolC v))).set b3 (.vec 1 [[.vec b2 1 0 s.seen.length]])) ob b2 = some (.vec 1 (Rw boolC v)) := by
    cases ob with
    | none => simp [delB, Heap.set, Ne.symm h32]
    | some c =>
     have hc2 : c ≠ b2 := by
      intro e
      have := hin.2.1
      rw [e] at this
      exact absurd (this.symm.trans hf2) (by simp)
     simp [delB, Heap.del, Heap.set, Ne.symm h32, Ne.symm hc2]
   have hlv : i < (leadsV s).length := by rw [leadsV_length]; exact hlt
   refine apS_q (by first | exact hin2 | exact OutIn.set (hin2) (by first | assumption | (refine set_none.2 ?_; assumption) | (simp only [set_none]; assumption) | (simp only [set_none] at *; simp_all; done)) _ | exact OutIn.set (OutIn.set (hin2) (by first | assumption | (refine set_none.2 ?_; assumption) | (simp only [set_none]; assumption) | (simp only [set_none] at *; simp_all; done)) _) (by first | assumption | (refine set_none.2 ?_; assumption) | (simp only [set_none]; assumption) | (simp only [set_none] at *; simp_all; done)) _ | exact OutIn.set (OutIn.set (OutIn.set (hin2) (by first | assumption | (refine set_none.2 ?_; assumption) | (simp only [set_none]; assumption) | (simp only [set_none] at *; simp_all; done)) _) (by first | assumption | (refine set_none.2 ?_; assumption) | (simp only [set_none]; assumption) | (simp only [set_none] at *; simp_all; done)) _) (by first | assumption | (refine set_none.2 ?_; assumption) | (simp only [set_none]; assumption) | (simp only [set_none] at *; simp_all; done)) _ | exact OutIn.set (OutIn.set (OutIn.set (OutIn.set (hin2) (by first | assumption | (refine set_none.2 ?_; assumption) | (simp only [set_none]; assumption) | (simp only [set_none] at *; simp_all; done)) _) (by first | assumption | (refine set_none.2 ?_; assumption) | (simp only [set_none]; assumption) | (simp only [set_none] at *; simp_all; done)) _) (by first | assumption | (refine set_none.2 ?_; assumption) | (simp only [set_none]; assumption) | (simp only [set_none] at *; simp_all; done)) _) (by first | assumption | (refine set_none.2 ?_; assumption) | (simp only [set_none]; assumption) | (simp only [set_none] at *; simp_all; done)) _ ) (by simp) (by first | rfl | (simp only [go_sem,seval, Rw_take_len]; done) | (simp only [go_sem,seval, Rw_take_len]; omega) | simp | (simp; omega)) (by simp only [List.length_cons, List.length_nil]; omega) (by simp only [List.length_cons, List.length_nil]; omega) fun b' hb' hb2 hle => ?_
   have hne : b2 ≠ b' := by intro e; rw [← e] at hb2; rw [hd2] at hb2; cases hb2
   repeat' (first | with_reducible refine And.intro ?_ ?_ | simp only [go_sem,seval] | simp (disch := omega) only [wrap64, cell_at, Rw_at, nxS_at] | simp (disch := first | omega | grind) only [heap_ne_, del_ne] | (intro hx_; try simp only [set_none] at hx_) | omega)
   refine nx_w (i + 1, some b') ⟨by simp only []; omega, (fun e => by cases e), fun b e => by cases e; exact hb'⟩ (by simp only []; omega) ?_
   have hrow2 : (leadsV s)[i] = v := by rw [hrow]; simp [leadsV]
   have e5 : Rw boolsC ((leadsV s).take (i + 1)) = Rw boolsC ((leadsV s).take i) ++ [[.sl 1 (Rw boolC v)]] := by rw [Rw_take_succ _ _ hlv, hrow2]; rfl
   have hb2n : (H.set b1 (.box (syC s))) b2 = none := hin.1.none hf2
   simp only [putB]
   rw [e5]
   refine weak_row (m := b2) ?_ ?_ (by rw [heap_same]) (by rw [heap_ne _ hne]; exact hd2) hne (fun k o hk ho => ⟨fun e => ?_, hle _ k o ?_⟩)
   ·exact (by (try simp only [go_sem,seval]) <;> (try simp (disch := omega) [wrap64]) <;> (try omega))
   ·rw [Rw_len, v1]
   ·rw [e] at ho
    exact absurd (ho.symm.trans hb2n) (by simp)
   ·unfold Heap.set at ho ⊢
    rw [if_neg hk]; exact ho
  | true =>
   repeat' (first | with_reducible refine And.intro ?_ ?_ | simp only [go_sem,seval] | simp (disch := omega) only [wrap64, cell_at, Rw_at, nxS_at] | simp (disch := first | omega | grind) only [heap_ne_, del_ne] | (intro hx_; try simp only [set_none] at hx_) | omega)
   refine loop_c [1, 3, 4, 6, 16, 17, 27] (fun (p : Nat × List Bool × Bool) => [(28, .int .i64 p.1), (7, .bool p.2.2)]) (fun (p : Nat × List Bool × Bool) => Hc.set b2 (.vec 1 (Rw boolC p.2.1))) (fun (p : Nat × List Bool × Bool) => p.1 ≤ s.seen.length ∧ p.2.1.length = s.seen.length ∧ p.2.1[i]? = some true ∧ Snd (nxS s) i p.2.1 ∧ p.2.1.count false ≤ v.count false ∧ (p.2.2 = true → p.2.1.count false < v.count false) ∧ (p.2.2 = false → p.2.1 = v ∧ ∀ j, j < p.1 → ClAt (nxS s) v j)) (fun (p : Nat × List Bool × Bool) => s.seen.length - p.1) ((0, v, false)) (⟨Nat.zero_le _, v1, v2, v3, Nat.le_refl _, (fun e => by cases e), fun _ => ⟨rfl, fun j hj => absurd hj (Nat.not_lt_zero _)⟩⟩) (by (try simp only [go_sem,seval]) <;> (try simp (disch := omega) [wrap64]) <;> (try omega)) (by first | with_reducible exact Heap.Le.refl _ | exact heap_set_le (by assumption) | exact Heap.Le.refl _ | exact heap_le_set (by assumption) | exact (by simp only [Go.Av.Heap.Le, Go.Av.Heap.set, Go.Av.Heap.del] at * <;> grind)) ?_
   rintro Ec3 rfl ⟨k, u, m2⟩ ⟨u0, u1, u2, u3, u4, u5, u6⟩
   simp only at u0 u1 u2 u3 u4 u5 u6
   by_cases hkt : k < s.seen.length
   ·have hkk : decide ((k : Int) < s.seen.length) = true := decide_eq_true (by omega)
    have hku : k < u.length := by omega
    have hki : (k : Int) < s.seen.length := by omega
    have hkx : k < s.next.length := by omega
    have hil := hs.il s.next[k] (List.getElem_mem hkx)
    cases huk : u[k] with
    | false =>
     repeat' (first | with_reducible refine And.intro ?_ ?_ | simp only [go_sem,seval, hkk, hki, hbx, Rw_get _ _ hku, huk] | simp (disch := omega) only [wrap64, cell_at, Rw_at, nxS_at] | simp (disch := first | omega | grind) only [heap_ne_, del_ne] | (intro hx_; try simp only [set_none] at hx_) | omega)
     refine nx_mk (k + 1, u, m2) ⟨by simp only []; omega, u1, u2, u3, u4, u5, fun e => ?_⟩ (by simp only []; omega) (by (try simp only [go_sem,seval]) <;> (try simp (disch := omega) [wrap64]) <;> (try omega)) (Heap.Le.refl _)
     obtain ⟨e1, e2⟩ := u6 e
     refine ⟨e1, fun j hj => ?_⟩
     by_cases hjk : j = k
     ·subst hjk
      intro hv
      rw [← e1, List.getElem?_eq_getElem hku, huk] at hv
      cases hv
     ·exact e2 j (by simp only [] at hj; omega)
    | true =>
     repeat' (first | with_reducible refine And.intro ?_ ?_ | simp only [go_sem,seval, hkk, hki, hbx, Rw_get _ _ hku, huk, Rw_at _ _ hkx] | simp (disch := omega) only [wrap64, cell_at, Rw_at, nxS_at] | simp (disch := first | omega | grind) only [heap_ne_, del_ne] | (intro hx_; try simp only [set_none] at hx_) | omega)
     have hnx := nxS_at hkx
     refine loop_c [1, 3, 4, 6, 16, 17, 27, 28, 40, 41] (fun (p : Nat × List Bool × Bool) => [(42, .int .i64 p.1), (7, .bool p.2.2)]) (fun (p : Nat × List Bool × Bool) => Hc.set b2 (.vec 1 (Rw boolC p.2.1))) (fun (p : Nat × List Bool × Bool) => p.1 ≤ s.next[k].length ∧ p.2.1.length = s.seen.length ∧ p.2.1[i]? = some true ∧ Snd (nxS s) i p.2.1 ∧ p.2.1.count false ≤ v.count false ∧ (p.2.2 = true → p.2.1.count false < v.count false) ∧ p.2.1[k]? = some true ∧ (p.2.2 = false → p.2.1 = v ∧ (∀ j, j < k → ClAt (nxS s) v j) ∧ ∀ m ∈ (s.next[k].take p.1).map Int.toNat, v[m]? = some true)) (fun (p : Nat × List Bool × Bool) => s.next[k].length - p.1) ((0, u, m2)) (⟨Nat.zero_le _, u1, u2, u3, u4, u5, (by rw [List.getElem?_eq_getElem hku, huk]), fun e => ⟨(u6 e).1, (u6 e).2, fun m hm => by simp at hm⟩⟩) (by (try simp only [go_sem,seval]) <;> (try simp (disch := omega) [wrap64]) <;> (try omega)) (by first | with_reducible exact Heap.Le.refl _ | exact heap_set_le (by assumption) | exact Heap.Le.refl _ | exact heap_le_set (by assumption) | exact (by simp only [Go.Av.Heap.Le, Go.Av.Heap.set, Go.Av.Heap.del] at * <;> grind)) ?_
     rintro Ec4 rfl ⟨j, q, m3⟩ ⟨w0, w1, w2, w3, w4, w5, w7, w6⟩
     simp only at w0 w1 w2 w3 w4 w5 w6 w7
     by_cases hjt : j < s.next[k].length
     ·have hjj : decide ((j : Int) < s.next[k].length) = true := decide_eq_true (by omega)
      obtain ⟨r1, r2⟩ := ho.r _ (List.getElem_mem hkx) _ (List.getElem_mem hjt)
      have hqm : (s.next[k][j]).toNat < q.length := by omega
      have hmem : (s.next[k][j]).toNat ∈ nxS s k := by rw [hnx]; exact List.mem_map.2 ⟨_, List.getElem_mem hjt, rfl⟩
      have htk : s.next[k].take (j + 1) = s.next[k].take j ++ [s.next[k][j]] := List.take_succ_eq_append_getElem hjt
      cases hqv : q[(s.next[k][j]).toNat] with
      | false =>
       have hq2 : q[(s.next[k][j]).toNat]? = some false := by rw [List.getElem?_eq_getElem hqm, hqv]
       have hct := mark_count hq2
       repeat' (first | with_reducible refine And.intro ?_ ?_ | simp only [go_sem,seval, hjj, r1, r2, hbx, Rw_at _ _ hjt, Rw_get _ _ hqm, Rw_at _ _ hqm, hqv, set_b] | simp (disch := omega) only [wrap64, cell_at, Rw_at, nxS_at] | simp (disch := first | omega | grind) only [heap_ne_, del_ne] | (intro hx_; try simp only [set_none] at hx_) | omega)
       refine nx_mk (j + 1, q.set (s.next[k][j]).toNat true, true) ⟨by simp only []; omega, by simp only [List.length_set]; exact w1, mark_keep w2, w3.set w7 hmem, by simp only []; omega, fun _ => by simp only []; omega, mark_keep w7, fun e => by cases e⟩ (by simp only []; omega) (by (try simp only [go_sem,seval]) <;> (try simp (disch := omega) [wrap64]) <;> (try omega)) (Heap.Le.refl _)
      | true =>
       repeat' (first | with_reducible refine And.intro ?_ ?_ | simp only [go_sem,seval, hjj, r1, r2, hbx, Rw_at _ _ hjt, Rw_get _ _ hqm, hqv] | simp (disch := omega) only [wrap64, cell_at, Rw_at, nxS_at] | simp (disch := first | omega | grind) only [heap_ne_, del_ne] | (intro hx_; try simp only [set_none] at hx_) | omega)
       refine nx_mk (j + 1, q, m3) ⟨by simp only []; omega, w1, w2, w3, w4, w5, w7, fun e => ⟨(w6 e).1, (w6 e).2.1, fun m hm => ?_⟩⟩ (by simp only []; omega) (by (try simp only [go_sem,seval]) <;> (try simp (disch := omega) [wrap64]) <;> (try omega)) (Heap.Le.refl _)
       simp only [] at hm
       rw [htk, List.map_append, List.mem_append] at hm
       rcases hm with hm | hm
       ·exact (w6 e).2.2 m hm
       ·simp only [List.map_cons, List.map_nil, List.mem_singleton] at hm
        rw [hm, ← (w6 e).1, List.getElem?_eq_getElem hqm, hqv]
     ·have hjj : decide ((j : Int) < s.next[k].length) = false := decide_eq_false (by omega)
      repeat' (first | with_reducible refine And.intro ?_ ?_ | simp only [go_sem,seval, hjj] | simp (disch := omega) only [wrap64, cell_at, Rw_at, nxS_at] | simp (disch := first | omega | grind) only [heap_ne_, del_ne] | (intro hx_; try simp only [set_none] at hx_) | omega)
      refine nx_mk (k + 1, q, m3) ⟨by simp only []; omega, w1, w2, w3, w4, w5, fun e => ⟨(w6 e).1, fun j' hj' => ?_⟩⟩ (by simp only []; omega) (by (try simp only [go_sem,seval]) <;> (try simp (disch := omega) [wrap64]) <;> (try omega)) (Heap.Le.refl _)
      by_cases hjk : j' < k
      ·exact (w6 e).2.1 j' hjk
      ·obtain rfl : j' = k := by simp only [] at hj'; omega
       intro _ m hm
       rw [hnx] at hm
       exact (w6 e).2.2 m (by rw [List.take_of_length_le (by omega)]; exact hm)
   ·have hkk : decide ((k : Int) < s.seen.length) = false := decide_eq_false (by omega)
    repeat' (first | with_reducible refine And.intro ?_ ?_ | simp only [go_sem,seval, hkk] | simp (disch := omega) only [wrap64, cell_at, Rw_at, nxS_at] | simp (disch := first | omega | grind) only [heap_ne_, del_ne] | (intro hx_; try simp only [set_none] at hx_) | omega)
    refine nx_mk (u, m2) ⟨u1, u2, u3, fun e => ?_⟩ ?_ (by (try simp only [go_sem,seval]) <;> (try simp (disch := omega) [wrap64]) <;> (try omega)) (Heap.Le.refl _)
    ·obtain ⟨e1, e2⟩ := u6 e
     intro j
     by_cases hj : j < k
     ·simp only []; rw [e1]; exact e2 j hj
     ·intro hv
      have := (List.getElem?_eq_some_iff.1 hv).1
      simp only [] at this
      omega
    ·cases m2 with
     | true => have := u5 rfl; simp; omega
     | false => have := u4; simp; omega
 ·have hkd : decide ((i : Int) < s.seen.length) = false := decide_eq_false (by omega)
  repeat' (first | with_reducible refine And.intro ?_ ?_ | simp only [go_sem,seval, hkd] | simp (disch := omega) only [wrap64, cell_at, Rw_at, nxS_at] | simp (disch := first | omega | grind) only [heap_ne_, del_ne] | (intro hx_; try simp only [set_none] at hx_) | omega)
  exact Fin.o (hin.less (heap_le_set hb1)) (Rw_take_len _ i (by rw [leadsV_length]; omega)).symm (by rw [Rw_take_all _ i (by rw [leadsV_length]; omega)]; exact h)
end Go.Proofs.YtmohcdihdhggoaaGreatDoor
end
section
set_option maxRecDepth 20000
namespace Go.Proofs.YtmohcdihdhggoaaGreatDoor
open Go Go.Av Go.Lexs Go.Bis
attribute [local irreducible] ACalls at8
theorem rsame_a {Q} (l m : List Bool) (hl : l.length ≤ 140737488351232) (hm : m.length = l.length) (H : Heap) (h : Q (.bool (decide (l = m))) H) : ACalls Tryz.prog 68 [.sl 1 (Rw boolC l), .sl 1 (Rw boolC m)] H Q := by
 refine acalls_of_wp [] Tryz.mixed Tryz.func68 rfl (by kernel_rfl) (of_decide_eq_true (by kernel_rfl)) (by kernel_rfl) ?_
 simp only [go_sem,seval, Tryz.results68]
 refine loop_c [0, 1, 7] (fun (k : Nat) => [(8, .int .i64 k)]) (fun (k : Nat) => H) (fun (k : Nat) => k ≤ l.length ∧ decide (l = m) = decide (l.drop k = m.drop k)) (fun (k : Nat) => l.length - k) (0) (⟨Nat.zero_le _, rfl⟩) (by (try simp only [go_sem,seval]) <;> (try simp (disch := omega) [wrap64]) <;> (try omega)) (by first | with_reducible exact Heap.Le.refl _ | exact heap_set_le (by assumption) | exact Heap.Le.refl _ | exact heap_le_set (by assumption) | exact (by simp only [Go.Av.Heap.Le, Go.Av.Heap.set, Go.Av.Heap.del] at * <;> grind)) ?_
 rintro Ec rfl k ⟨hk, hp⟩
 by_cases hlt : k < l.length
 ·have hkd : decide ((k : Int) < l.length) = true := decide_eq_true (by omega)
  have hm2 : k < m.length := by omega
  rw [drop_beq hlt hm2] at hp
  rw [hp] at h
  have hm3 : (k : Int) < m.length := by omega
  by_cases he : l[k] = m[k]
  ·have hb : (l[k] == m[k]) = true := by rw [he]; exact beq_self_eq_true _
   rw [decide_eq_true he, Bool.true_and] at h hp
   repeat' (first | with_reducible refine And.intro ?_ ?_ | simp only [go_sem,seval, hkd, hm3, Rw_at _ _ hlt, Rw_at _ _ hm2, hb, Bool.not_true] | simp (disch := omega) only [wrap64, cell_at, Rw_at] | simp (disch := first | omega | grind) only [heap_ne_, del_ne] | (intro hx_; try simp only [set_none] at hx_) | omega)
   exact nx_mk (k + 1) ⟨by omega, hp⟩ (by omega) (by (try simp only [go_sem,seval]) <;> (try simp (disch := omega) [wrap64]) <;> (try omega)) (Heap.Le.refl _)
  ·have hb : (l[k] == m[k]) = false := by simpa using he
   rw [decide_eq_false he, Bool.false_and] at h
   repeat' (first | with_reducible refine And.intro ?_ ?_ | simp only [go_sem,seval, hkd, hm3, Rw_at _ _ hlt, Rw_at _ _ hm2, hb, Bool.not_false] | simp (disch := omega) only [wrap64, cell_at, Rw_at] | simp (disch := first | omega | grind) only [heap_ne_, del_ne] | (intro hx_; try simp only [set_none] at hx_) | omega)
   all_goals (refine Av.Fin.less (H' := H) (by first | with_reducible exact Heap.Le.refl _ | exact heap_le_set (by assumption) | exact (heap_le_set (by assumption)).trans (heap_le_set (by assumption)) | exact (heap_le_set (by assumption)).trans ((heap_le_set (by assumption)).trans (heap_le_set (by assumption))) | exact (by simp only [Go.Av.Heap.Le, Go.Av.Heap.set, Go.Av.Heap.del] at * <;> grind)) ?_; first | exact h | (simp_all; done) | simpa [*] using h)
 ·have hkd : decide ((k : Int) < l.length) = false := decide_eq_false (by omega)
  rw [hp, List.drop_eq_nil_of_le (by omega), List.drop_eq_nil_of_le (by omega)] at h
  repeat' (first | with_reducible refine And.intro ?_ ?_ | simp only [go_sem,seval, hkd] | simp (disch := omega) only [wrap64, cell_at, Rw_at] | simp (disch := first | omega | grind) only [heap_ne_, del_ne] | (intro hx_; try simp only [set_none] at hx_) | omega)
  (refine Av.Fin.less (H' := H) (by first | with_reducible exact Heap.Le.refl _ | exact heap_le_set (by assumption) | exact (heap_le_set (by assumption)).trans (heap_le_set (by assumption)) | exact (heap_le_set (by assumption)).trans ((heap_le_set (by assumption)).trans (heap_le_set (by assumption))) | exact (by simp only [Go.Av.Heap.Le, Go.Av.Heap.set, Go.Av.Heap.del] at * <;> grind)) ?_; first | exact h | (simp_all; done) | simpa [*] using h)
end Go.Proofs.YtmohcdihdhggoaaGreatDoor
end
section
namespace Go.Av
theorem pa_one {H0 : Heap} {KD : D → Heap → Prop} {bl : Bl} {b sz n by_ : Nat} {es xs : List (List D)} (h0 : H0 b = none) (hn : n = es.length) (hb : b ∉ bl.l) (h1 : (n + xs.length) * by_ ≤ 140737488355328) (h2 : n + xs.length ≤ 9223372036854775807)
  (h : ∀ b', H0 b' = none → KD (.vec b' sz 0 (n + xs.length)) (H0.set b' (.vec sz (es ++ xs)))) : paV (some (.vec sz es)) bl [] b sz n by_ xs (H0.set b (.vec sz es)) KD := by
 rw [paV_vec]
 refine ⟨rfl, by omega, h1, h2, .inl hb, by rw [xOk_nil]; trivial, fun b' hb' => ?_⟩
 rw [outB_nil, minus_cons, minus_nil, set_del h0, List.take_of_length_le (by omega)]
 refine h b' ?_
 rcases hb' with hb' | hb'
 ·exact (heap_le_set h0).none hb'
 ·rw [outB_nil] at hb'; simp at hb'; rw [hb']; exact h0
theorem p_app_one {P : Program} {c : CR} {bl : Bl} {ev : Operand → D} {H : Heap} {KD : D → Heap → Prop} {s x : Operand} {t t' : Nat} (e by_ : Nat) (xs : List (List D)) {sz b : Nat} {es : List (List D)} {H0 : Heap} (hH : H = H0.set b (.vec sz es))
  (hT : elemT P t = some (e, sz, by_)) (hz : 0 < sz) (h1 : apT (baseT P t')) (h2 : apZ (zeroD P e) sz) (hs : ev s = .vec b sz 0 es.length) (hx : elemsD H sz (ev x) = some xs) (hv : vecB (ev x) = []) (hb0 : H0 b = none) (hbl : b ∉ bl.l)
  (h3 : (es.length + xs.length) * by_ ≤ 140737488355328) (h4 : es.length + xs.length ≤ 9223372036854775807) (h : ∀ b', H0 b' = none → KD (.vec b' sz 0 (es.length + xs.length)) (H0.set b' (.vec sz (es ++ xs)))) : pOp P c bl ev H KD (.call ⟨.builtin .append, #[s, x], #[t, t']⟩) := by
 subst hH
 refine p_append_mk ?_
 rw [hT, paK_some]
 refine ⟨hz, h1, h2, ?_⟩
 rw [hx, paX_some, hs, hv, paS_vec, heap_same]
 exact ⟨rfl, rfl, pa_one hb0 rfl hbl h3 h4 h⟩
end Go.Av
end
section
namespace Go.Proofs.YtmohcdihdhggoaaGreatDoor
open Go Go.Av Go.RowKit Go.Bis
theorem Tabs.ro {H H' : Heap} (h : Tabs H) (hl : ∀ k cs, H k = some (.ro cs) → H' k = some (.ro cs)) : Tabs H' := ⟨hl _ _ h.pow, hl _ _ h.p16, hl _ _ h.n16, hl _ _ h.p32, hl _ _ h.n32, hl _ _ h.fst, hl _ _ h.acc⟩
end Go.Proofs.YtmohcdihdhggoaaGreatDoor
end
section
set_option maxRecDepth 20000
namespace Go.Bis
open Go Go.Av Go.Lexs
def padZ (l : List Nat) (n : Nat) : List Nat := l ++ List.replicate (n - l.length) 0
theorem padZ_length {l : List Nat} {n : Nat} (h : l.length ≤ n) : (padZ l n).length = n := by simp [padZ]; omega
theorem padZ_at {l : List Nat} {n k : Nat} (h : k < l.length) : (padZ l n)[k]? = some (l.getD k 0) := by
 unfold padZ; rw [List.getElem?_append_left h]; simp [h]
theorem padZ_set {l : List Nat} {n : Nat} (x : Nat) (h : l.length < n) : (padZ l n).set l.length x = padZ (l ++ [x]) n := by
 unfold padZ
 rw [List.set_append_right _ _ (Nat.le_refl _), Nat.sub_self]
 have : n - l.length = (n - (l ++ [x]).length) + 1 := by simp; omega
 rw [this, List.replicate_succ, List.set_cons_zero]
 simp
theorem padZ_all {l : List Nat} {n : Nat} (h : l.length = n) : padZ l n = l := by simp [padZ, h]
noncomputable def manyS (s : Sy) (t : Nat) : Nat := (itC (clE s) (relR (toN s) s.seen.length) s.seen.length t).2
theorem itS_lt2 (s : Sy) (t : Nat) : ∀ c ∈ itS s t, c < manyS s t := fun c hc => by
 unfold itS manyS at *
 cases t with
 | zero => exact numE_lt _ _ _ hc
 | succ t => exact numE_lt _ _ _ hc
noncomputable def seesL (s : Sy) (t : Nat) : List (List Bool) := (List.range s.seen.length).map fun i => seesB (itS s t) (manyS s t) (toN s i)
theorem seesL_length (s : Sy) (t : Nat) : (seesL s t).length = s.seen.length := by simp [seesL]
theorem relR_at (s : Sy) (t i k : Nat) (hi : i < s.seen.length) (hk : k < s.seen.length) : relR (toN s) s.seen.length (itS s t) i k = (((itS s t).getD i 0 == (itS s t).getD k 0) && decide ((seesL s t).getD i [] = (seesL s t).getD k [])) := by
 unfold relR
 congr 1
 have e1 : ∀ j, j < s.seen.length → (seesL s t).getD j [] = seesB (itS s t) (manyS s t) (toN s j) := fun j hj => by simp [seesL, hj]
 rw [e1 i hi, e1 k hk, Bool.eq_iff_iff, beq_iff_eq, decide_eq_true_eq]
 have hl : ∀ j, j ∈ toN s i ∨ j ∈ toN s k → (itS s t).getD j 0 < manyS s t := fun j hj => by
  have hj : j < s.seen.length := by rcases hj with h | h <;> exact toN_mem h
  have hj' : j < (itS s t).length := by rw [itS_length]; exact hj
  have : (itS s t).getD j 0 = (itS s t)[j] := by simp [hj']
  rw [this]; exact itS_lt2 s t _ (List.getElem_mem hj')
 rw [seesB_iff hl, seesB_iff (fun j hj => Nat.lt_of_lt_of_le (hl j hj) (itC_le t))]
theorem padZ_snoc {l : List Nat} {n i : Nat} (x : Nat) (h : l.length = i) (hi : i < n) : (Rw natC (padZ (l ++ [x]) n))[i]? = some (natC x) := by
 have : (padZ (l ++ [x]) n)[i]? = some x := by rw [padZ_at (by simp; omega)]; simp [← h]
 unfold Rw; rw [List.getElem?_map, this]; rfl
theorem padZ_old {l : List Nat} {n k : Nat} (x : Nat) (hk : k < l.length) (hi : l.length < n) : (Rw natC (padZ (l ++ [x]) n))[k]? = some (natC (l.getD k 0)) := by
 have : (padZ (l ++ [x]) n)[k]? = some (l.getD k 0) := by rw [padZ_at (by simp; omega), List.getD_eq_getElem?_getD, List.getElem?_append_left hk, ← List.getD_eq_getElem?_getD]
 unfold Rw; rw [List.getElem?_map, this]; rfl
theorem padZ_put {l : List Nat} {n i : Nat} (x y : Nat) (h : l.length = i) (hi : i < n) : (Rw natC (padZ (l ++ [x]) n)).set i [.int .i64 y] = Rw natC (padZ (l ++ [y]) n) := by
 rw [show [D.int .i64 (y : Int)] = natC y from rfl, Rw_set _ _ _ _ rfl]
 congr 1
 unfold padZ
 subst h
 rw [List.append_assoc, List.append_assoc, List.set_append_right _ _ (Nat.le_refl _), Nat.sub_self]
 simp
theorem find_first {e : Nat → Bool} {i k : Nat} (hk : k < i) (he : e k = true) (hno : ∀ j, j < k → e j = false) : (List.range i).find? e = some k := by
 induction i with
 | zero => omega
 | succ i ih =>
  rw [List.range_succ, List.find?_append]
  by_cases h : k < i
  ·rw [ih h]; rfl
  ·obtain rfl : k = i := by omega
   rw [List.find?_eq_none.2 (fun x hx => by rw [hno x (List.mem_range.1 hx)]; simp)]
   simp [he]
theorem find_not {e : Nat → Bool} {i : Nat} (hno : ∀ j, j < i → e j = false) : (List.range i).find? e = none :=
 List.find?_eq_none.2 fun x hx => by rw [hno x (List.mem_range.1 hx)]; simp
theorem numE_hit {e : Nat → Nat → Bool} {i k : Nat} (hk : k < i) (he : e i k = true) (hno : ∀ j, j < k → e i j = false) : numE e (i + 1) = ((numE e i).1 ++ [(numE e i).1.getD k 0], (numE e i).2) := by
 rw [numE, find_first hk he hno]
theorem numE_miss {e : Nat → Nat → Bool} {i : Nat} (hno : ∀ j, j < i → e i j = false) : numE e (i + 1) = ((numE e i).1 ++ [(numE e i).2], (numE e i).2 + 1) := by
 rw [numE, find_not hno]
end Go.Bis
namespace Go.Proofs.YtmohcdihdhggoaaGreatDoor
open Go Go.Av Go.Lexs Go.Bis
attribute [local irreducible] ACalls at8
set_option maxHeartbeats 4000000 in
theorem rclasses_a {Q} (s : Sy) (hs : SyFit s) (ho : SyOk s) (hn1 : 1 ≤ s.seen.length) (H : Heap) (h : Q (.sl 1 (Rw natC (fixS s))) H) : ACalls Tryz.prog 36 [.agg (syC s)] H Q := by
 refine acalls_of_wp [] Tryz.mixed Tryz.func36 rfl (by kernel_rfl) (of_decide_eq_true (by kernel_rfl)) (by kernel_rfl) ?_
 simp only [go_sem,seval, Tryz.results36]
 have hn := ho.n
 have hfl := ho.f
 intro b1 hb1
 have e1 : (H.set b1 (.box (syC s))) b1 = some (.box (syC s)) := heap_same _ _
 have hle : H.Le (H.set b1 (.box (syC s))) := heap_le_set hb1
 generalize H.set b1 (.box (syC s)) = Bs at *
 repeat' (first | with_reducible refine And.intro ?_ ?_ | simp only [go_sem,seval, e1] | simp (disch := omega) only [wrap64, cell_at, Rw_at, seesB_at, relR_at] | simp (disch := first | omega | grind) only [heap_ne_, del_ne] | (intro hx_; try simp only [set_none] at hx_) | with_reducible refine rLeads_a s hs ho _ ?_ | omega)
 rename_i c0
 have hf0 := hx_
 clear hx_
 have hrep : List.replicate s.seen.length [D.int .i64 0] = Rw natC (padZ (numE (clE s) 0).1 s.seen.length) := by
  rw [show padZ (numE (clE s) 0).1 s.seen.length = List.replicate s.seen.length 0 by simp [padZ, numE]]; exact Rw_rep _ _ _ rfl
 rw [hrep]
 refine loop_c [1, 3, 4, 5, 26] (fun (i : Nat) => [(27, .int .i64 i), (6, .int .i64 (numE (clE s) i).2)]) (fun (i : Nat) => Bs.set c0 (.vec 1 (Rw natC (padZ (numE (clE s) i).1 s.seen.length)))) (fun (i : Nat) => i ≤ s.seen.length) (fun (i : Nat) => s.seen.length - i) (0) (Nat.zero_le _) (by (try simp only [go_sem,seval]) <;> (try simp (disch := omega) [wrap64]) <;> (try omega)) (by first | with_reducible exact Heap.Le.refl _ | exact heap_set_le (by assumption) | exact Heap.Le.refl _ | exact heap_le_set (by assumption) | exact (by simp only [Go.Av.Heap.Le, Go.Av.Heap.set, Go.Av.Heap.del] at * <;> grind)) ?_
 rintro Ec rfl i hi
 have hlN := numE_length (clE s) i
 have hmN := numE_le (clE s) i
 have hpl := padZ_length (l := (numE (clE s) i).1) (n := s.seen.length) (by omega)
 by_cases hlt : i < s.seen.length
 ·have hkd : decide ((i : Int) < s.seen.length) = true := decide_eq_true (by omega)
  have hip : i < (padZ (numE (clE s) i).1 s.seen.length).length := by omega
  have hset : ∀ x : Nat, (Rw natC (padZ (numE (clE s) i).1 s.seen.length)).set i [.int .i64 x] = Rw natC (padZ ((numE (clE s) i).1 ++ [x]) s.seen.length) := fun x => by
   rw [show [D.int .i64 (x : Int)] = natC x from rfl, ← padZ_set x (by omega), hlN]
   exact Rw_set _ _ _ _ rfl
  repeat' (first | with_reducible refine And.intro ?_ ?_ | simp only [go_sem,seval, hkd, hpl, hset] | simp (disch := omega) only [wrap64, cell_at, Rw_at, seesB_at, relR_at] | simp (disch := first | omega | grind) only [heap_ne_, del_ne] | (intro hx_; try simp only [set_none] at hx_) | omega)
  refine loop_c [1, 3, 4, 5, 6, 7, 26, 27] (fun (k : Nat) => [(8, .int .i64 k)]) (fun (k : Nat) => Bs.set c0 (.vec 1 (Rw natC (padZ ((numE (clE s) i).1 ++ [(numE (clE s) i).2]) s.seen.length)))) (fun (k : Nat) => k ≤ i ∧ ∀ j, j < k → clE s i j = false) (fun (k : Nat) => i - k) (0) (⟨Nat.zero_le _, fun j hj => absurd hj (Nat.not_lt_zero _)⟩) (by (try simp only [go_sem,seval]) <;> (try simp (disch := omega) [wrap64]) <;> (try omega)) (by first | with_reducible exact Heap.Le.refl _ | exact heap_set_le (by assumption) | exact Heap.Le.refl _ | exact heap_le_set (by assumption) | exact (by simp only [Go.Av.Heap.Le, Go.Av.Heap.set, Go.Av.Heap.del] at * <;> grind)) ?_
  rintro Ec2 rfl k ⟨hk, hno⟩
  by_cases hki : k < i
  ·have hkd2 : decide ((k : Int) < i) = true := decide_eq_true (by omega)
   have hii : (i : Int) < s.final.length := by omega
   have hik : (k : Int) < s.final.length := by omega
   have hkn : (k : Int) < s.seen.length := by omega
   have hin : (i : Int) < s.seen.length := by omega
   have fi : i < s.final.length := by omega
   have fk : k < s.final.length := by omega
   have sk : k < s.seen.length := by omega
   have hcl : clE s i k = ((s.final[i] == s.final[k]) && eqT s.seen[i] s.seen[k]) := by simp [clE, fi, fk, hlt, sk]
   by_cases hf : s.final[i] = s.final[k]
   ·cases heq : eqT s.seen[i] s.seen[k] with
    | true =>
     have he : clE s i k = true := by rw [hcl, heq]; simp [hf]
     have hhit := numE_hit hki he hno
     have hv := numE_lt (clE s) i _ (show (numE (clE s) i).1.getD k 0 ∈ (numE (clE s) i).1 by rw [List.getD_eq_getElem?_getD, List.getElem?_eq_getElem (by omega)]; exact List.getElem_mem _)
     have hm1 : (numE (clE s) (i + 1)).2 = (numE (clE s) i).2 := by rw [hhit]
     have hm2 : (numE (clE s) (i + 1)).1 = (numE (clE s) i).1 ++ [(numE (clE s) i).1.getD k 0] := by rw [hhit]
     have hip2 : i < (padZ ((numE (clE s) i).1 ++ [(numE (clE s) i).2]) s.seen.length).length := by rw [padZ_length (by simp; omega)]; exact hlt
     have hvd : ¬ (((numE (clE s) i).1.getD k 0 : Nat) : Int) = ((numE (clE s) i).2 : Nat) := by omega
     repeat' (first | with_reducible refine And.intro ?_ ?_ | simp only [go_sem,seval, hkd2, e1, hii, hik, hkn, hin, Rw_at _ _ fi, Rw_at _ _ fk, Rw_at _ _ hlt, Rw_at _ _ sk, hf, heq, padZ_old _ (show k < (numE (clE s) i).1.length by omega) (show (numE (clE s) i).1.length < s.seen.length by omega), Rw_at _ _ hip2, padZ_put _ _ hlN hlt, padZ_snoc _ hlN hlt, hvd] | simp (disch := omega) only [wrap64, cell_at, Rw_at, seesB_at, relR_at] | simp (disch := first | omega | grind) only [heap_ne_, del_ne] | (intro hx_; try simp only [set_none] at hx_) | with_reducible refine rSame_a _ _ (hs.tm _ (List.getElem_mem hlt)) (hs.tm _ (List.getElem_mem sk)) _ ?_ | omega)
     exact nx_mk (i + 1) (by omega) (by omega) (by (try simp only [go_sem,seval, hm1]) <;> (try simp (disch := omega) [wrap64]) <;> (try omega)) (by rw [hm2]; exact Heap.Le.refl _)
    | false =>
     have he : clE s i k = false := by rw [hcl, heq]; simp
     repeat' (first | with_reducible refine And.intro ?_ ?_ | simp only [go_sem,seval, hkd2, e1, hii, hik, hkn, hin, Rw_at _ _ fi, Rw_at _ _ fk, Rw_at _ _ hlt, Rw_at _ _ sk, hf, heq] | simp (disch := omega) only [wrap64, cell_at, Rw_at, seesB_at, relR_at] | simp (disch := first | omega | grind) only [heap_ne_, del_ne] | (intro hx_; try simp only [set_none] at hx_) | with_reducible refine rSame_a _ _ (hs.tm _ (List.getElem_mem hlt)) (hs.tm _ (List.getElem_mem sk)) _ ?_ | omega)
     exact nx_mk (k + 1) ⟨by omega, fun j hj => by
      by_cases e : j = k
      ·rw [e]; exact he
      ·exact hno j (by omega)⟩ (by first | omega | (simp only []; omega)) (by (try simp only [go_sem,seval]) <;> (try simp (disch := omega) [wrap64]) <;> (try omega)) (Heap.Le.refl _)
   ·have he : clE s i k = false := by rw [hcl]; simp [hf]
    repeat' (first | with_reducible refine And.intro ?_ ?_ | simp only [go_sem,seval, hkd2, e1, hii, hik, hkn, hin, Rw_at _ _ fi, Rw_at _ _ fk, Rw_at _ _ hlt, Rw_at _ _ sk, hf] | simp (disch := omega) only [wrap64, cell_at, Rw_at, seesB_at, relR_at] | simp (disch := first | omega | grind) only [heap_ne_, del_ne] | (intro hx_; try simp only [set_none] at hx_) | omega)
    exact nx_mk (k + 1) ⟨by omega, fun j hj => by
     by_cases e : j = k
     ·rw [e]; exact he
     ·exact hno j (by omega)⟩ (by first | omega | (simp only []; omega)) (by (try simp only [go_sem,seval]) <;> (try simp (disch := omega) [wrap64]) <;> (try omega)) (Heap.Le.refl _)
  ·have hkd2 : decide ((k : Int) < i) = false := decide_eq_false (by omega)
   have hki2 : k = i := by omega
   subst hki2
   have hmis := numE_miss hno
   have hm1 : (numE (clE s) (k + 1)).2 = (numE (clE s) k).2 + 1 := by rw [hmis]
   have hm2 : (numE (clE s) (k + 1)).1 = (numE (clE s) k).1 ++ [(numE (clE s) k).2] := by rw [hmis]
   repeat' (first | with_reducible refine And.intro ?_ ?_ | simp only [go_sem,seval, hkd2, padZ_snoc _ hlN hlt] | simp (disch := omega) only [wrap64, cell_at, Rw_at, seesB_at, relR_at] | simp (disch := first | omega | grind) only [heap_ne_, del_ne] | (intro hx_; try simp only [set_none] at hx_) | omega)
   exact nx_mk (k + 1) (by omega) (by first | omega | (simp only []; omega)) (by (try simp only [go_sem,seval, hm1]) <;> (try simp (disch := omega) [wrap64]) <;> (try omega)) (by rw [hm2]; exact Heap.Le.refl _)
 ·have hkd : decide ((i : Int) < s.seen.length) = false := decide_eq_false (by omega)
  have hin : i = s.seen.length := by omega
  subst hin
  have hN0 : padZ (numE (clE s) s.seen.length).1 s.seen.length = itS s 0 := padZ_all hlN
  have hM0 : (numE (clE s) s.seen.length).2 = manyS s 0 := rfl
  rw [hN0, hM0]
  repeat' (first | with_reducible refine And.intro ?_ ?_ | simp only [go_sem,seval, hkd] | simp (disch := omega) only [wrap64, cell_at, Rw_at, seesB_at, relR_at] | simp (disch := first | omega | grind) only [heap_ne_, del_ne] | (intro hx_; try simp only [set_none] at hx_) | omega)
  refine loop_c [3, 4] (fun (p : Nat × Nat) => [(5, .vec p.2 1 0 s.seen.length), (6, .int .i64 (manyS s p.1))]) (fun (p : Nat × Nat) => Bs.set p.2 (.vec 1 (Rw natC (itS s p.1)))) (fun (p : Nat × Nat) => Bs p.2 = none) (fun (p : Nat × Nat) => s.seen.length - manyS s p.1) ((0, c0)) (hf0) (by (try simp only [go_sem,seval]) <;> (try simp (disch := omega) [wrap64]) <;> (try omega)) (by first | with_reducible exact Heap.Le.refl _ | exact heap_set_le (by assumption) | exact Heap.Le.refl _ | exact heap_le_set (by assumption) | exact (by simp only [Go.Av.Heap.Le, Go.Av.Heap.set, Go.Av.Heap.del] at * <;> grind)) ?_
  rintro Ec rfl ⟨t, c5⟩ hc5
  simp only at hc5
  have hlS := itS_length s t
  have hmS : manyS s t ≤ s.seen.length := itC_le t
  have hltS := itS_lt2 s t
  generalize hHc : Bs.set c5 (.vec 1 (Rw natC (itS s t))) = Hc
  have g5 : Hc c5 = some (.vec 1 (Rw natC (itS s t))) := by rw [← hHc, heap_same]
  have gle : Bs.Le Hc := by rw [← hHc]; exact heap_le_set hc5
  repeat' (first | with_reducible refine And.intro ?_ ?_ | simp only [go_sem,seval] | simp (disch := omega) only [wrap64, cell_at, Rw_at, seesB_at, relR_at] | simp (disch := first | omega | grind) only [heap_ne_, del_ne] | (intro hx_; try simp only [set_none] at hx_) | omega)
  have hm1000 : manyS s t ≤ 1000 := by omega
  clear hHc hi hlt hkd
  refine loop_c [3, 4, 5, 6, 80] (fun (p : Nat × Option Nat) => [(81, .int .i64 p.1), (9, outG 1 p.1 p.2)]) (fun (p : Nat × Option Nat) => putB Hc 1 (Rw boolsC ((seesL s t).take p.1)) p.2) (fun (p : Nat × Option Nat) => p.1 ≤ s.seen.length ∧ (p.2 = none → p.1 = 0) ∧ ∀ b, p.2 = some b → Hc b = none) (fun (p : Nat × Option Nat) => s.seen.length - p.1) ((0, none)) (⟨Nat.zero_le _, fun _ => rfl, fun b e => by cases e⟩) (by (try simp only [go_sem,seval]) <;> (try simp (disch := omega) [wrap64]) <;> (try omega)) (by first | with_reducible exact Heap.Le.refl _ | exact heap_set_le (by assumption) | exact Heap.Le.refl _ | exact heap_le_set (by assumption) | exact (by simp only [Go.Av.Heap.Le, Go.Av.Heap.set, Go.Av.Heap.del] at * <;> grind)) ?_
  rintro Ec rfl ⟨i, ob⟩ ⟨hi, h0, h1⟩
  simp only at hi h0 h1
  have hin := OutIn.mk (H := Hc) (sz := 1) (es := Rw boolsC ((seesL s t).take i)) (ob := ob) (fun e => by rw [h0 e]; rfl) h1
  have hsl := seesL_length s t
  by_cases hlt : i < s.seen.length
  ·have hkd : decide ((i : Int) < s.seen.length) = true := decide_eq_true (by omega)
   have hli : i < (leadsV s).length := by rw [leadsV_length]; exact hlt
   have hrow : (leadsV s)[i] = rowV (nxS s) s.seen.length i := by simp [leadsV]
   have hrl := rowV_length (nxS s) s.seen.length i
   have hg5 := hin.get g5
   generalize hHp : putB Hc 1 (Rw boolsC ((seesL s t).take i)) ob = Hp at hin hg5 ⊢
   repeat' (first | with_reducible refine And.intro ?_ ?_ | simp only [go_sem,seval, hkd, rep_b, Rw_at _ _ hli, hrow, hrl, leadsV_length] | simp (disch := omega) only [wrap64, cell_at, Rw_at, seesB_at, relR_at] | simp (disch := first | omega | grind) only [heap_ne_, del_ne] | (intro hx_; try simp only [set_none] at hx_) | omega)
   rename_i b2
   have hf2 := hx_
   clear hx_
   refine loop_c [3, 4, 5, 6, 9, 11, 80, 81, 89, 90] (fun (p : Nat × List Bool) => [(91, .int .i64 p.1)]) (fun (p : Nat × List Bool) => Hp.set b2 (.vec 1 (Rw boolC p.2))) (fun (p : Nat × List Bool) => p.1 ≤ s.seen.length ∧ p.2.length = manyS s t ∧ ∀ x, p.2[x]? = some true ↔ ∃ j, j < p.1 ∧ (rowV (nxS s) s.seen.length i)[j]? = some true ∧ (itS s t).getD j 0 = x) (fun (p : Nat × List Bool) => s.seen.length - p.1) ((0, List.replicate (manyS s t) false)) (⟨Nat.zero_le _, by simp, fun x => by simp [List.getElem?_replicate]⟩) (by (try simp only [go_sem,seval]) <;> (try simp (disch := omega) [wrap64]) <;> (try omega)) (by first | with_reducible exact Heap.Le.refl _ | exact heap_set_le (by assumption) | exact Heap.Le.refl _ | exact heap_le_set (by assumption) | exact (by simp only [Go.Av.Heap.Le, Go.Av.Heap.set, Go.Av.Heap.del] at * <;> grind)) ?_
   rintro Ec2 rfl ⟨k, v⟩ ⟨hk, hvl, hvx⟩
   simp only at hk hvl hvx
   have hin2 : OutIn Hc 1 (Rw boolsC ((seesL s t).take i)) ob (Hp.set b2 (.vec 1 (Rw boolC v))) := OutIn.set hin hf2 _
   by_cases hkt : k < s.seen.length
   ·have hkk : decide ((k : Int) < s.seen.length) = true := decide_eq_true (by omega)
    have hkr : k < (rowV (nxS s) s.seen.length i).length := by omega
    have hkl : k < (itS s t).length := by omega
    have hki : (k : Int) < s.seen.length := by omega
    have hcl := hltS _ (List.getElem_mem hkl)
    have hcv : (itS s t)[k] < v.length := by omega
    have hcv2 : (((itS s t)[k] : Nat) : Int) < manyS s t := by omega
    have hgd : (itS s t).getD k 0 = (itS s t)[k] := by simp [hkl]
    have hc2 : c5 ≠ b2 := by rintro rfl; rw [hg5] at hf2; cases hf2
    have hg52 : ∀ o, (Hp.set b2 o) c5 = some (.vec 1 (Rw natC (itS s t))) := fun o => by rw [heap_ne _ hc2]; exact hg5
    cases hrk : (rowV (nxS s) s.seen.length i)[k] with
    | false =>
     repeat' (first | with_reducible refine And.intro ?_ ?_ | simp only [go_sem,seval, hkk, Rw_at _ _ hkr, Rw_get _ _ hkr, hrk] | simp (disch := omega) only [wrap64, cell_at, Rw_at, seesB_at, relR_at] | simp (disch := first | omega | grind) only [heap_ne_, del_ne] | (intro hx_; try simp only [set_none] at hx_) | omega)
     refine nx_mk (k + 1, v) ⟨by simp only []; omega, hvl, fun x => ?_⟩ (by simp only []; omega) (by (try simp only [go_sem,seval]) <;> (try simp (disch := omega) [wrap64]) <;> (try omega)) (Heap.Le.refl _)
     rw [hvx x]
     constructor
     ·rintro ⟨j, h1, h2, h3⟩; exact ⟨j, Nat.lt_succ_of_lt h1, h2, h3⟩
     ·rintro ⟨j, h1, h2, h3⟩
      have hjk : j ≠ k := fun e => by rw [e, List.getElem?_eq_getElem hkr, hrk] at h2; cases h2
      exact ⟨j, by simp only [] at h1; omega, h2, h3⟩
    | true =>
     repeat' (first | with_reducible refine And.intro ?_ ?_ | simp only [go_sem,seval, hkk, hki, Rw_at _ _ hkr, Rw_get _ _ hkr, hrk, hg52, Rw_at _ _ hkl, Rw_get _ _ hkl, hcv2, hvl, Rw_at _ _ hcv, set_b] | simp (disch := omega) only [wrap64, cell_at, Rw_at, seesB_at, relR_at] | simp (disch := first | omega | grind) only [heap_ne_, del_ne] | (intro hx_; try simp only [set_none] at hx_) | omega)
     refine nx_mk (k + 1, v.set (itS s t)[k] true) ⟨by simp only []; omega, by simp only [List.length_set]; exact hvl, fun x => ?_⟩ (by simp only []; omega) (by (try simp only [go_sem,seval]) <;> (try simp (disch := omega) [wrap64]) <;> (try omega)) (Heap.Le.refl _)
     simp only []
     by_cases hx : (itS s t)[k] = x
     ·subst hx
      refine ⟨fun _ => ⟨k, Nat.lt_succ_self k, by rw [List.getElem?_eq_getElem hkr, hrk], hgd⟩, fun _ => by simp [hcv]⟩
     ·rw [List.getElem?_set_ne hx, hvx x]
      constructor
      ·rintro ⟨j, h1, h2, h3⟩; exact ⟨j, Nat.lt_succ_of_lt h1, h2, h3⟩
      ·rintro ⟨j, h1, h2, h3⟩
       have hjk : j ≠ k := fun e => by rw [e, hgd] at h3; exact hx h3
       exact ⟨j, by omega, h2, h3⟩
   ·have hkk : decide ((k : Int) < s.seen.length) = false := decide_eq_false (by omega)
    have hvs : v = (seesL s t)[i]'(by omega) := by
     have h2 : (seesL s t)[i]'(by omega) = seesB (itS s t) (manyS s t) (toN s i) := by simp [seesL]
     rw [h2]
     apply List.ext_getElem (by rw [hvl]; simp [seesB])
     intro x hx1 hx2
     have hxm : x < manyS s t := by omega
     have h3 := seesB_at (c := itS s t) (l := toN s i) hxm
     rw [List.getElem?_eq_getElem hx2] at h3
     rw [Option.some.inj h3, Bool.eq_iff_iff]
     have h4 := hvx x
     rw [List.getElem?_eq_getElem hx1] at h4
     rw [show (v[x] = true) = (some v[x] = some true) by simp, h4, List.any_eq_true]
     constructor
     ·rintro ⟨j, h5, h6, h7⟩
      exact ⟨j, mem_rowL.2 ⟨by omega, by simpa [rowV, show j < s.seen.length by omega] using h6⟩, by simpa using h7⟩
     ·rintro ⟨j, h5, h6⟩
      obtain ⟨h7, h8⟩ := mem_rowL.1 h5
      exact ⟨j, by omega, by simp [rowV, h7, h8], by simpa using h6⟩
    repeat' (first | with_reducible refine And.intro ?_ ?_ | simp only [go_sem,seval, hkk] | simp (disch := omega) only [wrap64, cell_at, Rw_at, seesB_at, relR_at] | simp (disch := first | omega | grind) only [heap_ne_, del_ne] | (intro hx_; try simp only [set_none] at hx_) | omega)
    rename_i b3
    have hb3 := hx_
    clear hx_
    have h32 : b3 ≠ b2 := by intro e; rw [e] at hb3; simp [Heap.set] at hb3
    have hd2 : delB ((Hp.set b2 (.vec 1 (Rw boolC v))).set b3 (.vec 1 [[.vec b2 1 0 (manyS s t)]])) ob b2 = some (.vec 1 (Rw boolC v)) := by
     cases ob with
     | none => simp [delB, Heap.set, Ne.symm h32]
     | some c =>
      have hc2 : c ≠ b2 := by
       intro e
       have := hin.2.1
       rw [e] at this
       exact absurd (this.symm.trans hf2) (by simp)
      simp [delB, Heap.del, Heap.set, Ne.symm h32, Ne.symm hc2]
    refine apS_q (by first | exact hin2 | exact OutIn.set (hin2) (by first | assumption | (refine set_none.2 ?_; assumption) | (simp only [set_none]; assumption) | (simp only [set_none] at *; simp_all; done)) _ | exact OutIn.set (OutIn.set (hin2) (by first | assumption | (refine set_none.2 ?_; assumption) | (simp only [set_none]; assumption) | (simp only [set_none] at *; simp_all; done)) _) (by first | assumption | (refine set_none.2 ?_; assumption) | (simp only [set_none]; assumption) | (simp only [set_none] at *; simp_all; done)) _ | exact OutIn.set (OutIn.set (OutIn.set (hin2) (by first | assumption | (refine set_none.2 ?_; assumption) | (simp only [set_none]; assumption) | (simp only [set_none] at *; simp_all; done)) _) (by first | assumption | (refine set_none.2 ?_; assumption) | (simp only [set_none]; assumption) | (simp only [set_none] at *; simp_all; done)) _) (by first | assumption | (refine set_none.2 ?_; assumption) | (simp only [set_none]; assumption) | (simp only [set_none] at *; simp_all; done)) _ | exact OutIn.set (OutIn.set (OutIn.set (OutIn.set (hin2) (by first | assumption | (refine set_none.2 ?_; assumption) | (simp only [set_none]; assumption) | (simp only [set_none] at *; simp_all; done)) _) (by first | assumption | (refine set_none.2 ?_; assumption) | (simp only [set_none]; assumption) | (simp only [set_none] at *; simp_all; done)) _) (by first | assumption | (refine set_none.2 ?_; assumption) | (simp only [set_none]; assumption) | (simp only [set_none] at *; simp_all; done)) _) (by first | assumption | (refine set_none.2 ?_; assumption) | (simp only [set_none]; assumption) | (simp only [set_none] at *; simp_all; done)) _ ) (by simp) (by first | rfl | (simp only [go_sem,seval, Rw_take_len]; done) | (simp only [go_sem,seval, Rw_take_len]; omega) | simp | (simp; omega)) (by simp only [List.length_cons, List.length_nil]; omega) (by simp only [List.length_cons, List.length_nil]; omega) fun b' hb' hb2 hle => ?_
    have hne : b2 ≠ b' := by intro e; rw [← e] at hb2; rw [hd2] at hb2; cases hb2
    repeat' (first | with_reducible refine And.intro ?_ ?_ | simp only [go_sem,seval] | simp (disch := omega) only [wrap64, cell_at, Rw_at, seesB_at, relR_at] | simp (disch := first | omega | grind) only [heap_ne_, del_ne] | (intro hx_; try simp only [set_none] at hx_) | omega)
    refine nx_w (i + 1, some b') ⟨by simp only []; omega, (fun e => by cases e), fun b e => by cases e; exact hb'⟩ (by simp only []; omega) ?_
    have e5 : Rw boolsC ((seesL s t).take (i + 1)) = Rw boolsC ((seesL s t).take i) ++ [[.sl 1 (Rw boolC v)]] := by rw [Rw_take_succ _ _ (by rw [hsl]; exact hlt), ← hvs]; rfl
    have hb2n : Hc b2 = none := hin.1.none hf2
    simp only [putB]
    rw [e5]
    refine weak_row (m := b2) ?_ ?_ (by rw [heap_same]) (by rw [heap_ne _ hne]; exact hd2) hne (fun k o hk ho => ⟨fun e => ?_, hle _ k o ?_⟩)
    ·exact (by (try simp only [go_sem,seval]) <;> (try simp (disch := omega) [wrap64]) <;> (try omega))
    ·rw [Rw_len, hvl]
    ·rw [e] at ho
     exact absurd (ho.symm.trans hb2n) (by simp)
    ·unfold Heap.set at ho ⊢
     rw [if_neg hk]; exact ho
  ·have hkd : decide ((i : Int) < s.seen.length) = false := decide_eq_false (by omega)
   have hin3 : i = s.seen.length := by omega
   cases ob with
   | none => have := h0 rfl; omega
   | some c9 =>
    rw [Rw_take_all _ i (by omega)] at hin ⊢
    have h9 := h1 c9 rfl
    have hg5 := hin.get g5
    have hg1 := hin.get (gle _ _ e1)
    have hg9 : putB Hc 1 (Rw boolsC (seesL s t)) (some c9) c9 = some (.vec 1 (Rw boolsC (seesL s t))) := hin.2.1
    have hleP : Bs.Le (putB Hc 1 (Rw boolsC (seesL s t)) (some c9)) := gle.trans hin.1
    generalize putB Hc 1 (Rw boolsC (seesL s t)) (some c9) = Hp at hin hg5 hg1 hg9 hleP ⊢
    subst hin3
    generalize hRd : relR (toN s) s.seen.length (itS s t) = R
    have hrp : List.replicate s.seen.length [D.int .i64 0] = Rw natC (padZ (numE R 0).1 s.seen.length) := by
     rw [show padZ (numE R 0).1 s.seen.length = List.replicate s.seen.length 0 by simp [padZ, numE]]; exact Rw_rep _ _ _ rfl
    repeat' (first | with_reducible refine And.intro ?_ ?_ | simp only [go_sem,seval, hkd, hrp] | simp (disch := omega) only [wrap64, cell_at, Rw_at, seesB_at, relR_at] | simp (disch := first | omega | grind) only [heap_ne_, del_ne] | (intro hx_; try simp only [set_none] at hx_) | omega)
    rename_i b14
    have hf14 := hx_
    clear hx_ hin h9 h0 h1
    refine loop_c [3, 4, 5, 6, 9, 14, 112] (fun (i : Nat) => [(113, .int .i64 i), (15, .int .i64 (numE R i).2)]) (fun (i : Nat) => Hp.set b14 (.vec 1 (Rw natC (padZ (numE R i).1 s.seen.length)))) (fun (i : Nat) => i ≤ s.seen.length) (fun (i : Nat) => s.seen.length - i) (0) (Nat.zero_le _) (by (try simp only [go_sem,seval]) <;> (try simp (disch := omega) [wrap64]) <;> (try omega)) (by first | with_reducible exact Heap.Le.refl _ | exact heap_set_le (by assumption) | exact Heap.Le.refl _ | exact heap_le_set (by assumption) | exact (by simp only [Go.Av.Heap.Le, Go.Av.Heap.set, Go.Av.Heap.del] at * <;> grind)) ?_
    rintro Ec rfl i hi
    have hlN := numE_length R i
    have hmN := numE_le R i
    have hpl := padZ_length (l := (numE R i).1) (n := s.seen.length) (by omega)
    have hc14 : c5 ≠ b14 := by rintro rfl; rw [hg5] at hf14; cases hf14
    have hc149 : c9 ≠ b14 := by rintro rfl; rw [hg9] at hf14; cases hf14
    have r5 : ∀ o, (Hp.set b14 o) c5 = some (.vec 1 (Rw natC (itS s t))) := fun o => by rw [heap_ne _ hc14]; exact hg5
    have r9 : ∀ o, (Hp.set b14 o) c9 = some (.vec 1 (Rw boolsC (seesL s t))) := fun o => by rw [heap_ne _ hc149]; exact hg9
    by_cases hlt : i < s.seen.length
    ·have hkd : decide ((i : Int) < s.seen.length) = true := decide_eq_true (by omega)
     have hip : i < (padZ (numE R i).1 s.seen.length).length := by omega
     have hset : ∀ x : Nat, (Rw natC (padZ (numE R i).1 s.seen.length)).set i [.int .i64 x] = Rw natC (padZ ((numE R i).1 ++ [x]) s.seen.length) := fun x => by
      rw [show [D.int .i64 (x : Int)] = natC x from rfl, ← padZ_set x (by omega), hlN]
      exact Rw_set _ _ _ _ rfl
     repeat' (first | with_reducible refine And.intro ?_ ?_ | simp only [go_sem,seval, hkd, hpl, hset] | simp (disch := omega) only [wrap64, cell_at, Rw_at, seesB_at, relR_at] | simp (disch := first | omega | grind) only [heap_ne_, del_ne] | (intro hx_; try simp only [set_none] at hx_) | omega)
     refine loop_c [3, 4, 5, 6, 9, 14, 15, 16, 112, 113] (fun (k : Nat) => [(17, .int .i64 k)]) (fun (k : Nat) => Hp.set b14 (.vec 1 (Rw natC (padZ ((numE R i).1 ++ [(numE R i).2]) s.seen.length)))) (fun (k : Nat) => k ≤ i ∧ ∀ j, j < k → R i j = false) (fun (k : Nat) => i - k) (0) (⟨Nat.zero_le _, fun j hj => absurd hj (Nat.not_lt_zero _)⟩) (by (try simp only [go_sem,seval]) <;> (try simp (disch := omega) [wrap64]) <;> (try omega)) (by first | with_reducible exact Heap.Le.refl _ | exact heap_set_le (by assumption) | exact Heap.Le.refl _ | exact heap_le_set (by assumption) | exact (by simp only [Go.Av.Heap.Le, Go.Av.Heap.set, Go.Av.Heap.del] at * <;> grind)) ?_
     rintro Ec2 rfl k ⟨hk, hno⟩
     by_cases hki : k < i
     ·have hkd2 : decide ((k : Int) < i) = true := decide_eq_true (by omega)
      have sk : k < s.seen.length := by omega
      have fi : i < (itS s t).length := by omega
      have fk : k < (itS s t).length := by omega
      have li : i < (seesL s t).length := by omega
      have lk : k < (seesL s t).length := by omega
      have hcl : R i k = (((itS s t)[i] == (itS s t)[k]) && decide ((seesL s t)[i] = (seesL s t)[k])) := by
       rw [← hRd, relR_at s t i k hlt sk]; simp [fi, fk, li, lk]
      have hrl : ∀ j (h : j < (seesL s t).length), (seesL s t)[j].length = manyS s t := fun j h => by simp [seesL, seesB]
      by_cases hf : (itS s t)[i] = (itS s t)[k]
      ·by_cases heq : (seesL s t)[i] = (seesL s t)[k]
       ·have he : R i k = true := by rw [hcl]; simp [hf, heq]
        have hhit := numE_hit hki he hno
        have hv := numE_lt R i _ (show (numE R i).1.getD k 0 ∈ (numE R i).1 by rw [List.getD_eq_getElem?_getD, List.getElem?_eq_getElem (by omega)]; exact List.getElem_mem _)
        have hm1 : (numE R (i + 1)).2 = (numE R i).2 := by rw [hhit]
        have hm2 : (numE R (i + 1)).1 = (numE R i).1 ++ [(numE R i).1.getD k 0] := by rw [hhit]
        have hip2 : i < (padZ ((numE R i).1 ++ [(numE R i).2]) s.seen.length).length := by rw [padZ_length (by simp; omega)]; exact hlt
        have hvd : ¬ (((numE R i).1.getD k 0 : Nat) : Int) = ((numE R i).2 : Nat) := by omega
        repeat' (first | with_reducible refine And.intro ?_ ?_ | simp only [go_sem,seval, hkd2, r5, r9, Rw_at _ _ fi, Rw_at _ _ fk, Rw_get _ _ fi, Rw_get _ _ fk, Rw_at _ _ li, Rw_at _ _ lk, Rw_get _ _ li, Rw_get _ _ lk, hf, heq, decide_true, eq_self, padZ_old _ (show k < (numE R i).1.length by omega) (show (numE R i).1.length < s.seen.length by omega), Rw_at _ _ hip2, padZ_put _ _ hlN hlt, padZ_snoc _ hlN hlt, hvd] | simp (disch := omega) only [wrap64, cell_at, Rw_at, seesB_at, relR_at] | simp (disch := first | omega | grind) only [heap_ne_, del_ne] | (intro hx_; try simp only [set_none] at hx_) | with_reducible refine rsame_a _ _ (by rw [hrl]; omega) (by simp only [hrl]) _ ?_ | omega)
        exact nx_mk (i + 1) (by omega) (by omega) (by (try simp only [go_sem,seval, hm1]) <;> (try simp (disch := omega) [wrap64]) <;> (try omega)) (by rw [hm2]; exact Heap.Le.refl _)
       ·have he : R i k = false := by rw [hcl]; simp [heq]
        have hed := decide_eq_false heq
        repeat' (first | with_reducible refine And.intro ?_ ?_ | simp only [go_sem,seval, hkd2, r5, r9, Rw_at _ _ fi, Rw_at _ _ fk, Rw_get _ _ fi, Rw_get _ _ fk, Rw_at _ _ li, Rw_at _ _ lk, Rw_get _ _ li, Rw_get _ _ lk, hf, hed] | simp (disch := omega) only [wrap64, cell_at, Rw_at, seesB_at, relR_at] | simp (disch := first | omega | grind) only [heap_ne_, del_ne] | (intro hx_; try simp only [set_none] at hx_) | with_reducible refine rsame_a _ _ (by rw [hrl]; omega) (by simp only [hrl]) _ ?_ | omega)
        exact nx_mk (k + 1) ⟨by omega, fun j hj => by
         by_cases e : j = k
         ·rw [e]; exact he
         ·exact hno j (by omega)⟩ (by first | omega | (simp only []; omega)) (by (try simp only [go_sem,seval]) <;> (try simp (disch := omega) [wrap64]) <;> (try omega)) (Heap.Le.refl _)
      ·have he : R i k = false := by rw [hcl]; simp [hf]
       have hf2 : ¬ ((itS s t)[i] : Int) = ((itS s t)[k] : Nat) := by omega
       repeat' (first | with_reducible refine And.intro ?_ ?_ | simp only [go_sem,seval, hkd2, r5, r9, Rw_at _ _ fi, Rw_at _ _ fk, Rw_get _ _ fi, Rw_get _ _ fk, hf2] | simp (disch := omega) only [wrap64, cell_at, Rw_at, seesB_at, relR_at] | simp (disch := first | omega | grind) only [heap_ne_, del_ne] | (intro hx_; try simp only [set_none] at hx_) | omega)
       exact nx_mk (k + 1) ⟨by omega, fun j hj => by
        by_cases e : j = k
        ·rw [e]; exact he
        ·exact hno j (by omega)⟩ (by first | omega | (simp only []; omega)) (by (try simp only [go_sem,seval]) <;> (try simp (disch := omega) [wrap64]) <;> (try omega)) (Heap.Le.refl _)
     ·have hkd2 : decide ((k : Int) < i) = false := decide_eq_false (by omega)
      have hki2 : k = i := by omega
      subst hki2
      have hmis := numE_miss hno
      have hm1 : (numE R (k + 1)).2 = (numE R k).2 + 1 := by rw [hmis]
      have hm2 : (numE R (k + 1)).1 = (numE R k).1 ++ [(numE R k).2] := by rw [hmis]
      repeat' (first | with_reducible refine And.intro ?_ ?_ | simp only [go_sem,seval, hkd2, padZ_snoc _ hlN hlt] | simp (disch := omega) only [wrap64, cell_at, Rw_at, seesB_at, relR_at] | simp (disch := first | omega | grind) only [heap_ne_, del_ne] | (intro hx_; try simp only [set_none] at hx_) | omega)
      exact nx_mk (k + 1) (by omega) (by first | omega | (simp only []; omega)) (by (try simp only [go_sem,seval, hm1]) <;> (try simp (disch := omega) [wrap64]) <;> (try omega)) (by rw [hm2]; exact Heap.Le.refl _)
    ·have hkd : decide ((i : Int) < s.seen.length) = false := decide_eq_false (by omega)
     have hi2 : i = s.seen.length := by omega
     subst hi2
     have hpa : padZ (numE R s.seen.length).1 s.seen.length = itS s (t + 1) := by rw [padZ_all hlN, ← hRd]; rfl
     have hma : (numE R s.seen.length).2 = manyS s (t + 1) := by rw [← hRd]; rfl
     rw [hpa, hma]
     have hmon := itC_mono (fineS s) t
     have hsam := itC_same (fineS s) t
     have hlt1 : manyS s t ≤ manyS s (t + 1) := hmon.1
     have hle1 : manyS s (t + 1) ≤ s.seen.length := itC_le (t + 1)
     by_cases hme : manyS s (t + 1) = manyS s t
     ·have hse : itS s (t + 1) = itS s t := hsam.2 hme
      repeat' (first | with_reducible refine And.intro ?_ ?_ | simp only [go_sem,seval, hkd, hme] | simp (disch := omega) only [wrap64, cell_at, Rw_at, seesB_at, relR_at] | simp (disch := first | omega | grind) only [heap_ne_, del_ne] | (intro hx_; try simp only [set_none] at hx_) | omega)
      refine Fin.out (ob := some b14) (by rw [Rw_len, itS_length]) (heap_same _ _) (Fin.less (H' := H) ?_ ?_)
      ·show H.Le ((Hp.set b14 _).del b14)
       rw [set_del hf14]; exact hle.trans hleP
      ·rw [hse, itS_fix hse]; exact h
     ·have hmi : ¬ ((manyS s (t + 1) : Nat) : Int) = (manyS s t : Nat) := by omega
      repeat' (first | with_reducible refine And.intro ?_ ?_ | simp only [go_sem,seval, hkd, hmi] | simp (disch := omega) only [wrap64, cell_at, Rw_at, seesB_at, relR_at] | simp (disch := first | omega | grind) only [heap_ne_, del_ne] | (intro hx_; try simp only [set_none] at hx_) | omega)
      exact nx_mk (t + 1, b14) (hleP.none hf14) (by simp only []; omega) (by (try simp only [go_sem,seval]) <;> (try simp (disch := omega) [wrap64]) <;> (try omega)) (fun q o hq => by
       unfold Heap.set at hq ⊢
       by_cases hqb : q = b14
       ·rw [if_pos hqb] at hq ⊢; exact hq
       ·rw [if_neg hqb] at hq ⊢; exact hleP q o hq)
end Go.Proofs.YtmohcdihdhggoaaGreatDoor
end
section
set_option maxRecDepth 20000
namespace Go.Proofs.YtmohcdihdhggoaaGreatDoor
open Go Go.Av Go.Lexs Go.Bis
attribute [local irreducible] ACalls at8
set_option maxHeartbeats 2000000 in
theorem both_a {Q} (a b : Sy) (ha : SyFit a) (hb : SyFit b) (oa : SyOk a) (oB : SyOk b) (H : Heap) (h : Q (.agg (syC (unionS a b))) H) : ACalls Tryz.prog 37 [.agg (syC a), .agg (syC b)] H Q := by
 refine acalls_of_wp [(1, .par)] Tryz.mixed Tryz.func37 rfl (by kernel_rfl) (of_decide_eq_true (by kernel_rfl)) (by kernel_rfl) ?_
 simp only [go_sem,seval, Tryz.results37]
 have na := oa.n; have nb := oB.n; have fa := oa.f; have fb := oB.f; have xa := oa.x; have xb := oB.x
 intro b1 hb1
 repeat' (first | with_reducible refine And.intro ?_ ?_ | simp only [go_sem,seval] | simp (disch := omega) only [wrap64, cell_at, Rw_at] | simp (disch := first | omega | grind) only [heap_ne_, del_ne] | (intro hx_; try simp only [set_none] at hx_) | omega)
 rename_i b2 hf2 b4
 have hf4 := hx_
 clear hx_
 generalize hBs : ((H.set b1 (.box (syC a))).set b2 (.box (syC b))).set b4 (.box [.nilsl, .nilsl, .nilsl]) = Bs
 have hf2' : b2 ≠ b1 ∧ H b2 = none := by simpa only [set_none] using hf2
 have hf4' : b4 ≠ b2 ∧ b4 ≠ b1 ∧ H b4 = none := by simpa only [set_none] using hf4
 have e1 : Bs b1 = some (.box (syC a)) := by rw [← hBs]; simp only [Heap.set]; grind
 have e2 : Bs b2 = some (.box (syC b)) := by rw [← hBs]; simp only [Heap.set]; grind
 have e4 : Bs b4 = some (.box [.nilsl, .nilsl, .nilsl]) := by rw [← hBs, heap_same]
 have hle : H.Le Bs := by rw [← hBs]; intro k o hk; simp only [Heap.set]; grind
 have hH4 := hf4'.2.2
 clear hBs hf2 hf4 hf2' hf4'
 have m1 : b1 ∈ [b1, b2] := by simp
 have m2 : b2 ∈ [b1, b2] := by simp
 refine par_mk2 (fun i => .c .undef) [b1, b2] ?_
 repeat' (first | with_reducible refine And.intro ?_ ?_ | simp only [go_sem,seval, m1, m2, e1, e2] | simp (disch := omega) only [wrap64, cell_at, Rw_at] | simp (disch := first | omega | grind) only [heap_ne_, del_ne] | (intro hx_; try simp only [set_none] at hx_) | omega)
 rename_i x0
 have hx0 := hx_
 clear hx_
 refine p_app_one 41 96 (Rw tmC a.seen) rfl (by simp only [go_sem,seval, List.length_append, List.length_nil, Rw_len, Nat.zero_add]) (by decide) (by simp only [go_sem,seval, List.length_append, List.length_nil, Rw_len, Nat.zero_add]) (by simp only [go_sem,seval, List.length_append, List.length_nil, Rw_len, Nat.zero_add]) (by simp only [go_sem,seval, List.length_append, List.length_nil, Rw_len, Nat.zero_add]) (by simp only [go_sem,seval, List.length_append, List.length_nil, Rw_len, Nat.zero_add]) (by simp only [go_sem,seval, List.length_append, List.length_nil, Rw_len, Nat.zero_add]) (by first | exact hx0 | (simp only [set_none]; exact hx0)) (by simp only [List.mem_cons, List.not_mem_nil, or_false, not_or]; constructor <;> (rintro rfl; simp_all; done)) (by simp only [List.length_nil, List.length_append, Rw_len]; omega) (by simp only [List.length_nil, List.length_append, Rw_len]; omega) ?_
 intro x1 hx1
 try simp only [set_none] at hx1
 repeat' (first | with_reducible refine And.intro ?_ ?_ | simp only [go_sem,seval, m1, m2, e1, e2] | simp (disch := omega) only [wrap64, cell_at, Rw_at] | simp (disch := first | omega | grind) only [heap_ne_, del_ne] | (intro hx_; try simp only [set_none] at hx_) | omega)
 refine p_app_one 41 96 (Rw tmC b.seen) rfl (by simp only [go_sem,seval, List.length_append, List.length_nil, Rw_len, Nat.zero_add]) (by decide) (by simp only [go_sem,seval, List.length_append, List.length_nil, Rw_len, Nat.zero_add]) (by simp only [go_sem,seval, List.length_append, List.length_nil, Rw_len, Nat.zero_add]) (by simp only [go_sem,seval, List.length_append, List.length_nil, Rw_len, Nat.zero_add]) (by simp only [go_sem,seval, List.length_append, List.length_nil, Rw_len, Nat.zero_add]) (by simp only [go_sem,seval, List.length_append, List.length_nil, Rw_len, Nat.zero_add]) (by first | exact hx1 | (simp only [set_none]; exact hx1)) (by simp only [List.mem_cons, List.not_mem_nil, or_false, not_or]; constructor <;> (rintro rfl; simp_all; done)) (by simp only [List.length_nil, List.length_append, Rw_len]; omega) (by simp only [List.length_nil, List.length_append, Rw_len]; omega) ?_
 intro x2 hx2
 try simp only [set_none] at hx2
 repeat' (first | with_reducible refine And.intro ?_ ?_ | simp only [go_sem,seval, m1, m2, e1, e2] | simp (disch := omega) only [wrap64, cell_at, Rw_at] | simp (disch := first | omega | grind) only [heap_ne_, del_ne] | (intro hx_; try simp only [set_none] at hx_) | omega)
 rename_i x3
 have hx3 := hx_
 clear hx_
 refine p_app_one 4 1 (Rw boolC a.final) rfl (by simp only [go_sem,seval, List.length_append, List.length_nil, Rw_len, Nat.zero_add]) (by decide) (by simp only [go_sem,seval, List.length_append, List.length_nil, Rw_len, Nat.zero_add]) (by simp only [go_sem,seval, List.length_append, List.length_nil, Rw_len, Nat.zero_add]) (by simp only [go_sem,seval, List.length_append, List.length_nil, Rw_len, Nat.zero_add]) (by simp only [go_sem,seval, List.length_append, List.length_nil, Rw_len, Nat.zero_add]) (by simp only [go_sem,seval, List.length_append, List.length_nil, Rw_len, Nat.zero_add]) (by first | exact hx3 | (simp only [set_none]; exact hx3)) (by simp only [List.mem_cons, List.not_mem_nil, or_false, not_or]; constructor <;> (rintro rfl; simp_all; done)) (by simp only [List.length_nil, List.length_append, Rw_len]; omega) (by simp only [List.length_nil, List.length_append, Rw_len]; omega) ?_
 intro x4 hx4
 try simp only [set_none] at hx4
 repeat' (first | with_reducible refine And.intro ?_ ?_ | simp only [go_sem,seval, m1, m2, e1, e2] | simp (disch := omega) only [wrap64, cell_at, Rw_at] | simp (disch := first | omega | grind) only [heap_ne_, del_ne] | (intro hx_; try simp only [set_none] at hx_) | omega)
 refine p_app_one 4 1 (Rw boolC b.final) rfl (by simp only [go_sem,seval, List.length_append, List.length_nil, Rw_len, Nat.zero_add]) (by decide) (by simp only [go_sem,seval, List.length_append, List.length_nil, Rw_len, Nat.zero_add]) (by simp only [go_sem,seval, List.length_append, List.length_nil, Rw_len, Nat.zero_add]) (by simp only [go_sem,seval, List.length_append, List.length_nil, Rw_len, Nat.zero_add]) (by simp only [go_sem,seval, List.length_append, List.length_nil, Rw_len, Nat.zero_add]) (by simp only [go_sem,seval, List.length_append, List.length_nil, Rw_len, Nat.zero_add]) (by first | exact hx4 | (simp only [set_none]; exact hx4)) (by simp only [List.mem_cons, List.not_mem_nil, or_false, not_or]; constructor <;> (rintro rfl; simp_all; done)) (by simp only [List.length_nil, List.length_append, Rw_len]; omega) (by simp only [List.length_nil, List.length_append, Rw_len]; omega) ?_
 intro x5 hx5
 try simp only [set_none] at hx5
 repeat' (first | with_reducible refine And.intro ?_ ?_ | simp only [go_sem,seval, m1, m2, e1, e2] | simp (disch := omega) only [wrap64, cell_at, Rw_at] | simp (disch := first | omega | grind) only [heap_ne_, del_ne] | (intro hx_; try simp only [set_none] at hx_) | omega)
 rename_i x6
 have hx6 := hx_
 clear hx_
 refine p_app_one 29 24 (Rw intsC a.next) rfl (by simp only [go_sem,seval, List.length_append, List.length_nil, Rw_len, Nat.zero_add]) (by decide) (by simp only [go_sem,seval, List.length_append, List.length_nil, Rw_len, Nat.zero_add]) (by simp only [go_sem,seval, List.length_append, List.length_nil, Rw_len, Nat.zero_add]) (by simp only [go_sem,seval, List.length_append, List.length_nil, Rw_len, Nat.zero_add]) (by simp only [go_sem,seval, List.length_append, List.length_nil, Rw_len, Nat.zero_add]) (by simp only [go_sem,seval, List.length_append, List.length_nil, Rw_len, Nat.zero_add]) (by first | exact hx6 | (simp only [set_none]; exact hx6)) (by simp only [List.mem_cons, List.not_mem_nil, or_false, not_or]; constructor <;> (rintro rfl; simp_all; done)) (by simp only [List.length_nil, List.length_append, Rw_len]; omega) (by simp only [List.length_nil, List.length_append, Rw_len]; omega) ?_
 intro x7 hx7
 try simp only [set_none] at hx7
 repeat' (first | with_reducible refine And.intro ?_ ?_ | simp only [go_sem,seval, m1, m2, e1, e2] | simp (disch := omega) only [wrap64, cell_at, Rw_at] | simp (disch := first | omega | grind) only [heap_ne_, del_ne] | (intro hx_; try simp only [set_none] at hx_) | omega)
 rename_i b5
 have hx8 := hx_
 clear hx_
 generalize hBt : (Bs.set x2 (.vec 6 (Rw tmC a.seen ++ Rw tmC b.seen))).set x5 (.vec 1 (Rw boolC a.final ++ Rw boolC b.final)) = Bt
 have g1 : Bt b1 = some (.box (syC a)) := by rw [← hBt]; simp only [Heap.set]; grind
 have g2 : Bt b2 = some (.box (syC b)) := by rw [← hBt]; simp only [Heap.set]; grind
 have g4 : Bt b4 = some (.box [.nilsl, .nilsl, .nilsl]) := by rw [← hBt]; simp only [Heap.set]; grind
 have gx2 : Bt x2 = some (.vec 6 (Rw tmC a.seen ++ Rw tmC b.seen)) := by rw [← hBt]; simp only [Heap.set]; grind
 have gx5 : Bt x5 = some (.vec 1 (Rw boolC a.final ++ Rw boolC b.final)) := by rw [← hBt]; simp only [Heap.set]; grind
 have g7 : Bt x7 = none := by rw [← hBt]; simp only [Heap.set]; grind
 have g5 : Bt b5 = none := by rw [← hBt]; simp only [Heap.set]; grind
 have n75 : x7 ≠ b5 := Ne.symm hx8.1
 have hx25 : x2 ≠ x5 := Ne.symm hx5.1
 have hleT : H.Le Bt := by rw [← hBt]; intro k o hk; have := hle k o hk; simp only [Heap.set]; grind
 have hnx : H x2 = none ∧ H x5 = none := ⟨hle.none hx2, hle.none hx5.2⟩
 clear hBt hx0 hx1 hx2 hx3 hx4 hx5 hx6 hx7 hx8 e1 e2 e4 hle
 have e1 := g1
 have e2 := g2
 have e4 := g4
 have e5 := g5
 have hle := hleT
 clear g1 g2 g4 g5 hleT
 rw [show Av.Obj.vec 1 (Rw intsC a.next) = Av.Obj.vec 1 (Rw intsC (uniR a b 0)) by rw [uniR_zero]]
 refine loop_c [2, 4, 5, 31, 32] (fun (p : Nat × Nat) => [(33, .int .i64 p.1)]) (fun (p : Nat × Nat) => (Bt.set p.2 (.vec 1 (Rw intsC (uniR a b p.1)))).set b5 (.box [.vec x2 6 0 (a.seen.length + b.seen.length), .vec x5 1 0 (a.final.length + b.final.length), .vec p.2 1 0 (a.next.length + p.1)])) (fun (p : Nat × Nat) => p.1 ≤ b.next.length ∧ Bt p.2 = none ∧ p.2 ≠ b5) (fun (p : Nat × Nat) => b.next.length - p.1) ((0, x7)) (⟨Nat.zero_le _, g7, n75⟩) (by (try simp only [go_sem,seval]) <;> (try simp (disch := omega) [wrap64]) <;> (try omega)) (by first | with_reducible exact Heap.Le.refl _ | exact heap_set_le (by assumption) | exact Heap.Le.refl _ | exact heap_le_set (by assumption) | exact (by simp only [Go.Av.Heap.Le, Go.Av.Heap.set, Go.Av.Heap.del] at * <;> grind)) ?_
 rintro Ec rfl ⟨i, c⟩ ⟨hi, hc, hcb⟩
 simp only at hi hc hcb
 have hlu := uniR_length a b hi
 by_cases hlt : i < b.next.length
 ·have hkd : decide ((i : Int) < b.next.length) = true := decide_eq_true (by omega)
  have hil := hb.il b.next[i] (List.getElem_mem hlt)
  generalize hHc : (Bt.set c (.vec 1 (Rw intsC (uniR a b i)))).set b5 (.box [.vec x2 6 0 (a.seen.length + b.seen.length), .vec x5 1 0 (a.final.length + b.final.length), .vec c 1 0 (a.next.length + i)]) = Hc
  have g1 : Hc b1 = some (.box (syC a)) := by rw [← hHc]; simp only [Heap.set]; grind
  have g2 : Hc b2 = some (.box (syC b)) := by rw [← hHc]; simp only [Heap.set]; grind
  have g5 : Hc b5 = some (.box [.vec x2 6 0 (a.seen.length + b.seen.length), .vec x5 1 0 (a.final.length + b.final.length), .vec c 1 0 (a.next.length + i)]) := by rw [← hHc, heap_same]
  have gc : Hc c = some (.vec 1 (Rw intsC (uniR a b i))) := by rw [← hHc]; simp only [Heap.set]; grind
  repeat' (first | with_reducible refine And.intro ?_ ?_ | simp only [go_sem,seval, hkd, g2, Rw_at _ _ hlt] | simp (disch := omega) only [wrap64, cell_at, Rw_at] | simp (disch := first | omega | grind) only [heap_ne_, del_ne] | (intro hx_; try simp only [set_none] at hx_) | omega)
  have hsl := shiftL_length a.seen.length b.next[i]
  refine loop_c [2, 4, 5, 31, 32, 33, 37, 38] (fun (p : Nat × Option Nat) => [(39, .int .i64 p.1), (8, outG 1 p.1 p.2)]) (fun (p : Nat × Option Nat) => putB Hc 1 (Rw intC ((shiftL a.seen.length b.next[i]).take p.1)) p.2) (fun (p : Nat × Option Nat) => p.1 ≤ b.next[i].length ∧ (p.2 = none → p.1 = 0) ∧ ∀ b, p.2 = some b → Hc b = none) (fun (p : Nat × Option Nat) => b.next[i].length - p.1) ((0, none)) (⟨Nat.zero_le _, fun _ => rfl, fun b e => by cases e⟩) (by (try simp only [go_sem,seval]) <;> (try simp (disch := omega) [wrap64]) <;> (try omega)) (by first | with_reducible exact Heap.Le.refl _ | exact heap_set_le (by assumption) | exact Heap.Le.refl _ | exact heap_le_set (by assumption) | exact (by simp only [Go.Av.Heap.Le, Go.Av.Heap.set, Go.Av.Heap.del] at * <;> grind)) ?_
  rintro Ec2 rfl ⟨j, ob⟩ ⟨hj, h0, h1⟩
  simp only at hj h0 h1
  have hin := OutIn.mk (H := Hc) (sz := 1) (es := Rw intC ((shiftL a.seen.length b.next[i]).take j)) (ob := ob) (fun e => by rw [h0 e]; rfl) h1
  by_cases hjt : j < b.next[i].length
  ·have hjd : decide ((j : Int) < b.next[i].length) = true := decide_eq_true (by omega)
   have hbx := hin.get g1
   obtain ⟨z1, z2⟩ := oB.r _ (List.getElem_mem hlt) _ (List.getElem_mem hjt)
   repeat' (first | with_reducible refine And.intro ?_ ?_ | simp only [go_sem,seval, hjd, hbx, Rw_at _ _ hjt] | simp (disch := omega) only [wrap64, cell_at, Rw_at] | simp (disch := first | omega | grind) only [heap_ne_, del_ne] | (intro hx_; try simp only [set_none] at hx_) | omega)
   rename_i b6
   have hf6 := hx_
   clear hx_
   refine apS_q (by first | exact hin | exact OutIn.set (hin) (by first | assumption | (refine set_none.2 ?_; assumption) | (simp only [set_none]; assumption) | (simp only [set_none] at *; simp_all; done)) _ | exact OutIn.set (OutIn.set (hin) (by first | assumption | (refine set_none.2 ?_; assumption) | (simp only [set_none]; assumption) | (simp only [set_none] at *; simp_all; done)) _) (by first | assumption | (refine set_none.2 ?_; assumption) | (simp only [set_none]; assumption) | (simp only [set_none] at *; simp_all; done)) _ | exact OutIn.set (OutIn.set (OutIn.set (hin) (by first | assumption | (refine set_none.2 ?_; assumption) | (simp only [set_none]; assumption) | (simp only [set_none] at *; simp_all; done)) _) (by first | assumption | (refine set_none.2 ?_; assumption) | (simp only [set_none]; assumption) | (simp only [set_none] at *; simp_all; done)) _) (by first | assumption | (refine set_none.2 ?_; assumption) | (simp only [set_none]; assumption) | (simp only [set_none] at *; simp_all; done)) _ | exact OutIn.set (OutIn.set (OutIn.set (OutIn.set (hin) (by first | assumption | (refine set_none.2 ?_; assumption) | (simp only [set_none]; assumption) | (simp only [set_none] at *; simp_all; done)) _) (by first | assumption | (refine set_none.2 ?_; assumption) | (simp only [set_none]; assumption) | (simp only [set_none] at *; simp_all; done)) _) (by first | assumption | (refine set_none.2 ?_; assumption) | (simp only [set_none]; assumption) | (simp only [set_none] at *; simp_all; done)) _) (by first | assumption | (refine set_none.2 ?_; assumption) | (simp only [set_none]; assumption) | (simp only [set_none] at *; simp_all; done)) _ ) (by simp) (by first | rfl | (simp only [go_sem,seval, Rw_take_len]; done) | (simp only [go_sem,seval, Rw_take_len]; omega) | simp | (simp; omega)) (by simp only [List.length_cons, List.length_nil]; omega) (by simp only [List.length_cons, List.length_nil]; omega) fun b' hb' hb2 hle => ?_
   repeat' (first | with_reducible refine And.intro ?_ ?_ | simp only [go_sem,seval] | simp (disch := omega) only [wrap64, cell_at, Rw_at] | simp (disch := first | omega | grind) only [heap_ne_, del_ne] | (intro hx_; try simp only [set_none] at hx_) | omega)
   have hjs : j < (shiftL a.seen.length b.next[i]).length := by omega
   exact nx_mk (j + 1, some b') ⟨by simp only []; omega, (fun e => by cases e), fun b e => by cases e; exact hb'⟩ (by simp only []; omega) (by (try simp only [go_sem,seval]) <;> (try simp (disch := omega) [wrap64]) <;> (try omega)) (putB_le hle (by rw [Rw_take_succ _ _ hjs]; simp [shiftL, intC]))
  ·have hjd : decide ((j : Int) < b.next[i].length) = false := decide_eq_false (by omega)
   have hjl : j = (shiftL a.seen.length b.next[i]).length := by omega
   rw [List.take_of_length_le (by omega)] at hin ⊢
   have hone : (outG 1 j ob).one = true := by cases ob <;> rfl
   unfold D.one at hone
   repeat' (first | with_reducible refine And.intro ?_ ?_ | simp only [go_sem,seval, hjd, hin.get g5, hone] | simp (disch := omega) only [wrap64, cell_at, Rw_at] | simp (disch := first | omega | grind) only [heap_ne_, del_ne] | (intro hx_; try simp only [set_none] at hx_) | omega)
   rename_i b6
   have hf6 := hx_
   clear hx_
   generalize hHd : (putB Hc 1 (Rw intC (shiftL a.seen.length b.next[i])) ob).set b6 (.vec 1 [[outG 1 j ob]]) = Hd
   have d1 : ∀ k o, Bt k = some o → k ≠ b5 → Hd k = some o := fun k o h2 h3 => by
    rw [← hHd]
    cases ob with
    | none => simp only [putB, Heap.set, ← hHc] at hf6 ⊢; grind
    | some m => have := h1 m rfl; simp only [putB, Heap.set, ← hHc] at hf6 this ⊢; grind
   have d5 : Hd b5 = some (.box [.vec x2 6 0 (a.seen.length + b.seen.length), .vec x5 1 0 (a.final.length + b.final.length), .vec c 1 0 (a.next.length + i)]) := by
    rw [← hHd]
    cases ob with
    | none => simp only [putB, Heap.set, ← hHc] at hf6 ⊢; grind
    | some m => have := h1 m rfl; simp only [putB, Heap.set, ← hHc] at hf6 this ⊢; grind
   have dc : Hd c = some (.vec 1 (Rw intsC (uniR a b i))) := by
    rw [← hHd]
    cases ob with
    | none => simp only [putB, Heap.set, ← hHc] at hf6 ⊢; grind
    | some m => have := h1 m rfl; simp only [putB, Heap.set, ← hHc] at hf6 this ⊢; grind
   have dm : ∀ m, ob = some m → Hd m = some (.vec 1 (Rw intC (shiftL a.seen.length b.next[i]))) ∧ m ≠ c ∧ m ≠ b5 ∧ Bt m = none := fun m e => by
    subst e
    have := h1 m rfl
    rw [← hHd]
    simp only [putB, Heap.set, ← hHc] at hf6 this ⊢; grind
   have hcn : (Bt.set b5 (.box [.vec x2 6 0 (a.seen.length + b.seen.length), .vec x5 1 0 (a.final.length + b.final.length), .vec c 1 0 (a.next.length + i)])) c = none := by rw [heap_ne _ hcb]; exact hc
   have hKl : (Bt.set b5 (.box [.vec x2 6 0 (a.seen.length + b.seen.length), .vec x5 1 0 (a.final.length + b.final.length), .vec c 1 0 (a.next.length + i)])).Le Hd := fun k o hk => by
    by_cases hk5 : k = b5
    ·subst hk5; rw [heap_same] at hk; cases hk; exact d5
    ·rw [heap_ne _ hk5] at hk; exact d1 k o hk hk5
   have hinC : OutIn (Bt.set b5 (.box [.vec x2 6 0 (a.seen.length + b.seen.length), .vec x5 1 0 (a.final.length + b.final.length), .vec c 1 0 (a.next.length + i)])) 1 (Rw intsC (uniR a b i)) (some c) Hd := ⟨hKl, dc, fun b e => by cases e; exact hcn⟩
   rw [dc, apV_vec]
   refine ⟨rfl, by rw [Rw_len]; omega, by simp only [List.length_cons, List.length_nil]; omega, by simp only [List.length_cons, List.length_nil]; omega, fun b' hb2 => ?_⟩
   have hb' := hinC.new hb2
   rw [List.take_of_length_le (by rw [Rw_len]; omega)]
   have hb5' : b5 ≠ b' := fun e => by rw [← e, heap_same] at hb'; cases hb'
   have hbb : Bt b' = none := by rwa [heap_ne _ (Ne.symm hb5')] at hb'
   have hd5 : (((Hd.del c).set b' (.vec 1 (Rw intsC (uniR a b i) ++ [[outG 1 j ob]]))) b5) = some (.box [.vec x2 6 0 (a.seen.length + b.seen.length), .vec x5 1 0 (a.final.length + b.final.length), .vec c 1 0 (a.next.length + i)]) := by
    rw [heap_ne _ hb5']; show (Hd.del c) b5 = _; simp only [Heap.del]; rw [if_neg (Ne.symm hcb)]; exact d5
   repeat' (first | with_reducible refine And.intro ?_ ?_ | simp only [go_sem,seval, hd5] | simp (disch := omega) only [wrap64, cell_at, Rw_at] | simp (disch := first | omega | grind) only [heap_ne_, del_ne] | (intro hx_; try simp only [set_none] at hx_) | omega)
   have hr5 : Rw intsC (uniR a b (i + 1)) = Rw intsC (uniR a b i) ++ [[.sl 1 (Rw intC (shiftL a.seen.length b.next[i]))]] := by rw [uniR_succ a b hlt]; simp [Rw, intsC]
   refine nx_w (i + 1, b') ⟨by simp only []; omega, hbb, Ne.symm hb5'⟩ (by simp only []; omega) ?_
   simp only [hr5]
   rw [heap_comm _ hb5']
   have hmb : ∀ m, ob = some m → m ≠ b' := fun m e => by
    intro e2
    rw [← e2] at hb2
    obtain ⟨g1, g2, _⟩ := dm m e
    change (Hd.del c) m = none at hb2
    simp only [Heap.del] at hb2
    rw [if_neg g2, g1] at hb2
    cases hb2
   refine weak_rowO (n := j) (ob := ob) ?_ (by rw [Rw_len]; exact hjl) (by rw [heap_ne _ (Ne.symm hb5'), heap_same]) (fun e => by have := h0 e; rw [List.eq_nil_of_length_eq_zero (l := shiftL a.seen.length b.next[i]) (by omega)]; rfl) (fun m e => ?_) (fun k o hk ho => ?_)
   ·exact (by (try simp only [go_sem,seval]) <;> (try simp (disch := omega) [wrap64]) <;> (try omega))
   ·obtain ⟨g1, g2, g3, _⟩ := dm m e
    refine ⟨?_, hmb m e⟩
    rw [heap_ne _ g3, heap_ne _ (hmb m e)]
    show (Hd.del c) m = _
    simp only [Heap.del]; rw [if_neg g2]; exact g1
   ·refine ⟨fun m e e2 => ?_, ?_⟩
    ·obtain ⟨g1, g2, g3, g4⟩ := dm m e
     rw [e2, heap_ne _ g3, g4] at ho
     cases ho
    ·by_cases hk5 : k = b5
     ·subst hk5; rw [heap_same] at ho ⊢; exact ho
     ·rw [heap_ne _ hk5] at ho ⊢
      rw [heap_ne _ hk]
      show (Hd.del c) k = _
      have hkc : k ≠ c := fun e => by rw [e, hc] at ho; cases ho
      simp only [Heap.del]; rw [if_neg hkc]; exact d1 k o ho hk5
 ·have hkd : decide ((i : Int) < b.next.length) = false := decide_eq_false (by omega)
  repeat' (first | with_reducible refine And.intro ?_ ?_ | simp only [go_sem,seval, hkd, e4] | simp (disch := omega) only [wrap64, cell_at, Rw_at] | simp (disch := first | omega | grind) only [heap_ne_, del_ne] | (intro hx_; try simp only [set_none] at hx_) | omega)
  rw [uniR_all a b (by omega)] at hlu ⊢
  have h4c : b4 ≠ c := fun e => by rw [e, hc] at e4; cases e4
  have h45 : b4 ≠ b5 := fun e => by rw [e, e5] at e4; cases e4
  have hx24 : x2 ≠ b4 := fun e => by rw [e, e4] at gx2; cases gx2
  have hx54 : x5 ≠ b4 := fun e => by rw [e, e4] at gx5; cases gx5
  have hx2b : x2 ≠ b5 := fun e => by rw [e, e5] at gx2; cases gx2
  have hx5b : x5 ≠ b5 := fun e => by rw [e, e5] at gx5; cases gx5
  have hx2c : x2 ≠ c := fun e => by rw [e, hc] at gx2; cases gx2
  have hx5c : x5 ≠ c := fun e => by rw [e, hc] at gx5; cases gx5
  have hcn1 := hle.none hc
  have r6 : Rw tmC a.seen ++ Rw tmC b.seen = Rw tmC (unionS a b).seen := by simp [Rw, unionS]
  have r7 : Rw boolC a.final ++ Rw boolC b.final = Rw boolC (unionS a b).final := by simp [Rw, unionS]
  rw [r6] at gx2
  rw [r7] at gx5
  have l6 : a.seen.length + b.seen.length = (Rw tmC (unionS a b).seen).length := by rw [Rw_len]; simp [unionS]
  have l7 : a.final.length + b.final.length = (Rw boolC (unionS a b).final).length := by rw [Rw_len]; simp [unionS]
  have l8 : a.next.length + i = (Rw intsC (unionS a b).next).length := by rw [Rw_len, hlu]
  rw [l6, l7, l8]
  refine Fin.freezeA (cs' := [.sl 6 (Rw tmC (unionS a b).seen), .vec x5 1 0 (Rw boolC (unionS a b).final).length, .vec c 1 0 (Rw intsC (unionS a b).next).length]) (b := x2) (by rw [heap_ne _ hx24, heap_ne _ hx2b, heap_ne _ hx2c]; exact gx2) (by rfl) (fun q d d' h1 h2 => ?_) ?_
  ·match q with
   | 0 => cases h1; cases h2; exact .all
   | 1 => cases h1; cases h2; exact .same _
   | 2 => cases h1; cases h2; exact .same _
   | q + 3 => cases h1
  refine Fin.freezeA (cs' := [.sl 6 (Rw tmC (unionS a b).seen), .sl 1 (Rw boolC (unionS a b).final), .vec c 1 0 (Rw intsC (unionS a b).next).length]) (b := x5) (by simp only [Heap.del]; rw [if_neg (Ne.symm hx25), heap_ne _ hx54, heap_ne _ hx5b, heap_ne _ hx5c]; exact gx5) (by rfl) (fun q d d' h1 h2 => ?_) ?_
  ·match q with
   | 0 => cases h1; cases h2; exact .same _
   | 1 => cases h1; cases h2; exact .all
   | 2 => cases h1; cases h2; exact .same _
   | q + 3 => cases h1
  refine Fin.freezeA (cs' := syC (unionS a b)) (b := c) (by simp only [Heap.del]; rw [if_neg (Ne.symm hx5c), if_neg (Ne.symm hx2c), heap_ne _ (Ne.symm h4c), heap_ne _ hcb, heap_same]) (by rfl) (fun q d d' h1 h2 => ?_) (Fin.less (fun k o hk => ?_) h)
  ·match q with
   | 0 => cases h1; cases h2; exact .same _
   | 1 => cases h1; cases h2; exact .same _
   | 2 => cases h1; cases h2; exact .all
   | q + 3 => cases h1
  ·have hk2 := hle k o hk
   have hkc : k ≠ c := fun e => by rw [e, hc] at hk2; cases hk2
   have hk5 : k ≠ b5 := fun e => by rw [e, e5] at hk2; cases hk2
   have hk4 : k ≠ b4 := fun e => by rw [e, hH4] at hk; cases hk
   have hkx : k ≠ x2 := fun e => by rw [e, hnx.1] at hk; cases hk
   have hkx5 : k ≠ x5 := fun e => by rw [e, hnx.2] at hk; cases hk
   simp only [Heap.del]
   rw [if_neg hkc, if_neg hkx5, if_neg hkx, heap_ne _ hk4, heap_ne _ hk5, heap_ne _ hkc]
   exact hk2
end Go.Proofs.YtmohcdihdhggoaaGreatDoor
end
section
set_option maxRecDepth 20000
namespace Go.Proofs.YtmohcdihdhggoaaGreatDoor
open Go Go.Av Go.Lexs Go.Bis
attribute [local irreducible] ACalls at8
set_option maxHeartbeats 2000000 in
theorem rClasses_a {Q} (a b : Sy) (ha : SyFit a) (hb : SyFit b) (H : Heap)
  (h : Q (if validY a && validY b then .tuple [.sl 1 (Rw natC (clA a b)), .sl 1 (Rw natC (clB a b)), .int .i64 0] else .tuple [.nilsl, .nilsl, .int .i64 2]) H) : ACalls Tryz.prog 13 [.agg (syC a), .agg (syC b)] H Q := by
 refine acalls_of_wp [] Tryz.mixed Tryz.func13 rfl (by kernel_rfl) (of_decide_eq_true (by kernel_rfl)) (by kernel_rfl) ?_
 simp only [go_sem,seval, Tryz.results13]
 intro b1 hb1
 repeat' (first | with_reducible refine And.intro ?_ ?_ | simp only [go_sem,seval] | simp (disch := omega) only [wrap64, cell_at] | simp (disch := first | omega | grind) only [heap_ne_, del_ne] | (intro hx_; try simp only [set_none] at hx_) | omega)
 rename_i b2
 have hf2 := hx_
 clear hx_
 have hf2' : (H.set b1 (.box (syC a))) b2 = none := by simpa only [set_none] using hf2
 have hle : H.Le ((H.set b1 (.box (syC a))).set b2 (.box (syC b))) := (heap_le_set hb1).trans (heap_le_set hf2')
 have hb2 : ((H.set b1 (.box (syC a))).set b2 (.box (syC b))) b2 = some (.box (syC b)) := heap_same _ _
 have hb1' : ((H.set b1 (.box (syC a))).set b2 (.box (syC b))) b1 = some (.box (syC a)) := by rw [heap_ne _ (Ne.symm hf2.1)]; exact heap_same _ _
 generalize (H.set b1 (.box (syC a))).set b2 (.box (syC b)) = Bs at hle hb2 hb1' ⊢
 cases hva : validY a with
 | false =>
  rw [hva] at h
  repeat' (first | with_reducible refine And.intro ?_ ?_ | simp only [go_sem,seval, hva, hb1', hb2] | simp (disch := omega) only [wrap64, cell_at] | simp (disch := first | omega | grind) only [heap_ne_, del_ne] | (intro hx_; try simp only [set_none] at hx_) | with_reducible refine rvalid_a a ha _ ?_ | omega)
  refine Fin.less hle ?_
  simpa using h
 | true =>
  cases hvb : validY b with
  | false =>
   rw [hva, hvb] at h
   repeat' (first | with_reducible refine And.intro ?_ ?_ | simp only [go_sem,seval, hva, hvb, hb1', hb2] | simp (disch := omega) only [wrap64, cell_at] | simp (disch := first | omega | grind) only [heap_ne_, del_ne] | (intro hx_; try simp only [set_none] at hx_) | with_reducible refine rvalid_a a ha _ ?_ | with_reducible refine rvalid_a b hb _ ?_ | omega)
   refine Fin.less hle ?_
   simpa using h
  | true =>
   rw [hva, hvb] at h
   have oa := validY_ok hva
   have oB := validY_ok hvb
   have na := validY_n hva
   have nb := validY_n hvb
   have ou := union_ok oa oB (by omega)
   have fu := union_fit ha hb oa oB
   have hul : (unionS a b).seen.length = a.seen.length + b.seen.length := by simp [unionS]
   have hfl : (fixS (unionS a b)).length = a.seen.length + b.seen.length := by rw [fixS_length, hul]
   have eA : (Rw natC (fixS (unionS a b))).take a.seen.length = Rw natC (clA a b) := by rw [Rw_take]; rfl
   have eB : (Rw natC (fixS (unionS a b))).drop a.seen.length = Rw natC (clB a b) := by rw [Rw_drop]; rfl
   have eT : (Rw natC (fixS (unionS a b))).take (a.seen.length + b.seen.length) = Rw natC (fixS (unionS a b)) := List.take_of_length_le (by rw [Rw_len, hfl]; exact Nat.le_refl _)
   repeat' (first | with_reducible refine And.intro ?_ ?_ | simp only [go_sem,seval, hva, hvb, hb1', hb2, hfl, eT, eA, eB] | simp (disch := omega) only [wrap64, cell_at] | simp (disch := first | omega | grind) only [heap_ne_, del_ne] | (intro hx_; try simp only [set_none] at hx_) | with_reducible refine rvalid_a a ha _ ?_ | with_reducible refine rvalid_a b hb _ ?_ | with_reducible refine both_a a b ha hb oa oB _ ?_ | with_reducible refine rclasses_a _ fu ou (by omega) _ ?_ | omega)
   refine Fin.less hle ?_
   simpa using h
theorem rAlike_a {Q} (a b : Sy) (ha : SyFit a) (hb : SyFit b) (H : Heap) (h : Q (alikeR a b) H) : ACalls Tryz.prog 15 [.agg (syC a), .agg (syC b)] H Q := by
 unfold alikeR at h
 refine acalls_of_wp [] Tryz.mixed Tryz.func15 rfl (by kernel_rfl) (of_decide_eq_true (by kernel_rfl)) (by kernel_rfl) ?_
 simp only [go_sem,seval, Tryz.results15]
 intro b1 hb1
 repeat' (first | with_reducible refine And.intro ?_ ?_ | simp only [go_sem,seval] | simp (disch := omega) only [wrap64, cell_at, Rw_at] | simp (disch := first | omega | grind) only [heap_ne_, del_ne] | (intro hx_; try simp only [set_none] at hx_) | omega)
 rename_i b2
 have hf2 := hx_
 clear hx_
 have hf2' : (H.set b1 (.box (syC a))) b2 = none := by simpa only [set_none] using hf2
 refine rClasses_a a b ha hb _ ?_
 have hle : H.Le ((H.set b1 (.box (syC a))).set b2 (.box (syC b))) := (heap_le_set hb1).trans (heap_le_set hf2')
 cases hv : validY a && validY b with
 | false =>
  rw [hv] at h
  rw [if_neg (by simp)] at h ⊢
  repeat' (first | with_reducible refine And.intro ?_ ?_ | simp only [go_sem,seval] | simp (disch := omega) only [wrap64, cell_at, Rw_at] | simp (disch := first | omega | grind) only [heap_ne_, del_ne] | (intro hx_; try simp only [set_none] at hx_) | omega)
  exact Fin.less hle h
 | true =>
  rw [hv] at h
  rw [if_pos rfl] at h ⊢
  rw [Bool.and_eq_true] at hv
  have na := validY_n hv.1
  have nb := validY_n hv.2
  have la := clA_length a b
  have lb := clB_length a b
  have l0 : 0 < (clA a b).length := by omega
  have l1 : 0 < (clB a b).length := by omega
  unfold alikeV at h
  repeat' (first | with_reducible refine And.intro ?_ ?_ | simp only [go_sem,seval, Rw_at _ _ l0, Rw_at _ _ l1] | simp (disch := omega) only [wrap64, cell_at, Rw_at] | simp (disch := first | omega | grind) only [heap_ne_, del_ne] | (intro hx_; try simp only [set_none] at hx_) | omega)
  refine Fin.less hle ?_
  have he : decide (((clA a b)[0] : Int) = ((clB a b)[0] : Int)) = decide ((clA a b)[0] = (clB a b)[0]) := by
   rw [Bool.eq_iff_iff, decide_eq_true_eq, decide_eq_true_eq]; omega
  rw [he]
  simpa [l0, l1] using h
end Go.Proofs.YtmohcdihdhggoaaGreatDoor
end
section
set_option maxRecDepth 20000
namespace Go.Proofs.YtmohcdihdhggoaaGreatDoor
open Go Go.Av Go.Lexs Go.Bis
attribute [local irreducible] ACalls at8
set_option maxHeartbeats 2000000 in
theorem fewL_a {Q} (l : List Sy) (hl : l.length ≤ 2) (fl : ∀ s ∈ l, SyFit s) (H : Heap) (h : ∀ b, Q (.bool b) H) : ACalls Tryz.prog 10 [.sl 3 (Rw syC l)] H Q := by
 refine acalls_of_wp [] Tryz.mixed Tryz.func10 rfl (by kernel_rfl) (of_decide_eq_true (by kernel_rfl)) (by kernel_rfl) ?_
 simp only [go_sem,seval, Tryz.results10]
 repeat' (first | with_reducible refine And.intro ?_ ?_ | simp only [go_sem,seval] | simp (disch := omega) only [wrap64, cell_at, Rw_at] | simp (disch := first | omega | grind) only [heap_ne_, del_ne] | (intro hx_; try simp only [set_none] at hx_) | omega)
 refine loop_c [8, 9] (fun (p : Nat × Int) => [(10, .int .i64 p.1), (3, .int .i64 p.2)]) (fun (p : Nat × Int) => H) (fun (p : Nat × Int) => p.1 ≤ l.length) (fun (p : Nat × Int) => l.length - p.1) ((0, 0)) (Nat.zero_le _) (by (try simp only [go_sem,seval]) <;> (try simp (disch := omega) [wrap64]) <;> (try omega)) (by first | with_reducible exact Heap.Le.refl _ | exact heap_set_le (by assumption) | exact Heap.Le.refl _ | exact heap_le_set (by assumption) | exact (by simp only [Go.Av.Heap.Le, Go.Av.Heap.set, Go.Av.Heap.del] at * <;> grind)) ?_
 rintro Ec rfl ⟨k, c⟩ hk
 simp only at hk
 by_cases hlt : k < l.length
 ·have hlk : decide ((k : Int) < l.length) = true := decide_eq_true (by omega)
  have hmem := List.getElem_mem hlt
  have hs := fl _ hmem
  repeat' (first | with_reducible refine And.intro ?_ ?_ | simp only [go_sem,seval, hlk, Rw_at _ _ hlt] | simp (disch := omega) only [wrap64, cell_at, Rw_at] | simp (disch := first | omega | grind) only [heap_ne_, del_ne] | (intro hx_; try simp only [set_none] at hx_) | omega)
  rename_i b5
  have hf5 := hx_
  clear hx_
  refine loop_c [5, 8, 9, 10, 28, 29] (fun (p : Nat × Int) => [(30, .int .i64 p.1), (3, .int .i64 p.2)]) (fun (p : Nat × Int) => H.set b5 (.box (syC l[k]))) (fun (p : Nat × Int) => p.1 ≤ l[k].next.length) (fun (p : Nat × Int) => l[k].next.length - p.1) ((0, IntKind.i64.wrap (c + IntKind.i64.wrap (IntKind.i64.wrap ((l[k].seen.length : Int) + l[k].final.length) + l[k].next.length)))) (Nat.zero_le _) (by (try simp only [go_sem,seval]) <;> (try simp (disch := omega) [wrap64]) <;> (try omega)) (by first | with_reducible exact Heap.Le.refl _ | exact heap_set_le (by assumption) | exact Heap.Le.refl _ | exact heap_le_set (by assumption) | exact (by simp only [Go.Av.Heap.Le, Go.Av.Heap.set, Go.Av.Heap.del] at * <;> grind)) ?_
  rintro Ec2 rfl ⟨j, d⟩ hj
  simp only at hj
  have hnl := hs.nl
  by_cases hjt : j < l[k].next.length
  ·have hjk : decide ((j : Int) < l[k].next.length) = true := decide_eq_true (by omega)
   repeat' (first | with_reducible refine And.intro ?_ ?_ | simp only [go_sem,seval, hjk, Rw_at _ _ hjt] | simp (disch := omega) only [wrap64, cell_at, Rw_at] | simp (disch := first | omega | grind) only [heap_ne_, del_ne] | (intro hx_; try simp only [set_none] at hx_) | omega)
   exact nx_mk (j + 1, IntKind.i64.wrap (d + l[k].next[j].length)) (by simp only []; omega) (by simp only []; omega) (by (try simp only [go_sem,seval]) <;> (try simp (disch := omega) [wrap64]) <;> (try omega)) (Heap.Le.refl _)
  ·have hjk : decide ((j : Int) < l[k].next.length) = false := decide_eq_false (by omega)
   by_cases h9 : 900 < d
   ·have h9d : decide (900 < d) = true := decide_eq_true h9
    repeat' (first | with_reducible refine And.intro ?_ ?_ | simp only [go_sem,seval, hjk, h9d] | simp (disch := omega) only [wrap64, cell_at, Rw_at] | simp (disch := first | omega | grind) only [heap_ne_, del_ne] | (intro hx_; try simp only [set_none] at hx_) | omega)
    exact Fin.less (heap_le_set hf5) (h _)
   ·have h9d : decide (900 < d) = false := decide_eq_false h9
    repeat' (first | with_reducible refine And.intro ?_ ?_ | simp only [go_sem,seval, hjk, h9d] | simp (disch := omega) only [wrap64, cell_at, Rw_at] | simp (disch := first | omega | grind) only [heap_ne_, del_ne] | (intro hx_; try simp only [set_none] at hx_) | omega)
    refine few_a _ hs.sl hs.tm _ (fun bb => ?_)
    cases bb with
    | false =>
     repeat' (first | with_reducible refine And.intro ?_ ?_ | simp only [go_sem,seval] | simp (disch := omega) only [wrap64, cell_at, Rw_at] | simp (disch := first | omega | grind) only [heap_ne_, del_ne] | (intro hx_; try simp only [set_none] at hx_) | omega)
     exact Fin.less (heap_le_set hf5) (h _)
    | true =>
     repeat' (first | with_reducible refine And.intro ?_ ?_ | simp only [go_sem,seval] | simp (disch := omega) only [wrap64, cell_at, Rw_at] | simp (disch := first | omega | grind) only [heap_ne_, del_ne] | (intro hx_; try simp only [set_none] at hx_) | omega)
     exact nx_mk (k + 1, d) (by simp only []; omega) (by simp only []; omega) (by (try simp only [go_sem,seval]) <;> (try simp (disch := omega) [wrap64]) <;> (try omega)) (heap_le_set hf5)
 ·have hlk : decide ((k : Int) < l.length) = false := decide_eq_false (by omega)
  repeat' (first | with_reducible refine And.intro ?_ ?_ | simp only [go_sem,seval, hlk] | simp (disch := omega) only [wrap64, cell_at, Rw_at] | simp (disch := first | omega | grind) only [heap_ne_, del_ne] | (intro hx_; try simp only [set_none] at hx_) | omega)
  exact Fin.same (h _)
end Go.Proofs.YtmohcdihdhggoaaGreatDoor
end
section
set_option maxRecDepth 20000
namespace Go.Proofs.YtmohcdihdhggoaaGreatDoor
open Go Go.Av Go.Lexs Go.Bis
attribute [local irreducible] ACalls at8
theorem Tabs.roH {H : Heap} (h : Tabs H) : Tabs (Go.Av.roH H) := h.ro (fun k cs e => roH_at e)
theorem intsN_a {Q} (l : List Nat) (hl : l.length ≤ 1000) (H : Heap) (h : Q (.bool true) H) : ACalls Tryz.prog 16 [.sl 1 (Rw natC l), .sl 1 (Rw natC l)] H Q := by
 rw [natR_int]
 exact rInts_a _ _ (by simp; omega) (by simp; omega) H (by rw [decide_eq_true rfl]; exact h)
theorem intsZ_a {Q} (H : Heap) (h : Q (.bool true) H) : ACalls Tryz.prog 16 [.nilsl, .nilsl] H Q := by
 refine ACalls.nilR (args' := [.sl 1 (Rw intC []), .sl 1 (Rw intC [])]) rfl (fun i d d' h1 h2 => ?_) (rInts_a [] [] (by simp) (by simp) H h)
 match i with
 | 0 => cases h1; cases h2; exact .nil _
 | 1 => cases h1; cases h2; exact .nil _
 | i + 2 => cases h1
set_option maxHeartbeats 4000000 in
theorem lawClasses_a {Q} (a b : Sy) (ha : SyFit a) (hb : SyFit b) (H : Heap) (hT : Tabs H) (h : Q (.bool true) H) : ACalls Tryz.prog 3 [.agg (syC a), .agg (syC b)] H Q := by
 refine acalls_of_wp [(7, .rg)] Tryz.mixed Tryz.func3 rfl (by kernel_rfl) (of_decide_eq_true (by kernel_rfl)) (by kernel_rfl) ?_
 simp only [go_sem,seval, Tryz.results3]
 intro b2 hb2 b3 hb3
 have e2 : ((H.set b2 (.box (syC a))).set b3 (.box (syC b))) b2 = some (.box (syC a)) := by rw [heap_ne _ (by rintro rfl; rw [heap_same] at hb3; cases hb3)]; exact heap_same _ _
 have e3 : ((H.set b2 (.box (syC a))).set b3 (.box (syC b))) b3 = some (.box (syC b)) := heap_same _ _
 have hle : H.Le ((H.set b2 (.box (syC a))).set b3 (.box (syC b))) := (heap_le_set hb2).trans (heap_le_set hb3)
 have hTB : Tabs ((H.set b2 (.box (syC a))).set b3 (.box (syC b))) := hT.le hle
 generalize (H.set b2 (.box (syC a))).set b3 (.box (syC b)) = Bs at e2 e3 hle hTB ⊢
 have hTr := hTB.roH
 repeat' (first | with_reducible refine And.intro ?_ ?_ | simp only [go_sem,seval, e2, e3] | simp (disch := omega) only [wrap64, cell_at] | simp (disch := first | omega | grind) only [heap_ne_, del_ne] | (intro hx_; try simp only [set_none] at hx_) | omega)
 rename_i x
 have hx := hx_
 clear hx_
 refine ACalls.vec1 (es := Rw syC [a, b]) (heap_same _ _) rfl ?_
 rw [set_del hx]
 refine fewL_a [a, b] (by simp) (fun s hs => by simp only [List.mem_cons, List.not_mem_nil, or_false] at hs; rcases hs with rfl | rfl; exact ha; exact hb) _ (fun bb => ?_)
 cases bb with
 | false =>
  repeat' (first | with_reducible refine And.intro ?_ ?_ | simp only [go_sem,seval] | simp (disch := omega) only [wrap64, cell_at] | simp (disch := first | omega | grind) only [heap_ne_, del_ne] | (intro hx_; try simp only [set_none] at hx_) | with_reducible refine awake_a _ hTB ?_ | omega)
  exact Fin.less hle h
 | true =>
  have m2 : b2 ∈ [b2] := by simp
  have hbl : ∀ k ∈ [b2], Bs k ≠ none := fun k hk => by simp at hk; rw [hk, e2]; simp
  cases hv : validY a && validY b with
  | false =>
   have hAl : alikeR a b = .tuple [.bool false, .int .i64 2] := by unfold alikeR; rw [hv]; rfl
   repeat' (first | with_reducible refine And.intro ?_ ?_ | simp only [go_sem,seval, e2, e3, hv, hAl] | simp (disch := omega) only [wrap64, cell_at] | simp (disch := first | omega | grind) only [heap_ne_, del_ne] | (intro hx_; try simp only [set_none] at hx_) | with_reducible refine bClasses_a a b ha hb _ hTB ?_ | with_reducible refine rClasses_a a b ha hb _ ?_ | with_reducible refine bAlike_a a b ha hb _ hTB ?_ | with_reducible refine rAlike_a a b ha hb _ ?_ | omega)
   refine rg_mk [b2] hbl ?_
   repeat' (first | with_reducible refine And.intro ?_ ?_ | simp only [go_sem,seval, e2, e3, m2, hv, hAl] | simp (disch := omega) only [wrap64, cell_at] | simp (disch := first | omega | grind) only [heap_ne_, del_ne] | (intro hx_; try simp only [set_none] at hx_) | with_reducible refine callF0 rfl (fun Q hq => intsZ_a _ hq) ?_ | with_reducible refine callF0 rfl (fun Q hq => bvalid_a a ha _ hq) ?_ | with_reducible refine callF0 rfl (fun Q hq => rvalid_a a ha _ hq) ?_ | with_reducible refine callF0 rfl (fun Q hq => awake_a _ hTr hq) ?_ | omega)
   exact Fin.less hle h
  | true =>
   have hAl : alikeR a b = .tuple [.bool (alikeV a b), .int .i64 0] := by unfold alikeR; rw [hv]; rfl
   have na := validY_n (by rw [Bool.and_eq_true] at hv; exact hv.1)
   have nb := validY_n (by rw [Bool.and_eq_true] at hv; exact hv.2)
   have lA := clA_length a b
   have lB := clB_length a b
   repeat' (first | with_reducible refine And.intro ?_ ?_ | simp only [go_sem,seval, e2, e3, hv, hAl] | simp (disch := omega) only [wrap64, cell_at] | simp (disch := first | omega | grind) only [heap_ne_, del_ne] | (intro hx_; try simp only [set_none] at hx_) | with_reducible refine bClasses_a a b ha hb _ hTB ?_ | with_reducible refine rClasses_a a b ha hb _ ?_ | with_reducible refine bAlike_a a b ha hb _ hTB ?_ | with_reducible refine rAlike_a a b ha hb _ ?_ | omega)
   refine rg_mk [b2] hbl ?_
   repeat' (first | with_reducible refine And.intro ?_ ?_ | simp only [go_sem,seval, e2, e3, m2, hv, hAl] | simp (disch := omega) only [wrap64, cell_at] | simp (disch := first | omega | grind) only [heap_ne_, del_ne] | (intro hx_; try simp only [set_none] at hx_) | with_reducible refine callF0 rfl (fun Q hq => intsN_a (clA a b) (by omega) _ hq) ?_ | with_reducible refine callF0 rfl (fun Q hq => intsN_a (clB a b) (by omega) _ hq) ?_ | with_reducible refine callF0 rfl (fun Q hq => bvalid_a a ha _ hq) ?_ | with_reducible refine callF0 rfl (fun Q hq => rvalid_a a ha _ hq) ?_ | with_reducible refine callF0 rfl (fun Q hq => awake_a _ hTr hq) ?_ | omega)
   exact Fin.less hle h
end Go.Proofs.YtmohcdihdhggoaaGreatDoor
end
section
set_option maxRecDepth 100000
namespace Go.Proofs.YtmohcdihdhggoaaGreatDoor.bisimClasses
open Go Go.Av Go.Lexs Go.Bis Go.ChangeShapes Go.WideShapes Go.RowKit
theorem lifted (os : Os) (started : os.Started) (H : Type) (enc : TypeId × Value → H) (F : Stop.Interp) :
  ReturnsInHanded { calm := true } Tryz.checked os 3 .any (fun w args => (Rows.bisimClassesSpec.pre enc Tryz.prog Tryz.f3 Rows.bisimClassesRow.domain false w args ∧ laidMetH Tryz.prog Rows.bisimClassesRow.laid w) ∧ sizedMet enc Tryz.prog Tryz.f3 (OpenSpec.ofChange Rows.bisimClassesSpec) false w args)
   ((OpenSpec.ofChange Rows.bisimClassesSpec).postWith enc Tryz.prog Tryz.f3 F (outsideKept [.timePasses]) false true false) := by
 refine Go.Clock.returns_of_change (C := Tryz.checked) (X := fun w _ => laidMetH Tryz.prog Rows.bisimClassesRow.laid w) (fun _ _ _ hh h => h.of_heap hh) own started (by kernel_rfl) Tryz.func3
  (Go.Clock.witness_at (enc := enc) (C := Tryz.checked) (X := fun w _ => laidMetH Tryz.prog Rows.bisimClassesRow.laid w) (World.laidAll Tryz.prog os Rows.bisimClassesRow.laid) #[.agg #[.slice none 0 0, .slice none 0 0, .slice none 0 0], .agg #[.slice none 0 0, .slice none 0 0, .slice none 0 0]] 8 (World.laidAll_os _ _ _)
   (World.shaped_of_ZipB (by kernel_rfl) (by kernel_rfl)) (by kernel_rfl) (by kernel_rfl) (by kernel_rfl)
   (by rw [MakeChecks.laidMetH_plain _ _ _ (by kernel_rfl)]; exact laidMet_laidAll _ (by kernel_rfl) (by kernel_rfl))) ?_
 intro W base args ds gs before hval hW _ hsz hL _
 rw [MakeChecks.laidMetH_plain _ _ _ (by kernel_rfl)] at hL
 have hS := tabs_sat hL (by simp [Rows.bisimClassesRow]) (by simp [Rows.bisimClassesRow]) (by simp [Rows.bisimClassesRow]) (by simp [Rows.bisimClassesRow]) (by simp [Rows.bisimClassesRow]) (by simp [Rows.bisimClassesRow]) (by simp [Rows.bisimClassesRow])
 have hW' := hW
 obtain ⟨p, q, hA0, hV, _, _, _⟩ := hW
 rw [Tryz.params3] at hA0 hval hsz
 obtain ⟨v0, v1, d0, d1, p0, p1, rfl, rfl, rfl, h0, h1⟩ := trodAll_two hA0
 obtain ⟨rfl, rfl⟩ := trodVars_none hV
 obtain ⟨x0, k0, r0⟩ := arg_fits plain28 tabs_held (by simp) (hval 0 _ _ rfl rfl) h0 (weightsEach_at hsz 0 _ _ rfl rfl)
 obtain ⟨x1, k1, r1⟩ := arg_fits plain28 tabs_held (by simp) (hval 1 _ _ rfl rfl) h1 (weightsEach_at hsz 1 _ _ rfl rfl)
 obtain ⟨a, rfl, fa⟩ := fits_sy k0
 obtain ⟨b, rfl, fb⟩ := fits_sy k1
 have hre : reachBytes = 140737488351232 := rfl
 refine law_callsT laidOut (by kernel_rfl) rfl (tb := 4) (by kernel_rfl) (by kernel_rfl) rfl hW' tabs tabs_held hS [.agg (syC a), .agg (syC b)] rfl (fun i d hd => ?_) (fun Q hQ => lawClasses_a a b fa fb _ tabs_tabs hQ)
 match i, hd with
 | 0, hd => simp at hd; subst hd; exact r0
 | 1, hd => simp at hd; subst hd; exact r1
 | i + 2, hd => simp at hd
theorem said : Rows.BisimClassesSaid :=
 Go.Clock.holds_of_wide_time 3 Tryz.f3 rfl rfl rfl rfl rfl rfl rfl ⟨rfl, rfl, rfl, rfl, rfl⟩ rfl rfl rfl rfl rfl (by kernel_rfl) Tryz.func3 (by kernel_rfl)
  (of_decide_eq_true (by kernel_rfl)) (by unfold Func.isWrapper; first | (rw [if_pos (by decide +kernel)]; kernel_rfl) | (rw [if_neg (by decide +kernel)]; exact ⟨rfl, rfl⟩))
  (fun os started H enc _ F => lifted os started H enc F)
theorem plain (f : FuncId) (fn : Func) (hf : Tryz.pinned.checked.prog.funcNamed "voussoir/voussoirlaw28.BisimClasses" = some f) (hfn : Tryz.pinned.checked.prog.funcs[f]? = some fn) :
  false = Tryz.pinned.checked.prog.looks [] ∧ ∀ (j : Nat) t, fn.params[j]? = some t → Tryz.pinned.checked.prog.wantsStandIn t = false := by
 obtain rfl : f = 3 := Option.some.inj ((show Tryz.prog.funcNamed "voussoir/voussoirlaw28.BisimClasses" = some 3 by kernel_rfl).symm.trans hf) |>.symm
 obtain rfl : fn = Tryz.f3 := (Option.some.inj (Tryz.func3.symm.trans hfn)).symm
 refine ⟨by kernel_rfl, fun j t ht => ?_⟩
 have hall : ((Tryz.f3.params.toList).all fun u => !Tryz.prog.wantsStandIn u) = true := by kernel_rfl
 have := List.all_eq_true.1 hall t (by rw [Array.mem_toList_iff]; exact Array.mem_of_getElem? ht)
 exact (by simpa using this : Tryz.prog.wantsStandIn t = false)
theorem card : Rows.BisimClassesCardSaid :=
 Claim7.holds_tied_plain_at .later [] _ _ _ _ said (fun _ h => by cases h) (by kernel_rfl) (fun _ h => by cases h) bisimClasses_row_tie rfl ⟨rfl, rfl⟩ (by kernel_rfl) rfl plain (by kernel_rfl)
end Go.Proofs.YtmohcdihdhggoaaGreatDoor.bisimClasses
namespace Go.Proofs.YtmohcdihdhggoaaGreatDoor
theorem bisimClasses_holds : Rows.BisimClassesCardSaid := bisimClasses.card
end Go.Proofs.YtmohcdihdhggoaaGreatDoor
end
