/- Av: a slice that is made by appending: nil at first. No program is in sight. -/
import Derived.Test.YtlbojoghnapbfaaDoorAvSimp
set_option linter.unusedVariables false
set_option linter.unusedSimpArgs false
namespace Go.Av

/-- A slice of 'n' elements in a block, or none yet. -/
def outG (sz n : Nat) : Option Nat → D
  | none => .nilsl
  | some c => .vec c sz 0 n
def delB (H : Heap) : Option Nat → Heap
  | none => H
  | some c => H.del c
def putB (H : Heap) (sz : Nat) (es : List (List D)) : Option Nat → Heap
  | none => H
  | some c => H.set c (.vec sz es)
/-- It holds 'es'. -/
def OutAt (H : Heap) (sz : Nat) (es : List (List D)) : Option Nat → Prop
  | none => es = []
  | some c => H c = some (.vec sz es)
/-- Its block is none of those of 'H' (but for 'l'). -/
def OutNew (H : Heap) (es : List (List D)) : Option Nat → Prop
  | none => es = []
  | some c => H c = none

theorem set_del {H : Heap} {b : Nat} {o : Obj} (h : H b = none) : (H.set b o).del b = H := by
  funext k
  unfold Heap.del Heap.set
  by_cases hk : k = b
  · subst hk; simp [h]
  · simp [hk]
theorem delB_le (H : Heap) (ob : Option Nat) : (delB H ob).Le H := by
  cases ob with
  | none => exact Heap.Le.refl H
  | some c => exact Heap.del_le H c

@[go_sem] theorem cells_out (sz n : Nat) (ob : Option Nat) : (outG sz n ob).cells = [outG sz n ob] := by cases ob <;> rfl
@[go_sem] theorem one_out (sz n : Nat) (ob : Option Nat) : (outG sz n ob).one = true := by cases ob <;> rfl
@[go_sem] theorem out_none (sz n : Nat) : outG sz n none = .nilsl := rfl
@[go_sem] theorem out_some (sz n c : Nat) : outG sz n (some c) = .vec c sz 0 n := rfl

theorem len_out {P : Program} {t sz n : Nat} {ob : Option Nat} (h : ob = none → n = 0) : lenD P t (outG sz n ob) = if baseT P t = .slice then some (.int .i64 n) else none := by
  cases ob with
  | none => rw [h rfl]; rfl
  | some c => rfl

section
variable {P : Program} {H : Heap} {KD : D → Heap → Prop}
theorem apS_out {sz by_ n : Nat} {ob : Option Nat} (es : List (List D)) {xs : List (List D)} (hne : xs ≠ []) (hn : n = es.length) (hc : OutAt H sz es ob) (h1 : (n + xs.length) * by_ ≤ 140737488355328) (h2 : n + xs.length ≤ 9223372036854775807)
    (h : ∀ b', delB H ob b' = none → KD (.vec b' sz 0 (n + xs.length)) ((delB H ob).set b' (.vec sz (es ++ xs)))) : apS (outG sz n ob) sz by_ xs H KD := by
  cases ob with
  | none =>
    have e : es = [] := hc
    subst e
    subst hn
    simp only [List.length_nil, Nat.zero_add, List.nil_append, delB] at h1 h2 h
    exact ⟨h1, h2, fun e => absurd e hne, fun _ b hb => h b hb⟩
  | some c =>
    have e : H c = some (.vec sz es) := hc
    subst hn
    refine ⟨rfl, rfl, ?_⟩
    rw [e]
    refine ⟨rfl, Nat.le_refl _, h1, h2, fun b hb => ?_⟩
    rw [List.take_of_length_le (Nat.le_refl _)]
    exact h b hb

/-- A slice that is made is handed on, and written no more: it is its elements. -/
theorem ACalls.out {f n : Nat} {sz : Nat} {es : List (List D)} {ob : Option Nat} {ds : List D} {Q : D → Heap → Prop} (hn : n = es.length) (hc : OutAt H sz es ob) (h : ACalls P f (.sl sz es :: ds) (delB H ob) Q) : ACalls P f (outG sz n ob :: ds) H Q := by
  subst hn
  cases ob with
  | none =>
    have e : es = [] := hc
    subst e
    refine ACalls.shift (args' := .sl sz [] :: ds) (fun w vs h1 h2 h3 => ⟨by simpa using h1, fun i d hd => ?_, h3, fun _ hn => hn⟩) h
    cases i with
    | zero => simp at hd; subst hd; exact (h2 0 _ rfl).nil_sl sz
    | succ i => exact h2 (i + 1) d (by simpa using hd)
  | some c =>
    refine ACalls.freeze (args' := .sl sz es :: ds) hc (by simp) (fun i d d' h1 h2 => ?_) h
    cases i with
    | zero => simp [outG] at h1 h2; subst h1; subst h2; exact .all
    | succ i => simp at h1 h2; rw [h1] at h2; cases h2; exact .same _

/-- A slice that was made, as an argument: it is written no more. -/
theorem ACalls.vec1 {f b n sz : Nat} {es : List (List D)} {ds : List D} {Q : D → Heap → Prop} (hb : H b = some (.vec sz es)) (hn : n = es.length) (h : ACalls P f (.sl sz es :: ds) (H.del b) Q) : ACalls P f (.vec b sz 0 n :: ds) H Q :=
  ACalls.out (ob := some b) hn hb h
theorem ACalls.vec2 {f b n sz : Nat} {es : List (List D)} {a : D} {ds : List D} {Q : D → Heap → Prop} (hb : H b = some (.vec sz es)) (hn : n = es.length) (h : ACalls P f (a :: .sl sz es :: ds) (H.del b) Q) : ACalls P f (a :: .vec b sz 0 n :: ds) H Q := by
  subst hn
  refine ACalls.freeze (args' := a :: .sl sz es :: ds) hb (by simp) (fun i d d' h1 h2 => ?_) h
  match i with
  | 0 => simp at h1 h2; subst h1; subst h2; exact .same _
  | 1 => simp at h1 h2; subst h1; subst h2; exact .all
  | i + 2 => simp at h1 h2; rw [h1] at h2; cases h2; exact .same _

theorem ACalls.out2 {f n sz : Nat} {es : List (List D)} {ob : Option Nat} {a : D} {ds : List D} {Q : D → Heap → Prop} (hn : n = es.length) (hc : OutAt H sz es ob) (h : ACalls P f (a :: .sl sz es :: ds) (delB H ob) Q) : ACalls P f (a :: outG sz n ob :: ds) H Q := by
  subst hn
  cases ob with
  | none =>
    have e : es = [] := hc
    subst e
    refine ACalls.shift (args' := a :: .sl sz [] :: ds) (fun w vs h1 h2 h3 => ⟨by simpa using h1, fun i d hd => ?_, h3, fun _ hn => hn⟩) h
    match i with
    | 0 => exact h2 0 d (by simpa using hd)
    | 1 => simp at hd; subst hd; exact (h2 1 _ rfl).nil_sl sz
    | i + 2 => exact h2 (i + 2) d (by simpa using hd)
  | some c => exact ACalls.vec2 hc rfl h

theorem Fin.out {n sz : Nat} {es : List (List D)} {ob : Option Nat} {Q : D → Heap → Prop} (hn : n = es.length) (hc : OutAt H sz es ob) (h : Fin Q (.sl sz es) (delB H ob)) : Fin Q (outG sz n ob) H := by
  subst hn
  cases ob with
  | none =>
    have e : es = [] := hc
    subst e
    unfold Fin at h ⊢
    obtain ⟨H1, e, h1, h2⟩ := h
    exact ⟨H1, e, Shift.trans (fun w v hr hs => ⟨by cases hr; exact .sl0 _ _ _, hs, fun _ hn => hn⟩) h1, h2⟩
  | some c => exact Fin.freeze hc .all h

/-- The same, where it comes with others behind it. -/
theorem Fin.out1 {n sz : Nat} {es : List (List D)} {ob : Option Nat} {ds : List D} {Q : D → Heap → Prop} (hn : n = es.length) (hc : OutAt H sz es ob) (h : Fin Q (.tuple (.sl sz es :: ds)) (delB H ob)) : Fin Q (.tuple (outG sz n ob :: ds)) H := by
  cases ob with
  | none =>
    have e : es = [] := hc
    subst e
    exact Fin.nilsl sz ds h
  | some c => exact Fin.slice1 hc hn h
end

theorem outAt_put {H : Heap} {sz : Nat} {es : List (List D)} {ob : Option Nat} (h : ob = none → es = []) : OutAt (putB H sz es ob) sz es ob := by
  cases ob with
  | none => exact h rfl
  | some c => simp [OutAt, putB, Heap.set]
end Go.Av
