/- Av: operations by class (those that look at nothing but their operands; those that load; the others), and regions in whatever order. -/
import Derived.WalkKit
namespace Go.Av

inductive Cls where
  | pure | load | eff
  deriving DecidableEq

def cls (P : Program) : Op → Cls
  | .move _ | .assign _ | .pick .. | .build .. | .nilCheck _ | .binOp .. | .unOp .. | .fieldAddr .. | .field .. | .indexAddr .. | .index .. | .slice .. | .extract .. | .makeInterface .. | .makeFunc .. => .pure
  | .convert s d _ => match P.underlying s, P.underlying d with
    | some (.int _), some (.int _) => .pure
    | some .string, some .string => .pure
    | _, _ => .eff
  | .call c => match c.callee with
    | .builtin .len | .builtin .cap | .builtin .min | .builtin .max => .pure
    | _ => .eff
  | .load .. => .load
  | _ => .eff

def effPost (P : Program) (next : Value → World → Prop) : Result Next → Prop
  | .ok (.value v) w' => next v w'
  | .ok .skip w' => next undef w'
  | .ok (.enter f args) w' => Calls P f args w' fun e w'' => ∃ v, e = .returned v ∧ next v w''
  | _ => False

/-- Blocks that nobody of a region writes: what is read of them may be read early or late. ('none': no such thing is asked.) -/
def Keep (F : Option (Bool × List Nat)) (w w' : World) : Prop := match F with
  | none => w' = w
  | some (_, l) => ∀ k ∈ l, w'.heap[k]? = w.heap[k]?
def isStore : Op → Bool
  | .store .. => true
  | _ => false
def Frame (F : Option (Bool × List Nat)) (o : Op) (w w' : World) : Prop := match F with
  | none => True
  | some (sx, l) => (sx = false ∧ isStore o = true) ∨ ∀ k ∈ l, w'.heap[k]? = w.heap[k]?

theorem Keep.refl (F : Option (Bool × List Nat)) (w : World) : Keep F w w := by
  unfold Keep; split
  · rfl
  · exact fun _ _ => rfl
theorem Keep.trans {F : Option (Bool × List Nat)} {a b c : World} (h : Keep F a b) (k : Keep F b c) : Keep F a c := by
  unfold Keep at *; split
  · simp only at h k; rw [k, h]
  · simp only at h k; exact fun i hi => (k i hi).trans (h i hi)

def opSem (P : Program) (F : Option (Bool × List Nat)) (o : Oper) (a : Act) (w : World) (next : Value → World → Prop) : Prop :=
  match cls P o.op with
  | .pure => ∃ v, (∀ w', (execOp a.eval o).run P w' = .ok (.value v) w') ∧ next v w
  | .load => ∃ v, (∀ w', Keep F w w' → (execOp a.eval o).run P w' = .ok (.value v) w') ∧ next v w
  | .eff => effPost P (fun v w' => Frame F o.op w w' ∧ next v w') ((execOp a.eval o).run P w)

theorem effPost.mono {P : Program} {next next' : Value → World → Prop} {r : Result Next} (h : effPost P next r) (hn : ∀ v w, next v w → next' v w) : effPost P next' r := by
  unfold effPost at *
  split at h <;> try exact h.elim
  · exact hn _ _ h
  · exact hn _ _ h
  · exact h.mono fun e w'' ⟨v, he, hv⟩ => ⟨v, he, hn _ _ hv⟩

theorem opSem.mono {P : Program} {F : Option (Bool × List Nat)} {o : Oper} {a : Act} {w : World} {next next' : Value → World → Prop} (h : opSem P F o a w next) (hn : ∀ v w, next v w → next' v w) : opSem P F o a w next' := by
  unfold opSem at *
  split at h
  · obtain ⟨v, hr, hv⟩ := h; exact ⟨v, hr, hn _ _ hv⟩
  · obtain ⟨v, hr, hv⟩ := h; exact ⟨v, hr, hn _ _ hv⟩
  · exact h.mono fun v w' hh => ⟨hh.1, hn _ _ hh.2⟩

theorem opSem.wp {P : Program} {F : Option (Bool × List Nat)} {o : Oper} {a : Act} {w : World} {K : Act → World → Prop} {Q : Exit → Act → World → Prop}
    (h : opSem P F o a w fun v w' => K (a.put o.dst v) w') : o.wp P a w K Q := by
  unfold Oper.wp
  unfold opSem at h
  split at h
  · obtain ⟨v, hr, hv⟩ := h; rw [hr w]; exact hv
  · obtain ⟨v, hr, hv⟩ := h; rw [hr w (Keep.refl F w)]; exact hv
  · unfold effPost at h
    split at h <;> try exact h.elim
    · rename_i hr; rw [hr]; exact h.2
    · rename_i hr; rw [hr]; exact h.2
    · rename_i hr; rw [hr]
      refine h.mono fun e w'' ⟨v, he, _, hv⟩ => ?_
      subst he
      exact hv

/-- A list of operations, one behind the other. -/
def wpA (P : Program) (F : Option (Bool × List Nat)) (ops : Array Oper) (K : Act → World → Prop) : List Oper → Act → World → Prop
  | [], a, w => K a w
  | o :: l, a, w =>
    if Region.wanted o (yielded ops a.tmps) then opSem P F o a w fun v w' => wpA P F ops K l (a.put o.dst v) w' else wpA P F ops K l (a.put o.dst undef) w

/-- As 'wpA', by numbers. -/
def wpI (P : Program) (F : Option (Bool × List Nat)) (ops : Array Oper) (K : Act → World → Prop) : List Nat → Act → World → Prop
  | [], a, w => K a w
  | i :: l, a, w => match ops[i]? with
    | none => wpI P F ops K l a w
    | some o => if Region.wanted o (yielded ops a.tmps) then opSem P F o a w fun v w' => wpI P F ops K l (a.put o.dst v) w' else wpI P F ops K l (a.put o.dst undef) w

theorem wpI_wpOps {P : Program} {F : Option (Bool × List Nat)} {ops : Array Oper} {K : Act → World → Prop} {Q : Exit → Act → World → Prop} (hQ : ∀ a w, K a w → Q .normal a w) :
    ∀ (l : List Nat) (a : Act) (w : World), wpI P F ops K l a w → wpOps P ops Q l a w := by
  intro l
  induction l with
  | nil => exact fun a w h => hQ a w h
  | cons i l ih =>
    intro a w h
    unfold wpI at h
    unfold wpOps
    split at h
    · rename_i hn; simp only [hn]; exact ih _ _ h
    · rename_i o ho
      simp only [ho]
      split at h
      · rename_i hw
        rw [if_pos hw]
        exact .inl (opSem.wp (h.mono fun v w' hv => ih _ _ hv))
      · rename_i hw
        rw [if_neg hw]
        exact ih _ _ h

theorem wpA_wpI {P : Program} {F : Option (Bool × List Nat)} {ops : Array Oper} {K : Act → World → Prop} : ∀ (l : List Oper) (k : Nat), (∀ j, l[j]? = ops[k + j]?) →
    wpA P F ops K l = wpI P F ops K (List.range' k l.length) := by
  intro l
  induction l with
  | nil => intro k _; funext a w; simp [wpA, wpI]
  | cons o l ih =>
    intro k h
    have h0 : ops[k]? = some o := by simpa using (h 0).symm
    have ih' := ih (k + 1) (fun j => by have := h (j + 1); simpa [Nat.add_assoc, Nat.add_comm 1 j] using this)
    funext a w
    simp only [List.length_cons, List.range'_succ, wpA, wpI, h0, ih']

theorem wpA_all {P : Program} {F : Option (Bool × List Nat)} {ops : Array Oper} {K : Act → World → Prop} : wpA P F ops K ops.toList = wpI P F ops K (List.range ops.size) := by
  rw [wpA_wpI ops.toList 0 (by simp), List.range_eq_range', Array.length_toList]

theorem wpA_region {P : Program} {F : Option (Bool × List Nat)} {id : Nat} {ops : Array Oper} {K : Act → World → Prop} {Q : Exit → Act → World → Prop} {a : Act} {w : World}
    (hQ : ∀ a w, K a w → Q .normal a w) (h : wpA P F ops K ops.toList a w) : (Code.region id ops false).wp P Q a w := by
  rw [wpA_all] at h
  exact wp_region (wpI_wpOps hQ _ _ _ h)

end Go.Av
