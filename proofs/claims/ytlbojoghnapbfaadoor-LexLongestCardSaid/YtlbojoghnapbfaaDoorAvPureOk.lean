/- Av: the pure operations, in every world: proofs. -/
import Derived.Test.YtlbojoghnapbfaaDoorAvPure
namespace Go.Av
section
variable {P : Program}

/-- It comes to 'v' in whatever world, and turns nothing. -/
def Runs {α : Type} (P : Program) (s : Sem α) (v : α) : Prop := ∀ w, s.run P w = .ok v w

theorem Runs.pure {α : Type} (v : α) : Runs P (Pure.pure v : Sem α) v := fun _ => rfl
theorem Runs.bind {α β : Type} {s : Sem α} {f : α → Sem β} {v : α} {u : β} (h : Runs P s v) (k : Runs P (f v) u) : Runs P (s >>= f) u := fun w => by
  rw [Sem.run_bind, h w]; exact k w
theorem runs_underlying {t : TypeId} {d : TypeDesc} (h : P.underlying t = some d) : Runs P (underlying t) d := fun w => run_underlying h w
theorem runs_program : Runs P program P := fun _ => rfl
theorem runs_typeInfo {t : TypeId} {i : TypeInfo} (h : P.info? t = some i) : Runs P (typeInfo t) i := fun w => by
  unfold typeInfo
  rw [Sem.run_bind]
  simp [program, Sem.run, Result.andThen, h]
theorem runs_sizeOf {t : TypeId} {i : TypeInfo} (h : P.info? t = some i) : Runs P (sizeOf t) i.size := (runs_typeInfo h).bind (.pure _)
theorem runs_isAgg {t : TypeId} {b : Bool} {n : Nat} (h : shapeT P t = some (b, n)) : Runs P (isAgg t) b ∧ Runs P (sizeOf t) n := by
  unfold shapeT at h
  split at h
  · rename_i hu hi; cases h; exact ⟨(runs_underlying hu).bind (.pure _), runs_sizeOf hi⟩
  · rename_i hu hi; cases h; exact ⟨(runs_underlying hu).bind (.pure _), runs_sizeOf hi⟩
  · rename_i d i h1 h2 hu hi
    cases h
    refine ⟨(runs_underlying hu).bind ?_, runs_sizeOf hi⟩
    cases d <;> first | exact .pure _ | exact absurd rfl (h1 _) | exact absurd rfl (h2 _ _)
  · cases h
theorem runs_zero {t : TypeId} {z : List D} (h : zeroD P t = some z) : ∃ v, Runs P (zeroValue t) v ∧ z = v.cells.toList.map D.ofCell ∧ z.all D.one = true := by
  unfold zeroD at h
  obtain ⟨v, hv, h⟩ := Option.bind_eq_some_iff.1 h
  obtain ⟨i, hi, hz⟩ := Option.bind_eq_some_iff.1 hv
  split at h
  · rename_i hall
    cases h
    refine ⟨v, ?_, rfl, hall⟩
    unfold zeroValue
    refine (runs_typeInfo hi).bind ?_
    rw [hz]
    exact .pure _
  · cases h

/-! ### What a value must be -/
section
variable {w : World} {H : Heap} {v : Value}
theorem R.bool_inv {b : Bool} (h : R w H (.bool b) v) : v = .bool b := by cases h; rfl
theorem R.int_inv {k : IntKind} {n : Int} (h : R w H (.int k n) v) : v = .int k n := by cases h; rfl
theorem R.str_inv {s : ByteArray} (h : R w H (.str s) v) : v = .string s := by cases h; rfl
theorem R.box_inv {b off : Nat} (h : R w H (.box b off) v) : v = .pointer (some ⟨b, off, none⟩) := by cases h; rfl
theorem R.el_inv {b sz i off : Nat} (h : R w H (.el b sz i off) v) : v = .pointer (some ⟨b, i * sz + off, none⟩) := by cases h; rfl
theorem R.ro_inv {cs : List D} (h : R w H (.ro cs) v) : ∃ b off, v = .pointer (some ⟨b, off, none⟩) := by cases h; exact ⟨_, _, rfl⟩
theorem R.agg_inv {cs : List D} (h : R w H (.agg cs) v) : ∃ vs, v = .agg vs ∧ cs.length = vs.size ∧ (∀ (i : Nat) d, cs[i]? = some d → d.one = true) ∧ ∀ (i : Nat) d, cs[i]? = some d → R w H d (vs.getD i Go.undef) := by
  cases h; exact ⟨_, rfl, by assumption, by assumption, by assumption⟩
theorem R.tuple_inv {cs : List D} (h : R w H (.tuple cs) v) : ∃ vs, v = .tuple vs ∧ cs.length = vs.size ∧ ∀ (i : Nat) d, cs[i]? = some d → R w H d (vs.getD i Go.undef) := by
  cases h; exact ⟨_, rfl, by assumption, by assumption⟩
theorem R.iface_inv {t : TypeId} {d : D} (h : R w H (.iface t d) v) : ∃ u, v = .iface t u ∧ R w H d u := by cases h; exact ⟨_, rfl, by assumption⟩

/-- A value of one cell. -/
theorem R.oneCell {d : D} (h : R w H d v) (h1 : d.one = true) : v.oneCell' = true := by cases h <;> first | rfl | (simp [D.one] at h1)

theorem R.cells {d : D} (h : R w H d v) (h1 : d.cells.all D.one = true) : d.cells.length = v.cells.size ∧ ∀ (i : Nat) c, d.cells[i]? = some c → R w H c (v.cells.getD i Go.undef) := by
  cases d with
  | agg cs =>
    obtain ⟨vs, rfl, hl, _, hr⟩ := h.agg_inv
    exact ⟨hl, hr⟩
  | _ =>
    have hone := h.oneCell (by simpa [D.cells] using h1)
    have hc : v.cells = #[v] := by cases v <;> first | rfl | (simp [Value.oneCell'] at hone)
    rw [hc]
    refine ⟨by simp [D.cells], fun i c hc => ?_⟩
    simp only [D.cells] at hc
    cases i with
    | zero => simp at hc; subst hc; simpa using h
    | succ i => simp at hc
end

theorem runs_v {s : Sem Value} {v : Value} (h : Runs P s v) : Runs P (do pure (Next.value (← s))) (Next.value v) := h.bind (.pure _)

theorem beq_str (x y : ByteArray) : (x.toList == y.toList) = (x.data.toList == y.data.toList) := by
  rw [ByteArray.toList_eq, ByteArray.toList_eq]

theorem runs_intD {op : BinOp} {k : IntKind} {a b : Int} {d : D} (h : intD op k a b = some d) (h1 : op ≠ .shl) (h2 : op ≠ .shr) (t : TypeId) :
    ∃ v, Runs P (binOp op t (.int k a) (.int k b)) v ∧ ∀ w H, R w H d v := by
  have key : ∀ {d' : D} {v : Value}, some d' = some d → Runs P (binOp op t (.int k a) (.int k b)) v → (∀ w H, R w H d' v) → ∃ v, Runs P (binOp op t (.int k a) (.int k b)) v ∧ ∀ w H, R w H d v :=
    fun he hr hR => by cases he; exact ⟨_, hr, hR⟩
  cases op <;> simp only [intD] at h
  case shl => exact absurd rfl h1
  case shr => exact absurd rfl h2
  case add => exact key (v := .int k (k.wrap (a + b))) h (fun w => by simp [binOp, Op.intArith]) fun _ _ => .int _ _
  case sub => exact key (v := .int k (k.wrap (a - b))) h (fun w => by simp [binOp, Op.intArith]) fun _ _ => .int _ _
  case mul => exact key (v := .int k (k.wrap (a * b))) h (fun w => by simp [binOp, Op.intArith]) fun _ _ => .int _ _
  case quo => split at h; (· cases h); rename_i hb; exact key (v := .int k (k.wrap (a.tdiv b))) h (fun w => by simp [binOp, Op.intDiv, hb]) fun _ _ => .int _ _
  case rem => split at h; (· cases h); rename_i hb; exact key (v := .int k (a.tmod b)) h (fun w => by simp [binOp, Op.intDiv, hb]) fun _ _ => .int _ _
  case and => exact key h (fun w => by simp only [binOp, Op.intBits, ne_eq, not_true_eq_false, if_false]; rfl) fun _ _ => .int _ _
  case or => exact key h (fun w => by simp only [binOp, Op.intBits, ne_eq, not_true_eq_false, if_false]; rfl) fun _ _ => .int _ _
  case xor => exact key h (fun w => by simp only [binOp, Op.intBits, ne_eq, not_true_eq_false, if_false]; rfl) fun _ _ => .int _ _
  case andNot => exact key h (fun w => by simp only [binOp, Op.intBits, ne_eq, not_true_eq_false, if_false]; rfl) fun _ _ => .int _ _
  case eql => exact key (v := .bool (a == b)) h (fun w => by simp [binOp, Op.intCmp]) fun _ _ => .bool _
  case neq => exact key (v := .bool (a != b)) h (fun w => by simp [binOp, Op.intCmp]) fun _ _ => .bool _
  case lss => exact key (v := .bool (decide (a < b))) h (fun w => by simp [binOp, Op.intCmp]) fun _ _ => .bool _
  case leq => exact key (v := .bool (decide (a ≤ b))) h (fun w => by simp [binOp, Op.intCmp]) fun _ _ => .bool _
  case gtr => exact key (v := .bool (decide (b < a))) h (fun w => by simp [binOp, Op.intCmp]) fun _ _ => .bool _
  case geq => exact key (v := .bool (decide (b ≤ a))) h (fun w => by simp [binOp, Op.intCmp]) fun _ _ => .bool _
  all_goals cases h

theorem runs_strD {op : BinOp} {x y : ByteArray} {d : D} (h : strD op x y = some d) (t : TypeId) :
    ∃ v, Runs P (binOp op t (.string x) (.string y)) v ∧ ∀ w H, R w H d v := by
  cases op <;> simp only [strD] at h <;> first
    | (split at h
       · rename_i hs
         cases h
         refine ⟨.string (x ++ y), fun w => ?_, fun _ _ => .str _⟩
         have : ¬ (((x.size + y.size : Nat) : Int) > IntKind.i64.max) := by
           have hm : IntKind.i64.max = 9223372036854775807 := by decide
           rw [hm]; omega
         simp only [binOp, Op.stringOp, if_neg this]; rfl
       · cases h)
    | (cases h; refine ⟨_, fun w => ?_, fun _ _ => .bool _⟩; simp only [binOp, Op.stringOp, ByteArray.toList_eq]; rfl)
    | cases h

end
end Go.Av
