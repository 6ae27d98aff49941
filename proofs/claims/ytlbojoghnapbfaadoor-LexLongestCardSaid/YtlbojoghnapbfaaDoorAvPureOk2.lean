/- Av: the pure operations, in every world: proofs, on. -/
import Derived.Test.YtlbojoghnapbfaaDoorAvPureOk
namespace Go.Av
section
variable {P : Program}

theorem base_bool {t : TypeId} (h : baseT P t = .bool) : P.underlying t = some .bool := by unfold baseT at h; split at h <;> first | assumption | cases h
theorem base_str {t : TypeId} (h : baseT P t = .str) : P.underlying t = some .string := by unfold baseT at h; split at h <;> first | assumption | cases h
theorem base_ptr {t : TypeId} (h : baseT P t = .ptr) : ∃ e, P.underlying t = some (.pointer e) := by unfold baseT at h; split at h <;> first | exact ⟨_, by assumption⟩ | cases h
theorem base_slice {t : TypeId} (h : baseT P t = .slice) : ∃ e, P.underlying t = some (.slice e) := by unfold baseT at h; split at h <;> first | exact ⟨_, by assumption⟩ | cases h
theorem base_iface {t : TypeId} (h : baseT P t = .iface) : ∃ e, P.underlying t = some (.interface e) := by unfold baseT at h; split at h <;> first | exact ⟨_, by assumption⟩ | cases h
theorem base_func {t : TypeId} (h : baseT P t = .func) : ∃ a b c, P.underlying t = some (.func a b c) := by unfold baseT at h; split at h <;> first | exact ⟨_, _, _, by assumption⟩ | cases h
theorem base_struct {t : TypeId} (h : baseT P t = .struct) : ∃ e, P.underlying t = some (.struct e) := by unfold baseT at h; split at h <;> first | exact ⟨_, by assumption⟩ | cases h
theorem elem_inv {t : TypeId} {x : Nat × Nat × Nat} (h : elemT P t = some x) : P.underlying t = some (.slice x.1) ∧ ∃ i, P.info? x.1 = some i ∧ i.size = x.2.1 ∧ i.bytes = x.2.2 := by
  unfold elemT at h
  split at h
  · rename_i e hu
    obtain ⟨i, hi, rfl⟩ := Option.map_eq_some_iff.1 h
    exact ⟨hu, i, hi, rfl, rfl⟩
  · cases h

def IsNil (b : Base) (c : Bool) (v : Value) : Prop := match b, c with
  | .ptr, true => v = .pointer none
  | .ptr, false => ∃ a, v = .pointer (some a)
  | .slice, true => v = .slice none 0 0
  | .slice, false => ∃ a n k, v = .slice (some a) n k
  | .func, true => v = .nilFunc
  | .func, false => ∃ f a b, v = .func f a b
  | .iface, true => v = .nilIface
  | .iface, false => ∃ t u, v = .iface t u
  | _, _ => False

theorem nilD_inv {b : Base} {d : D} {c : Bool} (h : nilD b d = some c) {w : World} {H : Heap} {v : Value} (hr : R w H d v) : IsNil b c v := by
  cases d <;> simp only [nilD] at h <;> first
    | cases h
    | (split at h
       · rename_i hb; subst hb; cases h; cases hr <;> first | rfl | exact ⟨_, rfl⟩ | exact ⟨_, _, rfl⟩ | exact ⟨_, _, _, rfl⟩
       · cases h)

theorem runs_equal_nil {t : TypeId} {x y : Value} {c : Bool} (hx : IsNil (baseT P t) true x) (hy : IsNil (baseT P t) c y) : Runs P (Op.equal t x y) c ∧ Runs P (Op.equal t y x) c := by
  have hd : Op.maxDepth = 9999 + 1 := rfl
  cases hb : baseT P t <;> rw [hb] at hx hy <;> first | (exfalso; simp only [IsNil] at hx; done) | skip
  case ptr =>
    obtain ⟨e, hu⟩ := base_ptr hb
    cases c
    · obtain ⟨a, rfl⟩ := hy
      simp only [IsNil] at hx; subst hx
      unfold Op.equal; rw [hd]
      exact ⟨(runs_underlying hu).bind (.pure _), (runs_underlying hu).bind (.pure _)⟩
    · simp only [IsNil] at hx hy; subst hx; subst hy
      unfold Op.equal; rw [hd]
      exact ⟨(runs_underlying hu).bind (.pure _), (runs_underlying hu).bind (.pure _)⟩
  case slice =>
    obtain ⟨e, hu⟩ := base_slice hb
    cases c
    · obtain ⟨a, n, k, rfl⟩ := hy
      simp only [IsNil] at hx; subst hx
      unfold Op.equal; rw [hd]
      exact ⟨(runs_underlying hu).bind (.pure _), (runs_underlying hu).bind (.pure _)⟩
    · simp only [IsNil] at hx hy; subst hx; subst hy
      unfold Op.equal; rw [hd]
      exact ⟨(runs_underlying hu).bind (.pure _), (runs_underlying hu).bind (.pure _)⟩
  case func =>
    obtain ⟨_, _, _, hu⟩ := base_func hb
    cases c
    · obtain ⟨a, n, k, rfl⟩ := hy
      simp only [IsNil] at hx; subst hx
      unfold Op.equal; rw [hd]
      exact ⟨(runs_underlying hu).bind (.pure _), (runs_underlying hu).bind (.pure _)⟩
    · simp only [IsNil] at hx hy; subst hx; subst hy
      unfold Op.equal; rw [hd]
      exact ⟨(runs_underlying hu).bind (.pure _), (runs_underlying hu).bind (.pure _)⟩
  case iface =>
    obtain ⟨e, hu⟩ := base_iface hb
    cases c
    · obtain ⟨a, k, rfl⟩ := hy
      simp only [IsNil] at hx; subst hx
      unfold Op.equal; rw [hd]
      exact ⟨(runs_underlying hu).bind (.pure _), (runs_underlying hu).bind (.pure _)⟩
    · simp only [IsNil] at hx hy; subst hx; subst hy
      unfold Op.equal; rw [hd]
      exact ⟨(runs_underlying hu).bind (.pure _), (runs_underlying hu).bind (.pure _)⟩

/-- The guard of '==' lets by what is no two nil interface values, no two aggregates; or an operand is a constant. -/
theorem runs_eqGuard {op : BinOp} {t : TypeId} {x y : Operand} {a b : Value} (h : (∀ vs us, ¬ (a = .agg vs ∧ b = .agg us)) ∧ (a = .nilIface → b = .nilIface → (isConst x || isConst y) = true)) :
    Runs P (eqGuard op t x y a b) () := by
  unfold eqGuard
  cases op <;> first | exact Runs.pure _ | skip
  all_goals
    simp only [Bool.not_true, Bool.false_eq_true, if_false]
    split
    · have hcst := h.2 rfl rfl
      cases x <;> cases y <;> first | exact Runs.pure _ | (simp [isConst] at hcst; done)
    · exact absurd ⟨rfl, rfl⟩ (h.1 _ _)
    · exact .pure _

theorem IsNil.no_agg {b : Base} {c : Bool} {v : Value} (h : IsNil b c v) (vs : Array Value) : v ≠ .agg vs := by
  rintro rfl
  cases b <;> cases c <;> simp [IsNil] at h

theorem R.no_agg {w : World} {H : Heap} {d : D} {v : Value} (h : R w H d v) (h1 : d.one = true) (vs : Array Value) : v ≠ .agg vs := by
  rintro rfl
  have := h.oneCell h1
  simp [Value.oneCell'] at this

theorem runs_eql {t : TypeId} {x y : Value} {b : Bool} (h : Runs P (Op.equal t x y) b) (hx : ∀ k n, x ≠ .int k n) (hs : ∀ s, x ≠ .string s) (hf : ∀ k n, x ≠ .float k n) (hc : ∀ k n m, x ≠ .complex k n m) :
    Runs P (binOp .eql t x y) (.bool b) ∧ Runs P (binOp .neq t x y) (.bool (!b)) := by
  constructor
  · have e : binOp .eql t x y = (do pure (.bool (← Op.equal t x y))) := by
      cases x <;> first | rfl | exact absurd rfl (hx _ _) | exact absurd rfl (hs _) | exact absurd rfl (hf _ _) | exact absurd rfl (hc _ _ _)
    rw [e]; exact h.bind (.pure _)
  · have e : binOp .neq t x y = (do pure (.bool (!(← Op.equal t x y)))) := by
      cases x <;> first | rfl | exact absurd rfl (hx _ _) | exact absurd rfl (hs _) | exact absurd rfl (hf _ _) | exact absurd rfl (hc _ _ _)
    rw [e]; exact h.bind (.pure _)

theorem IsNil.plain {b : Base} {c : Bool} {v : Value} (h : IsNil b c v) : (∀ k n, v ≠ .int k n) ∧ (∀ s, v ≠ .string s) ∧ (∀ k n, v ≠ .float k n) ∧ ∀ k n m, v ≠ .complex k n m := by
  refine ⟨?_, ?_, ?_, ?_⟩ <;> (intros; rintro rfl; cases b <;> cases c <;> simp [IsNil] at h)

theorem runs_binD {op : BinOp} {t : TypeId} {x y : Operand} {dx dy d : D} (h : binD P op t (isConst x || isConst y) dx dy = some d) {w : World} {H : Heap} {a b : Value} (hx : R w H dx a) (hy : R w H dy b) :
    ∃ v, Runs P (do eqGuard op t x y a b; binOp op t a b) v ∧ R w H d v := by
  have glue : ∀ {v : Value}, Runs P (eqGuard op t x y a b) () → Runs P (binOp op t a b) v → Runs P (do eqGuard op t x y a b; binOp op t a b) v := fun h1 h2 => h1.bind h2
  unfold binD at h
  split at h
  · rename_i k m k' n
    have e1 := hx.int_inv; have e2 := hy.int_inv; subst e1; subst e2
    split at h
    · cases h
    · rename_i hb
      cases h
      refine ⟨.int k (k.wrap (m * 2 ^ (min n.toNat k.bits))), glue (runs_eqGuard ⟨by simp, by simp⟩) (fun w => ?_), .int _ _⟩
      simp [binOp, Op.shift, hb]
  · rename_i k m k' n
    have e1 := hx.int_inv; have e2 := hy.int_inv; subst e1; subst e2
    split at h
    · cases h
    · rename_i hb
      cases h
      refine ⟨.int k (m.fdiv (2 ^ (min n.toNat k.bits))), glue (runs_eqGuard ⟨by simp, by simp⟩) (fun w => ?_), .int _ _⟩
      simp [binOp, Op.shift, hb]
  · rename_i k m k' n h1 h2
    have e1 := hx.int_inv; have e2 := hy.int_inv; subst e1; subst e2
    split at h
    · rename_i hk
      subst hk
      obtain ⟨v, hv, hR⟩ := runs_intD (P := P) h h1 h2 t
      exact ⟨v, glue (runs_eqGuard ⟨by simp, by simp⟩) hv, hR _ _⟩
    · cases h
  · have e1 := hx.str_inv; have e2 := hy.str_inv; subst e1; subst e2
    obtain ⟨v, hv, hR⟩ := runs_strD (P := P) h t
    exact ⟨v, glue (runs_eqGuard ⟨by simp, by simp⟩) hv, hR _ _⟩
  · rename_i m n
    have e1 := hx.bool_inv; have e2 := hy.bool_inv; subst e1; subst e2
    split at h
    · rename_i hb
      cases h
      have hd : Op.maxDepth = 9999 + 1 := rfl
      have he : Runs P (Op.equal t (.bool m) (.bool n)) (m == n) := by unfold Op.equal; rw [hd]; exact (runs_underlying (base_bool hb)).bind (.pure _)
      exact ⟨_, glue (runs_eqGuard ⟨by simp, by simp⟩) (runs_eql he (by simp) (by simp) (by simp) (by simp)).1, .bool _⟩
    · cases h
  · rename_i m n
    have e1 := hx.bool_inv; have e2 := hy.bool_inv; subst e1; subst e2
    split at h
    · rename_i hb
      cases h
      have hd : Op.maxDepth = 9999 + 1 := rfl
      have he : Runs P (Op.equal t (.bool m) (.bool n)) (m == n) := by unfold Op.equal; rw [hd]; exact (runs_underlying (base_bool hb)).bind (.pure _)
      exact ⟨_, glue (runs_eqGuard ⟨by simp, by simp⟩) (runs_eql he (by simp) (by simp) (by simp) (by simp)).2, .bool _⟩
    · cases h
  · split at h
    · rename_i hc
      obtain ⟨c, hcc, rfl⟩ := Option.map_eq_some_iff.1 h
      unfold eqNil at hcc
      split at hcc
      · rename_i h1 h2
        cases hcc
        have i1 := nilD_inv h1 hx; have i2 := nilD_inv h2 hy
        exact ⟨_, glue (runs_eqGuard ⟨fun vs us hh => i1.no_agg vs hh.1, fun _ _ => hc⟩) (runs_eql (runs_equal_nil i1 i2).1 i1.plain.1 i1.plain.2.1 i1.plain.2.2.1 i1.plain.2.2.2).1, .bool _⟩
      · rename_i _ h1 h2
        cases hcc
        have i1 := nilD_inv h1 hx; have i2 := nilD_inv h2 hy
        exact ⟨_, glue (runs_eqGuard ⟨fun vs us hh => i1.no_agg vs hh.1, fun _ _ => hc⟩) (runs_eql (runs_equal_nil i2 i1).2 i1.plain.1 i1.plain.2.1 i1.plain.2.2.1 i1.plain.2.2.2).1, .bool _⟩
      · cases hcc
    · cases h
  · split at h
    · rename_i hc
      obtain ⟨c, hcc, rfl⟩ := Option.map_eq_some_iff.1 h
      unfold eqNil at hcc
      split at hcc
      · rename_i h1 h2
        cases hcc
        have i1 := nilD_inv h1 hx; have i2 := nilD_inv h2 hy
        exact ⟨_, glue (runs_eqGuard ⟨fun vs us hh => i1.no_agg vs hh.1, fun _ _ => hc⟩) (runs_eql (runs_equal_nil i1 i2).1 i1.plain.1 i1.plain.2.1 i1.plain.2.2.1 i1.plain.2.2.2).2, .bool _⟩
      · rename_i _ h1 h2
        cases hcc
        have i1 := nilD_inv h1 hx; have i2 := nilD_inv h2 hy
        exact ⟨_, glue (runs_eqGuard ⟨fun vs us hh => i1.no_agg vs hh.1, fun _ _ => hc⟩) (runs_eql (runs_equal_nil i2 i1).2 i1.plain.1 i1.plain.2.1 i1.plain.2.2.1 i1.plain.2.2.2).2, .bool _⟩
      · cases hcc
    · cases h
  · cases h

end
end Go.Av
