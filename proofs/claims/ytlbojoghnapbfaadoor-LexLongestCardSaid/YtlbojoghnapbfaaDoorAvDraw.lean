/- Av: a region that draws its order: one walk in the order of the text serves every order, where a check on the text says so. -/
import Derived.Test.YtlbojoghnapbfaaDoorAvSem
import Derived.Orders
namespace Go.Av
section
variable {P : Program} {F : Option (Bool × List Nat)} {ops : Array Oper} {md : Region.Mode}

def sOp (P : Program) (F : Option (Bool × List Nat)) (ops : Array Oper) (i : Nat) (K : Act → World → Prop) (a : Act) (w : World) : Prop := match ops[i]? with
  | none => K a w
  | some o => if Region.wanted o (yielded ops a.tmps) then opSem P F o a w fun v w' => K (a.put o.dst v) w' else K (a.put o.dst undef) w

theorem sOp_mono {i : Nat} {K K' : Act → World → Prop} {a : Act} {w : World} (hK : ∀ a w, K a w → K' a w) (h : sOp P F ops i K a w) : sOp P F ops i K' a w := by
  unfold sOp at *
  split
  · rename_i hn; simp only [hn] at h; exact hK _ _ h
  · rename_i o ho
    simp only [ho] at h
    split
    · rename_i hw; rw [if_pos hw] at h; exact h.mono fun v w' => hK _ _
    · rename_i hw; rw [if_neg hw] at h; exact hK _ _ h

def wpAnyS (P : Program) (F : Option (Bool × List Nat)) (md : Region.Mode) (ops : Array Oper) (K : Act → World → Prop) : Nat → Array Bool → Act → World → Prop
  | 0, listed, a, w => Region.ready md ops listed = [] ∧ K a w
  | fuel + 1, listed, a, w =>
    (Region.ready md ops listed = [] → K a w) ∧ ∀ i ∈ Region.ready md ops listed, sOp P F ops i (wpAnyS P F md ops K fuel (listed.setIfInBounds i true)) a w

theorem wpAnyS.wpAny {K : Act → World → Prop} {Q : Exit → Act → World → Prop} (hQ : ∀ a w, K a w → Q .normal a w) : ∀ (fuel : Nat) (listed : Array Bool) (a : Act) (w : World),
    wpAnyS P F md ops K fuel listed a w → Go.wpAny P md ops Q fuel listed a w
  | 0, _, _, _, h => ⟨h.1, hQ _ _ h.2⟩
  | fuel + 1, listed, a, w, h => ⟨fun h0 => hQ _ _ (h.1 h0), fun i hi => by
      have h1 := h.2 i hi
      unfold sOp at h1
      unfold Go.wpOp
      split
      · rename_i hn; simp only [hn] at h1; exact wpAnyS.wpAny hQ fuel _ _ _ h1
      · rename_i o ho
        simp only [ho] at h1
        split
        · rename_i hw; rw [if_pos hw] at h1; exact .inl (opSem.wp (h1.mono fun v w' hv => wpAnyS.wpAny hQ fuel _ _ _ hv))
        · rename_i hw; rw [if_neg hw] at h1; exact wpAnyS.wpAny hQ fuel _ _ _ h1⟩

/-- Operation 'o' leaves 'v', in state 'a' and world 'w', and turns nothing. -/
def YieldS (P : Program) (F : Option (Bool × List Nat)) (ops : Array Oper) (o : Oper) (v : Value) (a : Act) (w : World) : Prop :=
  (Region.wanted o (yielded ops a.tmps) = true ∧ cls P o.op = .pure ∧ ∀ w', (execOp a.eval o).run P w' = .ok (.value v) w') ∨
  (Region.wanted o (yielded ops a.tmps) = true ∧ cls P o.op = .load ∧ ∀ w', Keep F w w' → (execOp a.eval o).run P w' = .ok (.value v) w') ∨
  (Region.wanted o (yielded ops a.tmps) = false ∧ v = undef)

theorem YieldS.sOp {i : Nat} {o : Oper} {v : Value} {a : Act} {w : World} {K : Act → World → Prop} (hi : ops[i]? = some o) (hy : YieldS P F ops o v a w) (h : K (a.put o.dst v) w) : sOp P F ops i K a w := by
  unfold Av.sOp
  simp only [hi]
  rcases hy with ⟨h1, h2, h3⟩ | ⟨h1, h2, h3⟩ | ⟨h1, rfl⟩
  · rw [if_pos h1]; unfold opSem; rw [h2]; exact ⟨v, h3, h⟩
  · rw [if_pos h1]; unfold opSem; rw [h2]; exact ⟨v, h3, h⟩
  · rw [if_neg (by simp [h1])]; exact h

theorem yieldS_of {i : Nat} {o : Oper} {a : Act} {w : World} {K : Act → World → Prop} (hi : ops[i]? = some o) (hc : cls P o.op ≠ .eff) (h : sOp P F ops i K a w) : ∃ v, YieldS P F ops o v a w ∧ K (a.put o.dst v) w := by
  unfold Av.sOp at h
  simp only [hi] at h
  by_cases hw : Region.wanted o (yielded ops a.tmps) = true
  · rw [if_pos hw] at h
    unfold opSem at h
    split at h
    · rename_i hcl; obtain ⟨v, h1, h2⟩ := h; exact ⟨v, .inl ⟨hw, hcl, h1⟩, h2⟩
    · rename_i hcl; obtain ⟨v, h1, h2⟩ := h; exact ⟨v, .inr (.inl ⟨hw, hcl, h1⟩), h2⟩
    · rename_i hcl; exact absurd hcl hc
  · rw [if_neg hw] at h
    exact ⟨undef, .inr (.inr ⟨by simpa using hw, rfl⟩), h⟩

theorem YieldS.of_same {o : Oper} {v : Value} {a a' : Act} {w w' : World} (hy : YieldS P F ops o v a w) (he : execOp a'.eval o = execOp a.eval o)
    (hw : Region.wanted o (yielded ops a'.tmps) = Region.wanted o (yielded ops a.tmps)) (hww : cls P o.op = .load → Keep F w w') : YieldS P F ops o v a' w' := by
  unfold YieldS at *
  rw [he, hw]
  rcases hy with h | h | h
  · exact .inl h
  · exact .inr (.inl ⟨h.1, h.2.1, fun w'' hk => h.2.2 w'' ((hww h.2.1).trans hk)⟩)
  · exact .inr (.inr h)

/-- May 'oj' be done beside a load? -/
def beside (P : Program) (rc : Option Bool) (o : Op) : Bool := cls P o != .eff || match rc with
  | none => false
  | some sx => sx || !isStore o

/-- 'oj', apart from 'oi': whether 'oi''s value is already in its temporary makes no difference. -/
theorem sOp_put {j : Nat} {oi oj : Oper} {v : Value} (hj : ops[j]? = some oj) (hap : oi.apart ops oj = true)
    (hsi : ∀ cs b, oi.op ≠ .select cs b) (hsj : ∀ cs b, oj.op ≠ .select cs b) (hcl : cls P oi.op = .load → beside P (F.map (·.1)) oj.op = true) {K : Act → World → Prop} {a : Act} {w : World}
    (hy : YieldS P F ops oi v a w) (h : sOp P F ops j K (a.put oi.dst v) w) :
    sOp P F ops j (fun a' w' => YieldS P F ops oi v a' w' ∧ K (a'.put oi.dst v) w') a w := by
  obtain ⟨h1, h2, h3⟩ := Oper.apart_spec hap
  have keep : ∀ (a : Act) (w w' : World), YieldS P F ops oi v a w → (cls P oi.op = .load → Keep F w w') → ∀ u, YieldS P F ops oi v (a.put oj.dst u) w' := fun a w w' hy hww u =>
    hy.of_same (execOp_put oi hsi a oj.dst u h3) (wanted_put oi a oj.dst u h3) hww
  unfold sOp at *
  simp only [hj] at *
  rw [wanted_put oj a oi.dst v h1] at h
  split
  · rename_i hw
    rw [if_pos hw] at h
    unfold opSem at *
    rw [execOp_put oj hsj a oi.dst v h1] at h
    split at h
    · obtain ⟨u, hu, hn⟩ := h
      exact ⟨u, hu, keep a w w hy (fun _ => Keep.refl F w) u, by rw [← Act.put_comm a v u h2]; exact hn⟩
    · obtain ⟨u, hu, hn⟩ := h
      exact ⟨u, hu, keep a w w hy (fun _ => Keep.refl F w) u, by rw [← Act.put_comm a v u h2]; exact hn⟩
    · rename_i hcj
      refine h.mono fun u w' hn => ⟨hn.1, keep a w w' hy (fun hl => ?_) u, by rw [← Act.put_comm a v u h2]; exact hn.2⟩
      have h5 := hcl hl
      cases hF : F with
      | none => rw [hF] at h5; simp [beside, hcj] at h5
      | some p =>
        obtain ⟨sx, l⟩ := p
        have h4 := hn.1
        rw [hF] at h4 h5
        rcases h4 with h4 | h4
        · rw [h4.1] at h5; simp [beside, hcj, h4.2] at h5
        · exact h4
  · rename_i hw
    rw [if_neg hw] at h
    exact ⟨keep a w w hy (fun _ => Keep.refl F w) _, by rw [← Act.put_comm a v undef h2]; exact h⟩

/-- Who waits for 'k': told by 'W', which must be closed: whoever is in it (and is not 'k') waits for one in it. -/
def Closed (md : Region.Mode) (ops : Array Oper) (k : Nat) (W : Nat → Prop) : Prop :=
  W k ∧ ∀ j oj, W j → j ≠ k → ops[j]? = some oj → ∃ e ∈ oj.after, Region.binds md e = true ∧ W e.on

theorem Closed.not_ready {k : Nat} {W : Nat → Prop} (hW : Closed md ops k W) {listed : Array Bool} (hun : ∀ j, W j → listed.getD j false = false) {j : Nat}
    (hj : j ∈ Region.ready md ops listed) (hne : j ≠ k) : ¬ W j := fun hWj => by
  obtain ⟨_, oj, hoj, hall⟩ := mem_ready.1 hj
  obtain ⟨e, he, hb, hWe⟩ := hW.2 j oj hWj hne hoj
  have := hall e he hb
  rw [hun _ hWe] at this
  cases this

theorem getD_false_of_true {l : Array Bool} {j : Nat} (h : l.getD j true = false) : l.getD j false = false := by
  rcases Nat.lt_or_ge j l.size with h' | h'
  · simp [h'] at h ⊢; exact h
  · simp [Array.getElem?_eq_none h'] at h

theorem getD_set_false {l : Array Bool} {i j : Nat} (h : i ≠ j) : (l.setIfInBounds i true).getD j false = l.getD j false := getD_set_ne false h

/-- A pure operation or a load may be taken first. -/
theorem wpAnyS_first {K : Act → World → Prop} {i : Nat} {oi : Oper} {v : Value} {W : Nat → Prop} (hi : ops[i]? = some oi) (hsel : ∀ (j : Nat) (o : Oper) cs b, ops[j]? = some o → o.op ≠ .select cs b)
    (hW : Closed md ops i W) :
    ∀ (fuel : Nat) (listed : Array Bool) (a : Act) (w : World), (∀ j, W j → listed.getD j false = false) →
      (∀ j oj, ops[j]? = some oj → ¬ W j → listed.getD j true = false → oi.apart ops oj = true ∧ (cls P oi.op = .load → beside P (F.map (·.1)) oj.op = true)) →
      i ∈ Region.ready md ops listed → YieldS P F ops oi v a w →
      wpAnyS P F md ops K fuel (listed.setIfInBounds i true) (a.put oi.dst v) w → wpAnyS P F md ops K (fuel + 1) listed a w := by
  intro fuel
  induction fuel with
  | zero =>
    intro listed a w _ _ hr hy H
    refine ⟨fun h => (by rw [h] at hr; cases hr), fun j hj => ?_⟩
    by_cases hji : j = i
    · subst hji; exact hy.sOp hi H
    · have := ready_mono hj hji
      rw [H.1] at this
      cases this
  | succ fuel ih =>
    intro listed a w hun hfree hr hy H
    refine ⟨fun h => (by rw [h] at hr; cases hr), fun j hj => ?_⟩
    by_cases hji : j = i
    · subst hji; exact hy.sOp hi H
    · have h1 := H.2 j (ready_mono hj hji)
      obtain ⟨hjun, oj, hoj, _⟩ := mem_ready.1 hj
      have hnW := hW.not_ready hun hj hji
      obtain ⟨hap, hcl⟩ := hfree j oj hoj hnW hjun
      have h2 := sOp_put hoj hap (fun cs b => hsel i oi cs b hi) (fun cs b => hsel j oj cs b hoj) hcl hy h1
      have hun' : ∀ k, W k → (listed.setIfInBounds j true).getD k false = false := fun k hk => by
        rw [getD_set_false (fun e : j = k => hnW (by rw [e]; exact hk))]; exact hun k hk
      have hfree' : ∀ k ok, ops[k]? = some ok → ¬ W k → (listed.setIfInBounds j true).getD k true = false → oi.apart ops ok = true ∧ (cls P oi.op = .load → beside P (F.map (·.1)) ok.op = true) := fun k ok hk hnk hu => by
        refine hfree k ok hk hnk ?_
        by_cases hjk : j = k
        · subst hjk; exact hjun
        · rw [getD_set_ne true hjk] at hu; exact hu
      refine sOp_mono (fun a' w' h3 => ih (listed.setIfInBounds j true) a' w' hun' hfree' (ready_mono hr (Ne.symm hji)) h3.1 ?_) h2
      rw [Array.setIfInBounds_comm _ _ hji]
      exact h3.2

def isMove : Op → Bool
  | .move _ | .assign _ => true
  | _ => false

/-- A move's value. -/
def moved (ops : Array Oper) (o : Oper) (a : Act) : Value :=
  if Region.wanted o (yielded ops a.tmps) then (match o.op with | .move x | .assign x => a.eval x | _ => undef) else undef

theorem sOp_move {j : Nat} {oj : Oper} {K : Act → World → Prop} {a : Act} {w : World} (hj : ops[j]? = some oj) (hm : isMove oj.op = true) :
    sOp P F ops j K a w ↔ K (a.put oj.dst (moved ops oj a)) w := by
  unfold sOp moved
  simp only [hj]
  split
  · unfold opSem
    obtain ⟨dst, op, type, pos, after, guard⟩ := oj
    cases op <;> simp [isMove] at hm
    · simp only [cls, execOp]
      exact ⟨fun ⟨v, h, hk⟩ => by have := h w; simp [pure] at this; subst this; exact hk, fun h => ⟨_, fun _ => rfl, h⟩⟩
    · simp only [cls, execOp]
      exact ⟨fun ⟨v, h, hk⟩ => by have := h w; simp [pure] at this; subst this; exact hk, fun h => ⟨_, fun _ => rfl, h⟩⟩
  · exact Iff.rfl

theorem moved_put {o : Oper} {a : Act} {dst : Option Tmp} {v : Value} (h : ∀ d, dst = some d → d ∉ o.looksAt ops) : moved ops o (a.put dst v) = moved ops o a := by
  unfold moved
  rw [wanted_put o a dst v h]
  have key : ∀ x ∈ o.op.operands, (a.put dst v).eval x = a.eval x := fun x hx => Act.eval_put fun d hd hxd => h d hd (by
    subst hxd
    exact List.mem_append_left _ (List.mem_filterMap.2 ⟨.tmp d, by simpa using hx, rfl⟩))
  obtain ⟨dst', op, type, pos, after, guard⟩ := o
  split
  · cases op <;> simp only [] <;> exact key _ (by simp [Op.operands])
  · rfl

theorem sOp_put_move {i : Nat} {oi oj : Oper} (hi : ops[i]? = some oi) (hap : oj.apart ops oi = true) (hsi : ∀ cs b, oi.op ≠ .select cs b) {K : Act → World → Prop} {a : Act} {w : World} (u : Value)
    (h : sOp P F ops i (fun a' w' => K (a'.put oj.dst u) w') a w) : sOp P F ops i K (a.put oj.dst u) w := by
  obtain ⟨h1, h2, h3⟩ := Oper.apart_spec hap
  unfold sOp at *
  simp only [hi] at *
  rw [wanted_put oi a oj.dst u h1]
  split
  · rename_i hw
    rw [if_pos hw] at h
    unfold opSem at *
    rw [execOp_put oi hsi a oj.dst u h1]
    split at h
    · obtain ⟨v, hv, hn⟩ := h; exact ⟨v, hv, by show K _ _; rw [Act.put_comm a u v h2]; exact hn⟩
    · obtain ⟨v, hv, hn⟩ := h; exact ⟨v, hv, by show K _ _; rw [Act.put_comm a u v h2]; exact hn⟩
    · exact h.mono fun v w' hn => ⟨hn.1, by show K _ _; rw [Act.put_comm a u v h2]; exact hn.2⟩
  · rename_i hw
    rw [if_neg hw] at h
    rw [Act.put_comm a u undef h2]
    exact h

/-- Any other operation may be taken first, if all that does not wait for it are moves. -/
theorem wpAnyS_first_eff {K : Act → World → Prop} {i : Nat} {oi : Oper} {W : Nat → Prop} (hi : ops[i]? = some oi) (hsel : ∀ (j : Nat) (o : Oper) cs b, ops[j]? = some o → o.op ≠ .select cs b)
    (hW : Closed md ops i W) :
    ∀ (fuel : Nat) (listed : Array Bool) (a : Act) (w : World), (∀ j, W j → listed.getD j false = false) →
      (∀ j oj, ops[j]? = some oj → ¬ W j → listed.getD j true = false → oj.apart ops oi = true ∧ oi.apart ops oj = true ∧ isMove oj.op = true) →
      i ∈ Region.ready md ops listed → sOp P F ops i (wpAnyS P F md ops K fuel (listed.setIfInBounds i true)) a w → wpAnyS P F md ops K (fuel + 1) listed a w := by
  intro fuel
  induction fuel with
  | zero =>
    intro listed a w hun hfree hr H
    refine ⟨fun h => (by rw [h] at hr; cases hr), fun j hj => ?_⟩
    by_cases hji : j = i
    · subst hji; exact H
    · exfalso
      have h1 : ∀ a w, wpAnyS P F md ops K 0 (listed.setIfInBounds i true) a w → False := fun a w h => by
        have := ready_mono hj hji
        rw [h.1] at this
        cases this
      have h2 := sOp_mono h1 H
      unfold sOp at h2
      simp only [hi] at h2
      split at h2
      · unfold opSem at h2
        split at h2
        · obtain ⟨_, _, h⟩ := h2; exact h
        · obtain ⟨_, _, h⟩ := h2; exact h
        · unfold effPost at h2
          split at h2 <;> try exact h2.elim
          all_goals first
            | exact h2.2
            | (obtain ⟨e, w', fr, ⟨v, _, _, hf⟩, _⟩ := h2 []; exact hf)
      · exact h2
  | succ fuel ih =>
    intro listed a w hun hfree hr H
    refine ⟨fun h => (by rw [h] at hr; cases hr), fun j hj => ?_⟩
    by_cases hji : j = i
    · subst hji; exact H
    · obtain ⟨hjun, oj, hoj, _⟩ := mem_ready.1 hj
      have hnW := hW.not_ready hun hj hji
      obtain ⟨hap, hap', hm⟩ := hfree j oj hoj hnW hjun
      have hun' : ∀ k, W k → (listed.setIfInBounds j true).getD k false = false := fun k hk => by
        rw [getD_set_false (fun e : j = k => hnW (by rw [e]; exact hk))]; exact hun k hk
      have hfree' : ∀ k ok, ops[k]? = some ok → ¬ W k → (listed.setIfInBounds j true).getD k true = false → ok.apart ops oi = true ∧ oi.apart ops ok = true ∧ isMove ok.op = true := fun k ok hk hnk hu => by
        refine hfree k ok hk hnk ?_
        by_cases hjk : j = k
        · subst hjk; exact hjun
        · rw [getD_set_ne true hjk] at hu; exact hu
      rw [sOp_move hoj hm]
      refine ih (listed.setIfInBounds j true) _ w hun' hfree' (ready_mono hr (Ne.symm hji)) ?_
      refine sOp_put_move hi hap (fun cs b => hsel i oi cs b hi) _ ?_
      have step : ∀ v w', wpAnyS P F md ops K (fuel + 1) (listed.setIfInBounds i true) (a.put oi.dst v) w' →
          wpAnyS P F md ops K fuel ((listed.setIfInBounds j true).setIfInBounds i true) ((a.put oi.dst v).put oj.dst (moved ops oj a)) w' := fun v w' h => by
        have := h.2 j (ready_mono hj hji)
        rw [sOp_move hoj hm, moved_put (Oper.apart_spec hap').1] at this
        rw [Array.setIfInBounds_comm _ _ hji]
        exact this
      unfold sOp at H ⊢
      simp only [hi] at H ⊢
      split
      · rename_i hw; rw [if_pos hw] at H; exact H.mono fun v w' h => step v w' h
      · rename_i hw; rw [if_neg hw] at H; exact step _ _ H

/-! ### The check on the text -/

/-- Whether 'j' waits for 'k', by the edges, 'W' telling it of those before 'j'. -/
def waitsOn (o : Oper) (k : Nat) (W : List Bool) : Bool := o.after.any fun e => Region.binds .any e && (e.on == k || (k < e.on && W.getD (e.on - (k + 1)) false))

/-- For 'k': of each behind it, whether it waits. -/
def waits (k : Nat) : List Oper → List Bool → List Bool
  | [], W => W
  | o :: l, W => waits k l (W ++ [waitsOn o k W])

def okPair (P : Program) (rc : Option Bool) (ops : Array Oper) (oi oj : Oper) : Bool := match cls P oi.op with
  | .pure => oi.apart ops oj
  | .load => oi.apart ops oj && beside P rc oj.op
  | .eff => oj.apart ops oi && oi.apart ops oj && isMove oj.op

def okRest (P : Program) (rc : Option Bool) (ops : Array Oper) (oi : Oper) : List Oper → List Bool → Bool
  | [], _ => true
  | o :: l, b :: W => (b || okPair P rc ops oi o) && okRest P rc ops oi l W
  | _ :: _, [] => false

def okFrom (P : Program) (rc : Option Bool) (ops : Array Oper) : Nat → List Oper → Bool
  | _, [] => true
  | k, o :: l => (o.after.all fun e => !Region.binds .any e || e.on < k) && okRest P rc ops o l (waits k l []) && okFrom P rc ops (k + 1) l

def noSel (ops : Array Oper) : Bool := ops.all fun o => match o.op with | .select .. => false | _ => true

def okDraw (P : Program) (rc : Option Bool) (ops : Array Oper) : Bool := noSel ops && okFrom P rc ops 0 ops.toList

theorem waits_length (k : Nat) : ∀ (l : List Oper) (W : List Bool), (waits k l W).length = W.length + l.length
  | [], W => by simp [waits]
  | o :: l, W => by rw [waits, waits_length k l]; simp; omega

theorem waits_prefix (k : Nat) : ∀ (l : List Oper) (W : List Bool) (i : Nat), i < W.length → (waits k l W)[i]? = W[i]?
  | [], W, i, _ => rfl
  | o :: l, W, i, h => by
    rw [waits, waits_prefix k l _ i (by simp; omega), List.getElem?_append_left h]

theorem waits_at (k : Nat) : ∀ (l : List Oper) (W : List Bool) (i : Nat) (o : Oper), l[i]? = some o →
    (waits k l W)[W.length + i]? = some (waitsOn o k ((waits k l W).take (W.length + i)))
  | [], _, _, _, h => by simp at h
  | o' :: l, W, 0, o, h => by
    simp at h; subst h
    have e := waits_prefix k l (W ++ [waitsOn o' k W]) W.length (by simp)
    simp only [waits, Nat.add_zero]
    rw [e]
    have t : (waits k l (W ++ [waitsOn o' k W])).take W.length = W := by
      apply List.ext_getElem?
      intro i
      rw [List.getElem?_take]
      by_cases hi : i < W.length
      · rw [if_pos hi, waits_prefix k l _ i (by simp; omega), List.getElem?_append_left hi]
      · rw [if_neg hi, List.getElem?_eq_none (by omega)]
    rw [t]; simp
  | o' :: l, W, i + 1, o, h => by
    have := waits_at k l (W ++ [waitsOn o' k W]) i o (by simpa using h)
    simp only [List.length_append, List.length_cons, List.length_nil] at this
    simp only [waits]
    have e : W.length + (i + 1) = W.length + (0 + 1) + i := by omega
    rw [e]; exact this

theorem okRest_at {rc : Option Bool} {oi : Oper} : ∀ (l : List Oper) (W : List Bool), okRest P rc ops oi l W = true → ∀ (i : Nat) (o : Oper), l[i]? = some o → W[i]? = some true ∨ okPair P rc ops oi o = true
  | [], _, _, i, o, h => by simp at h
  | o' :: l, [], h, _, _, _ => by simp [okRest] at h
  | o' :: l, b :: W, h, 0, o, h0 => by
    simp [okRest] at h h0; subst h0
    rcases h.1 with h | h
    · exact .inl (by simp [h])
    · exact .inr h
  | o' :: l, b :: W, h, i + 1, o, h0 => by
    simp [okRest] at h h0
    simpa using okRest_at l W h.2 i o h0

theorem noSel_spec (h : noSel ops = true) : ∀ (j : Nat) (o : Oper) cs b, ops[j]? = some o → o.op ≠ .select cs b := by
  intro j o cs b ho he
  unfold noSel at h
  rw [Array.all_eq_true_iff_forall_mem] at h
  have := h o (Array.mem_of_getElem? ho)
  rw [he] at this
  simp at this

theorem okFrom_any (hs : noSel ops = true) {K : Act → World → Prop} : ∀ (l : List Oper) (k : Nat) (listed : Array Bool), (∀ j, l[j]? = ops[k + j]?) → (∀ j, listed.getD j false = decide (j < k)) → (listed.size = ops.size) →
    okFrom P (F.map (·.1)) ops k l = true → ∀ a w, wpA P F ops K l a w → wpAnyS P F .any ops K l.length listed a w := by
  intro l
  induction l with
  | nil =>
    intro k listed hl hL hsz _ a w h
    refine ⟨?_, h⟩
    cases hr : Region.ready .any ops listed with
    | nil => rfl
    | cons x xs =>
      exfalso
      have hx : x ∈ Region.ready .any ops listed := by rw [hr]; simp
      obtain ⟨h0, o, ho, _⟩ := mem_ready.1 hx
      have := hL x
      rw [getD_false_of_true h0] at this
      have hk : k ≤ x := by simpa using this
      have := hl (x - k)
      rw [show k + (x - k) = x from by omega, ho] at this
      simp at this
  | cons o l ih =>
    intro k listed hl hL hsz hok a w h
    have h0 : ops[k]? = some o := by simpa using (hl 0).symm
    have hkl : k < ops.size := (Array.getElem?_eq_some_iff.1 h0).1
    simp only [okFrom, Bool.and_eq_true] at hok
    obtain ⟨⟨he, hr⟩, hnext⟩ := hok
    have hl' : ∀ j, l[j]? = ops[k + 1 + j]? := fun j => by have := hl (j + 1); simpa [Nat.add_assoc, Nat.add_comm 1 j] using this
    have hready : k ∈ Region.ready .any ops listed := by
      rw [mem_ready]
      refine ⟨?_, o, h0, fun e hem hb => ?_⟩
      · have := hL k
        simp at this
        have hks : k < listed.size := by omega
        simp [hks] at this ⊢
        exact this
      · rw [hL]
        rw [Array.all_eq_true_iff_forall_mem] at he
        have := he e hem
        simp [hb] at this
        simpa using this
    have hL' : ∀ j, (listed.setIfInBounds k true).getD j false = decide (j < k + 1) := fun j => by
      by_cases hkj : k = j
      · subst hkj
        have hks : k < listed.size := by omega
        simp [hks]
      · rw [getD_set_ne false hkj, hL]
        apply decide_eq_decide.2
        omega
    have hsz' : (listed.setIfInBounds k true).size = ops.size := by simpa using hsz
    let W : Nat → Prop := fun j => j = k ∨ (k < j ∧ (waits k l [])[j - (k + 1)]? = some true)
    have hWc : Closed .any ops k W := by
      refine ⟨.inl rfl, fun j oj hj hne hoj => ?_⟩
      rcases hj with hj | ⟨hlt, hj⟩
      · exact absurd hj hne
      · have hlj : l[j - (k + 1)]? = some oj := by rw [hl']; rw [show k + 1 + (j - (k + 1)) = j from by omega]; exact hoj
        have hat := waits_at k l [] (j - (k + 1)) oj hlj
        simp only [List.length_nil, Nat.zero_add] at hat
        rw [hj] at hat
        have hw : waitsOn oj k ((waits k l []).take (j - (k + 1))) = true := by simpa using hat.symm
        unfold waitsOn at hw
        obtain ⟨e, hem, hcond⟩ := Array.any_eq_true'.1 hw
        simp only [Bool.and_eq_true, Bool.or_eq_true, beq_iff_eq, decide_eq_true_eq] at hcond
        refine ⟨e, hem, hcond.1, ?_⟩
        rcases hcond.2 with h1 | ⟨h1, h2⟩
        · exact .inl h1
        · refine .inr ⟨h1, ?_⟩
          rw [List.getD_eq_getElem?_getD] at h2
          cases ht : ((waits k l []).take (j - (k + 1)))[e.on - (k + 1)]? with
          | none => rw [ht] at h2; simp at h2
          | some b =>
            rw [ht] at h2; simp at h2; subst h2
            rw [List.getElem?_take] at ht
            split at ht
            · exact ht
            · cases ht
    have hun : ∀ j, W j → listed.getD j false = false := fun j hj => by
      rw [hL]; rcases hj with rfl | ⟨hlt, _⟩ <;> simp; omega
    have hfree : ∀ j oj, ops[j]? = some oj → ¬ W j → listed.getD j true = false → okPair P (F.map (·.1)) ops o oj = true := fun j oj hoj hnW hu => by
      have h1 := hL j
      rw [getD_false_of_true hu] at h1
      have hkj : k ≤ j := by simpa using h1
      have hne : j ≠ k := fun e => hnW (.inl e)
      have hlj : l[j - (k + 1)]? = some oj := by rw [hl']; rw [show k + 1 + (j - (k + 1)) = j from by omega]; exact hoj
      rcases okRest_at l _ hr _ _ hlj with h2 | h2
      · exact absurd (.inr ⟨by omega, h2⟩) hnW
      · exact h2
    have hst : sOp P F ops k (wpA P F ops K l) a w := by unfold sOp; simp only [h0]; exact h
    have hst' : sOp P F ops k (wpAnyS P F .any ops K l.length (listed.setIfInBounds k true)) a w :=
      sOp_mono (fun a' w' h' => ih (k + 1) _ hl' hL' hsz' hnext a' w' h') hst
    by_cases hc : cls P o.op = .eff
    · refine wpAnyS_first_eff h0 (noSel_spec hs) hWc l.length listed a w hun (fun j oj hoj hnW hu => ?_) hready hst'
      have := hfree j oj hoj hnW hu
      unfold okPair at this
      rw [hc] at this
      simp only [Bool.and_eq_true] at this
      exact ⟨this.1.1, this.1.2, this.2⟩
    · obtain ⟨v, hy, hK⟩ := yieldS_of h0 hc hst'
      refine wpAnyS_first h0 (noSel_spec hs) hWc l.length listed a w hun (fun j oj hoj hnW hu => ?_) hready hy hK
      have := hfree j oj hoj hnW hu
      unfold okPair at this
      split at this
      · rename_i hp; exact ⟨this, fun hl => by rw [hp] at hl; cases hl⟩
      · simp only [Bool.and_eq_true] at this
        exact ⟨this.1, fun _ => this.2⟩
      · rename_i he'; exact absurd he' hc

theorem wpA_draw {id : Nat} {K : Act → World → Prop} {Q : Exit → Act → World → Prop} {a : Act} {w : World} (hm : P.follows .mixedOrders = true) (hok : okDraw P (F.map (·.1)) ops = true)
    (hQ : ∀ a w, K a w → Q .normal a w) (h : wpA P F ops K ops.toList a { w with drawn := w.drawn + 1 }) : (Code.region id ops true).wp P Q a w := by
  simp only [okDraw, Bool.and_eq_true] at hok
  refine wp_region_any hm (wpAnyS.wpAny (F := F) hQ _ _ _ _ ?_)
  have := okFrom_any hok.1 ops.toList 0 (Array.replicate ops.size false) (by simp) (by intro j; simp [Array.getElem?_replicate]; split <;> rfl) (by simp) hok.2 a _ h
  simpa using this

end
end Go.Av
