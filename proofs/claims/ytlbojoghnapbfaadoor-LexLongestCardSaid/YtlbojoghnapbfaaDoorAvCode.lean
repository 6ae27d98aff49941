/- Av: code, on abstract values; and that a function's body so walked gives a call. -/
import Derived.Test.YtlbojoghnapbfaaDoorAvMemOk3
import Derived.Test.YtlbojoghnapbfaaDoorAvDraw
set_option linter.unusedVariables false
set_option linter.unusedSimpArgs false
namespace Go.Av

inductive AX where
  | normal
  | exit (id : Nat)
  | ret

def guardSlot (gs : List (Option Nat)) (j : Nat) : Option Nat := (gs[j]?).getD none

/-- A guarded operation: run or not. -/
def guardA (E : Env) (s : Option Nat) (want : Bool) (run skip : Env → Prop) : Prop := match s with
  | none => skip E
  | some s => (E.get s = .tuple [] ∧ skip E) ∨ ∃ b, E.get s = .bool b ∧ (b = want → run ((s, .bool want) :: E)) ∧ (b = !want → skip ((s, .bool (!want)) :: E))

/-- 'gs': the slots that the region's operations write, for the guards. -/
def wpOps (P : Program) (gs : List (Option Nat)) (K : Env → Heap → Prop) : List Oper → Env → Heap → Prop
  | [], E, H => K E H
  | o :: l, E, H => match o.guard with
    | none => wpOp P E.ev H (fun d H' => wpOps P gs K l (E.put o.dst d) H') o.op
    | some (j, want) => guardA E (guardSlot gs j) want (fun E => wpOp P E.ev H (fun d H' => wpOps P gs K l (E.put o.dst d) H') o.op) (fun E => wpOps P gs K l (E.put o.dst (.tuple [])) H)

structure St (N : Nat) (w0 : World) (H0 : Heap) (E : Env) (H : Heap) (a : Act) (w : World) : Prop where
  size : a.tmps.size = N
  defers : a.defers = []
  env : ∀ i, R w H (E.get i) (a.eval (.tmp i))
  sat : Sat H w
  ext : Ext H0 w0 w
  frm : From w0 H0 H

/-- Less is told, or the same in other words. -/
def Weak (E0 : Env) (H0 : Heap) (E : Env) (H : Heap) : Prop := ∀ (N : Nat) (w0 : World) (Hz : Heap) (a : Act) (w : World), St N w0 Hz E H a w → St N w0 Hz E0 H0 a w

def LoopA (body : (Env → Heap → Prop) → Env → Heap → Prop) (E : Env) (H : Heap) : Prop :=
  ∃ (I : Nat → Env → Heap → Prop), (∃ n E0 H0, Weak E0 H0 E H ∧ I n E0 H0) ∧ ∀ n E H, I n E H → body (fun E' H' => ∃ m E0 H0, m < n ∧ Weak E0 H0 E' H' ∧ I m E0 H0) E H

def Env.fix (E : Env) (c : Operand) (b : Bool) : Env := match c with
  | .tmp t => (t, .bool b) :: E
  | _ => E

/-- Regions where reads lie beside writes: by number, and whether stores are among these. -/
def raceOf (id : Nat) : List (Nat × Bool) → Option Bool
  | [] => none
  | (i, sx) :: Z => if id = i then some sx else raceOf id Z

def wpOpsR (P : Program) (sx : Bool) (bl : List Nat) (K : Env → Heap → Prop) : List Oper → Env → Heap → Prop
  | [], E, H => K E H
  | o :: l, E, H => o.guard = none ∧ wpOpR P sx bl E.ev H (fun d H' => wpOpsR P sx bl K l (E.put o.dst d) H') o.op

def wp (P : Program) (Z : List (Nat × Bool)) : Code → (AX → Env → Heap → Prop) → Env → Heap → Prop
  | .skip, Q, E, H => Q .normal E H
  | .region id ops _, Q, E, H => match raceOf id Z with
    | none => wpOps P (ops.toList.map (·.dst)) (Q .normal) ops.toList E H
    | some sx => ∃ bl, (∀ k ∈ bl, H k ≠ none) ∧ wpOpsR P sx bl (Q .normal) ops.toList E H
  | .seq a b, Q, E, H => wp P Z a (fun x E H => match x with | .normal => wp P Z b Q E H | .exit i => Q (.exit i) E H | .ret => Q .ret E H) E H
  | .cond c x y, Q, E, H => ∃ b, E.ev c = .bool b ∧ (b = true → wp P Z x Q (E.fix c true) H) ∧ (b = false → wp P Z y Q (E.fix c false) H)
  | .block id c, Q, E, H => wp P Z c (fun x E H => match x with | .normal => Q .normal E H | .exit i => if i = id then Q .normal E H else Q (.exit i) E H | .ret => Q .ret E H) E H
  | .loop c, Q, E, H => LoopA (fun K => wp P Z c fun x E H => match x with | .normal => K E H | .exit i => Q (.exit i) E H | .ret => Q .ret E H) E H
  | .exit id, Q, E, H => Q (.exit id) E H
  | .ret, Q, E, H => Q .ret E H
  | _, _, _, _ => False

/-- What is asked of the text: what is written lies in the frame; regions that draw are such that one order serves all. -/
def codeOk (P : Program) (Z : List (Nat × Bool)) (N : Nat) : Code → Bool
  | .region id ops d => (ops.all fun o => match o.dst with | some t => decide (t < N) | none => true) && (!d || okDraw P (raceOf id Z) ops)
  | .seq a b => codeOk P Z N a && codeOk P Z N b
  | .cond _ x y => codeOk P Z N x && codeOk P Z N y
  | .block _ c => codeOk P Z N c
  | .loop c => codeOk P Z N c
  | _ => true

section
variable {P : Program} {Z : List (Nat × Bool)} {N : Nat} {w0 : World} {H0 : Heap}

theorem St.ev {E : Env} {H : Heap} {a : Act} {w : World} (h : St N w0 H0 E H a w) (x : Operand) : R w H (E.ev x) (a.eval x) := by
  cases x with
  | tmp t => exact h.env t
  | const v => exact ofValue_R w H v
  | global g => exact .glob g
  | func f => exact .fn _ _ _ _ _ rfl rfl (by simp) (by simp)

theorem St.put {E : Env} {H H' : Heap} {a : Act} {w w' : World} (h : St N w0 H0 E H a w) {dst : Option Tmp} (hd : ∀ t, dst = some t → t < N) {d : D} {v : Value} (hv : R w' H' d v) (hs : Sat H' w') (he : Ext H w w') (hf : From w H H') :
    St N w0 H0 (E.put dst d) H' (a.put dst v) w' := by
  refine ⟨?_, ?_, fun i => ?_, hs, h.ext.trans h.frm he, h.frm.trans h.ext.size hf⟩
  · cases dst <;> simp [Act.put, h.size]
  · cases dst <;> exact h.defers
  · cases dst with
    | none => exact (h.env i).mono he hf
    | some t =>
      have ht := hd t rfl
      simp only [Env.put, Env.get]
      by_cases hti : t = i
      · subst hti
        rw [if_pos rfl]
        have : (a.put (some t) v).eval (.tmp t) = v := by
          have h' : t < a.tmps.size := by rw [h.size]; exact ht
          simp [Act.eval, Act.put, h']
        rw [this]; exact hv
      · rw [if_neg hti]
        have : (a.put (some t) v).eval (.tmp i) = a.eval (.tmp i) := by
          simp [Act.eval, Act.put, Array.getElem?_setIfInBounds_ne hti]
        rw [this]; exact (h.env i).mono he hf

theorem St.know {E : Env} {H : Heap} {a : Act} {w : World} (h : St N w0 H0 E H a w) {s : Nat} {d : D} (hd : E.get s = d) : St N w0 H0 ((s, d) :: E) H a w := by
  refine ⟨h.size, h.defers, fun i => ?_, h.sat, h.ext, h.frm⟩
  simp only [Env.get]
  by_cases hi : s = i
  · subst hi; rw [if_pos rfl, ← hd]; exact h.env s
  · rw [if_neg hi]; exact h.env i

theorem St.weak {E E' : Env} {H H' : Heap} {a : Act} {w : World} (h : St N w0 H0 E H a w) (hw : Weak E' H' E H) : St N w0 H0 E' H' a w := hw _ _ _ _ _ h

theorem weak_of {E E' : Env} {H H' : Heap} (hE : ∀ p ∈ E', E.get p.1 = p.2) (hl : H'.Le H) : Weak E' H' E H := by
  intro N w0 H0 a w h
  refine ⟨h.size, h.defers, fun i => ?_, h.sat.less hl, h.ext, h.frm.less hl⟩
  have key : ∀ (L : Env), (∀ p ∈ L, E.get p.1 = p.2) → R w H' (L.get i) (a.eval (.tmp i)) := by
    intro L
    induction L with
    | nil => intro _; exact .undef _
    | cons p L ih =>
      intro hL
      obtain ⟨j, d⟩ := p
      simp only [Env.get]
      by_cases hj : j = i
      · subst hj
        rw [if_pos rfl]
        have := hL (j, d) (by simp)
        simp only at this
        rw [← this]
        exact (h.env j).less hl
      · rw [if_neg hj]; exact ih (fun p hp => hL p (by simp [hp]))
  exact key E' hE

theorem wpOps_sound {ops : Array Oper} {K : Env → Heap → Prop} : ∀ (l : List Oper) (E : Env) (H : Heap) (a : Act) (w : World), (∀ o ∈ l, ∀ t, o.dst = some t → t < N) → wpOps P (ops.toList.map (·.dst)) K l E H → St N w0 H0 E H a w →
    wpA P none ops (fun a' w' => ∃ E' H', St N w0 H0 E' H' a' w' ∧ K E' H') l a w := by
  intro l
  induction l with
  | nil => intro E H a w _ h hst; exact ⟨E, H, hst, h⟩
  | cons o l ih =>
    intro E H a w hd h hst
    have hd' : ∀ o ∈ l, ∀ t, o.dst = some t → t < N := fun o' ho' => hd o' (by simp [ho'])
    have hdo := hd o (by simp)
    have run : ∀ E, St N w0 H0 E H a w → wpOp P E.ev H (fun d H' => wpOps P (ops.toList.map (·.dst)) K l (E.put o.dst d) H') o.op → opSem P none o a w fun v w' => wpA P none ops (fun a' w' => ∃ E' H', St N w0 H0 E' H' a' w' ∧ K E' H') l (a.put o.dst v) w' := by
      intro E hst h
      refine (wpOp_sound hst.sat hst.ev h).mono fun v w' hp => ?_
      obtain ⟨d, H', h1, h2, h3, h4, h5⟩ := hp
      exact ih _ _ _ _ hd' h5 (hst.put hdo h1 h2 h3 h4)
    have skip : ∀ E, St N w0 H0 E H a w → wpOps P (ops.toList.map (·.dst)) K l (E.put o.dst (.tuple [])) H → wpA P none ops (fun a' w' => ∃ E' H', St N w0 H0 E' H' a' w' ∧ K E' H') l (a.put o.dst undef) w :=
      fun E hst h => ih _ _ _ _ hd' h (hst.put hdo (.tuple [] #[] rfl (by simp)) hst.sat (Ext.refl _ _) (From.refl _ _))
    unfold wpOps at h
    unfold wpA
    split at h
    · rename_i hg
      rw [if_pos (by simp [Region.wanted, hg])]
      exact run E hst h
    · rename_i j want hg
      have hslot : guardSlot (ops.toList.map (·.dst)) j = (ops[j]?).bind (·.dst) := by
        unfold guardSlot
        rw [List.getElem?_map]
        cases hj : ops[j]? with
        | none => simp [hj]
        | some o => simp [hj]
      unfold guardA at h
      split at h
      · rename_i hs
        have hy : yielded ops a.tmps j = none := by
          unfold yielded
          rw [hslot] at hs
          rw [hs]; rfl
        rw [if_neg (by simp [Region.wanted, hg, hy])]
        exact skip E hst h
      · rename_i s hs
        rcases h with ⟨hu, h⟩ | ⟨b, hb, h1, h2⟩
        · have hv := hst.env s
          rw [hu] at hv
          obtain ⟨vs, hv, _⟩ := hv.tuple_inv
          have hy : yielded ops a.tmps j = none := by
            unfold yielded
            rw [hslot] at hs
            rw [hs]
            simp only [Option.bind_some]
            simp only [Act.eval] at hv
            cases ht : a.tmps[s]? with
            | none => rfl
            | some u =>
              simp [ht] at hv
              subst hv; rfl
          rw [if_neg (by simp [Region.wanted, hg, hy])]
          exact skip E hst h
        have hv := hst.env s
        rw [hb] at hv
        have hv := hv.bool_inv
        have hy : yielded ops a.tmps j = some b := by
          unfold yielded
          rw [hslot] at hs
          rw [hs]
          simp only [Option.bind_some]
          simp only [Act.eval] at hv
          cases ht : a.tmps[s]? with
          | none =>
            simp [ht] at hv
            cases hv
          | some u =>
            simp [ht] at hv
            subst hv; rfl
        by_cases hbw : b = want
        · subst hbw
          rw [if_pos (by simp [Region.wanted, hg, hy])]
          exact run _ (hst.know hb) (h1 rfl)
        · have hbn : b = !want := by cases b <;> cases want <;> simp_all
          subst hbn
          rw [if_neg (by simp [Region.wanted, hg, hy])]
          exact skip _ (hst.know hb) (h2 rfl)

theorem wpOpsR_sound {ops : Array Oper} {sx : Bool} {bl : List Nat} {K : Env → Heap → Prop} : ∀ (l : List Oper) (E : Env) (H : Heap) (a : Act) (w : World), (∀ o ∈ l, ∀ t, o.dst = some t → t < N) → (∀ k ∈ bl, k < w.heap.size) → wpOpsR P sx bl K l E H → St N w0 H0 E H a w →
    wpA P (some (sx, bl)) ops (fun a' w' => ∃ E' H', St N w0 H0 E' H' a' w' ∧ K E' H') l a w := by
  intro l
  induction l with
  | nil => intro E H a w _ _ h hst; exact ⟨E, H, hst, h⟩
  | cons o l ih =>
    intro E H a w hd hbl h hst
    obtain ⟨hg, h⟩ := h
    unfold wpA
    rw [if_pos (by simp [Region.wanted, hg])]
    refine (wpOpR_sound hbl hst.sat hst.ev h).mono fun v w' hp => ?_
    obtain ⟨d, H', h1, h2, h3, h4, h5⟩ := hp
    exact ih _ _ _ _ (fun o' ho' => hd o' (by simp [ho'])) (fun k hk => Nat.lt_of_lt_of_le (hbl k hk) h3.size) h5 (hst.put (hd o (by simp)) h1 h2 h3 h4)

def lift (N : Nat) (w0 : World) (H0 : Heap) (Q : AX → Env → Heap → Prop) : Exit → Act → World → Prop
  | .normal, a, w => ∃ E H, St N w0 H0 E H a w ∧ Q .normal E H
  | .exit id, a, w => ∃ E H, St N w0 H0 E H a w ∧ Q (.exit id) E H
  | .ret, a, w => ∃ E H, St N w0 H0 E H a w ∧ Q .ret E H
  | _, _, _ => False

theorem wp_loopN {c : Code} {Q : Exit → Act → World → Prop} (I : Nat → Act → World → Prop) {n : Nat} {a : Act} {w : World} (h0 : I n a w)
    (round : ∀ n a w, I n a w → c.wp P (Exit.then (fun a' w' => ∃ m, m < n ∧ I m a' w') Q) a w) : (Code.loop c).wp P Q a w := by
  intro b k cs
  have key : ∀ n a w, I n a w → ∃ e a' w', Q e a' w' ∧ Arrives P (lone (b.at a (.code c :: .inLoop c :: k)) cs w) b k cs e a' w' := by
    intro n
    induction n using Nat.strongRecOn with
    | _ n ih =>
      intro a w hI
      obtain ⟨e, a1, w1, hq, harr⟩ := round n a w hI b (.inLoop c :: k) cs
      cases e with
      | normal =>
        obtain ⟨m, hm, hIm⟩ := hq
        obtain ⟨e2, a2, w2, hq2, harr2⟩ := ih m hm a1 w1 hIm
        exact ⟨e2, a2, w2, hq2, .of_steps (Steps.trans harr (.one step_inLoop)) harr2⟩
      | exit id => exact ⟨_, a1, w1, hq, .pass (x := .inLoop c) rfl (fun _ _ => .inl (by simp)) harr⟩
      | goto l => exact ⟨_, a1, w1, hq, .pass (x := .inLoop c) rfl (fun _ _ => .inl (by simp)) harr⟩
      | ret => exact ⟨_, a1, w1, hq, .pass (x := .inLoop c) rfl (fun _ _ => .inl (by simp)) harr⟩
      | panic ch => exact ⟨_, a1, w1, hq, .pass (x := .inLoop c) rfl (fun _ _ => .inl (by simp)) harr⟩
      | outgrown => exact ⟨_, a1, w1, hq, .pass (x := .inLoop c) rfl (fun _ _ => .inl (by simp)) harr⟩
  obtain ⟨e, a', w', hq, harr⟩ := key n a w h0
  exact ⟨e, a', w', hq, .of_steps (.one step_loop) harr⟩

theorem wp_sound (hm : P.follows .mixedOrders = true) : ∀ (c : Code) (Q : AX → Env → Heap → Prop) (E : Env) (H : Heap) (a : Act) (w : World), codeOk P Z N c = true → wp P Z c Q E H → St N w0 H0 E H a w → c.wp P (lift N w0 H0 Q) a w := by
  intro c
  induction c with
  | skip => intro Q E H a w _ h hst; exact Go.wp_skip ⟨E, H, hst, h⟩
  | region id ops d =>
    intro Q E H a w hok h hst
    simp only [codeOk, Bool.and_eq_true] at hok
    have hd : ∀ o ∈ ops.toList, ∀ t, o.dst = some t → t < N := fun o ho t ht => by
      have := Array.all_eq_true_iff_forall_mem.1 hok.1 o (by simpa using ho)
      rw [ht] at this
      simpa using this
    have he : Ext H w { w with drawn := w.drawn + 1 } := Ext.drewN H w 1
    have hst1 : St N w0 H0 E H a { w with drawn := w.drawn + 1 } := ⟨hst.size, hst.defers, fun i => (hst.env i).mono he (From.refl _ _), hst.sat.same rfl he, hst.ext.trans hst.frm he, hst.frm⟩
    unfold wp at h
    cases hz : raceOf id Z with
    | none =>
      rw [hz] at h hok
      cases d with
      | false => exact wpA_region (fun a w h => h) (wpOps_sound ops.toList E H a w hd h hst)
      | true => exact wpA_draw (F := none) hm (by simpa using hok.2) (fun a w h => h) (wpOps_sound ops.toList E H a _ hd h hst1)
    | some sx =>
      rw [hz] at h hok
      obtain ⟨bl, hbl, h⟩ := h
      have hlt : ∀ w : World, Sat H w → ∀ k ∈ bl, k < w.heap.size := fun w hs k hk => by
        cases ho : H k with
        | none => exact absurd ho (hbl k hk)
        | some o => exact hs.lt ho
      cases d with
      | false => exact wpA_region (fun a w h => h) (wpOpsR_sound (sx := sx) (bl := bl) ops.toList E H a w hd (hlt _ hst.sat) h hst)
      | true => exact wpA_draw (F := some (sx, bl)) hm (by simpa using hok.2) (fun a w h => h) (wpOpsR_sound (sx := sx) (bl := bl) ops.toList E H a _ hd (hlt _ hst1.sat) h hst1)
  | seq x y ihx ihy =>
    intro Q E H a w hok h hst
    simp only [codeOk, Bool.and_eq_true] at hok
    refine Go.wp_seq (Go.wp_mono (ihx _ E H a w hok.1 h hst) fun e a' w' he => ?_)
    cases e with
    | normal => obtain ⟨E', H', hst', h'⟩ := he; exact ihy Q E' H' a' w' hok.2 h' hst'
    | exit id => obtain ⟨E', H', hst', h'⟩ := he; exact ⟨E', H', hst', h'⟩
    | ret => obtain ⟨E', H', hst', h'⟩ := he; exact ⟨E', H', hst', h'⟩
    | _ => exact he.elim
  | cond c x y ihx ihy =>
    intro Q E H a w hok h hst
    simp only [codeOk, Bool.and_eq_true] at hok
    obtain ⟨b, hb, h1, h2⟩ := h
    have hv := hst.ev c
    rw [hb] at hv
    have hfix : ∀ b', E.ev c = .bool b' → St N w0 H0 (E.fix c b') H a w := fun b' hb' => by
      cases c with
      | tmp t => exact hst.know hb'
      | _ => exact hst
    refine Go.wp_cond_split hv.bool_inv (fun ht => ?_) (fun ht => ?_)
    · subst ht; exact ihx Q _ H a w hok.1 (h1 rfl) (hfix _ hb)
    · subst ht; exact ihy Q _ H a w hok.2 (h2 rfl) (hfix _ hb)
  | block id c ih =>
    intro Q E H a w hok h hst
    simp only [codeOk] at hok
    refine Go.wp_block (Go.wp_mono (ih _ E H a w hok h hst) fun e a' w' he => ?_)
    cases e with
    | normal => obtain ⟨E', H', hst', h'⟩ := he; exact ⟨E', H', hst', h'⟩
    | exit i =>
      obtain ⟨E', H', hst', h'⟩ := he
      simp only [Exit.inBlock]
      by_cases hi : i = id
      · rw [if_pos hi]; simp only [hi, if_true] at h'; exact ⟨E', H', hst', h'⟩
      · rw [if_neg hi]; simp only [hi, if_false] at h'; exact ⟨E', H', hst', h'⟩
    | ret => obtain ⟨E', H', hst', h'⟩ := he; exact ⟨E', H', hst', h'⟩
    | _ => exact he.elim
  | loop c ih =>
    intro Q E H a w hok h hst
    simp only [codeOk] at hok
    obtain ⟨I, ⟨n, E0, Hh, hw, hI⟩, round⟩ := h
    refine wp_loopN (fun n a w => ∃ E H, St N w0 H0 E H a w ∧ I n E H) (n := n) ⟨E0, Hh, hst.weak hw, hI⟩ fun n a w hI' => ?_
    obtain ⟨E1, H1, hst1, hI1⟩ := hI'
    refine Go.wp_mono (ih _ E1 H1 a w hok (round n E1 H1 hI1) hst1) fun e a' w' he => ?_
    cases e with
    | normal =>
      obtain ⟨E', H', hst', m, E2, H2, hm', hwk, hI2⟩ := he
      exact ⟨m, hm', E2, H2, hst'.weak hwk, hI2⟩
    | exit id => obtain ⟨E', H', hst', h'⟩ := he; exact ⟨E', H', hst', h'⟩
    | ret => obtain ⟨E', H', hst', h'⟩ := he; exact ⟨E', H', hst', h'⟩
    | _ => exact he.elim
  | exit id => intro Q E H a w _ h hst; exact Go.wp_exit ⟨E, H, hst, h⟩
  | ret => intro Q E H a w _ h hst; exact Go.wp_ret ⟨E, H, hst, h⟩
  | _ => intro Q E H a w _ h _; exact h.elim

end

/-! ### A function -/
def resA1 (P : Program) (E : Env) (H : Heap) : ResultVar → Option D
  | .tmp t => some (E.get t)
  | .cell a t => loadD P t (E.get a) H

def resA (P : Program) (rs : List ResultVar) (E : Env) (H : Heap) : Option D := (rs.mapM (resA1 P E H)).map fun
  | [d] => d
  | ds => .tuple ds

/-- What is told may be told otherwise: a slice that is written no more, as its elements. -/
def Shift (H : Heap) (d : D) (H' : Heap) (d' : D) : Prop := ∀ w v, R w H d v → Sat H w → R w H' d' v ∧ Sat H' w ∧ ∀ k, H.held k = false → H'.held k = false

theorem Shift.less {H H' : Heap} (h : H'.Le H) (d : D) : Shift H d H' d := fun _ _ hr hs => ⟨hr.less h, hs.less h, fun _ hn => h.held hn⟩
theorem Shift.trans {H H' H'' : Heap} {d d' d'' : D} (h : Shift H d H' d') (k : Shift H' d' H'' d'') : Shift H d H'' d'' := fun w v hr hs =>
  let ⟨a, b, c⟩ := h w v hr hs; let ⟨e, f, g⟩ := k w v a b; ⟨e, f, fun i hi => g i (c i hi)⟩

def retQ (P : Program) (rs : List ResultVar) (Q : D → Heap → Prop) : AX → Env → Heap → Prop
  | .exit _, _, _ => False
  | _, E, H => ∃ r, resA P rs E H = some r ∧ ∃ H' r', Shift H r H' r' ∧ Q r' H'

def argEnv : Nat → List D → Env
  | _, [] => []
  | i, d :: ds => (i, d) :: argEnv (i + 1) ds

section
variable {P : Program}

theorem argEnv_get : ∀ (ds : List D) (k i : Nat), (argEnv k ds).get i = if k ≤ i then (ds[i - k]?).getD .undef else .undef
  | [], k, i => by simp [argEnv, Env.get]
  | d :: ds, k, i => by
    simp only [argEnv, Env.get]
    by_cases hki : k = i
    · subst hki; rw [if_pos rfl, if_pos (Nat.le_refl _)]; simp
    · rw [if_neg hki, argEnv_get ds]
      by_cases h : k + 1 ≤ i
      · rw [if_pos h, if_pos (by omega), show i - k = (i - (k + 1)) + 1 by omega, List.getElem?_cons_succ]
      · rw [if_neg h, if_neg (by omega)]

theorem res_sound {N : Nat} {w0 : World} {H0 : Heap} {E : Env} {H : Heap} {a : Act} {w : World} (hst : St N w0 H0 E H a w) {fn : Func} {r : D} (h : resA P fn.results.toList E H = some r) :
    ∃ v, (results fn a.tmps).run P w = .ok v w ∧ R w H r v := by
  unfold resA at h
  obtain ⟨ds, hds, hr⟩ := Option.map_eq_some_iff.1 h
  have key : ∀ (rs : List ResultVar) (ds : List D), rs.mapM (resA1 P E H) = some ds → ∃ vs : List Value, (rs.mapM fun (x : ResultVar) => match x with | .tmp t => (pure (a.tmps.getD t undef) : Sem Value) | .cell b t => do loadVar t (← asAddr (a.tmps.getD b undef))).run P w = .ok vs w ∧ ds.length = vs.length ∧ ∀ (i : Nat) d, ds[i]? = some d → R w H d (vs.getD i Go.undef) := by
    intro rs
    induction rs with
    | nil => intro ds h; simp at h; subst h; exact ⟨[], rfl, rfl, by simp⟩
    | cons x rs ih =>
      intro ds h
      simp only [List.mapM_cons, Option.bind_eq_bind, Option.bind_eq_some_iff, Option.pure_def] at h
      obtain ⟨d0, h0, r0, h1, h2⟩ := h
      cases h2
      obtain ⟨vs, hvs, hl, hR⟩ := ih r0 h1
      have one : ∃ v, (match x with | .tmp t => (pure (a.tmps.getD t undef) : Sem Value) | .cell b t => do loadVar t (← asAddr (a.tmps.getD b undef))).run P w = .ok v w ∧ R w H d0 v := by
        cases x with
        | tmp t =>
          simp only [resA1, Option.some.injEq] at h0
          subst h0
          exact ⟨_, rfl, hst.env t⟩
        | cell b t =>
          simp only [resA1] at h0
          obtain ⟨u, hu, hRu⟩ := load_sound (P := P) hst.sat h0 (hst.env b)
          refine ⟨u, ?_, hRu⟩
          unfold Instr.loadAt at hu
          simp only [Act.eval] at hu
          have hsa : ∀ (z : Value) (A : Addr) (w : World), (Instr.sureAddr z).run P w = .ok A w → (asAddr z).run P w = .ok A w := by
            intro z A w hz
            cases z with
            | pointer o =>
              cases o with
              | none => exact absurd hz (by simp [Instr.sureAddr, stuck])
              | some y => exact hz
            | _ => exact absurd hz (by simp [Instr.sureAddr, stuck])
          rw [Sem.run_bind] at hu ⊢
          cases hs : (Instr.sureAddr (a.tmps.getD b undef)).run P w with
          | ok A w' =>
            have hww : w' = w := by
              unfold Instr.sureAddr at hs
              split at hs
              · cases hs; rfl
              · cases hs
            subst hww
            rw [hs] at hu
            rw [hsa _ _ _ hs]
            exact hu
          | halt x w' => rw [hs] at hu; cases hu
      obtain ⟨v, hv, hRv⟩ := one
      refine ⟨v :: vs, ?_, by simp [hl], fun i d hd => ?_⟩
      · rw [List.mapM_cons, Sem.run_bind, hv]
        simp only [Result.andThen_ok]
        rw [Sem.run_bind, hvs]
        rfl
      · cases i with
        | zero => simp at hd; subst hd; simpa using hRv
        | succ i => simp at hd; simpa using hR i d hd
  obtain ⟨vs, hvs, hl, hR⟩ := key _ _ hds
  have hrun : (results fn a.tmps).run P w = .ok (if h : vs.toArray.size = 1 then vs.toArray[0] else .tuple vs.toArray) w := by
    unfold results
    rw [Sem.run_bind, Array.mapM_eq_mapM_toList]
    simp only [Functor.map]
    rw [Sem.run_bind']
    exact congrArg (fun r : Result (List Value) => (r.andThen fun a w' => Sem.run P ((Sem.pure ∘ List.toArray) a) w').andThen fun a w' => Sem.run P (pure (if h : a.size = 1 then a[0] else Value.tuple a)) w') hvs
  refine ⟨_, hrun, ?_⟩
  match ds, vs, hl, hr, hR with
  | [d], [v], _, hr, hR => simp only at hr; subst hr; simpa using hR 0 d rfl
  | [], [], _, hr, hR => simp only at hr; subst hr; exact .tuple _ _ rfl (by simp)
  | d1 :: d2 :: ds, v1 :: v2 :: vs, hl, hr, hR =>
    simp only at hr; subst hr
    rw [dif_neg (by simp)]
    exact .tuple _ _ (by simpa using hl) (fun i d hd => by simpa using hR i d hd)

/-- **A body walked on abstract values is a call.** -/
theorem acalls_of_wp {f : Nat} (Z : List (Nat × Bool)) {fn : Func} {c : Code} {args : List D} {H : Heap} {Q : D → Heap → Prop} (hm : P.follows .mixedOrders = true) (hf : P.funcs[f]? = some fn) (hb : fn.body = some c) (hbo : bodied P f = true) (hn : args.length ≤ fn.ntmps)
    (hok : codeOk P Z fn.ntmps c = true) (h : wp P Z c (retQ P fn.results.toList Q) (argEnv 0 args) H) : ACalls P f args H Q := by
  refine ⟨hbo, fun w vs hl hR hs => calls_of_wp hf hb ?_⟩
  have hst : St fn.ntmps w H (argEnv 0 args) H { tmps := vs ++ Array.replicate (fn.ntmps - vs.size) undef, defers := [] } w := by
    refine ⟨by simp; omega, rfl, fun i => ?_, hs, Ext.refl _ _, From.refl _ _⟩
    rw [argEnv_get, if_pos (Nat.zero_le _), Nat.sub_zero]
    cases hi : args[i]? with
    | none => exact .undef _
    | some d =>
      have hlt := (List.getElem?_eq_some_iff.1 hi).1
      have : ({ tmps := vs ++ Array.replicate (fn.ntmps - vs.size) undef, defers := [] } : Act).eval (.tmp i) = vs.getD i undef := by
        simp only [Act.eval]
        exact getD_append_left (by omega)
      rw [this]
      exact hR i d hi
  have fin : ∀ (x : AX) (E : Env) (H' : Heap) (a : Act) (w' : World), (x = .normal ∨ x = .ret) → St fn.ntmps w H E H' a w' → retQ P fn.results.toList Q x E H' →
      a.defers = [] ∧ ∃ v, (results fn a.tmps).run P w' = .ok v w' ∧ ∃ v', Ending.returned v = .returned v' ∧ Post H w Q v' w' := by
    intro x E H' a w' hx hst' hq
    have hq' : ∃ r, resA P fn.results.toList E H' = some r ∧ ∃ H1 r', Shift H' r H1 r' ∧ Q r' H1 := by rcases hx with rfl | rfl <;> exact hq
    obtain ⟨r, hr, H1, r', hle, hQ⟩ := hq'
    obtain ⟨v, hv, hRv⟩ := res_sound (P := P) hst' hr
    obtain ⟨k1, k2, k3⟩ := hle _ _ hRv hst'.sat
    exact ⟨hst'.defers, v, hv, v, rfl, r', H1, k1, k2, hst'.ext, fun k hk hn => k3 k (hst'.frm k hk hn), hQ⟩
  refine Go.wp_mono (wp_sound hm c _ _ _ _ _ hok h hst) fun e a w' he => ?_
  cases e with
  | normal => obtain ⟨E, H', hst', hq⟩ := he; exact fin .normal E H' a w' (.inl rfl) hst' hq
  | ret => obtain ⟨E, H', hst', hq⟩ := he; exact fin .ret E H' a w' (.inr rfl) hst' hq
  | exit id => obtain ⟨E, H', hst', hq⟩ := he; exact hq.elim
  | _ => exact he.elim

/-- A call's arguments told otherwise. -/
theorem ACalls.shift {f : Nat} {args args' : List D} {H H' : Heap} {Q : D → Heap → Prop} (hs : ∀ w (vs : Array Value), args.length = vs.size → (∀ (i : Nat) d, args[i]? = some d → R w H d (vs.getD i Go.undef)) → Sat H w →
    args'.length = vs.size ∧ (∀ (i : Nat) d, args'[i]? = some d → R w H' d (vs.getD i Go.undef)) ∧ Sat H' w ∧ ∀ k, H.held k = false → H'.held k = false) (h : ACalls P f args' H' Q) : ACalls P f args H Q := by
  refine ⟨h.1, fun w vs h1 h2 h3 => ?_⟩
  obtain ⟨k1, k2, k3, k4⟩ := hs w vs h1 h2 h3
  refine (h.2 w vs k1 k2 k3).mono fun e w' ⟨v, he, d, H1, p1, p2, p3, p4, p5⟩ => ⟨v, he, d, H1, p1, p2, ⟨p3.os, p3.tape, p3.output, p3.size, fun k hk hn => p3.block k hk (k4 k hn), p3.shape⟩, fun k hk hn => p4 k hk (k4 k hn), p5⟩

theorem Heap.del_le (H : Heap) (b : Nat) : (H.del b).Le H := fun k o h => by
  unfold Heap.del at h
  split at h
  · cases h
  · exact h

/-- A slice that is written no more is its elements. -/
theorem freeze_vec {w : World} {H : Heap} {b sz lo n : Nat} {es : List (List D)} {v : Value} (hr : R w H (.vec b sz lo n) v) (hs : Sat H w) (hb : H b = some (.vec sz es)) (hn : lo + n ≤ es.length) :
    R w (H.del b) (.sl sz ((es.drop lo).take n)) v := by
  have hlt := hs.lt hb
  obtain ⟨c, T, x, y, h1, h2, h3, h4⟩ := vec_inv (hs b _ hb)
  cases hr with
  | vec b sz lo n cap T m hb' hs' hsz hn' =>
  have hlen : ((es.drop lo).take n).length = n := by simp; omega
  have hget : ∀ (i : Nat) (e : List D), ((es.drop lo).take n)[i]? = some e → i < n ∧ es[lo + i]? = some e := fun i e he => by
    have hi := (List.getElem?_eq_some_iff.1 he).1
    rw [hlen] at hi
    rw [List.getElem?_take_of_lt hi, List.getElem?_drop] at he
    exact ⟨hi, he⟩
  have hR := R.sl (w := w) (H := H.del b) sz ((es.drop lo).take n) b (lo * sz) cap (fun i j => c.getD ((lo + i) * sz + j) Go.undef) hlt (held_none (by simp [Heap.del]))
    (fun i e he => h4.each _ _ (hget i e he).2) (by rw [hlen]; exact hn') (fun i j hi hj => ?_) (fun i e j d he hd => h4.one _ _ _ _ (hget i e he).2 hd)
    (fun i e j d he hd => (h4.rel _ _ _ _ (hget i e he).2 hd).less (Heap.del_le H b))
  · rw [hlen] at hR; exact hR
  · rw [hlen] at hi
    have e1 : lo * sz + i * sz + j = (lo + i) * sz + j := by rw [Nat.add_mul]
    rw [e1, cell_at h1]
    have h5 : (lo + i + 1) * sz ≤ es.length * sz := Nat.mul_le_mul_right _ (by omega)
    rw [Nat.add_mul (lo + i), Nat.one_mul] at h5
    have h6 := h4.le
    have h7 : (lo + i) * sz + j < c.size := by omega
    simp [h7]

/-- 'd' with the slice in block 'b' told as its elements. -/
inductive Fz (b sz : Nat) (es : List (List D)) : D → D → Prop
  | same (d : D) : Fz b sz es d d
  | nil (sz' : Nat) : Fz b sz es .nilsl (.sl sz' [])
  | vec (lo n : Nat) (h : lo + n ≤ es.length) : Fz b sz es (.vec b sz lo n) (.sl sz ((es.drop lo).take n))
  | all : Fz b sz es (.vec b sz 0 es.length) (.sl sz es)
  | tuple (ds ds' : List D) (hl : ds.length = ds'.length) (h : ∀ (i : Nat) d d', ds[i]? = some d → ds'[i]? = some d' → Fz b sz es d d') : Fz b sz es (.tuple ds) (.tuple ds')

theorem Fz.R {w : World} {H : Heap} {b sz : Nat} {es : List (List D)} (hs : Sat H w) (hb : H b = some (.vec sz es)) {d d' : D} (h : Fz b sz es d d') : ∀ {v : Value}, R w H d v → R w (H.del b) d' v := by
  induction h with
  | same d => exact fun hr => hr.less (Heap.del_le H b)
  | nil sz' => intro v hr; cases hr; exact .sl0 _ _ _
  | vec lo n h => exact fun hr => freeze_vec hr hs hb h
  | all => intro v hr; have := freeze_vec hr hs hb (by omega); rwa [List.drop_zero, List.take_length] at this
  | tuple ds ds' hl h ih =>
    intro v hr
    obtain ⟨vs, rfl, hl', hr'⟩ := hr.tuple_inv
    refine .tuple _ _ (by omega) fun i d' hd' => ?_
    have hi := (List.getElem?_eq_some_iff.1 hd').1
    have hd : ds[i]? = some (ds[i]'(by omega)) := List.getElem?_eq_getElem _
    exact ih i _ _ hd hd' (hr' i _ hd)

theorem Fz.one {b sz : Nat} {es : List (List D)} {d d' : D} (h : Fz b sz es d d') (h1 : d.one = true) : d'.one = true := by
  cases h with
  | same => exact h1
  | nil => rfl
  | vec => rfl
  | all => rfl
  | tuple => cases h1

/-- An owned block with the slice in block 'b' told as its elements. -/
inductive OFz (b sz : Nat) (es : List (List D)) : Obj → Obj → Prop
  | same (o : Obj) : OFz b sz es o o
  | box (cs cs' : List D) (hl : cs.length = cs'.length) (h : ∀ (i : Nat) d d', cs[i]? = some d → cs'[i]? = some d' → Fz b sz es d d') : OFz b sz es (.box cs) (.box cs')
  | vec (s : Nat) (xs xs' : List (List D)) (hl : xs.length = xs'.length) (h : ∀ (i : Nat) x x', xs[i]? = some x → xs'[i]? = some x' → x.length = x'.length ∧ ∀ (j : Nat) d d', x[j]? = some d → x'[j]? = some d' → Fz b sz es d d') : OFz b sz es (.vec s xs) (.vec s xs')

/-- **In the midst of a function a slice that is written no more may be told as its elements.** -/
theorem weak_freeze {E E' : Env} {H H' : Heap} {b sz : Nat} {es : List (List D)} (hb : H b = some (.vec sz es)) (hE : ∀ p ∈ E', Fz b sz es (E.get p.1) p.2)
    (hH : ∀ k o', H' k = some o' → k ≠ b ∧ ∃ o, H k = some o ∧ OFz b sz es o o') : Weak E' H' E H := by
  intro N w0 Hz a w hst
  have hs := hst.sat
  have hheld : ∀ k, H.held k = false → H'.held k = false := fun k hk => by
    cases ho : H' k with
    | none => exact held_none ho
    | some o' =>
      obtain ⟨_, o, h1, h2⟩ := hH k o' ho
      rw [held_of h1] at hk
      rw [held_of ho]
      cases h2 <;> exact hk
  have hR : ∀ {d d' : D} {v : Value}, Fz b sz es d d' → R w H d v → R w H' d' v := fun hf hr => (hf.R hs hb hr).mono (Ext.refl _ _) fun k _ hk => by
    by_cases hkb : k = b
    · subst hkb
      cases ho : H' k with
      | none => exact held_none ho
      | some o' => exact absurd rfl (hH k o' ho).1
    · refine hheld k ?_
      rw [← held_ne (H := H) (H' := H.del b) (k := k) (by unfold Heap.del; rw [if_neg hkb])]
      exact hk
  refine ⟨hst.size, hst.defers, fun i => ?_, fun k o' ho => ?_, hst.ext, fun k hk hn => hheld k (hst.frm k hk hn)⟩
  · have key : ∀ (L : Env), (∀ p ∈ L, Fz b sz es (E.get p.1) p.2) → R w H' (L.get i) (a.eval (.tmp i)) := by
      intro L
      induction L with
      | nil => intro _; exact .undef _
      | cons p L ih =>
        intro hL
        obtain ⟨j, d⟩ := p
        simp only [Env.get]
        by_cases hj : j = i
        · subst hj
          rw [if_pos rfl]
          exact hR (hL (j, d) (by simp)) (hst.env j)
        · rw [if_neg hj]; exact ih (fun p hp => hL p (by simp [hp]))
    exact key E' hE
  · obtain ⟨_, o, h1, h2⟩ := hH k o' ho
    have hok := hs k o h1
    cases h2 with
    | same => exact hok.mono (Ext.refl H w) (fun k _ hk => hheld k hk) rfl
    | box cs cs' hl hf =>
      obtain ⟨c, T, lo, hi, k1, k2, k3, k4⟩ := hok
      refine ⟨c, T, lo, hi, k1, k2, by omega, fun j d' hd' => ?_⟩
      have hj := (List.getElem?_eq_some_iff.1 hd').1
      have hd : cs[j]? = some (cs[j]'(by omega)) := List.getElem?_eq_getElem _
      have hfz := hf j _ _ hd hd'
      exact ⟨hfz.one (k4 j _ hd).1, hR hfz (k4 j _ hd).2⟩
    | vec s xs xs' hl hf =>
      obtain ⟨c, T, lo, hi, k1, k2, k3, k4, k5, k6⟩ := hok
      refine ⟨c, T, lo, hi, k1, k2, k3, by rw [← hl]; exact k4, fun i x' hx' => ?_, fun i x' j d' hx' hd' => ?_⟩
      · have hi' := (List.getElem?_eq_some_iff.1 hx').1
        have hx : xs[i]? = some (xs[i]'(by omega)) := List.getElem?_eq_getElem _
        rw [← (hf i _ _ hx hx').1]; exact k5 i _ hx
      · have hi' := (List.getElem?_eq_some_iff.1 hx').1
        have hx : xs[i]? = some (xs[i]'(by omega)) := List.getElem?_eq_getElem _
        obtain ⟨hlen, hfz⟩ := hf i _ _ hx hx'
        have hj := (List.getElem?_eq_some_iff.1 hd').1
        have hd : (xs[i]'(by omega))[j]? = some ((xs[i]'(by omega))[j]'(by omega)) := List.getElem?_eq_getElem _
        have hz := hfz j _ _ hd hd'
        exact ⟨hz.one (k6 i _ j _ hx hd).1, hR hz (k6 i _ j _ hx hd).2⟩

theorem Shift.freeze {H : Heap} {b sz : Nat} {es : List (List D)} (hb : H b = some (.vec sz es)) {d d' : D} (h : Fz b sz es d d') : Shift H d (H.del b) d' := fun w v hr hs =>
  ⟨h.R hs hb hr, hs.less (Heap.del_le H b), fun _ hn => (Heap.del_le H b).held hn⟩

/-- The same of a call's arguments. -/
theorem ACalls.freeze {f : Nat} {args args' : List D} {H : Heap} {Q : D → Heap → Prop} {b sz : Nat} {es : List (List D)} (hb : H b = some (.vec sz es)) (hl : args.length = args'.length) (hz : ∀ (i : Nat) d d', args[i]? = some d → args'[i]? = some d' → Fz b sz es d d')
    (h : ACalls P f args' (H.del b) Q) : ACalls P f args H Q :=
  h.shift fun w vs h1 h2 h3 => ⟨by omega, fun i d' hd' => by
    have hi := (List.getElem?_eq_some_iff.1 hd').1
    have hd : args[i]? = some (args[i]'(by omega)) := List.getElem?_eq_getElem _
    exact (hz i _ _ hd hd').R h3 hb (h2 i _ hd), h3.less (Heap.del_le H b), fun _ hn => (Heap.del_le H b).held hn⟩

theorem R.nil_sl {w : World} {H : Heap} {v : Value} (sz : Nat) (h : R w H .nilsl v) : R w H (.sl sz []) v := by cases h; exact .sl0 _ _ _

/-- A nil slice is an empty one. -/
theorem ACalls.nil1 {f : Nat} {H : Heap} {Q : D → Heap → Prop} (sz : Nat) (h : ACalls P f [.sl sz []] H Q) : ACalls P f [.nilsl] H Q :=
  ACalls.shift (args' := [.sl sz []]) (fun w vs h1 h2 h3 => ⟨h1, fun i d hd => by
    match i, hd with
    | 0, hd => simp at hd; subst hd; exact (h2 0 _ rfl).nil_sl sz
    | i + 1, hd => simp at hd, h3, fun _ hn => hn⟩) h
theorem ACalls.nil2 {f : Nat} {a : D} {H : Heap} {Q : D → Heap → Prop} (sz : Nat) (h : ACalls P f [a, .sl sz []] H Q) : ACalls P f [a, .nilsl] H Q :=
  ACalls.shift (args' := [a, .sl sz []]) (fun w vs h1 h2 h3 => ⟨h1, fun i d hd => by
    match i, hd with
    | 0, hd => simp at hd; subst hd; exact h2 0 _ rfl
    | 1, hd => simp at hd; subst hd; exact (h2 1 _ rfl).nil_sl sz
    | i + 2, hd => simp at hd, h3, fun _ hn => hn⟩) h

end
end Go.Av
