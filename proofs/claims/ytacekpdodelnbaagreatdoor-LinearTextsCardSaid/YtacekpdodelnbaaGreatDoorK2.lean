/- Part of the proof: what the last text builds on. No condition stands here. -/
import Derived.Test.YtacekpdodelnbaaGreatDoorProg
import Derived.Test.YtacekpdodelnbaaGreatDoorRows
import Derived.Test.YtacekpdodelnbaaGreatDoorK1
set_option linter.unusedSimpArgs false
set_option linter.unusedVariables false
section
namespace Go.Av
abbrev FEnv := Nat → D
def FEnv.put (F : FEnv) : Option Nat → D → FEnv
 | some t, d => fun k => if t = k then d else F k
 | none, _ => F
def FEnv.ev (F : FEnv) : Operand → D
 | .tmp t => F t
 | .const v => D.ofValue v
 | .global g => .glob g
 | .func f => .fn (.func f) [] []
def vecB : D → List Nat
 | .vec b _ _ _ | .box b _ => [b]
 | _ => []
def rdB : D → List Nat
 | .box b _ | .el b _ _ _ | .vec b _ _ _ | .map b | .glob b => [b]
 | .fn _ as_ bs => (as_ ++ bs).flatMap vecB
 | _ => []
theorem vecB_rdB {d : D} {b : Nat} (h : b ∈ vecB d) : b ∈ rdB d := by cases d <;> simp_all [vecB, rdB]
structure Ef where
 rd : List Nat
 del : List Nat
 new : Option Obj
 at_ : Option Nat
 val : Nat → D
def Ef.app (e : Ef) (b : Nat) (H : Heap) : Heap := match e.new with
 | none => H.minus e.del
 | some o => (H.minus e.del).set b o
def Ef.okB (e : Ef) (b : Nat) (U : Nat → Prop) : Prop := match e.new, e.at_ with
 | none, _ => True
 | some _, some c => b = c
 | some _, none => ¬ U b ∨ b ∈ e.del
def Ef.used (e : Ef) (b : Nat) (U : Nat → Prop) : Nat → Prop := match e.new with
 | none => U
 | some _ => fun k => U k ∨ k = b
def rwAt (o : Option Obj) : Bool := match o with
 | some o => o.rw
 | none => false
structure Bl where
 l : List Nat
 no : List Nat := []
 may : List Nat := []
def BlPair (Bi Bj : Bl) : Prop := (∀ b ∈ Bj.l, b ∉ Bj.no → b ∈ Bi.l ∧ b ∉ Bi.may) ∧ ∀ b ∈ Bi.l, b ∉ Bi.no → b ∈ Bj.l ∧ b ∉ Bj.may
structure okEf (bl : Bl) (H : Heap) (e : Ef) : Prop where
 rd : ∀ b ∈ e.rd, (b ∈ bl.l ∧ H b ≠ none) ∧ b ∉ bl.no
 del : ∀ b ∈ e.del, (e.at_ = none → b ∉ bl.l ∨ b ∈ bl.may) ∧ rwAt (H b) = true
 new : ∀ o, e.new = some o → o.rw = true
 at_ : ∀ b, e.at_ = some b → b ∈ e.del
def val (d : D) (rd : List Nat) : Ef := ⟨rd, [], none, none, fun _ => d⟩
def make (f : Nat → D) (o : Obj) : Ef := ⟨[], [], some o, none, f⟩
def outB (bl : List Nat) (l : List Nat) : List Nat := l.filter fun b => !bl.contains b
def inB (bl : List Nat) (l : List Nat) : List Nat := l.filter fun b => bl.contains b
def appE (P : Program) (bl : List Nat) (H : Heap) (t t' : TypeId) (s x : D) : Option Ef := (elemT P t).bind fun T =>
 if 0 < T.2.1 ∧ (baseT P t' = .slice ∨ baseT P t' = .str) ∧ (zeroD P T.1).map (·.length) = some T.2.1 then (elemsD H T.2.1 x).bind fun xs => match s with
  | .nilsl => if xs.length * T.2.2 ≤ 140737488355328 ∧ xs.length ≤ 9223372036854775807 ∧ xs.isEmpty = false then some ⟨inB bl (vecB x), outB bl (vecB x), some (.vec T.2.1 xs), none, fun b => .vec b T.2.1 0 xs.length⟩ else none
  | .vec b sz' lo n => match H b with
   | some (.vec sz'' es) => if sz' = T.2.1 ∧ sz'' = T.2.1 ∧ lo = 0 ∧ n ≤ es.length ∧ (n + xs.length) * T.2.2 ≤ 140737488355328 ∧ n + xs.length ≤ 9223372036854775807 then
     some ⟨inB bl (vecB x), b :: outB bl (vecB x), some (.vec T.2.1 (es.take n ++ xs)), none, fun b' => .vec b' T.2.1 0 (n + xs.length)⟩ else none
   | _ => none
  | _ => none else none
def bsE (P : Program) (t : TypeId) (len : Nat) (ps : List (Nat × D)) : Option Ef := (elemT P t).bind fun T => if 0 < T.2.1 ∧ len * T.2.1 ≤ 16777216 then (zeroD P T.1).bind fun z =>
 if z.length = T.2.1 then (setE (List.replicate len z) ps).map fun es => make (fun b => .vec b T.2.1 0 len) (.vec T.2.1 es) else none else none
def msE (P : Program) (t : TypeId) (l c : D) : Option Ef := (elemT P t).bind fun T => if 0 < T.2.1 then (zeroD P T.1).bind fun z => match l, c with
 | .int _ n, .int _ m => if z.length = T.2.1 ∧ 0 ≤ n ∧ n ≤ m ∧ (T.2.2 : Int) * m ≤ 281474976710656 ∧ m < 9223372036854775808 then some (make (fun b => .vec b T.2.1 0 n.toNat) (.vec T.2.1 (List.replicate n.toNat z))) else none
 | _, _ => none else none
theorem msE_inv {P : Program} {t : TypeId} {l c : D} {e : Ef} (h : msE P t l c = some e) : ∃ e' sz by_ z k n k' m, elemT P t = some (e', sz, by_) ∧ 0 < sz ∧ zeroD P e' = some z ∧ z.length = sz ∧ l = .int k n ∧ c = .int k' m ∧ 0 ≤ n ∧ n ≤ m ∧ (by_ : Int) * m ≤ 281474976710656 ∧ m < 9223372036854775808 ∧
  e = make (fun b => .vec b sz 0 n.toNat) (.vec sz (List.replicate n.toNat z)) := by
 unfold msE at h
 obtain ⟨⟨e', sz, by_⟩, hT, h⟩ := Option.bind_eq_some_iff.1 h
 split at h
 ·rename_i h1
  obtain ⟨z, hz, h⟩ := Option.bind_eq_some_iff.1 h
  split at h
  ·split at h
   ·rename_i h2
    cases h
    exact ⟨e', sz, by_, z, _, _, _, _, hT, h1, hz, h2.1, rfl, rfl, h2.2.1, h2.2.2.1, h2.2.2.2.1, h2.2.2.2.2, rfl⟩
   ·cases h
  ·cases h
 ·cases h
theorem msE_mk {P : Program} {t : TypeId} {e' sz by_ : Nat} {z : List D} {k k' : IntKind} {n m : Int} (hT : elemT P t = some (e', sz, by_)) (h1 : 0 < sz) (hz : zeroD P e' = some z) (h2 : z.length = sz) (h3 : 0 ≤ n) (h4 : n ≤ m) (h5 : (by_ : Int) * m ≤ 281474976710656) (h6 : m < 9223372036854775808) :
  msE P t (.int k n) (.int k' m) = some (make (fun b => .vec b sz 0 n.toNat) (.vec sz (List.replicate n.toNat z))) := by
 unfold msE
 rw [hT, Option.bind_some, if_pos h1, hz, Option.bind_some]
 simp only []
 rw [if_pos ⟨h2, h3, h4, h5, h6⟩]
def storeE' (P : Program) (t : TypeId) (a x : D) (H : Heap) : Option Ef := (storeD P t a x H).bind fun H' => match a with
 | .box b _ | .el b _ _ _ => (H' b).map fun o => ⟨[], [b], some o, some b, fun _ => .undef⟩
 | _ => none
structure CR where
 new : Option Obj
 val : Nat → D
def CR.c (d : D) : CR := ⟨none, fun _ => d⟩
def CR.f (c : CR) : Nat → D := match c.new with
 | none => fun _ => c.val 0
 | some _ => c.val
def CR.mk' (f : Nat → D) (o : Obj) : CR := ⟨some o, f⟩
def runX (P : Program) (c : CR) (bl : List Nat) (ev : Operand → D) (H : Heap) (op : Op) : Option Ef := match op with
 | .load t x => (loadD P t (ev x) H).map fun d => val d (rdB (ev x))
 | .lookup t m k ok => (lookupD P t (ev m) (ev k) ok H).map fun d => val d (rdB (ev m))
 | .alloc t => (zeroD P t).map fun z => make (fun b => .box b 0) (.box z (bldT P t))
 | .box _ x => if (ev x).cells.all D.one = true then some (make (fun b => .box b 0) (.box (ev x).cells)) else none
 | .buildSlice t len parts => bsE P t len (parts.toList.map fun p => (p.1, ev p.2))
 | .makeSlice t l c => msE P t (ev l) (ev c)
 | .makeMap _ none => some (make (fun b => .map b) (.map []))
 | .store t a x => storeE' P t (ev a) (ev x) H
 | .call ⟨.builtin .append, args, ts⟩ => match ts.toList, args.toList with
  | [t, t'], [s, x] => appE P bl H t t' (ev s) (ev x)
  | _, _ => none
 | .call ⟨.value f, args, ts⟩ => match ev f with
  | .fn (.func _) first cap => some ⟨inB bl ((first ++ args.toList.map ev ++ cap).flatMap vecB), outB bl ((first ++ args.toList.map ev ++ cap).flatMap vecB), c.new, none, c.f⟩
  | _ => none
 | _ => none
def runE (P : Program) (c : CR) (bl : List Nat) (ev : Operand → D) (H : Heap) (op : Op) : Option Ef := if cls P op = .pure then (pureD P ev op).map fun d => val d [] else runX P c bl ev H op
def CR.post (c : CR) (H' : Heap) (del : List Nat) (d : D) (H'' : Heap) : Prop := match c.new with
 | none => d = c.val 0 ∧ (H'.minus del).Le H''
 | some o => ∃ b, (H' b = none ∨ b ∈ del) ∧ d = c.val b ∧ ((H'.minus del).set b o).Le H''
def PureC (P : Program) (g : Nat) (as_ : List D) (H : Heap) (foot del : List Nat) (c : CR) : Prop :=
 ∀ H' : Heap, (∀ k cs, H k = some (.ro cs) → H' k = some (.ro cs)) → (∀ b ∈ foot, H' b = H b) → ACalls P g as_ H' (c.post H' del)
def callOk (P : Program) (c : CR) (bl : List Nat) (ev : Operand → D) (H : Heap) (op : Op) : Prop := match op with
 | .call ⟨.value f, args, ts⟩ => match ev f with
  | .fn (.func g) first cap => PureC P g (first ++ args.toList.map ev ++ cap) H ((first ++ args.toList.map ev ++ cap).flatMap vecB) (outB bl ((first ++ args.toList.map ev ++ cap).flatMap vecB)) c
  | _ => False
 | _ => True
section
variable {P : Program} {c : CR} {bl : List Nat} {bb Bi Bj : Bl} {ev ev' : Operand → D} {H H' : Heap}
theorem inB_mem {l : List Nat} {b : Nat} : b ∈ inB bl l ↔ b ∈ l ∧ b ∈ bl := by simp [inB]
theorem outB_mem {l : List Nat} {b : Nat} : b ∈ outB bl l ↔ b ∈ l ∧ b ∉ bl := by simp [outB]
theorem map_ev {l : List Operand} (h : ∀ x ∈ l, ev x = ev' x) : l.map ev = l.map ev' := List.map_congr_left h
theorem parts_ev {l : List (Nat × Operand)} (h : ∀ x ∈ l.map (·.2), ev x = ev' x) : (l.map fun p => (p.1, ev p.2)) = l.map fun p => (p.1, ev' p.2) :=
 List.map_congr_left fun p hp => by rw [h p.2 (List.mem_map.2 ⟨p, hp, rfl⟩)]
theorem pureD_congr {op : Op} (hc : cls P op = .pure) (h : ∀ x ∈ op.operands.toList, ev x = ev' x) : pureD P ev op = pureD P ev' op := by
 cases op
 case build t parts =>
  simp only [pureD, parts_ev (ev := ev) (ev' := ev') (l := parts.toList) (fun x hx => h x (by simpa [Op.operands] using hx))]
 case slice t x lo hi m =>
  have hx := h x (by simp [Op.operands])
  have hlo : lo.map ev = lo.map ev' := by
   cases lo with
   | none => rfl
   | some l => simp only [Option.map_some, h l (by simp [Op.operands])]
  have hhi : hi.map ev = hi.map ev' := by
   cases hi with
   | none => rfl
   | some l => simp only [Option.map_some, h l (by simp [Op.operands])]
  cases m <;> simp only [pureD, hx, hlo, hhi]
 case makeFunc fn first cap =>
  simp only [pureD, map_ev (l := first.toList) (fun x hx => h x (by simp [Op.operands]; exact .inl (by simpa using hx))), map_ev (l := cap.toList) (fun x hx => h x (by simp [Op.operands]; exact .inr (by simpa using hx)))]
 case call cc =>
  obtain ⟨callee, args, ats⟩ := cc
  cases callee with
  | value f => simp [cls] at hc
  | invoke r m => simp [cls] at hc
  | builtin b =>
   have ha : ∀ x ∈ args.toList, ev x = ev' x := fun x hx => h x (by simp [Op.operands, Call.operands] at *; exact hx)
   cases b <;> try (simp [cls] at hc; done)
   case len =>
    simp only [pureD]
    cases h1 : ats[0]? with
    | none => rfl
    | some t =>
     cases h2 : args[0]? with
     | none => rfl
     | some x => simp only [ha x (by rw [Array.mem_toList_iff]; exact Array.mem_of_getElem? h2)]
   case cap =>
    simp only [pureD]
    cases h1 : ats[0]? with
    | none => rfl
    | some t =>
     cases h2 : args[0]? with
     | none => rfl
     | some x => simp only [Option.map_some, ha x (by rw [Array.mem_toList_iff]; exact Array.mem_of_getElem? h2)]
   case min => simp only [pureD, map_ev ha]
   case max => simp only [pureD, map_ev ha]
 all_goals first
  | rfl
  | (simp only [Op.operands, Array.toList_toArray, List.mem_cons, List.not_mem_nil, or_false, forall_eq_or_imp, forall_eq] at h; simp only [pureD, h]; done)
  | (simp only [Op.operands] at h; simp at h; simp only [pureD, h]; done)
  | (simp [cls] at hc; done)
theorem runE_pure {op : Op} (hc : cls P op = .pure) : runE P c bl ev H op = (pureD P ev op).map fun d => val d [] := if_pos hc
theorem runE_eff {op : Op} (hc : cls P op ≠ .pure) : runE P c bl ev H op = runX P c bl ev H op := if_neg hc
theorem runE_congr {op : Op} (h : ∀ x ∈ op.operands.toList, ev x = ev' x) : runE P c bl ev H op = runE P c bl ev' H op := by
 by_cases hc : cls P op = .pure
 ·rw [runE_pure hc, runE_pure hc, pureD_congr hc h]
 ·rw [runE_eff hc, runE_eff hc]
  cases op
  case load t x => simp only [runX, h x (by simp [Op.operands])]
  case lookup t m k ok => simp only [runX, h m (by simp [Op.operands]), h k (by simp [Op.operands])]
  case box t x => simp only [runX, h x (by simp [Op.operands])]
  case makeSlice t l c => simp only [runX, h l (by simp [Op.operands]), h c (by simp [Op.operands])]
  case buildSlice t n parts => simp only [runX, parts_ev (ev := ev) (ev' := ev') (l := parts.toList) (fun x hx => h x (by simpa [Op.operands] using hx))]
  case store t a x => simp only [runX, h a (by simp [Op.operands]), h x (by simp [Op.operands])]
  case call cc =>
   obtain ⟨callee, args, ats⟩ := cc
   cases callee with
   | value f =>
    have hf := h f (by simp [Op.operands, Call.operands])
    have ha := map_ev (ev := ev) (ev' := ev') (l := args.toList) (fun x hx => h x (by simp [Op.operands, Call.operands]; exact .inr (by simpa using hx)))
    simp only [runX, hf, ha]
   | invoke r m => simp [runX]
   | builtin b =>
    cases b
    case append =>
     unfold runX
     simp only
     split
     ·rename_i t t' s x h1 h2
      rw [h s (by simp [Op.operands, Call.operands, ← Array.mem_toList_iff, h2]), h x (by simp [Op.operands, Call.operands, ← Array.mem_toList_iff, h2])]
     ·rfl
    all_goals rfl
  case makeMap t r => cases r <;> simp [runX]
  all_goals first
   | rfl
theorem callOk_congr {op : Op} (h : ∀ x ∈ op.operands.toList, ev x = ev' x) : callOk P c bl ev H op = callOk P c bl ev' H op := by
 cases op
 case call cc =>
  obtain ⟨callee, args, ats⟩ := cc
  cases callee with
  | value f =>
   have hf := h f (by simp [Op.operands, Call.operands])
   have ha := map_ev (ev := ev) (ev' := ev') (l := args.toList) (fun x hx => h x (by simp [Op.operands, Call.operands]; exact .inr (by simpa using hx)))
   simp only [callOk, hf, ha]
  | _ => rfl
 all_goals rfl
def footL (ev : Operand → D) (op : Op) : List Nat := op.operands.toList.flatMap fun x => rdB (ev x)
theorem footL_mem {op : Op} {x : Operand} {b : Nat} (hx : x ∈ op.operands.toList) (hb : b ∈ rdB (ev x)) : b ∈ footL ev op := List.mem_flatMap.2 ⟨x, hx, hb⟩
theorem elems_local {sz : Nat} {x : D} {es : List (List D)} (h : elemsD H sz x = some es) (hH : ∀ b ∈ vecB x, H' b = H b) : elemsD H' sz x = some es := by
 cases x <;> simp only [elemsD] at h ⊢ <;> try exact h
 rename_i b s lo n
 rw [hH b (by simp [vecB])]; exact h
theorem loc_local {x : D} {cs : List D} (h : locD H x = some cs) (hH : ∀ b ∈ rdB x, H' b = H b) : locD H' x = some cs := by
 cases x <;> simp only [locD] at h ⊢ <;> try exact h
 all_goals (rw [hH _ (by simp [rdB])]; exact h)
theorem kvs_local {x : D} {kvs : List (D × D)} (h : kvsOf H x = some kvs) (hH : ∀ b ∈ rdB x, H' b = H b) : kvsOf H' x = some kvs := by
 cases x <;> simp only [kvsOf] at h ⊢ <;> try exact h
 all_goals (rw [hH _ (by simp [rdB])]; exact h)
theorem runE_local {op : Op} {e : Ef} (h : runE P c bl ev H op = some e) (hH : ∀ b, b ∈ e.rd ∨ b ∈ e.del → H' b = H b) : runE P c bl ev H' op = some e := by
  by_cases hc : cls P op = .pure
  · rw [runE_pure hc] at h ⊢; exact h
  · rw [runE_eff hc] at h ⊢
    cases op
    case load t x =>
      simp only [runX, Option.map_eq_some_iff] at h ⊢
      obtain ⟨d, hd, rfl⟩ := h
      refine ⟨d, ?_, rfl⟩
      unfold loadD at hd ⊢
      obtain ⟨s, hs, hd⟩ := Option.bind_eq_some_iff.1 hd
      obtain ⟨cs, hcs, hd⟩ := Option.bind_eq_some_iff.1 hd
      rw [hs, Option.bind_some, loc_local hcs (fun b hb => hH b (.inl hb))]
      exact hd
    case lookup t m k ok =>
      simp only [runX, Option.map_eq_some_iff] at h ⊢
      obtain ⟨d, hd, rfl⟩ := h
      refine ⟨d, ?_, rfl⟩
      unfold lookupD at hd ⊢
      obtain ⟨T, hT, hd⟩ := Option.bind_eq_some_iff.1 hd
      rw [hT, Option.bind_some]
      split at hd
      · rename_i hk
        rw [if_pos hk]
        obtain ⟨z, hz, hd⟩ := Option.bind_eq_some_iff.1 hd
        obtain ⟨kvs, hkvs, hd⟩ := Option.bind_eq_some_iff.1 hd
        rw [hz, Option.bind_some, kvs_local hkvs (fun b hb => hH b (.inl hb))]
        exact hd
      · cases hd
    case alloc t => exact h
    case box t x => exact h
    case makeSlice t l c => exact h
    case buildSlice t n parts => exact h
    case store t a x =>
      simp only [runX, storeE'] at h ⊢
      obtain ⟨H1, hs, h⟩ := Option.bind_eq_some_iff.1 h
      have key : ∀ b, (ev a = .box b 0 ∨ True) → rdB (ev a) = [b] → H' b = H b → ∃ H2, storeD P t (ev a) (ev x) H' = some H2 ∧ H2 b = H1 b := by
        intro b _ hrb hb
        unfold storeD at hs ⊢
        split at hs
        · rename_i hcond
          rw [if_pos hcond]
          split at hs
          · rename_i b' off heq
            have : b' = b := by have : rdB (ev a) = [b'] := by rw [heq]; rfl
                                rw [hrb] at this; simpa using this.symm
            subst this
            rw [hb]
            split at hs
            · rename_i cs Z hcs
              split at hs
              · rename_i hle
                cases hs
                refine ⟨_, by rw [if_pos hle], ?_⟩
                simp [Heap.set]
              · cases hs
            · cases hs
          · rename_i b' sz i off heq
            have : b' = b := by have : rdB (ev a) = [b'] := by rw [heq]; rfl
                                rw [hrb] at this; simpa using this.symm
            subst this
            rw [hb]
            split at hs
            · rename_i sz' es hcs
              split at hs
              · rename_i hle
                cases hs
                refine ⟨_, by rw [if_pos hle], ?_⟩
                simp [Heap.set]
              · cases hs
            · cases hs
          · cases hs
        · cases hs
      cases ha : ev a with
      | box b off =>
        rw [ha] at h
        simp only at h
        obtain ⟨o, ho, rfl⟩ := Option.map_eq_some_iff.1 h
        obtain ⟨H2, h2, h3⟩ := key b (.inr trivial) (by rw [ha]; rfl) (hH b (.inr (by simp)))
        rw [ha] at h2
        rw [h2, Option.bind_some]
        simp only [h3, ho, Option.map_some]
      | el b sz i off =>
        rw [ha] at h
        simp only at h
        obtain ⟨o, ho, rfl⟩ := Option.map_eq_some_iff.1 h
        obtain ⟨H2, h2, h3⟩ := key b (.inr trivial) (by rw [ha]; rfl) (hH b (.inr (by simp)))
        rw [ha] at h2
        rw [h2, Option.bind_some]
        simp only [h3, ho, Option.map_some]
      | _ => rw [ha] at h; simp at h
    case call cc =>
      obtain ⟨callee, args, ats⟩ := cc
      cases callee with
      | value f => exact h
      | invoke r m => simp [runX] at h
      | builtin b =>
        cases b
        case append =>
          unfold runX at h ⊢
          simp only at h ⊢
          split at h
          · rename_i t t' s x h1 h2
            unfold appE at h ⊢
            obtain ⟨T, hT, h⟩ := Option.bind_eq_some_iff.1 h
            rw [hT, Option.bind_some]
            split at h
            · rename_i hcond
              rw [if_pos hcond]
              obtain ⟨xs, hxs, h⟩ := Option.bind_eq_some_iff.1 h
              have hx : ∀ b, b ∈ vecB (ev x) → (b ∈ e.rd ∨ b ∈ e.del) → H' b = H b := fun b _ hb => hH b hb
              have hmem : ∀ b ∈ vecB (ev x), b ∈ e.rd ∨ b ∈ e.del := by
                intro b hb
                split at h
                · split at h
                  · cases h
                    by_cases hbl : b ∈ bl
                    · exact .inl (inB_mem.2 ⟨hb, hbl⟩)
                    · exact .inr (outB_mem.2 ⟨hb, hbl⟩)
                  · cases h
                · split at h
                  · split at h
                    · cases h
                      by_cases hbl : b ∈ bl
                      · exact .inl (inB_mem.2 ⟨hb, hbl⟩)
                      · exact .inr (List.mem_cons_of_mem _ (outB_mem.2 ⟨hb, hbl⟩))
                    · cases h
                  · cases h
                · cases h
              rw [elems_local hxs (fun b hb => hH b (hmem b hb)), Option.bind_some]
              cases hs : ev s with
              | vec b sz' lo n =>
                rw [hs] at h
                simp only at h ⊢
                have hb : H' b = H b := by
                  split at h
                  · split at h
                    · cases h; exact hH b (.inr (by simp))
                    · cases h
                  · cases h
                rw [hb]; exact h
              | _ => rw [hs] at h; exact h
            · cases h
          · cases h
        all_goals cases h
    case makeMap t r =>
      cases r with
      | none => exact h
      | some r => simp [runX] at h
    all_goals cases h
theorem callOk_local {op : Op} {e : Ef} (h : callOk P c bl ev H op) (hr : runE P c bl ev H op = some e) (hro : ∀ k cs, H' k = some (.ro cs) → H k = some (.ro cs)) (hro' : ∀ k cs, H k = some (.ro cs) → H' k = some (.ro cs)) (hH : ∀ b, b ∈ e.rd ∨ b ∈ e.del → H' b = H b) : callOk P c bl ev H' op := by
 cases op
 case call cc =>
  obtain ⟨callee, args, ats⟩ := cc
  cases callee with
  | value f =>
   rw [runE_eff (by simp [cls])] at hr
   simp only [callOk, runX] at h hr ⊢
   split at h
   ·rename_i g first cap hf
    rw [hf] at hr
    simp only [Option.some.injEq] at hr
    subst hr
    intro H2 h1 h2
    refine h H2 (fun k cs hk => h1 k cs (hro' k cs hk)) (fun b hb => ?_)
    rw [h2 b hb]
    by_cases hbl : b ∈ bl
    ·exact hH b (.inl (inB_mem.2 ⟨hb, hbl⟩))
    ·exact hH b (.inr (outB_mem.2 ⟨hb, hbl⟩))
   ·exact h
  | _ => exact h
 all_goals exact h
theorem runE_foot {op : Op} {e : Ef} (h : runE P c bl ev H op = some e) : ∀ b, b ∈ e.rd ∨ b ∈ e.del → b ∈ footL ev op := by
 by_cases hc : cls P op = .pure
 ·rw [runE_pure hc] at h
  obtain ⟨d, _, rfl⟩ := Option.map_eq_some_iff.1 h
  intro b hb
  simp [val] at hb
 ·rw [runE_eff hc] at h
  cases op
  case load t x =>
   simp only [runX, Option.map_eq_some_iff] at h
   obtain ⟨d, hd, rfl⟩ := h
   intro b hb
   simp [val] at hb
   exact footL_mem (x := x) (by simp [Op.operands]) hb
  case lookup t m k ok =>
   simp only [runX, Option.map_eq_some_iff] at h
   obtain ⟨d, hd, rfl⟩ := h
   intro b hb
   simp [val] at hb
   exact footL_mem (x := m) (by simp [Op.operands]) hb
  case alloc t =>
   simp only [runX, Option.map_eq_some_iff] at h
   obtain ⟨d, hd, rfl⟩ := h
   intro b hb; simp [make] at hb
  case box t x =>
   simp only [runX] at h
   split at h
   ·cases h; intro b hb; simp [make] at hb
   ·cases h
  case makeSlice t l c =>
   simp only [runX] at h
   obtain ⟨_, _, _, _, _, _, _, _, _, _, _, _, _, _, _, _, _, _, rfl⟩ := msE_inv h
   intro b hb; simp [make] at hb
  case buildSlice t n parts =>
   simp only [runX, bsE] at h
   obtain ⟨T, hT, h⟩ := Option.bind_eq_some_iff.1 h
   split at h
   ·obtain ⟨z, hz, h⟩ := Option.bind_eq_some_iff.1 h
    split at h
    ·obtain ⟨es, hes, rfl⟩ := Option.map_eq_some_iff.1 h
     intro b hb; simp [make] at hb
    ·cases h
   ·cases h
  case store t a x =>
   simp only [runX, storeE'] at h
   obtain ⟨H1, hs, h⟩ := Option.bind_eq_some_iff.1 h
   cases ha : ev a with
   | box b off =>
    rw [ha] at h
    simp only at h
    obtain ⟨o, ho, rfl⟩ := Option.map_eq_some_iff.1 h
    intro k hk
    simp at hk
    subst hk
    exact footL_mem (x := a) (by simp [Op.operands]) (by rw [ha]; simp [rdB])
   | el b sz i off =>
    rw [ha] at h
    simp only at h
    obtain ⟨o, ho, rfl⟩ := Option.map_eq_some_iff.1 h
    intro k hk
    simp at hk
    subst hk
    exact footL_mem (x := a) (by simp [Op.operands]) (by rw [ha]; simp [rdB])
   | _ => rw [ha] at h; simp at h
  case call cc =>
   obtain ⟨callee, args, ats⟩ := cc
   cases callee with
   | value f =>
    simp only [runX] at h
    split at h
    ·rename_i g first cap hf
     cases h
     intro b hb
     have hb' : b ∈ (first ++ args.toList.map ev ++ cap).flatMap vecB := by
      rcases hb with hb | hb
      ·exact (inB_mem.1 hb).1
      ·exact (outB_mem.1 hb).1
     obtain ⟨d, hd, hbd⟩ := List.mem_flatMap.1 hb'
     simp only [List.mem_append, List.mem_map] at hd
     rcases hd with (hd | ⟨x, hx, rfl⟩) | hd
     ·exact footL_mem (x := f) (by simp [Op.operands, Call.operands]) (by rw [hf]; exact List.mem_flatMap.2 ⟨d, by simp [hd], hbd⟩)
     ·exact footL_mem (x := x) (by simp [Op.operands, Call.operands]; exact .inr (by simpa using hx)) (vecB_rdB hbd)
     ·exact footL_mem (x := f) (by simp [Op.operands, Call.operands]) (by rw [hf]; exact List.mem_flatMap.2 ⟨d, by simp [hd], hbd⟩)
    ·cases h
   | invoke r m => simp [runX] at h
   | builtin b =>
    cases b
    case append =>
     unfold runX at h
     simp only at h
     split at h
     ·rename_i t t' s x h1 h2
      have hs : s ∈ (Op.call ⟨.builtin .append, args, ats⟩).operands.toList := by simp [Op.operands, Call.operands, ← Array.mem_toList_iff, h2]
      have hx : x ∈ (Op.call ⟨.builtin .append, args, ats⟩).operands.toList := by simp [Op.operands, Call.operands, ← Array.mem_toList_iff, h2]
      unfold appE at h
      obtain ⟨T, hT, h⟩ := Option.bind_eq_some_iff.1 h
      split at h
      ·obtain ⟨xs, hxs, h⟩ := Option.bind_eq_some_iff.1 h
       split at h
       ·split at h
        ·cases h
         intro b hb
         rcases hb with hb | hb
         ·exact footL_mem hx (vecB_rdB (inB_mem.1 hb).1)
         ·exact footL_mem hx (vecB_rdB (outB_mem.1 hb).1)
        ·cases h
       ·rename_i b' sz' lo n hsv
        split at h
        ·split at h
         ·cases h
          intro b hb
          rcases hb with hb | hb
          ·exact footL_mem hx (vecB_rdB (inB_mem.1 hb).1)
          ·rcases List.mem_cons.1 hb with rfl | hb
           ·exact footL_mem hs (by rw [hsv]; simp [rdB])
           ·exact footL_mem hx (vecB_rdB (outB_mem.1 hb).1)
         ·cases h
        ·cases h
       ·cases h
      ·cases h
     ·cases h
    all_goals cases h
  case makeMap t r =>
   cases r with
   | none => simp only [runX, Option.some.injEq] at h; subst h; intro b hb; simp [make] at hb
   | some r => simp [runX] at h
  all_goals cases h
abbrev Kf := FEnv → Heap → (Nat → Prop) → Prop
def guardSlot (gs : List (Option Nat)) (j : Nat) : Option Nat := (gs[j]?).getD none
def guardA (E : Env) (s : Option Nat) (want : Bool) (run skip : Env → Prop) : Prop := match s with
 | none => skip E
 | some s => (E.get s = .tuple [] ∧ skip E) ∨ ∃ b, E.get s = .bool b ∧ (b = want → run ((s, .bool want) :: E)) ∧ (b = !want → skip ((s, .bool (!want)) :: E))
def runs (gs : List (Option Nat)) (F : FEnv) : Option (Nat × Bool) → Option Bool
 | none => some true
 | some (j, want) => match guardSlot gs j with
  | none => some false
  | some s => match F s with
   | .tuple [] => some false
   | .bool b => some (b == want)
   | _ => none
def stepR (P : Program) (c : CR) (bl : Bl) (o : Oper) (K : Kf) : Kf := fun F H U => ∃ e, runE P c bl.l F.ev H o.op = some e ∧ okEf bl H e ∧ callOk P c bl.l F.ev H o.op ∧
 ∀ b, e.okB b U → K (F.put o.dst (e.val b)) (e.app b H) (e.used b U)
def stepE (P : Program) (gs : List (Option Nat)) (c : CR) (bl : Bl) (o : Oper) (K : Kf) : Kf := fun F H U => (runs gs F o.guard = some true ∧ stepR P c bl o K F H U) ∨ (runs gs F o.guard = some false ∧ K (F.put o.dst (.tuple [])) H U)
theorem stepR_mono {o : Oper} {K K' : Kf} {F : FEnv} {H : Heap} {U : Nat → Prop} (h : ∀ v H U, K (F.put o.dst v) H U → K' (F.put o.dst v) H U) (hk : stepR P c bb o K F H U) : stepR P c bb o K' F H U :=
 let ⟨e, h2, h3, h4, h5⟩ := hk; ⟨e, h2, h3, h4, fun b hb => h _ _ _ (h5 b hb)⟩
theorem stepE_mono {gs : List (Option Nat)} {o : Oper} {K K' : Kf} (h : ∀ F H U, K F H U → K' F H U) {F : FEnv} {H : Heap} {U : Nat → Prop} (hk : stepE P gs c bb o K F H U) : stepE P gs c bb o K' F H U :=
 hk.imp (fun hk => ⟨hk.1, stepR_mono (fun _ _ _ => h _ _ _) hk.2⟩) fun hk => ⟨hk.1, h _ _ _ hk.2⟩
theorem ev_put {F : FEnv} {dst : Option Tmp} {d : D} {x : Operand} (h : ∀ t, dst = some t → x ≠ .tmp t) : (F.put dst d).ev x = F.ev x := by
 cases dst with
 | none => rfl
 | some t =>
  cases x with
  | tmp u =>
   have : t ≠ u := fun e => h t rfl (by rw [e])
   simp [FEnv.ev, FEnv.put, this]
  | _ => rfl
theorem ev_apart {F : FEnv} {ops : Array Oper} {o : Oper} {dst : Option Tmp} {d : D} (h : ∀ t, dst = some t → t ∉ o.looksAt ops) : ∀ x ∈ o.op.operands.toList, (F.put dst d).ev x = F.ev x := fun x hx =>
 ev_put fun t ht hxt => h t ht (by subst hxt; exact List.mem_append_left _ (List.mem_filterMap.2 ⟨.tmp t, hx, rfl⟩))
theorem put_comm {F : FEnv} {x y : Option Tmp} {d d' : D} (h : ∀ t, x = some t → y ≠ some t) : (F.put x d).put y d' = (F.put y d').put x d := by
 funext k
 cases x with
 | none => rfl
 | some t =>
  cases y with
  | none => rfl
  | some u =>
   have : t ≠ u := fun e => h t rfl (by rw [e])
   simp only [FEnv.put]
   by_cases h1 : t = k <;> by_cases h2 : u = k <;> simp [h1, h2]
   exact absurd (h1.trans h2.symm) this
structure Dom (H : Heap) (U : Nat → Prop) : Prop where
 dom : ∀ b, H b ≠ none → U b
 fin : ∀ l : List Nat, ∃ b, ¬ U b ∧ b ∉ l
theorem Dom.app {H : Heap} {U : Nat → Prop} (h : Dom H U) {e : Ef} {b : Nat} (hb : e.okB b U) : Dom (e.app b H) (e.used b U) := by
 have hm : ∀ k, (H.minus e.del) k ≠ none → U k := fun k hk => h.dom k fun h0 => hk (by unfold Heap.minus; split; rfl; exact h0)
 unfold Ef.app Ef.used
 cases hn : e.new with
 | none => exact ⟨hm, h.fin⟩
 | some o =>
  refine ⟨fun k hk => ?_, fun l => ?_⟩
  ·by_cases hkb : k = b
   ·exact .inr hkb
   ·simp only [Heap.set, if_neg hkb] at hk; exact .inl (hm k hk)
  ·obtain ⟨x, h1, h2⟩ := h.fin (b :: l)
   simp only [List.mem_cons, not_or] at h2
   exact ⟨x, fun hx => hx.elim h1 h2.1, h2.2⟩
theorem app_other {e : Ef} {b k : Nat} {H : Heap} (hd : k ∉ e.del) (hb : e.new ≠ none → k ≠ b) : e.app b H k = H k := by
 unfold Ef.app
 cases hn : e.new with
 | none => simp [Heap.minus, hd]
 | some o => simp [Heap.set, Heap.minus, hd, hb (by rw [hn]; simp)]
theorem app_ro {e : Ef} {b k : Nat} {H : Heap} {cs : List D} (h : okEf bb H e) (hk : e.app b H k = some (.ro cs)) : H k = some (.ro cs) := by
 unfold Ef.app at hk
 have hm : (H.minus e.del) k = some (.ro cs) → H k = some (.ro cs) := fun hk => by
  unfold Heap.minus at hk
  split at hk
  ·cases hk
  ·exact hk
 cases hn : e.new with
 | none => rw [hn] at hk; exact hm hk
 | some o =>
  rw [hn] at hk
  simp only [Heap.set] at hk
  split at hk
  ·cases hk
   have := h.new _ hn
   simp [Obj.rw] at this
  ·exact hm hk
theorem app_ro' {e : Ef} {b k : Nat} {H : Heap} {U : Nat → Prop} {cs : List D} (h : okEf bb H e) (hU : ∀ b, H b ≠ none → U b) (hb : e.okB b U) (hk : H k = some (.ro cs)) : e.app b H k = some (.ro cs) := by
 have hd : k ∉ e.del := fun hd => by have := (h.del k hd).2; rw [hk] at this; simp [rwAt, Obj.rw] at this
 rw [app_other hd fun hn he => ?_]
 ·exact hk
 ·subst he
  unfold Ef.okB at hb
  cases hnew : e.new with
  | none => exact hn hnew
  | some o =>
   rw [hnew] at hb
   cases hat : e.at_ with
   | none =>
    rw [hat] at hb
    rcases hb with hb | hb
    ·exact hb (hU k (by rw [hk]; simp))
    ·exact hd hb
   | some c =>
    rw [hat] at hb
    subst hb
    exact hd (h.at_ _ hat)
theorem app_comm {i j : Ef} {bi bj : Nat} {H : Heap} (h1 : ∀ b ∈ i.del, b ∉ j.del) (h2 : i.new ≠ none → j.new ≠ none → bi ≠ bj) (h3 : i.new ≠ none → bi ∉ j.del) (h4 : j.new ≠ none → bj ∉ i.del) : j.app bj (i.app bi H) = i.app bi (j.app bj H) := by
 funext k
 unfold Ef.app
 cases hi : i.new with
 | none =>
  cases hj : j.new with
  | none => simp only [Heap.minus]; by_cases x : k ∈ i.del <;> by_cases y : k ∈ j.del <;> simp [x, y]
  | some o =>
   rw [hj] at h4
   have h4 := h4 (by simp)
   simp only [Heap.minus, Heap.set]
   by_cases z : k = bj
   ·subst z; simp [h4]
   ·by_cases x : k ∈ i.del <;> by_cases y : k ∈ j.del <;> simp [x, y, z]
 | some oi =>
  rw [hi] at h2 h3
  have h3 := h3 (by simp)
  cases hj : j.new with
  | none =>
   simp only [Heap.minus, Heap.set]
   by_cases z : k = bi
   ·subst z; simp [h3]
   ·by_cases x : k ∈ i.del <;> by_cases y : k ∈ j.del <;> simp [x, y, z]
  | some o =>
   rw [hj] at h2 h4
   have h4 := h4 (by simp)
   have h2 := h2 (by simp) (by simp)
   simp only [Heap.minus, Heap.set]
   by_cases z : k = bi
   ·subst z; simp [h3, h2]
   ·by_cases z' : k = bj
    ·subst z'; simp [h4, z]
    ·by_cases x : k ∈ i.del <;> by_cases y : k ∈ j.del <;> simp [x, y, z, z']
theorem used_sub {e : Ef} {b k : Nat} {U : Nat → Prop} (h : U k) : e.used b U k := by
 unfold Ef.used
 cases e.new with
 | none => exact h
 | some o => exact .inl h
theorem used_new {e : Ef} {b : Nat} {U : Nat → Prop} (h : e.new ≠ none) : e.used b U b := by
 unfold Ef.used
 cases hn : e.new with
 | none => exact absurd hn h
 | some o => exact .inr rfl
theorem used_inv {e : Ef} {b k : Nat} {U : Nat → Prop} (h : e.used b U k) : U k ∨ (e.new ≠ none ∧ k = b) := by
 unfold Ef.used at h
 cases hn : e.new with
 | none => rw [hn] at h; exact .inl h
 | some o => rw [hn] at h; exact h.imp id fun h => ⟨by simp, h⟩
theorem used_comm {i j : Ef} {bi bj : Nat} {U : Nat → Prop} : j.used bj (i.used bi U) = i.used bi (j.used bj U) := by
 unfold Ef.used
 cases i.new <;> cases j.new <;> try rfl
 funext k
 apply propext
 simp only [or_assoc, or_comm (a := k = bi)]
def calmPair (P : Program) (oi oj : Op) : Bool := (!isStore oi || cls P oj == .pure) && (!isStore oj || cls P oi == .pure)
theorem at_store {o : Op} {e : Ef} {ev : Operand → D} {H : Heap} (h : runE P c bl ev H o = some e) (hs : isStore o = false) : e.at_ = none := by
 by_cases hc : cls P o = .pure
 ·rw [runE_pure hc] at h
  obtain ⟨d, _, rfl⟩ := Option.map_eq_some_iff.1 h
  rfl
 ·rw [runE_eff hc] at h
  cases o
  case load t x => simp only [runX, Option.map_eq_some_iff] at h; obtain ⟨d, _, rfl⟩ := h; rfl
  case lookup t m k ok => simp only [runX, Option.map_eq_some_iff] at h; obtain ⟨d, _, rfl⟩ := h; rfl
  case alloc t => simp only [runX, Option.map_eq_some_iff] at h; obtain ⟨d, _, rfl⟩ := h; rfl
  case box t x => simp only [runX] at h; split at h <;> cases h; rfl
  case makeSlice t l c =>
   simp only [runX] at h
   obtain ⟨_, _, _, _, _, _, _, _, _, _, _, _, _, _, _, _, _, _, rfl⟩ := msE_inv h
   rfl
  case buildSlice t n parts =>
   simp only [runX, bsE] at h
   obtain ⟨T, hT, h⟩ := Option.bind_eq_some_iff.1 h
   split at h
   ·obtain ⟨z, hz, h⟩ := Option.bind_eq_some_iff.1 h
    split at h
    ·obtain ⟨es, hes, rfl⟩ := Option.map_eq_some_iff.1 h; rfl
    ·cases h
   ·cases h
  case store t a x => simp [isStore] at hs
  case call cc =>
   obtain ⟨callee, args, ats⟩ := cc
   cases callee with
   | value f =>
    simp only [runX] at h
    split at h <;> cases h; rfl
   | invoke r m => simp [runX] at h
   | builtin b =>
    cases b
    case append =>
     unfold runX at h
     simp only at h
     split at h
     ·unfold appE at h
      obtain ⟨T, hT, h⟩ := Option.bind_eq_some_iff.1 h
      split at h
      ·obtain ⟨xs, hxs, h⟩ := Option.bind_eq_some_iff.1 h
       split at h
       ·split at h <;> cases h; rfl
       ·split at h
        ·split at h <;> cases h; rfl
        ·cases h
       ·cases h
      ·cases h
     ·cases h
    all_goals cases h
  case makeMap t r =>
   cases r with
   | none => simp only [runX, Option.some.injEq] at h; subst h; rfl
   | some r => simp [runX] at h
  all_goals cases h
theorem pure_ef {o : Op} {e : Ef} {ev : Operand → D} {H : Heap} (h : runE P c bl ev H o = some e) (hc : cls P o = .pure) : e.rd = [] ∧ e.del = [] ∧ e.new = none := by
 rw [runE_pure hc] at h
 obtain ⟨d, _, rfl⟩ := Option.map_eq_some_iff.1 h
 exact ⟨rfl, rfl, rfl⟩
theorem stepR_swap {ops : Array Oper} {oi oj : Oper} {ci cj : CR} {K : Kf} {F : FEnv} {H : Heap} {U : Nat → Prop} (hap : oi.apart ops oj = true) (hcalm : calmPair P oi.op oj.op = true) (hB : BlPair Bi Bj) (hD : Dom H U)
  (h : stepR P ci Bi oi (stepR P cj Bj oj K) F H U) : stepR P cj Bj oj (stepR P ci Bi oi K) F H U := by
 obtain ⟨hB1, hB2⟩ := hB
 obtain ⟨a1, a2, a3⟩ := Oper.apart_spec hap
 obtain ⟨ei, ri, oki, ci_ok, hi⟩ := h
 simp only [calmPair, Bool.and_eq_true, Bool.or_eq_true, Bool.not_eq_true', beq_iff_eq] at hcalm
 -- a name for the first one's block that the second one does not name
 obtain ⟨b0, hb0, hb0f⟩ : ∃ b0, ei.okB b0 U ∧ (ei.new ≠ none → ei.at_ = none → b0 ∉ footL F.ev oj.op ∧ ¬ U b0) := by
  obtain ⟨x, hx1, hx2⟩ := hD.fin (footL F.ev oj.op)
  cases hn : ei.new with
  | none => exact ⟨x, by unfold Ef.okB; rw [hn]; trivial, fun h => absurd rfl h⟩
  | some o =>
   cases ha : ei.at_ with
   | none => exact ⟨x, by unfold Ef.okB; rw [hn, ha]; exact .inl hx1, fun _ _ => ⟨hx2, hx1⟩⟩
   | some y => exact ⟨y, by unfold Ef.okB; rw [hn, ha], fun _ h => by cases h⟩
 have sti : ∀ y, ei.at_ = some y → cls P oj.op = .pure := fun y hy => by
  rcases hcalm.1 with h | h
  ·rw [at_store ri h] at hy; cases hy
  ·exact h
 obtain ⟨ej, rj, okj, cj_ok, _⟩ := hi b0 hb0
 have rj0 : runE P cj Bj.l F.ev (ei.app b0 H) oj.op = some ej := by rw [← rj]; exact (runE_congr (ev_apart a1)).symm
 have cj0 : callOk P cj Bj.l F.ev (ei.app b0 H) oj.op := by rw [← callOk_congr (ev_apart (F := F) (d := ei.val b0) a1)]; exact cj_ok
 have stj : ∀ y, ej.at_ = some y → cls P oi.op = .pure := fun y hy => by
  rcases hcalm.2 with h | h
  ·rw [at_store rj0 h] at hy; cases hy
  ·exact h
 -- what the second one names, the first one lets be
 have nb0 : ∀ b, b ∈ ej.rd ∨ b ∈ ej.del → ei.new ≠ none → b ≠ b0 := fun b hb hn he => by
  subst he
  cases ha : ei.at_ with
  | none => exact (hb0f hn ha).1 (runE_foot rj0 b hb)
  | some y =>
   obtain ⟨e1, e2, _⟩ := pure_ef rj0 (sti y ha)
   rw [e1, e2] at hb
   simp at hb
 have djd : ∀ b ∈ ej.del, b ∉ ei.del := fun b hb hbi => by
  have h1 := (okj.del b hb).2
  have h2 : ei.app b0 H b = none := by
   unfold Ef.app
   cases hn : ei.new with
   | none => simp [Heap.minus, hbi]
   | some o => simp [Heap.set, Heap.minus, hbi, nb0 b (.inr hb) (by rw [hn]; simp)]
  rw [h2] at h1
  cases h1
 have djr : ∀ b ∈ ej.rd, b ∉ ei.del := fun b hb hbi => by
  cases ha : ei.at_ with
  | none =>
   have g2 := hB1 b (okj.rd b hb).1.1 (okj.rd b hb).2
   rcases (oki.del b hbi).1 ha with g | g
   ·exact g g2.1
   ·exact g2.2 g
  | some y => rw [(pure_ef rj0 (sti y ha)).1] at hb; cases hb
 have same0 : ∀ b, b ∈ ej.rd ∨ b ∈ ej.del → ei.app b0 H b = H b := fun b hb => app_other (hb.elim (djr b) (djd b)) (nb0 b hb)
 have rjH : runE P cj Bj.l F.ev H oj.op = some ej := runE_local rj0 fun b hb => (same0 b hb).symm
 have okjH : okEf Bj H ej := ⟨fun b hb => ⟨⟨(okj.rd b hb).1.1, by rw [← same0 b (.inl hb)]; exact (okj.rd b hb).1.2⟩, (okj.rd b hb).2⟩, fun b hb => ⟨(okj.del b hb).1, by rw [← same0 b (.inr hb)]; exact (okj.del b hb).2⟩, okj.new, okj.at_⟩
 have cjH : callOk P cj Bj.l F.ev H oj.op := callOk_local cj0 rj0 (fun k cs hk => app_ro' oki hD.dom hb0 hk) (fun k cs hk => app_ro oki hk) (fun b hb => (same0 b hb).symm)
 refine ⟨ej, rjH, okjH, cjH, fun bj hbj => ?_⟩
 -- the first one behind the second one
 have rwU : ∀ b, rwAt (H b) = true → U b := fun b hb => hD.dom b fun h => by rw [h] at hb; cases hb
 have nbj : ∀ b, b ∈ ei.rd ∨ b ∈ ei.del → ej.new ≠ none → b ≠ bj := fun b hb hn he => by
  subst he
  unfold Ef.okB at hbj
  cases hnew : ej.new with
  | none => exact hn hnew
  | some o =>
   rw [hnew] at hbj
   cases ha : ej.at_ with
   | none =>
    rw [ha] at hbj
    rcases hbj with hbj | hbj
    ·rcases hb with hb | hb
     ·exact hbj (hD.dom b (oki.rd b hb).1.2)
     ·exact hbj (rwU b (oki.del b hb).2)
    ·rcases hb with hb | hb
     ·have g2 := hB2 b (oki.rd b hb).1.1 (oki.rd b hb).2
      rcases (okjH.del b hbj).1 ha with g | g
      ·exact g g2.1
      ·exact g2.2 g
     ·exact djd b hbj hb
   | some y =>
    obtain ⟨e1, e2, _⟩ := pure_ef ri (stj y ha)
    rw [e1, e2] at hb
    simp at hb
 have dij : ∀ b, b ∈ ei.rd ∨ b ∈ ei.del → b ∉ ej.del := fun b hb hbj => by
  rcases hb with hb | hb
  ·cases ha : ej.at_ with
   | none =>
    have g2 := hB2 b (oki.rd b hb).1.1 (oki.rd b hb).2
    rcases (okjH.del b hbj).1 ha with g | g
    ·exact g g2.1
    ·exact g2.2 g
   | some y => rw [(pure_ef ri (stj y ha)).1] at hb; cases hb
  ·exact djd b hbj hb
 have same1 : ∀ b, b ∈ ei.rd ∨ b ∈ ei.del → ej.app bj H b = H b := fun b hb => app_other (dij b hb) (nbj b hb)
 have riH : runE P ci Bi.l (F.put oj.dst (ej.val bj)).ev (ej.app bj H) oi.op = some ei := by
  rw [runE_congr (ev_apart a3)]
  exact runE_local ri same1
 have okiH : okEf Bi (ej.app bj H) ei := ⟨fun b hb => ⟨⟨(oki.rd b hb).1.1, by rw [same1 b (.inl hb)]; exact (oki.rd b hb).1.2⟩, (oki.rd b hb).2⟩, fun b hb => ⟨(oki.del b hb).1, by rw [same1 b (.inr hb)]; exact (oki.del b hb).2⟩, oki.new, oki.at_⟩
 have ciH : callOk P ci Bi.l (F.put oj.dst (ej.val bj)).ev (ej.app bj H) oi.op := by
  rw [callOk_congr (ev_apart a3)]
  exact callOk_local ci_ok ri (fun k cs hk => app_ro okjH hk) (fun k cs hk => app_ro' okjH hD.dom hbj hk) same1
 refine ⟨ei, riH, okiH, ciH, fun bi hbi => ?_⟩
 -- the names are apart
 have hbiU : ei.okB bi U := by
  unfold Ef.okB at hbi ⊢
  cases hn : ei.new with
  | none => trivial
  | some o =>
   rw [hn] at hbi
   cases ha : ei.at_ with
   | none =>
    rw [ha] at hbi
    exact hbi.imp (fun h hU => h (used_sub hU)) id
   | some y => rw [ha] at hbi; exact hbi
 have nij : ei.new ≠ none → ej.new ≠ none → bi ≠ bj := fun hn hm he => by
  subst he
  unfold Ef.okB at hbi
  cases hn' : ei.new with
  | none => exact hn hn'
  | some o =>
   rw [hn'] at hbi
   cases ha : ei.at_ with
   | none =>
    rw [ha] at hbi
    rcases hbi with hbi | hbi
    ·exact hbi (used_new hm)
    ·exact nbj bi (.inr hbi) hm rfl
   | some y => exact hm (pure_ef rj0 (sti y ha)).2.2
 have nbi : ∀ b, b ∈ ej.rd ∨ b ∈ ej.del → ei.new ≠ none → b ≠ bi := fun b hb hn he => by
  subst he
  unfold Ef.okB at hbi
  cases hn' : ei.new with
  | none => exact hn hn'
  | some o =>
   rw [hn'] at hbi
   cases ha : ei.at_ with
   | none =>
    rw [ha] at hbi
    rcases hbi with hbi | hbi
    ·apply hbi
     have : U b := by
      rcases hb with hb | hb
      ·exact hD.dom b (okjH.rd b hb).1.2
      ·exact rwU b (okjH.del b hb).2
     exact used_sub this
    ·exact dij b (.inr hbi) (by rcases hb with hb | hb; exact absurd hbi (djr b hb); exact hb)
   | some y =>
    obtain ⟨e1, e2, _⟩ := pure_ef rj0 (sti y ha)
    rw [e1, e2] at hb
    simp at hb
 obtain ⟨ej', rj', okj', cj', hj⟩ := hi bi hbiU
 have same2 : ∀ b, b ∈ ej.rd ∨ b ∈ ej.del → ei.app bi H b = H b := fun b hb => app_other (hb.elim (djr b) (djd b)) (nbi b hb)
 have hej : ej' = ej := by
  rw [runE_congr (ev_apart a1)] at rj'
  have := runE_local rjH same2
  rw [rj'] at this
  exact Option.some.inj this
 subst hej
 have hbj1 : ej'.okB bj (ei.used bi U) := by
  unfold Ef.okB at hbj ⊢
  cases hn : ej'.new with
  | none => trivial
  | some o =>
   rw [hn] at hbj
   cases ha : ej'.at_ with
   | none =>
    rw [ha] at hbj
    refine hbj.imp (fun h hU => ?_) id
    rcases used_inv hU with hU | ⟨hni, hU⟩
    ·exact h hU
    ·exact nij hni (by rw [hn]; simp) hU.symm
   | some y => rw [ha] at hbj; exact hbj
 have := hj bj hbj1
 rw [put_comm a2, app_comm (fun b hb hb' => djd b hb' hb) nij (fun hn hb => nbi bi (.inr hb) hn rfl) (fun hn hb => nbj bj (.inr hb) hn rfl), used_comm] at this
 exact this
abbrev dstsOf (ops : Array Oper) : List (Option Nat) := ops.toList.map (·.dst)
theorem slot_of (ops : Array Oper) (j : Nat) : guardSlot (dstsOf ops) j = (ops[j]?).bind (·.dst) := by
 unfold guardSlot
 rw [List.getElem?_map]
 cases hj : ops[j]? with
 | none => simp [hj]
 | some o => simp [hj]
theorem runs_put {ops : Array Oper} {F : FEnv} {o : Oper} {dst : Option Tmp} {d : D} (h : ∀ t, dst = some t → t ∉ o.looksAt ops) : runs (dstsOf ops) (F.put dst d) o.guard = runs (dstsOf ops) F o.guard := by
 cases hg : o.guard with
 | none => rfl
 | some jw =>
  obtain ⟨j, want⟩ := jw
  unfold runs
  simp only []
  rw [slot_of]
  cases hs : (ops[j]?).bind (·.dst) with
  | none => rfl
  | some s =>
   simp only []
   cases dst with
   | none => rfl
   | some t =>
    have hne : t ≠ s := fun e => h t rfl (by subst e; simp [Oper.looksAt, hg, hs])
    simp only [FEnv.put, if_neg hne]
theorem step_swap {ops : Array Oper} {oi oj : Oper} {ci cj : CR} {K : Kf} {F : FEnv} {H : Heap} {U : Nat → Prop} (hap : oi.apart ops oj = true) (hcalm : calmPair P oi.op oj.op = true) (hB : BlPair Bi Bj) (hD : Dom H U)
  (h : stepE P (dstsOf ops) ci Bi oi (stepE P (dstsOf ops) cj Bj oj K) F H U) : stepE P (dstsOf ops) cj Bj oj (stepE P (dstsOf ops) ci Bi oi K) F H U := by
 obtain ⟨a1, a2, a3⟩ := Oper.apart_spec hap
 have gj : ∀ v, runs (dstsOf ops) (F.put oi.dst v) oj.guard = runs (dstsOf ops) F oj.guard := fun v => runs_put a1
 have gi : ∀ v, runs (dstsOf ops) (F.put oj.dst v) oi.guard = runs (dstsOf ops) F oi.guard := fun v => runs_put a3
 rcases h with ⟨hr, h⟩ | ⟨hr, h⟩
 ·
  cases hj : runs (dstsOf ops) F oj.guard with
  | none =>
   exfalso
   obtain ⟨e, _, _, _, h5⟩ := h
   obtain ⟨x, hx, _⟩ := hD.fin []
   obtain ⟨b, hb⟩ : ∃ b, e.okB b U := by
    unfold Ef.okB
    cases e.new with
    | none => exact ⟨x, trivial⟩
    | some o =>
     cases e.at_ with
     | none => exact ⟨x, .inl hx⟩
     | some y => exact ⟨y, rfl⟩
   rcases h5 b hb with ⟨h6, _⟩ | ⟨h6, _⟩ <;> rw [gj, hj] at h6 <;> cases h6
  | some r =>
   cases r with
   | true =>
    have h2 : stepR P ci Bi oi (stepR P cj Bj oj K) F H U := stepR_mono (fun v H U hk => by
     rcases hk with ⟨_, hk⟩ | ⟨h6, _⟩
     ·exact hk
     ·rw [gj, hj] at h6; cases h6) h
    exact .inl ⟨hj, stepR_mono (fun v H U hk => .inl ⟨by rw [gi]; exact hr, hk⟩) (stepR_swap hap hcalm hB hD h2)⟩
   | false =>
    have h2 : stepR P ci Bi oi (fun F H U => K (F.put oj.dst (.tuple [])) H U) F H U := stepR_mono (fun v H U hk => by
     rcases hk with ⟨h6, _⟩ | ⟨_, hk⟩
     ·rw [gj, hj] at h6; cases h6
     ·exact hk) h
    refine .inr ⟨hj, .inl ⟨by rw [gi]; exact hr, ?_⟩⟩
    obtain ⟨e, h3, h4, h5, h6⟩ := h2
    exact ⟨e, by rw [runE_congr (ev_apart a3)]; exact h3, h4, by rw [callOk_congr (ev_apart a3)]; exact h5, fun b hb => by rw [← put_comm a2]; exact h6 b hb⟩
 ·
  rcases h with ⟨h6, h⟩ | ⟨h6, h⟩
  ·rw [gj] at h6
   refine .inl ⟨h6, ?_⟩
   obtain ⟨e, h3, h4, h5, h7⟩ := h
   refine ⟨e, by rw [← h3]; exact (runE_congr (ev_apart a1)).symm, h4, by rw [← callOk_congr (ev_apart (F := F) (d := .tuple []) a1)]; exact h5, fun b hb => .inr ⟨by rw [gi]; exact hr, ?_⟩⟩
   rw [← put_comm a2]; exact h7 b hb
  ·rw [gj] at h6
   exact .inr ⟨h6, .inr ⟨by rw [gi]; exact hr, by rw [← put_comm a2]; exact h⟩⟩
variable {ops : Array Oper} {md : Region.Mode} {cs : Nat → CR} {bs : Nat → Bl}
def sE (P : Program) (cs : Nat → CR) (bs : Nat → Bl) (ops : Array Oper) (i : Nat) (K : Kf) : Kf := match ops[i]? with
 | none => K
 | some o => stepE P (dstsOf ops) (cs i) (bs i) o K
def anyE (P : Program) (cs : Nat → CR) (bs : Nat → Bl) (md : Region.Mode) (ops : Array Oper) (K : Kf) : Nat → Array Bool → Kf
 | 0, listed => fun F H U => Region.ready md ops listed = [] ∧ K F H U
 | fuel + 1, listed => fun F H U => (Region.ready md ops listed = [] → K F H U) ∧ ∀ i ∈ Region.ready md ops listed, sE P cs bs ops i (anyE P cs bs md ops K fuel (listed.setIfInBounds i true)) F H U
theorem okB_exists {e : Ef} {H : Heap} {U : Nat → Prop} (hD : Dom H U) : ∃ b, e.okB b U := by
 obtain ⟨x, hx, _⟩ := hD.fin []
 unfold Ef.okB
 cases e.new with
 | none => exact ⟨x, trivial⟩
 | some o =>
  cases e.at_ with
  | none => exact ⟨x, .inl hx⟩
  | some y => exact ⟨y, rfl⟩
theorem stepR_dom {o : Oper} {K : Kf} {F : FEnv} {H : Heap} {U : Nat → Prop} (hD : Dom H U) (h : stepR P c bb o K F H U) : stepR P c bb o (fun F H U => Dom H U ∧ K F H U) F H U :=
 let ⟨e, h2, h3, h4, h5⟩ := h; ⟨e, h2, h3, h4, fun b hb => ⟨hD.app hb, h5 b hb⟩⟩
theorem stepE_false {gs : List (Option Nat)} {o : Oper} {F : FEnv} {H : Heap} {U : Nat → Prop} (hD : Dom H U) (h : stepE P gs c bb o (fun _ _ _ => False) F H U) : False := by
 rcases h with ⟨_, e, _, _, _, h5⟩ | ⟨_, h⟩
 ·obtain ⟨b, hb⟩ := okB_exists (e := e) hD
  exact h5 b hb
 ·exact h
theorem stepE_dom {gs : List (Option Nat)} {o : Oper} {K : Kf} {F : FEnv} {H : Heap} {U : Nat → Prop} (hD : Dom H U) (h : stepE P gs c bb o K F H U) : stepE P gs c bb o (fun F H U => Dom H U ∧ K F H U) F H U :=
 h.imp (fun h => ⟨h.1, stepR_dom hD h.2⟩) fun h => ⟨h.1, hD, h.2⟩
theorem anyE_first {K : Kf} {i : Nat} {oi : Oper} {W : Nat → Prop} (hi : ops[i]? = some oi) (hW : Closed md ops i W) :
  ∀ (fuel : Nat) (listed : Array Bool) (F : FEnv) (H : Heap) (U : Nat → Prop), Dom H U → (∀ j, W j → listed.getD j false = false) →
   (∀ j oj, ops[j]? = some oj → ¬ W j → listed.getD j true = false → (oi.apart ops oj = true ∧ calmPair P oi.op oj.op = true) ∧ BlPair (bs i) (bs j)) →
   i ∈ Region.ready md ops listed → stepE P (dstsOf ops) (cs i) (bs i) oi (anyE P cs bs md ops K fuel (listed.setIfInBounds i true)) F H U → anyE P cs bs md ops K (fuel + 1) listed F H U := by
 intro fuel
 induction fuel with
 | zero =>
  intro listed F H U hD _ _ hr h
  refine ⟨fun h0 => (by rw [h0] at hr; cases hr), fun j hj => ?_⟩
  by_cases hji : j = i
  ·subst hji; unfold sE; simp only [hi]; exact h
  ·exfalso
   refine stepE_false hD (stepE_mono (fun F H U hk => ?_) h)
   have := ready_mono hj hji
   rw [hk.1] at this
   cases this
 | succ fuel ih =>
  intro listed F H U hD hun hfree hr h
  refine ⟨fun h0 => (by rw [h0] at hr; cases hr), fun j hj => ?_⟩
  by_cases hji : j = i
  ·subst hji; unfold sE; simp only [hi]; exact h
  ·obtain ⟨hjun, oj, hoj, _⟩ := mem_ready.1 hj
   have hnW := hW.not_ready hun hj hji
   obtain ⟨⟨hap, hcalm⟩, hBB⟩ := hfree j oj hoj hnW hjun
   have hun' : ∀ k, W k → (listed.setIfInBounds j true).getD k false = false := fun k hk => by
    rw [getD_set_false (fun e : j = k => hnW (by rw [e]; exact hk))]; exact hun k hk
   have hfree' : ∀ k ok, ops[k]? = some ok → ¬ W k → (listed.setIfInBounds j true).getD k true = false → (oi.apart ops ok = true ∧ calmPair P oi.op ok.op = true) ∧ BlPair (bs i) (bs k) := fun k ok hk hnk hu => by
    refine hfree k ok hk hnk ?_
    by_cases hjk : j = k
    ·subst hjk; exact hjun
    ·rw [getD_set_ne true hjk] at hu; exact hu
   have h1 : stepE P (dstsOf ops) (cs i) (bs i) oi (stepE P (dstsOf ops) (cs j) (bs j) oj (anyE P cs bs md ops K fuel ((listed.setIfInBounds i true).setIfInBounds j true))) F H U := stepE_mono (fun F H U hk => by
    have := hk.2 j (ready_mono hj hji)
    unfold sE at this
    simp only [hoj] at this
    exact this) h
   have h2 := stepE_dom hD (step_swap hap hcalm hBB hD h1)
   unfold sE
   simp only [hoj]
   refine stepE_mono (fun F H U hk => ih (listed.setIfInBounds j true) F H U hk.1 hun' hfree' (ready_mono hr (Ne.symm hji)) ?_) h2
   rw [Array.setIfInBounds_comm _ _ hji]
   exact hk.2
def listE (P : Program) (gs : List (Option Nat)) (cs : Nat → CR) (bs : Nat → Bl) (K : Kf) : Nat → List Oper → Kf
 | _, [] => K
 | k, o :: l => stepE P gs (cs k) (bs k) o (listE P gs cs bs K (k + 1) l)
def okPairE (P : Program) (ops : Array Oper) (oi oj : Oper) : Bool := oi.apart ops oj && calmPair P oi.op oj.op
def okRestE (P : Program) (ops : Array Oper) (oi : Oper) : List Oper → List Bool → Bool
 | [], _ => true
 | o :: l, b :: W => (b || okPairE P ops oi o) && okRestE P ops oi l W
 | _ :: _, [] => false
def okFromE (P : Program) (ops : Array Oper) : Nat → List Oper → Bool
 | _, [] => true
 | k, o :: l => (o.after.all fun e => !Region.binds .any e || e.on < k) && okRestE P ops o l (waits k l []) && okFromE P ops (k + 1) l
def okDrawE (P : Program) (ops : Array Oper) : Bool := okFromE P ops 0 ops.toList
def BlOk : (Nat → Bl) → Nat → List Oper → Prop
 | _, _, [] => True
 | bs, k, o :: l => (∀ i, i < l.length → (waits k l [])[i]? ≠ some true → BlPair (bs k) (bs (k + 1 + i))) ∧ BlOk bs (k + 1) l
theorem BlOk_const (bl : List Nat) : ∀ (l : List Oper) (k : Nat), BlOk (fun _ => ⟨bl, [], []⟩) k l
 | [], _ => trivial
 | _ :: l, k => ⟨fun i _ _ => ⟨fun b h _ => ⟨h, (by simp)⟩, fun b h _ => ⟨h, (by simp)⟩⟩, BlOk_const bl l (k + 1)⟩
abbrev Tk := Nat × Nat × List Nat × List Nat
def inS (i : Nat) : List Nat → Bool
 | [] => false
 | x :: l => if i = x then true else inS i l
def lS (i : Nat) (bl : List Nat) : List Tk → List Nat
 | [] => bl
 | (b, _, _, A) :: l => if inS i A = true then lS i bl l else b :: lS i bl l
def noS (i : Nat) : List Tk → List Nat
 | [] => []
 | (b, _, S, _) :: l => if inS i S = true then noS i l else b :: noS i l
def mayS (i : Nat) : List Tk → List Nat
 | [] => []
 | (b, k, _, _) :: l => if i = k then b :: mayS i l else mayS i l
def takeB (bl : List Nat) (dl : List Tk) : Nat → Bl := fun i => ⟨lS i bl dl, noS i dl, mayS i dl⟩
theorem okRestE_at {oi : Oper} : ∀ (l : List Oper) (W : List Bool), okRestE P ops oi l W = true → ∀ (i : Nat) (o : Oper), l[i]? = some o → W[i]? = some true ∨ okPairE P ops oi o = true
 | [], _, _, i, o, h => by simp at h
 | o' :: l, [], h, _, _, _ => by simp [okRestE] at h
 | o' :: l, b :: W, h, 0, o, h0 => by
  simp [okRestE] at h h0; subst h0
  rcases h.1 with h | h
  ·exact .inl (by simp [h])
  ·exact .inr h
 | o' :: l, b :: W, h, i + 1, o, h0 => by
  simp [okRestE] at h h0
  simpa using okRestE_at l W h.2 i o h0
theorem okFromE_any {K : Kf} : ∀ (l : List Oper) (k : Nat) (listed : Array Bool), (∀ j, l[j]? = ops[k + j]?) → (∀ j, listed.getD j false = decide (j < k)) → (listed.size = ops.size) →
  okFromE P ops k l = true → BlOk bs k l → ∀ F H U, Dom H U → listE P (dstsOf ops) cs bs K k l F H U → anyE P cs bs .any ops K l.length listed F H U := by
 intro l
 induction l with
 | nil =>
  intro k listed hl hL hsz _ _ F H U _ h
  refine ⟨?_, h⟩
  cases hr : Region.ready .any ops listed with
  | nil => rfl
  | cons x xs =>
   exfalso
   have hx : x ∈ Region.ready .any ops listed := by rw [hr]; simp
   obtain ⟨h0, o, ho, _⟩ := mem_ready.1 hx
   have := hL x
   rw [getD_false_of_true h0] at this
   have hk : k ≤ x := by simpa using this
   have := hl (x - k)
   rw [show k + (x - k) = x from by omega, ho] at this
   simp at this
 | cons o l ih =>
  intro k listed hl hL hsz hok hblk F H U hD h
  obtain ⟨hb1, hb2⟩ := hblk
  have h0 : ops[k]? = some o := by simpa using (hl 0).symm
  have hkl : k < ops.size := (Array.getElem?_eq_some_iff.1 h0).1
  simp only [okFromE, Bool.and_eq_true] at hok
  obtain ⟨⟨he, hr⟩, hnext⟩ := hok
  have hl' : ∀ j, l[j]? = ops[k + 1 + j]? := fun j => by have := hl (j + 1); simpa [Nat.add_assoc, Nat.add_comm 1 j] using this
  have hready : k ∈ Region.ready .any ops listed := by
   rw [mem_ready]
   refine ⟨?_, o, h0, fun e hem hb => ?_⟩
   ·have := hL k
    simp at this
    have hks : k < listed.size := by omega
    simp [hks] at this ⊢
    exact this
   ·rw [hL]
    rw [Array.all_eq_true_iff_forall_mem] at he
    have := he e hem
    simp [hb] at this
    simpa using this
  have hL' : ∀ j, (listed.setIfInBounds k true).getD j false = decide (j < k + 1) := fun j => by
   by_cases hkj : k = j
   ·subst hkj
    have hks : k < listed.size := by omega
    simp [hks]
   ·rw [getD_set_ne false hkj, hL]
    apply decide_eq_decide.2
    omega
  have hsz' : (listed.setIfInBounds k true).size = ops.size := by simpa using hsz
  let W : Nat → Prop := fun j => j = k ∨ (k < j ∧ (waits k l [])[j - (k + 1)]? = some true)
  have hWc : Closed .any ops k W := by
   refine ⟨.inl rfl, fun j oj hj hne hoj => ?_⟩
   rcases hj with hj | ⟨hlt, hj⟩
   ·exact absurd hj hne
   ·have hlj : l[j - (k + 1)]? = some oj := by rw [hl']; rw [show k + 1 + (j - (k + 1)) = j from by omega]; exact hoj
    have hat := waits_at k l [] (j - (k + 1)) oj hlj
    simp only [List.length_nil, Nat.zero_add] at hat
    rw [hj] at hat
    have hw : waitsOn oj k ((waits k l []).take (j - (k + 1))) = true := by simpa using hat.symm
    unfold waitsOn at hw
    obtain ⟨e, hem, hcond⟩ := Array.any_eq_true'.1 hw
    simp only [Bool.and_eq_true, Bool.or_eq_true, beq_iff_eq, decide_eq_true_eq] at hcond
    refine ⟨e, hem, hcond.1, ?_⟩
    rcases hcond.2 with h1 | ⟨h1, h2⟩
    ·exact .inl h1
    ·refine .inr ⟨h1, ?_⟩
     rw [List.getD_eq_getElem?_getD] at h2
     cases ht : ((waits k l []).take (j - (k + 1)))[e.on - (k + 1)]? with
     | none => rw [ht] at h2; simp at h2
     | some b =>
      rw [ht] at h2; simp at h2; subst h2
      rw [List.getElem?_take] at ht
      split at ht
      ·exact ht
      ·cases ht
  have hun : ∀ j, W j → listed.getD j false = false := fun j hj => by
   rw [hL]; rcases hj with rfl | ⟨hlt, _⟩ <;> simp; omega
  have hfree : ∀ j oj, ops[j]? = some oj → ¬ W j → listed.getD j true = false → okPairE P ops o oj = true ∧ BlPair (bs k) (bs j) := fun j oj hoj hnW hu => by
   have h1 := hL j
   rw [getD_false_of_true hu] at h1
   have hkj : k ≤ j := by simpa using h1
   have hne : j ≠ k := fun e => hnW (.inl e)
   have hlj : l[j - (k + 1)]? = some oj := by rw [hl']; rw [show k + 1 + (j - (k + 1)) = j from by omega]; exact hoj
   have hnw : (waits k l [])[j - (k + 1)]? ≠ some true := fun h2 => hnW (.inr ⟨by omega, h2⟩)
   have hb3 := hb1 (j - (k + 1)) (List.getElem?_eq_some_iff.1 hlj).1 hnw
   rw [show k + 1 + (j - (k + 1)) = j from by omega] at hb3
   rcases okRestE_at l _ hr _ _ hlj with h2 | h2
   ·exact absurd h2 hnw
   ·exact ⟨h2, hb3⟩
  refine anyE_first h0 hWc l.length listed F H U hD hun (fun j oj hoj hnW hu => ?_) hready (stepE_mono (fun F' H' U' h' => ih (k + 1) _ hl' hL' hsz' hnext hb2 F' H' U' h'.1 h'.2) (stepE_dom hD h))
  obtain ⟨h1, h2⟩ := hfree j oj hoj hnW hu
  exact ⟨by simpa [okPairE] using h1, h2⟩
def Ef.okH (e : Ef) (b : Nat) (H : Heap) : Prop := match e.new, e.at_ with
 | none, _ => True
 | some _, some c => b = c
 | some _, none => H b = none ∨ b ∈ e.del
theorem okH_of {e : Ef} {b : Nat} {H : Heap} {U : Nat → Prop} (hD : Dom H U) (h : e.okB b U) : e.okH b H := by
 unfold Ef.okB at h
 unfold Ef.okH
 cases hn : e.new with
 | none => trivial
 | some o =>
  rw [hn] at h
  cases ha : e.at_ with
  | none =>
   rw [ha] at h
   refine h.imp (fun h => ?_) id
   cases hb : H b with
   | none => rfl
   | some x => exact absurd (hD.dom b (by rw [hb]; simp)) h
  | some y => rw [ha] at h; exact h
theorem minus_nil (H : Heap) : H.minus [] = H := by funext k; simp [Heap.minus]
theorem del_none' {b k : Nat} : (H.del b) k = none ↔ k = b ∨ H k = none := by unfold Heap.del; by_cases h : k = b <;> simp [h]
theorem storeD_at {t : TypeId} {a x : D} {H' : Heap} {b : Nat} (h : storeD P t a x H = some H') (ha : rdB a = [b]) : ∃ o, H' b = some o ∧ o.rw = true ∧ H' = H.set b o ∧ rwAt (H b) = true := by
 unfold storeD at h
 split at h
 ·split at h
  ·rename_i b' off
   obtain rfl : b' = b := by simpa [rdB] using ha
   split at h
   ·rename_i cs Z hcs
    split at h
    ·cases h; exact ⟨_, by simp [Heap.set], rfl, rfl, by rw [hcs]; rfl⟩
    ·cases h
   ·cases h
  ·rename_i b' sz i off
   obtain rfl : b' = b := by simpa [rdB] using ha
   split at h
   ·rename_i sz' es hcs
    split at h
    ·cases h; exact ⟨_, by simp [Heap.set], rfl, rfl, by rw [hcs]; rfl⟩
    ·cases h
   ·cases h
  ·cases h
 ·cases h
theorem minus_set_one (H : Heap) (b : Nat) (o : Obj) : (H.minus [b]).set b o = H.set b o := by
 funext k; unfold Heap.set Heap.minus
 by_cases h : k = b <;> simp [h]
theorem runE_wp {op : Op} {e : Ef} (h : runE P c bl ev H op = some e) (hok : okEf bb H e) (hcall : callOk P c bl ev H op) :
  wpOp P ev H (fun d H' => ∃ b, e.okH b H ∧ d = e.val b ∧ (e.app b H).Le H') op := by
 have one : ∀ {K : D → Heap → Prop} {d : D} {rd : List Nat}, e = val d rd → (∃ b, e.okH b H ∧ d = e.val b ∧ (e.app b H).Le H) := by
  intro K d rd he
  subst he
  exact ⟨0, trivial, rfl, by show (H.minus []).Le H; rw [minus_nil]; exact Heap.Le.refl H⟩
 by_cases hc : cls P op = .pure
 ·rw [runE_pure hc] at h
  obtain ⟨d, hd, rfl⟩ := Option.map_eq_some_iff.1 h
  have fin : ∃ d', pureD P ev op = some d' ∧ ∃ b, (val d []).okH b H ∧ d' = (val d []).val b ∧ ((val d []).app b H).Le H := ⟨d, hd, 0, trivial, rfl, by show (H.minus []).Le H; rw [minus_nil]; exact Heap.Le.refl H⟩
  cases op
  case call cc =>
   obtain ⟨callee, args, ats⟩ := cc
   cases callee with
   | value f => simp [cls] at hc
   | invoke r m => simp [cls] at hc
   | builtin b =>
    cases b <;> try (simp [cls] at hc; done)
    all_goals (simp only [wpOp, hc]; exact fin)
  case convert s t x => simp only [wpOp, hc]; exact fin
  case load t x => simp [cls] at hc
  case store t a x => simp [cls] at hc
  case alloc t => simp [cls] at hc
  case box t x => simp [cls] at hc
  case buildSlice t n p => simp [cls] at hc
  case makeSlice t a b => simp [cls] at hc
  case range t x => simp [cls] at hc
  case next x i => simp [cls] at hc
  case makeMap t r => simp [cls] at hc
  case lookup t m k ok => simp [cls] at hc
  case mapUpdate t m k v => simp [cls] at hc
  all_goals first
   | (simp only [wpOp, hc]; exact fin)
   | (simp [cls] at hc; done)
 ·rw [runE_eff hc] at h
  cases op
  case load t x =>
   simp only [runX, Option.map_eq_some_iff] at h
   obtain ⟨d, hd, rfl⟩ := h
   exact ⟨d, hd, 0, trivial, rfl, by show (H.minus []).Le H; rw [minus_nil]; exact Heap.Le.refl H⟩
  case lookup t m k ok =>
   simp only [runX, Option.map_eq_some_iff] at h
   obtain ⟨d, hd, rfl⟩ := h
   exact ⟨d, hd, 0, trivial, rfl, by show (H.minus []).Le H; rw [minus_nil]; exact Heap.Le.refl H⟩
  case alloc t =>
   simp only [runX, Option.map_eq_some_iff] at h
   obtain ⟨z, hz, rfl⟩ := h
   exact ⟨z, hz, fun b hb => ⟨b, .inl hb, rfl, by show ((H.minus []).set b _).Le _; rw [minus_nil]; exact Heap.Le.refl _⟩⟩
  case box t x =>
   simp only [runX] at h
   split at h
   ·rename_i h1
    cases h
    exact ⟨h1, fun b hb => ⟨b, .inl hb, rfl, by show ((H.minus []).set b _).Le _; rw [minus_nil]; exact Heap.Le.refl _⟩⟩
   ·cases h
  case makeSlice t l c =>
   simp only [runX] at h
   obtain ⟨e', sz, by_, z, k, n, k', m, h1, h2, h3, h4, h5, h6, h7, h8, h9, h10, rfl⟩ := msE_inv h
   exact ⟨e', sz, by_, z, k, n, k', m, h1, h2, h3, h4, h5, h6, h7, h8, h9, h10, fun b hb => ⟨b, .inl hb, rfl, by show ((H.minus []).set b _).Le _; rw [minus_nil]; exact Heap.Le.refl _⟩⟩
  case buildSlice t n parts =>
   simp only [runX, bsE] at h
   obtain ⟨⟨e', sz, by_⟩, hT, h⟩ := Option.bind_eq_some_iff.1 h
   split at h
   ·rename_i h1
    obtain ⟨z, hz, h⟩ := Option.bind_eq_some_iff.1 h
    split at h
    ·rename_i h2
     obtain ⟨es, hes, rfl⟩ := Option.map_eq_some_iff.1 h
     exact ⟨e', sz, by_, z, es, hT, h1.1, h1.2, hz, h2, hes, fun b hb => ⟨b, .inl hb, rfl, by show ((H.minus []).set b _).Le _; rw [minus_nil]; exact Heap.Le.refl _⟩⟩
    ·cases h
   ·cases h
  case store t a x =>
   simp only [runX, storeE'] at h
   obtain ⟨H1, hs, h⟩ := Option.bind_eq_some_iff.1 h
   refine ⟨H1, hs, ?_⟩
   cases ha : ev a with
   | box b off =>
    rw [ha] at h hs
    simp only at h
    obtain ⟨o, ho, rfl⟩ := Option.map_eq_some_iff.1 h
    obtain ⟨o', ho', _, hH1, _⟩ := storeD_at hs (b := b) rfl
    rw [ho] at ho'; cases ho'
    exact ⟨b, rfl, rfl, by show ((H.minus [b]).set b _).Le _; rw [minus_set_one, hH1]; exact Heap.Le.refl _⟩
   | el b sz i off =>
    rw [ha] at h hs
    simp only at h
    obtain ⟨o, ho, rfl⟩ := Option.map_eq_some_iff.1 h
    obtain ⟨o', ho', _, hH1, _⟩ := storeD_at hs (b := b) rfl
    rw [ho] at ho'; cases ho'
    exact ⟨b, rfl, rfl, by show ((H.minus [b]).set b _).Le _; rw [minus_set_one, hH1]; exact Heap.Le.refl _⟩
   | _ => rw [ha] at h; simp at h
  case call cc =>
   obtain ⟨callee, args, ats⟩ := cc
   cases callee with
   | value f =>
    simp only [runX] at h
    simp only [callOk] at hcall
    simp only [wpOp]
    split at h
    ·rename_i g first cap hf
     cases h
     rw [hf] at hcall ⊢
     simp only at hcall ⊢
     refine (hcall H (fun k cs hk => hk) (fun b hb => rfl)).mono fun d H' hd => ?_
     unfold CR.post at hd
     unfold Ef.okH Ef.app
     cases hn : c.new with
     | none => rw [hn] at hd; exact ⟨0, by simp only [hn], by simp only [CR.f, hn]; exact hd.1, by simp only [hn]; exact hd.2⟩
     | some o =>
      rw [hn] at hd
      obtain ⟨b, h1, h2, h3⟩ := hd
      exact ⟨b, by simp only [hn]; exact h1, by simp only [CR.f, hn]; exact h2, by simp only [hn]; exact h3⟩
    ·cases h
   | invoke r m => simp [runX] at h
   | builtin b =>
    cases b
    case append =>
     unfold runX at h
     simp only at h
     simp only [wpOp]
     split at h
     ·rename_i t t' s x h1 h2
      simp only [h1, h2]
      unfold appE at h
      obtain ⟨⟨e', sz, by_⟩, hT, h⟩ := Option.bind_eq_some_iff.1 h
      split at h
      ·rename_i hcond
       simp only at hcond h
       obtain ⟨xs, hxs, h⟩ := Option.bind_eq_some_iff.1 h
       refine ⟨e', sz, by_, hT, hcond.1, hcond.2.1, hcond.2.2, xs, hxs, ?_⟩
       split at h
       ·rename_i hsv
        split at h
        ·rename_i hx
         cases h
         rw [hsv]
         refine ⟨hx.1, hx.2.1, fun he => by rw [he] at hx; simp at hx, fun _ b hb => ⟨b, .inl hb, rfl, ?_⟩⟩
         intro k o hk
         simp only [Ef.app, Heap.set] at hk ⊢
         split at hk
         ·rename_i hkb; rw [if_pos hkb]; exact hk
         ·rename_i hkb; rw [if_neg hkb]; exact minus_le _ _ k o hk
        ·cases h
       ·rename_i b sz' lo n hsv
        split at h
        ·rename_i sz'' es hb
         split at h
         ·rename_i hx
          obtain ⟨x1, x2, x3, x4, x5, x6⟩ := hx
          subst x1; subst x2; subst x3
          cases h
          rw [hsv]
          refine ⟨rfl, .inl ⟨rfl, es, hb, x4, x5, x6, fun b' hb' => ⟨b', ?_, rfl, ?_⟩⟩⟩
          ·show H b' = none ∨ b' ∈ b :: _
           rcases del_none'.1 hb' with h | h
           ·exact .inr (by rw [h]; exact List.mem_cons_self ..)
           ·exact .inl h
          ·intro k o hk
           simp only [Ef.app, Heap.set] at hk ⊢
           split at hk
           ·rename_i hkb; rw [if_pos hkb]; exact hk
           ·rename_i hkb
            rw [if_neg hkb]
            unfold Heap.minus at hk
            split at hk
            ·cases hk
            ·rename_i hkm
             simp only [List.mem_cons, not_or] at hkm
             unfold Heap.del
             rw [if_neg hkm.1]; exact hk
         ·cases h
        ·cases h
       ·cases h
      ·cases h
     ·cases h
    all_goals cases h
  case makeMap t r =>
   cases r with
   | none =>
    simp only [runX, Option.some.injEq] at h
    subst h
    exact fun b hb => ⟨b, .inl hb, rfl, by show ((H.minus []).set b _).Le _; rw [minus_nil]; exact Heap.Le.refl _⟩
   | some r => simp [runX] at h
  all_goals cases h
structure StF (N : Nat) (w0 : World) (H0 : Heap) (F : FEnv) (H : Heap) (U : Nat → Prop) (a : Act) (w : World) : Prop where
 size : a.tmps.size = N
 defers : a.defers = []
 env : ∀ i, R w H (F i) (a.eval (.tmp i))
 sat : Sat H w
 ext : Ext H0 w0 w
 frm : From w0 H0 H
 dom : Dom H U
 lt : ∀ b, U b → b < w.heap.size
theorem StF.evR {N : Nat} {w0 : World} {H0 : Heap} {F : FEnv} {U : Nat → Prop} {a : Act} {w : World} (h : StF N w0 H0 F H U a w) (x : Operand) : R w H (F.ev x) (a.eval x) := by
 cases x with
 | tmp t => exact h.env t
 | const v => exact ofValue_R w H v
 | global g => exact .glob g
 | func f => exact .fn _ _ _ _ _ rfl rfl (by simp) (by simp)
theorem app_at {e : Ef} {b : Nat} {o : Obj} {H : Heap} (h : e.new = some o) : e.app b H b = some o := by unfold Ef.app; rw [h]; simp [Heap.set]
theorem stepR_sound {N : Nat} {w0 : World} {H0 : Heap} {o : Oper} {K : Kf} {F : FEnv} {U : Nat → Prop} {a : Act} {w : World} (hd : ∀ t, o.dst = some t → t < N) (h : stepR P c bb o K F H U) (hst : StF N w0 H0 F H U a w) :
  opSem P none o a w fun v w' => ∃ F' H' U', StF N w0 H0 F' H' U' (a.put o.dst v) w' ∧ K F' H' U' := by
 obtain ⟨e, he, hok, hcall, hk⟩ := h
 refine (wpOp_sound (o := o) hst.sat hst.evR (runE_wp he hok hcall)).mono fun v w' hp => ?_
 obtain ⟨d, H', hR, hS, hE, hF, b, hb, rfl, hle⟩ := hp
 have hnew : ∀ ob, e.new = some ob → H b = none → w.heap.size ≤ b := fun ob hob hbn => by
  rcases Nat.lt_or_ge b w.heap.size with hlt | hge
  ·have h1 := hF b hlt (held_none hbn)
   have h2 := hle b ob (app_at hob)
   rw [held_of h2, hok.new ob hob] at h1
   cases h1
  ·exact hge
 have hbU : e.okB b U := by
  unfold Ef.okH at hb
  unfold Ef.okB
  cases hn : e.new with
  | none => trivial
  | some ob =>
   rw [hn] at hb
   cases ha : e.at_ with
   | none =>
    rw [ha] at hb
    exact hb.imp (fun hbn hU => by have := hst.lt b hU; have := hnew ob hn hbn; omega) id
   | some y => rw [ha] at hb; exact hb
 refine ⟨F.put o.dst (e.val b), e.app b H, e.used b U, ?_, hk b hbU⟩
 have hF' : From w H (e.app b H) := hF.less hle
 refine ⟨?_, ?_, fun i => ?_, hS.less hle, hst.ext.trans hst.frm hE, hst.frm.trans hst.ext.size hF', hst.dom.app hbU, fun k hk => ?_⟩
 ·cases o.dst <;> simp [Act.put, hst.size]
 ·cases o.dst <;> exact hst.defers
 ·cases hdst : o.dst with
  | none => exact (hst.env i).mono hE hF'
  | some t =>
   have ht := hd t hdst
   simp only [FEnv.put]
   by_cases hti : t = i
   ·subst hti
    rw [if_pos rfl]
    have : (a.put (some t) v).eval (.tmp t) = v := by
     have h' : t < a.tmps.size := by rw [hst.size]; exact ht
     simp [Act.eval, Act.put, h']
    rw [this]; exact hR.less hle
   ·rw [if_neg hti]
    have : (a.put (some t) v).eval (.tmp i) = a.eval (.tmp i) := by
     simp [Act.eval, Act.put, Array.getElem?_setIfInBounds_ne hti]
    rw [this]; exact (hst.env i).mono hE hF'
 ·rcases used_inv hk with hk | ⟨hn, rfl⟩
  ·exact Nat.lt_of_lt_of_le (hst.lt k hk) hE.size
  ·cases hn' : e.new with
   | none => exact absurd hn' hn
   | some ob => exact hS.lt (hle k ob (app_at hn'))
theorem runs_wanted {N : Nat} {w0 : World} {H0 : Heap} {F : FEnv} {H : Heap} {U : Nat → Prop} {a : Act} {w : World} {o : Oper} {r : Bool} (hst : StF N w0 H0 F H U a w) (h : runs (dstsOf ops) F o.guard = some r) : Region.wanted o (yielded ops a.tmps) = r := by
 cases hg : o.guard with
 | none => rw [hg] at h; cases h; simp [Region.wanted, hg]
 | some jw =>
  obtain ⟨j, want⟩ := jw
  rw [hg] at h
  unfold runs at h
  simp only [] at h
  rw [slot_of] at h
  cases hs : (ops[j]?).bind (·.dst) with
  | none =>
   rw [hs] at h
   cases h
   have hy : yielded ops a.tmps j = none := by unfold yielded; rw [hs]; rfl
   simp [Region.wanted, hg, hy]
  | some s =>
   rw [hs] at h
   simp only [] at h
   have hv := hst.env s
   split at h
   ·rename_i hF
    cases h
    rw [hF] at hv
    obtain ⟨vs, hv, _⟩ := hv.tuple_inv
    have hy : yielded ops a.tmps j = none := by
     unfold yielded
     rw [hs]
     simp only [Option.bind_some]
     simp only [Act.eval] at hv
     cases ht : a.tmps[s]? with
     | none => rfl
     | some u =>
      simp [ht] at hv
      subst hv; rfl
    simp [Region.wanted, hg, hy]
   ·rename_i b hF
    cases h
    rw [hF] at hv
    have hv := hv.bool_inv
    have hy : yielded ops a.tmps j = some b := by
     unfold yielded
     rw [hs]
     simp only [Option.bind_some]
     simp only [Act.eval] at hv
     cases ht : a.tmps[s]? with
     | none =>
      simp [ht] at hv
      cases hv
     | some u =>
      simp [ht] at hv
      subst hv; rfl
    simp [Region.wanted, hg, hy]
   ·cases h
theorem StF.skip {N : Nat} {w0 : World} {H0 : Heap} {F : FEnv} {H : Heap} {U : Nat → Prop} {a : Act} {w : World} (hst : StF N w0 H0 F H U a w) {dst : Option Nat} (hd : ∀ t, dst = some t → t < N) : StF N w0 H0 (F.put dst (.tuple [])) H U (a.put dst undef) w := by
 refine ⟨?_, ?_, fun i => ?_, hst.sat, hst.ext, hst.frm, hst.dom, hst.lt⟩
 ·cases dst <;> simp [Act.put, hst.size]
 ·cases dst <;> exact hst.defers
 ·cases dst with
  | none => exact hst.env i
  | some t =>
   have ht := hd t rfl
   simp only [FEnv.put]
   by_cases hti : t = i
   ·subst hti
    rw [if_pos rfl]
    have : (a.put (some t) undef).eval (.tmp t) = undef := by
     have h' : t < a.tmps.size := by rw [hst.size]; exact ht
     simp [Act.eval, Act.put, h']
    rw [this]; exact .tuple [] #[] rfl (by simp)
   ·rw [if_neg hti]
    have : (a.put (some t) undef).eval (.tmp i) = a.eval (.tmp i) := by
     simp [Act.eval, Act.put, Array.getElem?_setIfInBounds_ne hti]
    rw [this]; exact hst.env i
theorem anyE_sound {N : Nat} {w0 : World} {H0 : Heap} {K : Kf} {Q : Exit → Act → World → Prop} (hd : ∀ o ∈ ops.toList, ∀ t, o.dst = some t → t < N)
  (hQ : ∀ F H U a w, StF N w0 H0 F H U a w → K F H U → Q .normal a w) : ∀ (fuel : Nat) (listed : Array Bool) (F : FEnv) (H : Heap) (U : Nat → Prop) (a : Act) (w : World),
  anyE P cs bs md ops K fuel listed F H U → StF N w0 H0 F H U a w → Go.wpAny P md ops Q fuel listed a w
 | 0, _, F, H, U, a, w, h, hst => ⟨h.1, hQ _ _ _ _ _ hst h.2⟩
 | fuel + 1, listed, F, H, U, a, w, h, hst => ⟨fun h0 => hQ _ _ _ _ _ hst (h.1 h0), fun i hi => by
   have h1 := h.2 i hi
   unfold sE at h1
   unfold Go.wpOp
   split
   ·rename_i hn; simp only [hn] at h1; exact anyE_sound hd hQ fuel _ _ _ _ _ _ h1 hst
   ·rename_i o ho
    simp only [ho] at h1
    have hmem : o ∈ ops.toList := by rw [Array.mem_toList_iff]; exact Array.mem_of_getElem? ho
    rcases h1 with ⟨hr, h1⟩ | ⟨hr, h1⟩
    ·rw [if_pos (runs_wanted hst hr)]
     exact .inl (opSem.wp ((stepR_sound (hd o hmem) h1 hst).mono fun v w' hv => by
      obtain ⟨F', H', U', hst', hk⟩ := hv
      exact anyE_sound hd hQ fuel _ _ _ _ _ _ hk hst'))
    ·rw [if_neg (by rw [runs_wanted hst hr]; exact Bool.false_ne_true)]
     exact anyE_sound hd hQ fuel _ _ _ _ _ _ h1 (hst.skip (hd o hmem))⟩
def wpP (P : Program) (gs : List (Option Nat)) (cs : Nat → CR) (bs : Nat → Bl) (K : Env → Heap → Prop) : Nat → List Oper → Env → Heap → Prop
 | _, [], E, H => K E H
 | i, o :: l, E, H => match o.guard with
  | none => ∃ e, runE P (cs i) (bs i).l E.ev H o.op = some e ∧ okEf (bs i) H e ∧ callOk P (cs i) (bs i).l E.ev H o.op ∧ ∀ b, e.okH b H → wpP P gs cs bs K (i + 1) l (E.put o.dst (e.val b)) (e.app b H)
  | some (j, want) => guardA E (guardSlot gs j) want
    (fun E => ∃ e, runE P (cs i) (bs i).l E.ev H o.op = some e ∧ okEf (bs i) H e ∧ callOk P (cs i) (bs i).l E.ev H o.op ∧ ∀ b, e.okH b H → wpP P gs cs bs K (i + 1) l (E.put o.dst (e.val b)) (e.app b H))
    (fun E => wpP P gs cs bs K (i + 1) l (E.put o.dst (.tuple [])) H)
theorem wpP_listE {gs : List (Option Nat)} {K : Env → Heap → Prop} : ∀ (l : List Oper) (i : Nat) (E : Env) (F : FEnv) (H : Heap) (U : Nat → Prop), (∀ t, E.get t = F t) → Dom H U → wpP P gs cs bs K i l E H → listE P gs cs bs (fun F H _ => ∃ E, (∀ t, E.get t = F t) ∧ K E H) i l F H U
 | [], i, E, F, H, U, hE, hD, h => ⟨E, hE, h⟩
 | o :: l, i, E, F, H, U, hE, hD, h => by
  have put : ∀ (E : Env) (d : D), (∀ t, E.get t = F t) → ∀ t, (E.put o.dst d).get t = (F.put o.dst d) t := fun E d hE t => by
   cases o.dst with
   | none => exact hE t
   | some u =>
    simp only [Env.put, Env.get, FEnv.put]
    split
    ·rfl
    ·exact hE t
  have hev : ∀ (E : Env), (∀ t, E.get t = F t) → F.ev = E.ev := fun E hE => by
   funext x
   cases x with
   | tmp t => exact (hE t).symm
   | _ => rfl
  have run : ∀ (E : Env), (∀ t, E.get t = F t) → (∃ e, runE P (cs i) (bs i).l E.ev H o.op = some e ∧ okEf (bs i) H e ∧ callOk P (cs i) (bs i).l E.ev H o.op ∧ ∀ b, e.okH b H → wpP P gs cs bs K (i + 1) l (E.put o.dst (e.val b)) (e.app b H)) →
    stepR P (cs i) (bs i) o (listE P gs cs bs (fun F H _ => ∃ E, (∀ t, E.get t = F t) ∧ K E H) (i + 1) l) F H U := fun E hE h => by
   obtain ⟨e, he, hok, hcall, hk⟩ := h
   exact ⟨e, by rw [hev E hE]; exact he, hok, by rw [hev E hE]; exact hcall, fun b hb => wpP_listE l (i + 1) (E.put o.dst (e.val b)) _ _ _ (put E _ hE) (hD.app hb) (hk b (okH_of hD hb))⟩
  have skip : ∀ (E : Env), (∀ t, E.get t = F t) → wpP P gs cs bs K (i + 1) l (E.put o.dst (.tuple [])) H → listE P gs cs bs (fun F H _ => ∃ E, (∀ t, E.get t = F t) ∧ K E H) (i + 1) l (F.put o.dst (.tuple [])) H U := fun E hE h =>
   wpP_listE l (i + 1) (E.put o.dst (.tuple [])) _ _ _ (put E _ hE) hD h
  have know : ∀ (E : Env) (s : Nat) (d : D), (∀ t, E.get t = F t) → E.get s = d → ∀ t, Env.get ((s, d) :: E) t = F t := fun E s d hE hs t => by
   simp only [Env.get]
   split
   ·rename_i e; subst e; rw [← hs]; exact hE s
   ·exact hE t
  unfold wpP at h
  unfold listE
  cases hg : o.guard with
  | none =>
   rw [hg] at h
   exact .inl ⟨by rw [hg]; rfl, run E hE h⟩
  | some jw =>
   obtain ⟨j, want⟩ := jw
   rw [hg] at h
   simp only [] at h
   unfold guardA at h
   cases hs : guardSlot gs j with
   | none =>
    rw [hs] at h
    exact .inr ⟨by rw [hg]; simp only [runs, hs], skip E hE h⟩
   | some s =>
    rw [hs] at h
    rcases h with ⟨hu, h⟩ | ⟨b, hb, h1, h2⟩
    ·have hF : F s = .tuple [] := by rw [← hE]; exact hu
     exact .inr ⟨by rw [hg]; simp only [runs, hs, hF], skip E hE h⟩
    ·have hF : F s = .bool b := by rw [← hE]; exact hb
     by_cases hbw : b = want
     ·subst hbw
      exact .inl ⟨by rw [hg]; simp only [runs, hs, hF, beq_self_eq_true], run _ (know E s _ hE hb) (h1 rfl)⟩
     ·have hbn : b = !want := by cases b <;> cases want <;> simp_all
      subst hbn
      exact .inr ⟨by rw [hg]; simp only [runs, hs, hF]; cases want <;> rfl, skip _ (know E s _ hE hb) (h2 rfl)⟩
theorem fin_lt (n : Nat) (l : List Nat) : ∃ b, ¬ (b < n) ∧ b ∉ l := by
 refine ⟨n + l.sum + 1, by omega, fun h => ?_⟩
 have : ∀ (l : List Nat) (x : Nat), x ∈ l → x ≤ l.sum := by
  intro l
  induction l with
  | nil => intro x hx; cases hx
  | cons y l ih =>
   intro x hx
   rcases List.mem_cons.1 hx with rfl | hx
   ·simp
   ·have := ih x hx; simp; omega
 have := this l _ h
 omega
theorem dom_world {w : World} (hs : Sat H w) : Dom H (fun b => b < w.heap.size) := ⟨fun b hb => by
 cases h : H b with
 | none => exact absurd h hb
 | some o => exact hs.lt h, fin_lt _⟩
theorem wpP_draw {N : Nat} {w0 : World} {H0 : Heap} {id : Nat} {K : Env → Heap → Prop} {Q : Exit → Act → World → Prop} {a : Act} {w : World} {E : Env} (hm : P.follows .mixedOrders = true) (hok : okDrawE P ops = true)
  (hd : ∀ o ∈ ops.toList, ∀ t, o.dst = some t → t < N)
  (hQ : ∀ E H a w, a.tmps.size = N → a.defers = [] → (∀ i, R w H (E.get i) (a.eval (.tmp i))) → Sat H w → Ext H0 w0 w → From w0 H0 H → K E H → Q .normal a w)
  (h1 : a.tmps.size = N) (h2 : a.defers = []) (h3 : ∀ i, R w H (E.get i) (a.eval (.tmp i))) (h4 : Sat H w) (h5 : Ext H0 w0 w) (h6 : From w0 H0 H)
  (hbs : BlOk bs 0 ops.toList) (h : wpP P (dstsOf ops) cs bs K 0 ops.toList E H) : (Code.region id ops true).wp P Q a w := by
 have he : Ext H w { w with drawn := w.drawn + 1 } := Ext.drewN H w 1
 have hs1 := h4.same (w' := { w with drawn := w.drawn + 1 }) rfl he
 refine wp_region_any hm (anyE_sound (P := P) (cs := cs) (bs := bs) (md := .any) (ops := ops) (K := fun F H _ => ∃ E, (∀ t, E.get t = F t) ∧ K E H) hd (fun F H U a w hst hk => ?_) ops.size _ _ _ _ a { w with drawn := w.drawn + 1 } ?_
  (⟨h1, h2, fun i => (h3 i).mono he (From.refl _ _), hs1, h5.trans h6 he, h6, dom_world hs1, fun b hb => hb⟩ : StF N w0 H0 E.get H (fun b => b < ({ w with drawn := w.drawn + 1 } : World).heap.size) a { w with drawn := w.drawn + 1 }))
 ·obtain ⟨E, hE, hk⟩ := hk
  exact hQ E H a w hst.size hst.defers (fun i => by rw [hE]; exact hst.env i) hst.sat hst.ext hst.frm hk
 ·have := okFromE_any (P := P) (cs := cs) (bs := bs) (ops := ops) ops.toList 0 (Array.replicate ops.size false) (by simp) (by intro j; simp [Array.getElem?_replicate]; split <;> rfl) (by simp) hok hbs E.get H _ (dom_world hs1)
   (wpP_listE ops.toList 0 E E.get H _ (fun _ => rfl) (dom_world hs1) h)
  simpa using this
end
end Go.Av
end
section
namespace Go.Av
section
variable {P : Program} {H H' : Heap} {ev ev' : Operand → D} {bl : List Nat}
theorem wpOp_pure {op : Op} {K : D → Heap → Prop} (hc : cls P op = .pure) : wpOp P ev H K op = ∃ d, pureD P ev op = some d ∧ K d H := by
 cases op
 case convert s t x => simp only [wpOp, hc]
 case call cc =>
  obtain ⟨callee, args, ats⟩ := cc
  cases callee with
  | value f => simp [cls] at hc
  | invoke r m => simp [cls] at hc
  | builtin b => cases b <;> first | (simp only [wpOp, hc]; done) | (simp [cls] at hc; done)
 all_goals first
  | rfl
  | (simp [cls] at hc; done)
  | (simp only [wpOp, hc]; done)
theorem wpOp_congr {op : Op} {K : D → Heap → Prop} (h : ∀ x ∈ op.operands.toList, ev x = ev' x) : wpOp P ev H K op = wpOp P ev' H K op := by
 by_cases hc : cls P op = .pure
 ·rw [wpOp_pure hc, wpOp_pure hc, pureD_congr hc h]
 ·cases op
  case load t x => simp only [wpOp, h x (by simp [Op.operands])]
  case store t a x => simp only [wpOp, h a (by simp [Op.operands]), h x (by simp [Op.operands])]
  case box t x => simp only [wpOp, h x (by simp [Op.operands])]
  case lookup t m k ok => simp only [wpOp, h m (by simp [Op.operands]), h k (by simp [Op.operands])]
  case mapUpdate t m k x => simp only [wpOp, h m (by simp [Op.operands]), h k (by simp [Op.operands]), h x (by simp [Op.operands])]
  case buildSlice t n parts => simp only [wpOp, parts_ev (ev := ev) (ev' := ev') (l := parts.toList) (fun x hx => h x (by simpa [Op.operands] using hx))]
  case makeSlice t l c => simp only [wpOp, h l (by simp [Op.operands]), h c (by simp [Op.operands])]
  case range t x => simp only [wpOp, h x (by simp [Op.operands])]
  case next x b => simp only [wpOp, h x (by simp [Op.operands])]
  case convert s t x =>
   have hx := h x (by simp [Op.operands])
   have e1 : convA P ev H K s t x = convA P ev' H K s t x := by unfold convA; rw [hx]
   simp only [wpOp]
   exact e1
  case call cc =>
   obtain ⟨callee, args, ats⟩ := cc
   cases callee with
   | value f =>
    have hf := h f (by simp [Op.operands, Call.operands])
    have ha := map_ev (ev := ev) (ev' := ev') (l := args.toList) (fun x hx => h x (by simp [Op.operands, Call.operands]; exact .inr (by simpa using hx)))
    simp only [wpOp, hf, ha]
   | invoke r m => simp only [wpOp]
   | builtin b =>
    cases b
    case append =>
     unfold wpOp
     simp only
     split
     ·rename_i t t' s x h1 h2
      have e1 := h s (by simp [Op.operands, Call.operands, ← Array.mem_toList_iff, h2])
      have e2 := h x (by simp [Op.operands, Call.operands, ← Array.mem_toList_iff, h2])
      unfold appendA
      rw [e1, e2]
     ·rfl
    case len =>
     unfold wpOp
     simp only
     split
     ·rename_i x h2
      rw [h x (by simp [Op.operands, Call.operands, ← Array.mem_toList_iff, h2])]
     ·rfl
    all_goals
     unfold wpOp
     simp only
     try (split <;> first | rfl | (rename_i hh; exact absurd hh hc))
  case makeMap t r => cases r <;> first | rfl | (unfold wpOp; simp only; try (split <;> first | rfl | (rename_i hh; exact absurd hh hc)))
  all_goals first
   | rfl
   | (unfold wpOp; simp only; try (split <;> first | rfl | (rename_i hh; exact absurd hh hc)))
theorem wpOp_mono {op : Op} {K K' : D → Heap → Prop} (hK : ∀ d H, K d H → K' d H) (h : wpOp P ev H K op) : wpOp P ev H K' op := by
 by_cases hc : cls P op = .pure
 ·rw [wpOp_pure hc] at h ⊢
  obtain ⟨d, h1, h2⟩ := h
  exact ⟨d, h1, hK _ _ h2⟩
 ·cases op
  case load t x => obtain ⟨d, h1, h2⟩ := h; exact ⟨d, h1, hK _ _ h2⟩
  case store t a x => obtain ⟨d, h1, h2⟩ := h; exact ⟨d, h1, hK _ _ h2⟩
  case box t x => exact ⟨h.1, fun b hb => hK _ _ (h.2 b hb)⟩
  case alloc t => obtain ⟨z, h1, h2⟩ := h; exact ⟨z, h1, fun b hb => hK _ _ (h2 b hb)⟩
  case lookup t m k ok => obtain ⟨d, h1, h2⟩ := h; exact ⟨d, h1, hK _ _ h2⟩
  case mapUpdate t m k x => obtain ⟨d, h1, h2⟩ := h; exact ⟨d, h1, hK _ _ h2⟩
  case buildSlice t n parts => obtain ⟨e, sz, by_, z, es, h1, h2, h3, h4, h5, h6, h7⟩ := h; exact ⟨e, sz, by_, z, es, h1, h2, h3, h4, h5, h6, fun b hb => hK _ _ (h7 b hb)⟩
  case makeSlice t l c => obtain ⟨e, sz, by_, z, k, n, k', m, h1, h2, h3, h4, h5, h6, h7, h8, h9, h10, h11⟩ := h; exact ⟨e, sz, by_, z, k, n, k', m, h1, h2, h3, h4, h5, h6, h7, h8, h9, h10, fun b hb => hK _ _ (h11 b hb)⟩
  case range t x =>
   unfold wpOp at h ⊢
   simp only at h ⊢
   split at h
   ·exact ⟨h.1, fun b hb => hK _ _ (h.2 b hb)⟩
   ·exact h.elim
  case next x b =>
   unfold wpOp at h ⊢
   simp only at h ⊢
   split at h
   ·split at h
    ·rename_i h1 h2 _ _ _ _; exact ⟨fun g => hK _ _ (h.1 g), fun g => hK _ _ (h.2 g)⟩
    ·exact h.elim
   ·exact h.elim
  case convert s t x =>
   have e1 : convA P ev H K s t x → convA P ev H K' s t x := fun h => by
    unfold convA at h ⊢
    split at h
    ·exact ⟨h.1, h.2.1, fun b hb => hK _ _ (h.2.2 b hb)⟩
    ·obtain ⟨h1, h2, z, h3, h4⟩ := h; exact ⟨h1, h2, z, h3, hK _ _ h4⟩
   simp only [wpOp] at h ⊢
   exact e1 h
  case call cc =>
   obtain ⟨callee, args, ats⟩ := cc
   cases callee with
   | value f =>
    unfold wpOp at h ⊢
    simp only at h ⊢
    split at h
    ·exact ACalls.mono h hK
    ·exact h.elim
   | invoke r m => unfold wpOp at h; simp only at h; try (split at h <;> first | exact h.elim | (rename_i hh; exact absurd hh hc))
   | builtin b =>
    cases b
    case append =>
     unfold wpOp at h ⊢
     simp only at h ⊢
     split at h
     ·unfold appendA at h ⊢
      obtain ⟨e, sz, by_, h1, h2, h3, h4, xs, h5, h6⟩ := h
      refine ⟨e, sz, by_, h1, h2, h3, h4, xs, h5, ?_⟩
      split at h6
      ·exact ⟨h6.1, h6.2.1, fun g => hK _ _ (h6.2.2.1 g), fun g b hb => hK _ _ (h6.2.2.2 g b hb)⟩
      ·refine ⟨h6.1, ?_⟩
       rcases h6.2 with ⟨g1, es, g2, g3, g4, g5, g6⟩ | ⟨es, g2, g3, g4, g5, g6⟩
       ·exact .inl ⟨g1, es, g2, g3, g4, g5, fun b' hb' => hK _ _ (g6 b' hb')⟩
       ·exact .inr ⟨es, g2, g3, g4, g5, fun b' pre hb' => hK _ _ (g6 b' pre hb')⟩
      ·exact h6.elim
     ·exact h.elim
    case len =>
     have e1 : (match args.toList with | [x] => ∃ kvs, kvsOf H (ev x) = some kvs ∧ K (.int .i64 kvs.length) H | _ => False) → (match args.toList with | [x] => ∃ kvs, kvsOf H (ev x) = some kvs ∧ K' (.int .i64 kvs.length) H | _ => False) := fun h => by
      split at h
      ·obtain ⟨kvs, h1, h2⟩ := h; exact ⟨kvs, h1, hK _ _ h2⟩
      ·exact h.elim
     unfold wpOp at h ⊢
     simp only at h ⊢
     exact e1 h
    all_goals
     unfold wpOp at h
     simp only at h
     try (split at h <;> first | exact h.elim | (rename_i hh; exact absurd hh hc))
  case makeMap t r =>
   cases r with
   | none => exact fun b hb => hK _ _ (h b hb)
   | some x => unfold wpOp at h; simp only at h; try (split at h <;> first | exact h.elim | (rename_i hh; exact absurd hh hc))
  all_goals (unfold wpOp at h; simp only at h; try (split at h <;> first | exact h.elim | (rename_i hh; exact absurd hh hc)))
def rdIn (bl : List Nat) (ev : Operand → D) : Op → Prop
 | .load _ x => ∀ b ∈ rdB (ev x), b ∈ bl
 | _ => False
abbrev Kg := FEnv → Heap → Prop
def genO (P : Program) (bl : List Nat) (o : Oper) (K : Kg) (F : FEnv) (H : Heap) : Prop :=
 o.guard = none ∧ (cls P o.op = .load → rdIn bl F.ev o.op) ∧ wpOp P F.ev H (fun d H' => (∀ k ∈ bl, H' k = H k) ∧ K (F.put o.dst d) H') o.op
theorem genO_mono {o : Oper} {K K' : Kg} (h : ∀ F H, K F H → K' F H) {F : FEnv} {H : Heap} (hk : genO P bl o K F H) : genO P bl o K' F H :=
 ⟨hk.1, hk.2.1, wpOp_mono (fun d H' g => ⟨g.1, h _ _ g.2⟩) hk.2.2⟩
def Yld (P : Program) (bl : List Nat) (o : Oper) (d : D) (F : FEnv) (H : Heap) : Prop :=
 (cls P o.op = .pure ∧ pureD P F.ev o.op = some d) ∨ ∃ t x, o.op = .load t x ∧ (∀ b ∈ rdB (F.ev x), b ∈ bl) ∧ loadD P t (F.ev x) H = some d
theorem yld_of {o : Oper} {K : Kg} {F : FEnv} {H : Heap} (hc : cls P o.op ≠ .eff) (h : genO P bl o K F H) : o.guard = none ∧ ∃ d, Yld P bl o d F H ∧ K (F.put o.dst d) H := by
 obtain ⟨h1, h2, h3⟩ := h
 refine ⟨h1, ?_⟩
 cases hcl : cls P o.op with
 | pure =>
  rw [wpOp_pure hcl] at h3
  obtain ⟨d, h4, _, h5⟩ := h3
  exact ⟨d, .inl ⟨hcl, h4⟩, h5⟩
 | load =>
  have hr := h2 hcl
  obtain ⟨dst, op, ty, pos, after, guard⟩ := o
  cases op <;> try exact hr.elim
  rename_i t x
  obtain ⟨d, h4, _, h5⟩ := h3
  exact ⟨d, .inr ⟨t, x, rfl, hr, h4⟩, h5⟩
 | eff => exact absurd hcl hc
theorem gen_of_yld {o : Oper} {K : Kg} {F : FEnv} {H : Heap} {d : D} (hg : o.guard = none) (hy : Yld P bl o d F H) (h : K (F.put o.dst d) H) : genO P bl o K F H := by
 rcases hy with ⟨hc, hp⟩ | ⟨t, x, ho, hr, hl⟩
 ·refine ⟨hg, (fun g => by rw [hc] at g; cases g), ?_⟩
  rw [wpOp_pure hc]
  exact ⟨d, hp, fun _ _ => rfl, h⟩
 ·refine ⟨hg, fun _ => by rw [ho]; exact hr, ?_⟩
  rw [ho]
  exact ⟨d, hl, fun _ _ => rfl, h⟩
theorem Yld.keep {ops : Array Oper} {o : Oper} {d : D} {F : FEnv} {H H' : Heap} {dst : Option Tmp} {e : D} (h : Yld P bl o d F H) (hap : ∀ t, dst = some t → t ∉ o.looksAt ops) (hH : ∀ k ∈ bl, H' k = H k) : Yld P bl o d (F.put dst e) H' := by
 have hev := ev_apart (F := F) (ops := ops) (o := o) (dst := dst) (d := e) hap
 rcases h with ⟨hc, hp⟩ | ⟨t, x, ho, hr, hl⟩
 ·exact .inl ⟨hc, by rw [pureD_congr hc hev]; exact hp⟩
 ·have hx := hev x (by rw [ho]; simp [Op.operands])
  refine .inr ⟨t, x, ho, by rw [hx]; exact hr, ?_⟩
  rw [hx]
  unfold loadD at hl ⊢
  obtain ⟨s, hs, hl⟩ := Option.bind_eq_some_iff.1 hl
  obtain ⟨cs, hc, hl⟩ := Option.bind_eq_some_iff.1 hl
  rw [hs, Option.bind_some, loc_local hc (fun b hb => hH b (hr b hb)), Option.bind_some]
  exact hl
section
variable {ops : Array Oper} {md : Region.Mode}
def sG (P : Program) (bl : List Nat) (ops : Array Oper) (i : Nat) (K : Kg) : Kg := match ops[i]? with
 | none => K
 | some o => genO P bl o K
def anyG (P : Program) (bl : List Nat) (md : Region.Mode) (ops : Array Oper) (K : Kg) : Nat → Array Bool → Kg
 | 0, listed => fun F H => Region.ready md ops listed = [] ∧ K F H
 | fuel + 1, listed => fun F H => (Region.ready md ops listed = [] → K F H) ∧ ∀ i ∈ Region.ready md ops listed, sG P bl ops i (anyG P bl md ops K fuel (listed.setIfInBounds i true)) F H
theorem anyG_first {K : Kg} {i : Nat} {oi : Oper} {d : D} {W : Nat → Prop} (hi : ops[i]? = some oi) (hgi : oi.guard = none) (hW : Closed md ops i W) :
  ∀ (fuel : Nat) (listed : Array Bool) (F : FEnv) (H : Heap), (∀ j, W j → listed.getD j false = false) →
   (∀ j oj, ops[j]? = some oj → ¬ W j → listed.getD j true = false → oi.apart ops oj = true) →
   i ∈ Region.ready md ops listed → Yld P bl oi d F H → anyG P bl md ops K fuel (listed.setIfInBounds i true) (F.put oi.dst d) H → anyG P bl md ops K (fuel + 1) listed F H := by
 intro fuel
 induction fuel with
 | zero =>
  intro listed F H _ _ hr hy h
  refine ⟨fun h0 => (by rw [h0] at hr; cases hr), fun j hj => ?_⟩
  by_cases hji : j = i
  ·subst hji; unfold sG; simp only [hi]; exact gen_of_yld hgi hy h
  ·have := ready_mono hj hji
   rw [h.1] at this
   cases this
 | succ fuel ih =>
  intro listed F H hun hfree hr hy h
  refine ⟨fun h0 => (by rw [h0] at hr; cases hr), fun j hj => ?_⟩
  by_cases hji : j = i
  ·subst hji; unfold sG; simp only [hi]; exact gen_of_yld hgi hy h
  ·obtain ⟨hjun, oj, hoj, _⟩ := mem_ready.1 hj
   have hnW := hW.not_ready hun hj hji
   have hap := hfree j oj hoj hnW hjun
   obtain ⟨a1, a2, a3⟩ := Oper.apart_spec hap
   have hun' : ∀ k, W k → (listed.setIfInBounds j true).getD k false = false := fun k hk => by
    rw [getD_set_false (fun e : j = k => hnW (by rw [e]; exact hk))]; exact hun k hk
   have hfree' : ∀ k ok, ops[k]? = some ok → ¬ W k → (listed.setIfInBounds j true).getD k true = false → oi.apart ops ok = true := fun k ok hk hnk hu => by
    refine hfree k ok hk hnk ?_
    by_cases hjk : j = k
    ·subst hjk; exact hjun
    ·rw [getD_set_ne true hjk] at hu; exact hu
   have h1 := h.2 j (ready_mono hj hji)
   unfold sG at h1 ⊢
   simp only [hoj] at h1 ⊢
   obtain ⟨g1, g2, g3⟩ := h1
   have hev := ev_apart (F := F) (ops := ops) (o := oj) (dst := oi.dst) (d := d) a1
   refine ⟨g1, fun hl => ?_, ?_⟩
   ·have hr2 := g2 hl
    have key : ∀ op : Op, (∀ x ∈ op.operands.toList, (F.put oi.dst d).ev x = F.ev x) → rdIn bl (F.put oi.dst d).ev op → rdIn bl F.ev op := fun op hv hr => by
     cases op with
     | load t x =>
      have hx := hv x (by simp [Op.operands])
      show ∀ b ∈ rdB (F.ev x), b ∈ bl
      rw [← hx]; exact hr
     | _ => exact hr.elim
    exact key _ hev hr2
   ·rw [wpOp_congr hev] at g3
    refine wpOp_mono (fun e H' hk => ⟨hk.1, ih (listed.setIfInBounds j true) (F.put oj.dst e) H' hun' hfree' (ready_mono hr (Ne.symm hji)) (hy.keep a3 hk.1) ?_⟩) g3
    rw [Array.setIfInBounds_comm _ _ hji, ← put_comm a2]
    exact hk.2
theorem anyG_only {K : Kg} {i : Nat} {oi : Oper} {W : Nat → Prop} (hi : ops[i]? = some oi) (hW : Closed md ops i W) (fuel : Nat) (listed : Array Bool) (F : FEnv) (H : Heap) (hun : ∀ j, W j → listed.getD j false = false)
  (hall : ∀ j oj, ops[j]? = some oj → listed.getD j true = false → W j) (hr : i ∈ Region.ready md ops listed) (h : genO P bl oi (anyG P bl md ops K fuel (listed.setIfInBounds i true)) F H) : anyG P bl md ops K (fuel + 1) listed F H := by
 refine ⟨fun h0 => (by rw [h0] at hr; cases hr), fun j hj => ?_⟩
 by_cases hji : j = i
 ·subst hji; unfold sG; simp only [hi]; exact h
 ·obtain ⟨hjun, oj, hoj, _⟩ := mem_ready.1 hj
  exact absurd (hall j oj hoj hjun) (hW.not_ready hun hj hji)
def waitB (ops : Array Oper) (i : Nat) (acc : List Nat) (j : Nat) : Bool := match ops[j]? with
 | some o => o.after.any fun e => Region.binds .any e && (e.on == i || acc.contains e.on)
 | none => false
def waitP (ops : Array Oper) (i : Nat) : List Nat → List Nat → List Nat
 | [], acc => acc
 | j :: l, acc => waitP ops i l (if waitB ops i acc j = true then j :: acc else acc)
def okOrdFrom (P : Program) (ops : Array Oper) : List Nat → List Nat → Bool
 | [], done => (List.range ops.size).all fun i => done.contains i
 | i :: l, done => (match ops[i]? with
  | some o => (o.after.all fun e => !Region.binds .any e || done.contains e.on) && o.guard.isNone && !done.contains i && !l.contains i &&
    l.all fun j => (waitP ops i l []).contains j || (cls P o.op != .eff && match ops[j]? with | some oj => o.apart ops oj | none => false)
  | none => false) && okOrdFrom P ops l (i :: done)
def okOrd (P : Program) (ops : Array Oper) (perm : List Nat) : Bool := decide (perm.length = ops.size) && okOrdFrom P ops perm []
theorem waitP_closed {i : Nat} : ∀ (l acc : List Nat), (∀ j ∈ acc, ∃ oj, ops[j]? = some oj ∧ ∃ e ∈ oj.after, Region.binds .any e = true ∧ (e.on = i ∨ e.on ∈ acc)) →
  (∀ j ∈ waitP ops i l acc, ∃ oj, ops[j]? = some oj ∧ ∃ e ∈ oj.after, Region.binds .any e = true ∧ (e.on = i ∨ e.on ∈ waitP ops i l acc)) ∧ (∀ j ∈ acc, j ∈ waitP ops i l acc) ∧ ∀ j ∈ waitP ops i l acc, j ∈ acc ∨ j ∈ l
 | [], acc, h => ⟨h, fun j hj => hj, fun j hj => .inl hj⟩
 | k :: l, acc, h => by
  unfold waitP
  split
  ·rename_i hc
   have hc2 : ∃ oj, ops[k]? = some oj ∧ ∃ e ∈ oj.after, Region.binds .any e = true ∧ (e.on = i ∨ e.on ∈ acc) := by
    unfold waitB at hc
    split at hc
    ·rename_i o ho
     obtain ⟨e, he, hb⟩ := Array.any_eq_true'.1 hc
     simp only [Bool.and_eq_true, Bool.or_eq_true, beq_iff_eq, List.contains_iff_mem] at hb
     exact ⟨o, ho, e, he, hb.1, hb.2⟩
    ·cases hc
   obtain ⟨h1, h2, h3⟩ := waitP_closed l (k :: acc) (fun j hj => by
    rcases List.mem_cons.1 hj with rfl | hj
    ·obtain ⟨oj, a, e, b, c, d⟩ := hc2; exact ⟨oj, a, e, b, c, d.imp id (List.mem_cons_of_mem _)⟩
    ·obtain ⟨oj, a, e, b, c, d⟩ := h j hj; exact ⟨oj, a, e, b, c, d.imp id (List.mem_cons_of_mem _)⟩)
   exact ⟨h1, fun j hj => h2 j (List.mem_cons_of_mem _ hj), fun j hj => by
    rcases h3 j hj with g | g
    ·rcases List.mem_cons.1 g with rfl | g
     ·exact .inr (List.mem_cons_self ..)
     ·exact .inl g
    ·exact .inr (List.mem_cons_of_mem _ g)⟩
  ·obtain ⟨h1, h2, h3⟩ := waitP_closed l acc h
   exact ⟨h1, h2, fun j hj => (h3 j hj).imp id (List.mem_cons_of_mem _)⟩
def listG (P : Program) (bl : List Nat) (ops : Array Oper) (K : Kg) : List Nat → Kg
 | [] => K
 | i :: l => sG P bl ops i (listG P bl ops K l)
theorem okOrd_any {K : Kg} : ∀ (l done : List Nat) (listed : Array Bool), (∀ j, listed.getD j false = true ↔ j ∈ done) → listed.size = ops.size → okOrdFrom P ops l done = true →
  ∀ F H, listG P bl ops K l F H → anyG P bl .any ops K l.length listed F H := by
 intro l
 induction l with
 | nil =>
  intro done listed hL hsz hok F H h
  refine ⟨?_, h⟩
  cases hr : Region.ready .any ops listed with
  | nil => rfl
  | cons x xs =>
   exfalso
   have hx : x ∈ Region.ready .any ops listed := by rw [hr]; simp
   obtain ⟨h0, o, ho, _⟩ := mem_ready.1 hx
   have hlt := (Array.getElem?_eq_some_iff.1 ho).1
   simp only [okOrdFrom, List.all_eq_true, List.mem_range, List.contains_iff_mem] at hok
   have := (hL x).2 (hok x hlt)
   rw [getD_false_of_true h0] at this
   cases this
 | cons i l ih =>
  intro done listed hL hsz hok F H h
  simp only [okOrdFrom, Bool.and_eq_true] at hok
  obtain ⟨hok, hnext⟩ := hok
  cases hi : ops[i]? with
  | none => rw [hi] at hok; cases hok
  | some oi =>
  rw [hi] at hok
  simp only [Bool.and_eq_true, Bool.not_eq_true', Option.isNone_iff_eq_none, List.all_eq_true, Bool.or_eq_true, List.contains_iff_mem, bne_iff_ne, ne_eq] at hok
  obtain ⟨⟨⟨⟨he, hg⟩, hnd⟩, hnl⟩, hrest⟩ := hok
  have hilt := (Array.getElem?_eq_some_iff.1 hi).1
  have hnd' : i ∉ done := fun g => by rw [List.contains_iff_mem.2 g] at hnd; cases hnd
  have hnl' : i ∉ l := fun g => by rw [List.contains_iff_mem.2 g] at hnl; cases hnl
  have hready : i ∈ Region.ready .any ops listed := by
   rw [mem_ready]
   refine ⟨?_, oi, hi, fun e hem hb => ?_⟩
   ·have hf : listed.getD i false = false := by
     cases hh : listed.getD i false with
     | false => rfl
     | true => exact absurd ((hL i).1 hh) hnd'
    have hks : i < listed.size := by omega
    simp [hks] at hf ⊢
    exact hf
   ·rw [hL]
    rw [Array.all_eq_true_iff_forall_mem] at he
    have := he e hem
    simpa [hb] using this
  have hL' : ∀ j, (listed.setIfInBounds i true).getD j false = true ↔ j ∈ i :: done := fun j => by
   by_cases hij : i = j
   ·subst hij
    have hks : i < listed.size := by omega
    simp [hks]
   ·rw [getD_set_ne false hij, hL]
    simp [Ne.symm hij]
  have hsz' : (listed.setIfInBounds i true).size = ops.size := by simpa using hsz
  obtain ⟨w1, _, w3⟩ := waitP_closed (ops := ops) (i := i) l [] (fun j hj => by cases hj)
  let W : Nat → Prop := fun j => j = i ∨ j ∈ waitP ops i l []
  have hWc : Closed .any ops i W := by
   refine ⟨.inl rfl, fun j oj hj hne hoj => ?_⟩
   rcases hj with hj | hj
   ·exact absurd hj hne
   ·obtain ⟨oj', a, e, b, c, d⟩ := w1 j hj
    rw [hoj] at a; cases a
    exact ⟨e, b, c, d⟩
  -- what comes later is not listed
  have hlater : ∀ (l done : List Nat), okOrdFrom P ops l done = true → ∀ j ∈ l, j ∉ done := by
   intro l
   induction l with
   | nil => intro _ _ j hj; cases hj
   | cons k l ihl =>
    intro done hok j hj
    simp only [okOrdFrom, Bool.and_eq_true] at hok
    obtain ⟨hok, hnx⟩ := hok
    rcases List.mem_cons.1 hj with rfl | hj
    ·split at hok
     ·simp only [Bool.and_eq_true, Bool.not_eq_true'] at hok
      intro g
      rw [List.contains_iff_mem.2 g] at hok
      simp at hok
     ·cases hok
    ·exact fun g => ihl (k :: done) hnx j hj (List.mem_cons_of_mem _ g)
  have hun : ∀ j, W j → listed.getD j false = false := fun j hj => by
   cases hh : listed.getD j false with
   | false => rfl
   | true =>
    have hd := (hL j).1 hh
    rcases hj with rfl | hj
    ·exact absurd hd hnd'
    ·rcases w3 j hj with g | g
     ·cases g
     ·exact absurd (List.mem_cons_of_mem _ hd) (hlater l (i :: done) hnext j g)
  -- all that is not listed stands in the list
  have hcover : ∀ (l done : List Nat), okOrdFrom P ops l done = true → ∀ j, j < ops.size → j ∈ done ∨ j ∈ l := by
   intro l
   induction l with
   | nil =>
    intro done hok j hj
    simp only [okOrdFrom, List.all_eq_true, List.mem_range, List.contains_iff_mem] at hok
    exact .inl (hok j hj)
   | cons k l ihl =>
    intro done hok j hj
    simp only [okOrdFrom, Bool.and_eq_true] at hok
    rcases ihl (k :: done) hok.2 j hj with g | g
    ·rcases List.mem_cons.1 g with rfl | g
     ·exact .inr (List.mem_cons_self ..)
     ·exact .inl g
    ·exact .inr (List.mem_cons_of_mem _ g)
  have hwhere : ∀ j oj, ops[j]? = some oj → listed.getD j true = false → j = i ∨ j ∈ l := fun j oj hoj hu => by
   have hlt := (Array.getElem?_eq_some_iff.1 hoj).1
   have hf := getD_false_of_true hu
   rcases hcover l (i :: done) hnext j hlt with g | g
   ·rcases List.mem_cons.1 g with rfl | g
    ·exact .inl rfl
    ·rw [(hL j).2 g] at hf; cases hf
   ·exact .inr g
  have hst : genO P bl oi (anyG P bl .any ops K l.length (listed.setIfInBounds i true)) F H := by
   have h' : genO P bl oi (listG P bl ops K l) F H := by
    have : sG P bl ops i (listG P bl ops K l) F H := h
    unfold sG at this
    simp only [hi] at this
    exact this
   exact genO_mono (fun F' H' g => ih (i :: done) _ hL' hsz' hnext F' H' g) h'
  by_cases hc : cls P oi.op = .eff
  ·refine anyG_only hi hWc l.length listed F H hun (fun j oj hoj hu => ?_) hready hst
   rcases hwhere j oj hoj hu with rfl | hjl
   ·exact .inl rfl
   ·rcases hrest j hjl with g | g
    ·exact .inr g
    ·exact absurd hc g.1
  ·obtain ⟨hgi, d, hy, hK⟩ := yld_of hc hst
   refine anyG_first hi hgi hWc l.length listed F H hun (fun j oj hoj hnW hu => ?_) hready hy hK
   rcases hwhere j oj hoj hu with rfl | hjl
   ·exact absurd (.inl rfl) hnW
   ·rcases hrest j hjl with g | g
    ·exact absurd (.inr g) hnW
    ·have := g.2
     rw [hoj] at this
     exact this
structure StO (N : Nat) (w0 : World) (H0 : Heap) (F : FEnv) (H : Heap) (a : Act) (w : World) : Prop where
 size : a.tmps.size = N
 defers : a.defers = []
 env : ∀ i, R w H (F i) (a.eval (.tmp i))
 sat : Sat H w
 ext : Ext H0 w0 w
 frm : From w0 H0 H
theorem StO.evR {N : Nat} {w0 : World} {H0 : Heap} {F : FEnv} {a : Act} {w : World} (h : StO N w0 H0 F H a w) (x : Operand) : R w H (F.ev x) (a.eval x) := by
 cases x with
 | tmp t => exact h.env t
 | const v => exact ofValue_R w H v
 | global g => exact .glob g
 | func f => exact .fn _ _ _ _ _ rfl rfl (by simp) (by simp)
theorem genO_sound {N : Nat} {w0 : World} {H0 : Heap} {o : Oper} {K : Kg} {F : FEnv} {a : Act} {w : World} (hd : ∀ t, o.dst = some t → t < N) (h : genO P bl o K F H) (hst : StO N w0 H0 F H a w) :
  opSem P none o a w fun v w' => ∃ F' H', StO N w0 H0 F' H' (a.put o.dst v) w' ∧ K F' H' := by
 refine (wpOp_sound (o := o) hst.sat hst.evR h.2.2).mono fun v w' hp => ?_
 obtain ⟨d, H', hR, hS, hE, hF, _, hk⟩ := hp
 refine ⟨F.put o.dst d, H', ⟨?_, ?_, fun i => ?_, hS, hst.ext.trans hst.frm hE, hst.frm.trans hst.ext.size hF⟩, hk⟩
 ·cases hdst : o.dst <;> simp [Act.put, hst.size]
 ·cases hdst : o.dst <;> simp [Act.put, hst.defers]
 ·cases hdst : o.dst with
  | none => exact (hst.env i).mono hE hF
  | some t =>
   have ht := hd t hdst
   simp only [FEnv.put]
   by_cases hti : t = i
   ·subst hti
    rw [if_pos rfl]
    have : (a.put (some t) v).eval (.tmp t) = v := by
     have h' : t < a.tmps.size := by rw [hst.size]; exact ht
     simp [Act.eval, Act.put, h']
    rw [this]; exact hR
   ·rw [if_neg hti]
    have : (a.put (some t) v).eval (.tmp i) = a.eval (.tmp i) := by
     simp [Act.eval, Act.put, Array.getElem?_setIfInBounds_ne hti]
    rw [this]; exact (hst.env i).mono hE hF
theorem anyG_sound {N : Nat} {w0 : World} {H0 : Heap} {K : Kg} {Q : Exit → Act → World → Prop} (hd : ∀ o ∈ ops.toList, ∀ t, o.dst = some t → t < N)
  (hQ : ∀ F H a w, StO N w0 H0 F H a w → K F H → Q .normal a w) : ∀ (fuel : Nat) (listed : Array Bool) (F : FEnv) (H : Heap) (a : Act) (w : World),
  anyG P bl md ops K fuel listed F H → StO N w0 H0 F H a w → Go.wpAny P md ops Q fuel listed a w
 | 0, _, F, H, a, w, h, hst => ⟨h.1, hQ _ _ _ _ hst h.2⟩
 | fuel + 1, listed, F, H, a, w, h, hst => ⟨fun h0 => hQ _ _ _ _ hst (h.1 h0), fun i hi => by
   have h1 := h.2 i hi
   unfold sG at h1
   unfold Go.wpOp
   split
   ·rename_i hn; simp only [hn] at h1; exact anyG_sound hd hQ fuel _ _ _ _ _ h1 hst
   ·rename_i o ho
    simp only [ho] at h1
    have hmem : o ∈ ops.toList := by rw [Array.mem_toList_iff]; exact Array.mem_of_getElem? ho
    rw [if_pos (by simp [Region.wanted, h1.1])]
    exact .inl (opSem.wp ((genO_sound (hd o hmem) h1 hst).mono fun v w' hv => by
     obtain ⟨F', H', hst', hk⟩ := hv
     exact anyG_sound hd hQ fuel _ _ _ _ _ hk hst'))⟩
def pickO : List Oper → Nat → Option Oper
 | [], _ => none
 | o :: _, 0 => some o
 | _ :: l, i + 1 => pickO l i
theorem pickO_eq : ∀ (l : List Oper) (i : Nat), pickO l i = l[i]?
 | [], _ => rfl
 | _ :: _, 0 => rfl
 | _ :: l, i + 1 => by rw [pickO, pickO_eq l i]; rfl
def wpG (P : Program) (bl : List Nat) (K : Env → Heap → Prop) : List (Option Oper) → Env → Heap → Prop
 | [], E, H => K E H
 | none :: l, E, H => False
 | some o :: l, E, H => (cls P o.op = .load → rdIn bl E.ev o.op) ∧ wpOp P E.ev H (fun d H' => (∀ k ∈ bl, H' k = H k) ∧ wpG P bl K l (E.put o.dst d) H') o.op
theorem wpG_list {K : Env → Heap → Prop} (hg : ∀ (i : Nat) (o : Oper), ops[i]? = some o → o.guard = none) : ∀ (l : List Nat) (E : Env) (F : FEnv) (H : Heap), (∀ t, E.get t = F t) → wpG P bl K (l.map (pickO ops.toList)) E H →
  listG P bl ops (fun F H => ∃ E, (∀ t, E.get t = F t) ∧ K E H) l F H
 | [], E, F, H, hE, h => ⟨E, hE, h⟩
 | i :: l, E, F, H, hE, h => by
  have hev : F.ev = E.ev := by
   funext x
   cases x with
   | tmp t => exact (hE t).symm
   | _ => rfl
  show sG P bl ops i _ F H
  unfold sG
  rw [List.map_cons, pickO_eq, Array.getElem?_toList] at h
  cases hi : ops[i]? with
  | none => rw [hi] at h; exact h.elim
  | some o =>
   rw [hi] at h
   obtain ⟨h1, h2⟩ := h
   simp only
   refine ⟨hg i o hi, by rw [hev]; exact h1, ?_⟩
   rw [hev]
   refine wpOp_mono (fun d H' hk => ⟨hk.1, wpG_list hg l (E.put o.dst d) _ H' (fun t => ?_) hk.2⟩) h2
   cases o.dst with
   | none => exact hE t
   | some u =>
    simp only [Env.put, Env.get, FEnv.put]
    split
    ·rfl
    ·exact hE t
theorem okOrd_guard : ∀ (l done : List Nat), okOrdFrom P ops l done = true → ∀ (i : Nat) (o : Oper), i ∈ l → ops[i]? = some o → o.guard = none
 | [], _, _, i, _, hi, _ => by cases hi
 | k :: l, done, h, i, o, hi, ho => by
  simp only [okOrdFrom, Bool.and_eq_true] at h
  rcases List.mem_cons.1 hi with rfl | hi
  ·rw [ho] at h
   simp only [Bool.and_eq_true, Option.isNone_iff_eq_none] at h
   exact h.1.1.1.1.2
  ·exact okOrd_guard l (k :: done) h.2 i o hi ho
theorem okOrd_cover : ∀ (l done : List Nat), okOrdFrom P ops l done = true → ∀ j, j < ops.size → j ∈ done ∨ j ∈ l
 | [], done, h, j, hj => by
  simp only [okOrdFrom, List.all_eq_true, List.mem_range, List.contains_iff_mem] at h
  exact .inl (h j hj)
 | k :: l, done, h, j, hj => by
  simp only [okOrdFrom, Bool.and_eq_true] at h
  rcases okOrd_cover l (k :: done) h.2 j hj with g | g
  ·rcases List.mem_cons.1 g with rfl | g
   ·exact .inr (List.mem_cons_self ..)
   ·exact .inl g
  ·exact .inr (List.mem_cons_of_mem _ g)
theorem wpG_draw {N : Nat} {w0 : World} {H0 : Heap} {id : Nat} {perm : List Nat} {K : Env → Heap → Prop} {Q : Exit → Act → World → Prop} {a : Act} {w : World} {E : Env} (hm : P.follows .mixedOrders = true) (hok : okOrd P ops perm = true)
  (hd : ∀ o ∈ ops.toList, ∀ t, o.dst = some t → t < N)
  (hQ : ∀ E H a w, a.tmps.size = N → a.defers = [] → (∀ i, R w H (E.get i) (a.eval (.tmp i))) → Sat H w → Ext H0 w0 w → From w0 H0 H → K E H → Q .normal a w)
  (h1 : a.tmps.size = N) (h2 : a.defers = []) (h3 : ∀ i, R w H (E.get i) (a.eval (.tmp i))) (h4 : Sat H w) (h5 : Ext H0 w0 w) (h6 : From w0 H0 H)
  (h : wpG P bl K (perm.map (pickO ops.toList)) E H) : (Code.region id ops true).wp P Q a w := by
 simp only [okOrd, Bool.and_eq_true, decide_eq_true_eq] at hok
 obtain ⟨hlen, hok⟩ := hok
 have hg : ∀ (i : Nat) (o : Oper), ops[i]? = some o → o.guard = none := fun i o ho => by
  rcases okOrd_cover perm [] hok i (Array.getElem?_eq_some_iff.1 ho).1 with g | g
  ·cases g
  ·exact okOrd_guard perm [] hok i o g ho
 have he : Ext H w { w with drawn := w.drawn + 1 } := Ext.drewN H w 1
 have hs1 := h4.same (w' := { w with drawn := w.drawn + 1 }) rfl he
 refine wp_region_any hm ?_
 rw [← hlen]
 refine anyG_sound (P := P) (bl := bl) (md := .any) (ops := ops) (N := N) (w0 := w0) (H0 := H0) (K := fun F H => ∃ E, (∀ t, E.get t = F t) ∧ K E H) hd (fun F H a w hst hk => ?_) perm.length _ E.get H a _ ?_ ?_
 ·obtain ⟨E, hE, hk⟩ := hk
  exact hQ E H a w hst.size hst.defers (fun i => by rw [hE]; exact hst.env i) hst.sat hst.ext hst.frm hk
 ·exact okOrd_any perm [] _ (fun j => by simp [Array.getElem?_replicate]; split <;> simp) (by simp [hlen]) hok E.get H (wpG_list hg perm E E.get H (fun _ => rfl) h)
 ·exact ⟨h1, h2, fun i => (h3 i).mono he (From.refl _ _), hs1, h5.trans h6 he, h6⟩
end
end
end Go.Av
end
section
namespace Go.Av
inductive AX where
 | normal
 | exit (id : Nat)
 | ret
def wpOps (P : Program) (gs : List (Option Nat)) (K : Env → Heap → Prop) : List Oper → Env → Heap → Prop
 | [], E, H => K E H
 | o :: l, E, H => match o.guard with
  | none => wpOp P E.ev H (fun d H' => wpOps P gs K l (E.put o.dst d) H') o.op
  | some (j, want) => guardA E (guardSlot gs j) want (fun E => wpOp P E.ev H (fun d H' => wpOps P gs K l (E.put o.dst d) H') o.op) (fun E => wpOps P gs K l (E.put o.dst (.tuple [])) H)
structure St (N : Nat) (w0 : World) (H0 : Heap) (E : Env) (H : Heap) (a : Act) (w : World) : Prop where
 size : a.tmps.size = N
 defers : a.defers = []
 env : ∀ i, R w H (E.get i) (a.eval (.tmp i))
 sat : Sat H w
 ext : Ext H0 w0 w
 frm : From w0 H0 H
def Weak (E0 : Env) (H0 : Heap) (E : Env) (H : Heap) : Prop := ∀ (N : Nat) (w0 : World) (Hz : Heap) (a : Act) (w : World), St N w0 Hz E H a w → St N w0 Hz E0 H0 a w
def LoopA (body : (Env → Heap → Prop) → Env → Heap → Prop) (E : Env) (H : Heap) : Prop :=
 ∃ (I : Nat → Env → Heap → Prop), (∃ n E0 H0, Weak E0 H0 E H ∧ I n E0 H0) ∧ ∀ n E H, I n E H → body (fun E' H' => ∃ m E0 H0, m < n ∧ Weak E0 H0 E' H' ∧ I m E0 H0) E H
def Env.fix (E : Env) (c : Operand) (b : Bool) : Env := match c with
 | .tmp t => (t, .bool b) :: E
 | _ => E
inductive Rc where
 | rd (sx : Bool)
 | par
 | ord (perm : List Nat)
 | rg
 | wk
def raceOf (id : Nat) : List (Nat × Rc) → Option Rc
 | [] => none
 | (i, sx) :: Z => if id = i then some sx else raceOf id Z
def wpOpsR (P : Program) (sx : Bool) (bl : List Nat) (K : Env → Heap → Prop) : List Oper → Env → Heap → Prop
 | [], E, H => K E H
 | o :: l, E, H => o.guard = none ∧ wpOpR P sx bl E.ev H (fun d H' => wpOpsR P sx bl K l (E.put o.dst d) H') o.op
def wpOpsF (P : Program) (bl : List Nat) (gs : List (Option Nat)) (K : Env → Heap → Prop) : List Oper → Env → Heap → Prop
 | [], E, H => K E H
 | o :: l, E, H => match o.guard with
  | none => wpOpF P bl E.ev H (fun d H' => wpOpsF P bl gs K l (E.put o.dst d) H') o.op
  | some (j, want) => guardA E (guardSlot gs j) want (fun E => wpOpF P bl E.ev H (fun d H' => wpOpsF P bl gs K l (E.put o.dst d) H') o.op) (fun E => wpOpsF P bl gs K l (E.put o.dst (.tuple [])) H)
def wp (P : Program) (Z : List (Nat × Rc)) : Code → (AX → Env → Heap → Prop) → Env → Heap → Prop
 | .skip, Q, E, H => Q .normal E H
 | .region id ops _, Q, E, H => match raceOf id Z with
  | none => wpOps P (ops.toList.map (·.dst)) (Q .normal) ops.toList E H
  | some (.rd sx) => ∃ bl, (∀ k ∈ bl, H k ≠ none) ∧ wpOpsR P sx bl (Q .normal) ops.toList E H
  | some .par => ∃ (cs : Nat → CR) (bs : Nat → Bl), BlOk bs 0 ops.toList ∧ wpP P (ops.toList.map (·.dst)) cs bs (Q .normal) 0 ops.toList E H
  | some (.ord perm) => ∃ bl : List Nat, wpG P bl (Q .normal) (perm.map (pickO ops.toList)) E H
  | some .rg => ∃ bl, (∀ k ∈ bl, H k ≠ none) ∧ wpOpsF P bl (ops.toList.map (·.dst)) (Q .normal) ops.toList E H
  | some .wk => ∃ E0 H0, Weak E0 H0 E H ∧ wpOps P (ops.toList.map (·.dst)) (Q .normal) ops.toList E0 H0
 | .seq a b, Q, E, H => wp P Z a (fun x E H => match x with | .normal => wp P Z b Q E H | .exit i => Q (.exit i) E H | .ret => Q .ret E H) E H
 | .cond c x y, Q, E, H => ∃ b, E.ev c = .bool b ∧ (b = true → wp P Z x Q (E.fix c true) H) ∧ (b = false → wp P Z y Q (E.fix c false) H)
 | .block id c, Q, E, H => wp P Z c (fun x E H => match x with | .normal => Q .normal E H | .exit i => if i = id then Q .normal E H else Q (.exit i) E H | .ret => Q .ret E H) E H
 | .loop c, Q, E, H => LoopA (fun K => wp P Z c fun x E H => match x with | .normal => K E H | .exit i => Q (.exit i) E H | .ret => Q .ret E H) E H
 | .exit id, Q, E, H => Q (.exit id) E H
 | .ret, Q, E, H => Q .ret E H
 | .scope c, Q, E, H => wp P Z c Q E H
 | .label _, Q, E, H => Q .normal E H
 | _, _, _, _ => False
def codeOk (P : Program) (Z : List (Nat × Rc)) (N : Nat) : Code → Bool
 | .region id ops d => (ops.all fun o => match o.dst with | some t => decide (t < N) | none => true) && (match raceOf id Z with | none => !d || okDraw P none ops | some (.rd sx) => !d || okDraw P (some sx) ops | some .par => d && okDrawE P ops | some (.ord perm) => d && okOrd P ops perm | some .rg => !d || okDraw P (some true) ops | some .wk => !d || okDraw P none ops)
 | .seq a b => codeOk P Z N a && codeOk P Z N b
 | .cond _ x y => codeOk P Z N x && codeOk P Z N y
 | .block _ c => codeOk P Z N c
 | .loop c => codeOk P Z N c
 | .scope c => codeOk P Z N c
 | _ => true
section
variable {P : Program} {Z : List (Nat × Rc)} {N : Nat} {w0 : World} {H0 : Heap}
theorem St.ev {E : Env} {H : Heap} {a : Act} {w : World} (h : St N w0 H0 E H a w) (x : Operand) : R w H (E.ev x) (a.eval x) := by
 cases x with
 | tmp t => exact h.env t
 | const v => exact ofValue_R w H v
 | global g => exact .glob g
 | func f => exact .fn _ _ _ _ _ rfl rfl (by simp) (by simp)
theorem St.put {E : Env} {H H' : Heap} {a : Act} {w w' : World} (h : St N w0 H0 E H a w) {dst : Option Tmp} (hd : ∀ t, dst = some t → t < N) {d : D} {v : Value} (hv : R w' H' d v) (hs : Sat H' w') (he : Ext H w w') (hf : From w H H') :
  St N w0 H0 (E.put dst d) H' (a.put dst v) w' := by
 refine ⟨?_, ?_, fun i => ?_, hs, h.ext.trans h.frm he, h.frm.trans h.ext.size hf⟩
 ·cases dst <;> simp [Act.put, h.size]
 ·cases dst <;> exact h.defers
 ·cases dst with
  | none => exact (h.env i).mono he hf
  | some t =>
   have ht := hd t rfl
   simp only [Env.put, Env.get]
   by_cases hti : t = i
   ·subst hti
    rw [if_pos rfl]
    have : (a.put (some t) v).eval (.tmp t) = v := by
     have h' : t < a.tmps.size := by rw [h.size]; exact ht
     simp [Act.eval, Act.put, h']
    rw [this]; exact hv
   ·rw [if_neg hti]
    have : (a.put (some t) v).eval (.tmp i) = a.eval (.tmp i) := by
     simp [Act.eval, Act.put, Array.getElem?_setIfInBounds_ne hti]
    rw [this]; exact (h.env i).mono he hf
theorem St.know {E : Env} {H : Heap} {a : Act} {w : World} (h : St N w0 H0 E H a w) {s : Nat} {d : D} (hd : E.get s = d) : St N w0 H0 ((s, d) :: E) H a w := by
 refine ⟨h.size, h.defers, fun i => ?_, h.sat, h.ext, h.frm⟩
 simp only [Env.get]
 by_cases hi : s = i
 ·subst hi; rw [if_pos rfl, ← hd]; exact h.env s
 ·rw [if_neg hi]; exact h.env i
theorem St.weak {E E' : Env} {H H' : Heap} {a : Act} {w : World} (h : St N w0 H0 E H a w) (hw : Weak E' H' E H) : St N w0 H0 E' H' a w := hw _ _ _ _ _ h
theorem weak_of {E E' : Env} {H H' : Heap} (hE : ∀ p ∈ E', E.get p.1 = p.2) (hl : H'.Le H) : Weak E' H' E H := by
 intro N w0 H0 a w h
 refine ⟨h.size, h.defers, fun i => ?_, h.sat.less hl, h.ext, h.frm.less hl⟩
 have key : ∀ (L : Env), (∀ p ∈ L, E.get p.1 = p.2) → R w H' (L.get i) (a.eval (.tmp i)) := by
  intro L
  induction L with
  | nil => intro _; exact .undef _
  | cons p L ih =>
   intro hL
   obtain ⟨j, d⟩ := p
   simp only [Env.get]
   by_cases hj : j = i
   ·subst hj
    rw [if_pos rfl]
    have := hL (j, d) (by simp)
    simp only at this
    rw [← this]
    exact (h.env j).less hl
   ·rw [if_neg hj]; exact ih (fun p hp => hL p (by simp [hp]))
 exact key E' hE
theorem wpOps_sound {ops : Array Oper} {K : Env → Heap → Prop} : ∀ (l : List Oper) (E : Env) (H : Heap) (a : Act) (w : World), (∀ o ∈ l, ∀ t, o.dst = some t → t < N) → wpOps P (ops.toList.map (·.dst)) K l E H → St N w0 H0 E H a w →
  wpA P none ops (fun a' w' => ∃ E' H', St N w0 H0 E' H' a' w' ∧ K E' H') l a w := by
 intro l
 induction l with
 | nil => intro E H a w _ h hst; exact ⟨E, H, hst, h⟩
 | cons o l ih =>
  intro E H a w hd h hst
  have hd' : ∀ o ∈ l, ∀ t, o.dst = some t → t < N := fun o' ho' => hd o' (by simp [ho'])
  have hdo := hd o (by simp)
  have run : ∀ E, St N w0 H0 E H a w → wpOp P E.ev H (fun d H' => wpOps P (ops.toList.map (·.dst)) K l (E.put o.dst d) H') o.op → opSem P none o a w fun v w' => wpA P none ops (fun a' w' => ∃ E' H', St N w0 H0 E' H' a' w' ∧ K E' H') l (a.put o.dst v) w' := by
   intro E hst h
   refine (wpOp_sound hst.sat hst.ev h).mono fun v w' hp => ?_
   obtain ⟨d, H', h1, h2, h3, h4, h5⟩ := hp
   exact ih _ _ _ _ hd' h5 (hst.put hdo h1 h2 h3 h4)
  have skip : ∀ E, St N w0 H0 E H a w → wpOps P (ops.toList.map (·.dst)) K l (E.put o.dst (.tuple [])) H → wpA P none ops (fun a' w' => ∃ E' H', St N w0 H0 E' H' a' w' ∧ K E' H') l (a.put o.dst undef) w :=
   fun E hst h => ih _ _ _ _ hd' h (hst.put hdo (.tuple [] #[] rfl (by simp)) hst.sat (Ext.refl _ _) (From.refl _ _))
  unfold wpOps at h
  unfold wpA
  split at h
  ·rename_i hg
   rw [if_pos (by simp [Region.wanted, hg])]
   exact run E hst h
  ·rename_i j want hg
   have hslot : guardSlot (ops.toList.map (·.dst)) j = (ops[j]?).bind (·.dst) := by
    unfold guardSlot
    rw [List.getElem?_map]
    cases hj : ops[j]? with
    | none => simp [hj]
    | some o => simp [hj]
   unfold guardA at h
   split at h
   ·rename_i hs
    have hy : yielded ops a.tmps j = none := by
     unfold yielded
     rw [hslot] at hs
     rw [hs]; rfl
    rw [if_neg (by simp [Region.wanted, hg, hy])]
    exact skip E hst h
   ·rename_i s hs
    rcases h with ⟨hu, h⟩ | ⟨b, hb, h1, h2⟩
    ·have hv := hst.env s
     rw [hu] at hv
     obtain ⟨vs, hv, _⟩ := hv.tuple_inv
     have hy : yielded ops a.tmps j = none := by
      unfold yielded
      rw [hslot] at hs
      rw [hs]
      simp only [Option.bind_some]
      simp only [Act.eval] at hv
      cases ht : a.tmps[s]? with
      | none => rfl
      | some u =>
       simp [ht] at hv
       subst hv; rfl
     rw [if_neg (by simp [Region.wanted, hg, hy])]
     exact skip E hst h
    have hv := hst.env s
    rw [hb] at hv
    have hv := hv.bool_inv
    have hy : yielded ops a.tmps j = some b := by
     unfold yielded
     rw [hslot] at hs
     rw [hs]
     simp only [Option.bind_some]
     simp only [Act.eval] at hv
     cases ht : a.tmps[s]? with
     | none =>
      simp [ht] at hv
      cases hv
     | some u =>
      simp [ht] at hv
      subst hv; rfl
    by_cases hbw : b = want
    ·subst hbw
     rw [if_pos (by simp [Region.wanted, hg, hy])]
     exact run _ (hst.know hb) (h1 rfl)
    ·have hbn : b = !want := by cases b <;> cases want <;> simp_all
     subst hbn
     rw [if_neg (by simp [Region.wanted, hg, hy])]
     exact skip _ (hst.know hb) (h2 rfl)
theorem wpOpsF_sound {ops : Array Oper} {bl : List Nat} {K : Env → Heap → Prop} : ∀ (l : List Oper) (E : Env) (H : Heap) (a : Act) (w : World), (∀ o ∈ l, ∀ t, o.dst = some t → t < N) → (∀ k ∈ bl, k < w.heap.size) → wpOpsF P bl (ops.toList.map (·.dst)) K l E H → St N w0 H0 E H a w →
  wpA P (some (true, bl)) ops (fun a' w' => ∃ E' H', St N w0 H0 E' H' a' w' ∧ K E' H') l a w := by
 intro l
 induction l with
 | nil => intro E H a w _ _ h hst; exact ⟨E, H, hst, h⟩
 | cons o l ih =>
  intro E H a w hd hbl h hst
  have hd' : ∀ o ∈ l, ∀ t, o.dst = some t → t < N := fun o' ho' => hd o' (by simp [ho'])
  have hdo := hd o (by simp)
  have run : ∀ E, St N w0 H0 E H a w → wpOpF P bl E.ev H (fun d H' => wpOpsF P bl (ops.toList.map (·.dst)) K l (E.put o.dst d) H') o.op → opSem P (some (true, bl)) o a w fun v w' => wpA P (some (true, bl)) ops (fun a' w' => ∃ E' H', St N w0 H0 E' H' a' w' ∧ K E' H') l (a.put o.dst v) w' := by
   intro E hst h
   refine (wpOpF_sound hbl hst.sat hst.ev h).mono fun v w' hp => ?_
   obtain ⟨d, H', h1, h2, h3, h4, h5⟩ := hp
   exact ih _ _ _ _ hd' (fun k hk => Nat.lt_of_lt_of_le (hbl k hk) h3.size) h5 (hst.put hdo h1 h2 h3 h4)
  have skip : ∀ E, St N w0 H0 E H a w → wpOpsF P bl (ops.toList.map (·.dst)) K l (E.put o.dst (.tuple [])) H → wpA P (some (true, bl)) ops (fun a' w' => ∃ E' H', St N w0 H0 E' H' a' w' ∧ K E' H') l (a.put o.dst undef) w :=
   fun E hst h => ih _ _ _ _ hd' hbl h (hst.put hdo (.tuple [] #[] rfl (by simp)) hst.sat (Ext.refl _ _) (From.refl _ _))
  unfold wpOpsF at h
  unfold wpA
  split at h
  ·rename_i hg
   rw [if_pos (by simp [Region.wanted, hg])]
   exact run E hst h
  ·rename_i j want hg
   have hslot : guardSlot (ops.toList.map (·.dst)) j = (ops[j]?).bind (·.dst) := by
    unfold guardSlot
    rw [List.getElem?_map]
    cases hj : ops[j]? with
    | none => simp [hj]
    | some o => simp [hj]
   unfold guardA at h
   split at h
   ·rename_i hs
    have hy : yielded ops a.tmps j = none := by
     unfold yielded
     rw [hslot] at hs
     rw [hs]; rfl
    rw [if_neg (by simp [Region.wanted, hg, hy])]
    exact skip E hst h
   ·rename_i s hs
    rcases h with ⟨hu, h⟩ | ⟨b, hb, h1, h2⟩
    ·have hv := hst.env s
     rw [hu] at hv
     obtain ⟨vs, hv, _⟩ := hv.tuple_inv
     have hy : yielded ops a.tmps j = none := by
      unfold yielded
      rw [hslot] at hs
      rw [hs]
      simp only [Option.bind_some]
      simp only [Act.eval] at hv
      cases ht : a.tmps[s]? with
      | none => rfl
      | some u =>
       simp [ht] at hv
       subst hv; rfl
     rw [if_neg (by simp [Region.wanted, hg, hy])]
     exact skip E hst h
    have hv := hst.env s
    rw [hb] at hv
    have hv := hv.bool_inv
    have hy : yielded ops a.tmps j = some b := by
     unfold yielded
     rw [hslot] at hs
     rw [hs]
     simp only [Option.bind_some]
     simp only [Act.eval] at hv
     cases ht : a.tmps[s]? with
     | none =>
      simp [ht] at hv
      cases hv
     | some u =>
      simp [ht] at hv
      subst hv; rfl
    by_cases hbw : b = want
    ·subst hbw
     rw [if_pos (by simp [Region.wanted, hg, hy])]
     exact run _ (hst.know hb) (h1 rfl)
    ·have hbn : b = !want := by cases b <;> cases want <;> simp_all
     subst hbn
     rw [if_neg (by simp [Region.wanted, hg, hy])]
     exact skip _ (hst.know hb) (h2 rfl)
theorem wpOpsR_sound {ops : Array Oper} {sx : Bool} {bl : List Nat} {K : Env → Heap → Prop} : ∀ (l : List Oper) (E : Env) (H : Heap) (a : Act) (w : World), (∀ o ∈ l, ∀ t, o.dst = some t → t < N) → (∀ k ∈ bl, k < w.heap.size) → wpOpsR P sx bl K l E H → St N w0 H0 E H a w →
  wpA P (some (sx, bl)) ops (fun a' w' => ∃ E' H', St N w0 H0 E' H' a' w' ∧ K E' H') l a w := by
 intro l
 induction l with
 | nil => intro E H a w _ _ h hst; exact ⟨E, H, hst, h⟩
 | cons o l ih =>
  intro E H a w hd hbl h hst
  obtain ⟨hg, h⟩ := h
  unfold wpA
  rw [if_pos (by simp [Region.wanted, hg])]
  refine (wpOpR_sound hbl hst.sat hst.ev h).mono fun v w' hp => ?_
  obtain ⟨d, H', h1, h2, h3, h4, h5⟩ := hp
  exact ih _ _ _ _ (fun o' ho' => hd o' (by simp [ho'])) (fun k hk => Nat.lt_of_lt_of_le (hbl k hk) h3.size) h5 (hst.put (hd o (by simp)) h1 h2 h3 h4)
def lift (N : Nat) (w0 : World) (H0 : Heap) (Q : AX → Env → Heap → Prop) : Exit → Act → World → Prop
 | .normal, a, w => ∃ E H, St N w0 H0 E H a w ∧ Q .normal E H
 | .exit id, a, w => ∃ E H, St N w0 H0 E H a w ∧ Q (.exit id) E H
 | .ret, a, w => ∃ E H, St N w0 H0 E H a w ∧ Q .ret E H
 | _, _, _ => False
theorem wp_loopN {c : Code} {Q : Exit → Act → World → Prop} (I : Nat → Act → World → Prop) {n : Nat} {a : Act} {w : World} (h0 : I n a w)
  (round : ∀ n a w, I n a w → c.wp P (Exit.then (fun a' w' => ∃ m, m < n ∧ I m a' w') Q) a w) : (Code.loop c).wp P Q a w := by
 intro b k cs
 have key : ∀ n a w, I n a w → ∃ e a' w', Q e a' w' ∧ Arrives P (lone (b.at a (.code c :: .inLoop c :: k)) cs w) b k cs e a' w' := by
  intro n
  induction n using Nat.strongRecOn with
  | _ n ih =>
   intro a w hI
   obtain ⟨e, a1, w1, hq, harr⟩ := round n a w hI b (.inLoop c :: k) cs
   cases e with
   | normal =>
    obtain ⟨m, hm, hIm⟩ := hq
    obtain ⟨e2, a2, w2, hq2, harr2⟩ := ih m hm a1 w1 hIm
    exact ⟨e2, a2, w2, hq2, .of_steps (Steps.trans harr (.one step_inLoop)) harr2⟩
   | exit id => exact ⟨_, a1, w1, hq, .pass (x := .inLoop c) rfl (fun _ _ => .inl (by simp)) harr⟩
   | goto l => exact ⟨_, a1, w1, hq, .pass (x := .inLoop c) rfl (fun _ _ => .inl (by simp)) harr⟩
   | ret => exact ⟨_, a1, w1, hq, .pass (x := .inLoop c) rfl (fun _ _ => .inl (by simp)) harr⟩
   | panic ch => exact ⟨_, a1, w1, hq, .pass (x := .inLoop c) rfl (fun _ _ => .inl (by simp)) harr⟩
   | outgrown => exact ⟨_, a1, w1, hq, .pass (x := .inLoop c) rfl (fun _ _ => .inl (by simp)) harr⟩
 obtain ⟨e, a', w', hq, harr⟩ := key n a w h0
 exact ⟨e, a', w', hq, .of_steps (.one step_loop) harr⟩
theorem wp_sound (hm : P.follows .mixedOrders = true) : ∀ (c : Code) (Q : AX → Env → Heap → Prop) (E : Env) (H : Heap) (a : Act) (w : World), codeOk P Z N c = true → wp P Z c Q E H → St N w0 H0 E H a w → c.wp P (lift N w0 H0 Q) a w := by
  intro c
  induction c with
  | skip => intro Q E H a w _ h hst; exact Go.wp_skip ⟨E, H, hst, h⟩
  | region id ops d =>
    intro Q E H a w hok h hst
    simp only [codeOk, Bool.and_eq_true] at hok
    have hd : ∀ o ∈ ops.toList, ∀ t, o.dst = some t → t < N := fun o ho t ht => by
      have := Array.all_eq_true_iff_forall_mem.1 hok.1 o (by simpa using ho)
      rw [ht] at this
      simpa using this
    have he : Ext H w { w with drawn := w.drawn + 1 } := Ext.drewN H w 1
    have hst1 : St N w0 H0 E H a { w with drawn := w.drawn + 1 } := ⟨hst.size, hst.defers, fun i => (hst.env i).mono he (From.refl _ _), hst.sat.same rfl he, hst.ext.trans hst.frm he, hst.frm⟩
    unfold wp at h
    cases hz : raceOf id Z with
    | none =>
      rw [hz] at h hok
      cases d with
      | false => exact wpA_region (fun a w h => h) (wpOps_sound ops.toList E H a w hd h hst)
      | true => exact wpA_draw (F := none) hm (by simpa using hok.2) (fun a w h => h) (wpOps_sound ops.toList E H a _ hd h hst1)
    | some rc =>
      rw [hz] at h hok
      cases rc with
      | par =>
        simp only [Bool.and_eq_true] at hok
        obtain ⟨_, hd2, hok1⟩ := hok
        subst hd2
        obtain ⟨cs, bs, hbs, h⟩ := h
        exact wpP_draw hm hok1 hd (fun E H a w k1 k2 k3 k4 k5 k6 hk => ⟨E, H, ⟨k1, k2, k3, k4, k5, k6⟩, hk⟩) hst.size hst.defers hst.env hst.sat hst.ext hst.frm hbs h
      | ord perm =>
        simp only [Bool.and_eq_true] at hok
        obtain ⟨_, hd2, hok1⟩ := hok
        subst hd2
        obtain ⟨bl, h⟩ := h
        exact wpG_draw hm hok1 hd (fun E H a w k1 k2 k3 k4 k5 k6 hk => ⟨E, H, ⟨k1, k2, k3, k4, k5, k6⟩, hk⟩) hst.size hst.defers hst.env hst.sat hst.ext hst.frm h
      | wk =>
        obtain ⟨E0, Hh, hwk, h⟩ := h
        (cases d with
        | false => exact wpA_region (fun a w h => h) (wpOps_sound ops.toList E0 Hh a w hd h (hst.weak hwk))
        | true => exact wpA_draw (F := none) hm (by simpa using hok.2) (fun a w h => h) (wpOps_sound ops.toList E0 Hh a _ hd h (hst1.weak hwk)))
      | rg =>
      obtain ⟨bl, hbl, h⟩ := h
      have hlt : ∀ w : World, Sat H w → ∀ k ∈ bl, k < w.heap.size := fun w hs k hk => by
        cases ho : H k with
        | none => exact absurd ho (hbl k hk)
        | some o => exact hs.lt ho
      (cases d with
      | false => exact wpA_region (fun a w h => h) (wpOpsF_sound (bl := bl) ops.toList E H a w hd (hlt _ hst.sat) h hst)
      | true => exact wpA_draw (F := some (true, bl)) hm (by simpa using hok.2) (fun a w h => h) (wpOpsF_sound (bl := bl) ops.toList E H a _ hd (hlt _ hst1.sat) h hst1))
      | rd sx =>
      obtain ⟨bl, hbl, h⟩ := h
      have hlt : ∀ w : World, Sat H w → ∀ k ∈ bl, k < w.heap.size := fun w hs k hk => by
        cases ho : H k with
        | none => exact absurd ho (hbl k hk)
        | some o => exact hs.lt ho
      cases d with
      | false => exact wpA_region (fun a w h => h) (wpOpsR_sound (sx := sx) (bl := bl) ops.toList E H a w hd (hlt _ hst.sat) h hst)
      | true => exact wpA_draw (F := some (sx, bl)) hm (by simpa using hok.2) (fun a w h => h) (wpOpsR_sound (sx := sx) (bl := bl) ops.toList E H a _ hd (hlt _ hst1.sat) h hst1)
  | seq x y ihx ihy =>
    intro Q E H a w hok h hst
    simp only [codeOk, Bool.and_eq_true] at hok
    refine Go.wp_seq (Go.wp_mono (ihx _ E H a w hok.1 h hst) fun e a' w' he => ?_)
    cases e with
    | normal => obtain ⟨E', H', hst', h'⟩ := he; exact ihy Q E' H' a' w' hok.2 h' hst'
    | exit id => obtain ⟨E', H', hst', h'⟩ := he; exact ⟨E', H', hst', h'⟩
    | ret => obtain ⟨E', H', hst', h'⟩ := he; exact ⟨E', H', hst', h'⟩
    | _ => exact he.elim
  | cond c x y ihx ihy =>
    intro Q E H a w hok h hst
    simp only [codeOk, Bool.and_eq_true] at hok
    obtain ⟨b, hb, h1, h2⟩ := h
    have hv := hst.ev c
    rw [hb] at hv
    have hfix : ∀ b', E.ev c = .bool b' → St N w0 H0 (E.fix c b') H a w := fun b' hb' => by
      cases c with
      | tmp t => exact hst.know hb'
      | _ => exact hst
    refine Go.wp_cond_split hv.bool_inv (fun ht => ?_) (fun ht => ?_)
    · subst ht; exact ihx Q _ H a w hok.1 (h1 rfl) (hfix _ hb)
    · subst ht; exact ihy Q _ H a w hok.2 (h2 rfl) (hfix _ hb)
  | block id c ih =>
    intro Q E H a w hok h hst
    simp only [codeOk] at hok
    refine Go.wp_block (Go.wp_mono (ih _ E H a w hok h hst) fun e a' w' he => ?_)
    cases e with
    | normal => obtain ⟨E', H', hst', h'⟩ := he; exact ⟨E', H', hst', h'⟩
    | exit i =>
      obtain ⟨E', H', hst', h'⟩ := he
      simp only [Exit.inBlock]
      by_cases hi : i = id
      · rw [if_pos hi]; simp only [hi, if_true] at h'; exact ⟨E', H', hst', h'⟩
      · rw [if_neg hi]; simp only [hi, if_false] at h'; exact ⟨E', H', hst', h'⟩
    | ret => obtain ⟨E', H', hst', h'⟩ := he; exact ⟨E', H', hst', h'⟩
    | _ => exact he.elim
  | loop c ih =>
    intro Q E H a w hok h hst
    simp only [codeOk] at hok
    obtain ⟨I, ⟨n, E0, Hh, hw, hI⟩, round⟩ := h
    refine wp_loopN (fun n a w => ∃ E H, St N w0 H0 E H a w ∧ I n E H) (n := n) ⟨E0, Hh, hst.weak hw, hI⟩ fun n a w hI' => ?_
    obtain ⟨E1, H1, hst1, hI1⟩ := hI'
    refine Go.wp_mono (ih _ E1 H1 a w hok (round n E1 H1 hI1) hst1) fun e a' w' he => ?_
    cases e with
    | normal =>
      obtain ⟨E', H', hst', m, E2, H2, hm', hwk, hI2⟩ := he
      exact ⟨m, hm', E2, H2, hst'.weak hwk, hI2⟩
    | exit id => obtain ⟨E', H', hst', h'⟩ := he; exact ⟨E', H', hst', h'⟩
    | ret => obtain ⟨E', H', hst', h'⟩ := he; exact ⟨E', H', hst', h'⟩
    | _ => exact he.elim
  | exit id => intro Q E H a w _ h hst; exact Go.wp_exit ⟨E, H, hst, h⟩
  | ret => intro Q E H a w _ h hst; exact Go.wp_ret ⟨E, H, hst, h⟩
  | scope c ih =>
    intro Q E H a w hok h hst
    simp only [codeOk] at hok
    refine Go.wp_scope_straight (Go.wp_mono (ih Q E H a w hok h hst) fun e a' w' he => ?_)
    cases e with
    | goto l => exact he.elim
    | _ => exact he
  | label l => intro Q E H a w _ h hst; exact Go.wp_label ⟨E, H, hst, h⟩
  | _ => intro Q E H a w _ h _; exact h.elim
end
def resA1 (P : Program) (E : Env) (H : Heap) : ResultVar → Option D
 | .tmp t => some (E.get t)
 | .cell a t => loadD P t (E.get a) H
def resA (P : Program) (rs : List ResultVar) (E : Env) (H : Heap) : Option D := (rs.mapM (resA1 P E H)).map fun
 | [d] => d
 | ds => .tuple ds
def Shift (H : Heap) (d : D) (H' : Heap) (d' : D) : Prop := ∀ w v, R w H d v → Sat H w → R w H' d' v ∧ Sat H' w ∧ ∀ k, H.held k = false → H'.held k = false
theorem Shift.less {H H' : Heap} (h : H'.Le H) (d : D) : Shift H d H' d := fun _ _ hr hs => ⟨hr.less h, hs.less h, fun _ hn => h.held hn⟩
theorem Shift.trans {H H' H'' : Heap} {d d' d'' : D} (h : Shift H d H' d') (k : Shift H' d' H'' d'') : Shift H d H'' d'' := fun w v hr hs =>
 let ⟨a, b, c⟩ := h w v hr hs; let ⟨e, f, g⟩ := k w v a b; ⟨e, f, fun i hi => g i (c i hi)⟩
def retQ (P : Program) (rs : List ResultVar) (Q : D → Heap → Prop) : AX → Env → Heap → Prop
 | .exit _, _, _ => False
 | _, E, H => ∃ r, resA P rs E H = some r ∧ ∃ H' r', Shift H r H' r' ∧ Q r' H'
def argEnv : Nat → List D → Env
 | _, [] => []
 | i, d :: ds => (i, d) :: argEnv (i + 1) ds
section
variable {P : Program}
theorem argEnv_get : ∀ (ds : List D) (k i : Nat), (argEnv k ds).get i = if k ≤ i then (ds[i - k]?).getD .undef else .undef
 | [], k, i => by simp [argEnv, Env.get]
 | d :: ds, k, i => by
  simp only [argEnv, Env.get]
  by_cases hki : k = i
  ·subst hki; rw [if_pos rfl, if_pos (Nat.le_refl _)]; simp
  ·rw [if_neg hki, argEnv_get ds]
   by_cases h : k + 1 ≤ i
   ·rw [if_pos h, if_pos (by omega), show i - k = (i - (k + 1)) + 1 by omega, List.getElem?_cons_succ]
   ·rw [if_neg h, if_neg (by omega)]
theorem res_sound {N : Nat} {w0 : World} {H0 : Heap} {E : Env} {H : Heap} {a : Act} {w : World} (hst : St N w0 H0 E H a w) {fn : Func} {r : D} (h : resA P fn.results.toList E H = some r) :
  ∃ v, (results fn a.tmps).run P w = .ok v w ∧ R w H r v := by
 unfold resA at h
 obtain ⟨ds, hds, hr⟩ := Option.map_eq_some_iff.1 h
 have key : ∀ (rs : List ResultVar) (ds : List D), rs.mapM (resA1 P E H) = some ds → ∃ vs : List Value, (rs.mapM fun (x : ResultVar) => match x with | .tmp t => (pure (a.tmps.getD t undef) : Sem Value) | .cell b t => do loadVar t (← asAddr (a.tmps.getD b undef))).run P w = .ok vs w ∧ ds.length = vs.length ∧ ∀ (i : Nat) d, ds[i]? = some d → R w H d (vs.getD i Go.undef) := by
  intro rs
  induction rs with
  | nil => intro ds h; simp at h; subst h; exact ⟨[], rfl, rfl, by simp⟩
  | cons x rs ih =>
   intro ds h
   simp only [List.mapM_cons, Option.bind_eq_bind, Option.bind_eq_some_iff, Option.pure_def] at h
   obtain ⟨d0, h0, r0, h1, h2⟩ := h
   cases h2
   obtain ⟨vs, hvs, hl, hR⟩ := ih r0 h1
   have one : ∃ v, (match x with | .tmp t => (pure (a.tmps.getD t undef) : Sem Value) | .cell b t => do loadVar t (← asAddr (a.tmps.getD b undef))).run P w = .ok v w ∧ R w H d0 v := by
    cases x with
    | tmp t =>
     simp only [resA1, Option.some.injEq] at h0
     subst h0
     exact ⟨_, rfl, hst.env t⟩
    | cell b t =>
     simp only [resA1] at h0
     obtain ⟨u, hu, hRu⟩ := load_sound (P := P) hst.sat h0 (hst.env b)
     refine ⟨u, ?_, hRu⟩
     unfold Instr.loadAt at hu
     simp only [Act.eval] at hu
     have hsa : ∀ (z : Value) (A : Addr) (w : World), (Instr.sureAddr z).run P w = .ok A w → (asAddr z).run P w = .ok A w := by
      intro z A w hz
      cases z with
      | pointer o =>
       cases o with
       | none => exact absurd hz (by simp [Instr.sureAddr, stuck])
       | some y => exact hz
      | _ => exact absurd hz (by simp [Instr.sureAddr, stuck])
     rw [Sem.run_bind] at hu ⊢
     cases hs : (Instr.sureAddr (a.tmps.getD b undef)).run P w with
     | ok A w' =>
      have hww : w' = w := by
       unfold Instr.sureAddr at hs
       split at hs
       ·cases hs; rfl
       ·cases hs
      subst hww
      rw [hs] at hu
      rw [hsa _ _ _ hs]
      exact hu
     | halt x w' => rw [hs] at hu; cases hu
   obtain ⟨v, hv, hRv⟩ := one
   refine ⟨v :: vs, ?_, by simp [hl], fun i d hd => ?_⟩
   ·rw [List.mapM_cons, Sem.run_bind, hv]
    simp only [Result.andThen_ok]
    rw [Sem.run_bind, hvs]
    rfl
   ·cases i with
    | zero => simp at hd; subst hd; simpa using hRv
    | succ i => simp at hd; simpa using hR i d hd
 obtain ⟨vs, hvs, hl, hR⟩ := key _ _ hds
 have hrun : (results fn a.tmps).run P w = .ok (if h : vs.toArray.size = 1 then vs.toArray[0] else .tuple vs.toArray) w := by
  unfold results
  rw [Sem.run_bind, Array.mapM_eq_mapM_toList]
  simp only [Functor.map]
  rw [Sem.run_bind']
  exact congrArg (fun r : Result (List Value) => (r.andThen fun a w' => Sem.run P ((Sem.pure ∘ List.toArray) a) w').andThen fun a w' => Sem.run P (pure (if h : a.size = 1 then a[0] else Value.tuple a)) w') hvs
 refine ⟨_, hrun, ?_⟩
 match ds, vs, hl, hr, hR with
 | [d], [v], _, hr, hR => simp only at hr; subst hr; simpa using hR 0 d rfl
 | [], [], _, hr, hR => simp only at hr; subst hr; exact .tuple _ _ rfl (by simp)
 | d1 :: d2 :: ds, v1 :: v2 :: vs, hl, hr, hR =>
  simp only at hr; subst hr
  rw [dif_neg (by simp)]
  exact .tuple _ _ (by simpa using hl) (fun i d hd => by simpa using hR i d hd)
theorem acalls_of_wp {f : Nat} (Z : List (Nat × Rc)) {fn : Func} {c : Code} {args : List D} {H : Heap} {Q : D → Heap → Prop} (hm : P.follows .mixedOrders = true) (hf : P.funcs[f]? = some fn) (hb : fn.body = some c) (hbo : bodied P f = true) (hn : args.length ≤ fn.ntmps)
  (hok : codeOk P Z fn.ntmps c = true) (h : wp P Z c (retQ P fn.results.toList Q) (argEnv 0 args) H) : ACalls P f args H Q := by
 refine ⟨hbo, fun w vs hl hR hs => calls_of_wp hf hb ?_⟩
 have hst : St fn.ntmps w H (argEnv 0 args) H { tmps := vs ++ Array.replicate (fn.ntmps - vs.size) undef, defers := [] } w := by
  refine ⟨by simp; omega, rfl, fun i => ?_, hs, Ext.refl _ _, From.refl _ _⟩
  rw [argEnv_get, if_pos (Nat.zero_le _), Nat.sub_zero]
  cases hi : args[i]? with
  | none => exact .undef _
  | some d =>
   have hlt := (List.getElem?_eq_some_iff.1 hi).1
   have : ({ tmps := vs ++ Array.replicate (fn.ntmps - vs.size) undef, defers := [] } : Act).eval (.tmp i) = vs.getD i undef := by
    simp only [Act.eval]
    exact getD_append_left (by omega)
   rw [this]
   exact hR i d hi
 have fin : ∀ (x : AX) (E : Env) (H' : Heap) (a : Act) (w' : World), (x = .normal ∨ x = .ret) → St fn.ntmps w H E H' a w' → retQ P fn.results.toList Q x E H' →
   a.defers = [] ∧ ∃ v, (results fn a.tmps).run P w' = .ok v w' ∧ ∃ v', Ending.returned v = .returned v' ∧ Post H w Q v' w' := by
  intro x E H' a w' hx hst' hq
  have hq' : ∃ r, resA P fn.results.toList E H' = some r ∧ ∃ H1 r', Shift H' r H1 r' ∧ Q r' H1 := by rcases hx with rfl | rfl <;> exact hq
  obtain ⟨r, hr, H1, r', hle, hQ⟩ := hq'
  obtain ⟨v, hv, hRv⟩ := res_sound (P := P) hst' hr
  obtain ⟨k1, k2, k3⟩ := hle _ _ hRv hst'.sat
  exact ⟨hst'.defers, v, hv, v, rfl, r', H1, k1, k2, hst'.ext, fun k hk hn => k3 k (hst'.frm k hk hn), hQ⟩
 refine Go.wp_mono (wp_sound hm c _ _ _ _ _ hok h hst) fun e a w' he => ?_
 cases e with
 | normal => obtain ⟨E, H', hst', hq⟩ := he; exact fin .normal E H' a w' (.inl rfl) hst' hq
 | ret => obtain ⟨E, H', hst', hq⟩ := he; exact fin .ret E H' a w' (.inr rfl) hst' hq
 | exit id => obtain ⟨E, H', hst', hq⟩ := he; exact hq.elim
 | _ => exact he.elim
theorem ACalls.shift {f : Nat} {args args' : List D} {H H' : Heap} {Q : D → Heap → Prop} (hs : ∀ w (vs : Array Value), args.length = vs.size → (∀ (i : Nat) d, args[i]? = some d → R w H d (vs.getD i Go.undef)) → Sat H w →
  args'.length = vs.size ∧ (∀ (i : Nat) d, args'[i]? = some d → R w H' d (vs.getD i Go.undef)) ∧ Sat H' w ∧ ∀ k, H.held k = false → H'.held k = false) (h : ACalls P f args' H' Q) : ACalls P f args H Q := by
 refine ⟨h.1, fun w vs h1 h2 h3 => ?_⟩
 obtain ⟨k1, k2, k3, k4⟩ := hs w vs h1 h2 h3
 refine (h.2 w vs k1 k2 k3).mono fun e w' ⟨v, he, d, H1, p1, p2, p3, p4, p5⟩ => ⟨v, he, d, H1, p1, p2, ⟨p3.os, p3.tape, p3.output, p3.size, fun k hk hn => p3.block k hk (k4 k hn), p3.shape⟩, fun k hk hn => p4 k hk (k4 k hn), p5⟩
theorem Heap.del_le (H : Heap) (b : Nat) : (H.del b).Le H := fun k o h => by
 unfold Heap.del at h
 split at h
 ·cases h
 ·exact h
theorem freeze_vec {w : World} {H : Heap} {b sz lo n : Nat} {es : List (List D)} {v : Value} (hr : R w H (.vec b sz lo n) v) (hs : Sat H w) (hb : H b = some (.vec sz es)) (hn : lo + n ≤ es.length) :
  R w (H.del b) (.sl sz ((es.drop lo).take n)) v := by
 have hlt := hs.lt hb
 obtain ⟨c, T, x, y, h1, h2, h3, h4⟩ := vec_inv (hs b _ hb)
 cases hr with
 | vec0 b sz lo off => rw [List.take_zero]; exact .sl0 _ _ _
 | vec b sz lo n cap T m hb' hs' hsz hn' =>
 have hlen : ((es.drop lo).take n).length = n := by simp; omega
 have hget : ∀ (i : Nat) (e : List D), ((es.drop lo).take n)[i]? = some e → i < n ∧ es[lo + i]? = some e := fun i e he => by
  have hi := (List.getElem?_eq_some_iff.1 he).1
  rw [hlen] at hi
  rw [List.getElem?_take_of_lt hi, List.getElem?_drop] at he
  exact ⟨hi, he⟩
 have hR := R.sl (w := w) (H := H.del b) sz ((es.drop lo).take n) b (lo * sz) cap (fun i j => c.getD ((lo + i) * sz + j) Go.undef) hlt (held_none (by simp [Heap.del]))
  (fun i e he => h4.each _ _ (hget i e he).2) (by rw [hlen]; exact hn') (fun i j hi hj => ?_) (fun i e j d he hd => h4.one _ _ _ _ (hget i e he).2 hd)
  (fun i e j d he hd => (h4.rel _ _ _ _ (hget i e he).2 hd).less (Heap.del_le H b))
 ·rw [hlen] at hR; exact hR
 ·rw [hlen] at hi
  have e1 : lo * sz + i * sz + j = (lo + i) * sz + j := by rw [Nat.add_mul]
  rw [e1, cell_at h1]
  have h5 : (lo + i + 1) * sz ≤ es.length * sz := Nat.mul_le_mul_right _ (by omega)
  rw [Nat.add_mul (lo + i), Nat.one_mul] at h5
  have h6 := h4.le
  have h7 : (lo + i) * sz + j < c.size := by omega
  simp [h7]
inductive Fz (b sz : Nat) (es : List (List D)) : D → D → Prop
 | same (d : D) : Fz b sz es d d
 | nil (sz' : Nat) : Fz b sz es .nilsl (.sl sz' [])
 | vec (lo n : Nat) (h : lo + n ≤ es.length) : Fz b sz es (.vec b sz lo n) (.sl sz ((es.drop lo).take n))
 | all : Fz b sz es (.vec b sz 0 es.length) (.sl sz es)
 | tuple (ds ds' : List D) (hl : ds.length = ds'.length) (h : ∀ (i : Nat) d d', ds[i]? = some d → ds'[i]? = some d' → Fz b sz es d d') : Fz b sz es (.tuple ds) (.tuple ds')
theorem Fz.R {w : World} {H : Heap} {b sz : Nat} {es : List (List D)} (hs : Sat H w) (hb : H b = some (.vec sz es)) {d d' : D} (h : Fz b sz es d d') : ∀ {v : Value}, R w H d v → R w (H.del b) d' v := by
 induction h with
 | same d => exact fun hr => hr.less (Heap.del_le H b)
 | nil sz' => intro v hr; cases hr; exact .sl0 _ _ _
 | vec lo n h => exact fun hr => freeze_vec hr hs hb h
 | all => intro v hr; have := freeze_vec hr hs hb (by omega); rwa [List.drop_zero, List.take_length] at this
 | tuple ds ds' hl h ih =>
  intro v hr
  obtain ⟨vs, rfl, hl', hr'⟩ := hr.tuple_inv
  refine .tuple _ _ (by omega) fun i d' hd' => ?_
  have hi := (List.getElem?_eq_some_iff.1 hd').1
  have hd : ds[i]? = some (ds[i]'(by omega)) := List.getElem?_eq_getElem _
  exact ih i _ _ hd hd' (hr' i _ hd)
theorem Fz.one {b sz : Nat} {es : List (List D)} {d d' : D} (h : Fz b sz es d d') (h1 : d.one = true) : d'.one = true := by
 cases h with
 | same => exact h1
 | nil => rfl
 | vec => rfl
 | all => rfl
 | tuple => cases h1
inductive OFz (b sz : Nat) (es : List (List D)) : Obj → Obj → Prop
 | same (o : Obj) : OFz b sz es o o
 | box (cs cs' : List D) (Z : Option TypeId) (hl : cs.length = cs'.length) (h : ∀ (i : Nat) d d', cs[i]? = some d → cs'[i]? = some d' → Fz b sz es d d') : OFz b sz es (.box cs Z) (.box cs' Z)
 | vec (s : Nat) (xs xs' : List (List D)) (hl : xs.length = xs'.length) (h : ∀ (i : Nat) x x', xs[i]? = some x → xs'[i]? = some x' → x.length = x'.length ∧ ∀ (j : Nat) d d', x[j]? = some d → x'[j]? = some d' → Fz b sz es d d') : OFz b sz es (.vec s xs) (.vec s xs')
theorem weak_freeze {E E' : Env} {H H' : Heap} {b sz : Nat} {es : List (List D)} (hb : H b = some (.vec sz es)) (hE : ∀ p ∈ E', Fz b sz es (E.get p.1) p.2)
  (hH : ∀ k o', H' k = some o' → k ≠ b ∧ ∃ o, H k = some o ∧ OFz b sz es o o') : Weak E' H' E H := by
 intro N w0 Hz a w hst
 have hs := hst.sat
 have hheld : ∀ k, H.held k = false → H'.held k = false := fun k hk => by
  cases ho : H' k with
  | none => exact held_none ho
  | some o' =>
   obtain ⟨_, o, h1, h2⟩ := hH k o' ho
   rw [held_of h1] at hk
   rw [held_of ho]
   cases h2 <;> exact hk
 have hR : ∀ {d d' : D} {v : Value}, Fz b sz es d d' → R w H d v → R w H' d' v := fun hf hr => (hf.R hs hb hr).mono (Ext.refl _ _) fun k _ hk => by
  by_cases hkb : k = b
  ·subst hkb
   cases ho : H' k with
   | none => exact held_none ho
   | some o' => exact absurd rfl (hH k o' ho).1
  ·refine hheld k ?_
   rw [← held_ne (H := H) (H' := H.del b) (k := k) (by unfold Heap.del; rw [if_neg hkb])]
   exact hk
 refine ⟨hst.size, hst.defers, fun i => ?_, fun k o' ho => ?_, hst.ext, fun k hk hn => hheld k (hst.frm k hk hn)⟩
 ·have key : ∀ (L : Env), (∀ p ∈ L, Fz b sz es (E.get p.1) p.2) → R w H' (L.get i) (a.eval (.tmp i)) := by
   intro L
   induction L with
   | nil => intro _; exact .undef _
   | cons p L ih =>
    intro hL
    obtain ⟨j, d⟩ := p
    simp only [Env.get]
    by_cases hj : j = i
    ·subst hj
     rw [if_pos rfl]
     exact hR (hL (j, d) (by simp)) (hst.env j)
    ·rw [if_neg hj]; exact ih (fun p hp => hL p (by simp [hp]))
  exact key E' hE
 ·obtain ⟨_, o, h1, h2⟩ := hH k o' ho
  have hok := hs k o h1
  cases h2 with
  | same => exact hok.mono (Ext.refl H w) (fun k _ hk => hheld k hk) rfl
  | box cs cs' Z hl hf =>
   obtain ⟨c, T, lo, hi, k1, k2, k3, k4, k5⟩ := hok
   refine ⟨c, T, lo, hi, k1, k2, by omega, fun j d' hd' => ?_, k5⟩
   have hj := (List.getElem?_eq_some_iff.1 hd').1
   have hd : cs[j]? = some (cs[j]'(by omega)) := List.getElem?_eq_getElem _
   have hfz := hf j _ _ hd hd'
   exact ⟨hfz.one (k4 j _ hd).1, hR hfz (k4 j _ hd).2⟩
  | vec s xs xs' hl hf =>
   obtain ⟨c, T, lo, hi, k1, k2, k3, k4, k5, k6⟩ := hok
   refine ⟨c, T, lo, hi, k1, k2, k3, by rw [← hl]; exact k4, fun i x' hx' => ?_, fun i x' j d' hx' hd' => ?_⟩
   ·have hi' := (List.getElem?_eq_some_iff.1 hx').1
    have hx : xs[i]? = some (xs[i]'(by omega)) := List.getElem?_eq_getElem _
    rw [← (hf i _ _ hx hx').1]; exact k5 i _ hx
   ·have hi' := (List.getElem?_eq_some_iff.1 hx').1
    have hx : xs[i]? = some (xs[i]'(by omega)) := List.getElem?_eq_getElem _
    obtain ⟨hlen, hfz⟩ := hf i _ _ hx hx'
    have hj := (List.getElem?_eq_some_iff.1 hd').1
    have hd : (xs[i]'(by omega))[j]? = some ((xs[i]'(by omega))[j]'(by omega)) := List.getElem?_eq_getElem _
    have hz := hfz j _ _ hd hd'
    exact ⟨hz.one (k6 i _ j _ hx hd).1, hR hz (k6 i _ j _ hx hd).2⟩
theorem Shift.freeze {H : Heap} {b sz : Nat} {es : List (List D)} (hb : H b = some (.vec sz es)) {d d' : D} (h : Fz b sz es d d') : Shift H d (H.del b) d' := fun w v hr hs =>
 ⟨h.R hs hb hr, hs.less (Heap.del_le H b), fun _ hn => (Heap.del_le H b).held hn⟩
theorem ACalls.freeze {f : Nat} {args args' : List D} {H : Heap} {Q : D → Heap → Prop} {b sz : Nat} {es : List (List D)} (hb : H b = some (.vec sz es)) (hl : args.length = args'.length) (hz : ∀ (i : Nat) d d', args[i]? = some d → args'[i]? = some d' → Fz b sz es d d')
  (h : ACalls P f args' (H.del b) Q) : ACalls P f args H Q :=
 h.shift fun w vs h1 h2 h3 => ⟨by omega, fun i d' hd' => by
  have hi := (List.getElem?_eq_some_iff.1 hd').1
  have hd : args[i]? = some (args[i]'(by omega)) := List.getElem?_eq_getElem _
  exact (hz i _ _ hd hd').R h3 hb (h2 i _ hd), h3.less (Heap.del_le H b), fun _ hn => (Heap.del_le H b).held hn⟩
theorem R.nil_sl {w : World} {H : Heap} {v : Value} (sz : Nat) (h : R w H .nilsl v) : R w H (.sl sz []) v := by cases h; exact .sl0 _ _ _
end
end Go.Av
end
section
namespace Go.Av
def B (s : ByteArray) : List UInt8 := s.data.toList
@[simp] theorem B_len (s : ByteArray) : (B s).length = s.size := by simp [B]
theorem B_inj {s t : ByteArray} (h : B s = B t) : s = t := by
 apply ByteArray.ext
 unfold B at h
 exact Array.toList_inj.1 h
def S (l : List UInt8) : ByteArray := ⟨l.toArray⟩
@[go_sem] theorem B_S (l : List UInt8) : B (S l) = l := by simp [B, S]
theorem S_B (s : ByteArray) : S (B s) = s := B_inj (B_S _)
@[go_sem] theorem S_size (l : List UInt8) : (S l).size = l.length := by rw [← B_len, B_S]
@[go_sem] theorem B_S' (l : List UInt8) : B (ByteArray.mk l.toArray) = l := B_S l
@[go_sem] theorem B_app (x y : ByteArray) : B (x ++ y) = B x ++ B y := by simp [B, ByteArray.data_append]
attribute [go_sem] B_len
theorem extract_S (s : ByteArray) (l h : Nat) : s.extract l h = S (((B s).take h).drop l) := by
 apply B_inj
 rw [B_S]
 simp [B, ByteArray.data_extract, List.extract_eq_take_drop]
 rw [List.drop_take]
theorem B_lit (l : List UInt8) : B ⟨l.toArray⟩ = l := by simp [B]
def seqK (P : Program) (Z : List (Nat × Rc)) (b : Code) (Q : AX → Env → Heap → Prop) : AX → Env → Heap → Prop
 | .normal, E, H => wp P Z b Q E H
 | .exit i, E, H => Q (.exit i) E H
 | .ret, E, H => Q .ret E H
def blockK (id : Nat) (Q : AX → Env → Heap → Prop) : AX → Env → Heap → Prop
 | .normal, E, H => Q .normal E H
 | .exit i, E, H => if i = id then Q .normal E H else Q (.exit i) E H
 | .ret, E, H => Q .ret E H
def loopK (Q : AX → Env → Heap → Prop) (K : Env → Heap → Prop) : AX → Env → Heap → Prop
 | .normal, E, H => K E H
 | .exit i, E, H => Q (.exit i) E H
 | .ret, E, H => Q .ret E H
def normalK (Q : AX → Env → Heap → Prop) : Env → Heap → Prop := fun E H => Q .normal E H
def Loop (P : Program) (Z : List (Nat × Rc)) (c : Code) (Q : AX → Env → Heap → Prop) (E : Env) (H : Heap) : Prop := LoopA (fun K => wp P Z c (loopK Q K)) E H
def opK (P : Program) (gs : List (Option Nat)) (K : Env → Heap → Prop) (l : List Oper) (dst : Option Nat) (E : Env) : D → Heap → Prop := fun d H => wpOps P gs K l (E.put dst d) H
def optK (o : Option D) (K : D → Heap → Prop) (H : Heap) : Prop := ∃ d, o = some d ∧ K d H
def optH (o : Option Heap) (K : D → Heap → Prop) : Prop := ∃ H', o = some H' ∧ K .undef H'
def condA (P : Program) (Z : List (Nat × Rc)) (c : Operand) (d : D) (x y : Code) (Q : AX → Env → Heap → Prop) (E : Env) (H : Heap) : Prop := ∃ b, d = .bool b ∧ (b = true → wp P Z x Q (E.fix c true) H) ∧ (b = false → wp P Z y Q (E.fix c false) H)
def guardK (P : Program) (gs : List (Option Nat)) (K : Env → Heap → Prop) (l : List Oper) (dst : Option Nat) (op : Op) (s : Nat) (d : D) (want : Bool) (E : Env) (H : Heap) : Prop :=
 (d = .tuple [] ∧ wpOps P gs K l (E.put dst (.tuple [])) H) ∨
 ∃ b, d = .bool b ∧ (b = want → wpOp P (Env.ev ((s, .bool want) :: E)) H (opK P gs K l dst ((s, .bool want) :: E)) op) ∧ (b = !want → wpOps P gs K l (Env.put ((s, .bool (!want)) :: E) dst (.tuple [])) H)
def guardS (P : Program) (gs : List (Option Nat)) (K : Env → Heap → Prop) (l : List Oper) (dst : Option Nat) (op : Op) (s : Option Nat) (want : Bool) (E : Env) (H : Heap) : Prop := match s with
 | none => wpOps P gs K l (E.put dst (.tuple [])) H
 | some s => guardK P gs K l dst op s (E.get s) want E H
def callA (P : Program) (f : D) (args : List D) (H : Heap) (K : D → Heap → Prop) : Prop := match f with
 | .fn (.func g) first captured => ACalls P g (first ++ args ++ captured) H K
 | _ => False
def Fin (Q : D → Heap → Prop) (d : D) (H : Heap) : Prop := ∃ H' d', Shift H d H' d' ∧ Q d' H'
def finK (o : Option D) (Q : D → Heap → Prop) (H : Heap) : Prop := ∃ r, o = some r ∧ Fin Q r H
theorem Fin.less {Q : D → Heap → Prop} {d : D} {H H' : Heap} (hl : H'.Le H) (h : Q d H') : Fin Q d H := ⟨H', d, .less hl d, h⟩
theorem Fin.same {Q : D → Heap → Prop} {d : D} {H : Heap} (h : Q d H) : Fin Q d H := ⟨H, d, .less (Heap.Le.refl H) d, h⟩
theorem Fin.freeze {Q : D → Heap → Prop} {d d' : D} {H : Heap} {b sz : Nat} {es : List (List D)} (hb : H b = some (.vec sz es)) (hz : Fz b sz es d d') (h : Fin Q d' (H.del b)) : Fin Q d H :=
 let ⟨H', e, h1, h2⟩ := h; ⟨H', e, (Shift.freeze hb hz).trans h1, h2⟩
theorem Fin.slice1 {Q : D → Heap → Prop} {ds : List D} {H : Heap} {b sz n : Nat} {es : List (List D)} (hb : H b = some (.vec sz es)) (hn : n = es.length) (h : Fin Q (.tuple (.sl sz es :: ds)) (H.del b)) : Fin Q (.tuple (.vec b sz 0 n :: ds)) H := by
 subst hn
 refine Fin.freeze hb (.tuple _ _ (by simp) fun i d d' h1 h2 => ?_) h
 cases i with
 | zero => simp at h1 h2; subst h1; subst h2; exact .all
 | succ i => simp at h1 h2; rw [h1] at h2; cases h2; exact .same _
theorem Fin.nilsl {Q : D → Heap → Prop} {H : Heap} (sz : Nat) (ds : List D) (h : Fin Q (.tuple (.sl sz [] :: ds)) H) : Fin Q (.tuple (.nilsl :: ds)) H :=
 let ⟨H1, e, h1, h2⟩ := h; ⟨H1, e, Shift.trans (fun w v hr hs => ⟨by
  obtain ⟨vs, rfl, hl, hr'⟩ := hr.tuple_inv
  refine .tuple _ _ (by simpa using hl) fun i d hd => ?_
  cases i with
  | zero => simp at hd; subst hd; have := hr' 0 _ rfl; generalize vs.getD 0 Go.undef = u at this; cases this; exact .sl0 _ _ _
  | succ i => exact hr' (i + 1) d (by simpa using hd), hs, fun _ hn => hn⟩) h1, h2⟩
theorem base_of_int {P : Program} {t : Nat} {k : IntKind} (h : P.underlying t = some (.int k)) : baseT P t = .int := by unfold baseT; rw [h]
section
variable {P : Program} {Z : List (Nat × Rc)} {Q : AX → Env → Heap → Prop} {E : Env} {H : Heap} {K : Env → Heap → Prop} {gs : List (Option Nat)} {l : List Oper} {KD : D → Heap → Prop} {ev : Operand → D} {bl : List Nat}
@[go_sem] theorem aw_skip : wp P Z .skip Q E H = Q .normal E H := rfl
def raceK (P : Program) (gs : List (Option Nat)) (ops : List Oper) (K : Env → Heap → Prop) (E : Env) (H : Heap) : Option Rc → Prop
 | none => wpOps P gs K ops E H
 | some (.rd sx) => ∃ bl, (∀ k ∈ bl, H k ≠ none) ∧ wpOpsR P sx bl K ops E H
 | some .par => ∃ (cs : Nat → CR) (bs : Nat → Bl), BlOk bs 0 ops ∧ wpP P gs cs bs K 0 ops E H
 | some (.ord perm) => ∃ bl : List Nat, wpG P bl K (perm.map (pickO ops)) E H
 | some .rg => ∃ bl, (∀ k ∈ bl, H k ≠ none) ∧ wpOpsF P bl gs K ops E H
 | some .wk => ∃ E0 H0, Weak E0 H0 E H ∧ wpOps P gs K ops E0 H0
@[go_sem] theorem aw_region (id : Nat) (l : List Oper) (d : Bool) : wp P Z (.region id l.toArray d) Q E H = raceK P (l.map (·.dst)) l (normalK Q) E H (raceOf id Z) := by
 show (match raceOf id Z with | none => _ | some (.rd sx) => _ | some .par => _ | some (.ord perm) => _ | some .rg => _ | some .wk => _) = _
 unfold raceK
 cases raceOf id Z with
 | none => rfl
 | some r => cases r <;> rfl
@[go_sem] theorem raceOf_nil (id : Nat) : raceOf id [] = none := rfl
@[go_sem] theorem raceOf_cons (id i : Nat) (sx : Rc) (Z : List (Nat × Rc)) : raceOf id ((i, sx) :: Z) = if id = i then some sx else raceOf id Z := rfl
@[go_sem] theorem raceK_none (gs : List (Option Nat)) (ops : List Oper) : raceK P gs ops K E H none = wpOps P gs K ops E H := rfl
theorem par_mk {gs : List (Option Nat)} {ops : List Oper} (cs : Nat → D) (bl : List Nat) (h : wpP P gs (fun i => .c (cs i)) (fun _ => ⟨bl, [], []⟩) K 0 ops E H) : raceK P gs ops K E H (some .par) := ⟨_, _, BlOk_const bl _ _, h⟩
theorem par_mk2 {gs : List (Option Nat)} {ops : List Oper} (cs : Nat → CR) (bl : List Nat) (h : wpP P gs cs (fun _ => ⟨bl, [], []⟩) K 0 ops E H) : raceK P gs ops K E H (some .par) := ⟨cs, _, BlOk_const bl _ _, h⟩
def gK (P : Program) (bl : List Nat) (K : Env → Heap → Prop) (l : List (Option Oper)) (dst : Option Nat) (E : Env) (H : Heap) : D → Heap → Prop := fun d H' => (∀ k ∈ bl, H' k = H k) ∧ wpG P bl K l (E.put dst d) H'
@[go_sem] theorem gK_app (bl : List Nat) (K : Env → Heap → Prop) (l : List (Option Oper)) (dst : Option Nat) (E : Env) (H H' : Heap) (d : D) : gK P bl K l dst E H d H' = ((∀ k ∈ bl, H' k = H k) ∧ wpG P bl K l (E.put dst d) H') := rfl
@[go_sem] theorem g_nil (bl : List Nat) : wpG P bl K [] E H = K E H := rfl
@[go_sem] theorem g_load (bl : List Nat) (l : List (Option Oper)) (dst : Option Nat) (t : Nat) (x : Operand) (ty : Nat) (pos : String) (after : Array Edge) (gd : Option (Nat × Bool)) :
  wpG P bl K (some ⟨dst, .load t x, ty, pos, after, gd⟩ :: l) E H = ((∀ b ∈ rdB (E.ev x), b ∈ bl) ∧ wpOp P E.ev H (gK P bl K l dst E H) (.load t x)) := by
 show ((cls P (.load t x) = .load → _) ∧ _) = _
 simp only [cls, true_implies, rdIn]; rfl
@[go_sem] theorem pick_zero (o : Oper) (l : List Oper) : pickO (o :: l) 0 = some o := rfl
@[go_sem] theorem pick_succ (o : Oper) (l : List Oper) (i : Nat) : pickO (o :: l) (i + 1) = pickO l i := rfl
@[go_sem] theorem aw_seq (a b : Code) : wp P Z (.seq a b) Q E H = wp P Z a (seqK P Z b Q) E H := by
 show wp P Z a _ E H = wp P Z a _ E H
 congr 1; funext x; cases x <;> rfl
@[go_sem] theorem aw_cond (c : Operand) (x y : Code) : wp P Z (.cond c x y) Q E H = condA P Z c (E.ev c) x y Q E H := rfl
@[go_sem] theorem aw_block (id : Nat) (c : Code) : wp P Z (.block id c) Q E H = wp P Z c (blockK id Q) E H := by
 show wp P Z c _ E H = wp P Z c _ E H
 congr 1; funext x; cases x <;> rfl
@[go_sem] theorem aw_loop (c : Code) : wp P Z (.loop c) Q E H = Loop P Z c Q E H := by
 show LoopA _ E H = LoopA _ E H
 congr 1; funext K; congr 1; funext x; cases x <;> rfl
@[go_sem] theorem aw_exit (id : Nat) : wp P Z (.exit id) Q E H = Q (.exit id) E H := rfl
@[go_sem] theorem aw_ret : wp P Z .ret Q E H = Q .ret E H := rfl
@[go_sem] theorem aw_scope (c : Code) : wp P Z (.scope c) Q E H = wp P Z c Q E H := rfl
@[go_sem] theorem aw_label (l : Nat) : wp P Z (.label l) Q E H = Q .normal E H := rfl
@[go_sem] theorem seqK_normal (b : Code) : seqK P Z b Q .normal E H = wp P Z b Q E H := rfl
@[go_sem] theorem seqK_exit (b : Code) (i : Nat) : seqK P Z b Q (.exit i) E H = Q (.exit i) E H := rfl
@[go_sem] theorem seqK_ret (b : Code) : seqK P Z b Q .ret E H = Q .ret E H := rfl
@[go_sem] theorem blockK_normal (i : Nat) : blockK i Q .normal E H = Q .normal E H := rfl
@[go_sem] theorem blockK_exit (i j : Nat) : blockK i Q (.exit j) E H = if j = i then Q .normal E H else Q (.exit j) E H := rfl
@[go_sem] theorem blockK_ret (i : Nat) : blockK i Q .ret E H = Q .ret E H := rfl
@[go_sem] theorem loopK_normal : loopK Q K .normal E H = K E H := rfl
@[go_sem] theorem loopK_exit (j : Nat) : loopK Q K (.exit j) E H = Q (.exit j) E H := rfl
@[go_sem] theorem loopK_ret : loopK Q K .ret E H = Q .ret E H := rfl
@[go_sem] theorem normalK_app : normalK Q E H = Q .normal E H := rfl
theorem condA_bool (c : Operand) (b : Bool) (x y : Code) : condA P Z c (.bool b) x y Q E H = ((b = true → wp P Z x Q (E.fix c true) H) ∧ (b = false → wp P Z y Q (E.fix c false) H)) := by
 unfold condA
 simp only [D.bool.injEq, exists_eq_left']
attribute [go_sem low] condA_bool
@[go_sem high] theorem condA_true (c : Operand) (x y : Code) : condA P Z c (.bool true) x y Q E H = wp P Z x Q (E.fix c true) H := by rw [condA_bool]; simp
@[go_sem high] theorem condA_false (c : Operand) (x y : Code) : condA P Z c (.bool false) x y Q E H = wp P Z y Q (E.fix c false) H := by rw [condA_bool]; simp
@[go_sem] theorem fix_tmp (t : Nat) (b : Bool) : Env.fix E (.tmp t) b = (t, .bool b) :: E := rfl
@[go_sem] theorem fix_const (v : Value) (b : Bool) : Env.fix E (.const v) b = E := rfl
@[go_sem] theorem ops_nil : wpOps P gs K [] E H = K E H := rfl
@[go_sem] theorem ops_cons (dst : Option Nat) (op : Op) (ty : Nat) (pos : String) (after : Array Edge) : wpOps P gs K (⟨dst, op, ty, pos, after, none⟩ :: l) E H = wpOp P (Env.ev E) H (opK P gs K l dst E) op := rfl
@[go_sem] theorem ops_guard (dst : Option Nat) (op : Op) (ty : Nat) (pos : String) (after : Array Edge) (j : Nat) (want : Bool) :
  wpOps P gs K (⟨dst, op, ty, pos, after, some (j, want)⟩ :: l) E H = guardS P gs K l dst op (guardSlot gs j) want E H := by
 rw [wpOps]
 simp only []
 unfold guardA guardS
 cases guardSlot gs j <;> rfl
@[go_sem] theorem guardSlot_zero (g : Option Nat) (gs : List (Option Nat)) : guardSlot (g :: gs) 0 = g := rfl
@[go_sem] theorem guardSlot_succ (g : Option Nat) (gs : List (Option Nat)) (j : Nat) : guardSlot (g :: gs) (j + 1) = guardSlot gs j := by simp [guardSlot]
@[go_sem] theorem guardS_some (dst : Option Nat) (op : Op) (s : Nat) (want : Bool) : guardS P gs K l dst op (some s) want E H = guardK P gs K l dst op s (E.get s) want E H := rfl
theorem guardK_bool (dst : Option Nat) (op : Op) (s : Nat) (b want : Bool) : guardK P gs K l dst op s (.bool b) want E H =
  ((b = want → wpOp P (Env.ev ((s, .bool want) :: E)) H (opK P gs K l dst ((s, .bool want) :: E)) op) ∧ (b = !want → wpOps P gs K l (Env.put ((s, .bool (!want)) :: E) dst (.tuple [])) H)) := by
 unfold guardK
 simp only [D.bool.injEq, exists_eq_left', reduceCtorEq, false_and, false_or]
attribute [go_sem low] guardK_bool
@[go_sem high] theorem guardK_skip (dst : Option Nat) (op : Op) (s : Nat) (want : Bool) : guardK P gs K l dst op s (.tuple []) want E H = wpOps P gs K l (E.put dst (.tuple [])) H := by
 unfold guardK
 simp
@[go_sem high] theorem guardK_tt (dst : Option Nat) (op : Op) (s : Nat) : guardK P gs K l dst op s (.bool true) true E H = wpOp P (Env.ev ((s, .bool true) :: E)) H (opK P gs K l dst ((s, .bool true) :: E)) op := by rw [guardK_bool]; simp
@[go_sem high] theorem guardK_ff (dst : Option Nat) (op : Op) (s : Nat) : guardK P gs K l dst op s (.bool false) false E H = wpOp P (Env.ev ((s, .bool false) :: E)) H (opK P gs K l dst ((s, .bool false) :: E)) op := by rw [guardK_bool]; simp
@[go_sem high] theorem guardK_tf (dst : Option Nat) (op : Op) (s : Nat) : guardK P gs K l dst op s (.bool true) false E H = wpOps P gs K l (Env.put ((s, .bool true) :: E) dst (.tuple [])) H := by rw [guardK_bool]; simp
@[go_sem high] theorem guardK_ft (dst : Option Nat) (op : Op) (s : Nat) : guardK P gs K l dst op s (.bool false) true E H = wpOps P gs K l (Env.put ((s, .bool false) :: E) dst (.tuple [])) H := by rw [guardK_bool]; simp
@[go_sem] theorem opK_app (dst : Option Nat) (d : D) : opK P gs K l dst E d H = wpOps P gs K l (Env.put E dst d) H := rfl
def opFK (P : Program) (bl : List Nat) (gs : List (Option Nat)) (K : Env → Heap → Prop) (l : List Oper) (dst : Option Nat) (E : Env) : D → Heap → Prop := fun d H => wpOpsF P bl gs K l (E.put dst d) H
def guardF (P : Program) (bl : List Nat) (gs : List (Option Nat)) (K : Env → Heap → Prop) (l : List Oper) (dst : Option Nat) (op : Op) (s : Nat) (d : D) (want : Bool) (E : Env) (H : Heap) : Prop :=
 (d = .tuple [] ∧ wpOpsF P bl gs K l (E.put dst (.tuple [])) H) ∨
 ∃ b, d = .bool b ∧ (b = want → wpOpF P bl (Env.ev ((s, .bool want) :: E)) H (opFK P bl gs K l dst ((s, .bool want) :: E)) op) ∧ (b = !want → wpOpsF P bl gs K l (Env.put ((s, .bool (!want)) :: E) dst (.tuple [])) H)
def guardFS (P : Program) (bl : List Nat) (gs : List (Option Nat)) (K : Env → Heap → Prop) (l : List Oper) (dst : Option Nat) (op : Op) (s : Option Nat) (want : Bool) (E : Env) (H : Heap) : Prop := match s with
 | none => wpOpsF P bl gs K l (E.put dst (.tuple [])) H
 | some s => guardF P bl gs K l dst op s (E.get s) want E H
@[go_sem] theorem opsF_nil : wpOpsF P bl gs K [] E H = K E H := rfl
@[go_sem] theorem opsF_cons (dst : Option Nat) (op : Op) (ty : Nat) (pos : String) (after : Array Edge) : wpOpsF P bl gs K (⟨dst, op, ty, pos, after, none⟩ :: l) E H = wpOpF P bl (Env.ev E) H (opFK P bl gs K l dst E) op := rfl
@[go_sem] theorem opsF_guard (dst : Option Nat) (op : Op) (ty : Nat) (pos : String) (after : Array Edge) (j : Nat) (want : Bool) :
  wpOpsF P bl gs K (⟨dst, op, ty, pos, after, some (j, want)⟩ :: l) E H = guardFS P bl gs K l dst op (guardSlot gs j) want E H := by
 rw [wpOpsF]
 simp only []
 unfold guardA guardFS
 cases guardSlot gs j <;> rfl
@[go_sem] theorem guardFS_none (dst : Option Nat) (op : Op) (want : Bool) : guardFS P bl gs K l dst op none want E H = wpOpsF P bl gs K l (E.put dst (.tuple [])) H := rfl
@[go_sem] theorem guardFS_some (dst : Option Nat) (op : Op) (s : Nat) (want : Bool) : guardFS P bl gs K l dst op (some s) want E H = guardF P bl gs K l dst op s (E.get s) want E H := rfl
theorem guardF_bool (dst : Option Nat) (op : Op) (s : Nat) (b want : Bool) : guardF P bl gs K l dst op s (.bool b) want E H =
  ((b = want → wpOpF P bl (Env.ev ((s, .bool want) :: E)) H (opFK P bl gs K l dst ((s, .bool want) :: E)) op) ∧ (b = !want → wpOpsF P bl gs K l (Env.put ((s, .bool (!want)) :: E) dst (.tuple [])) H)) := by
 unfold guardF; apply propext; constructor
 ·rintro (⟨h, _⟩ | ⟨b', h, h1⟩)
  ·cases h
  ·cases h; exact h1
 ·exact fun h => .inr ⟨b, rfl, h⟩
attribute [go_sem low] guardF_bool
@[go_sem high] theorem guardF_skip (dst : Option Nat) (op : Op) (s : Nat) (want : Bool) : guardF P bl gs K l dst op s (.tuple []) want E H = wpOpsF P bl gs K l (E.put dst (.tuple [])) H := by
 unfold guardF; apply propext; constructor
 ·rintro (⟨_, h⟩ | ⟨b', h, _⟩)
  ·exact h
  ·cases h
 ·exact fun h => .inl ⟨rfl, h⟩
@[go_sem] theorem opFK_app (dst : Option Nat) (d : D) : opFK P bl gs K l dst E d H = wpOpsF P bl gs K l (Env.put E dst d) H := rfl
def roH (H : Heap) : Heap := fun k => match H k with
 | some (.ro cs) => some (.ro cs)
 | _ => none
theorem roH_at {H : Heap} {k : Nat} {cs : List D} (h : H k = some (.ro cs)) : roH H k = some (.ro cs) := by unfold roH; rw [h]
theorem roH_le (H : Heap) : (roH H).Le H := fun k o h => by
 unfold roH at h
 split at h
 ·rename_i cs e; cases h; exact e
 ·cases h
theorem roH_held (H : Heap) (k : Nat) : (roH H).held k = false := by
 cases h : roH H k with
 | none => exact held_none h
 | some o =>
  have h2 := h
  unfold roH at h2
  split at h2
  ·cases h2; rw [held_of h]; rfl
  ·cases h2
theorem sub_ro (H : Heap) : H.sub (roH H) = H := by
 funext k; unfold Heap.sub; rw [roH_held]; simp
@[go_sem] theorem optK_some (d : D) : optK (some d) KD H = KD d H := by simp [optK]
@[go_sem] theorem optK_ite (c : Prop) [Decidable c] (a : Option D) : optK (if c then a else none) KD H = (c ∧ optK a KD H) := by
 by_cases h : c <;> simp [h, optK]
@[go_sem] theorem optK_ite' (c : Prop) [Decidable c] (a : Option D) : optK (if c then none else a) KD H = (¬ c ∧ optK a KD H) := by
 by_cases h : c <;> simp [h, optK]
@[go_sem] theorem optH_some (H' : Heap) : optH (some H') KD = KD .undef H' := by simp [optH]
@[go_sem] theorem optH_ite (c : Prop) [Decidable c] (a : Option Heap) : optH (if c then a else none) KD = (c ∧ optH a KD) := by
 by_cases h : c <;> simp [h, optH]
def opRK (P : Program) (sx : Bool) (bl : List Nat) (K : Env → Heap → Prop) (l : List Oper) (dst : Option Nat) (E : Env) : D → Heap → Prop := fun d H => wpOpsR P sx bl K l (E.put dst d) H
def tt : D → Heap → Prop := fun _ _ => True
@[go_sem] theorem tt_app (d : D) : tt d H = True := rfl
variable {sx : Bool} {bl : List Nat}
@[go_sem] theorem opsR_nil : wpOpsR P sx bl K [] E H = K E H := rfl
@[go_sem] theorem opsR_cons (dst : Option Nat) (op : Op) (ty : Nat) (pos : String) (after : Array Edge) : wpOpsR P sx bl K (⟨dst, op, ty, pos, after, none⟩ :: l) E H = wpOpR P sx bl (Env.ev E) H (opRK P sx bl K l dst E) op := by
 show (none = none ∧ _) = _
 simp only [true_and]; rfl
@[go_sem] theorem opRK_app (dst : Option Nat) (d : D) : opRK P sx bl K l dst E d H = wpOpsR P sx bl K l (Env.put E dst d) H := rfl
def inBl (bl : List Nat) : D → Prop
 | .box b _ => b ∈ bl
 | .el b _ _ _ => b ∈ bl
 | _ => False
@[go_sem] theorem inBl_el (b s i off : Nat) : inBl bl (.el b s i off) = (b ∈ bl) := rfl
@[go_sem] theorem inBl_box (b off : Nat) : inBl bl (.box b off) = (b ∈ bl) := rfl
@[go_sem] theorem r_load (t : Nat) (x : Operand) : wpOpR P sx bl ev H KD (.load t x) = (inBl bl (ev x) ∧ wpOp P ev H KD (.load t x)) := by
 show ((match ev x with | .box b _ => b ∈ bl | .el b _ _ _ => b ∈ bl | _ => False) ∧ _) = _
 unfold inBl; rfl
@[go_sem] theorem r_store (t : Nat) (a x : Operand) : wpOpR P sx bl ev H KD (.store t a x) = ((sx = true → wpOp P ev (H.minus bl) tt (.store t a x)) ∧ wpOp P ev H KD (.store t a x)) := rfl
@[go_sem] theorem r_alloc (t : Nat) : wpOpR P sx bl ev H KD (.alloc t) = (wpOp P ev (H.minus bl) tt (.alloc t) ∧ wpOp P ev H KD (.alloc t)) := rfl
@[go_sem] theorem r_box (t : Nat) (x : Operand) : wpOpR P sx bl ev H KD (.box t x) = (wpOp P ev (H.minus bl) tt (.box t x) ∧ wpOp P ev H KD (.box t x)) := rfl
@[go_sem] theorem r_bs (t n : Nat) (ps : Array (Nat × Operand)) : wpOpR P sx bl ev H KD (.buildSlice t n ps) = (wpOp P ev (H.minus bl) tt (.buildSlice t n ps) ∧ wpOp P ev H KD (.buildSlice t n ps)) := rfl
@[go_sem] theorem r_append (as_ : Array Operand) (ts : Array Nat) : wpOpR P sx bl ev H KD (.call ⟨.builtin .append, as_, ts⟩) = (wpOp P ev (H.minus bl) tt (.call ⟨.builtin .append, as_, ts⟩) ∧ wpOp P ev H KD (.call ⟨.builtin .append, as_, ts⟩)) := rfl
@[go_sem] theorem f_load (t : Nat) (x : Operand) : wpOpF P bl ev H KD (.load t x) = (inBl bl (ev x) ∧ wpOp P ev H KD (.load t x)) := by
 show (_ ∧ _) = _
 unfold inBl
 cases ev x <;> rfl
@[go_sem] theorem f_bs (t n : Nat) (ps : Array (Nat × Operand)) : wpOpF P bl ev H KD (.buildSlice t n ps) = (wpOp P ev (H.minus bl) tt (.buildSlice t n ps) ∧ wpOp P ev H KD (.buildSlice t n ps)) := rfl
@[go_sem] theorem f_len (as_ : Array Operand) (ts : Array Nat) : wpOpF P bl ev H KD (.call ⟨.builtin .len, as_, ts⟩) = (cls P (.call ⟨.builtin .len, as_, ts⟩) = .pure ∧ wpOp P ev H KD (.call ⟨.builtin .len, as_, ts⟩)) := rfl
@[go_sem] theorem env_get (i j : Nat) (d : D) (E : Env) : Env.get ((i, d) :: E) j = if i = j then d else Env.get E j := rfl
@[go_sem] theorem env_put (i : Nat) (d : D) : Env.put E (some i) d = (i, d) :: E := rfl
@[go_sem] theorem env_put_none (d : D) : Env.put E none d = E := rfl
@[go_sem] theorem ev_tmp (t : Nat) : Env.ev E (.tmp t) = Env.get E t := rfl
@[go_sem] theorem ev_int (k : IntKind) (n : Int) : Env.ev E (.const (.int k n)) = .int k n := rfl
@[go_sem] theorem ev_bool (b : Bool) : Env.ev E (.const (.bool b)) = .bool b := rfl
@[go_sem] theorem ev_str (s : ByteArray) : Env.ev E (.const (.string s)) = .str s := rfl
@[go_sem] theorem ev_nilsl : Env.ev E (.const (.slice none 0 0)) = .nilsl := rfl
@[go_sem] theorem ev_nilmap : Env.ev E (.const (.map none)) = .nilmap := rfl
@[go_sem] theorem ev_nilp : Env.ev E (.const (.pointer none)) = .nilp := rfl
@[go_sem] theorem ev_nilif : Env.ev E (.const .nilIface) = .nilif := rfl
@[go_sem] theorem ev_nilfn : Env.ev E (.const .nilFunc) = .nilfn := rfl
@[go_sem] theorem ev_func (f : Nat) : Env.ev E (.func f) = .fn (.func f) [] [] := rfl
@[go_sem] theorem ev_global (g : Nat) : Env.ev E (.global g) = .glob g := rfl
@[go_sem] theorem s_move (x : Operand) : wpOp P ev H KD (.move x) = KD (ev x) H := optK_some _
@[go_sem] theorem s_assign (x : Operand) : wpOp P ev H KD (.assign x) = KD (ev x) H := optK_some _
def pickD : D → D → D → Option D
 | .bool t, a, b => some (if t then a else b)
 | _, _, _ => none
@[go_sem high] theorem pick_true (a b : D) : pickD (.bool true) a b = some a := rfl
@[go_sem high] theorem pick_false (a b : D) : pickD (.bool false) a b = some b := rfl
@[go_sem] theorem pick_bool (t : Bool) (a b : D) : pickD (.bool t) a b = some (if t = true then a else b) := rfl
@[go_sem] theorem ite_bool (c : Prop) [Decidable c] (a b : Bool) : (if c then D.bool a else D.bool b) = .bool (if c then a else b) := by split <;> rfl
@[go_sem] theorem ite_int (c : Prop) [Decidable c] (k : IntKind) (a b : Int) : (if c then D.int k a else D.int k b) = .int k (if c then a else b) := by split <;> rfl
@[go_sem] theorem s_pick (c a b : Operand) : wpOp P ev H KD (.pick c a b) = optK (pickD (ev c) (ev a) (ev b)) KD H := by
 show optK _ KD H = _
 simp only [pureD, pickD]
 congr 1
 cases ev c <;> rfl
def nilckD : D → Option D
 | .box b off => some (.box b off)
 | .el b sz i off => some (.el b sz i off)
 | .ro cs => some (.ro cs)
 | .fn (.func f) a b => some (.fn (.func f) a b)
 | _ => none
@[go_sem] theorem nilck_box (b off : Nat) : nilckD (.box b off) = some (.box b off) := rfl
@[go_sem] theorem nilck_el (b sz i off : Nat) : nilckD (.el b sz i off) = some (.el b sz i off) := rfl
@[go_sem] theorem nilck_ro (cs : List D) : nilckD (.ro cs) = some (.ro cs) := rfl
@[go_sem] theorem nilck_fn (f : Nat) (a b : List D) : nilckD (.fn (.func f) a b) = some (.fn (.func f) a b) := rfl
@[go_sem] theorem s_nilck (x : Operand) : wpOp P ev H KD (.nilCheck x) = optK (nilckD (ev x)) KD H := by
 show optK _ KD H = _
 simp only [pureD, nilckD]
 generalize ev x = d
 cases d <;> rfl
@[go_sem] theorem s_bin (op : BinOp) (t : Nat) (x y : Operand) (yt : Nat) : wpOp P ev H KD (.binOp op t x y yt) = optK (bin2D P op t (isConst x || isConst y) (ev x) (ev y)) KD H := rfl
@[go_sem] theorem s_un (op : UnOp) (t : Nat) (x : Operand) : wpOp P ev H KD (.unOp op t x) = optK (unD op (ev x)) KD H := rfl
@[go_sem] theorem s_faddr (t : Nat) (x : Operand) (f : Nat) : wpOp P ev H KD (.fieldAddr t x f) = optK (fieldAddrD P t (ev x) f) KD H := rfl
@[go_sem] theorem s_field (t : Nat) (x : Operand) (f : Nat) : wpOp P ev H KD (.field t x f) = optK (fieldD P t (ev x) f) KD H := rfl
@[go_sem] theorem s_iaddr (t : Nat) (x i : Operand) : wpOp P ev H KD (.indexAddr t x i) = optK (indexAddrD P t (ev x) (ev i)) KD H := rfl
@[go_sem] theorem s_index (t : Nat) (x i : Operand) : wpOp P ev H KD (.index t x i) = optK (indexD P t (ev x) (ev i)) KD H := rfl
@[go_sem] theorem s_slice (t : Nat) (x : Operand) (lo hi : Option Operand) : wpOp P ev H KD (.slice t x lo hi none) = optK (sliceD P t (ev x) (lo.map ev) (hi.map ev)) KD H := rfl
def extractD : D → Nat → Option D
 | .tuple ds, i => ds[i]?
 | _, _ => none
@[go_sem] theorem extract_tuple (ds : List D) (i : Nat) : extractD (.tuple ds) i = ds[i]? := rfl
@[go_sem] theorem s_extract (x : Operand) (i : Nat) : wpOp P ev H KD (.extract x i) = optK (extractD (ev x) i) KD H := by
 show optK _ KD H = _
 simp only [pureD, extractD]
 congr 1
 cases ev x <;> rfl
@[go_sem] theorem s_load (t : Nat) (x : Operand) : wpOp P ev H KD (.load t x) = optK (loadD P t (ev x) H) KD H := rfl
@[go_sem] theorem s_store (t : Nat) (a x : Operand) : wpOp P ev H KD (.store t a x) = optH (storeD P t (ev a) (ev x) H) KD := rfl
def allocA (z : Option (List D)) (Z : Option TypeId) (H : Heap) (KD : D → Heap → Prop) : Prop := ∃ c, z = some c ∧ ∀ b, H b = none → KD (.box b 0) (H.set b (.box c Z))
@[go_sem] theorem s_alloc (t : Nat) : wpOp P ev H KD (.alloc t) = allocA (zeroD P t) (bldT P t) H KD := rfl
@[go_sem] theorem allocA_some (c : List D) (Z : Option TypeId) : allocA (some c) Z H KD = ∀ b, H b = none → KD (.box b 0) (H.set b (.box c Z)) := by simp [allocA]
@[go_sem] theorem s_box (t : Nat) (x : Operand) : wpOp P ev H KD (.box t x) = ((ev x).cells.all D.one = true ∧ ∀ b, H b = none → KD (.box b 0) (H.set b (.box (ev x).cells))) := rfl
@[go_sem] theorem s_call (f : Operand) (args : List Operand) (ts : Array Nat) : wpOp P ev H KD (.call ⟨.value f, args.toArray, ts⟩) = callA P (ev f) (args.map ev) H KD := by
 show (match ev f with | .fn (.func g) first captured => ACalls P g (first ++ args.toArray.toList.map ev ++ captured) H KD | _ => False) = _
 unfold callA
 rfl
@[go_sem] theorem callA_fn (g : Nat) (fs as_ cs : List D) : callA P (.fn (.func g) fs cs) as_ H KD = ACalls P g (fs ++ as_ ++ cs) H KD := rfl
def kvsB : Option Obj → Option (List (D × D))
 | some (.map kvs) => some kvs
 | _ => none
@[go_sem] theorem kvsB_map (kvs : List (D × D)) : kvsB (some (.map kvs)) = some kvs := rfl
@[go_sem] theorem kvs_map (b : Nat) : kvsOf H (.map b) = kvsB (H b) := by
 simp only [kvsOf]
 generalize H b = o
 cases o with
 | none => rfl
 | some o => cases o <;> rfl
@[go_sem] theorem kvs_nil : kvsOf H .nilmap = some [] := rfl
def optM (o : Option (List (D × D))) (KD : List (D × D) → Prop) : Prop := ∃ kvs, o = some kvs ∧ KD kvs
def lenA (bs : Base) (P : Program) (t : Nat) (d : D) (H : Heap) (KD : D → Heap → Prop) : Prop := match bs with
 | .map => optM (kvsOf H d) fun kvs => KD (.int .i64 kvs.length) H
 | _ => optK (lenD P t d) KD H
@[go_sem] theorem lenA_map (t : Nat) (d : D) : lenA .map P t d H KD = optM (kvsOf H d) fun kvs => KD (.int .i64 kvs.length) H := rfl
@[go_sem] theorem lenA_slice (t : Nat) (d : D) : lenA .slice P t d H KD = optK (lenD P t d) KD H := rfl
@[go_sem] theorem lenA_str (t : Nat) (d : D) : lenA .str P t d H KD = optK (lenD P t d) KD H := rfl
@[go_sem] theorem s_len (x : Operand) (t : Nat) : wpOp P ev H KD (.call ⟨.builtin .len, #[x], #[t]⟩) = lenA (baseT P t) P t (ev x) H KD := by
 unfold lenA baseT
 cases hu : P.underlying t with
 | none => simp [wpOp, cls, hu, optK, pureD]
 | some u => cases u <;> simp [wpOp, cls, hu, optK, optM, pureD]
def capD (bs : Base) (d : D) : Option D := match d with
 | .nilsl => if bs = .slice then some (.int .i64 0) else none
 | _ => none
@[go_sem] theorem capD_nil : capD .slice .nilsl = some (.int .i64 0) := rfl
def lookZ (z : Option D) (kvs : Option (List (D × D))) (kk : KK) (k : D) (ok : Bool) : Option D := match z, kvs with
 | some z, some kvs => (findD kk k kvs 0).map (foundD ok z)
 | _, _ => none
@[go_sem] theorem lookZ_some (z k : D) (kvs : List (D × D)) (kk : KK) (ok : Bool) : lookZ (some z) (some kvs) kk k ok = (findD kk k kvs 0).map (foundD ok z) := rfl
def lookK (T : Option (TypeId × TypeId × KK)) (P : Program) (m k : D) (ok : Bool) (H : Heap) : Option D := match T with
 | some (_, et, kk) => if keyIs kk k = true then lookZ (zero1 P et) (kvsOf H m) kk k ok else none
 | none => none
@[go_sem] theorem lookK_some (kt et : TypeId) (kk : KK) (m k : D) (ok : Bool) : lookK (some (kt, et, kk)) P m k ok H = if keyIs kk k = true then lookZ (zero1 P et) (kvsOf H m) kk k ok else none := rfl
@[go_sem] theorem s_lookup (t : Nat) (m k : Operand) (ok : Bool) : wpOp P ev H KD (.lookup t m k ok) = optK (lookK (mapT P t) P (ev m) (ev k) ok H) KD H := by
 show optK (lookupD P t (ev m) (ev k) ok H) KD H = _
 unfold lookupD lookK lookZ
 cases mapT P t with
 | none => rfl
 | some T =>
  obtain ⟨kt, et, kk⟩ := T
  simp only [Option.bind_some]
  cases zero1 P et <;> cases kvsOf H (ev m) <;> simp
@[go_sem] theorem found_val (z d : D) (i : Nat) : foundD false z (some (i, d)) = d := rfl
@[go_sem] theorem found_ok (z d : D) (i : Nat) : foundD true z (some (i, d)) = .tuple [d, .bool true] := rfl
@[go_sem] theorem found_none (z : D) : foundD false z none = z := rfl
@[go_sem] theorem found_no (z : D) : foundD true z none = .tuple [z, .bool false] := rfl
@[go_sem] theorem keyIs_str (b : Base) (s : ByteArray) : keyIs (.one b) (.str s) = true := rfl
@[go_sem] theorem keyIs_int (b : Base) (k : IntKind) (n : Int) : keyIs (.one b) (.int k n) = true := rfl
@[go_sem] theorem keyIs_bool (b : Base) (c : Bool) : keyIs (.one b) (.bool c) = true := rfl
@[go_sem] theorem keyIs_two (b : Base) (k k' : IntKind) (m n : Int) : keyIs (.arr 2 b) (.agg [.int k m, .int k' n]) = true := rfl
def mputB (o : Option Obj) (b : Nat) (kk : KK) (k x : D) (H : Heap) : Option Heap := match o with
 | some (.map kvs) => (findD kk k kvs 0).map fun r => H.set b (.map (putKV kvs k x r))
 | _ => none
@[go_sem] theorem mputB_map (kvs : List (D × D)) (b : Nat) (kk : KK) (k x : D) : mputB (some (.map kvs)) b kk k x H = (findD kk k kvs 0).map fun r => H.set b (.map (putKV kvs k x r)) := rfl
def mputK (T : Option (TypeId × TypeId × KK)) (m k x : D) (H : Heap) : Option Heap := match T, m with
 | some (_, _, kk), .map b => if keyIs kk k = true then mputB (H b) b kk k x H else none
 | _, _ => none
@[go_sem] theorem mputK_some (kt et : TypeId) (kk : KK) (b : Nat) (k x : D) : mputK (some (kt, et, kk)) (.map b) k x H = if keyIs kk k = true then mputB (H b) b kk k x H else none := rfl
@[go_sem] theorem s_mapUpdate (t : Nat) (m k x : Operand) : wpOp P ev H KD (.mapUpdate t m k x) = optH (mputK (mapT P t) (ev m) (ev k) (ev x) H) KD := by
 show optH (mapPutD P t (ev m) (ev k) (ev x) H) KD = _
 unfold mapPutD mputK mputB
 cases mapT P t with
 | none => rfl
 | some T =>
  obtain ⟨kt, et, kk⟩ := T
  simp only [Option.bind_some]
  cases ev m <;> try (simp; done)
  rename_i b
  simp only
  cases H b with
  | none => simp
  | some o => cases o <;> simp
@[go_sem] theorem putKV_some (kvs : List (D × D)) (k x d : D) (i : Nat) : putKV kvs k x (some (i, d)) = kvs.set i (k, x) := rfl
@[go_sem] theorem putKV_none (kvs : List (D × D)) (k x : D) : putKV kvs k x none = kvs ++ [(k, x)] := rfl
@[go_sem] theorem s_makeMap (t : Nat) : wpOp P ev H KD (.makeMap t none) = ∀ b, H b = none → KD (.map b) (H.set b (.map [])) := rfl
@[go_sem] theorem find_nil (kk : KK) (k : D) (i : Nat) : findD kk k [] i = some none := rfl
@[go_sem] theorem s_cap (x : Operand) (t : Nat) : wpOp P ev H KD (.call ⟨.builtin .cap, #[x], #[t]⟩) = optK (capD (baseT P t) (ev x)) KD H := by
 have e : pureD P ev (.call ⟨.builtin .cap, #[x], #[t]⟩) = capD (baseT P t) (ev x) := by
  simp only [pureD, List.getElem?_toArray, List.getElem?_cons_zero, Option.map_some]
  unfold capD
  cases ev x <;> rfl
 show (∃ d, pureD P ev (.call ⟨.builtin .cap, #[x], #[t]⟩) = some d ∧ KD d H) = _
 rw [e]; rfl
@[go_sem] theorem s_max (x y : Operand) (ts : Array Nat) : wpOp P ev H KD (.call ⟨.builtin .max, #[x, y], ts⟩) = optK (max2D (ev x) (ev y)) KD H := by
 show optK (foldD max2D [ev x, ev y]) KD H = _
 simp [foldD]
@[go_sem] theorem s_append (s x : Operand) (t t' : Nat) : wpOp P ev H KD (.call ⟨.builtin .append, #[s, x], #[t, t']⟩) = appendA P ev H KD t t' s x := rfl
def ifaceD (P : Program) (t : Nat) (d : D) : Option D := if baseT P t = .iface ∨ (P.underlying t).isNone then none else some (.iface t d)
@[go_sem] theorem s_mkiface (t : Nat) (x : Operand) : wpOp P ev H KD (.makeInterface t x) = optK (ifaceD P t (ev x)) KD H := rfl
@[go_sem] theorem s_mkfn (fn : Fn) (fs cs : List Operand) : wpOp P ev H KD (.makeFunc fn fs.toArray cs.toArray) = KD (.fn fn (fs.map ev) (cs.map ev)) H := by
 show optK _ KD H = _
 simp [pureD, optK_some]
def buildD (P : Program) (t : Nat) (ps : List (Nat × D)) : Option D := match baseT P t with
  | .struct => (zeroD P t).bind fun z => (fieldsT P t).bind fun fs => (fillD (fun i => (fs[i]?).map fun f => (f.1, f.2.2)) z ps).map .agg
  | .other => (zeroD P t).bind fun z => (arrT P t).bind fun s => (fillD (fun i => some (i * s.2, s.2)) z ps).map .agg
  | _ => none
def buildA (z : Option (List D)) (s : Option (Nat × Nat)) (ps : List (Nat × D)) : Option D := match z, s with
 | some z, some s => (fillD (fun i => some (i * s.2, s.2)) z ps).map .agg
 | _, _ => none
@[go_sem] theorem buildA_some (z : List D) (n sz : Nat) (ps : List (Nat × D)) : buildA (some z) (some (n, sz)) ps = (fillD (fun i => some (i * sz, sz)) z ps).map .agg := rfl
def buildK (b : Base) (z : Option (List D)) (fs : Option (List (Nat × Bool × Nat))) (s : Option (Nat × Nat)) (ps : List (Nat × D)) : Option D := match b with
 | .struct => match z, fs with
  | some z, some fs => (fillD (fun i => (fs[i]?).map fun f => (f.1, f.2.2)) z ps).map .agg
  | _, _ => none
 | .other => buildA z s ps
 | _ => none
@[go_sem] theorem build_def (t : Nat) (ps : List (Nat × D)) : buildD P t ps = buildK (baseT P t) (zeroD P t) (fieldsT P t) (arrT P t) ps := by
 unfold buildD buildK buildA
 cases baseT P t <;> try rfl
 ·cases zeroD P t <;> try rfl
  cases fieldsT P t <;> rfl
 ·cases zeroD P t <;> try rfl
  cases arrT P t <;> rfl
@[go_sem] theorem buildK_some (z : List D) (fs : List (Nat × Bool × Nat)) (s : Option (Nat × Nat)) (ps : List (Nat × D)) : buildK .struct (some z) (some fs) s ps = (fillD (fun i => (fs[i]?).map fun f => (f.1, f.2.2)) z ps).map .agg := rfl
@[go_sem] theorem buildK_arr (z : Option (List D)) (fs : Option (List (Nat × Bool × Nat))) (s : Option (Nat × Nat)) (ps : List (Nat × D)) : buildK .other z fs s ps = buildA z s ps := rfl
@[go_sem] theorem fill_nil (pl : Nat → Option (Nat × Nat)) (cs : List D) : fillD pl cs [] = some cs := rfl
def fillK (o : Option (Nat × Nat)) (pl : Nat → Option (Nat × Nat)) (cs : List D) (d : D) (ps : List (Nat × D)) : Option (List D) := match o with
 | none => none
 | some (off, size) => if d.cells.length = size ∧ off + size ≤ cs.length ∧ d.cells.all D.one = true then fillD pl (putAt cs off d.cells) ps else none
@[go_sem] theorem fill_cons (pl : Nat → Option (Nat × Nat)) (cs : List D) (i : Nat) (d : D) (ps : List (Nat × D)) : fillD pl cs ((i, d) :: ps) = fillK (pl i) pl cs d ps := by
 rw [fillD]; unfold fillK; cases pl i <;> rfl
@[go_sem] theorem fillK_some (off size : Nat) (pl : Nat → Option (Nat × Nat)) (cs : List D) (d : D) (ps : List (Nat × D)) : fillK (some (off, size)) pl cs d ps = if d.cells.length = size ∧ off + size ≤ cs.length ∧ d.cells.all D.one = true then fillD pl (putAt cs off d.cells) ps else none := rfl
@[go_sem] theorem s_build (t : Nat) (ps : List (Nat × Operand)) : wpOp P ev H KD (.build t ps.toArray) = optK (buildD P t (ps.map fun p => (p.1, ev p.2))) KD H := by
 show optK _ KD H = _
 simp only [pureD, buildD]
 cases baseT P t <;> rfl
variable {t : Nat} {c : Bool} {k : IntKind} {a b : Int}
@[go_sem] theorem b_add : binD P .add t c (.int k a) (.int k b) = some (.int k (k.wrap (a + b))) := by simp [binD, intD]
@[go_sem] theorem b_sub : binD P .sub t c (.int k a) (.int k b) = some (.int k (k.wrap (a - b))) := by simp [binD, intD]
@[go_sem] theorem b_mul : binD P .mul t c (.int k a) (.int k b) = some (.int k (k.wrap (a * b))) := by simp [binD, intD]
@[go_sem] theorem b_quo : binD P .quo t c (.int k a) (.int k b) = if b = 0 then none else some (.int k (k.wrap (a.tdiv b))) := by simp [binD, intD]
@[go_sem] theorem b_rem : binD P .rem t c (.int k a) (.int k b) = if b = 0 then none else some (.int k (a.tmod b)) := by simp [binD, intD]
@[go_sem] theorem b_eql : binD P .eql t c (.int k a) (.int k b) = some (.bool (decide (a = b))) := by simp [binD, intD]; rfl
@[go_sem] theorem b_neq : binD P .neq t c (.int k a) (.int k b) = some (.bool (!decide (a = b))) := by simp [binD, intD]; rfl
@[go_sem] theorem b_lss : binD P .lss t c (.int k a) (.int k b) = some (.bool (decide (a < b))) := by simp [binD, intD]
@[go_sem] theorem b_leq : binD P .leq t c (.int k a) (.int k b) = some (.bool (decide (a ≤ b))) := by simp [binD, intD]
@[go_sem] theorem b_gtr : binD P .gtr t c (.int k a) (.int k b) = some (.bool (decide (b < a))) := by simp [binD, intD]
@[go_sem] theorem b_geq : binD P .geq t c (.int k a) (.int k b) = some (.bool (decide (b ≤ a))) := by simp [binD, intD]
@[go_sem] theorem bs_add (x y : ByteArray) : binD P .add t c (.str x) (.str y) = if x.size + y.size ≤ 9223372036854775807 then some (.str (x ++ y)) else none := rfl
@[go_sem] theorem bs_eql (x y : ByteArray) : binD P .eql t c (.str x) (.str y) = some (.bool (decide (B x = B y))) := by
 show some (D.bool (x.data.toList == y.data.toList)) = _
 unfold B; generalize x.data.toList = a; generalize y.data.toList = b; by_cases h : a = b <;> simp [h]
@[go_sem] theorem bs_neq (x y : ByteArray) : binD P .neq t c (.str x) (.str y) = some (.bool (!decide (B x = B y))) := by
 show some (D.bool (!(x.data.toList == y.data.toList))) = _
 unfold B; generalize x.data.toList = a; generalize y.data.toList = b; by_cases h : a = b <;> simp [h]
@[go_sem] theorem bs_lss (x y : ByteArray) : binD P .lss t c (.str x) (.str y) = some (.bool (Op.bytesLess x.data.toList y.data.toList)) := rfl
@[go_sem] theorem bb_eql (x y : Bool) : binD P .eql t c (.bool x) (.bool y) = if baseT P t = .bool then some (.bool (x == y)) else none := rfl
@[go_sem] theorem bb_neq (x y : Bool) : binD P .neq t c (.bool x) (.bool y) = if baseT P t = .bool then some (.bool (!(x == y))) else none := rfl
@[go_sem] theorem un_not (x : Bool) : unD .not (.bool x) = some (.bool (!x)) := rfl
@[go_sem] theorem un_neg : unD .neg (.int k a) = some (.int k (k.wrap (0 - a))) := rfl
@[go_sem] theorem min2_int (k' : IntKind) : min2D (.int k a) (.int k' b) = some (.int k (if b < a then b else a)) := rfl
@[go_sem] theorem max2_int (k' : IntKind) : max2D (.int k a) (.int k' b) = some (.int k (if a < b then b else a)) := rfl
@[go_sem] theorem b2_int (op : BinOp) (y : D) : bin2D P op t c (.int k a) y = binD P op t c (.int k a) y := by cases op <;> rfl
@[go_sem] theorem b2_str (op : BinOp) (x : ByteArray) (y : D) : bin2D P op t c (.str x) y = binD P op t c (.str x) y := by cases op <;> rfl
@[go_sem] theorem b2_bool (op : BinOp) (x : Bool) (y : D) : bin2D P op t c (.bool x) y = binD P op t c (.bool x) y := by cases op <;> rfl
@[go_sem] theorem b2_nilp (op : BinOp) (y : D) : bin2D P op t c .nilp y = binD P op t c .nilp y := by cases op <;> rfl
@[go_sem] theorem b2_nilsl (op : BinOp) (y : D) : bin2D P op t c .nilsl y = binD P op t c .nilsl y := by cases op <;> rfl
@[go_sem] theorem b2_nilfn (op : BinOp) (y : D) : bin2D P op t c .nilfn y = binD P op t c .nilfn y := by cases op <;> rfl
@[go_sem] theorem b2_nilif (op : BinOp) (y : D) : bin2D P op t c .nilif y = binD P op t c .nilif y := by cases op <;> rfl
@[go_sem] theorem b2_box (op : BinOp) (i j : Nat) (y : D) : bin2D P op t c (.box i j) y = binD P op t c (.box i j) y := by cases op <;> rfl
@[go_sem] theorem b2_el (op : BinOp) (i j m n : Nat) (y : D) : bin2D P op t c (.el i j m n) y = binD P op t c (.el i j m n) y := by cases op <;> rfl
@[go_sem] theorem b2_ro (op : BinOp) (cs : List D) (y : D) : bin2D P op t c (.ro cs) y = binD P op t c (.ro cs) y := by cases op <;> rfl
@[go_sem] theorem b2_sl (op : BinOp) (n : Nat) (es : List (List D)) (y : D) : bin2D P op t c (.sl n es) y = binD P op t c (.sl n es) y := by cases op <;> rfl
@[go_sem] theorem b2_vec (op : BinOp) (i j m n : Nat) (y : D) : bin2D P op t c (.vec i j m n) y = binD P op t c (.vec i j m n) y := by cases op <;> rfl
@[go_sem] theorem b2_fn (op : BinOp) (f : Fn) (as_ bs : List D) (y : D) : bin2D P op t c (.fn f as_ bs) y = binD P op t c (.fn f as_ bs) y := by cases op <;> rfl
@[go_sem] theorem b2_iface (op : BinOp) (u : Nat) (d y : D) : bin2D P op t c (.iface u d) y = binD P op t c (.iface u d) y := by cases op <;> rfl
def aggK (l : Option (List (Nat × Base))) (xs ys : List D) : Option Bool := l.bind fun fs => aggEq fs xs ys
theorem b_eql_sl {sz : Nat} {es : List (List D)} (he : es ≠ []) (hb : baseT P t = .slice) : binD P .eql t true (.sl sz es) .nilsl = some (.bool false) := by
 cases es with
 | nil => exact absurd rfl he
 | cons e es => simp [binD, eqNil, nilD, hb]
@[go_sem] theorem b2_eql_agg (xs ys : List D) : bin2D P .eql t c (.agg xs) (.agg ys) = (aggK (flatEq P t) xs ys).map .bool := by
 show (flatEq P t).bind _ = _
 unfold aggK; cases flatEq P t <;> rfl
@[go_sem] theorem b2_neq_agg (xs ys : List D) : bin2D P .neq t c (.agg xs) (.agg ys) = (aggK (flatEq P t) xs ys).map fun b => .bool (!b) := by
 show (flatEq P t).bind _ = _
 unfold aggK; cases flatEq P t <;> rfl
@[go_sem] theorem aggK_some (fs : List (Nat × Base)) (xs ys : List D) : aggK (some fs) xs ys = aggEq fs xs ys := rfl
@[go_sem] theorem aggEq_nil (xs ys : List D) : aggEq [] xs ys = some true := rfl
def aggC (x y : Option D) (bs : Base) (r : Option Bool) : Option Bool := match x, y with
 | some x, some y => (cellEq bs x y).bind fun c => r.map (c && ·)
 | _, _ => none
@[go_sem] theorem aggEq_cons (o : Nat) (bs : Base) (fs : List (Nat × Base)) (xs ys : List D) : aggEq ((o, bs) :: fs) xs ys = aggC xs[o]? ys[o]? bs (aggEq fs xs ys) := rfl
@[go_sem] theorem aggC_int (k : IntKind) (a b : Int) (r : Option Bool) : aggC (some (.int k a)) (some (.int k b)) .int r = r.map (decide (a = b) && ·) := by
 simp [aggC, cellEq]; rfl
@[go_sem] theorem aggC_str (a b : ByteArray) (r : Option Bool) : aggC (some (.str a)) (some (.str b)) .str r = r.map (decide (B a = B b) && ·) := by
 have : (a.data.toList == b.data.toList) = decide (B a = B b) := by
  unfold B; generalize a.data.toList = x; generalize b.data.toList = y; by_cases h : x = y <;> simp [h]
 simp only [aggC, cellEq, this, Option.bind_some]
def elB (o : Option Obj) (sz lo n : Nat) : Option (List (List D)) := match o with
 | some (.vec sz' es) => if sz = sz' ∧ lo + n ≤ es.length then some ((es.drop lo).take n) else none
 | _ => none
@[go_sem] theorem elB_vec (sz' sz lo n : Nat) (es : List (List D)) : elB (some (.vec sz' es)) sz lo n = if sz = sz' ∧ lo + n ≤ es.length then some ((es.drop lo).take n) else none := rfl
@[go_sem] theorem elems_nil (sz : Nat) : elemsD H sz .nilsl = some [] := rfl
@[go_sem] theorem elems_sl (sz sz' : Nat) (es : List (List D)) : elemsD H sz (.sl sz' es) = if sz = sz' then some es else none := rfl
@[go_sem] theorem elems_str (sz : Nat) (s : ByteArray) : elemsD H sz (.str s) = if sz = 1 then some (bytesE s) else none := rfl
@[go_sem] theorem elems_vec (sz b sz' lo n : Nat) : elemsD H sz (.vec b sz' lo n) = if sz = sz' then elB (H b) sz lo n else none := by
 simp only [elemsD]
 generalize H b = o
 cases o with
 | none => rfl
 | some o => cases o <;> rfl
@[go_sem] theorem setE_nil (es : List (List D)) : setE es [] = some es := rfl
@[go_sem] theorem setE_cons (es : List (List D)) (i : Nat) (d : D) (ps : List (Nat × D)) : setE es ((i, d) :: ps) = if i < es.length ∧ d.cells.length = (es.getD i []).length ∧ d.cells.all D.one = true then setE (es.set i d.cells) ps else none := rfl
def bsC (o : Option (List (List D))) (sz len : Nat) (H : Heap) (KD : D → Heap → Prop) : Prop := match o with
 | some es => ∀ b, H b = none → KD (.vec b sz 0 len) (H.set b (.vec sz es))
 | none => False
@[go_sem] theorem bsC_some (es : List (List D)) (sz len : Nat) : bsC (some es) sz len H KD = ∀ b, H b = none → KD (.vec b sz 0 len) (H.set b (.vec sz es)) := rfl
def bsB (z : Option (List D)) (sz len : Nat) (ps : List (Nat × D)) (H : Heap) (KD : D → Heap → Prop) : Prop := match z with
 | some z => z.length = sz ∧ bsC (setE (List.replicate len z) ps) sz len H KD
 | none => False
@[go_sem] theorem bsB_some (z : List D) (sz len : Nat) (ps : List (Nat × D)) : bsB (some z) sz len ps H KD = (z.length = sz ∧ bsC (setE (List.replicate len z) ps) sz len H KD) := rfl
def bsA (P : Program) (et : Option (Nat × Nat × Nat)) (len : Nat) (ps : List (Nat × D)) (H : Heap) (KD : D → Heap → Prop) : Prop := match et with
 | some (e, sz, _) => 0 < sz ∧ len * sz ≤ 16777216 ∧ bsB (zeroD P e) sz len ps H KD
 | none => False
@[go_sem] theorem bsA_some (e sz by_ len : Nat) (ps : List (Nat × D)) : bsA P (some (e, sz, by_)) len ps H KD = (0 < sz ∧ len * sz ≤ 16777216 ∧ bsB (zeroD P e) sz len ps H KD) := rfl
@[go_sem] theorem s_buildSlice (t len : Nat) (ps : List (Nat × Operand)) : wpOp P ev H KD (.buildSlice t len ps.toArray) = bsA P (elemT P t) len (ps.map fun p => (p.1, ev p.2)) H KD := by
 show (∃ e sz by_ z es, elemT P t = some (e, sz, by_) ∧ 0 < sz ∧ len * sz ≤ 16777216 ∧ zeroD P e = some z ∧ z.length = sz ∧ setE (List.replicate len z) (ps.map fun p => (p.1, ev p.2)) = some es ∧ _) = _
 apply propext
 constructor
 ·rintro ⟨e, sz, by_, z, es, h1, h2, h3, h4, h5, h6, h7⟩
  rw [h1]
  refine ⟨h2, h3, ?_⟩
  rw [h4]
  refine ⟨h5, ?_⟩
  rw [h6]
  exact h7
 ·intro h
  cases he : elemT P t with
  | none => rw [he] at h; exact h.elim
  | some e =>
   obtain ⟨e, sz, by_⟩ := e
   rw [he] at h
   obtain ⟨h2, h3, h⟩ := h
   cases hz : zeroD P e with
   | none => rw [hz] at h; exact h.elim
   | some z =>
    rw [hz] at h
    obtain ⟨h5, h⟩ := h
    cases hs : setE (List.replicate len z) (ps.map fun p => (p.1, ev p.2)) with
    | none => rw [hs] at h; exact h.elim
    | some es => rw [hs] at h; exact ⟨e, sz, by_, z, es, rfl, h2, h3, hz, h5, hs, h⟩
def apV (o : Option Obj) (b sz n by_ : Nat) (xs : List (List D)) (H : Heap) (KD : D → Heap → Prop) : Prop := match o with
 | some (.vec sz' es) => sz = sz' ∧ n ≤ es.length ∧ (n + xs.length) * by_ ≤ 140737488355328 ∧ n + xs.length ≤ 9223372036854775807 ∧ ∀ b', H.del b b' = none → KD (.vec b' sz 0 (n + xs.length)) ((H.del b).set b' (.vec sz (es.take n ++ xs)))
 | _ => False
@[go_sem] theorem apV_vec (b sz sz' n by_ : Nat) (es xs : List (List D)) : apV (some (.vec sz' es)) b sz n by_ xs H KD = (sz = sz' ∧ n ≤ es.length ∧ (n + xs.length) * by_ ≤ 140737488355328 ∧ n + xs.length ≤ 9223372036854775807 ∧ ∀ b', H.del b b' = none → KD (.vec b' sz 0 (n + xs.length)) ((H.del b).set b' (.vec sz (es.take n ++ xs)))) := rfl
def apW (o : Option Obj) (b sz lo n by_ : Nat) (xs : List (List D)) (H : Heap) (KD : D → Heap → Prop) : Prop := match o with
 | some (.vec sz' es) => sz = sz' ∧ lo + n ≤ es.length ∧ (n + xs.length) * by_ ≤ 140737488355328 ∧ n + xs.length ≤ 9223372036854775807 ∧ ∀ b' pre, H.del b b' = none → KD (.vec b' sz pre.length (n + xs.length)) ((H.del b).set b' (.vec sz (pre ++ ((es.drop lo).take n ++ xs))))
 | _ => False
@[go_sem] theorem apW_vec (b sz sz' lo n by_ : Nat) (es xs : List (List D)) : apW (some (.vec sz' es)) b sz lo n by_ xs H KD = (sz = sz' ∧ lo + n ≤ es.length ∧ (n + xs.length) * by_ ≤ 140737488355328 ∧ n + xs.length ≤ 9223372036854775807 ∧ ∀ b' pre, H.del b b' = none → KD (.vec b' sz pre.length (n + xs.length)) ((H.del b).set b' (.vec sz (pre ++ ((es.drop lo).take n ++ xs))))) := rfl
def apL (lo : Nat) (o : Option Obj) (b sz n by_ : Nat) (xs : List (List D)) (H : Heap) (KD : D → Heap → Prop) : Prop := (lo = 0 ∧ apV o b sz n by_ xs H KD) ∨ apW o b sz lo n by_ xs H KD
@[go_sem] theorem apL_z (o : Option Obj) (b sz n by_ : Nat) (xs : List (List D)) : apL 0 o b sz n by_ xs H KD = apV o b sz n by_ xs H KD := by
 refine propext ⟨fun h => ?_, fun h => .inl ⟨rfl, h⟩⟩
 rcases h with h | h
 ·exact h.2
 ·unfold apW at h
  split at h
  ·obtain ⟨h1, h2, h3, h4, h5⟩ := h
   exact ⟨h1, by omega, h3, h4, fun b' hb' => by simpa using h5 b' [] hb'⟩
  ·exact h.elim
def apS (s : D) (sz by_ : Nat) (xs : List (List D)) (H : Heap) (KD : D → Heap → Prop) : Prop := match s with
 | .nilsl => xs.length * by_ ≤ 140737488355328 ∧ xs.length ≤ 9223372036854775807 ∧ (xs = [] → KD .nilsl H) ∧ (xs ≠ [] → ∀ b, H b = none → KD (.vec b sz 0 xs.length) (H.set b (.vec sz xs)))
 | .vec b sz' lo n => sz' = sz ∧ apL lo (H b) b sz n by_ xs H KD
 | _ => False
@[go_sem] theorem apS_nil (sz by_ : Nat) (xs : List (List D)) : apS .nilsl sz by_ xs H KD = (xs.length * by_ ≤ 140737488355328 ∧ xs.length ≤ 9223372036854775807 ∧ (xs = [] → KD .nilsl H) ∧ (xs ≠ [] → ∀ b, H b = none → KD (.vec b sz 0 xs.length) (H.set b (.vec sz xs)))) := rfl
@[go_sem] theorem apS_vec (b sz sz' lo n by_ : Nat) (xs : List (List D)) : apS (.vec b sz' lo n) sz by_ xs H KD = (sz' = sz ∧ apL lo (H b) b sz n by_ xs H KD) := rfl
def apX (o : Option (List (List D))) (s : D) (sz by_ : Nat) (H : Heap) (KD : D → Heap → Prop) : Prop := match o with
 | some xs => apS s sz by_ xs H KD
 | none => False
@[go_sem] theorem apX_some (xs : List (List D)) (s : D) (sz by_ : Nat) : apX (some xs) s sz by_ H KD = apS s sz by_ xs H KD := rfl
def apZ (o : Option (List D)) (sz : Nat) : Prop := match o with
 | some z => z.length = sz
 | none => False
@[go_sem] theorem apZ_some (z : List D) (sz : Nat) : apZ (some z) sz = (z.length = sz) := rfl
def apT (b : Base) : Prop := b = .slice ∨ b = .str
@[go_sem] theorem apT_slice : apT .slice = True := by simp [apT]
def apK (P : Program) (et : Option (Nat × Nat × Nat)) (bt : Base) (s x : D) (H : Heap) (KD : D → Heap → Prop) : Prop := match et with
 | some (e, sz, by_) => 0 < sz ∧ apT bt ∧ apZ (zeroD P e) sz ∧ apX (elemsD H sz x) s sz by_ H KD
 | none => False
@[go_sem] theorem apK_some (e sz by_ : Nat) (bt : Base) (s x : D) : apK P (some (e, sz, by_)) bt s x H KD = (0 < sz ∧ apT bt ∧ apZ (zeroD P e) sz ∧ apX (elemsD H sz x) s sz by_ H KD) := rfl
@[go_sem] theorem s_append_ (s x : Operand) (t t' : Nat) : appendA P ev H KD t t' s x = apK P (elemT P t) (baseT P t') (ev s) (ev x) H KD := by
 unfold appendA
 apply propext
 constructor
 ·rintro ⟨e, sz, by_, h1, h2, h3, h4, xs, h5, h6⟩
  rw [h1]
  refine ⟨h2, h3, ?_, ?_⟩
  ·cases hz : zeroD P e with
   | none => rw [hz] at h4; cases h4
   | some z => rw [hz] at h4; simpa [apZ] using h4
  ·rw [h5]
   show apS _ _ _ _ _ _
   cases hs : ev s <;> rw [hs] at h6 <;> try exact h6.elim
   ·exact h6
   ·obtain ⟨h7, ⟨h8, es, h9, h10⟩ | ⟨es, h9, h10⟩⟩ := h6
    ·refine ⟨h7, .inl ⟨h8, ?_⟩⟩
     rw [h9]
     exact ⟨rfl, h10⟩
    ·refine ⟨h7, .inr ?_⟩
     rw [h9]
     exact ⟨rfl, h10⟩
 ·intro h
  cases he : elemT P t with
  | none => rw [he] at h; exact h.elim
  | some e =>
   obtain ⟨e, sz, by_⟩ := e
   rw [he] at h
   obtain ⟨h2, h3, h4, h5⟩ := h
   cases hx : elemsD H sz (ev x) with
   | none => rw [hx] at h5; exact h5.elim
   | some xs =>
    rw [hx] at h5
    refine ⟨e, sz, by_, rfl, h2, h3, ?_, xs, hx, ?_⟩
    ·cases hz : zeroD P e with
     | none => rw [hz] at h4; exact h4.elim
     | some z => rw [hz] at h4; simpa [apZ] using h4
    ·change apS _ _ _ _ _ _ at h5
     cases hs : ev s <;> rw [hs] at h5 <;> try exact h5.elim
     ·exact h5
     ·rename_i b sz' lo n
      obtain ⟨h7, ⟨h8, h9⟩ | h9⟩ := h5
      ·refine ⟨h7, .inl ⟨h8, ?_⟩⟩
       cases ho : H b with
       | none => rw [ho] at h9; exact h9.elim
       | some o =>
        rw [ho] at h9
        cases o with
        | vec sz2 es => obtain ⟨rfl, h10⟩ := h9; exact ⟨es, rfl, h10⟩
        | _ => exact h9.elim
      ·refine ⟨h7, .inr ?_⟩
       cases ho : H b with
       | none => rw [ho] at h9; exact h9.elim
       | some o =>
        rw [ho] at h9
        cases o with
        | vec sz2 es => obtain ⟨rfl, h10⟩ := h9; exact ⟨es, rfl, h10⟩
        | _ => exact h9.elim
def msC (z : Option (List D)) (sz by_ : Nat) (l c : D) (H : Heap) (KD : D → Heap → Prop) : Prop := match z, l, c with
 | some z, .int _ n, .int _ m => z.length = sz ∧ 0 ≤ n ∧ n ≤ m ∧ by_ * m ≤ 281474976710656 ∧ m < 9223372036854775808 ∧ ∀ b, H b = none → KD (.vec b sz 0 n.toNat) (H.set b (.vec sz (List.replicate n.toNat z)))
 | _, _, _ => False
@[go_sem] theorem msC_int (z : List D) (sz by_ : Nat) (k k' : IntKind) (n m : Int) : msC (some z) sz by_ (.int k n) (.int k' m) H KD = (z.length = sz ∧ 0 ≤ n ∧ n ≤ m ∧ by_ * m ≤ 281474976710656 ∧ m < 9223372036854775808 ∧ ∀ b, H b = none → KD (.vec b sz 0 n.toNat) (H.set b (.vec sz (List.replicate n.toNat z)))) := rfl
def msA (P : Program) (et : Option (Nat × Nat × Nat)) (l c : D) (H : Heap) (KD : D → Heap → Prop) : Prop := match et with
 | some (e, sz, by_) => 0 < sz ∧ msC (zeroD P e) sz by_ l c H KD
 | none => False
@[go_sem] theorem msA_some (e sz by_ : Nat) (l c : D) : msA P (some (e, sz, by_)) l c H KD = (0 < sz ∧ msC (zeroD P e) sz by_ l c H KD) := rfl
@[go_sem] theorem s_makeSlice (t : Nat) (l c : Operand) : wpOp P ev H KD (.makeSlice t l c) = msA P (elemT P t) (ev l) (ev c) H KD := by
 simp only [wpOp]
 apply propext
 constructor
 ·rintro ⟨e, sz, by_, z, k, n, k', m, h1, h2, h3, h4, h5, h6, h7⟩
  rw [h1, h5, h6]
  refine ⟨h2, ?_⟩
  rw [h3]
  exact ⟨h4, h7⟩
 ·intro h
  cases he : elemT P t with
  | none => rw [he] at h; exact h.elim
  | some e =>
   obtain ⟨e, sz, by_⟩ := e
   rw [he] at h
   obtain ⟨h2, h3⟩ := h
   cases hz : zeroD P e with
   | none => rw [hz] at h3; exact h3.elim
   | some z =>
    rw [hz] at h3
    cases hl : ev l <;> rw [hl] at h3 <;> try exact h3.elim
    cases hc : ev c <;> rw [hc] at h3 <;> try exact h3.elim
    exact ⟨e, sz, by_, z, _, _, _, _, rfl, h2, hz, h3.1, rfl, rfl, h3.2⟩
def intT (P : Program) (t : Nat) : Option IntKind := match P.underlying t with
 | some (.int k) => some k
 | _ => none
def bytesT (P : Program) (t : Nat) : Bool := match P.underlying t with
 | some (.slice e) => match P.underlying e with
  | some (.int .u8) => true
  | _ => false
 | _ => false
def cvI (d : D) (k : Option IntKind) (H : Heap) (KD : D → Heap → Prop) : Prop := match d, k with
 | .int _ n, some k => KD (.int k (k.wrap n)) H
 | _, _ => False
@[go_sem] theorem cvI_int (k k' : IntKind) (n : Int) : cvI (.int k n) (some k') H KD = KD (.int k' (k'.wrap n)) H := rfl
@[go_sem] theorem s_conv_ii (s t : Nat) (x : Operand) (h1 : (intT P s).isSome = true) (h2 : (intT P t).isSome = true) : wpOp P ev H KD (.convert s t x) = cvI (ev x) (intT P t) H KD := by
 unfold intT at h1 h2
 split at h1
 ·rename_i k1 e1
  split at h2
  ·rename_i k2 e2
   have hc : cls P (.convert s t x) = .pure := by simp [cls, e1, e2]
   simp only [wpOp, hc, pureD]
   unfold cvI intT
   rw [e2]
   cases hx : ev x <;> simp [convD, e1, e2, hx, base_of_int e1]
  ·cases h2
 ·cases h1
def cvIS (d : D) (H : Heap) (KD : D → Heap → Prop) : Prop := match d with
 | .int _ n => KD (.str (Utf8.encode n)) H
 | _ => False
@[go_sem] theorem cvIS_int (k : IntKind) (n : Int) : cvIS (.int k n) H KD = KD (.str (Utf8.encode n)) H := rfl
def cvSB (d : D) (H : Heap) (KD : D → Heap → Prop) : Prop := match d with
 | .str z => ∀ b, H b = none → KD (.vec b 1 0 z.size) (H.set b (.vec 1 (bytesE z)))
 | _ => False
@[go_sem] theorem cvSB_str (z : ByteArray) : cvSB (.str z) H KD = ∀ b, H b = none → KD (.vec b 1 0 z.size) (H.set b (.vec 1 (bytesE z))) := rfl
theorem s_conv_sb (s t : Nat) (x : Operand) (h1 : baseT P s = .str) (h2 : bytesT P t = true) (h : cvSB (ev x) H KD) : wpOp P ev H KD (.convert s t x) := by
 obtain ⟨e, hu, he⟩ : ∃ e, P.underlying t = some (.slice e) ∧ P.underlying e = some (.int .u8) := by
  unfold bytesT at h2
  split at h2
  ·rename_i e hu
   split at h2
   ·rename_i he; exact ⟨e, hu, he⟩
   ·cases h2
  ·cases h2
 have hs : P.underlying s = some .string := by
  unfold baseT at h1
  split at h1 <;> simp_all
 have hc : cls P (.convert s t x) = .eff := by simp [cls, hs, hu]
 simp only [wpOp, hc, convA]
 cases hx : ev x <;> rw [hx] at h <;> try exact h.elim
 exact ⟨h1, by simp [hu, he], h⟩
def rangeA (P : Program) (t : Nat) (x : D) (H : Heap) (KD : D → Heap → Prop) : Prop := match x with
 | .str s => P.underlying t = some .string ∧ ∀ b, H b = none → KD (.box b 0) (H.set b (.iter s 0))
 | _ => False
@[go_sem] theorem s_range (t : Nat) (x : Operand) : wpOp P ev H KD (.range t x) = rangeA P t (ev x) H KD := by
 show (match ev x with | _ => _) = _
 unfold rangeA; rfl
@[go_sem] theorem rangeA_str (t : Nat) (s : ByteArray) : rangeA P t (.str s) H KD = (P.underlying t = some .string ∧ ∀ b, H b = none → KD (.box b 0) (H.set b (.iter s 0))) := rfl
def nextB (o : Option Obj) (b : Nat) (H : Heap) (KD : D → Heap → Prop) : Prop := match o with
 | some (.iter s pos) => (pos < s.size → KD (.tuple [.bool true, .int .i64 pos, .int .i32 (Utf8.decode s pos).1]) (H.set b (.iter s (pos + (Utf8.decode s pos).2)))) ∧ (¬ pos < s.size → KD (.tuple [.bool false]) H)
 | _ => False
def nextA (x : D) (H : Heap) (KD : D → Heap → Prop) : Prop := match x with
 | .box b 0 => nextB (H b) b H KD
 | _ => False
@[go_sem] theorem s_next (x : Operand) : wpOp P ev H KD (.next x true) = nextA (ev x) H KD := by
 show (match ev x, true with | .box b 0, true => _ | _, _ => False) = _
 unfold nextA nextB
 cases ev x <;> try rfl
 rename_i b off
 cases off <;> rfl
@[go_sem] theorem nextA_box (b : Nat) : nextA (.box b 0) H KD = nextB (H b) b H KD := rfl
@[go_sem] theorem nextB_iter (s : ByteArray) (pos b : Nat) : nextB (some (.iter s pos)) b H KD = ((pos < s.size → KD (.tuple [.bool true, .int .i64 pos, .int .i32 (Utf8.decode s pos).1]) (H.set b (.iter s (pos + (Utf8.decode s pos).2)))) ∧ (¬ pos < s.size → KD (.tuple [.bool false]) H)) := rfl
variable {t : Nat}
@[go_sem] theorem heap_same (b : Nat) (o : Obj) : (H.set b o) b = some o := by simp [Heap.set]
theorem heap_ne_ {b k : Nat} (o : Obj) (h : k ≠ b) : (H.set b o) k = H k := by simp [Heap.set, h]
@[go_sem] theorem heap_set_set (b : Nat) (o o' : Obj) : (H.set b o).set b o' = H.set b o' := by
 funext k; unfold Heap.set; split <;> rfl
theorem heap_set_le {b : Nat} {o : Obj} (h : H b = some o) : (H.set b o).Le H := fun k x hx => by
 unfold Heap.set at hx
 split at hx
 ·rename_i e; rw [e, h]; exact hx
 ·exact hx
theorem set_none {b k : Nat} {o : Obj} : (H.set b o) k = none ↔ k ≠ b ∧ H k = none := by unfold Heap.set; by_cases h : k = b <;> simp [h]
theorem del_ne {b k : Nat} (h : k ≠ b) : (H.del b) k = H k := by simp [Heap.del, h]
theorem heap_le_set {b : Nat} {o : Obj} (h : H b = none) : H.Le (H.set b o) := fun k x hx => by
 rw [heap_ne_ o (by rintro rfl; rw [h] at hx; cases hx)]; exact hx
theorem heap_ne {b k : Nat} (o : Obj) (h : k ≠ b) : (H.set b o) k = H k := by simp [Heap.set, h]
def loadK : Option (Bool × Nat) → Option (List D) → Option D
 | some s, some cs => takeD s cs
 | _, _ => none
@[go_sem] theorem load_def (a : D) : loadD P t a H = loadK (shapeT P t) (locD H a) := by
 unfold loadD loadK
 cases shapeT P t <;> simp
 cases locD H a <;> rfl
@[go_sem] theorem loadK_some (s : Bool × Nat) (cs : List D) : loadK (some s) (some cs) = takeD s cs := rfl
def locB : Option Obj → Nat → Option (List D)
 | some (.box cs _), off => some (cs.drop off)
 | _, _ => none
def locE : Option Obj → Nat → Nat → Nat → Option (List D)
 | some (.vec sz' es), sz, i, off => if sz = sz' then (es[i]?).map (·.drop off) else none
 | _, _, _, _ => none
@[go_sem] theorem loc_box (b off : Nat) : locD H (.box b off) = locB (H b) off := by
 simp only [locD]
 generalize H b = o
 cases o with
 | none => rfl
 | some o => cases o <;> rfl
@[go_sem] theorem loc_el (b sz i off : Nat) : locD H (.el b sz i off) = locE (H b) sz i off := by
 simp only [locD]
 generalize H b = o
 cases o with
 | none => rfl
 | some o => cases o <;> rfl
def locG : Option Obj → Option (List D)
 | some (.ro cs) => some cs
 | _ => none
@[go_sem] theorem loc_glob (g : Nat) : locD H (.glob g) = locG (H g) := by
 simp only [locD]
 generalize H g = o
 cases o with
 | none => rfl
 | some o => cases o <;> rfl
@[go_sem] theorem locG_ro (cs : List D) : locG (some (.ro cs)) = some cs := rfl
@[go_sem] theorem loc_ro (cs : List D) : locD H (.ro cs) = some cs := rfl
@[go_sem] theorem locB_box (cs : List D) (Z : Option TypeId) (off : Nat) : locB (some (.box cs Z)) off = some (cs.drop off) := rfl
@[go_sem] theorem locE_vec (sz sz' i off : Nat) (es : List (List D)) : locE (some (.vec sz' es)) sz i off = if sz = sz' then (es[i]?).map (·.drop off) else none := rfl
@[go_sem] theorem take_val (n : Nat) (cs : List D) : takeD (false, n) cs = cs.head? := rfl
@[go_sem] theorem take_agg (n : Nat) (cs : List D) : takeD (true, n) cs = if n ≤ cs.length then some (.agg (cs.take n)) else none := rfl
def storeB : Option (Bool × Nat) → Option Obj → Nat → Nat → List D → Heap → Option Heap
 | some (_, n), some (.box cs Z), b, off, xs, H => if n = xs.length ∧ xs.all D.one = true ∧ off + xs.length ≤ cs.length then some (H.set b (.box (putAt cs off xs) Z)) else none
 | _, _, _, _, _, _ => none
def storeE : Option (Bool × Nat) → Option Obj → Nat → Nat → Nat → Nat → List D → Heap → Option Heap
 | some (_, n), some (.vec sz' es), b, sz, i, off, xs, H => if n = xs.length ∧ xs.all D.one = true ∧ sz = sz' ∧ i < es.length ∧ off + xs.length ≤ sz then some (H.set b (.vec sz (es.set i (putAt (es.getD i []) off xs)))) else none
 | _, _, _, _, _, _, _, _ => none
@[go_sem] theorem store_box (b off : Nat) (x : D) : storeD P t (.box b off) x H = storeB (shapeT P t) (H b) b off x.cells H := by
 unfold storeD
 cases hs : shapeT P t with
 | none => simp [storeB]
 | some s =>
  obtain ⟨bb, n⟩ := s
  cases hb : H b with
  | none => simp [storeB, hb]
  | some o => cases o with
   | box cs =>
    simp only [Option.map_some, Option.some.injEq, storeB, hb]
    by_cases h1 : n = x.cells.length <;> by_cases h2 : x.cells.all D.one = true <;> by_cases h3 : off + x.cells.length ≤ cs.length <;> simp only [h1, h2, h3] <;> simp
   | _ => simp [storeB, hb]
@[go_sem] theorem store_el (b sz i off : Nat) (x : D) : storeD P t (.el b sz i off) x H = storeE (shapeT P t) (H b) b sz i off x.cells H := by
 unfold storeD
 cases hs : shapeT P t with
 | none => simp [storeE]
 | some s =>
  obtain ⟨bb, n⟩ := s
  cases hb : H b with
  | none => simp [storeE, hb]
  | some o => cases o with
   | box cs => simp [storeE, hb]
   | ro cs => simp [storeE, hb]
   | iter => simp [storeE, hb]
   | map => simp [storeE, hb]
   | buf => simp [storeE, hb]
   | vec sz' es =>
    simp only [Option.map_some, Option.some.injEq, storeE, hb]
    by_cases h1 : n = x.cells.length <;> by_cases h2 : x.cells.all D.one = true <;> simp only [h1, h2] <;> simp
@[go_sem] theorem storeB_box (bb : Bool) (n b off : Nat) (cs xs : List D) (Z : Option TypeId) : storeB (some (bb, n)) (some (.box cs Z)) b off xs H = if n = xs.length ∧ xs.all D.one = true ∧ off + xs.length ≤ cs.length then some (H.set b (.box (putAt cs off xs) Z)) else none := rfl
@[go_sem] theorem storeE_vec (bb : Bool) (n b sz sz' i off : Nat) (es : List (List D)) (xs : List D) : storeE (some (bb, n)) (some (.vec sz' es)) b sz i off xs H = if n = xs.length ∧ xs.all D.one = true ∧ sz = sz' ∧ i < es.length ∧ off + xs.length ≤ sz then some (H.set b (.vec sz (es.set i (putAt (es.getD i []) off xs)))) else none := rfl
@[go_sem] theorem putAt_nil (cs : List D) (i : Nat) : putAt cs i [] = cs := by cases cs <;> rfl
@[go_sem] theorem putAt_cons (cs xs : List D) (i : Nat) (x : D) : putAt cs i (x :: xs) = putAt (cs.set i x) (i + 1) xs := by cases cs <;> rfl
@[go_sem] theorem cells_agg (cs : List D) : (D.agg cs).cells = cs := rfl
@[go_sem] theorem cells_int (k : IntKind) (n : Int) : (D.int k n).cells = [.int k n] := rfl
@[go_sem] theorem cells_bool (b : Bool) : (D.bool b).cells = [.bool b] := rfl
@[go_sem] theorem cells_str (s : ByteArray) : (D.str s).cells = [.str s] := rfl
@[go_sem] theorem cells_nilsl : D.nilsl.cells = [.nilsl] := rfl
@[go_sem] theorem cells_sl (sz : Nat) (es : List (List D)) : (D.sl sz es).cells = [.sl sz es] := rfl
@[go_sem] theorem cells_vec (b sz lo n : Nat) : (D.vec b sz lo n).cells = [.vec b sz lo n] := rfl
@[go_sem] theorem cells_box (b o : Nat) : (D.box b o).cells = [.box b o] := rfl
@[go_sem] theorem cells_el (b s i o : Nat) : (D.el b s i o).cells = [.el b s i o] := rfl
@[go_sem] theorem cells_ro (cs : List D) : (D.ro cs).cells = [.ro cs] := rfl
@[go_sem] theorem cells_map (b : Nat) : (D.map b).cells = [.map b] := rfl
@[go_sem] theorem cells_nilmap : D.nilmap.cells = [.nilmap] := rfl
@[go_sem] theorem cells_glob (g : Nat) : (D.glob g).cells = [.glob g] := rfl
@[go_sem] theorem cells_nilp : D.nilp.cells = [.nilp] := rfl
@[go_sem] theorem cells_nilif : D.nilif.cells = [.nilif] := rfl
@[go_sem] theorem cells_nilfn : D.nilfn.cells = [.nilfn] := rfl
@[go_sem] theorem cells_fn (f : Fn) (a b : List D) : (D.fn f a b).cells = [.fn f a b] := rfl
@[go_sem] theorem cells_iface (t : Nat) (d : D) : (D.iface t d).cells = [.iface t d] := rfl
attribute [go_sem] D.one
def sliceK (e : Option (Nat × Nat × Nat)) (sz : Nat) (o : Option D) : Option D := match e with
 | some (_, sz', _) => if sz' = sz then o else none
 | none => none
@[go_sem] theorem sliceK_some (e sz' by_ sz : Nat) (o : Option D) : sliceK (some (e, sz', by_)) sz o = if sz' = sz then o else none := rfl
def sliceB (x : D) : Option (Nat × Nat) → Option D
 | none => none
 | some (l, h) => match x with
  | .str s => some (.str (s.extract l h))
  | .nilsl => some .nilsl
  | .sl sz es => some (.sl sz ((es.take h).drop l))
  | .vec b sz lo _ => some (if l = 0 then .vec b sz lo h else .vec b sz (lo + l) (h - l))
  | _ => none
def sliceO (x : D) (b : Option (Nat × Nat)) : Option D := sliceB x b
theorem sliceO_ite_ (x : D) (c : Prop) [Decidable c] (b : Option (Nat × Nat)) : sliceO x (if c then b else none) = if c then sliceO x b else none := by split <;> rfl
theorem bd_ln_ (n : Nat) (k : IntKind) (l : Int) : boundsD n (some (.int k l)) none = if 0 ≤ l ∧ l ≤ n then some (l.toNat, n) else none := rfl
theorem bd_nh_ (n : Nat) (k : IntKind) (h : Int) : boundsD n none (some (.int k h)) = if 0 ≤ h ∧ h ≤ n then some (0, h.toNat) else none := rfl
theorem bd_lh_ (n : Nat) (k k' : IntKind) (l h : Int) : boundsD n (some (.int k l)) (some (.int k' h)) = if 0 ≤ l ∧ l ≤ h ∧ h ≤ n then some (l.toNat, h.toNat) else none := rfl
theorem slice_str (s : ByteArray) (lo hi : Option D) : sliceD P t (.str s) lo hi = if baseT P t = .str then sliceO (.str s) (boundsD s.size lo hi) else none := by
 simp only [sliceD, sliceO]
 generalize boundsD s.size lo hi = o
 cases o <;> rfl
def strK (b : Base) (o : Option D) : Option D := if b = .str then o else none
@[go_sem] theorem strK_str (o : Option D) : strK .str o = o := rfl
@[go_sem] theorem slice_str_nn (s : ByteArray) : sliceD P t (.str s) none none = strK (baseT P t) (some (.str s)) := by
 rw [slice_str]; unfold strK
 have : s.extract 0 s.size = s := by rw [extract_S, ← B_len, List.take_length, List.drop_zero, S_B]
 split
 ·show some (D.str (s.extract 0 s.size)) = _
  rw [this]
 ·rfl
@[go_sem] theorem slice_str_ln (s : ByteArray) (k : IntKind) (l : Int) : sliceD P t (.str s) (some (.int k l)) none = strK (baseT P t) (if 0 ≤ l ∧ l ≤ s.size then some (.str (S ((B s).drop l.toNat))) else none) := by
 rw [slice_str]; unfold strK
 have : s.extract l.toNat s.size = S ((B s).drop l.toNat) := by rw [extract_S, ← B_len, List.take_length]
 rw [bd_ln_, sliceO_ite_]
 split
 ·split
  ·show some (D.str (s.extract l.toNat s.size)) = _
   rw [this]
  ·rfl
 ·rfl
@[go_sem] theorem slice_str_nh (s : ByteArray) (k : IntKind) (h : Int) : sliceD P t (.str s) none (some (.int k h)) = strK (baseT P t) (if 0 ≤ h ∧ h ≤ s.size then some (.str (S ((B s).take h.toNat))) else none) := by
 rw [slice_str]; unfold strK
 have : s.extract 0 h.toNat = S ((B s).take h.toNat) := by rw [extract_S, List.drop_zero]
 rw [bd_nh_, sliceO_ite_]
 split
 ·split
  ·show some (D.str (s.extract 0 h.toNat)) = _
   rw [this]
  ·rfl
 ·rfl
@[go_sem] theorem slice_str_lh (s : ByteArray) (k k' : IntKind) (l h : Int) : sliceD P t (.str s) (some (.int k l)) (some (.int k' h)) = strK (baseT P t) (if 0 ≤ l ∧ l ≤ h ∧ h ≤ s.size then some (.str (S (((B s).take h.toNat).drop l.toNat))) else none) := by
 rw [slice_str]; unfold strK
 rw [bd_lh_, sliceO_ite_]
 split
 ·split
  ·show some (D.str (s.extract l.toNat h.toNat)) = _
   rw [extract_S]
  ·rfl
 ·rfl
@[go_sem] theorem slice_nil (lo hi : Option D) : sliceD P t .nilsl lo hi = if (elemT P t).isSome then sliceO .nilsl (boundsD 0 lo hi) else none := by
 simp only [sliceD, sliceO]
 generalize boundsD 0 lo hi = o
 cases o <;> rfl
@[go_sem] theorem slice_sl (sz : Nat) (es : List (List D)) (lo hi : Option D) : sliceD P t (.sl sz es) lo hi = sliceK (elemT P t) sz (sliceO (.sl sz es) (boundsD es.length lo hi)) := by
 simp only [sliceD, sliceO]
 generalize boundsD es.length lo hi = o
 cases elemT P t with
 | none => simp [sliceK]
 | some e => cases o <;> simp [sliceB, sliceK]
@[go_sem] theorem slice_vec (b sz l n : Nat) (lo hi : Option D) : sliceD P t (.vec b sz l n) lo hi = sliceK (elemT P t) sz (sliceO (.vec b sz l n) (boundsD n lo hi)) := by
 simp only [sliceD, sliceO]
 generalize boundsD n lo hi = o
 cases elemT P t with
 | none => simp [sliceK]
 | some e => cases o <;> simp [sliceB, sliceK]
@[go_sem] theorem sliceO_some (x : D) (l h : Nat) : sliceO x (some (l, h)) = sliceB x (some (l, h)) := rfl
@[go_sem] theorem sliceO_ite (x : D) (c : Prop) [Decidable c] (b : Option (Nat × Nat)) : sliceO x (if c then b else none) = if c then sliceO x b else none := by split <;> rfl
@[go_sem] theorem sliceB_str (s : ByteArray) (l h : Nat) : sliceB (.str s) (some (l, h)) = some (.str (s.extract l h)) := rfl
@[go_sem] theorem sliceB_nil (l h : Nat) : sliceB .nilsl (some (l, h)) = some .nilsl := rfl
@[go_sem] theorem sliceB_sl (sz l h : Nat) (es : List (List D)) : sliceB (.sl sz es) (some (l, h)) = some (.sl sz ((es.take h).drop l)) := rfl
@[go_sem] theorem sliceB_vec (b sz lo n l h : Nat) : sliceB (.vec b sz lo n) (some (l, h)) = some (if l = 0 then .vec b sz lo h else .vec b sz (lo + l) (h - l)) := rfl
@[go_sem] theorem bd_nn (n : Nat) : boundsD n none none = some (0, n) := rfl
@[go_sem] theorem bd_ln (n : Nat) (k : IntKind) (l : Int) : boundsD n (some (.int k l)) none = if 0 ≤ l ∧ l ≤ n then some (l.toNat, n) else none := rfl
@[go_sem] theorem bd_nh (n : Nat) (k : IntKind) (h : Int) : boundsD n none (some (.int k h)) = if 0 ≤ h ∧ h ≤ n then some (0, h.toNat) else none := rfl
@[go_sem] theorem bd_lh (n : Nat) (k k' : IntKind) (l h : Int) : boundsD n (some (.int k l)) (some (.int k' h)) = if 0 ≤ l ∧ l ≤ h ∧ h ≤ n then some (l.toNat, h.toNat) else none := rfl
@[go_sem] theorem len_str (s : ByteArray) : lenD P t (.str s) = if baseT P t = .str then some (.int .i64 s.size) else none := rfl
@[go_sem] theorem len_nil : lenD P t .nilsl = if baseT P t = .slice then some (.int .i64 0) else none := rfl
@[go_sem] theorem len_sl (sz : Nat) (es : List (List D)) : lenD P t (.sl sz es) = if baseT P t = .slice then some (.int .i64 es.length) else none := rfl
@[go_sem] theorem len_vec (b sz lo n : Nat) : lenD P t (.vec b sz lo n) = if baseT P t = .slice then some (.int .i64 n) else none := rfl
@[go_sem] theorem ix_str (s : ByteArray) (k : IntKind) (n : Int) : indexD P t (.str s) (.int k n) = if baseT P t = .str ∧ 0 ≤ n ∧ n < s.size then some (.int .u8 (at8 s n)) else none := rfl
@[go_sem] theorem ia_sl (sz : Nat) (es : List (List D)) (k : IntKind) (n : Int) : indexAddrD P t (.sl sz es) (.int k n) = sliceK (elemT P t) sz (if 0 ≤ n ∧ n < es.length then some (.ro (es.getD n.toNat [])) else none) := by
 unfold indexAddrD sliceK
 cases elemT P t with
 | none => simp
 | some e => obtain ⟨a, b, c⟩ := e; by_cases h : b = sz <;> simp [h]
@[go_sem] theorem ia_vec (b sz l m : Nat) (k : IntKind) (n : Int) : indexAddrD P t (.vec b sz l m) (.int k n) = sliceK (elemT P t) sz (if 0 ≤ n ∧ n < m then some (.el b sz (l + n.toNat) 0) else none) := by
 unfold indexAddrD sliceK
 cases elemT P t with
 | none => simp
 | some e => obtain ⟨a, b', c⟩ := e; by_cases h : b' = sz <;> simp [h]
def fieldK (f : Option (Nat × Bool × Nat)) (x : D) : Option D := match f with
 | some (o, _, n) => if n = 0 then none else match x with
  | .box b off => some (.box b (off + o))
  | .el b sz i off => some (.el b sz i (off + o))
  | .ro cs => some (.ro (cs.drop o))
  | _ => none
 | none => none
def fieldsK (l : Option (List (Nat × Bool × Nat))) (f : Nat) : Option (Nat × Bool × Nat) := match l with
 | some l => l[f]?
 | none => none
@[go_sem] theorem fieldsK_some (l : List (Nat × Bool × Nat)) (f : Nat) : fieldsK (some l) f = l[f]? := rfl
@[go_sem] theorem fa_def (x : D) (f : Nat) : fieldAddrD P t x f = fieldK (fieldsK (fieldsT P t) f) x := by
 unfold fieldAddrD fieldK fieldsK
 cases fieldsT P t <;> rfl
@[go_sem] theorem fieldK_box (o n b off : Nat) (bb : Bool) : fieldK (some (o, bb, n)) (.box b off) = if n = 0 then none else some (.box b (off + o)) := rfl
@[go_sem] theorem fieldK_el (o n b sz i off : Nat) (bb : Bool) : fieldK (some (o, bb, n)) (.el b sz i off) = if n = 0 then none else some (.el b sz i (off + o)) := rfl
@[go_sem] theorem fieldK_ro (o n : Nat) (bb : Bool) (cs : List D) : fieldK (some (o, bb, n)) (.ro cs) = if n = 0 then none else some (.ro (cs.drop o)) := rfl
def partK (f : Option (Nat × Bool × Nat)) (x : D) : Option D := match f, x with
 | some (o, s), .agg cs => takeD s (cs.drop o)
 | _, _ => none
@[go_sem] theorem fd_def (x : D) (f : Nat) : fieldD P t x f = partK (fieldsK (fieldsT P t) f) x := by
 unfold fieldD partK fieldsK
 cases fieldsT P t <;> rfl
@[go_sem] theorem partK_agg (o : Nat) (s : Bool × Nat) (cs : List D) : partK (some (o, s)) (.agg cs) = takeD s (cs.drop o) := rfl
@[go_sem] theorem retQ_ret (rs : List ResultVar) (Q : D → Heap → Prop) : retQ P rs Q .ret E H = finK (resA P rs E H) Q H := rfl
@[go_sem] theorem retQ_normal (rs : List ResultVar) (Q : D → Heap → Prop) : retQ P rs Q .normal E H = finK (resA P rs E H) Q H := rfl
@[go_sem] theorem finK_some (d : D) (Q : D → Heap → Prop) : finK (some d) Q H = Fin Q d H := by simp [finK]
@[go_sem] theorem resA_none : resA P [] E H = some (.tuple []) := rfl
@[go_sem] theorem resA_tmp (t : Nat) : resA P [.tmp t] E H = some (E.get t) := rfl
def resL (P : Program) (rs : List ResultVar) (E : Env) (H : Heap) : Option (List D) := rs.mapM (resA1 P E H)
def consO : Option D → Option (List D) → Option (List D)
 | some d, some l => some (d :: l)
 | _, _ => none
@[go_sem] theorem consO_some (d : D) (l : List D) : consO (some d) (some l) = some (d :: l) := rfl
@[go_sem] theorem resL_nil : resL P [] E H = some [] := rfl
@[go_sem] theorem resL_cons (r : ResultVar) (rs : List ResultVar) : resL P (r :: rs) E H = consO (resA1 P E H r) (resL P rs E H) := by
 simp only [resL, List.mapM_cons, Option.bind_eq_bind, Option.pure_def]
 cases resA1 P E H r <;> cases List.mapM (resA1 P E H) rs <;> rfl
@[go_sem] theorem resA_many (r r' : ResultVar) (rs : List ResultVar) : resA P (r :: r' :: rs) E H = (resL P (r :: r' :: rs) E H).map .tuple := by
 unfold resA
 show Option.map _ (resL P (r :: r' :: rs) E H) = _
 rw [resL_cons, resL_cons]
 cases resA1 P E H r <;> cases resA1 P E H r' <;> cases resL P rs E H <;> rfl
@[go_sem] theorem resA1_tmp (t : Nat) : resA1 P E H (.tmp t) = some (E.get t) := rfl
@[go_sem] theorem resA1_cell (a t : Nat) : resA1 P E H (.cell a t) = loadD P t (E.get a) H := rfl
@[go_sem] theorem resA_cell (a t : Nat) : resA P [.cell a t] E H = loadD P t (E.get a) H := by
 simp [resA, resA1, List.mapM_cons]
 cases loadD P t (E.get a) H <;> rfl
end
theorem wrap64 {x : Int} (h1 : -9223372036854775808 ≤ x) (h2 : x ≤ 9223372036854775807) : IntKind.i64.wrap x = x := IntWalk.i64_in _ (by omega)
def Sub : Env → Env → Prop
 | [], _ => True
 | (i, d) :: r, E => E.get i = d ∧ Sub r E
def Nx {ι : Type} (Ei : ι → Env) (Hi : ι → Heap) (Inv : ι → Prop) (μ : ι → Nat) (x : ι) : Env → Heap → Prop := fun E' H' => ∃ y, Inv y ∧ μ y < μ x ∧ Weak (Ei y) (Hi y) E' H'
theorem Sub.all : ∀ {E0 E : Env}, Sub E0 E → ∀ p ∈ E0, E.get p.1 = p.2
 | [], _, _, _, hp => by simp at hp
 | (i, d) :: r, E, h, p, hp => by
  rcases List.mem_cons.1 hp with rfl | hp
  ·exact h.1
  ·exact Sub.all h.2 p hp
theorem loop_w {P : Program} {Z : List (Nat × Rc)} {c : Code} {Q : AX → Env → Heap → Prop} {E : Env} {H : Heap} {ι : Type} (Ei : ι → Env) (Hi : ι → Heap) (Inv : ι → Prop) (μ : ι → Nat) (x0 : ι) (h0 : Inv x0) (hw : Weak (Ei x0) (Hi x0) E H)
  (step : ∀ x, Inv x → wp P Z c (loopK Q (Nx Ei Hi Inv μ x)) (Ei x) (Hi x)) : Loop P Z c Q E H := by
 refine ⟨fun n E H => ∃ x, Inv x ∧ μ x = n ∧ E = Ei x ∧ H = Hi x, ⟨μ x0, Ei x0, Hi x0, hw, x0, h0, rfl, rfl, rfl⟩, ?_⟩
 rintro n E1 H1 ⟨x, hx, rfl, rfl, rfl⟩
 have hmono : (fun E' H' => ∃ m E0 H0, m < μ x ∧ Weak E0 H0 E' H' ∧ ∃ x, Inv x ∧ μ x = m ∧ E0 = Ei x ∧ H0 = Hi x) = Nx Ei Hi Inv μ x := by
  funext E' H'
  apply propext
  constructor
  ·rintro ⟨m, E0, H0, hm, hw, y, hy, rfl, rfl, rfl⟩
   exact ⟨y, hy, hm, hw⟩
  ·rintro ⟨y, hy, hm, hs⟩
   exact ⟨μ y, Ei y, Hi y, hm, hs, y, hy, rfl, rfl, rfl⟩
 have := step x hx
 rw [hmono]
 exact this
theorem loop_a {P : Program} {Z : List (Nat × Rc)} {c : Code} {Q : AX → Env → Heap → Prop} {E : Env} {H : Heap} {ι : Type} (Ei : ι → Env) (Hi : ι → Heap) (Inv : ι → Prop) (μ : ι → Nat) (x0 : ι) (h0 : Inv x0) (hE : Sub (Ei x0) E) (hH : (Hi x0).Le H)
  (step : ∀ x, Inv x → wp P Z c (loopK Q (Nx Ei Hi Inv μ x)) (Ei x) (Hi x)) : Loop P Z c Q E H := loop_w Ei Hi Inv μ x0 h0 (weak_of hE.all hH) step
attribute [go_sem] Sub
theorem wk_mk {P : Program} {K : Env → Heap → Prop} {E : Env} {H : Heap} {gs : List (Option Nat)} {ops : List Oper} (E0 : Env) (H0 : Heap) (hE : Sub E0 E) (hH : H0.Le H) (h : wpOps P gs K ops E0 H0) : raceK P gs ops K E H (some .wk) := ⟨E0, H0, weak_of hE.all hH, h⟩
theorem tail_join {C T G : Prop} (h : (C → T) → G) (t : C → T) : G := h t
def consts (E : Env) : List Nat → Env
 | [] => []
 | t :: ts => (t, E.get t) :: consts E ts
def cat : Env → Env → Env
 | [], F => F
 | p :: E, F => p :: cat E F
@[go_sem] theorem consts_nil (E : Env) : consts E [] = [] := rfl
@[go_sem] theorem consts_cons (E : Env) (t : Nat) (ts : List Nat) : consts E (t :: ts) = (t, E.get t) :: consts E ts := rfl
@[go_sem] theorem cat_nil (F : Env) : cat [] F = F := rfl
@[go_sem] theorem cat_cons (p : Nat × D) (E F : Env) : cat (p :: E) F = p :: cat E F := rfl
theorem sub_cat : ∀ {A B E : Env}, Sub A E → Sub B E → Sub (cat A B) E
 | [], _, _, _, h => h
 | _ :: _, _, _, h1, h2 => ⟨h1.1, sub_cat h1.2 h2⟩
theorem sub_consts (E : Env) : ∀ ts, Sub (consts E ts) E
 | [] => trivial
 | _ :: ts => ⟨rfl, sub_consts E ts⟩
theorem loop_c {P : Program} {Z : List (Nat × Rc)} {c : Code} {Q : AX → Env → Heap → Prop} {E : Env} {H : Heap} {ι : Type} (ts : List Nat) (Ei : ι → Env) (Hi : ι → Heap) (Inv : ι → Prop) (μ : ι → Nat) (x0 : ι) (h0 : Inv x0) (hE : Sub (Ei x0) E) (hH : (Hi x0).Le H)
  (step : ∀ Ec, Ec = consts E ts → ∀ x, Inv x → wp P Z c (loopK Q (Nx (fun x => cat Ec (Ei x)) Hi Inv μ x)) (cat Ec (Ei x)) (Hi x)) : Loop P Z c Q E H := loop_a (fun x => cat (consts E ts) (Ei x)) Hi Inv μ x0 h0 (sub_cat (sub_consts E ts) hE) hH (step _ rfl)
theorem nx_mk {ι : Type} {Ei : ι → Env} {Hi : ι → Heap} {Inv : ι → Prop} {μ : ι → Nat} {x : ι} {E' : Env} {H' : Heap} (y : ι) (h1 : Inv y) (h2 : μ y < μ x) (h3 : Sub (Ei y) E') (h4 : (Hi y).Le H') : Nx Ei Hi Inv μ x E' H' := ⟨y, h1, h2, weak_of h3.all h4⟩
theorem nx_w {ι : Type} {Ei : ι → Env} {Hi : ι → Heap} {Inv : ι → Prop} {μ : ι → Nat} {x : ι} {E' : Env} {H' : Heap} (y : ι) (h1 : Inv y) (h2 : μ y < μ x) (h3 : Weak (Ei y) (Hi y) E' H') : Nx Ei Hi Inv μ x E' H' := ⟨y, h1, h2, h3⟩
def nth (l : List UInt8) (k : Nat) : Int := ((l.getD k 0).toNat : Int)
@[go_sem] theorem at8_S (l : List UInt8) (i : Int) : at8 (S l) i = nth l i.toNat := by
 show (((S l).data.toList.getD i.toNat 0).toNat : Int) = _
 rw [show (S l).data.toList = l from B_S l]; rfl
theorem at8_zero (s : ByteArray) : at8 s 0 = nth (B s) 0 := rfl
attribute [irreducible] Fin Loop Nx
attribute [go_sem] argEnv List.map_cons List.map_nil Option.map_some Option.map_none List.nil_append List.append_nil List.cons_append Bool.not_true Bool.not_false Bool.not_eq_true' Bool.not_eq_false' decide_eq_true_eq decide_eq_false_iff_not true_and and_true List.drop_succ_cons List.drop_zero List.head?_cons List.take_succ_cons List.take_zero List.length_cons List.length_nil List.set_cons_zero List.set_cons_succ List.all_cons List.all_nil Bool.and_true Bool.true_and List.getElem?_cons_zero List.getElem?_cons_succ Nat.zero_add Nat.add_zero Int.toNat_natCast forall_const implies_true Option.isSome_some ne_eq not_true_eq_false not_false_eq_true Nat.le_refl beq_iff_eq bne_iff_ne beq_eq_false_iff_ne Nat.le_add_left Nat.not_lt_zero beq_self_eq_true if_true if_false List.length_drop List.length_take Int.toNat_natCast_add_one Option.map_map List.size_toArray List.mem_singleton false_imp_iff true_imp_iff List.length_append List.map_append List.length_map decide_true decide_false List.replicate_succ List.replicate_zero List.getD_cons_zero List.getD_cons_succ List.append_eq Nat.min_self
end Go.Av
end
section
namespace Go.Proofs
open Go.Av
@[go_sem] theorem Tryz.int2 : intT Tryz.prog 2 = some .i64 := by kernel_rfl
@[go_sem] theorem Tryz.base3 : baseT Tryz.prog 3 = .int := by kernel_rfl
@[go_sem] theorem Tryz.shape3 : shapeT Tryz.prog 3 = some (false, 1) := by kernel_rfl
@[go_sem] theorem Tryz.int3 : intT Tryz.prog 3 = some .i64 := by kernel_rfl
@[go_sem] theorem Tryz.zero3 : zeroD Tryz.prog 3 = some [.int .i64 0] := by kernel_rfl
@[go_sem] theorem Tryz.zval3 : Go.Av.zero1 Tryz.prog 3 = some (.int .i64 0) := by kernel_rfl
@[go_sem] theorem Tryz.base4 : baseT Tryz.prog 4 = .bool := by kernel_rfl
@[go_sem] theorem Tryz.shape4 : shapeT Tryz.prog 4 = some (false, 1) := by kernel_rfl
@[go_sem] theorem Tryz.shape5 : shapeT Tryz.prog 5 = some (false, 1) := by kernel_rfl
@[go_sem] theorem Tryz.base9 : baseT Tryz.prog 9 = .str := by kernel_rfl
@[go_sem] theorem Tryz.shape9 : shapeT Tryz.prog 9 = some (false, 1) := by kernel_rfl
@[go_sem] theorem Tryz.base22 : baseT Tryz.prog 22 = .slice := by kernel_rfl
@[go_sem] theorem Tryz.shape22 : shapeT Tryz.prog 22 = some (false, 1) := by kernel_rfl
@[go_sem] theorem Tryz.elem22 : elemT Tryz.prog 22 = some (72, 2, 24) := by kernel_rfl
@[go_sem] theorem Tryz.zero22 : zeroD Tryz.prog 22 = some [.nilsl] := by kernel_rfl
@[go_sem] theorem Tryz.base24 : baseT Tryz.prog 24 = .struct := by kernel_rfl
@[go_sem] theorem Tryz.shape24 : shapeT Tryz.prog 24 = some (true, 3) := by kernel_rfl
@[go_sem] theorem Tryz.fields24 : fieldsT Tryz.prog 24 = some [(0, false, 1), (1, false, 1), (2, false, 1)] := by kernel_rfl
@[go_sem] theorem Tryz.zero24 : zeroD Tryz.prog 24 = some [.nilsl, .int .i64 0, .bool false] := by kernel_rfl
@[go_sem] theorem Tryz.bld24 : bldT Tryz.prog 24 = none := by kernel_rfl
@[go_sem] theorem Tryz.base25 : baseT Tryz.prog 25 = .slice := by kernel_rfl
@[go_sem] theorem Tryz.shape25 : shapeT Tryz.prog 25 = some (false, 1) := by kernel_rfl
@[go_sem] theorem Tryz.elem25 : elemT Tryz.prog 25 = some (24, 3, 40) := by kernel_rfl
@[go_sem] theorem Tryz.zero25 : zeroD Tryz.prog 25 = some [.nilsl] := by kernel_rfl
@[go_sem] theorem Tryz.bld25 : bldT Tryz.prog 25 = none := by kernel_rfl
@[go_sem] theorem Tryz.shape28 : shapeT Tryz.prog 28 = some (false, 1) := by kernel_rfl
@[go_sem] theorem Tryz.zero28 : zeroD Tryz.prog 28 = some [.nilfn] := by kernel_rfl
@[go_sem] theorem Tryz.bld28 : bldT Tryz.prog 28 = none := by kernel_rfl
@[go_sem] theorem Tryz.base38 : baseT Tryz.prog 38 = .slice := by kernel_rfl
@[go_sem] theorem Tryz.elem38 : elemT Tryz.prog 38 = some (76, 2, 24) := by kernel_rfl
@[go_sem] theorem Tryz.base60 : baseT Tryz.prog 60 = .slice := by kernel_rfl
@[go_sem] theorem Tryz.shape60 : shapeT Tryz.prog 60 = some (false, 1) := by kernel_rfl
@[go_sem] theorem Tryz.elem60 : elemT Tryz.prog 60 = some (9, 1, 16) := by kernel_rfl
@[go_sem] theorem Tryz.base72 : baseT Tryz.prog 72 = .struct := by kernel_rfl
@[go_sem] theorem Tryz.shape72 : shapeT Tryz.prog 72 = some (true, 2) := by kernel_rfl
@[go_sem] theorem Tryz.fields72 : fieldsT Tryz.prog 72 = some [(0, false, 1), (1, false, 1)] := by kernel_rfl
@[go_sem] theorem Tryz.eq72 : flatEq Tryz.prog 72 = some [(0, .str), (1, .int)] := by kernel_rfl
@[go_sem] theorem Tryz.zero72 : zeroD Tryz.prog 72 = some [.str ⟨#[]⟩, .int .i64 0] := by kernel_rfl
@[go_sem] theorem Tryz.bld72 : bldT Tryz.prog 72 = none := by kernel_rfl
@[go_sem] theorem Tryz.base76 : baseT Tryz.prog 76 = .struct := by kernel_rfl
@[go_sem] theorem Tryz.shape76 : shapeT Tryz.prog 76 = some (true, 2) := by kernel_rfl
@[go_sem] theorem Tryz.fields76 : fieldsT Tryz.prog 76 = some [(0, false, 1), (1, false, 1)] := by kernel_rfl
@[go_sem] theorem Tryz.eq76 : flatEq Tryz.prog 76 = some [(0, .str), (1, .int)] := by kernel_rfl
@[go_sem] theorem Tryz.zero76 : zeroD Tryz.prog 76 = some [.str ⟨#[]⟩, .int .i64 0] := by kernel_rfl
@[go_sem] theorem Tryz.bld76 : bldT Tryz.prog 76 = none := by kernel_rfl
@[go_sem] theorem Tryz.map80 : mapT Tryz.prog 80 = some (9, 3, .one .str) := by kernel_rfl
@[go_sem] theorem Tryz.base115 : baseT Tryz.prog 115 = .slice := by kernel_rfl
@[go_sem] theorem Tryz.elem115 : elemT Tryz.prog 115 = some (5, 1, 1) := by kernel_rfl
@[go_sem] theorem Tryz.map118 : mapT Tryz.prog 118 = some (9, 4, .one .str) := by kernel_rfl
@[go_sem] theorem Tryz.base120 : baseT Tryz.prog 120 = .slice := by kernel_rfl
@[go_sem] theorem Tryz.elem120 : elemT Tryz.prog 120 = some (22, 1, 24) := by kernel_rfl
@[go_sem] theorem Tryz.base130 : baseT Tryz.prog 130 = .slice := by kernel_rfl
@[go_sem] theorem Tryz.shape130 : shapeT Tryz.prog 130 = some (false, 1) := by kernel_rfl
@[go_sem] theorem Tryz.elem130 : elemT Tryz.prog 130 = some (159, 4, 64) := by kernel_rfl
@[go_sem] theorem Tryz.zero130 : zeroD Tryz.prog 130 = some [.nilsl] := by kernel_rfl
@[go_sem] theorem Tryz.base132 : baseT Tryz.prog 132 = .slice := by kernel_rfl
@[go_sem] theorem Tryz.elem132 : elemT Tryz.prog 132 = some (25, 1, 24) := by kernel_rfl
@[go_sem] theorem Tryz.base135 : baseT Tryz.prog 135 = .slice := by kernel_rfl
@[go_sem] theorem Tryz.elem135 : elemT Tryz.prog 135 = some (3, 1, 8) := by kernel_rfl
@[go_sem] theorem Tryz.int144 : intT Tryz.prog 144 = some .u64 := by kernel_rfl
@[go_sem] theorem Tryz.base153 : baseT Tryz.prog 153 = .slice := by kernel_rfl
@[go_sem] theorem Tryz.shape153 : shapeT Tryz.prog 153 = some (false, 1) := by kernel_rfl
@[go_sem] theorem Tryz.elem153 : elemT Tryz.prog 153 = some (157, 2, 32) := by kernel_rfl
@[go_sem] theorem Tryz.base155 : baseT Tryz.prog 155 = .slice := by kernel_rfl
@[go_sem] theorem Tryz.shape155 : shapeT Tryz.prog 155 = some (false, 1) := by kernel_rfl
@[go_sem] theorem Tryz.elem155 : elemT Tryz.prog 155 = some (177, 1, 4) := by kernel_rfl
@[go_sem] theorem Tryz.base157 : baseT Tryz.prog 157 = .struct := by kernel_rfl
@[go_sem] theorem Tryz.shape157 : shapeT Tryz.prog 157 = some (true, 2) := by kernel_rfl
@[go_sem] theorem Tryz.fields157 : fieldsT Tryz.prog 157 = some [(0, false, 1), (1, false, 1)] := by kernel_rfl
@[go_sem] theorem Tryz.zero157 : zeroD Tryz.prog 157 = some [.bool false, .nilsl] := by kernel_rfl
@[go_sem] theorem Tryz.bld157 : bldT Tryz.prog 157 = none := by kernel_rfl
@[go_sem] theorem Tryz.base159 : baseT Tryz.prog 159 = .struct := by kernel_rfl
@[go_sem] theorem Tryz.shape159 : shapeT Tryz.prog 159 = some (true, 4) := by kernel_rfl
@[go_sem] theorem Tryz.fields159 : fieldsT Tryz.prog 159 = some [(0, false, 1), (1, true, 2), (3, false, 1)] := by kernel_rfl
@[go_sem] theorem Tryz.zero159 : zeroD Tryz.prog 159 = some [.nilsl, .bool false, .nilsl, .bool false] := by kernel_rfl
@[go_sem] theorem Tryz.bld159 : bldT Tryz.prog 159 = none := by kernel_rfl
@[go_sem] theorem Tryz.shape177 : shapeT Tryz.prog 177 = some (false, 1) := by kernel_rfl
@[go_sem] theorem Tryz.int177 : intT Tryz.prog 177 = some .u32 := by kernel_rfl
@[go_sem] theorem Tryz.zero177 : zeroD Tryz.prog 177 = some [.int .u32 0] := by kernel_rfl
@[go_sem] theorem Tryz.int179 : intT Tryz.prog 179 = some .u64 := by kernel_rfl
@[go_sem] theorem Tryz.base227 : baseT Tryz.prog 227 = .slice := by kernel_rfl
@[go_sem] theorem Tryz.elem227 : elemT Tryz.prog 227 = some (130, 1, 24) := by kernel_rfl
theorem Tryz.mixed : Tryz.prog.follows .mixedOrders = true := by kernel_rfl
end Go.Proofs
end
