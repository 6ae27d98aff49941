/- Part of the proof: what the last text builds on. No condition stands here. -/
import Derived.Test.YtacekpdodelnbaaGreatDoorProg
import Derived.Test.YtacekpdodelnbaaGreatDoorRows
import Derived.Test.YtacekpdodelnbaaGreatDoorK2
set_option linter.unusedSimpArgs false
set_option linter.unusedVariables false
section
namespace Go.Av
section
variable {P : Program} {E : Env} {H : Heap} {K : Env → Heap → Prop} {l : List Oper} {KD : D → Heap → Prop} {ev : Operand → D} {cs : Nat → CR} {bs : Nat → Bl} {bl : Bl} {c : CR} {gs : List (Option Nat)}
def pK (P : Program) (gs : List (Option Nat)) (cs : Nat → CR) (bs : Nat → Bl) (K : Env → Heap → Prop) (i : Nat) (l : List Oper) (dst : Option Nat) (E : Env) : D → Heap → Prop := fun d H => wpP P gs cs bs K i l (E.put dst d) H
def pOp (P : Program) (c : CR) (bl : Bl) (ev : Operand → D) (H : Heap) (KD : D → Heap → Prop) (op : Op) : Prop :=
 ∃ e, runE P c bl.l ev H op = some e ∧ okEf bl H e ∧ callOk P c bl.l ev H op ∧ ∀ b, e.okH b H → KD (e.val b) (e.app b H)
def guardP (P : Program) (gs : List (Option Nat)) (cs : Nat → CR) (bs : Nat → Bl) (K : Env → Heap → Prop) (i : Nat) (l : List Oper) (dst : Option Nat) (op : Op) (s : Nat) (d : D) (want : Bool) (E : Env) (H : Heap) : Prop :=
 (d = .tuple [] ∧ wpP P gs cs bs K (i + 1) l (E.put dst (.tuple [])) H) ∨
 ∃ b, d = .bool b ∧ (b = want → pOp P (cs i) (bs i) (Env.ev ((s, .bool want) :: E)) H (pK P gs cs bs K (i + 1) l dst ((s, .bool want) :: E)) op) ∧ (b = !want → wpP P gs cs bs K (i + 1) l (Env.put ((s, .bool (!want)) :: E) dst (.tuple [])) H)
def guardPS (P : Program) (gs : List (Option Nat)) (cs : Nat → CR) (bs : Nat → Bl) (K : Env → Heap → Prop) (i : Nat) (l : List Oper) (dst : Option Nat) (op : Op) (s : Option Nat) (want : Bool) (E : Env) (H : Heap) : Prop := match s with
 | none => wpP P gs cs bs K (i + 1) l (E.put dst (.tuple [])) H
 | some s => guardP P gs cs bs K i l dst op s (E.get s) want E H
@[go_sem] theorem p_nil (i : Nat) : wpP P gs cs bs K i [] E H = K E H := rfl
@[go_sem] theorem p_cons (i : Nat) (dst : Option Nat) (op : Op) (ty : Nat) (pos : String) (after : Array Edge) : wpP P gs cs bs K i (⟨dst, op, ty, pos, after, none⟩ :: l) E H = pOp P (cs i) (bs i) (Env.ev E) H (pK P gs cs bs K (i + 1) l dst E) op := rfl
@[go_sem] theorem p_guard (i : Nat) (dst : Option Nat) (op : Op) (ty : Nat) (pos : String) (after : Array Edge) (j : Nat) (want : Bool) :
  wpP P gs cs bs K i (⟨dst, op, ty, pos, after, some (j, want)⟩ :: l) E H = guardPS P gs cs bs K i l dst op (guardSlot gs j) want E H := by
 rw [wpP]
 simp only []
 unfold guardA guardPS
 cases guardSlot gs j <;> rfl
@[go_sem] theorem guardPS_none (i : Nat) (dst : Option Nat) (op : Op) (want : Bool) : guardPS P gs cs bs K i l dst op none want E H = wpP P gs cs bs K (i + 1) l (E.put dst (.tuple [])) H := rfl
@[go_sem] theorem guardPS_some (i : Nat) (dst : Option Nat) (op : Op) (s : Nat) (want : Bool) : guardPS P gs cs bs K i l dst op (some s) want E H = guardP P gs cs bs K i l dst op s (E.get s) want E H := rfl
theorem guardP_bool (i : Nat) (dst : Option Nat) (op : Op) (s : Nat) (b want : Bool) : guardP P gs cs bs K i l dst op s (.bool b) want E H =
  ((b = want → pOp P (cs i) (bs i) (Env.ev ((s, .bool want) :: E)) H (pK P gs cs bs K (i + 1) l dst ((s, .bool want) :: E)) op) ∧ (b = !want → wpP P gs cs bs K (i + 1) l (Env.put ((s, .bool (!want)) :: E) dst (.tuple [])) H)) := by
 unfold guardP; apply propext; constructor
 ·rintro (⟨h, _⟩ | ⟨b', h, h1⟩)
  ·cases h
  ·cases h; exact h1
 ·exact fun h => .inr ⟨b, rfl, h⟩
attribute [go_sem low] guardP_bool
@[go_sem high] theorem guardP_skip (i : Nat) (dst : Option Nat) (op : Op) (s : Nat) (want : Bool) : guardP P gs cs bs K i l dst op s (.tuple []) want E H = wpP P gs cs bs K (i + 1) l (E.put dst (.tuple [])) H := by
 unfold guardP; apply propext; constructor
 ·rintro (⟨_, h⟩ | ⟨b', h, _⟩)
  ·exact h
  ·cases h
 ·exact fun h => .inl ⟨rfl, h⟩
@[go_sem high] theorem guardP_tt (i : Nat) (dst : Option Nat) (op : Op) (s : Nat) : guardP P gs cs bs K i l dst op s (.bool true) true E H = pOp P (cs i) (bs i) (Env.ev ((s, .bool true) :: E)) H (pK P gs cs bs K (i + 1) l dst ((s, .bool true) :: E)) op := by rw [guardP_bool]; simp
@[go_sem high] theorem guardP_ff (i : Nat) (dst : Option Nat) (op : Op) (s : Nat) : guardP P gs cs bs K i l dst op s (.bool false) false E H = pOp P (cs i) (bs i) (Env.ev ((s, .bool false) :: E)) H (pK P gs cs bs K (i + 1) l dst ((s, .bool false) :: E)) op := by rw [guardP_bool]; simp
@[go_sem high] theorem guardP_tf (i : Nat) (dst : Option Nat) (op : Op) (s : Nat) : guardP P gs cs bs K i l dst op s (.bool true) false E H = wpP P gs cs bs K (i + 1) l (Env.put ((s, .bool true) :: E) dst (.tuple [])) H := by rw [guardP_bool]; simp
@[go_sem high] theorem guardP_ft (i : Nat) (dst : Option Nat) (op : Op) (s : Nat) : guardP P gs cs bs K i l dst op s (.bool false) true E H = wpP P gs cs bs K (i + 1) l (Env.put ((s, .bool false) :: E) dst (.tuple [])) H := by rw [guardP_bool]; simp
@[go_sem] theorem pK_app (i : Nat) (dst : Option Nat) (d : D) : pK P gs cs bs K i l dst E d H = wpP P gs cs bs K i l (E.put dst d) H := rfl
theorem p_pure {op : Op} (hc : cls P op = .pure) (hw : wpOp P ev H KD op = optK (pureD P ev op) KD H) : pOp P c bl ev H KD op = wpOp P ev H KD op := by
 rw [hw]
 apply propext
 unfold pOp
 rw [runE_pure hc]
 constructor
 ·rintro ⟨e, he, _, _, hk⟩
  obtain ⟨d, hd, rfl⟩ := Option.map_eq_some_iff.1 he
  have := hk 0 trivial
  refine ⟨d, hd, ?_⟩
  have e2 : (val d []).app 0 H = H := minus_nil H
  rw [e2] at this; exact this
 ·rintro ⟨d, hd, hk⟩
  refine ⟨val d [], by rw [hd]; rfl, ⟨by simp [val], by simp [val], by simp [val], by simp [val]⟩, ?_, fun b _ => ?_⟩
  ·cases op <;> try trivial
   rename_i cc
   obtain ⟨callee, args, ats⟩ := cc
   cases callee with
   | value f => simp [cls] at hc
   | _ => trivial
  ·have e2 : (val d []).app b H = H := minus_nil H
   rw [e2]; exact hk
@[go_sem] theorem p_move (x : Operand) : pOp P c bl ev H KD (.move x) = wpOp P ev H KD (.move x) := p_pure rfl rfl
@[go_sem] theorem p_assign (x : Operand) : pOp P c bl ev H KD (.assign x) = wpOp P ev H KD (.assign x) := p_pure rfl rfl
@[go_sem] theorem p_pick (x y z : Operand) : pOp P c bl ev H KD (.pick x y z) = wpOp P ev H KD (.pick x y z) := p_pure rfl rfl
@[go_sem] theorem p_build (t : Nat) (ps : Array (Nat × Operand)) : pOp P c bl ev H KD (.build t ps) = wpOp P ev H KD (.build t ps) := p_pure rfl rfl
@[go_sem] theorem p_nilck (x : Operand) : pOp P c bl ev H KD (.nilCheck x) = wpOp P ev H KD (.nilCheck x) := p_pure rfl rfl
@[go_sem] theorem p_bin (op : BinOp) (t : Nat) (x y : Operand) (yt : Nat) : pOp P c bl ev H KD (.binOp op t x y yt) = wpOp P ev H KD (.binOp op t x y yt) := p_pure rfl rfl
@[go_sem] theorem p_un (op : UnOp) (t : Nat) (x : Operand) : pOp P c bl ev H KD (.unOp op t x) = wpOp P ev H KD (.unOp op t x) := p_pure rfl rfl
@[go_sem] theorem p_fa (t : Nat) (x : Operand) (f : Nat) : pOp P c bl ev H KD (.fieldAddr t x f) = wpOp P ev H KD (.fieldAddr t x f) := p_pure rfl rfl
@[go_sem] theorem p_ia (t : Nat) (x i : Operand) : pOp P c bl ev H KD (.indexAddr t x i) = wpOp P ev H KD (.indexAddr t x i) := p_pure rfl rfl
@[go_sem] theorem p_extract (x : Operand) (i : Nat) : pOp P c bl ev H KD (.extract x i) = wpOp P ev H KD (.extract x i) := p_pure rfl rfl
@[go_sem] theorem p_len (x : Operand) (t : Nat) (h : baseT P t ≠ .map) : pOp P c bl ev H KD (.call ⟨.builtin .len, #[x], #[t]⟩) = wpOp P ev H KD (.call ⟨.builtin .len, #[x], #[t]⟩) := by
 have hc : cls P (.call ⟨.builtin .len, #[x], #[t]⟩) = .pure := by
  unfold baseT at h
  cases hu : P.underlying t with
  | none => simp [cls, hu]
  | some u => cases u <;> simp [cls, hu] <;> simp [hu] at h
 refine p_pure hc ?_
 simp only [wpOp, hc]; rfl
@[go_sem] theorem p_conv (s t : Nat) (x : Operand) (h1 : (intT P s).isSome = true) (h2 : (intT P t).isSome = true) : pOp P c bl ev H KD (.convert s t x) = wpOp P ev H KD (.convert s t x) := by
 have hc : cls P (.convert s t x) = .pure := by
  unfold intT at h1 h2
  split at h1
  ·rename_i k1 e1
   split at h2
   ·rename_i k2 e2
    simp [cls, e1, e2]
   ·cases h2
  ·cases h1
 refine p_pure hc ?_
 simp only [wpOp, hc]; rfl
@[go_sem] theorem p_conv_is (s t : Nat) (x : Operand) (h1 : (intT P s).isSome = true) (h2 : baseT P t = .str) : pOp P c bl ev H KD (.convert s t x) = wpOp P ev H KD (.convert s t x) := by
 have hc : cls P (.convert s t x) = .pure := by
  have ht : P.underlying t = some .string := by
   unfold baseT at h2
   split at h2 <;> simp_all
  unfold intT at h1
  split at h1
  ·rename_i k1 e1
   simp [cls, e1, ht]
  ·cases h1
 refine p_pure hc ?_
 simp only [wpOp, hc]; rfl
def rdOk (bl : Bl) (H : Heap) (l : List Nat) : Prop := ∀ b ∈ l, (b ∈ bl.l ∧ H b ≠ none) ∧ b ∉ bl.no
@[go_sem] theorem rdOk_nil : rdOk bl H [] = True := by simp [rdOk]
@[go_sem high] theorem rdOk_one (l m : List Nat) (b : Nat) : rdOk ⟨l, [], m⟩ H [b] = (b ∈ l ∧ H b ≠ none) := by simp [rdOk]
@[go_sem] theorem inS_nil (i : Nat) : inS i [] = false := rfl
@[go_sem] theorem inS_cons (i x : Nat) (l : List Nat) : inS i (x :: l) = if i = x then true else inS i l := rfl
@[go_sem] theorem lS_nil (i : Nat) (bl : List Nat) : lS i bl [] = bl := rfl
@[go_sem] theorem lS_cons (i b k : Nat) (bl S A : List Nat) (l : List Tk) : lS i bl ((b, k, S, A) :: l) = if inS i A = true then lS i bl l else b :: lS i bl l := rfl
@[go_sem] theorem noS_nil (i : Nat) : noS i [] = [] := rfl
@[go_sem] theorem noS_cons (i b k : Nat) (S A : List Nat) (l : List Tk) : noS i ((b, k, S, A) :: l) = if inS i S = true then noS i l else b :: noS i l := rfl
@[go_sem] theorem mayS_nil (i : Nat) : mayS i [] = [] := rfl
@[go_sem] theorem mayS_cons (i b k : Nat) (S A : List Nat) (l : List Tk) : mayS i ((b, k, S, A) :: l) = if i = k then b :: mayS i l else mayS i l := rfl
@[go_sem] theorem takeB_app (l : List Nat) (dl : List Tk) (i : Nat) : takeB l dl i = ⟨lS i l dl, noS i dl, mayS i dl⟩ := rfl
@[go_sem] theorem rdB_box (b o : Nat) : rdB (.box b o) = [b] := rfl
@[go_sem] theorem rdB_el (b s i o : Nat) : rdB (.el b s i o) = [b] := rfl
@[go_sem] theorem rdB_ro (cs : List D) : rdB (.ro cs) = [] := rfl
@[go_sem] theorem rdB_map (b : Nat) : rdB (.map b) = [b] := rfl
@[go_sem] theorem rdB_glob (b : Nat) : rdB (.glob b) = [b] := rfl
@[go_sem] theorem p_load (t : Nat) (x : Operand) : pOp P c bl ev H KD (.load t x) = (rdOk bl H (rdB (ev x)) ∧ wpOp P ev H KD (.load t x)) := by
 apply propext
 unfold pOp
 constructor
 ·rintro ⟨e, he, hok, _, hk⟩
  rw [runE_eff (by simp [cls])] at he
  simp only [runX, Option.map_eq_some_iff] at he
  obtain ⟨d, hd, rfl⟩ := he
  have := hk 0 trivial
  have e2 : (val d (rdB (ev x))).app 0 H = H := minus_nil H
  rw [e2] at this
  exact ⟨hok.rd, d, hd, this⟩
 ·rintro ⟨hr, d, hd, hk⟩
  refine ⟨val d (rdB (ev x)), by rw [runE_eff (by simp [cls])]; simp only [runX, hd, Option.map_some], ⟨hr, by simp [val], by simp [val], by simp [val]⟩, trivial, fun b _ => ?_⟩
  have e2 : (val d (rdB (ev x))).app b H = H := minus_nil H
  rw [e2]; exact hk
theorem p_make {op : Op} {f : Nat → D} {o : Obj} (ho : o.rw = true) (hr : runE P c bl.l ev H op = some (make f o)) (hc : callOk P c bl.l ev H op) (h : ∀ b, H b = none → KD (f b) (H.set b o)) : pOp P c bl ev H KD op :=
 ⟨_, hr, ⟨by simp [make], by simp [make], fun o' h' => by cases h'; exact ho, by simp [make]⟩, hc, fun b hb => by
  have hb' : H b = none := by rcases hb with hb | hb; exact hb; simp [make] at hb
  have e2 : (make f o).app b H = H.set b o := by show (H.minus []).set b o = _; rw [minus_nil]
  rw [e2]; exact h b hb'⟩
theorem p_make_inv {op : Op} {f : Nat → D} {o : Obj} (hr : runE P c bl.l ev H op = some (make f o)) (h : pOp P c bl ev H KD op) : ∀ b, H b = none → KD (f b) (H.set b o) := by
 obtain ⟨e, he, hok, _, hk⟩ := h
 rw [hr] at he; cases he
 intro b hb
 have := hk b (.inl hb)
 have e2 : (make f o).app b H = H.set b o := by show (H.minus []).set b o = _; rw [minus_nil]
 rw [e2] at this; exact this
@[go_sem] theorem p_alloc (t : Nat) : pOp P c bl ev H KD (.alloc t) = wpOp P ev H KD (.alloc t) := by
 apply propext
 constructor
 ·intro h
  have h' := h
  obtain ⟨e, he, _⟩ := h'
  rw [runE_eff (by simp [cls])] at he
  simp only [runX, Option.map_eq_some_iff] at he
  obtain ⟨z, hz, rfl⟩ := he
  exact ⟨z, hz, p_make_inv (f := fun b => .box b 0) (o := .box z (bldT P t)) (by rw [runE_eff (by simp [cls])]; simp only [runX, hz, Option.map_some]) h⟩
 ·rintro ⟨z, hz, hk⟩
  exact p_make (f := fun b => .box b 0) (o := .box z (bldT P t)) rfl (by rw [runE_eff (by simp [cls])]; simp only [runX, hz, Option.map_some]) trivial hk
@[go_sem] theorem p_buildSlice (t n : Nat) (ps : Array (Nat × Operand)) : pOp P c bl ev H KD (.buildSlice t n ps) = wpOp P ev H KD (.buildSlice t n ps) := by
 apply propext
 constructor
 ·intro h
  have h' := h
  obtain ⟨e, he, _⟩ := h'
  rw [runE_eff (by simp [cls])] at he
  simp only [runX, bsE] at he
  obtain ⟨⟨e', sz, by_⟩, hT, he⟩ := Option.bind_eq_some_iff.1 he
  split at he
  ·rename_i h1
   obtain ⟨z, hz, he⟩ := Option.bind_eq_some_iff.1 he
   split at he
   ·rename_i h2
    obtain ⟨es, hes, rfl⟩ := Option.map_eq_some_iff.1 he
    exact ⟨e', sz, by_, z, es, hT, h1.1, h1.2, hz, h2, hes, p_make_inv (f := fun b => .vec b sz 0 n) (o := .vec sz es) (by rw [runE_eff (by simp [cls])]; simp only [runX, bsE, hT, Option.bind_some]; rw [if_pos h1, hz, Option.bind_some, if_pos h2]; simp only [hes, Option.map_some]) h⟩
   ·cases he
  ·cases he
 ·rintro ⟨e', sz, by_, z, es, hT, h1, h1', hz, h2, hes, hk⟩
  exact p_make (f := fun b => .vec b sz 0 n) (o := .vec sz es) rfl (by rw [runE_eff (by simp [cls])]; simp only [runX, bsE, hT, Option.bind_some]; rw [if_pos ⟨h1, h1'⟩, hz, Option.bind_some, if_pos h2]; simp only [hes, Option.map_some]) trivial hk
@[go_sem] theorem p_makeSlice (t : Nat) (l c' : Operand) : pOp P c bl ev H KD (.makeSlice t l c') = wpOp P ev H KD (.makeSlice t l c') := by
 apply propext
 constructor
 ·intro h
  have h' := h
  obtain ⟨e, he, _⟩ := h'
  rw [runE_eff (by simp [cls])] at he
  simp only [runX] at he
  obtain ⟨e', sz, by_, z, k, n, k', m, h1, h2, h3, h4, h5, h6, h7, h8, h9, h10, rfl⟩ := msE_inv he
  exact ⟨e', sz, by_, z, k, n, k', m, h1, h2, h3, h4, h5, h6, h7, h8, h9, h10, p_make_inv (f := fun b => .vec b sz 0 n.toNat) (o := .vec sz (List.replicate n.toNat z)) (by rw [runE_eff (by simp [cls])]; exact he) h⟩
 ·rintro ⟨e', sz, by_, z, k, n, k', m, h1, h2, h3, h4, h5, h6, h7, h8, h9, h10, hk⟩
  exact p_make (f := fun b => .vec b sz 0 n.toNat) (o := .vec sz (List.replicate n.toNat z)) rfl (by rw [runE_eff (by simp [cls])]; simp only [runX]; rw [h5, h6]; exact msE_mk h1 h2 h3 h4 h7 h8 h9 h10) trivial hk
@[go_sem] theorem p_makeMap (t : Nat) : pOp P c bl ev H KD (.makeMap t none) = wpOp P ev H KD (.makeMap t none) := by
 apply propext
 constructor
 ·intro h
  exact p_make_inv (f := fun b => .map b) (o := .map []) (by rw [runE_eff (by simp [cls])]; rfl) h
 ·intro h
  exact p_make (f := fun b => .map b) (o := .map []) rfl (by rw [runE_eff (by simp [cls])]; rfl) trivial h
def stOk (bl : List Nat) : D → Prop
 | .box b _ | .el b _ _ _ => b ∉ bl
 | _ => False
def isPl : D → Prop
 | .box _ _ | .el _ _ _ _ => True
 | _ => False
@[go_sem] theorem isPl_box (b o : Nat) : isPl (.box b o) = True := rfl
@[go_sem] theorem isPl_el (b s i o : Nat) : isPl (.el b s i o) = True := rfl
@[go_sem] theorem stOk_box (bl : List Nat) (b o : Nat) : stOk bl (.box b o) = (b ∉ bl) := rfl
@[go_sem] theorem stOk_el (bl : List Nat) (b s i o : Nat) : stOk bl (.el b s i o) = (b ∉ bl) := rfl
@[go_sem] theorem p_store (t : Nat) (a x : Operand) : pOp P c bl ev H KD (.store t a x) = (isPl (ev a) ∧ wpOp P ev H KD (.store t a x)) := by
 apply propext
 have hrun : runE P c bl.l ev H (.store t a x) = storeE' P t (ev a) (ev x) H := by rw [runE_eff (by simp [cls])]; rfl
 constructor
 ·rintro ⟨e, he, hok, _, hk⟩
  rw [hrun] at he
  unfold storeE' at he
  obtain ⟨H1, hs, he⟩ := Option.bind_eq_some_iff.1 he
  have fin : ∀ b, rdB (ev a) = [b] → (H1 b).map (fun o => (⟨[], [b], some o, some b, fun _ => .undef⟩ : Ef)) = some e → wpOp P ev H KD (.store t a x) := by
   intro b hb h1
   obtain ⟨o, ho, rfl⟩ := Option.map_eq_some_iff.1 h1
   obtain ⟨o', ho', _, hH1, _⟩ := storeD_at hs hb
   rw [ho] at ho'; cases ho'
   have := hk b rfl
   have e2 : ((⟨[], [b], some o, some b, fun _ => .undef⟩ : Ef)).app b H = H1 := by show (H.minus [b]).set b o = _; rw [minus_set_one, hH1]
   rw [e2] at this
   exact ⟨H1, hs, this⟩
  cases ha : ev a with
  | box b off => rw [ha] at he; exact ⟨trivial, fin b (by rw [ha]; rfl) he⟩
  | el b s i off => rw [ha] at he; exact ⟨trivial, fin b (by rw [ha]; rfl) he⟩
  | _ => rw [ha] at he; simp at he
 ·rintro ⟨h1, H1, hs, hk⟩
  have fin : ∀ b, rdB (ev a) = [b] → storeE' P t (ev a) (ev x) H = (H1 b).map (fun o => (⟨[], [b], some o, some b, fun _ => .undef⟩ : Ef)) → pOp P c bl ev H KD (.store t a x) := by
   intro b hb hst
   obtain ⟨o, ho, hrw, hH1, hrw2⟩ := storeD_at hs hb
   rw [ho, Option.map_some] at hst
   refine ⟨_, hrun.trans hst, ⟨by simp, fun k hk => ?_, fun o' h' => by cases h'; exact hrw, fun k hk => by cases hk; simp⟩, trivial, fun k hkb => ?_⟩
   ·simp at hk; subst hk; exact ⟨(fun h => absurd h (by simp)), hrw2⟩
   ·have hkb : k = b := hkb
    subst hkb
    show KD .undef ((H.minus [k]).set k o)
    rw [minus_set_one, ← hH1]; exact hk
  cases ha : ev a with
  | box b off => exact fin b (by rw [ha]; rfl) (by rw [ha] at hs ⊢; simp only [storeE', hs, Option.bind_some])
  | el b s i off => exact fin b (by rw [ha]; rfl) (by rw [ha] at hs ⊢; simp only [storeE', hs, Option.bind_some])
  | _ => rw [ha] at h1; exact h1.elim
def xOk (bl : Bl) (H : Heap) (l : List Nat) : Prop := (∀ b ∈ inB bl.l l, H b ≠ none ∧ b ∉ bl.no) ∧ ∀ b ∈ outB bl.l l, rwAt (H b) = true
def mayT (bl : Bl) (b : Nat) : Prop := b ∉ bl.l ∨ b ∈ bl.may
def paV (o : Option Obj) (bl : Bl) (xl : List Nat) (b sz n by_ : Nat) (xs : List (List D)) (H : Heap) (KD : D → Heap → Prop) : Prop := match o with
 | some (.vec sz' es) => sz' = sz ∧ n ≤ es.length ∧ (n + xs.length) * by_ ≤ 140737488355328 ∧ n + xs.length ≤ 9223372036854775807 ∧ mayT bl b ∧ xOk bl H xl ∧
   ∀ b', (H b' = none ∨ b' ∈ b :: outB bl.l xl) → KD (.vec b' sz 0 (n + xs.length)) ((H.minus (b :: outB bl.l xl)).set b' (.vec sz (es.take n ++ xs)))
 | _ => False
@[go_sem] theorem paV_vec (bl : Bl) (xl : List Nat) (b sz sz' n by_ : Nat) (es xs : List (List D)) : paV (some (.vec sz' es)) bl xl b sz n by_ xs H KD = (sz' = sz ∧ n ≤ es.length ∧ (n + xs.length) * by_ ≤ 140737488355328 ∧ n + xs.length ≤ 9223372036854775807 ∧ mayT bl b ∧ xOk bl H xl ∧
      ∀ b', (H b' = none ∨ b' ∈ b :: outB bl.l xl) → KD (.vec b' sz 0 (n + xs.length)) ((H.minus (b :: outB bl.l xl)).set b' (.vec sz (es.take n ++ xs)))) := rfl
def paS (s : D) (bl : Bl) (xl : List Nat) (sz by_ : Nat) (xs : List (List D)) (H : Heap) (KD : D → Heap → Prop) : Prop := match s with
 | .nilsl => xs.length * by_ ≤ 140737488355328 ∧ xs.length ≤ 9223372036854775807 ∧ xs.isEmpty = false ∧ xOk bl H xl ∧ ∀ b, (H b = none ∨ b ∈ outB bl.l xl) → KD (.vec b sz 0 xs.length) ((H.minus (outB bl.l xl)).set b (.vec sz xs))
 | .vec b sz' lo n => sz' = sz ∧ lo = 0 ∧ paV (H b) bl xl b sz n by_ xs H KD
 | _ => False
@[go_sem] theorem paS_nil (bl : Bl) (xl : List Nat) (sz by_ : Nat) (xs : List (List D)) : paS .nilsl bl xl sz by_ xs H KD = (xs.length * by_ ≤ 140737488355328 ∧ xs.length ≤ 9223372036854775807 ∧ xs.isEmpty = false ∧ xOk bl H xl ∧ ∀ b, (H b = none ∨ b ∈ outB bl.l xl) → KD (.vec b sz 0 xs.length) ((H.minus (outB bl.l xl)).set b (.vec sz xs))) := rfl
@[go_sem] theorem paS_vec (bl : Bl) (xl : List Nat) (b sz sz' lo n by_ : Nat) (xs : List (List D)) : paS (.vec b sz' lo n) bl xl sz by_ xs H KD = (sz' = sz ∧ lo = 0 ∧ paV (H b) bl xl b sz n by_ xs H KD) := rfl
def paX (o : Option (List (List D))) (s x : D) (bl : Bl) (sz by_ : Nat) (H : Heap) (KD : D → Heap → Prop) : Prop := match o with
 | some xs => paS s bl (vecB x) sz by_ xs H KD
 | none => False
@[go_sem] theorem paX_some (xs : List (List D)) (s x : D) (sz by_ : Nat) : paX (some xs) s x bl sz by_ H KD = paS s bl (vecB x) sz by_ xs H KD := rfl
def paK (P : Program) (et : Option (Nat × Nat × Nat)) (bt : Base) (s x : D) (bl : Bl) (H : Heap) (KD : D → Heap → Prop) : Prop := match et with
 | some (e, sz, by_) => 0 < sz ∧ apT bt ∧ apZ (zeroD P e) sz ∧ paX (elemsD H sz x) s x bl sz by_ H KD
 | none => False
@[go_sem] theorem paK_some (e sz by_ : Nat) (bt : Base) (s x : D) : paK P (some (e, sz, by_)) bt s x bl H KD = (0 < sz ∧ apT bt ∧ apZ (zeroD P e) sz ∧ paX (elemsD H sz x) s x bl sz by_ H KD) := rfl
@[go_sem] theorem vecB_vec (b sz lo n : Nat) : vecB (.vec b sz lo n) = [b] := rfl
@[go_sem] theorem vecB_sl (sz : Nat) (es : List (List D)) : vecB (.sl sz es) = [] := rfl
@[go_sem] theorem vecB_nil : vecB .nilsl = [] := rfl
@[go_sem] theorem vecB_str (s : ByteArray) : vecB (.str s) = [] := rfl
@[go_sem] theorem vecB_int (k : IntKind) (n : Int) : vecB (.int k n) = [] := rfl
@[go_sem] theorem vecB_bool (b : Bool) : vecB (.bool b) = [] := rfl
@[go_sem] theorem vecB_agg (cs : List D) : vecB (.agg cs) = [] := rfl
@[go_sem] theorem vecB_box (b o : Nat) : vecB (.box b o) = [b] := rfl
@[go_sem] theorem vecB_el (b s i o : Nat) : vecB (.el b s i o) = [] := rfl
@[go_sem] theorem vecB_ro (cs : List D) : vecB (.ro cs) = [] := rfl
@[go_sem] theorem vecB_fn (f : Fn) (a b : List D) : vecB (.fn f a b) = [] := rfl
@[go_sem] theorem vecB_map (b : Nat) : vecB (.map b) = [] := rfl
@[go_sem] theorem vecB_glob (b : Nat) : vecB (.glob b) = [] := rfl
@[go_sem] theorem vecB_nilp : vecB .nilp = [] := rfl
@[go_sem] theorem vecB_nilfn : vecB .nilfn = [] := rfl
@[go_sem] theorem outB_nil (bl : List Nat) : outB bl [] = [] := rfl
theorem outB_out {bl : List Nat} (b : Nat) (l : List Nat) (h : b ∉ bl) : outB bl (b :: l) = b :: outB bl l := by simp [outB, h]
theorem outB_in {bl : List Nat} (b : Nat) (l : List Nat) (h : b ∈ bl) : outB bl (b :: l) = outB bl l := by simp [outB, h]
@[go_sem] theorem xOk_nil : xOk bl H [] = True := by simp [xOk, inB, outB]
theorem xOk_one (b : Nat) (o : Obj) (hb : H b = some o) (hr : o.rw = true) (hno : b ∉ bl.l ∨ b ∉ bl.no) : xOk bl H [b] := by
 refine ⟨fun k hk => ?_, fun k hk => ?_⟩
 ·have hk2 := inB_mem.1 hk; have := hk2.1; simp at this; subst this; exact ⟨by rw [hb]; simp, hno.resolve_left fun g => g hk2.2⟩
 ·have := (outB_mem.1 hk).1; simp at this; subst this; rw [hb]; exact hr
theorem minus_cons (b : Nat) (l : List Nat) : H.minus (b :: l) = (H.del b).minus l := by
 funext k; unfold Heap.minus Heap.del
 by_cases h1 : k = b <;> by_cases h2 : k ∈ l <;> simp [h1, h2]
theorem p_append_mk {s x : Operand} {t t' : Nat} (h : paK P (elemT P t) (baseT P t') (ev s) (ev x) bl H KD) : pOp P c bl ev H KD (.call ⟨.builtin .append, #[s, x], #[t, t']⟩) := by
 have hrun : runE P c bl.l ev H (.call ⟨.builtin .append, #[s, x], #[t, t']⟩) = appE P bl.l H t t' (ev s) (ev x) := by rw [runE_eff (by simp [cls])]; rfl
 unfold paK at h
 split at h
 ·rename_i e sz by_ hT
  obtain ⟨h1, h2, h3, h4⟩ := h
  have h3' : (zeroD P e).map (·.length) = some sz := by
   unfold apZ at h3
   split at h3
   ·rename_i z hz; rw [hz]; simp [h3]
   ·exact h3.elim
  unfold paX at h4
  split at h4
  ·rename_i xs hxs
   have hrun2 := hrun
   unfold appE at hrun2
   rw [hT, Option.bind_some, if_pos ⟨h1, h2, h3'⟩, hxs, Option.bind_some] at hrun2
   have okx : ∀ (del : List Nat) (new : Option Obj) (f : Nat → D), xOk bl H (vecB (ev x)) → (∀ b ∈ del, mayT bl b ∧ rwAt (H b) = true) → (∀ o, new = some o → o.rw = true) → okEf bl H ⟨inB bl.l (vecB (ev x)), del, new, none, f⟩ := fun del new f hx hd hn =>
    ⟨fun b hb => ⟨⟨(inB_mem.1 hb).2, (hx.1 b hb).1⟩, (hx.1 b hb).2⟩, fun b hb => ⟨fun _ => (hd b hb).1, (hd b hb).2⟩, hn, fun b hb => by cases hb⟩
   unfold paS at h4
   split at h4
   ·rename_i hs
    obtain ⟨k1, k2, k3, k4, k5⟩ := h4
    rw [hs] at hrun2
    simp only at hrun2
    rw [if_pos ⟨k1, k2, k3⟩] at hrun2
    exact ⟨_, hrun2, okx _ _ _ k4 (fun b hb => ⟨.inl (outB_mem.1 hb).2, k4.2 b hb⟩) (fun o ho => by cases ho; rfl), trivial, fun b hb => k5 b hb⟩
   ·rename_i b sz' lo n hs
    obtain ⟨k1, k2, h5⟩ := h4
    unfold paV at h5
    split at h5
    ·rename_i sz'' es hb
     obtain ⟨k3, k4, k5, k6, k7, k8, k9⟩ := h5
     rw [hs] at hrun2
     simp only [hb] at hrun2
     rw [if_pos ⟨k1, k3, k2, k4, k5, k6⟩] at hrun2
     refine ⟨_, hrun2, okx _ _ _ k8 (fun b' hb' => ?_) (fun o ho => by cases ho; rfl), trivial, fun b' hb' => k9 b' hb'⟩
     rcases List.mem_cons.1 hb' with rfl | hb'
     ·exact ⟨k7, by rw [hb]; rfl⟩
     ·exact ⟨.inl (outB_mem.1 hb').2, k8.2 b' hb'⟩
    ·exact h5.elim
   ·exact h4.elim
  ·exact h4.elim
 ·exact h.elim
def blks : List D → List Nat := fun l => l.flatMap vecB
@[go_sem] theorem blks_nil : blks [] = [] := rfl
theorem blks_cons (d : D) (l : List D) : blks (d :: l) = vecB d ++ blks l := by simp [blks]
attribute [go_sem] blks_cons
def crK (c : CR) (H : Heap) (l : List Nat) (KD : D → Heap → Prop) : Prop := match c.new with
 | none => KD (c.val 0) (H.minus l)
 | some o => o.rw = true ∧ ∀ b, (H b = none ∨ b ∈ l) → KD (c.val b) ((H.minus l).set b o)
def pcA (P : Program) (c : CR) (bl : Bl) (f : D) (args : List D) (H : Heap) (KD : D → Heap → Prop) : Prop := match f with
 | .fn (.func g) first cap => (∀ b ∈ inB bl.l (blks (first ++ args ++ cap)), H b ≠ none ∧ b ∉ bl.no) ∧ (∀ b ∈ outB bl.l (blks (first ++ args ++ cap)), rwAt (H b) = true) ∧
   PureC P g (first ++ args ++ cap) H (blks (first ++ args ++ cap)) (outB bl.l (blks (first ++ args ++ cap))) c ∧ crK c H (outB bl.l (blks (first ++ args ++ cap))) KD
 | _ => False
def pcB (P : Program) (c : CR) (bl : Bl) (g : Nat) (as_ : List D) (l : List Nat) (H : Heap) (KD : D → Heap → Prop) : Prop := xOk bl H l ∧ PureC P g as_ H l (outB bl.l l) c ∧ crK c H (outB bl.l l) KD
@[go_sem] theorem pcA_fn (g : Nat) (first args cap : List D) : pcA P c bl (.fn (.func g) first cap) args H KD = pcB P c bl g (first ++ args ++ cap) (blks (first ++ args ++ cap)) H KD := by
 unfold pcA pcB xOk; simp only [and_assoc]
@[go_sem] theorem p_call (f : Operand) (args : List Operand) (ts : Array Nat) : pOp P c bl ev H KD (.call ⟨.value f, args.toArray, ts⟩) = pcA P c bl (ev f) (args.map ev) H KD := by
 have hrun : runE P c bl.l ev H (.call ⟨.value f, args.toArray, ts⟩) = runX P c bl.l ev H (.call ⟨.value f, args.toArray, ts⟩) := runE_eff (by simp [cls])
 apply propext
 unfold pcA
 constructor
 ·rintro ⟨e, he, hok, hc, hk⟩
  rw [hrun] at he
  simp only [runX] at he
  simp only [callOk] at hc
  split at he
  ·rename_i g first cap hf
   cases he
   (first | rw [hf] at hc ⊢ | rw [hf] at hc)
   refine ⟨fun b hb => ⟨(hok.rd b hb).1.2, (hok.rd b hb).2⟩, fun b hb => (hok.del b hb).2, hc, ?_⟩
   unfold crK
   unfold Ef.okH Ef.app at hk
   cases hn : c.new with
   | none => simp only [hn, CR.f] at hk ⊢; exact hk 0 trivial
   | some o =>
    simp only [hn, CR.f] at hk ⊢
    exact ⟨hok.new o hn, fun b hb => hk b hb⟩
  ·cases he
 ·intro h
  split at h
  ·rename_i g first cap hf
   obtain ⟨h1, h2, h3, h4⟩ := h
   refine ⟨⟨inB bl.l ((first ++ args.map ev ++ cap).flatMap vecB), outB bl.l ((first ++ args.map ev ++ cap).flatMap vecB), c.new, none, c.f⟩, ?_, ⟨fun b hb => ⟨⟨(inB_mem.1 hb).2, (h1 b hb).1⟩, (h1 b hb).2⟩, fun b hb => ⟨fun _ => .inl (outB_mem.1 hb).2, h2 b hb⟩, fun o ho => ?_, by simp⟩, ?_, fun b hb => ?_⟩
   ·rw [hrun]; simp only [runX, hf]
   ·unfold crK at h4
    simp only at ho
    rw [ho] at h4
    exact h4.1
   ·simp only [callOk, hf]; exact h3
   ·unfold crK at h4
    unfold Ef.okH at hb
    unfold Ef.app
    cases hn : c.new with
    | none => simp only [hn, CR.f] at h4 ⊢; exact h4
    | some o =>
     simp only [hn, CR.f] at h4 hb ⊢
     exact h4.2 b hb
  ·exact h.elim
theorem pc0 {g : Nat} {as_ : List D} {c : D} (h : ∀ (H' : Heap) (Q : D → Heap → Prop), (∀ k cs, H k = some (.ro cs) → H' k = some (.ro cs)) → Q c H' → ACalls P g as_ H' Q) (hk : KD c H) : pcB P (.c c) bl g as_ [] H KD :=
 ⟨by rw [xOk_nil]; trivial, fun H' hro _ => h H' _ hro ⟨rfl, by rw [outB_nil, minus_nil]; exact Heap.Le.refl H'⟩, by rw [outB_nil]; show KD c (H.minus []); rw [minus_nil]; exact hk⟩
theorem pc1 {g b : Nat} {as_ : List D} {c : D} {o : Obj} (hb : H b = some o) (hr : o.rw = true) (hn : b ∉ bl.l) (h : ∀ (H' : Heap) (Q : D → Heap → Prop), (∀ k cs, H k = some (.ro cs) → H' k = some (.ro cs)) → H' b = some o → Q c (H'.del b) → ACalls P g as_ H' Q) (hk : KD c (H.del b)) : pcB P (.c c) bl g as_ [b] H KD := by
 have e : outB bl.l [b] = [b] := by rw [outB_out b [] hn, outB_nil]
 have e2 : ∀ H : Heap, H.minus [b] = H.del b := fun H => by rw [minus_cons, minus_nil]
 exact ⟨xOk_one b o hb hr (.inl hn), fun H' hro hf => h H' _ hro (by rw [hf b (by simp), hb]) ⟨rfl, by rw [e, e2]; exact Heap.Le.refl _⟩, by rw [e]; show KD c (H.minus [b]); rw [e2]; exact hk⟩
theorem pcm {g : Nat} {as_ : List D} {f : Nat → D} {o : Obj} (ho : o.rw = true) (h : ∀ (H' : Heap) (Q : D → Heap → Prop), (∀ k cs, H k = some (.ro cs) → H' k = some (.ro cs)) → (∀ b, H' b = none → Q (f b) (H'.set b o)) → ACalls P g as_ H' Q) (hk : ∀ b, H b = none → KD (f b) (H.set b o)) : pcB P (.mk' f o) bl g as_ [] H KD := by
 refine ⟨by rw [xOk_nil]; trivial, fun H' hro _ => h H' _ hro fun b hb => ?_, ?_⟩
 ·exact ⟨b, .inl hb, rfl, by rw [outB_nil, minus_nil]; exact Heap.Le.refl _⟩
 ·rw [outB_nil]
  refine ⟨ho, fun b hb => ?_⟩
  rw [minus_nil]
  exact hk b (hb.resolve_right (by simp))
theorem inB_in {bl : List Nat} (b : Nat) (h : b ∈ bl) : inB bl [b] = [b] := by simp [inB, h]
theorem pcr {g b : Nat} {as_ : List D} {c : D} {o : Obj} (hb : H b = some o) (hl : b ∈ bl.l) (hn : b ∉ bl.no) (h : ∀ (H' : Heap) (Q : D → Heap → Prop), (∀ k cs, H k = some (.ro cs) → H' k = some (.ro cs)) → H' b = some o → Q c H' → ACalls P g as_ H' Q) (hk : KD c H) : pcB P (.c c) bl g as_ [b] H KD := by
 have e : outB bl.l [b] = [] := by rw [outB_in b [] hl, outB_nil]
 refine ⟨⟨fun k hk => ?_, fun k hk => ?_⟩, fun H' hro hf => h H' _ hro (by rw [hf b (by simp), hb]) ⟨rfl, by rw [e, minus_nil]; exact Heap.Le.refl _⟩, by rw [e]; show KD c (H.minus []); rw [minus_nil]; exact hk⟩
 ·rw [inB_in b hl] at hk; simp at hk; subst hk; exact ⟨by rw [hb]; simp, hn⟩
 ·rw [e] at hk; cases hk
theorem pcmr {g b : Nat} {as_ : List D} {f : Nat → D} {o o' : Obj} (hb : H b = some o) (hl : b ∈ bl.l) (hn : b ∉ bl.no) (ho : o'.rw = true) (h : ∀ (H' : Heap) (Q : D → Heap → Prop), (∀ k cs, H k = some (.ro cs) → H' k = some (.ro cs)) → H' b = some o → (∀ v, H' v = none → Q (f v) (H'.set v o')) → ACalls P g as_ H' Q) (hk : ∀ v, H v = none → KD (f v) (H.set v o')) : pcB P (.mk' f o') bl g as_ [b] H KD := by
 have e : outB bl.l [b] = [] := by rw [outB_in b [] hl, outB_nil]
 refine ⟨⟨fun k hk => ?_, fun k hk => ?_⟩, fun H' hro hf => h H' _ hro (by rw [hf b (by simp), hb]) fun v hv => ?_, ?_⟩
 ·rw [inB_in b hl] at hk; simp at hk; subst hk; exact ⟨by rw [hb]; simp, hn⟩
 ·rw [e] at hk; cases hk
 ·exact ⟨v, .inl hv, rfl, by rw [e, minus_nil]; exact Heap.Le.refl _⟩
 ·rw [e]
  refine ⟨ho, fun v hv => ?_⟩
  rw [minus_nil]
  exact hk v (hv.resolve_right (by simp))
end
end Go.Av
end
section
namespace Go.Av
def outG (sz n : Nat) : Option Nat → D
 | none => .nilsl
 | some c => .vec c sz 0 n
def delB (H : Heap) : Option Nat → Heap
 | none => H
 | some c => H.del c
def putB (H : Heap) (sz : Nat) (es : List (List D)) : Option Nat → Heap
 | none => H
 | some c => H.set c (.vec sz es)
def OutAt (H : Heap) (sz : Nat) (es : List (List D)) : Option Nat → Prop
 | none => es = []
 | some c => H c = some (.vec sz es)
theorem set_del {H : Heap} {b : Nat} {o : Obj} (h : H b = none) : (H.set b o).del b = H := by
 funext k
 unfold Heap.del Heap.set
 by_cases hk : k = b
 ·subst hk; simp [h]
 ·simp [hk]
@[go_sem] theorem cells_out (sz n : Nat) (ob : Option Nat) : (outG sz n ob).cells = [outG sz n ob] := by cases ob <;> rfl
@[go_sem] theorem one_out (sz n : Nat) (ob : Option Nat) : (outG sz n ob).one = true := by cases ob <;> rfl
@[go_sem] theorem out_none (sz n : Nat) : outG sz n none = .nilsl := rfl
@[go_sem] theorem out_some (sz n c : Nat) : outG sz n (some c) = .vec c sz 0 n := rfl
theorem len_out {P : Program} {t sz n : Nat} {ob : Option Nat} (h : ob = none → n = 0) : lenD P t (outG sz n ob) = if baseT P t = .slice then some (.int .i64 n) else none := by
 cases ob with
 | none => rw [h rfl]; rfl
 | some c => rfl
section
variable {P : Program} {H : Heap} {KD : D → Heap → Prop}
theorem apS_out {sz by_ n : Nat} {ob : Option Nat} (es : List (List D)) {xs : List (List D)} (hne : xs ≠ []) (hn : n = es.length) (hc : OutAt H sz es ob) (h1 : (n + xs.length) * by_ ≤ 140737488355328) (h2 : n + xs.length ≤ 9223372036854775807)
  (h : ∀ b', delB H ob b' = none → KD (.vec b' sz 0 (n + xs.length)) ((delB H ob).set b' (.vec sz (es ++ xs)))) : apS (outG sz n ob) sz by_ xs H KD := by
 cases ob with
 | none =>
  have e : es = [] := hc
  subst e
  subst hn
  simp only [List.length_nil, Nat.zero_add, List.nil_append, delB] at h1 h2 h
  exact ⟨h1, h2, fun e => absurd e hne, fun _ b hb => h b hb⟩
 | some c =>
  have e : H c = some (.vec sz es) := hc
  subst hn
  refine ⟨rfl, .inl ⟨rfl, ?_⟩⟩
  rw [e]
  refine ⟨rfl, Nat.le_refl _, h1, h2, fun b hb => ?_⟩
  rw [List.take_of_length_le (Nat.le_refl _)]
  exact h b hb
theorem ACalls.out {f n : Nat} {sz : Nat} {es : List (List D)} {ob : Option Nat} {ds : List D} {Q : D → Heap → Prop} (hn : n = es.length) (hc : OutAt H sz es ob) (h : ACalls P f (.sl sz es :: ds) (delB H ob) Q) : ACalls P f (outG sz n ob :: ds) H Q := by
 subst hn
 cases ob with
 | none =>
  have e : es = [] := hc
  subst e
  refine ACalls.shift (args' := .sl sz [] :: ds) (fun w vs h1 h2 h3 => ⟨by simpa using h1, fun i d hd => ?_, h3, fun _ hn => hn⟩) h
  cases i with
  | zero => simp at hd; subst hd; exact (h2 0 _ rfl).nil_sl sz
  | succ i => exact h2 (i + 1) d (by simpa using hd)
 | some c =>
  refine ACalls.freeze (args' := .sl sz es :: ds) hc (by simp) (fun i d d' h1 h2 => ?_) h
  cases i with
  | zero => simp [outG] at h1 h2; subst h1; subst h2; exact .all
  | succ i => simp at h1 h2; rw [h1] at h2; cases h2; exact .same _
theorem ACalls.vec1 {f b n sz : Nat} {es : List (List D)} {ds : List D} {Q : D → Heap → Prop} (hb : H b = some (.vec sz es)) (hn : n = es.length) (h : ACalls P f (.sl sz es :: ds) (H.del b) Q) : ACalls P f (.vec b sz 0 n :: ds) H Q :=
 ACalls.out (ob := some b) hn hb h
theorem ACalls.vec2 {f b n sz : Nat} {es : List (List D)} {a : D} {ds : List D} {Q : D → Heap → Prop} (hb : H b = some (.vec sz es)) (hn : n = es.length) (h : ACalls P f (a :: .sl sz es :: ds) (H.del b) Q) : ACalls P f (a :: .vec b sz 0 n :: ds) H Q := by
 subst hn
 refine ACalls.freeze (args' := a :: .sl sz es :: ds) hb (by simp) (fun i d d' h1 h2 => ?_) h
 match i with
 | 0 => simp at h1 h2; subst h1; subst h2; exact .same _
 | 1 => simp at h1 h2; subst h1; subst h2; exact .all
 | i + 2 => simp at h1 h2; rw [h1] at h2; cases h2; exact .same _
theorem Fin.out {n sz : Nat} {es : List (List D)} {ob : Option Nat} {Q : D → Heap → Prop} (hn : n = es.length) (hc : OutAt H sz es ob) (h : Fin Q (.sl sz es) (delB H ob)) : Fin Q (outG sz n ob) H := by
 subst hn
 cases ob with
 | none =>
  have e : es = [] := hc
  subst e
  unfold Fin at h ⊢
  obtain ⟨H1, e, h1, h2⟩ := h
  exact ⟨H1, e, Shift.trans (fun w v hr hs => ⟨by cases hr; exact .sl0 _ _ _, hs, fun _ hn => hn⟩) h1, h2⟩
 | some c => exact Fin.freeze hc .all h
theorem Fin.out1 {n sz : Nat} {es : List (List D)} {ob : Option Nat} {ds : List D} {Q : D → Heap → Prop} (hn : n = es.length) (hc : OutAt H sz es ob) (h : Fin Q (.tuple (.sl sz es :: ds)) (delB H ob)) : Fin Q (.tuple (outG sz n ob :: ds)) H := by
 cases ob with
 | none =>
  have e : es = [] := hc
  subst e
  exact Fin.nilsl sz ds h
 | some c => exact Fin.slice1 hc hn h
end
theorem outAt_put {H : Heap} {sz : Nat} {es : List (List D)} {ob : Option Nat} (h : ob = none → es = []) : OutAt (putB H sz es ob) sz es ob := by
 cases ob with
 | none => exact h rfl
 | some c => simp [OutAt, putB, Heap.set]
def Rw {α : Type} (f : α → List D) (l : List α) : List (List D) := l.map f
section
variable {α : Type} {f : α → List D}
@[go_sem] theorem Rw_len (l : List α) : (Rw f l).length = l.length := by simp [Rw]
@[go_sem] theorem Rw_zero (x : α) (l : List α) : (Rw f (x :: l)).getD 0 [] = f x := rfl
theorem Rw_at (l : List α) (k : Nat) (h : k < l.length) : (Rw f l).getD k [] = f l[k] := by simp [Rw, h]
theorem Rw_get (l : List α) (k : Nat) (h : k < l.length) : (Rw f l)[k]? = some (f l[k]) := by simp [Rw, h]
theorem Rw_take (l : List α) (k : Nat) : (Rw f l).take k = Rw f (l.take k) := by simp [Rw]
theorem Rw_drop (l : List α) (k : Nat) : (Rw f l).drop k = Rw f (l.drop k) := by simp [Rw]
theorem Rw_app (l m : List α) : Rw f l ++ Rw f m = Rw f (l ++ m) := by simp [Rw]
theorem Rw_nil : Rw f [] = [] := rfl
theorem Rw_set (l : List α) (k : Nat) (x : α) (c : List D) (h : f x = c) : (Rw f l).set k c = Rw f (l.set k x) := by subst h; simp [Rw, List.map_set]
theorem Rw_rep (n : Nat) (x : α) (c : List D) (h : f x = c) : List.replicate n c = Rw f (List.replicate n x) := by subst h; simp [Rw]
end
def intC (n : Int) : List D := [.int .i64 n]
def strC (s : ByteArray) : List D := [.str s]
def boolC (b : Bool) : List D := [.bool b]
@[go_sem] theorem intC_d (n : Int) : intC n = [.int .i64 n] := rfl
@[go_sem] theorem strC_d (s : ByteArray) : strC s = [.str s] := rfl
@[go_sem] theorem boolC_d (b : Bool) : boolC b = [.bool b] := rfl
end Go.Av
end
section
namespace Go.Lin
open Go Go.Av
def valD : List Nat → Nat
 | [] => 0
 | d :: l => d + 4294967296 * valD l
def digs (n : Nat) : List Nat := if h : n = 0 then [] else n % 4294967296 :: digs (n / 4294967296)
termination_by n
decreasing_by exact Nat.div_lt_self (Nat.pos_of_ne_zero h) (by decide)
def digC (d : Nat) : List D := [.int .u32 d]
@[go_sem] theorem digC_d (n : Nat) : digC n = [.int .u32 n] := rfl
abbrev natD (n : Nat) : D := .sl 1 (Rw digC (digs n))
def Dig (l : List Nat) : Prop := ∀ d ∈ l, d < 4294967296
theorem digs_zero : digs 0 = [] := by unfold digs; simp
theorem digs_pos {n : Nat} (h : n ≠ 0) : digs n = n % 4294967296 :: digs (n / 4294967296) := by rw [digs]; simp [h]
theorem digs_dig (n : Nat) : Dig (digs n) := by
 induction n using Nat.strongRecOn with
 | ind n ih =>
  intro d hd
  by_cases h : n = 0
  ·subst h; rw [digs_zero] at hd; cases hd
  ·rw [digs_pos h] at hd
   rcases List.mem_cons.1 hd with rfl | hd
   ·exact Nat.mod_lt _ (by decide)
   ·exact ih (n / 4294967296) (Nat.div_lt_self (Nat.pos_of_ne_zero h) (by decide)) d hd
theorem valD_digs (n : Nat) : valD (digs n) = n := by
 induction n using Nat.strongRecOn with
 | ind n ih =>
  by_cases h : n = 0
  ·subst h; rw [digs_zero]; rfl
  ·rw [digs_pos h, valD, ih _ (Nat.div_lt_self (Nat.pos_of_ne_zero h) (by decide))]
   exact Nat.mod_add_div n 4294967296
theorem valD_append (l m : List Nat) : valD (l ++ m) = valD l + 4294967296 ^ l.length * valD m := by
 induction l with
 | nil => simp [valD]
 | cons d l ih =>
  rw [List.cons_append, valD, ih, valD, List.length_cons, Nat.pow_succ, Nat.mul_add, Nat.mul_comm (4294967296 ^ l.length) 4294967296, Nat.mul_assoc, Nat.add_assoc]
theorem valD_snoc (l : List Nat) (d : Nat) : valD (l ++ [d]) = valD l + 4294967296 ^ l.length * d := by rw [valD_append]; simp [valD]
theorem valD_take_succ (l : List Nat) (i : Nat) (h : i < l.length) : valD (l.take (i + 1)) = valD (l.take i) + 4294967296 ^ i * l[i] := by
 rw [List.take_succ_eq_append_getElem h, valD_snoc, List.length_take, Nat.min_eq_left (by omega)]
theorem valD_drop (l : List Nat) (i : Nat) (h : i < l.length) : valD (l.drop i) = l[i] + 4294967296 * valD (l.drop (i + 1)) := by
 rw [List.drop_eq_getElem_cons h, valD]
theorem valD_zeros (n : Nat) : valD (List.replicate n 0) = 0 := by
 induction n with
 | zero => rfl
 | succ n ih => rw [List.replicate_succ, valD, ih]
theorem valD_lt {l : List Nat} (h : Dig l) : valD l < 4294967296 ^ l.length := by
 induction l with
 | nil => simp [valD]
 | cons d l ih =>
  have h1 := h d (List.mem_cons_self ..)
  have h2 := ih (fun x hx => h x (List.mem_cons_of_mem _ hx))
  rw [valD, List.length_cons, Nat.pow_succ]
  calc d + 4294967296 * valD l < 4294967296 + 4294967296 * valD l := by omega
   _ = 4294967296 * (valD l + 1) := by rw [Nat.mul_add]; omega
   _ ≤ 4294967296 * 4294967296 ^ l.length := Nat.mul_le_mul_left _ h2
   _ = 4294967296 ^ l.length * 4294967296 := Nat.mul_comm _ _
theorem digs_of {l : List Nat} (h : Dig l) (hl : ∀ (hn : l ≠ []), l.getLast hn ≠ 0) : digs (valD l) = l := by
 induction l with
 | nil => rw [valD, digs_zero]
 | cons d l ih =>
  have h1 : d < 4294967296 := h d (List.mem_cons_self ..)
  have h2 := ih (fun x hx => h x (List.mem_cons_of_mem _ hx)) (fun hn => by
   have := hl (List.cons_ne_nil _ _)
   rwa [List.getLast_cons hn] at this)
  have hne : valD (d :: l) ≠ 0 := by
   rw [valD]
   cases l with
   | nil =>
    have := hl (List.cons_ne_nil _ _)
    simp at this
    simp [valD, this]
   | cons e l =>
    intro h0
    have hz : valD (e :: l) = 0 := by
     have : 4294967296 * valD (e :: l) = 0 := by omega
     rcases Nat.mul_eq_zero.1 this with g | g
     ·exact absurd g (by decide)
     ·exact g
    rw [hz, digs_zero] at h2
    cases h2
  rw [digs_pos hne]
  have e1 : valD (d :: l) % 4294967296 = d := by rw [valD, Nat.add_mul_mod_self_left]; exact Nat.mod_eq_of_lt h1
  have e2 : valD (d :: l) / 4294967296 = valD l := by rw [valD, Nat.add_mul_div_left _ _ (by decide), Nat.div_eq_of_lt h1, Nat.zero_add]
  rw [e1, e2, h2]
theorem digs_last (n : Nat) : ∀ (hn : digs n ≠ []), (digs n).getLast hn ≠ 0 := by
 induction n using Nat.strongRecOn with
 | ind n ih =>
  intro hn
  by_cases h : n = 0
  ·subst h; rw [digs_zero] at hn; exact absurd rfl hn
  ·have e := digs_pos h
   by_cases h2 : n / 4294967296 = 0
   ·have e2 : digs n = [n % 4294967296] := by rw [e, h2, digs_zero]
    have : n % 4294967296 = n := Nat.mod_eq_of_lt (by rcases Nat.div_eq_zero_iff.1 h2 with g | g; exact absurd g (by decide); exact g)
    simp only [e2, List.getLast_singleton, this]; exact h
   ·have hne : digs (n / 4294967296) ≠ [] := by rw [digs_pos h2]; exact List.cons_ne_nil _ _
    have g := ih (n / 4294967296) (Nat.div_lt_self (Nat.pos_of_ne_zero h) (by decide)) hne
    have e3 : (digs n).getLast hn = (n % 4294967296 :: digs (n / 4294967296)).getLast (List.cons_ne_nil _ _) := by congr 1
    rw [e3, List.getLast_cons hne]; exact g
theorem last_eq {l m : List Nat} {x : Nat} (e : l = m ++ [x]) (h : l ≠ []) : l.getLast h = x := by subst e; simp
def trimN : List Nat → Nat → Nat
 | _, 0 => 0
 | l, n + 1 => if l.getD n 0 = 0 then trimN l n else n + 1
theorem trimN_le (l : List Nat) (n : Nat) : trimN l n ≤ n := by
 induction n with
 | zero => exact Nat.le_refl _
 | succ n ih => unfold trimN; split; omega; exact Nat.le_refl _
theorem trimN_digs {l : List Nat} (h : Dig l) : ∀ n, n ≤ l.length → l.take (trimN l n) = digs (valD (l.take n))
 | 0, _ => by simp [trimN, valD, digs_zero]
 | n + 1, hn => by
  have hl : n < l.length := by omega
  have hg : l.getD n 0 = l[n] := by simp [hl]
  unfold trimN
  rw [hg]
  split
  ·rename_i h0
   rw [trimN_digs h n (by omega), valD_take_succ l n hl, h0, Nat.mul_zero, Nat.add_zero]
  ·rename_i h0
   refine (digs_of (fun d hd => h d (List.mem_of_mem_take hd)) fun hne => ?_).symm
   rw [last_eq (List.take_succ_eq_append_getElem hl) hne]; exact h0
theorem trim_all {l : List Nat} (h : Dig l) : l.take (trimN l l.length) = digs (valD l) := by
 have := trimN_digs h l.length (Nat.le_refl _)
 rwa [List.take_length] at this
theorem digs_len (n k : Nat) (h : n < 4294967296 ^ k) : (digs n).length ≤ k := by
  induction k generalizing n with
  | zero => have : n = 0 := by simpa using h
            subst this; rw [digs_zero]; exact Nat.le_refl _
  | succ k ih =>
    by_cases h0 : n = 0
    · subst h0; rw [digs_zero]; exact Nat.zero_le _
    · rw [digs_pos h0, List.length_cons]
      have := ih (n / 4294967296) (Nat.div_lt_of_lt_mul (by rw [Nat.pow_succ, Nat.mul_comm] at h; exact h))
      omega
theorem digs_len_pos (n : Nat) : (digs n).length = 0 ↔ n = 0 := by
 constructor
 ·intro h
  have := valD_digs n
  rw [List.eq_nil_of_length_eq_zero h] at this
  exact this.symm
 ·rintro rfl; rw [digs_zero]; rfl
theorem digs_one {n : Nat} (h : n < 4294967296) (h0 : n ≠ 0) : digs n = [n] := by
 rw [digs_pos h0, Nat.mod_eq_of_lt h, Nat.div_eq_of_lt h, digs_zero]
theorem digs_len_lt {a b : Nat} (h : (digs a).length < (digs b).length) : a < b := by
 by_cases hb : b = 0
 ·subst hb; rw [digs_zero] at h; simp at h
 ·have h1 : a < 4294967296 ^ (digs a).length := by have := valD_lt (digs_dig a); rwa [valD_digs] at this
  have hne : digs b ≠ [] := by intro e; rw [e] at h; simp at h
  have h2 : 4294967296 ^ ((digs b).length - 1) ≤ b := by
   have e := List.dropLast_concat_getLast hne
   have g := valD_digs b
   rw [← e, valD_snoc] at g
   have l := digs_last b hne
   have : 4294967296 ^ (digs b).dropLast.length * 1 ≤ 4294967296 ^ (digs b).dropLast.length * (digs b).getLast hne := Nat.mul_le_mul_left _ (by omega)
   rw [List.length_dropLast] at this
   rw [List.length_dropLast] at g
   omega
  exact Nat.lt_of_lt_of_le h1 (Nat.le_trans (Nat.pow_le_pow_right (by decide) (by omega)) h2)
theorem digs_mono {a b : Nat} (h : a ≤ b) : (digs a).length ≤ (digs b).length := by
 by_cases g : (digs b).length < (digs a).length
 ·have := digs_len_lt g; omega
 ·omega
theorem valD_cmp {l m : List Nat} (hl : Dig l) (hm : Dig m) (he : l.length = m.length) {i : Nat} (hi : i < l.length) (hd : l.drop (i + 1) = m.drop (i + 1)) : l[i] < m[i]'(by omega) → valD l < valD m := fun h => by
 have e1 : valD l = valD (l.take i) + 4294967296 ^ i * (l[i] + 4294967296 * valD (l.drop (i + 1))) := by
  conv => lhs; rw [← List.take_append_drop i l, valD_append, valD_drop l i hi, List.length_take, Nat.min_eq_left (by omega)]
 have e2 : valD m = valD (m.take i) + 4294967296 ^ i * (m[i] + 4294967296 * valD (m.drop (i + 1))) := by
  conv => lhs; rw [← List.take_append_drop i m, valD_append, valD_drop m i (by omega), List.length_take, Nat.min_eq_left (by omega)]
 have h3 := valD_lt (l := l.take i) (fun d hd => hl d (List.mem_of_mem_take hd))
 rw [List.length_take, Nat.min_eq_left (by omega)] at h3
 rw [e1, e2, hd]
 calc valD (l.take i) + 4294967296 ^ i * (l[i] + 4294967296 * valD (m.drop (i + 1))) < 4294967296 ^ i + 4294967296 ^ i * (l[i] + 4294967296 * valD (m.drop (i + 1))) := by omega
  _ = 4294967296 ^ i * (l[i] + 1 + 4294967296 * valD (m.drop (i + 1))) := by rw [Nat.mul_add, Nat.mul_add, Nat.mul_add]; omega
  _ ≤ 4294967296 ^ i * (m[i] + 4294967296 * valD (m.drop (i + 1))) := Nat.mul_le_mul_left _ (by omega)
  _ ≤ _ := Nat.le_add_left _ _
theorem carry_step (L : List Nat) (s : Nat) : valD (L ++ [s % 4294967296]) + 4294967296 ^ (L.length + 1) * (s / 4294967296) = valD L + 4294967296 ^ L.length * s := by
 rw [valD_snoc, Nat.pow_succ, Nat.add_assoc, Nat.mul_assoc, ← Nat.mul_add, Nat.mod_add_div]
theorem carry_stepI (L : List Nat) (s : Int) : (valD (L ++ [(s % (4294967296 : Int)).toNat]) : Int) + (4294967296 : Int) ^ (L.length + 1) * (s / (4294967296 : Int)) = valD L + (4294967296 : Int) ^ L.length * s := by
 have h0 : 0 ≤ s % (4294967296 : Int) := Int.emod_nonneg _ (by decide)
 have h1 : ((s % (4294967296 : Int)).toNat : Int) = s % (4294967296 : Int) := Int.toNat_of_nonneg h0
 have h2 : (((4294967296 : Nat) ^ L.length : Nat) : Int) = (4294967296 : Int) ^ L.length := Int.natCast_pow _ _
 rw [valD_snoc, Int.natCast_add, Int.natCast_mul, h1, h2, Int.pow_succ, Int.add_assoc, Int.mul_assoc, ← Int.mul_add, Int.emod_add_mul_ediv]
theorem valD_set (l : List Nat) (p d : Nat) (h : p < l.length) : valD (l.set p d) + 4294967296 ^ p * l[p] = valD l + 4294967296 ^ p * d := by
 have e1 : l.set p d = l.take p ++ d :: l.drop (p + 1) := by rw [List.set_eq_take_append_cons_drop, if_pos h]
 have e2 : valD l = valD (l.take p) + 4294967296 ^ p * (l[p] + 4294967296 * valD (l.drop (p + 1))) := by
  conv => lhs; rw [← List.take_append_drop p l, valD_append, valD_drop l p h, List.length_take, Nat.min_eq_left (by omega)]
 rw [e1, valD_append, valD, List.length_take, Nat.min_eq_left (by omega), e2, Nat.mul_add, Nat.mul_add]
 omega
theorem dig_set {l : List Nat} (h : Dig l) {p d : Nat} (hd : d < 4294967296) : Dig (l.set p d) := fun x hx => by
 rcases List.mem_or_eq_of_mem_set hx with g | rfl
 ·exact h x g
 ·exact hd
theorem dig_snoc {l : List Nat} (h : Dig l) {d : Nat} (hd : d < 4294967296) : Dig (l ++ [d]) := fun x hx => by
 rcases List.mem_append.1 hx with g | g
 ·exact h x g
 ·rw [List.mem_singleton] at g; rw [g]; exact hd
theorem dig_at {l : List Nat} (h : Dig l) {i : Nat} (hi : i < l.length) : l[i] < 4294967296 := h _ (List.getElem_mem hi)
theorem dig_zeros (n : Nat) : Dig (List.replicate n 0) := fun x hx => by rw [(List.mem_replicate.1 hx).2]; decide
def padN (L : List Nat) (n : Nat) : List Nat := L ++ List.replicate (n - L.length) 0
theorem padN_len (L : List Nat) (n : Nat) (h : L.length ≤ n) : (padN L n).length = n := by simp [padN]; omega
theorem padN_set (L : List Nat) (n d : Nat) (h : L.length < n) : (padN L n).set L.length d = padN (L ++ [d]) n := by
 unfold padN
 rw [List.set_append_right _ _ (Nat.le_refl _), Nat.sub_self, List.length_append, List.length_singleton]
 have e : n - L.length = (n - (L.length + 1)) + 1 := by omega
 rw [e, List.replicate_succ, List.set_cons_zero, List.append_assoc]; rfl
theorem padN_nil (n : Nat) : padN [] n = List.replicate n 0 := by simp [padN]
theorem padN_full (L : List Nat) (n : Nat) (h : L.length = n) : padN L n = L := by simp [padN, h]
def padB (L : List Nat) (n : Nat) : List Nat := List.replicate (n - L.length) 0 ++ L
theorem padB_len (L : List Nat) (n : Nat) (h : L.length ≤ n) : (padB L n).length = n := by simp [padB]; omega
theorem padB_set (L : List Nat) (n d k : Nat) (h : L.length + k + 1 = n) : (padB L n).set k d = padB (d :: L) n := by
 unfold padB
 have e : n - L.length = k + 1 := by omega
 have e2 : n - (d :: L).length = k := by simp; omega
 rw [e, e2, List.replicate_succ', List.append_assoc, List.set_append_right _ _ (by simp)]
 simp
theorem padB_nil (n : Nat) : padB [] n = List.replicate n 0 := by simp [padB]
theorem padB_full (L : List Nat) (n : Nat) (h : L.length = n) : padB L n = L := by simp [padB, h]
theorem div_step {b r V A x : Nat} (hb : 0 < b) (h : V * b + r = A) : ((r * 4294967296 + x) / b + 4294967296 * V) * b + (r * 4294967296 + x) % b = x + 4294967296 * A := by
 have e := Nat.div_add_mod (r * 4294967296 + x) b
 have e1 : (r * 4294967296 + x) / b * b = b * ((r * 4294967296 + x) / b) := Nat.mul_comm _ _
 have e2 : 4294967296 * A = 4294967296 * V * b + 4294967296 * r := by rw [← h, Nat.mul_add, Nat.mul_assoc]
 have e3 : r * 4294967296 = 4294967296 * r := Nat.mul_comm _ _
 rw [Nat.add_mul, e2]
 omega
theorem div_end {b r V A : Nat} (hb : r < b) (h : V * b + r = A) : A / b = V ∧ A % b = r := by
 subst h
 constructor
 ·rw [Nat.mul_comm, Nat.mul_add_div (by omega), Nat.div_eq_of_lt hb, Nat.add_zero]
 ·rw [Nat.mul_comm, Nat.mul_add_mod, Nat.mod_eq_of_lt hb]
theorem mul_step (l : List Nat) (p i j s x y c T A : Nat) (h : p < l.length) (hp : p = i + j) (hv : valD l + 4294967296 ^ p * c = T + 4294967296 ^ i * x * A) (hs : s = c + (x * y + l[p])) :
  valD (l.set p (s % 4294967296)) + 4294967296 ^ (p + 1) * (s / 4294967296) = T + 4294967296 ^ i * x * (A + 4294967296 ^ j * y) := by
 have e1 := valD_set l p (s % 4294967296) h
 have e2 : 4294967296 ^ (p + 1) * (s / 4294967296) = 4294967296 ^ p * (4294967296 * (s / 4294967296)) := by rw [Nat.pow_succ, Nat.mul_assoc]
 have e3 : 4294967296 ^ p * (s % 4294967296) + 4294967296 ^ p * (4294967296 * (s / 4294967296)) = 4294967296 ^ p * c + 4294967296 ^ p * (x * y) + 4294967296 ^ p * l[p] := by
  rw [← Nat.mul_add, Nat.mod_add_div, hs, Nat.mul_add, Nat.mul_add, Nat.add_assoc]
 have e4 : 4294967296 ^ i * x * (4294967296 ^ j * y) = 4294967296 ^ p * (x * y) := by
  rw [hp, Nat.pow_add]; simp only [Nat.mul_assoc, Nat.mul_left_comm, Nat.mul_comm]
 rw [Nat.mul_add, e4, e2]
 omega
theorem mul_end (l : List Nat) (p c T X : Nat) (h : p < l.length) (h0 : l[p] = 0) (hv : valD l + 4294967296 ^ p * c = T + X) : valD (l.set p c) = T + X := by
 have e1 := valD_set l p c h
 rw [h0, Nat.mul_zero] at e1
 omega
theorem mul_lt {x y o c : Nat} (hx : x < 4294967296) (hy : y < 4294967296) (ho : o < 4294967296) (hc : c < 4294967296) : c + (x * y + o) < 18446744073709551616 ∧ x * y < 18446744073709551616 := by
 have := Nat.mul_le_mul (show x ≤ 4294967295 by omega) (show y ≤ 4294967295 by omega)
 constructor <;> omega
end Go.Lin
end
section
namespace Go.Lexs
open Go.Av
def digitI (c : Int) : Bool := decide (48 ≤ c) && decide (c ≤ 57)
def letterI (c : Int) : Bool := (decide (97 ≤ c) && decide (c ≤ 122)) || (decide (65 ≤ c) && decide (c ≤ 90))
def partI (c : Int) : Bool := letterI c || digitI c || decide (c = 95)
def textI (c : Int) : Bool := decide (32 ≤ c) && decide (c ≤ 126) && decide (c ≠ 34) && decide (c ≠ 92)
def blankI (c : Int) : Bool := decide (c = 32) || decide (c = 9) || decide (c = 10) || decide (c = 13)
theorem digitI_iff (c : Int) : digitI c = true ↔ 48 ≤ c ∧ c ≤ 57 := by simp [digitI]
def ofB (p : Int → Bool) (c : UInt8) : Bool := p (c.toNat : Int)
def isText (l : List UInt8) : Bool := l.all (ofB textI) && decide (l.length ≤ 200)
theorem all_take_succ (p : Int → Bool) (l : List UInt8) (k : Nat) (hk : k < l.length) : (l.take (k + 1)).all (ofB p) = ((l.take k).all (ofB p) && p (nth l k)) := by
 rw [List.take_succ_eq_append_getElem hk, List.all_append]
 simp [hk, ofB, nth]
theorem all_false_of (p : Int → Bool) (l : List UInt8) (k : Nat) (hk : k < l.length) (h : p (nth l k) = false) : l.all (ofB p) = false := by
 rw [List.all_eq_false]
 exact ⟨l[k], List.getElem_mem hk, by simpa [hk, ofB, nth] using h⟩
def adv (p : Int × Int) (c : UInt8) : Int × Int := if c.toNat = 10 then (p.1 + 1, 1) else (p.1, p.2 + 1)
def place (l : List UInt8) (i : Nat) : Int × Int := (l.take i).foldl adv (1, 1)
def lineLen : List UInt8 → Nat
 | [] => 0
 | c :: r => if c.toNat = 10 then 0 else lineLen r + 1
def slashes (l : List UInt8) : Bool := List.isPrefixOf [47, 47] l
def skipN : Nat → List UInt8 → Nat
 | 0, _ => 0
 | _ + 1, [] => 0
 | n + 1, c :: r => if ofB blankI c then 1 + skipN n r else if slashes (c :: r) then lineLen (c :: r) + skipN n ((c :: r).drop (lineLen (c :: r))) else 0
def sk (l : List UInt8) : Nat := skipN l.length l
def nextAt (l : List UInt8) (i : Nat) : Nat := i + sk (l.drop i)
structure Tok where
 kind : Int
 text : List UInt8
 n : Int
 deriving DecidableEq
def spanN (p : Int → Bool) : List UInt8 → Nat
 | [] => 0
 | c :: r => if ofB p c then spanN p r + 1 else 0
def decV : List UInt8 → Nat := List.foldl (fun n c => 10 * n + (c.toNat - 48)) 0
def bestN (signs : List (List UInt8)) (l : List UInt8) : Nat := signs.foldl (fun n s => if n < s.length ∧ List.isPrefixOf s l = true then s.length else n) 0
def quoteN : List UInt8 → Nat
 | [] => 0
 | c :: r => if c.toNat = 34 then 0 else quoteN r + 1
def tokN (signs : List (List UInt8)) (l : List UInt8) : Option (Tok × Nat) :=
 if letterI (nth l 0) then (if spanN partI l ≤ 40 then some (⟨1, l.take (spanN partI l), 0⟩, spanN partI l) else none)
 else if digitI (nth l 0) then
  (if decV (l.take (spanN digitI l)) ≤ 2147483647 ∧ ¬ (spanN digitI l < l.length ∧ partI (nth l (spanN digitI l)) = true) then some (⟨2, [], decV (l.take (spanN digitI l))⟩, spanN digitI l) else none)
 else if nth l 0 = 34 then
  (if quoteN (l.drop 1) < (l.drop 1).length ∧ isText ((l.drop 1).take (quoteN (l.drop 1))) = true then some (⟨3, (l.drop 1).take (quoteN (l.drop 1)), 0⟩, quoteN (l.drop 1) + 2) else none)
 else if bestN signs l = 0 then none else some (⟨4, l.take (bestN signs l), 0⟩, bestN signs l)
def cutN (signs : List (List UInt8)) (l : List UInt8) : Nat → Nat → List (Tok × Nat) → Except Nat (List (Tok × Nat))
 | 0, _, acc => .ok acc
 | f + 1, i, acc => if i < l.length then match tokN signs (l.drop i) with
  | none => .error i
  | some (t, k) => cutN signs l f (nextAt l (i + k)) (acc ++ [(t, i)])
  else .ok acc
def cut (signs : List (List UInt8)) (l : List UInt8) : Except Nat (List (Tok × Nat)) := cutN signs l (l.length + 1) (nextAt l 0) []
end Go.Lexs
end
section
namespace Go.Lin
open Go Go.Av Go.Lexs
structure LTm where
 v : ByteArray
 c : Int
 deriving DecidableEq
instance : Inhabited LTm := ⟨⟨⟨#[]⟩, 0⟩⟩
structure LinV where
 t : List LTm
 k : Int
 e : Bool
 deriving DecidableEq
instance : Inhabited LinV := ⟨⟨[], 0, false⟩⟩
structure VlV where
 v : ByteArray
 n : Int
 deriving DecidableEq
instance : Inhabited VlV := ⟨⟨⟨#[]⟩, 0⟩⟩
abbrev ltC (t : LTm) : List D := [.str t.v, .int .i64 t.c]
abbrev linC (a : LinV) : List D := [.sl 2 (Rw ltC a.t), .int .i64 a.k, .bool a.e]
abbrev vlC (x : VlV) : List D := [.str x.v, .int .i64 x.n]
def i64 (n : Int) : Prop := -9223372036854775808 ≤ n ∧ n ≤ 9223372036854775807
structure LinFit (a : LinV) : Prop where
 len : a.t.length ≤ 5864062014639
 str : ∀ t ∈ a.t, t.v.size ≤ 140737488351232
 co : ∀ t ∈ a.t, i64 t.c
 ko : i64 a.k
structure VlFit (l : List VlV) : Prop where
 len : l.length ≤ 5864062014639
 str : ∀ t ∈ l, t.v.size ≤ 140737488351232
 no : ∀ t ∈ l, i64 t.n
def nameC (c : Int) : Bool := decide (33 ≤ c) && decide (c ≤ 126) && decide (c ≠ 43) && decide (c ≠ 45) && decide (c ≠ 42) && decide (c ≠ 60) && decide (c ≠ 62) && decide (c ≠ 61)
def nameB (l : List UInt8) : Bool := decide (l ≠ []) && decide (l.length ≤ 200) && !digitI (nth l 0) && l.all (ofB nameC)
theorem nameC_iff (c : Int) : nameC c = true ↔ 33 ≤ c ∧ c ≤ 126 ∧ c ≠ 43 ∧ c ≠ 45 ∧ c ≠ 42 ∧ c ≠ 60 ∧ c ≠ 62 ∧ c ≠ 61 := by simp [nameC, and_assoc]
theorem nameC_no {c : Int} (h : ¬ (33 ≤ c ∧ c ≤ 126 ∧ c ≠ 43 ∧ c ≠ 45 ∧ c ≠ 42 ∧ c ≠ 60 ∧ c ≠ 62 ∧ c ≠ 61)) : nameC c = false := by rw [← Bool.not_eq_true, nameC_iff]; exact h
def ltS (x y : ByteArray) : Bool := Op.bytesLess (B x) (B y)
theorem less_iff (x : List UInt8) : ∀ y, Op.bytesLess x y = true ↔ x < y := by
 induction x with
 | nil => intro y; cases y <;> simp [Op.bytesLess]
 | cons a x ih =>
  intro y
  cases y with
  | nil => simp [Op.bytesLess]
  | cons b y =>
   simp only [Op.bytesLess, List.cons_lt_cons_iff, Bool.or_eq_true, Bool.and_eq_true, decide_eq_true_eq, beq_iff_eq, ih y]
theorem ltS_iff (x y : ByteArray) : ltS x y = true ↔ B x < B y := less_iff _ _
theorem ltS_irr (x : ByteArray) : ltS x x = false := by
 rw [← Bool.not_eq_true, ltS_iff]; exact List.lt_irrefl _
theorem ltS_trans {x y z : ByteArray} (h : ltS x y = true) (g : ltS y z = true) : ltS x z = true := by
 rw [ltS_iff] at *; exact List.lt_trans h g
theorem ltS_tri {x y : ByteArray} (h : ltS x y = false) (hne : x ≠ y) : ltS y x = true := by
 rw [← Bool.not_eq_true, ltS_iff] at h
 rw [ltS_iff]
 have : B x ≠ B y := fun e => hne (by rw [← S_B x, ← S_B y, e])
 by_cases g : B y < B x
 ·exact g
 ·exact absurd (List.le_antisymm (List.not_lt.1 g) (List.not_lt.1 h)) this
def within (n most : Int) : Bool := decide (-most ≤ n) && decide (n ≤ most)
def okAt (l : List LTm) (i : Nat) : Bool :=
 nameB (B (l.getD i default).v) && (decide (i = 0) || ltS (l.getD (i - 1) default).v (l.getD i default).v) && decide ((l.getD i default).c ≠ 0) && within (l.getD i default).c 1048576
def termsOk (l : List LTm) : Bool := (List.range l.length).all (okAt l)
def validL (a : LinV) : Bool := termsOk a.t && decide (a.t.length ≤ 12) && within a.k 1099511627776
def up : List ByteArray → Bool
 | [] => true
 | [_] => true
 | x :: y :: l => ltS x y && up (y :: l)
def withS : List ByteArray → ByteArray → List ByteArray
 | [], s => [s]
 | x :: l, s => if ltS x s = true then x :: withS l s else if x = s then x :: l else s :: x :: l
def namesL (l : List LinV) : List ByteArray := l.flatMap fun c => c.t.map (·.v)
def varsL (l : List LinV) : List ByteArray := (namesL l).foldl withS []
def allL (l : List LinV) : Bool := decide (l.length ≤ 60) && l.all validL && decide ((varsL l).length ≤ 12)
theorem withS_mem (l : List ByteArray) (s x : ByteArray) : x ∈ withS l s ↔ x ∈ l ∨ x = s := by
 induction l with
 | nil => simp [withS]
 | cons y l ih =>
  unfold withS
  split
  ·simp only [List.mem_cons, ih]; constructor
   ·rintro (h | h | h)
    ·exact .inl (.inl h)
    ·exact .inl (.inr h)
    ·exact .inr h
   ·rintro ((h | h) | h)
    ·exact .inl h
    ·exact .inr (.inl h)
    ·exact .inr (.inr h)
  ·split
   ·rename_i e; subst e; simp only [List.mem_cons]; constructor
    ·exact .inl
    ·rintro (h | h)
     ·exact h
     ·exact .inl h
   ·simp only [List.mem_cons]; constructor
    ·rintro (h | h)
     ·exact .inr h
     ·exact .inl h
    ·rintro (h | h)
     ·exact .inr h
     ·exact .inl h
theorem withS_up {l : List ByteArray} {s : ByteArray} (h : l.Pairwise fun x y => ltS x y = true) : (withS l s).Pairwise fun x y => ltS x y = true := by
 induction l with
 | nil => exact List.pairwise_singleton _ _
 | cons y l ih =>
  unfold withS
  split
  ·rename_i h1
   refine List.Pairwise.cons (fun z hz => ?_) (ih h.of_cons)
   rcases (withS_mem _ _ _).1 hz with g | rfl
   ·exact List.rel_of_pairwise_cons h g
   ·exact h1
  ·rename_i h1
   split
   ·exact h
   ·rename_i h2
    have h3 := ltS_tri (Bool.not_eq_true _ ▸ h1) h2
    refine List.Pairwise.cons (fun z hz => ?_) h
    rcases List.mem_cons.1 hz with rfl | hz
    ·exact h3
    ·exact ltS_trans h3 (List.rel_of_pairwise_cons h hz)
theorem foldW_up (m : List ByteArray) : ∀ (l : List ByteArray), l.Pairwise (fun x y => ltS x y = true) → (m.foldl withS l).Pairwise fun x y => ltS x y = true := by
 induction m with
 | nil => exact fun l h => h
 | cons s m ih => exact fun l h => ih _ (withS_up h)
theorem foldW_mem (m : List ByteArray) (x : ByteArray) : ∀ (l : List ByteArray), x ∈ m.foldl withS l ↔ x ∈ l ∨ x ∈ m := by
 induction m with
 | nil => intro l; simp
 | cons s m ih =>
  intro l
  rw [List.foldl_cons, ih, withS_mem, List.mem_cons, or_assoc]
theorem varsL_up (l : List LinV) : (varsL l).Pairwise fun x y => ltS x y = true := foldW_up _ _ .nil
theorem varsL_mem (l : List LinV) (x : ByteArray) : x ∈ varsL l ↔ x ∈ namesL l := by unfold varsL; rw [foldW_mem]; simp
theorem up_ext : ∀ {l m : List ByteArray}, l.Pairwise (fun x y => ltS x y = true) → m.Pairwise (fun x y => ltS x y = true) → (∀ x, x ∈ l ↔ x ∈ m) → l = m
 | [], [], _, _, _ => rfl
 | [], y :: m, _, _, h => absurd ((h y).2 (List.mem_cons_self ..)) (by simp)
 | x :: l, [], _, _, h => absurd ((h x).1 (List.mem_cons_self ..)) (by simp)
 | x :: l, y :: m, hl, hm, h => by
  have e : x = y := by
   rcases List.mem_cons.1 ((h x).1 (List.mem_cons_self ..)) with e | g
   ·exact e
   ·rcases List.mem_cons.1 ((h y).2 (List.mem_cons_self ..)) with e | g2
    ·exact e.symm
    ·have a1 := List.rel_of_pairwise_cons hm g
     have a2 := List.rel_of_pairwise_cons hl g2
     have := ltS_trans a1 a2
     rw [ltS_irr] at this; cases this
  subst e
  refine congrArg (x :: ·) (up_ext hl.of_cons hm.of_cons fun z => ?_)
  constructor
  ·intro hz
   rcases List.mem_cons.1 ((h z).1 (List.mem_cons_of_mem _ hz)) with rfl | g
   ·have := List.rel_of_pairwise_cons hl hz; rw [ltS_irr] at this; cases this
   ·exact g
  ·intro hz
   rcases List.mem_cons.1 ((h z).2 (List.mem_cons_of_mem _ hz)) with rfl | g
   ·have := List.rel_of_pairwise_cons hm hz; rw [ltS_irr] at this; cases this
   ·exact g
end Go.Lin
end
section
namespace Go.Lin
open Go Go.Av Go.Lexs
abbrev dec (n : Nat) : List UInt8 := Lib.decDigits n
theorem dec_lo {n : Nat} (h : n < 10) : dec n = [UInt8.ofNat (48 + n)] := by rw [dec, Lib.decDigits, dif_pos h]
theorem dec_hi {n : Nat} (h : ¬ n < 10) : dec n = dec (n / 10) ++ [UInt8.ofNat (48 + n % 10)] := by rw [dec, Lib.decDigits, dif_neg h]
theorem digit_nat {d : Nat} (h : d < 10) : (UInt8.ofNat (48 + d)).toNat = 48 + d := by
 rw [UInt8.toNat_ofNat']; omega
theorem dec_digit (n : Nat) : ∀ c ∈ dec n, 48 ≤ c.toNat ∧ c.toNat ≤ 57 := by
 induction n using Nat.strongRecOn with
 | ind n ih =>
  intro c hc
  by_cases h : n < 10
  ·rw [dec_lo h, List.mem_singleton] at hc; subst hc; rw [digit_nat h]; omega
  ·rw [dec_hi h] at hc
   rcases List.mem_append.1 hc with g | g
   ·exact ih (n / 10) (by omega) c g
   ·rw [List.mem_singleton] at g; subst g; rw [digit_nat (by omega)]; omega
theorem dec_ne (n : Nat) : dec n ≠ [] := by
 by_cases h : n < 10
 ·rw [dec_lo h]; simp
 ·rw [dec_hi h]; simp
theorem dec_len (k n : Nat) (h : n < 10 ^ (k + 1)) : (dec n).length ≤ k + 1 := by
 induction k generalizing n with
 | zero => rw [dec_lo (by omega)]; simp
 | succ k ih =>
  by_cases hn : n < 10
  ·rw [dec_lo hn]; simp
  ·rw [dec_hi hn, List.length_append, List.length_singleton]
   have := ih (n / 10) (by rw [Nat.pow_succ] at h; omega)
   omega
theorem parse_snoc (l : List UInt8) (d : Nat) (hd : d < 10) : ∀ (acc u : Nat), Lib.parseUint10 acc l = .ok u → u * 10 + d < 18446744073709551616 → Lib.parseUint10 acc (l ++ [UInt8.ofNat (48 + d)]) = .ok (u * 10 + d) := by
 induction l with
 | nil =>
  intro acc u h hu
  simp only [Lib.parseUint10] at h
  injection h with h
  subst h
  simp only [List.nil_append, Lib.parseUint10, digit_nat hd]
  rw [if_pos (by omega), if_neg (by omega), if_neg (by omega)]
  congr 1; omega
 | cons c l ih =>
  intro acc u h hu
  simp only [Lib.parseUint10, List.cons_append] at h ⊢
  split at h
  ·rename_i h1
   rw [if_pos h1]
   split at h
   ·cases h
   ·rename_i h2
    rw [if_neg h2]
    split at h
    ·cases h
    ·rename_i h3
     rw [if_neg h3]
     exact ih _ u h hu
  ·cases h
theorem parse_dec (n : Nat) (h : n < 18446744073709551616) : Lib.parseUint10 0 (dec n) = .ok n := by
 induction n using Nat.strongRecOn with
 | ind n ih =>
  by_cases h1 : n < 10
  ·rw [dec_lo h1]
   have := parse_snoc [] n h1 0 0 rfl (by omega)
   simpa using this
  ·rw [dec_hi h1]
   have := parse_snoc (dec (n / 10)) (n % 10) (by omega) 0 (n / 10) (ih _ (by omega) (by omega)) (by omega)
   rw [this]; congr 1; omega
theorem atoi_dec (n : Nat) (h : n < 9223372036854775808) : Lib.atoiAll (dec n) = .ok (n : Int) := by
 cases hd : dec n with
 | nil => exact absurd hd (dec_ne n)
 | cons c r =>
  have hc := dec_digit n c (by rw [hd]; exact List.mem_cons_self ..)
  have hp := parse_dec n (by omega)
  rw [hd] at hp
  unfold Lib.atoiAll
  simp only []
  rw [if_neg (by omega)]
  have hm : Lib.parseMag (c :: r) = .ok n := by unfold Lib.parseMag; rw [if_neg (by simp)]; exact hp
  rw [hm]
  simp only []
  rw [if_neg (by omega), if_neg (by omega), if_neg (by omega)]
def numF (l : List UInt8) : Int := l.foldl (fun n c => 10 * n + (c.toNat : Int) - 48) 0
def numR (l : List UInt8) : Int := numF (l.take 14)
theorem numF_dec (n : Nat) : numF (dec n) = n := by
 induction n using Nat.strongRecOn with
 | ind n ih =>
  by_cases h : n < 10
  ·rw [dec_lo h]; simp only [numF, List.foldl_cons, List.foldl_nil, digit_nat h]; omega
  ·rw [dec_hi h]
   have e := ih (n / 10) (by omega)
   unfold numF at e ⊢
   rw [List.foldl_append, e]
   simp only [List.foldl_cons, List.foldl_nil, digit_nat (show n % 10 < 10 by omega)]
   omega
theorem numR_dec (n : Nat) (h : n < 100000000000000) : numR (dec n) = n := by
 unfold numR
 rw [List.take_of_length_le (dec_len 13 n (by omega)), numF_dec]
def termB (f : Bool) (t : LTm) : List UInt8 := (if t.c < 0 then [45] else if f = true then [] else [43]) ++ ((if t.c.natAbs = 1 then [] else dec t.c.natAbs ++ [42]) ++ B t.v)
def termsB : Bool → List LTm → List UInt8
 | _, [] => []
 | f, t :: l => termB f t ++ termsB false l
def konB (f : Bool) (k : Int) : List UInt8 := (if k < 0 then [45] else if f = true then [] else [43]) ++ dec k.natAbs
def constB (a : LinV) : List UInt8 := if a.t = [] ∨ a.k ≠ 0 then konB a.t.isEmpty a.k else []
def bodyB (a : LinV) : List UInt8 := termsB true a.t ++ constB a
def textB (a : LinV) : List UInt8 := bodyB a ++ if a.e = true then [61, 48] else [62, 61, 48]
theorem termsB_snoc (l : List LTm) (t : LTm) : ∀ f, termsB f (l ++ [t]) = termsB f l ++ termB (f && l.isEmpty) t := by
 induction l with
 | nil => intro f; simp [termsB]
 | cons x l ih => intro f; simp [termsB, ih]
def sgn (c : UInt8) : Bool := c == 43 || c == 45
def pieces (l : List UInt8) : List (List UInt8) := match l with
 | [] => []
 | x :: r => (x :: r.takeWhile (!sgn ·)) :: pieces (r.dropWhile (!sgn ·))
termination_by l.length
decreasing_by
 have := (List.dropWhile_sublist (!sgn ·) (l := r)).length_le
 simp only [List.length_cons]; omega
theorem pieces_nil : pieces [] = [] := by unfold pieces; rfl
theorem pieces_cons (x : UInt8) (r : List UInt8) : pieces (x :: r) = (x :: r.takeWhile (!sgn ·)) :: pieces (r.dropWhile (!sgn ·)) := by rw [pieces]
def Sg (l : List UInt8) : Prop := ∀ c r, l = c :: r → sgn c = true
theorem takeWhile_app {p : UInt8 → Bool} {l R : List UInt8} (h : ∀ c ∈ l, p c = true) (hR : ∀ c r, R = c :: r → p c = false) : (l ++ R).takeWhile p = l ∧ (l ++ R).dropWhile p = R := by
 induction l with
 | nil =>
  cases R with
  | nil => simp
  | cons c r => simp [hR c r rfl]
 | cons x l ih =>
  have h1 := h x (List.mem_cons_self ..)
  have h2 := ih (fun c hc => h c (List.mem_cons_of_mem _ hc))
  simp [h1, h2.1, h2.2]
theorem pieces_app {x : UInt8} {l R : List UInt8} (h : ∀ c ∈ l, sgn c = false) (hR : Sg R) : pieces (x :: (l ++ R)) = (x :: l) :: pieces R := by
 have := takeWhile_app (p := (!sgn ·)) (l := l) (R := R) (fun c hc => by simp [h c hc]) (fun c r e => by simp [hR c r e])
 rw [pieces_cons, this.1, this.2]
def cutS (l : List UInt8) : Option (List UInt8 × List UInt8) := if (42 : UInt8) ∈ l then some (l.takeWhile (· != 42), (l.dropWhile (· != 42)).drop 1) else none
def headDigit (l : List UInt8) : Bool := decide (l ≠ []) && digitI (nth l 0)
def bodyP (x : List UInt8) : Bool × List UInt8 :=
 let b := Lib.trimPrefix x [43]
 if Lib.hasPrefix b [45] = true then (true, b.drop 1) else (false, b)
def splitP (b : List UInt8) : Option (List UInt8 × List UInt8) := match cutS b with
 | some (c, n) => some (c, n)
 | none => if headDigit b = true then some (b, []) else if b = [] then none else some ([49], b)
def pieceP (x : List UInt8) : Option (List UInt8 × Int) := match splitP (bodyP x).2 with
 | none => none
 | some (c, n) => match Lib.atoiAll c with
  | .ok v => some (n, IntKind.i64.wrap ((if (bodyP x).1 = true then -1 else 1) * v))
  | _ => none
def bodyR (x : List UInt8) : Bool × List UInt8 := match x with
 | [] => (false, [])
 | c :: r => if c = 45 then (true, r) else if c = 43 then (false, r) else (false, c :: r)
def pieceR (x : List UInt8) : List UInt8 × Int :=
 let b := (bodyR x).2
 let p : Int × List UInt8 := match cutS b with
  | some (c, n) => (numR c, n)
  | none => (1, b)
 let q : Int × List UInt8 := if p.2 = [] ∨ headDigit p.2 = true then (numR p.2, []) else p
 (q.2, if (bodyR x).1 = true then -q.1 else q.1)
def addP (a : LinV) (p : List UInt8 × Int) : LinV := if p.1 = [] then { a with k := p.2 } else { a with t := a.t ++ [⟨S p.1, p.2⟩] }
theorem mem_all {p : Int → Bool} {l : List UInt8} (h : l.all (ofB p) = true) : ∀ c ∈ l, p (c.toNat : Int) = true := fun c hc => List.all_eq_true.1 h c hc
theorem name_mem {l : List UInt8} (h : nameB l = true) : ∀ c ∈ l, 33 ≤ c.toNat ∧ c.toNat ≤ 126 ∧ c.toNat ≠ 43 ∧ c.toNat ≠ 45 ∧ c.toNat ≠ 42 ∧ c.toNat ≠ 62 ∧ c.toNat ≠ 61 := fun c hc => by
 unfold nameB at h
 simp only [Bool.and_eq_true] at h
 have := (nameC_iff _).1 (mem_all h.2 c hc)
 omega
theorem name_ne {l : List UInt8} (h : nameB l = true) : l ≠ [] := by
 unfold nameB at h
 simp only [Bool.and_eq_true, decide_eq_true_eq] at h
 exact h.1.1.1
theorem name_head {l : List UInt8} (h : nameB l = true) : headDigit l = false := by
 unfold nameB at h
 simp only [Bool.and_eq_true, Bool.not_eq_true'] at h
 unfold headDigit
 rw [h.1.2, Bool.and_false]
theorem sgn_no {c : UInt8} (h1 : c.toNat ≠ 43) (h2 : c.toNat ≠ 45) : sgn c = false := by
 unfold sgn
 simp only [Bool.or_eq_false_iff, beq_eq_false_iff_ne]
 exact ⟨fun e => h1 (by rw [e]; rfl), fun e => h2 (by rw [e]; rfl)⟩
def tailB (t : LTm) : List UInt8 := (if t.c.natAbs = 1 then [] else dec t.c.natAbs ++ [42]) ++ B t.v
theorem tail_ne (t : LTm) (h : nameB (B t.v) = true) : tailB t ≠ [] := by
 unfold tailB
 have := name_ne h
 intro e
 exact this (List.append_eq_nil_iff.1 e).2
theorem tail_mem (t : LTm) (h : nameB (B t.v) = true) : ∀ c ∈ tailB t, c.toNat ≠ 43 ∧ c.toNat ≠ 45 ∧ c.toNat ≠ 62 ∧ c.toNat ≠ 61 := fun c hc => by
 unfold tailB at hc
 rcases List.mem_append.1 hc with g | g
 ·split at g
  ·cases g
  ·rcases List.mem_append.1 g with g | g
   ·have := dec_digit _ c g; omega
   ·rw [List.mem_singleton] at g; subst g; decide
 ·have := name_mem h c g; omega
theorem pieces_term (s : List UInt8) (b R : List UInt8) (hs : s = [] ∨ s = [43] ∨ s = [45]) (hb : b ≠ []) (hm : ∀ c ∈ b, c.toNat ≠ 43 ∧ c.toNat ≠ 45) (hR : Sg R) : pieces (s ++ b ++ R) = (s ++ b) :: pieces R := by
 have hn : ∀ c ∈ b, sgn c = false := fun c hc => sgn_no (hm c hc).1 (hm c hc).2
 rcases hs with rfl | hs
 ·cases b with
  | nil => exact absurd rfl hb
  | cons x b => exact pieces_app (x := x) (fun c hc => hn c (List.mem_cons_of_mem _ hc)) hR
 ·rcases hs with rfl | rfl <;> exact pieces_app hn hR
theorem sign_or (f : Bool) (c : Int) : (if c < 0 then [45] else if f = true then ([] : List UInt8) else [43]) = [] ∨ (if c < 0 then [45] else if f = true then ([] : List UInt8) else [43]) = [43] ∨ (if c < 0 then [45] else if f = true then ([] : List UInt8) else [43]) = [45] := by
 split
 ·exact .inr (.inr rfl)
 ·split
  ·exact .inl rfl
  ·exact .inr (.inl rfl)
theorem body_of (f : Bool) (c : Int) {b : List UInt8} (hb : b ≠ []) (hm : ∀ x ∈ b, x.toNat ≠ 43 ∧ x.toNat ≠ 45) :
    bodyP ((if c < 0 then [45] else if f = true then [] else [43]) ++ b) = (decide (c < 0), b) ∧ bodyR ((if c < 0 then [45] else if f = true then [] else [43]) ++ b) = (decide (c < 0), b) := by
  cases b with
  | nil => exact absurd rfl hb
  | cons x b =>
    have hx := hm x (List.mem_cons_self ..)
    have n43 : x ≠ 43 := fun e => hx.1 (by rw [e]; rfl)
    have n45 : x ≠ 45 := fun e => hx.2 (by rw [e]; rfl)
    by_cases h : c < 0
    · rw [if_pos h, decide_eq_true h]
      constructor
      · simp [bodyP, Lib.trimPrefix, Lib.hasPrefix]
      · simp [bodyR]
    · rw [if_neg h, decide_eq_false h]
      cases f with
      | true => constructor
                · simp [bodyP, Lib.trimPrefix, Lib.hasPrefix, n43.symm, n45.symm]
                · simp [bodyR, n43, n45]
      | false => constructor
                 · simp [bodyP, Lib.trimPrefix, Lib.hasPrefix, n45.symm]
                 · simp [bodyR]
theorem cutS_app {d n : List UInt8} (h : ∀ c ∈ d, c.toNat ≠ 42) : cutS (d ++ [42] ++ n) = some (d, n) := by
 unfold cutS
 have e := takeWhile_app (p := (· != 42)) (l := d) (R := 42 :: n) (fun c hc => by
  have := h c hc
  simp only [bne_iff_ne, ne_eq]; intro e; exact this (by rw [e]; rfl)) (fun c r e => by cases e; decide)
 rw [if_pos (by simp), List.append_assoc, List.singleton_append, e.1, e.2]; rfl
theorem cutS_no {d : List UInt8} (h : ∀ c ∈ d, c.toNat ≠ 42) : cutS d = none := by
 unfold cutS
 rw [if_neg (fun hm => h _ hm rfl)]
theorem signed {c : Int} : (if decide (c < 0) = true then -1 else 1) * (c.natAbs : Int) = c := by
 by_cases h : c < 0
 ·rw [decide_eq_true h, if_pos rfl]; omega
 ·rw [decide_eq_false h, if_neg (by decide)]; omega
theorem signedR {c : Int} : (if decide (c < 0) = true then -(c.natAbs : Int) else (c.natAbs : Int)) = c := by
 by_cases h : c < 0
 ·rw [decide_eq_true h, if_pos rfl]; omega
 ·rw [decide_eq_false h, if_neg (by decide)]; omega
theorem wrap_id {n : Int} (h0 : -9223372036854775808 ≤ n) (h1 : n ≤ 9223372036854775807) : IntKind.i64.wrap n = n := by simp (disch := omega) only [wrap64]
theorem piece_term (f : Bool) (t : LTm) (hn : nameB (B t.v) = true) (h0 : t.c ≠ 0) (hc : t.c.natAbs ≤ 1048576) : pieceP (termB f t) = some (B t.v, t.c) ∧ pieceR (termB f t) = (B t.v, t.c) := by
 have hb := body_of f t.c (tail_ne t hn) (fun x hx => ⟨(tail_mem t hn x hx).1, (tail_mem t hn x hx).2.1⟩)
 have e : termB f t = (if t.c < 0 then [45] else if f = true then [] else [43]) ++ tailB t := rfl
 unfold pieceP pieceR
 rw [e, hb.1, hb.2]
 by_cases h1 : t.c.natAbs = 1
 ·have et : tailB t = B t.v := by unfold tailB; rw [if_pos h1, List.nil_append]
  have hcut : cutS (B t.v) = none := cutS_no fun c hc => (name_mem hn c hc).2.2.2.2.1
  have e1 : Lib.atoiAll [49] = .ok 1 := by decide
  have e2 : (if decide (t.c < 0) = true then -1 else 1) * (1 : Int) = t.c := by have := signed (c := t.c); rwa [h1] at this
  have e3 : (if decide (t.c < 0) = true then -(1 : Int) else 1) = t.c := by have := signedR (c := t.c); rwa [h1] at this
  simp only [et, splitP, hcut, name_head hn, if_neg (name_ne hn), Bool.false_eq_true, if_false, e1, e2]
  refine ⟨by rw [wrap_id (by omega) (by omega)], ?_⟩
  rw [if_neg (by simp [name_ne hn])]
  simp only [e3]
 ·have et : tailB t = dec t.c.natAbs ++ [42] ++ B t.v := by unfold tailB; rw [if_neg h1]
  have hcut : cutS (dec t.c.natAbs ++ [42] ++ B t.v) = some (dec t.c.natAbs, B t.v) := cutS_app fun c hc => by have := dec_digit _ c hc; omega
  simp only [et, splitP, hcut, atoi_dec t.c.natAbs (by omega), signed]
  refine ⟨by rw [wrap_id (by omega) (by omega)], ?_⟩
  rw [if_neg (by simp [name_ne hn, name_head hn])]
  simp only [numR_dec t.c.natAbs (by omega), signedR]
theorem dec_head (n : Nat) : headDigit (dec n) = true := by
 unfold headDigit
 cases h : dec n with
 | nil => exact absurd h (dec_ne n)
 | cons c r =>
  have := dec_digit n c (by rw [h]; exact List.mem_cons_self ..)
  have e : nth (c :: r) 0 = (c.toNat : Int) := rfl
  rw [e]
  simp [digitI]; omega
theorem piece_kon (f : Bool) (k : Int) (hk : k.natAbs ≤ 1099511627776) : pieceP (konB f k) = some ([], k) ∧ pieceR (konB f k) = ([], k) := by
 have hm : ∀ x ∈ dec k.natAbs, x.toNat ≠ 43 ∧ x.toNat ≠ 45 := fun x hx => by have := dec_digit _ x hx; omega
 have hb := body_of f k (dec_ne k.natAbs) hm
 have e : konB f k = (if k < 0 then [45] else if f = true then [] else [43]) ++ dec k.natAbs := rfl
 have hcut : cutS (dec k.natAbs) = none := cutS_no fun c hc => by have := dec_digit _ c hc; omega
 unfold pieceP pieceR
 rw [e, hb.1, hb.2]
 simp only [splitP, hcut, dec_head, if_true, atoi_dec k.natAbs (by omega), signed]
 refine ⟨by rw [wrap_id (by omega) (by omega)], ?_⟩
 rw [if_pos (.inr trivial)]
 simp only [numR_dec k.natAbs (by omega), signedR]
theorem okAt_get {l : List LTm} (h : termsOk l = true) {i : Nat} (hi : i < l.length) : nameB (B l[i].v) = true ∧ l[i].c ≠ 0 ∧ l[i].c.natAbs ≤ 1048576 ∧ (∀ hj : i - 1 < l.length, 0 < i → ltS l[i - 1].v l[i].v = true) := by
 unfold termsOk at h
 have := List.all_eq_true.1 h i (List.mem_range.2 hi)
 unfold okAt within at this
 have e : l.getD i default = l[i] := by simp [hi]
 have e2 : ∀ hj : i - 1 < l.length, l.getD (i - 1) default = l[i - 1] := fun hj => by simp [hj]
 rw [e] at this
 simp only [Bool.and_eq_true, Bool.or_eq_true, decide_eq_true_eq] at this
 refine ⟨this.1.1.1, this.1.2, by omega, fun hj h0 => ?_⟩
 rcases this.1.1.2 with g | g
 ·omega
 ·rw [e2 hj] at g; exact g
theorem okAt_mem {l : List LTm} (h : termsOk l = true) : ∀ t ∈ l, nameB (B t.v) = true ∧ t.c ≠ 0 ∧ t.c.natAbs ≤ 1048576 := fun t ht => by
 obtain ⟨i, hi, rfl⟩ := List.getElem_of_mem ht
 have := okAt_get h hi
 exact ⟨this.1, this.2.1, this.2.2.1⟩
theorem konB_sg (k : Int) : Sg (konB false k) := fun c r e => by
 unfold konB at e
 split at e
 ·cases e; decide
 ·cases e; decide
theorem termB_sg (t : LTm) (l : List UInt8) : Sg (termB false t ++ l) := fun c r e => by
 unfold termB at e
 split at e
 ·cases e; decide
 ·cases e; decide
theorem pieces_terms : ∀ (l : List LTm) (f : Bool) (R : List UInt8), (∀ t ∈ l, nameB (B t.v) = true ∧ t.c ≠ 0 ∧ t.c.natAbs ≤ 1048576) → Sg R →
  ∃ ps, pieces (termsB f l ++ R) = ps ++ pieces R ∧ ps.mapM pieceP = some (l.map fun t => (B t.v, t.c)) ∧ ps.map pieceR = l.map fun t => (B t.v, t.c)
 | [], f, R, _, _ => ⟨[], by simp [termsB], rfl, rfl⟩
 | t :: l, f, R, h, hR => by
  have ht := h t (List.mem_cons_self ..)
  obtain ⟨ps, h1, h2, h3⟩ := pieces_terms l false R (fun x hx => h x (List.mem_cons_of_mem _ hx)) hR
  have hp := piece_term f t ht.1 ht.2.1 ht.2.2
  have hsg : Sg (termsB false l ++ R) := by
   cases l with
   | nil => exact hR
   | cons y l => rw [termsB, List.append_assoc]; exact termB_sg y _
  refine ⟨termB f t :: ps, ?_, ?_, ?_⟩
  ·rw [termsB, List.append_assoc]
   have e : termB f t = (if t.c < 0 then [45] else if f = true then [] else [43]) ++ tailB t := rfl
   have := pieces_term (if t.c < 0 then [45] else if f = true then [] else [43]) (tailB t) (termsB false l ++ R) (sign_or f t.c) (tail_ne t ht.1) (fun c hc => ⟨(tail_mem t ht.1 c hc).1, (tail_mem t ht.1 c hc).2.1⟩) hsg
   rw [← e] at this
   rw [this, h1]; rfl
  ·rw [List.mapM_cons, hp.1, h2]; rfl
  ·rw [List.map_cons, hp.2, h3]; rfl
def addAll (a : LinV) (ps : List (List UInt8 × Int)) : LinV := ps.foldl addP a
theorem addAll_terms (l : List LTm) : ∀ (a : LinV), (∀ t ∈ l, nameB (B t.v) = true) → addAll a (l.map fun t => (B t.v, t.c)) = { a with t := a.t ++ l } := by
 induction l with
 | nil => intro a _; simp [addAll]
 | cons x l ih =>
  intro a h
  have hx := name_ne (h x (List.mem_cons_self ..))
  unfold addAll at ih ⊢
  rw [List.map_cons, List.foldl_cons]
  have e : addP a (B x.v, x.c) = { a with t := a.t ++ [x] } := by unfold addP; rw [if_neg hx, S_B]
  rw [e, ih _ (fun t ht => h t (List.mem_cons_of_mem _ ht))]
  simp
theorem pieces_body (a : LinV) (ha : validL a = true) : ∃ ps, (pieces (bodyB a)).mapM pieceP = some ps ∧ (pieces (bodyB a)).map pieceR = ps ∧ ∀ e, addAll ⟨[], 0, e⟩ ps = ⟨a.t, a.k, e⟩ := by
 unfold validL within at ha
 simp only [Bool.and_eq_true, decide_eq_true_eq] at ha
 have hk : a.k.natAbs ≤ 1099511627776 := by omega
 have hm := okAt_mem ha.1.1
 have hd : ∀ x ∈ dec a.k.natAbs, x.toNat ≠ 43 ∧ x.toNat ≠ 45 := fun x hx => by have := dec_digit _ x hx; omega
 have hkon : ∀ f, pieces (konB f a.k) = [konB f a.k] := fun f => by
  have := pieces_term (if a.k < 0 then [45] else if f = true then [] else [43]) (dec a.k.natAbs) [] (sign_or f a.k) (dec_ne _) hd (fun c r e => by cases e)
  rw [List.append_nil, pieces_nil] at this
  exact this
 by_cases hn : a.t = []
 ·have e : bodyB a = konB true a.k := by unfold bodyB constB; rw [hn]; simp [termsB]
  refine ⟨[([], a.k)], ?_, ?_, fun e => ?_⟩
  ·rw [e, hkon, List.mapM_cons, (piece_kon true a.k hk).1]; rfl
  ·rw [e, hkon]; simp only [List.map_cons, List.map_nil, (piece_kon true a.k hk).2]
  ·rw [hn]; simp [addAll, addP]
 ·have he : a.t.isEmpty = false := by simp [hn]
  by_cases h0 : a.k = 0
  ·have e : bodyB a = termsB true a.t ++ [] := by unfold bodyB constB; rw [if_neg (by simp [hn, h0])]
   obtain ⟨ps, h1, h2, h3⟩ := pieces_terms a.t true [] hm (fun c r e => by cases e)
   rw [pieces_nil, List.append_nil ps] at h1
   refine ⟨a.t.map fun t => (B t.v, t.c), ?_, ?_, fun e => ?_⟩
   ·rw [e, h1]; exact h2
   ·rw [e, h1]; exact h3
   ·rw [addAll_terms _ _ (fun t ht => (hm t ht).1), h0]; simp
  ·have e : bodyB a = termsB true a.t ++ konB false a.k := by unfold bodyB constB; rw [if_pos (.inr h0), he]
   obtain ⟨ps, h1, h2, h3⟩ := pieces_terms a.t true (konB false a.k) hm (konB_sg a.k)
   rw [hkon] at h1
   refine ⟨(a.t.map fun t => (B t.v, t.c)) ++ [([], a.k)], ?_, ?_, fun e => ?_⟩
   ·rw [e, h1, List.mapM_append, h2, List.mapM_cons, (piece_kon false a.k hk).1]; rfl
   ·rw [e, h1, List.map_append, h3, List.map_cons, List.map_nil, (piece_kon false a.k hk).2]
   ·have := addAll_terms a.t ⟨[], 0, e⟩ (fun t ht => (hm t ht).1)
    unfold addAll at this ⊢
    rw [List.foldl_append, this]
    simp [addP]
theorem body_mem (a : LinV) (ha : validL a = true) : ∀ c ∈ bodyB a, c.toNat ≠ 61 ∧ c.toNat ≠ 62 := by
 unfold validL at ha
 simp only [Bool.and_eq_true] at ha
 have hm := okAt_mem ha.1.1
 have key : ∀ (l : List LTm) (f : Bool), (∀ t ∈ l, nameB (B t.v) = true) → ∀ c ∈ termsB f l, c.toNat ≠ 61 ∧ c.toNat ≠ 62 := by
  intro l
  induction l with
  | nil => intro f _ c hc; cases hc
  | cons t l ih =>
   intro f h c hc
   rw [termsB] at hc
   rcases List.mem_append.1 hc with g | g
   ·have e : termB f t = (if t.c < 0 then [45] else if f = true then [] else [43]) ++ tailB t := rfl
    rw [e] at g
    rcases List.mem_append.1 g with g | g
    ·rcases sign_or f t.c with q | q | q <;> rw [q] at g
     ·cases g
     ·rw [List.mem_singleton] at g; subst g; decide
     ·rw [List.mem_singleton] at g; subst g; decide
    ·have := tail_mem t (h t (List.mem_cons_self ..)) c g; exact ⟨this.2.2.2, this.2.2.1⟩
   ·exact ih false (fun x hx => h x (List.mem_cons_of_mem _ hx)) c g
 intro c hc
 unfold bodyB at hc
 rcases List.mem_append.1 hc with g | g
 ·exact key a.t true (fun t ht => (hm t ht).1) c g
 ·unfold constB at g
  split at g
  ·unfold konB at g
   rcases List.mem_append.1 g with g | g
   ·rcases sign_or a.t.isEmpty a.k with q | q | q <;> rw [q] at g
    ·cases g
    ·rw [List.mem_singleton] at g; subst g; decide
    ·rw [List.mem_singleton] at g; subst g; decide
   ·have := dec_digit _ c g; omega
  ·cases g
def readP (s : List UInt8) : Option LinV :=
 if Lib.hasSuffix s [61, 48] = true then
  let b := Lib.trimSuffix s [61, 48]
  ((pieces (Lib.trimSuffix b [62])).mapM pieceP).map (addAll ⟨[], 0, !Lib.hasSuffix b [62]⟩)
 else none
def stopB (c : UInt8) : Bool := c == 61 || c == 62
def readR (s : List UInt8) : LinV :=
 addAll ⟨[], 0, decide ((s.dropWhile (!stopB ·)).head? = some 61)⟩ ((pieces (s.takeWhile (!stopB ·))).map pieceR)
theorem suf_yes (l m : List UInt8) : Lib.hasSuffix (l ++ m) m = true ∧ Lib.trimSuffix (l ++ m) m = l := by
 have h : Lib.hasSuffix (l ++ m) m = true := by unfold Lib.hasSuffix; rw [List.isSuffixOf_iff_suffix]; exact List.suffix_append ..
 refine ⟨h, ?_⟩
 unfold Lib.trimSuffix
 rw [if_pos h]; simp
theorem suf_no (l : List UInt8) (c : UInt8) (h : ∀ x ∈ l, x ≠ c) : Lib.hasSuffix l [c] = false ∧ Lib.trimSuffix l [c] = l := by
 have h : Lib.hasSuffix l [c] = false := by
  rw [← Bool.not_eq_true]
  unfold Lib.hasSuffix
  rw [List.isSuffixOf_iff_suffix]
  rintro ⟨r, e⟩
  exact h c (by rw [← e]; simp) rfl
 refine ⟨h, ?_⟩
 unfold Lib.trimSuffix
 rw [if_neg (by simp [h])]
theorem read_text (a : LinV) (ha : validL a = true) : readP (textB a) = some a ∧ readR (textB a) = a := by
 have hb := body_mem a ha
 obtain ⟨ps, h1, h2, h3⟩ := pieces_body a ha
 have n62 : ∀ x ∈ bodyB a, x ≠ 62 := fun x hx e => (hb x hx).2 (by rw [e]; rfl)
 have nst : ∀ x ∈ bodyB a, (!stopB x) = true := fun x hx => by
  have := hb x hx
  have e1 : x ≠ 61 := fun e => this.1 (by rw [e]; rfl)
  have e2 : x ≠ 62 := fun e => this.2 (by rw [e]; rfl)
  simp [stopB, e1, e2]
 unfold readP readR textB
 cases he : a.e with
 | true =>
  simp only [if_true]
  have s1 := suf_yes (bodyB a) [61, 48]
  have s2 := suf_no (bodyB a) 62 n62
  have tw := takeWhile_app (p := (!stopB ·)) (l := bodyB a) (R := [61, 48]) nst (fun c r e => by cases e; decide)
  rw [if_pos s1.1, s1.2, s2.2, s2.1, tw.1, tw.2, h1, h2]
  have := h3 true
  refine ⟨?_, ?_⟩
  ·simp only [Option.map_some, Bool.not_false, this]; cases a; simp_all
  ·simp only [List.head?_cons, decide_true, this]; cases a; simp_all
 | false =>
  simp only [Bool.false_eq_true, if_false]
  have e2 : bodyB a ++ [62, 61, 48] = bodyB a ++ [62] ++ [61, 48] := by simp
  have s1 := suf_yes (bodyB a ++ [62]) [61, 48]
  have s2 := suf_yes (bodyB a) [62]
  have tw := takeWhile_app (p := (!stopB ·)) (l := bodyB a) (R := [62, 61, 48]) nst (fun c r e => by cases e; decide)
  rw [tw.1, tw.2, h2, e2, if_pos s1.1, s1.2, s2.2, s2.1, h1]
  have := h3 false
  refine ⟨?_, ?_⟩
  ·simp only [Option.map_some, Bool.not_true, this]; cases a; simp_all
  ·have e3 : decide ((62 :: [61, 48] : List UInt8).head? = some 61) = false := by decide
   rw [e3, this]; cases a; simp_all
def parseL (s : List UInt8) : Option LinV := (readP s).bind fun a => if validL a = true ∧ textB a = s then some a else none
theorem parseL_text (a : LinV) (ha : validL a = true) : parseL (textB a) = some a := by
 unfold parseL
 rw [(read_text a ha).1]
 show (if _ then _ else _) = _
 rw [if_pos ⟨ha, rfl⟩]
end Go.Lin
end
section
namespace Go.Lin
open Go Go.Av Go.Lexs
def nilL : LinV := ⟨[], 0, false⟩
def noL : LinV := ⟨[], -1, false⟩
def limitedL (a : LinV) : LinV × Int := if validL a = true then (a, 0) else (nilL, 3)
def coefL (l : List LTm) (s : ByteArray) : Int := match l with
 | [] => 0
 | t :: l => if t.v = s then t.c else coefL l s
def sumN (l : List LTm) (s : ByteArray) : Int := match l with
 | [] => 0
 | t :: l => (if t.v = s then t.c else 0) + sumN l s
theorem sumN_app (l m : List LTm) (s : ByteArray) : sumN (l ++ m) s = sumN l s + sumN m s := by
 induction l with
 | nil => simp [sumN]
 | cons t l ih => simp only [List.cons_append, sumN, ih]; omega
theorem sumN_none {l : List LTm} {s : ByteArray} (h : ∀ t ∈ l, t.v ≠ s) : sumN l s = 0 := by
 induction l with
 | nil => rfl
 | cons t l ih => rw [sumN, if_neg (h t (List.mem_cons_self ..)), ih (fun x hx => h x (List.mem_cons_of_mem _ hx))]; rfl
theorem termsOk_up {l : List LTm} (h : termsOk l = true) : l.Pairwise fun x y => ltS x.v y.v = true := by
 have key : ∀ (j i : Nat) (hi : i < l.length) (hj : i + j + 1 < l.length), ltS l[i].v l[i + j + 1].v = true := by
  intro j
  induction j with
  | zero => intro i hi hj; exact (okAt_get h hj).2.2.2 (by omega) (by omega)
  | succ j ih => intro i hi hj; exact ltS_trans (ih i hi (by omega)) ((okAt_get h hj).2.2.2 (by omega) (by omega))
 rw [List.pairwise_iff_getElem]
 intro i j hi hj hij
 have := key (j - i - 1) i hi (by omega)
 have e : i + (j - i - 1) + 1 = j := by omega
 simp only [e] at this
 exact this
theorem sum_coef {l : List LTm} (h : l.Pairwise fun x y => ltS x.v y.v = true) (s : ByteArray) : sumN l s = coefL l s := by
 induction l with
 | nil => rfl
 | cons t l ih =>
  rw [sumN, coefL]
  by_cases e : t.v = s
  ·rw [if_pos e, if_pos e, sumN_none (fun x hx hs => ?_)]
   ·omega
   ·have := List.rel_of_pairwise_cons h hx
    rw [e, hs, ltS_irr] at this; cases this
  ·rw [if_neg e, if_neg e, ih h.of_cons]; omega
def sumT (f : ByteArray → Int) (l : List ByteArray) : List LTm := l.filterMap fun s => if f s ≠ 0 then some ⟨s, f s⟩ else none
theorem sumT_snoc (f : ByteArray → Int) (l : List ByteArray) (s : ByteArray) : sumT f (l ++ [s]) = sumT f l ++ if f s ≠ 0 then [⟨s, f s⟩] else [] := by
 unfold sumT
 rw [List.filterMap_append]
 congr 1
 by_cases h : f s ≠ 0 <;> simp [h]
theorem sumT_congr {f g : ByteArray → Int} {l : List ByteArray} (h : ∀ s ∈ l, f s = g s) : sumT f l = sumT g l := by
 unfold sumT
 induction l with
 | nil => rfl
 | cons s l ih => rw [List.filterMap_cons, List.filterMap_cons, ih (fun x hx => h x (List.mem_cons_of_mem _ hx)), h s (List.mem_cons_self ..)]
def plusL (a b : LinV) : LinV := ⟨sumT (fun s => coefL a.t s + coefL b.t s) (varsL [a, b]), a.k + b.k, a.e && b.e⟩
def addL (a b : LinV) : LinV × Int := if validL a = true ∧ validL b = true then limitedL (plusL a b) else (nilL, 2)
def timesL (a : LinV) (n : Int) : LinV := ⟨if n = 0 then [] else a.t.map fun t => ⟨t.v, t.c * n⟩, a.k * n, a.e⟩
def timesR (a : LinV) (n : Int) : LinV × Int := if validL a = true ∧ within n 1048576 = true then (if n < 0 ∧ a.e = false then (nilL, 5) else limitedL (timesL a n)) else (nilL, 2)
def negL (a : LinV) : LinV := { timesL a (-1) with k := a.k * -1 - 1 }
def negateR (a : LinV) : LinV × Int := if validL a = true then (if a.e = true then (nilL, 5) else limitedL (negL a)) else (nilL, 2)
def gcdL (l : List LTm) : Nat := l.foldl (fun g t => Nat.gcd t.c.natAbs g) 0
def sgnL (a : LinV) : Int := if a.e = true ∧ (a.t.headD default).c < 0 then -1 else 1
def divL (a : LinV) : LinV := ⟨a.t.map fun t => ⟨t.v, t.c.tdiv (gcdL a.t) * sgnL a⟩, a.k.fdiv (gcdL a.t) * sgnL a, a.e⟩
def holdsL (a : LinV) (n : Int) : Bool := decide (n = 0) || (decide (0 < n) && !a.e)
def normalR (a : LinV) : LinV × Int :=
 if validL a = true then
  if a.t = [] then (if holdsL a a.k = true then nilL else noL, 0)
  else if a.e = true ∧ a.k.tmod (gcdL a.t) ≠ 0 then (noL, 0)
  else (divL a, 0)
 else (nilL, 2)
def okV (l : List VlV) (i : Nat) : Bool := nameB (B (l.getD i default).v) && (decide (i = 0) || ltS (l.getD (i - 1) default).v (l.getD i default).v) && within (l.getD i default).n 2147483647
def valuesL (l : List VlV) : Bool := (List.range l.length).all (okV l) && decide (l.length ≤ 24)
def getL (l : List VlV) (s : ByteArray) : Option Int := match l with
 | [] => none
 | x :: l => if x.v = s then some x.n else getL l s
def totalL (k : Int) (l : List LTm) (vs : List VlV) : Option Int := match l with
 | [] => some k
 | t :: l => match getL vs t.v with
  | none => none
  | some n => totalL (k + t.c * n) l vs
def atR (a : LinV) (vs : List VlV) : Bool × Int :=
 if validL a = true ∧ valuesL vs = true then (match totalL a.k a.t vs with
  | none => (false, 13)
  | some n => (holdsL a n, 0))
 else (false, 2)
theorem getL_none {l : List VlV} {s : ByteArray} (h : ∀ x ∈ l, x.v ≠ s) : getL l s = none := by
 induction l with
 | nil => rfl
 | cons x l ih => rw [getL, if_neg (h x (List.mem_cons_self ..)), ih (fun y hy => h y (List.mem_cons_of_mem _ hy))]
theorem okV_get {l : List VlV} (h : valuesL l = true) {i : Nat} (hi : i < l.length) : nameB (B l[i].v) = true ∧ l[i].n.natAbs ≤ 2147483647 ∧ (∀ hj : i - 1 < l.length, 0 < i → ltS l[i - 1].v l[i].v = true) := by
 unfold valuesL at h
 rw [Bool.and_eq_true] at h
 have := List.all_eq_true.1 h.1 i (List.mem_range.2 hi)
 unfold okV within at this
 have e : l.getD i default = l[i] := by simp [hi]
 have e2 : ∀ hj : i - 1 < l.length, l.getD (i - 1) default = l[i - 1] := fun hj => by simp [hj]
 rw [e] at this
 simp only [Bool.and_eq_true, Bool.or_eq_true, decide_eq_true_eq] at this
 refine ⟨this.1.1, by omega, fun hj h0 => ?_⟩
 rcases this.1.2 with g | g
 ·omega
 ·rw [e2 hj] at g; exact g
theorem values_up {l : List VlV} (h : valuesL l = true) : ∀ (i j : Nat) (hi : i < l.length) (hj : j < l.length), i < j → ltS l[i].v l[j].v = true := by
 have key : ∀ (j i : Nat) (hi : i < l.length) (hj : i + j + 1 < l.length), ltS l[i].v l[i + j + 1].v = true := by
  intro j
  induction j with
  | zero => intro i hi hj; exact (okV_get h hj).2.2 (by omega) (by omega)
  | succ j ih => intro i hi hj; exact ltS_trans (ih i hi (by omega)) ((okV_get h hj).2.2 (by omega) (by omega))
 intro i j hi hj hij
 have := key (j - i - 1) i hi (by omega)
 have e : i + (j - i - 1) + 1 = j := by omega
 simp only [e] at this
 exact this
theorem getL_at {l : List VlV} (h : valuesL l = true) {s : ByteArray} {i : Nat} (hi : i ≤ l.length) (h1 : ∀ (k : Nat) (hk : k < l.length), k < i → ltS l[k].v s = true) (h2 : ∀ hk : i < l.length, ltS l[i].v s = false) :
  getL l s = if hk : i < l.length then (if l[i].v = s then some l[i].n else none) else none := by
 have key : ∀ (m : List VlV) (i : Nat), (∀ (k : Nat) (hk : k < m.length), k < i → m[k].v ≠ s) → (∀ (k : Nat) (hk : k < m.length), i < k → m[k].v ≠ s) → getL m s = if hk : i < m.length then (if m[i].v = s then some m[i].n else none) else none := by
  intro m
  induction m with
  | nil => intro i _ _; simp [getL]
  | cons x m ih =>
   intro i a b
   rw [getL]
   cases i with
   | zero =>
    have e : getL m s = none := getL_none fun y hy => by
     obtain ⟨k, hk, rfl⟩ := List.getElem_of_mem hy
     exact b (k + 1) (by simpa using hk) (by omega)
    rw [e]; simp
   | succ i =>
    rw [if_neg (show ¬ x.v = s from a 0 (by simp) (by omega)), ih i (fun k hk hlt => a (k + 1) (by simpa using hk) (by omega)) (fun k hk hlt => b (k + 1) (by simpa using hk) (by omega))]
    simp
 refine key l i (fun k hk hlt e => ?_) (fun k hk hlt e => ?_)
 ·have := h1 k hk hlt; rw [e, ltS_irr] at this; cases this
 ·have g1 := values_up h i k (by omega) hk hlt
  have g2 := h2 (by omega)
  rw [e] at g1; rw [g1] at g2; cases g2
end Go.Lin
end
section
namespace Go.Lin
open Go Go.Av Go.Lexs
structure Row where
 c : List Int
 k : Int
 eq : Bool
 deriving DecidableEq
instance : Inhabited Row := ⟨⟨[], 0, false⟩⟩
def getI (l : List Int) (i : Nat) : Int := l.getD i 0
def plusR (x : Row) (a : Int) (y : Row) (b : Int) : Row := ⟨List.zipWith (fun p q => p * a + q * b) x.c y.c, x.k * a + y.k * b, x.eq⟩
def gcdR (l : List Int) : Nat := l.foldl (fun g c => Nat.gcd c.natAbs g) 0
def tidyA : List Row → Option (List Row)
 | [] => some []
 | r :: l =>
  let g := gcdR r.c
  if g = 0 then (if r.k < 0 ∨ (r.eq = true ∧ 0 < r.k) then none else tidyA l)
  else if g = 1 then (tidyA l).map (r :: ·)
  else
   let k := r.k.fdiv g
   if r.eq = true ∧ k * g - r.k ≠ 0 then none
   else (tidyA l).map (⟨r.c.map (Int.fdiv · g), k, r.eq⟩ :: ·)
def oppR (a b : Row) (sign : Int) : Bool := a.c == b.c.map (· * sign)
def putR (r : Row) : List Row → List Row
 | [] => [r]
 | s :: l => if r.eq = false ∧ s.eq = false ∧ oppR r s 1 = true then (if r.k < s.k then { s with k := r.k } else s) :: l else s :: putR r l
def pairs1 (l : List Row) : List Row := l.foldl (fun out r => putR r out) []
def meet (r : Row) : List Row → Option Row
 | [] => some r
 | s :: l => if r.eq = true ∨ s.eq = true ∨ oppR r s (-1) = false then meet r l
  else if r.k + s.k < 0 then none else if r.k + s.k = 0 then meet { r with eq := true } l else meet r l
def pairs2 : List Row → List Row → Option (List Row)
 | done, [] => some done
 | done, r :: l => match meet r done with
  | none => none
  | some r' => pairs2 (done ++ [r']) l
def tidyR (l : List Row) : Option (List Row) := (tidyA l).bind fun l => pairs2 [] (pairs1 l)
def leastA (c : List Int) : List Int → Nat → Option Nat → Option Nat
 | [], _, b => b
 | x :: l, i, b => leastA c l (i + 1) (if x ≠ 0 ∧ (match b with | none => true | some j => decide (x.natAbs < (getI c j).natAbs)) = true then some i else b)
def leastR (r : Row) : Option Nat := leastA r.c r.c 0 none
def replR (e : Row) (k : Nat) (r : Row) : Row := if getI r.c k = 0 then r else plusR r 1 e (-(getI r.c k * getI e.c k))
def nearR (a b : Int) : Int := a - b * Int.fdiv (a * 2 + b) (b * 2)
def wideR (r : Row) : Row := { r with c := r.c ++ [0] }
def equationR (l : List Row) (i : Nat) : List Row :=
 let e := l.getD i default
 let rest := l.take i ++ l.drop (i + 1)
 let k := (leastR e).getD 0
 if (getI e.c k).natAbs = 1 then rest.map (replR e k)
 else
  let m : Int := (getI e.c k).natAbs + 1
  let f : Row := ⟨e.c.map (nearR · m) ++ [-m], nearR e.k m, true⟩
  ((rest ++ [e]).map wideR).map (replR f k)
def lowR (l : List Row) (k : Nat) : List Row := l.filter fun r => decide (0 < getI r.c k)
def highR (l : List Row) (k : Nat) : List Row := l.filter fun r => decide (getI r.c k < 0)
def restR (l : List Row) (k : Nat) : List Row := l.filter fun r => decide (getI r.c k = 0)
def unitR (l : List Row) (k : Nat) : Bool := l.all fun r => (getI r.c k).natAbs == 1
structure Ch where
 best : Option Nat
 sure : Bool
 cost : Int
def chooseA (l : List Row) (b : Ch) (k : Nat) : Ch :=
 let low := lowR l k; let high := highR l k
 if low.length + high.length = 0 then b
 else
  let ex := unitR low k || unitR high k
  let n : Int := (low.length : Int) * high.length - low.length - high.length
  if b.best = none ∨ (ex = true ∧ b.sure = false) ∨ (ex = b.sure ∧ n < b.cost) then ⟨some k, ex, n⟩ else b
def chooseR (l : List Row) : Ch := (List.range (l.headD default).c.length).foldl (chooseA l) ⟨none, false, 0⟩
def shadowP (a b : Row) (k : Nat) (dark : Bool) : Row :=
 let p := getI a.c k; let q := -(getI b.c k)
 let r := plusR a q b p
 if dark then { r with k := r.k - (p - 1) * (q - 1) } else r
def shadowR (l : List Row) (k : Nat) (dark : Bool) : List Row := restR l k ++ (lowR l k).flatMap fun a => (highR l k).map fun b => shadowP a b k dark
def okRow (n : Nat) (r : Row) : Bool := r.c.length == n && r.c.all (fun x => x.natAbs < 2^30) && decide (r.k.natAbs < 2^62)
def okRows (l : List Row) : Bool := decide (l.length < 10000) && match l with | [] => true | r :: _ => decide (r.c.length < 1000) && l.all (okRow r.c.length)
def solvF : Nat → List Row → Option Bool
 | 0, _ => none
 | n + 1, l => if okRows l = true then match tidyR l with
   | none => some false
   | some [] => some true
   | some (r :: l') => if okRows (r :: l') = true then match (r :: l').findIdx? (·.eq) with
    | some i => if (leastR ((r :: l').getD i default)).isSome = true then solvF n (equationR (r :: l') i) else none
    | none => match chooseR (r :: l') with
     | ⟨some k, true, _⟩ => solvF n (shadowR (r :: l') k false)
     | _ => none
    else none
  else none
def unitC (n i : Nat) (s : Int) : List Int := (List.range n).map fun j => if j = i then s else 0
def boundR (n i : Nat) : List Row := [⟨unitC n i 1, 2147483647, false⟩, ⟨unitC n i (-1), 2147483647, false⟩]
def rowV (names : List ByteArray) (a : LinV) : Row := ⟨names.map (coefL a.t), a.k, a.e⟩
def rowsV (l : List LinV) (names : List ByteArray) : List Row := l.map (rowV names) ++ (List.range names.length).flatMap (boundR names.length)
def solvL (l : List LinV) : Option Bool := solvF 100 (rowsV l (varsL l))
def atLeastL (s : ByteArray) (n : Int) : LinV := ⟨[⟨s, 1⟩], -n, false⟩
def atMostL (s : ByteArray) (n : Int) : LinV := ⟨[⟨s, -1⟩], n, false⟩
def halfF (can : List LinV → Option Bool) (s : ByteArray) : Nat → Int → Int → Option Int
 | 0, _, _ => none
 | f + 1, low, high => if low < high then
   match can [atLeastL s (-((low + high).tdiv 2)), atMostL s ((low + high).tdiv 2)] with
   | none => none
   | some true => halfF can s f low ((low + high).tdiv 2)
   | some false => halfF can s f ((low + high).tdiv 2 + 1) high
  else some low
def nearF (can : List LinV → Option Bool) (s : ByteArray) : Option Int := match halfF can s 40 0 2147483647 with
 | none => none
 | some low => if 0 < low then (match can [atLeastL s low, atMostL s low] with
   | none => none
   | some true => some low
   | some false => some (-low)) else some low
def firstF : List ByteArray → List LinV → Option (List VlV)
 | [], _ => some []
 | s :: ns, so => match nearF (fun more => solvL (so ++ more)) s with
  | none => none
  | some n => (firstF ns (so ++ [atLeastL s n, atMostL s n])).map (⟨s, n⟩ :: ·)
def edgeF (can : Int → Option Bool) : Nat → Int → Int → Option Int
 | 0, _, _ => none
 | f + 1, low, high => if low < high then
   match can (low + (high - low + 1).tdiv 2) with
   | none => none
   | some true => edgeF can f (low + (high - low + 1).tdiv 2) high
   | some false => edgeF can f low (low + (high - low + 1).tdiv 2 - 1)
  else some low
def sX : ByteArray := ⟨#[120]⟩
def sY : ByteArray := ⟨#[121]⟩
def exA : LinV := ⟨[⟨sX, 2⟩, ⟨sY, -2⟩], -1, true⟩
def exC : LinV := ⟨[⟨sX, 3⟩, ⟨sY, 5⟩], -7, true⟩
def exD : LinV := ⟨[⟨sX, 1⟩, ⟨sY, 1⟩], -10, true⟩
def exE : LinV := ⟨[⟨sY, 1⟩], -3, false⟩
def exF : LinV := ⟨[⟨sY, 1⟩], 0, false⟩
def exG : LinV := ⟨[⟨sX, 1⟩], 0, false⟩
def exH : LinV := ⟨[⟨sX, 2⟩], -3, false⟩
def exI : LinV := ⟨[⟨sX, -2⟩], 3, false⟩
def below (c : LinV) : LinV := { timesL c (-1) with k := c.k * -1 - 1, e := false }
theorem ex_all : allL [exC] = true ∧ allL [exH, exI] = true ∧ allL [exD, exE] = true ∧ allL [exE] = true ∧ allL [exE, exF] = true ∧ allL [exA, exC] = true ∧ validL exA = true := by decide +kernel
theorem ex_first0 : solvL [exC] = some true := by decide +kernel
theorem ex_first : firstF (varsL [exC]) [exC] = some [⟨sX, -1⟩, ⟨sY, 2⟩] := by decide +kernel
theorem ex_sat : solvL [exH, exI] = some false := by decide +kernel
theorem ex_bounds0 : solvL [exD, exE] = some true := by decide +kernel
theorem ex_high : edgeF (fun n => solvL ([exD, exE] ++ [atLeastL sX n])) 40 (-2147483647) 2147483647 = some 7 := by decide +kernel
theorem ex_low : edgeF (fun n => solvL ([exD, exE] ++ [atMostL sX (-n)])) 40 (-2147483647) 2147483647 = some 2147483637 := by decide +kernel
theorem ex_implies : solvL ([exE] ++ [below exF]) = some false := by decide +kernel
end Go.Lin
end
section
namespace Go.Lin
open Go Go.Av
theorem natD_d (n : Nat) : natD n = .sl 1 (Rw digC (digs n)) := rfl
abbrev bigC (n : Int) : List D := [.bool (decide (n < 0)), .sl 1 (Rw digC (digs n.natAbs))]
theorem bigC_d (n : Int) : bigC n = [.bool (decide (n < 0)), .sl 1 (Rw digC (digs n.natAbs))] := rfl
abbrev rowC (r : Row) : List D := [.sl 2 (Rw bigC r.c), .bool (decide (r.k < 0)), .sl 1 (Rw digC (digs r.k.natAbs)), .bool r.eq]
theorem rowC_d (r : Row) : rowC r = [.sl 2 (Rw bigC r.c), .bool (decide (r.k < 0)), .sl 1 (Rw digC (digs r.k.natAbs)), .bool r.eq] := rfl
end Go.Lin
end
section
namespace Go.Lin
open Go Go.Av
theorem u64w {n : Int} (h0 : 0 ≤ n) (h1 : n < 18446744073709551616) : IntKind.u64.wrap n = n := by
 simp only [IntKind.wrap, IntKind.signed, IntKind.bits]
 simp
 omega
theorem u32w {n : Int} : IntKind.u32.wrap n = n % 4294967296 := by
 simp only [IntKind.wrap, IntKind.signed, IntKind.bits]
 simp
theorem u32i {n : Int} (h0 : 0 ≤ n) (h1 : n < 4294967296) : IntKind.u32.wrap n = n := by rw [u32w]; omega
theorem or_add {r x : Nat} (hr : r < 4294967296) (hx : x < 4294967296) : IntKind.u64.wrap (((BitVec.ofInt 64 ((r : Int) * 4294967296) ||| BitVec.ofInt 64 (x : Int)).toNat : Nat) : Int) = ((r * 4294967296 + x : Nat) : Int) := by
 have e1 : BitVec.ofInt 64 ((r : Int) * 4294967296) = BitVec.ofNat 64 (r * 4294967296) := by
  rw [show ((r : Int) * 4294967296) = ((r * 4294967296 : Nat) : Int) by omega, BitVec.ofInt_natCast]
 rw [e1, BitVec.ofInt_natCast, BitVec.toNat_or, BitVec.toNat_ofNat, BitVec.toNat_ofNat, Nat.mod_eq_of_lt (by omega), Nat.mod_eq_of_lt (by omega)]
 have e2 : r * 4294967296 ||| x = r * 4294967296 + x := by
  have := Nat.two_pow_add_eq_or_of_lt (i := 32) (b := x) (by simpa using hx) r
  rw [show r * 4294967296 = 2 ^ 32 * r by omega]
  exact this.symm
 rw [e2]
 exact u64w (by omega) (by omega)
section
variable {P : Program} {t : Nat} {c : Bool}
@[go_sem] theorem b_shr32 (a : Int) : binD P .shr t c (.int .u64 a) (.int .u64 32) = some (.int .u64 (a / 4294967296)) := by
 show (if (32 : Int) < 0 then none else some (D.int .u64 (a.fdiv (2 ^ (min (32 : Int).toNat IntKind.u64.bits))))) = _
 rw [if_neg (by decide)]
 have e : (2 : Int) ^ (min (32 : Int).toNat IntKind.u64.bits) = 4294967296 := by decide
 rw [e, Int.fdiv_eq_ediv_of_nonneg _ (by decide)]
@[go_sem] theorem b_shrI (a : Int) : binD P .shr t c (.int .i64 a) (.int .u64 32) = some (.int .i64 (a / 4294967296)) := by
 show (if (32 : Int) < 0 then none else some (D.int .i64 (a.fdiv (2 ^ (min (32 : Int).toNat IntKind.i64.bits))))) = _
 rw [if_neg (by decide)]
 have e : (2 : Int) ^ (min (32 : Int).toNat IntKind.i64.bits) = 4294967296 := by decide
 rw [e, Int.fdiv_eq_ediv_of_nonneg _ (by decide)]
@[go_sem] theorem b_shl32 (a : Int) : binD P .shl t c (.int .u64 a) (.int .u64 32) = some (.int .u64 (IntKind.u64.wrap (a * 4294967296))) := by
 show (if (32 : Int) < 0 then none else some (D.int .u64 (IntKind.u64.wrap (a * (2 ^ (min (32 : Int).toNat IntKind.u64.bits)))))) = _
 rw [if_neg (by decide)]
 have e : (2 : Int) ^ (min (32 : Int).toNat IntKind.u64.bits) = 4294967296 := by decide
 rw [e]
@[go_sem] theorem b_or64 (a b : Int) : binD P .or t c (.int .u64 a) (.int .u64 b) = some (.int .u64 (IntKind.u64.wrap ((BitVec.ofInt 64 a ||| BitVec.ofInt 64 b).toNat : Nat))) := rfl
end
end Go.Lin
end
section
namespace Go.Av
section
variable {H Hc : Heap} {KD : D → Heap → Prop} {sz by_ n : Nat} {ob : Option Nat} {es xs : List (List D)}
theorem Rw_take_succ {α : Type} {f : α → List D} (l : List α) (k : Nat) (h : k < l.length) : Rw f (l.take (k + 1)) = Rw f (l.take k) ++ [f l[k]] := by
 rw [List.take_succ_eq_append_getElem h]; simp only [Rw, List.map_append, List.map_cons, List.map_nil]
end
end Go.Av
end
section
namespace Go.Av
theorem fz_sub {b sz : Nat} {es : List (List D)} {E0 E : Env} (h : Av.Sub E0 E) : ∀ p ∈ E0, Fz b sz es (E.get p.1) p.2 := fun p hp => by
 rw [h.all p hp]; exact .same _
end Go.Av
end
section
namespace Go.Av
theorem Fin.freezeA {Q : D → Heap → Prop} {cs cs' : List D} {H : Heap} {b sz : Nat} {es : List (List D)} (hb : H b = some (.vec sz es)) (hl : cs.length = cs'.length)
  (hz : ∀ (i : Nat) d d', cs[i]? = some d → cs'[i]? = some d' → Fz b sz es d d') (h : Fin Q (.agg cs') (H.del b)) : Fin Q (.agg cs) H := by
 unfold Fin at h ⊢
 obtain ⟨H1, d1, h1, h2⟩ := h
 refine ⟨H1, d1, Shift.trans (fun w v hr hs => ?_) h1, h2⟩
 refine ⟨?_, hs.less (Heap.del_le H b), fun k hn => (Heap.del_le H b).held hn⟩
 cases hr with
 | agg _ vs hlv ho hr =>
  have key : ∀ (i : Nat) d', cs'[i]? = some d' → ∃ d, cs[i]? = some d ∧ Fz b sz es d d' := fun i d' hd' => by
   have hi := (List.getElem?_eq_some_iff.1 hd').1
   have hi' : i < cs.length := by omega
   exact ⟨cs[i], List.getElem?_eq_getElem hi', hz i _ _ (List.getElem?_eq_getElem hi') hd'⟩
  refine .agg cs' vs (by omega) (fun i d' hd' => ?_) (fun i d' hd' => ?_)
  ·obtain ⟨d, hd, hf⟩ := key i d' hd'
   exact hf.one (ho i d hd)
  ·obtain ⟨d, hd, hf⟩ := key i d' hd'
   exact hf.R hs hb (hr i d hd)
theorem pc1s {P : Program} {H0 : Heap} {KD : D → Heap → Prop} {bl : Bl} {g b : Nat} {al : List D} {c : D} {o : Obj} (h0 : H0 b = none) (hr : o.rw = true) (hn : b ∉ bl.l) (h : ∀ (H' : Heap) (Q : D → Heap → Prop), (∀ k cs, (H0.set b o) k = some (.ro cs) → H' k = some (.ro cs)) → H' b = some o → Q c (H'.del b) → ACalls P g al H' Q) (hk : KD c H0) : pcB P (.c c) bl g al [b] (H0.set b o) KD :=
 pc1 (heap_same _ _) hr hn h (by rw [set_del h0]; exact hk)
end Go.Av
end
section
namespace Go.Av
theorem keepK {Hd : Heap} {ob : Option Nat} {b' k : Nat} {x o : Obj} (h1 : Hd k = some o) (h2 : ob ≠ some k) (h3 : delB Hd ob b' = none) : ((delB Hd ob).set b' x) k = some o := by
 have hd : delB Hd ob k = some o := by
  cases ob with
  | none => exact h1
  | some c =>
   show (Hd.del c) k = _
   rw [del_ne (by rintro rfl; exact h2 rfl)]; exact h1
 rw [heap_ne _ (by rintro rfl; rw [hd] at h3; cases h3)]; exact hd
theorem newK {Hd : Heap} {ob : Option Nat} {b' : Nat} (h3 : delB Hd ob b' = none) : Hd b' = none ∨ ob = some b' := by
 cases ob with
 | none => exact .inl h3
 | some c =>
  change (Hd.del c) b' = none at h3
  simp only [Heap.del] at h3
  by_cases e : b' = c
  ·exact .inr (by rw [e])
  ·rw [if_neg e] at h3; exact .inl h3
def Apd (H0 : Heap) (sz : Nat) (ob : Option Nat) (es : List (List D)) (b' : Nat) (H' : Heap) : Prop :=
 H' b' = some (.vec sz es) ∧ (∀ q o, H0 q = some o → ob ≠ some q → H' q = some o) ∧ (H0 b' = none ∨ ob = some b')
theorem apS_z {P : Program} {KD : D → Heap → Prop} {H0 : Heap} {sz by_ n bx : Nat} {ob : Option Nat} {o : Obj} {es xs : List (List D)} (hx0 : H0 bx = none) (hne : xs ≠ []) (hout : OutAt H0 sz es ob) (hn : n = es.length) (h1 : (n + xs.length) * by_ ≤ 140737488355328) (h2 : n + xs.length ≤ 9223372036854775807)
  (h : ∀ b' H', Apd H0 sz ob (es ++ xs) b' H' → KD (.vec b' sz 0 (n + xs.length)) H') : apS (outG sz n ob) sz by_ xs (H0.set bx o) KD := by
 have hob : ob ≠ some bx := fun e => by subst e; have : H0 bx = some (.vec sz es) := hout; rw [hx0] at this; cases this
 have hout2 : OutAt (H0.set bx o) sz es ob := by
  cases ob with
  | none => exact hout
  | some c => show Heap.set _ bx _ c = _; rw [heap_ne _ (fun e => hob (by rw [e]))]; exact hout
 refine apS_out es hne hn hout2 h1 h2 fun b' hb' => ?_
 refine h b' _ ⟨heap_same _ _, fun q x hq hqo => keepK (by rw [heap_ne _ (by rintro rfl; rw [hx0] at hq; cases hq)]; exact hq) hqo hb', ?_⟩
 rcases newK hb' with g | g
 ·exact .inl ((heap_le_set hx0).none g)
 ·exact .inr g
theorem Fin.freezeT {Q : D → Heap → Prop} {cs cs' : List D} {x : D} {H : Heap} {b sz : Nat} {es : List (List D)} (hb : H b = some (.vec sz es)) (hl : cs.length = cs'.length)
  (hz : ∀ (i : Nat) d d', cs[i]? = some d → cs'[i]? = some d' → Fz b sz es d d') (h : Fin Q (.tuple [.agg cs', x]) (H.del b)) : Fin Q (.tuple [.agg cs, x]) H := by
 unfold Fin at h ⊢
 obtain ⟨H1, d1, h1, h2⟩ := h
 refine ⟨H1, d1, Shift.trans (fun w v hr hs => ?_) h1, h2⟩
 refine ⟨?_, hs.less (Heap.del_le H b), fun k hn => (Heap.del_le H b).held hn⟩
 cases hr with
 | tuple _ us hlu hru =>
  refine .tuple [.agg cs', x] us hlu (fun q d' hd' => ?_)
  match q with
  | 0 =>
   cases hd'
   have hr0 := hru 0 (.agg cs) rfl
   revert hr0
   generalize us.getD 0 undef = v0
   intro hr0
   cases hr0 with
   | agg _ vs hlv ho hr =>
    have key : ∀ (i : Nat) d', cs'[i]? = some d' → ∃ d, cs[i]? = some d ∧ Fz b sz es d d' := fun i d' hd' => by
     have hi := (List.getElem?_eq_some_iff.1 hd').1
     have hi' : i < cs.length := by omega
     exact ⟨cs[i], List.getElem?_eq_getElem hi', hz i _ _ (List.getElem?_eq_getElem hi') hd'⟩
    refine .agg cs' vs (by omega) (fun i d' hd' => ?_) (fun i d' hd' => ?_)
    ·obtain ⟨d, hd, hf⟩ := key i d' hd'
     exact hf.one (ho i d hd)
    ·obtain ⟨d, hd, hf⟩ := key i d' hd'
     exact hf.R hs hb (hr i d hd)
  | 1 => cases hd'; exact (hru 1 _ rfl).less (Heap.del_le H b)
  | q + 2 => cases hd'
theorem ACalls.freezeO {P : Program} {f b sz : Nat} {es : List (List D)} {args : List D} {H H' : Heap} {Q : D → Heap → Prop} (hb : H b = some (.vec sz es)) 
  (hH : ∀ k o', H' k = some o' → k ≠ b ∧ ∃ o, H k = some o ∧ OFz b sz es o o') (h : ACalls P f args H' Q) : ACalls P f args H Q := by
 refine ACalls.shift (fun w vs h1 h2 hs => ?_) h
 have hheld : ∀ k, H.held k = false → H'.held k = false := fun k hk => by
  cases ho : H' k with
  | none => exact held_none ho
  | some o' =>
   obtain ⟨_, o, h1, h2⟩ := hH k o' ho
   rw [held_of h1] at hk
   rw [held_of ho]
   cases h2 <;> exact hk
 have hR : ∀ {d d' : D} {v : Value}, Fz b sz es d d' → R w H d v → R w H' d' v := fun hf hr => (hf.R hs hb hr).mono (Ext.refl _ _) fun k _ hk => by
  by_cases hkb : k = b
  ·subst hkb
   cases ho : H' k with
   | none => exact held_none ho
   | some o' => exact absurd rfl (hH k o' ho).1
  ·refine hheld k ?_
   rw [← held_ne (H := H) (H' := H.del b) (k := k) (by unfold Heap.del; rw [if_neg hkb])]
   exact hk
 refine ⟨h1, fun i d hd => hR (.same d) (h2 i d hd), fun k o' ho => ?_, hheld⟩
 obtain ⟨_, o, h1, h2⟩ := hH k o' ho
 have hok := hs k o h1
 cases h2 with
 | same => exact hok.mono (Ext.refl H w) (fun k _ hk => hheld k hk) rfl
 | box cs cs' Z hl hf =>
  obtain ⟨c, T, lo, hi, k1, k2, k3, k4, k5⟩ := hok
  refine ⟨c, T, lo, hi, k1, k2, by omega, fun j d' hd' => ?_, k5⟩
  have hj := (List.getElem?_eq_some_iff.1 hd').1
  have hd : cs[j]? = some (cs[j]'(by omega)) := List.getElem?_eq_getElem _
  have hfz := hf j _ _ hd hd'
  exact ⟨hfz.one (k4 j _ hd).1, hR hfz (k4 j _ hd).2⟩
 | vec s xs xs' hl hf =>
  obtain ⟨c, T, lo, hi, k1, k2, k3, k4, k5, k6⟩ := hok
  refine ⟨c, T, lo, hi, k1, k2, k3, by rw [← hl]; exact k4, fun i x' hx' => ?_, fun i x' j d' hx' hd' => ?_⟩
  ·have hi' := (List.getElem?_eq_some_iff.1 hx').1
   have hx : xs[i]? = some (xs[i]'(by omega)) := List.getElem?_eq_getElem _
   rw [← (hf i _ _ hx hx').1]; exact k5 i _ hx
  ·have hi' := (List.getElem?_eq_some_iff.1 hx').1
   have hx : xs[i]? = some (xs[i]'(by omega)) := List.getElem?_eq_getElem _
   have hlen := (hf i _ _ hx hx').1
   have hj := (List.getElem?_eq_some_iff.1 hd').1
   have hd : (xs[i]'(by omega))[j]? = some ((xs[i]'(by omega))[j]'(by omega)) := List.getElem?_eq_getElem _
   have hfz := (hf i _ _ hx hx').2 j _ _ hd hd'
   exact ⟨hfz.one (k6 i _ j _ hx hd).1, hR hfz (k6 i _ j _ hx hd).2⟩
inductive NilR : D → D → Prop
 | same (d : D) : NilR d d
 | nil (z : Nat) : NilR .nilsl (.sl z [])
 | agg (cs cs' : List D) (hl : cs.length = cs'.length) (h : ∀ (i : Nat) d d', cs[i]? = some d → cs'[i]? = some d' → NilR d d') : NilR (.agg cs) (.agg cs')
 | tuple (cs cs' : List D) (hl : cs.length = cs'.length) (h : ∀ (i : Nat) d d', cs[i]? = some d → cs'[i]? = some d' → NilR d d') : NilR (.tuple cs) (.tuple cs')
 | sl (sz : Nat) (es es' : List (List D)) (hl : es.length = es'.length) (h1 : ∀ (i : Nat) (e e' : List D), es[i]? = some e → es'[i]? = some e' → e.length = e'.length)
   (h : ∀ (i : Nat) (e e' : List D) (j : Nat) (d d' : D), es[i]? = some e → es'[i]? = some e' → e[j]? = some d → e'[j]? = some d' → NilR d d') : NilR (.sl sz es) (.sl sz es')
theorem NilR.one {d d' : D} (h : NilR d d') (ho : d.one = true) : d'.one = true := by
 cases h with
 | same => exact ho
 | nil => rfl
 | agg => cases ho
 | tuple => cases ho
 | sl => rfl
theorem get_of_len {α β : Type} {l : List α} {m : List β} (hl : l.length = m.length) {i : Nat} {y : β} (h : m[i]? = some y) : ∃ x, l[i]? = some x := by
 have hi := (List.getElem?_eq_some_iff.1 h).1
 exact ⟨l[i]'(by omega), List.getElem?_eq_getElem _⟩
theorem NilR.R {d d' : D} (h : NilR d d') : ∀ {w : World} {H : Heap} {v : Value}, R w H d v → R w H d' v := by
 induction h with
 | same d => exact fun hr => hr
 | nil z => intro w H v hr; cases hr; exact .sl0 _ _ _
 | agg cs cs' hl h ih =>
  intro w H v hr
  cases hr with
  | agg _ vs hlv ho hr =>
   refine .agg cs' vs (by omega) (fun i d' hd' => ?_) (fun i d' hd' => ?_)
   ·obtain ⟨d, hd⟩ := get_of_len hl hd'
    exact (h i d d' hd hd').one (ho i d hd)
   ·obtain ⟨d, hd⟩ := get_of_len hl hd'
    exact ih i d d' hd hd' (hr i d hd)
 | tuple cs cs' hl h ih =>
  intro w H v hr
  cases hr with
  | tuple _ vs hlv hr =>
   refine .tuple cs' vs (by omega) (fun i d' hd' => ?_)
   obtain ⟨d, hd⟩ := get_of_len hl hd'
   exact ih i d d' hd hd' (hr i d hd)
 | sl sz es es' hl h1 h ih =>
  intro w H v hr
  cases hr with
  | sl0 _ a cap =>
   have : es' = [] := List.eq_nil_of_length_eq_zero (by simpa using hl.symm)
   subst this
   exact .sl0 _ _ _
  | sl _ _ b off cap u hb hn hlen hcap hc ho hr =>
   rw [hl]
   refine .sl sz es' b off cap u hb hn (fun i e' he' => ?_) (by omega) (fun i j hi hj => hc i j (by omega) hj) (fun i e' j d' he' hd' => ?_) (fun i e' j d' he' hd' => ?_)
   ·obtain ⟨e, he⟩ := get_of_len hl he'
    rw [← h1 i e e' he he']; exact hlen i e he
   ·obtain ⟨e, he⟩ := get_of_len hl he'
    obtain ⟨d, hd⟩ := get_of_len (h1 i e e' he he') hd'
    exact (h i e e' j d d' he he' hd hd').one (ho i e j d he hd)
   ·obtain ⟨e, he⟩ := get_of_len hl he'
    obtain ⟨d, hd⟩ := get_of_len (h1 i e e' he he') hd'
    exact ih i e e' j d d' he he' hd hd' (hr i e j d he hd)
theorem NilR.rw {α : Type} {f g : α → List D} (sz : Nat) (l : List α) (h1 : ∀ x ∈ l, (f x).length = (g x).length) (h : ∀ x ∈ l, ∀ (j : Nat) d d', (f x)[j]? = some d → (g x)[j]? = some d' → NilR d d') : NilR (.sl sz (Rw f l)) (.sl sz (Rw g l)) := by
 refine .sl sz _ _ (by simp [Rw]) (fun i e e' he he' => ?_) (fun i e e' j d d' he he' hd hd' => ?_)
 ·simp only [Rw, List.getElem?_map, Option.map_eq_some_iff] at he he'
  obtain ⟨x, hx, rfl⟩ := he
  obtain ⟨y, hy, rfl⟩ := he'
  rw [hx] at hy; cases hy
  exact h1 x (List.mem_of_getElem? hx)
 ·simp only [Rw, List.getElem?_map, Option.map_eq_some_iff] at he he'
  obtain ⟨x, hx, rfl⟩ := he
  obtain ⟨y, hy, rfl⟩ := he'
  rw [hx] at hy; cases hy
  exact h x (List.mem_of_getElem? hx) j d d' hd hd'
theorem Fin.nilR {Q : D → Heap → Prop} {d d' : D} {H : Heap} (hn : NilR d d') (h : Fin Q d' H) : Fin Q d H := by
 unfold Fin at h ⊢
 obtain ⟨H1, d1, h1, h2⟩ := h
 exact ⟨H1, d1, Shift.trans (fun w v hr hs => ⟨hn.R hr, hs, fun k hk => hk⟩) h1, h2⟩
theorem ACalls.nilR {P : Program} {f : Nat} {args args' : List D} {H : Heap} {Q : D → Heap → Prop} (hl : args.length = args'.length) (hn : ∀ (i : Nat) d d', args[i]? = some d → args'[i]? = some d' → NilR d d') (h : ACalls P f args' H Q) : ACalls P f args H Q :=
 ACalls.shift (args' := args') (fun w vs h1 h2 h3 => ⟨by omega, fun i d' hd' => by
  obtain ⟨d, hd⟩ := get_of_len hl hd'
  exact (hn i d d' hd hd').R (h2 i d hd), h3, fun _ hk => hk⟩) h
end Go.Av
end
section
set_option maxRecDepth 20000
namespace Go.Proofs.YtacekpdodelnbaaGreatDoor
open Go Go.Av Go.Lin
attribute [local irreducible] ACalls at8
theorem trim_a {Q} (l : List Nat) (b : Nat) (H : Heap) (n : Nat) (hn : n = l.length) (hl : l.length ≤ 1000000) (hb : H b = some (.vec 1 (Rw digC l))) (h : Q (.vec b 1 0 (trimN l n)) H) : ACalls Tryz.prog 219 [.vec b 1 0 n] H Q := by
 subst hn
 refine acalls_of_wp [] Tryz.mixed Tryz.func219 rfl (by kernel_rfl) (of_decide_eq_true (by kernel_rfl)) (by kernel_rfl) ?_
 simp only [go_sem,seval, Tryz.results219]
 repeat' (first | with_reducible refine And.intro ?_ ?_ | simp only [go_sem,seval] | simp (disch := omega) only [wrap64] | intro hx_ | omega)
 refine loop_c [] (fun (m : Nat) => [(0, .vec b 1 0 m)]) (fun (m : Nat) => H) (fun (m : Nat) => m ≤ l.length ∧ trimN l m = trimN l l.length) (fun (m : Nat) => m) (l.length) (⟨Nat.le_refl _, rfl⟩) (by (try simp only [go_sem,seval]) <;> (try simp (disch := omega) [wrap64]) <;> (try omega)) (by first | with_reducible exact Heap.Le.refl _ | exact heap_set_le (by assumption) | exact Heap.Le.refl _ | exact heap_le_set (by assumption) | exact (by simp only [Go.Av.Heap.Le, Go.Av.Heap.set, Go.Av.Heap.del] at * <;> grind)) ?_
 rintro Ec rfl m ⟨hm, ht⟩
 by_cases h0 : 0 < m
 ·obtain ⟨k, rfl⟩ : ∃ k, m = k + 1 := ⟨m - 1, by omega⟩
  have hk : k < l.length := by omega
  have hg : l.getD k 0 = l[k] := by simp [hk]
  have ek : (((k + 1 : Nat) : Int) - 1) = (k : Int) := by omega
  rw [trimN, hg] at ht
  by_cases hz : l[k] = 0
  ·rw [if_pos hz] at ht
   repeat' (first | with_reducible refine And.intro ?_ ?_ | simp only [go_sem,seval, hb, Rw_at _ _ hk, Rw_get _ _ hk, ek, hz, decide_true] | simp (disch := omega) only [wrap64] | intro hx_ | omega)
   exact nx_mk k ⟨by omega, ht⟩ (by omega) (by (try simp only [go_sem,seval]) <;> (try simp (disch := omega) [wrap64]) <;> (try omega)) (Heap.Le.refl _)
  ·rw [if_neg hz] at ht
   have hzi : ¬ ((l[k] : Nat) : Int) = 0 := by omega
   repeat' (first | with_reducible refine And.intro ?_ ?_ | simp only [go_sem,seval, hb, Rw_at _ _ hk, Rw_get _ _ hk, ek, hzi, decide_false] | simp (disch := omega) only [wrap64] | intro hx_ | omega)
   rw [← ht] at h
   exact Fin.same h
 ·have e : m = 0 := by omega
  subst e
  rw [trimN] at ht
  repeat' (first | with_reducible refine And.intro ?_ ?_ | simp only [go_sem,seval] | simp (disch := omega) only [wrap64] | intro hx_ | omega)
  rw [← ht] at h
  exact Fin.same h
theorem fin_trim {Q : D → Heap → Prop} {H : Heap} {b n : Nat} {l : List Nat} (hd : Dig l) (hn : n = l.length) (hb : H b = some (.vec 1 (Rw digC l))) (h : Av.Fin Q (natD (valD l)) (H.del b)) : Av.Fin Q (.vec b 1 0 (trimN l n)) H := by
 subst hn
 refine Fin.freeze hb (.vec 0 _ (by rw [Nat.zero_add, Rw_len]; exact trimN_le _ _)) ?_
 rw [List.drop_zero, Rw_take, trim_all hd]
 exact h
theorem of_a {Q} (n : Nat) (hn : n < 18446744073709551616) (H : Heap) (h : Q (natD n) H) : ACalls Tryz.prog 189 [.int .u64 n] H Q := by
 refine acalls_of_wp [] Tryz.mixed Tryz.func189 rfl (by kernel_rfl) (of_decide_eq_true (by kernel_rfl)) (by kernel_rfl) ?_
 simp only [go_sem,seval, Tryz.results189]
 repeat' (first | with_reducible refine And.intro ?_ ?_ | simp only [go_sem,seval] | intro hx_ | omega)
 rename_i b
 have hb := hx_
 clear hx_
 have e1 : IntKind.u32.wrap (n : Int) = ((n % 4294967296 : Nat) : Int) := by rw [u32w]; omega
 have e2 : IntKind.u32.wrap ((n : Int) / 4294967296) = ((n / 4294967296 : Nat) : Int) := by rw [u32w]; omega
 have hd : Dig [n % 4294967296, n / 4294967296] := fun x hx => by
  simp only [List.mem_cons, List.not_mem_nil, or_false] at hx
  rcases hx with rfl | rfl <;> omega
 have hv : valD [n % 4294967296, n / 4294967296] = n := by simp only [valD]; omega
 rw [e1, e2]
 refine trim_a [n % 4294967296, n / 4294967296] b _ 2 rfl (by simp) (heap_same _ _) ?_
 repeat' (first | with_reducible refine And.intro ?_ ?_ | simp only [go_sem,seval] | intro hx_ | omega)
 refine fin_trim hd rfl (heap_same _ _) ?_
 rw [hv, set_del hb]
 exact Fin.same h
def cmpOk (a b : Nat) (c : Int) : Prop := (c < 0 ↔ a < b) ∧ (c = 0 ↔ a = b)
theorem cmp_a {Q} (a b : Nat) (ha : (digs a).length ≤ 1000000) (hb : (digs b).length ≤ 1000000) (H : Heap) (h : ∀ c : Int, cmpOk a b c → Q (.int .i64 c) H) : ACalls Tryz.prog 215 [natD a, natD b] H Q := by
 refine acalls_of_wp [] Tryz.mixed Tryz.func215 rfl (by kernel_rfl) (of_decide_eq_true (by kernel_rfl)) (by kernel_rfl) ?_
 simp only [go_sem,seval, Tryz.results215]
 have va := valD_digs a
 have vb := valD_digs b
 have da := digs_dig a
 have db := digs_dig b
 by_cases hl : (digs a).length = (digs b).length
 ·have hl2 : ((digs a).length : Int) = (digs b).length := by omega
  repeat' (first | with_reducible refine And.intro ?_ ?_ | simp only [go_sem,seval, hl2, bne_self_eq_false] | simp (disch := omega) only [wrap64, Rw_at] | intro hx_ | omega)
  refine loop_c [0, 1] (fun (k : Nat) => [(5, .int .i64 ((k : Int) - 1))]) (fun (k : Nat) => H) (fun (k : Nat) => k ≤ (digs a).length ∧ (digs a).drop k = (digs b).drop k) (fun (k : Nat) => k) ((digs b).length) (⟨by omega, by rw [List.drop_length, List.drop_eq_nil_of_le (by omega)]⟩) (by (try simp only [go_sem,seval]) <;> (try simp (disch := omega) [wrap64]) <;> (try omega)) (by first | with_reducible exact Heap.Le.refl _ | exact heap_set_le (by assumption) | exact Heap.Le.refl _ | exact heap_le_set (by assumption) | exact (by simp only [Go.Av.Heap.Le, Go.Av.Heap.set, Go.Av.Heap.del] at * <;> grind)) ?_
  rintro Ec rfl k ⟨hk, hdr⟩
  by_cases h0 : 0 < k
  ·obtain ⟨j, rfl⟩ : ∃ j, k = j + 1 := ⟨k - 1, by omega⟩
   have ja : j < (digs a).length := by omega
   have jb : j < (digs b).length := by omega
   have ek : (((j + 1 : Nat) : Int) - 1) = (j : Int) := by omega
   have k0 : decide ((0 : Int) ≤ (j : Int)) = true := decide_eq_true (by omega)
   by_cases he : (digs a)[j] = (digs b)[j]
   ·have hei : ((((digs a)[j] : Nat) : Int) != (((digs b)[j] : Nat) : Int)) = false := by rw [he]; exact bne_self_eq_false _
    repeat' (first | with_reducible refine And.intro ?_ ?_ | simp only [go_sem,seval, Rw_at _ _ ja, Rw_get _ _ ja, Rw_at _ _ jb, Rw_get _ _ jb, ek, k0, hei] | simp (disch := omega) only [wrap64, Rw_at] | intro hx_ | omega)
    exact nx_mk j ⟨by omega, by rw [List.drop_eq_getElem_cons ja, List.drop_eq_getElem_cons jb, hdr, he]⟩ (by omega) (by (try simp only [go_sem,seval]) <;> (try simp (disch := omega) [wrap64]) <;> (try omega)) (Heap.Le.refl _)
   ·have hei : ((((digs a)[j] : Nat) : Int) != (((digs b)[j] : Nat) : Int)) = true := by rw [bne_iff_ne]; omega
    by_cases hlt : (digs a)[j] < (digs b)[j]
    ·have hld : decide ((((digs a)[j] : Nat) : Int) < (((digs b)[j] : Nat) : Int)) = true := decide_eq_true (by omega)
     repeat' (first | with_reducible refine And.intro ?_ ?_ | simp only [go_sem,seval, Rw_at _ _ ja, Rw_get _ _ ja, Rw_at _ _ jb, Rw_get _ _ jb, ek, k0, hei, hld] | simp (disch := omega) only [wrap64, Rw_at] | intro hx_ | omega)
     have := valD_cmp da db hl ja hdr hlt
     rw [va, vb] at this
     exact Fin.same (h _ ⟨by omega, by omega⟩)
    ·have hld : decide ((((digs a)[j] : Nat) : Int) < (((digs b)[j] : Nat) : Int)) = false := decide_eq_false (by omega)
     repeat' (first | with_reducible refine And.intro ?_ ?_ | simp only [go_sem,seval, Rw_at _ _ ja, Rw_get _ _ ja, Rw_at _ _ jb, Rw_get _ _ jb, ek, k0, hei, hld] | simp (disch := omega) only [wrap64, Rw_at] | intro hx_ | omega)
     have := valD_cmp db da hl.symm jb hdr.symm (by omega)
     rw [va, vb] at this
     exact Fin.same (h _ ⟨by omega, by omega⟩)
  ·have e : k = 0 := by omega
   subst e
   have k0 : decide ((0 : Int) ≤ (((0 : Nat) : Int) - 1)) = false := by decide
   rw [List.drop_zero, List.drop_zero] at hdr
   have hab : a = b := by rw [← va, ← vb, hdr]
   repeat' (first | with_reducible refine And.intro ?_ ?_ | simp only [go_sem,seval, k0] | simp (disch := omega) only [wrap64, Rw_at] | intro hx_ | omega)
   exact Fin.same (h _ ⟨by omega, by omega⟩)
 ·have hln : ((((digs a).length : Nat) : Int) != (((digs b).length : Nat) : Int)) = true := by rw [bne_iff_ne]; omega
  repeat' (first | with_reducible refine And.intro ?_ ?_ | simp only [go_sem,seval, hln] | simp (disch := omega) only [wrap64, Rw_at] | intro hx_ | omega)
  refine Fin.same (h _ ?_)
  rcases Nat.lt_or_gt_of_ne hl with g | g
  ·have := digs_len_lt g; exact ⟨by omega, by omega⟩
  ·have := digs_len_lt g; exact ⟨by omega, by omega⟩
theorem nadd_a {Q} (m n : Nat) (hm : (digs m).length ≤ 100000) (hn : (digs n).length ≤ 100000) (H : Heap) (h : Q (natD (m + n)) H) : ACalls Tryz.prog 211 [natD m, natD n] H Q := by
 refine acalls_of_wp [] Tryz.mixed Tryz.func211 rfl (by kernel_rfl) (of_decide_eq_true (by kernel_rfl)) (by kernel_rfl) ?_
 simp only [go_sem,seval, Tryz.results211]
 by_cases hsw : (digs m).length < (digs n).length
 ·have hswd : decide (((digs m).length : Int) < (digs n).length) = true := decide_eq_true (by omega)
  repeat' (first | with_reducible refine And.intro ?_ ?_ | simp only [go_sem,seval, hswd] | simp (disch := omega) only [wrap64, Rw_at, dig_at] | intro hx_ | omega)
  rename_i bo
  have hbo := hx_
  clear hx_
  have hrep : ([D.int .u32 0] :: List.replicate (digs n).length [D.int .u32 0]) = Rw digC (padN [] ((digs n).length + 1)) := by rw [← List.replicate_succ, padN_nil]; exact Rw_rep _ _ _ rfl
  rw [hrep]
  refine loop_c [0, 1, 5, 20] (fun (p : List Nat × Nat) => [(21, .int .i64 p.1.length), (6, .int .u64 p.2)]) (fun (p : List Nat × Nat) => H.set bo (.vec 1 (Rw digC (padN p.1 ((digs n).length + 1))))) (fun (p : List Nat × Nat) => p.1.length ≤ (digs n).length ∧ Dig p.1 ∧ p.2 ≤ 1 ∧ valD p.1 + 4294967296 ^ p.1.length * p.2 = valD ((digs n).take p.1.length) + valD ((digs m).take p.1.length)) (fun (p : List Nat × Nat) => (digs n).length - p.1.length) (([], 0)) (⟨Nat.zero_le _, by simp [Dig], by simp, by simp [valD]⟩) (by (try simp only [go_sem,seval]) <;> (try simp (disch := omega) [wrap64]) <;> (try omega)) (by first | with_reducible exact Heap.Le.refl _ | exact heap_set_le (by assumption) | exact Heap.Le.refl _ | exact heap_le_set (by assumption) | exact (by simp only [Go.Av.Heap.Le, Go.Av.Heap.set, Go.Av.Heap.del] at * <;> grind)) ?_
  rintro Ec rfl ⟨L, c⟩ ⟨hL, dL, hc, hv⟩
  simp only at hL dL hc hv
  have hpl := padN_len L ((digs n).length + 1) (by omega)
  by_cases hlt : L.length < (digs n).length
  ·have hkd : decide ((L.length : Int) < (digs n).length) = true := decide_eq_true (by omega)
   have x1 := dig_at (digs_dig n) hlt
   have w1 : IntKind.u64.wrap (((digs n)[L.length] : Nat) : Int) = (((digs n)[L.length] : Nat) : Int) := u64w (by omega) (by omega)
   have w2 : IntKind.u64.wrap ((c : Int) + ((digs n)[L.length] : Nat)) = ((c + (digs n)[L.length] : Nat) : Int) := by rw [u64w (by omega) (by omega)]; omega
   have hset : L.length < (padN L ((digs n).length + 1)).length := by omega
   by_cases hy : L.length < (digs m).length
   ·have hyd : decide ((L.length : Int) < (digs m).length) = true := decide_eq_true (by omega)
    have y1 := dig_at (digs_dig m) hy
    have w3 : IntKind.u64.wrap (((digs m)[L.length] : Nat) : Int) = (((digs m)[L.length] : Nat) : Int) := u64w (by omega) (by omega)
    obtain ⟨s, hs⟩ : ∃ s, s = c + (digs n)[L.length] + (digs m)[L.length] := ⟨_, rfl⟩
    have w4 : IntKind.u64.wrap (((c + (digs n)[L.length] : Nat) : Int) + ((digs m)[L.length] : Nat)) = (s : Int) := by rw [u64w (by omega) (by omega)]; omega
    have w5 : IntKind.u32.wrap (s : Int) = ((s % 4294967296 : Nat) : Int) := by rw [u32w]; omega
    have w6 : (s : Int) / 4294967296 = ((s / 4294967296 : Nat) : Int) := by omega
    have e1 : (Rw digC (padN L ((digs n).length + 1))).set L.length [.int .u32 ((s % 4294967296 : Nat) : Int)] = Rw digC (padN (L ++ [s % 4294967296]) ((digs n).length + 1)) := by rw [← padN_set L _ _ (by omega)]; exact Rw_set _ _ _ _ rfl
    repeat' (first | with_reducible refine And.intro ?_ ?_ | simp only [go_sem,seval, hkd, hyd, hpl, Rw_at _ _ hlt, Rw_get _ _ hlt, Rw_at _ _ hy, Rw_get _ _ hy, w1, w2, w3, w4, w5, w6, e1] | simp (disch := omega) only [wrap64, Rw_at, dig_at] | intro hx_ | omega)
    refine nx_mk (L ++ [s % 4294967296], s / 4294967296) ⟨by simp only [List.length_append, List.length_singleton]; omega, dig_snoc dL (by omega), by simp only []; omega, ?_⟩ (by simp only [List.length_append, List.length_singleton]; omega) (by (try simp only [go_sem,seval, List.length_append, List.length_singleton]) <;> (try simp (disch := omega) [wrap64]) <;> (try omega)) (Heap.Le.refl _)
    simp only [List.length_append, List.length_singleton]
    rw [carry_step, valD_take_succ _ _ hlt, valD_take_succ _ _ hy, hs, Nat.mul_add, Nat.mul_add]
    omega
   ·have hyd : decide ((L.length : Int) < (digs m).length) = false := decide_eq_false (by omega)
    obtain ⟨s, hs⟩ : ∃ s, s = c + (digs n)[L.length] := ⟨_, rfl⟩
    rw [← hs] at w2
    have w5 : IntKind.u32.wrap (s : Int) = ((s % 4294967296 : Nat) : Int) := by rw [u32w]; omega
    have w6 : (s : Int) / 4294967296 = ((s / 4294967296 : Nat) : Int) := by omega
    have e1 : (Rw digC (padN L ((digs n).length + 1))).set L.length [.int .u32 ((s % 4294967296 : Nat) : Int)] = Rw digC (padN (L ++ [s % 4294967296]) ((digs n).length + 1)) := by rw [← padN_set L _ _ (by omega)]; exact Rw_set _ _ _ _ rfl
    repeat' (first | with_reducible refine And.intro ?_ ?_ | simp only [go_sem,seval, hkd, hyd, hpl, Rw_at _ _ hlt, Rw_get _ _ hlt, w1, w2, w5, w6, e1] | simp (disch := omega) only [wrap64, Rw_at, dig_at] | intro hx_ | omega)
    refine nx_mk (L ++ [s % 4294967296], s / 4294967296) ⟨by simp only [List.length_append, List.length_singleton]; omega, dig_snoc dL (by omega), by simp only []; omega, ?_⟩ (by simp only [List.length_append, List.length_singleton]; omega) (by (try simp only [go_sem,seval, List.length_append, List.length_singleton]) <;> (try simp (disch := omega) [wrap64]) <;> (try omega)) (Heap.Le.refl _)
    simp only [List.length_append, List.length_singleton]
    rw [List.take_of_length_le (l := digs m) (by omega)] at hv
    rw [carry_step, valD_take_succ _ _ hlt, List.take_of_length_le (l := digs m) (by omega), hs, Nat.mul_add]
    omega
  ·have hkd : decide ((L.length : Int) < (digs n).length) = false := decide_eq_false (by omega)
   have hLe : L.length = (digs n).length := by omega
   have w5 : IntKind.u32.wrap (c : Int) = ((c : Nat) : Int) := u32i (by omega) (by omega)
   have e1 : (Rw digC (padN L ((digs n).length + 1))).set (digs n).length [.int .u32 ((c : Nat) : Int)] = Rw digC (L ++ [c]) := by
    rw [← hLe, ← padN_full (L ++ [c]) (L.length + 1) (by simp), ← padN_set L _ _ (by omega)]; exact Rw_set _ _ _ _ rfl
   have hval : valD (L ++ [c]) = m + n := by
    rw [valD_snoc, hv, List.take_of_length_le (by omega), List.take_of_length_le (by omega), valD_digs, valD_digs]; omega
   repeat' (first | with_reducible refine And.intro ?_ ?_ | simp only [go_sem,seval, hkd, hpl, w5, e1] | simp (disch := omega) only [wrap64, Rw_at, dig_at] | intro hx_ | omega)
   refine trim_a (L ++ [c]) bo _ _ (by simp [hLe]) (by simp; omega) (heap_same _ _) ?_
   repeat' (first | with_reducible refine And.intro ?_ ?_ | simp only [go_sem,seval] | simp (disch := omega) only [wrap64, Rw_at, dig_at] | intro hx_ | omega)
   refine fin_trim (l := L ++ [c]) (dig_snoc dL (show c < 4294967296 by omega)) (by simp [hLe]) (heap_same _ _) ?_
   rw [hval, set_del hbo]
   exact Fin.same h
 ·have hswd : decide (((digs m).length : Int) < (digs n).length) = false := decide_eq_false (by omega)
  repeat' (first | with_reducible refine And.intro ?_ ?_ | simp only [go_sem,seval, hswd] | simp (disch := omega) only [wrap64, Rw_at, dig_at] | intro hx_ | omega)
  rename_i bo
  have hbo := hx_
  clear hx_
  have hrep : ([D.int .u32 0] :: List.replicate (digs m).length [D.int .u32 0]) = Rw digC (padN [] ((digs m).length + 1)) := by rw [← List.replicate_succ, padN_nil]; exact Rw_rep _ _ _ rfl
  rw [hrep]
  refine loop_c [0, 1, 5, 20] (fun (p : List Nat × Nat) => [(21, .int .i64 p.1.length), (6, .int .u64 p.2)]) (fun (p : List Nat × Nat) => H.set bo (.vec 1 (Rw digC (padN p.1 ((digs m).length + 1))))) (fun (p : List Nat × Nat) => p.1.length ≤ (digs m).length ∧ Dig p.1 ∧ p.2 ≤ 1 ∧ valD p.1 + 4294967296 ^ p.1.length * p.2 = valD ((digs m).take p.1.length) + valD ((digs n).take p.1.length)) (fun (p : List Nat × Nat) => (digs m).length - p.1.length) (([], 0)) (⟨Nat.zero_le _, by simp [Dig], by simp, by simp [valD]⟩) (by (try simp only [go_sem,seval]) <;> (try simp (disch := omega) [wrap64]) <;> (try omega)) (by first | with_reducible exact Heap.Le.refl _ | exact heap_set_le (by assumption) | exact Heap.Le.refl _ | exact heap_le_set (by assumption) | exact (by simp only [Go.Av.Heap.Le, Go.Av.Heap.set, Go.Av.Heap.del] at * <;> grind)) ?_
  rintro Ec rfl ⟨L, c⟩ ⟨hL, dL, hc, hv⟩
  simp only at hL dL hc hv
  have hpl := padN_len L ((digs m).length + 1) (by omega)
  by_cases hlt : L.length < (digs m).length
  ·have hkd : decide ((L.length : Int) < (digs m).length) = true := decide_eq_true (by omega)
   have x1 := dig_at (digs_dig m) hlt
   have w1 : IntKind.u64.wrap (((digs m)[L.length] : Nat) : Int) = (((digs m)[L.length] : Nat) : Int) := u64w (by omega) (by omega)
   have w2 : IntKind.u64.wrap ((c : Int) + ((digs m)[L.length] : Nat)) = ((c + (digs m)[L.length] : Nat) : Int) := by rw [u64w (by omega) (by omega)]; omega
   have hset : L.length < (padN L ((digs m).length + 1)).length := by omega
   by_cases hy : L.length < (digs n).length
   ·have hyd : decide ((L.length : Int) < (digs n).length) = true := decide_eq_true (by omega)
    have y1 := dig_at (digs_dig n) hy
    have w3 : IntKind.u64.wrap (((digs n)[L.length] : Nat) : Int) = (((digs n)[L.length] : Nat) : Int) := u64w (by omega) (by omega)
    obtain ⟨s, hs⟩ : ∃ s, s = c + (digs m)[L.length] + (digs n)[L.length] := ⟨_, rfl⟩
    have w4 : IntKind.u64.wrap (((c + (digs m)[L.length] : Nat) : Int) + ((digs n)[L.length] : Nat)) = (s : Int) := by rw [u64w (by omega) (by omega)]; omega
    have w5 : IntKind.u32.wrap (s : Int) = ((s % 4294967296 : Nat) : Int) := by rw [u32w]; omega
    have w6 : (s : Int) / 4294967296 = ((s / 4294967296 : Nat) : Int) := by omega
    have e1 : (Rw digC (padN L ((digs m).length + 1))).set L.length [.int .u32 ((s % 4294967296 : Nat) : Int)] = Rw digC (padN (L ++ [s % 4294967296]) ((digs m).length + 1)) := by rw [← padN_set L _ _ (by omega)]; exact Rw_set _ _ _ _ rfl
    repeat' (first | with_reducible refine And.intro ?_ ?_ | simp only [go_sem,seval, hkd, hyd, hpl, Rw_at _ _ hlt, Rw_get _ _ hlt, Rw_at _ _ hy, Rw_get _ _ hy, w1, w2, w3, w4, w5, w6, e1] | simp (disch := omega) only [wrap64, Rw_at, dig_at] | intro hx_ | omega)
    refine nx_mk (L ++ [s % 4294967296], s / 4294967296) ⟨by simp only [List.length_append, List.length_singleton]; omega, dig_snoc dL (by omega), by simp only []; omega, ?_⟩ (by simp only [List.length_append, List.length_singleton]; omega) (by (try simp only [go_sem,seval, List.length_append, List.length_singleton]) <;> (try simp (disch := omega) [wrap64]) <;> (try omega)) (Heap.Le.refl _)
    simp only [List.length_append, List.length_singleton]
    rw [carry_step, valD_take_succ _ _ hlt, valD_take_succ _ _ hy, hs, Nat.mul_add, Nat.mul_add]
    omega
   ·have hyd : decide ((L.length : Int) < (digs n).length) = false := decide_eq_false (by omega)
    obtain ⟨s, hs⟩ : ∃ s, s = c + (digs m)[L.length] := ⟨_, rfl⟩
    rw [← hs] at w2
    have w5 : IntKind.u32.wrap (s : Int) = ((s % 4294967296 : Nat) : Int) := by rw [u32w]; omega
    have w6 : (s : Int) / 4294967296 = ((s / 4294967296 : Nat) : Int) := by omega
    have e1 : (Rw digC (padN L ((digs m).length + 1))).set L.length [.int .u32 ((s % 4294967296 : Nat) : Int)] = Rw digC (padN (L ++ [s % 4294967296]) ((digs m).length + 1)) := by rw [← padN_set L _ _ (by omega)]; exact Rw_set _ _ _ _ rfl
    repeat' (first | with_reducible refine And.intro ?_ ?_ | simp only [go_sem,seval, hkd, hyd, hpl, Rw_at _ _ hlt, Rw_get _ _ hlt, w1, w2, w5, w6, e1] | simp (disch := omega) only [wrap64, Rw_at, dig_at] | intro hx_ | omega)
    refine nx_mk (L ++ [s % 4294967296], s / 4294967296) ⟨by simp only [List.length_append, List.length_singleton]; omega, dig_snoc dL (by omega), by simp only []; omega, ?_⟩ (by simp only [List.length_append, List.length_singleton]; omega) (by (try simp only [go_sem,seval, List.length_append, List.length_singleton]) <;> (try simp (disch := omega) [wrap64]) <;> (try omega)) (Heap.Le.refl _)
    simp only [List.length_append, List.length_singleton]
    rw [List.take_of_length_le (l := digs n) (by omega)] at hv
    rw [carry_step, valD_take_succ _ _ hlt, List.take_of_length_le (l := digs n) (by omega), hs, Nat.mul_add]
    omega
  ·have hkd : decide ((L.length : Int) < (digs m).length) = false := decide_eq_false (by omega)
   have hLe : L.length = (digs m).length := by omega
   have w5 : IntKind.u32.wrap (c : Int) = ((c : Nat) : Int) := u32i (by omega) (by omega)
   have e1 : (Rw digC (padN L ((digs m).length + 1))).set (digs m).length [.int .u32 ((c : Nat) : Int)] = Rw digC (L ++ [c]) := by
    rw [← hLe, ← padN_full (L ++ [c]) (L.length + 1) (by simp), ← padN_set L _ _ (by omega)]; exact Rw_set _ _ _ _ rfl
   have hval : valD (L ++ [c]) = m + n := by
    rw [valD_snoc, hv, List.take_of_length_le (by omega), List.take_of_length_le (by omega), valD_digs, valD_digs]
   repeat' (first | with_reducible refine And.intro ?_ ?_ | simp only [go_sem,seval, hkd, hpl, w5, e1] | simp (disch := omega) only [wrap64, Rw_at, dig_at] | intro hx_ | omega)
   refine trim_a (L ++ [c]) bo _ _ (by simp [hLe]) (by simp; omega) (heap_same _ _) ?_
   repeat' (first | with_reducible refine And.intro ?_ ?_ | simp only [go_sem,seval] | simp (disch := omega) only [wrap64, Rw_at, dig_at] | intro hx_ | omega)
   refine fin_trim (l := L ++ [c]) (dig_snoc dL (show c < 4294967296 by omega)) (by simp [hLe]) (heap_same _ _) ?_
   rw [hval, set_del hbo]
   exact Fin.same h
theorem nsub_a {Q} (m n : Nat) (hle : n ≤ m) (hm : (digs m).length ≤ 100000) (H : Heap) (h : Q (natD (m - n)) H) : ACalls Tryz.prog 216 [natD m, natD n] H Q := by
 refine acalls_of_wp [] Tryz.mixed Tryz.func216 rfl (by kernel_rfl) (of_decide_eq_true (by kernel_rfl)) (by kernel_rfl) ?_
 simp only [go_sem,seval, Tryz.results216]
 have hln : (digs n).length ≤ (digs m).length := by
  by_cases g : (digs m).length < (digs n).length
  ·have := digs_len_lt g; omega
  ·omega
 repeat' (first | with_reducible refine And.intro ?_ ?_ | simp only [go_sem,seval] | simp (disch := omega) only [wrap64, Rw_at, dig_at] | intro hx_ | omega)
 rename_i bo
 have hbo := hx_
 clear hx_
 have hrep : List.replicate (digs m).length [D.int .u32 0] = Rw digC (padN [] (digs m).length) := by rw [padN_nil]; exact Rw_rep _ _ _ rfl
 rw [hrep]
 refine loop_c [0, 1, 5, 12] (fun (p : List Nat × Int) => [(13, .int .i64 p.1.length), (6, .int .i64 p.2)]) (fun (p : List Nat × Int) => H.set bo (.vec 1 (Rw digC (padN p.1 (digs m).length)))) (fun (p : List Nat × Int) => p.1.length ≤ (digs m).length ∧ Dig p.1 ∧ (-1 ≤ p.2 ∧ p.2 ≤ 0) ∧ (valD p.1 : Int) + (4294967296 : Int) ^ p.1.length * p.2 = valD ((digs m).take p.1.length) - valD ((digs n).take p.1.length)) (fun (p : List Nat × Int) => (digs m).length - p.1.length) (([], 0)) (⟨Nat.zero_le _, by simp [Dig], by simp, by simp [valD]⟩) (by (try simp only [go_sem,seval]) <;> (try simp (disch := omega) [wrap64]) <;> (try omega)) (by first | with_reducible exact Heap.Le.refl _ | exact heap_set_le (by assumption) | exact Heap.Le.refl _ | exact heap_le_set (by assumption) | exact (by simp only [Go.Av.Heap.Le, Go.Av.Heap.set, Go.Av.Heap.del] at * <;> grind)) ?_
 rintro Ec rfl ⟨L, c⟩ ⟨hL, dL, hc, hv⟩
 simp only at hL dL hc hv
 have hpl := padN_len L (digs m).length (by omega)
 by_cases hlt : L.length < (digs m).length
 ·have hkd : decide ((L.length : Int) < (digs m).length) = true := decide_eq_true (by omega)
  have x1 := dig_at (digs_dig m) hlt
  have w1 : IntKind.i64.wrap (((digs m)[L.length] : Nat) : Int) = (((digs m)[L.length] : Nat) : Int) := wrap64 (by omega) (by omega)
  have w2 : IntKind.i64.wrap (c + ((digs m)[L.length] : Nat)) = c + ((digs m)[L.length] : Nat) := wrap64 (by omega) (by omega)
  have tx : (valD ((digs m).take (L.length + 1)) : Int) = valD ((digs m).take L.length) + (4294967296 : Int) ^ L.length * ((digs m)[L.length] : Nat) := by
   rw [valD_take_succ _ _ hlt, Int.natCast_add, Int.natCast_mul, Int.natCast_pow]; rfl
  by_cases hy : L.length < (digs n).length
  ·have hyd : decide ((L.length : Int) < (digs n).length) = true := decide_eq_true (by omega)
   have y1 := dig_at (digs_dig n) hy
   have w3 : IntKind.i64.wrap (((digs n)[L.length] : Nat) : Int) = (((digs n)[L.length] : Nat) : Int) := wrap64 (by omega) (by omega)
   have ty : (valD ((digs n).take (L.length + 1)) : Int) = valD ((digs n).take L.length) + (4294967296 : Int) ^ L.length * ((digs n)[L.length] : Nat) := by
    rw [valD_take_succ _ _ hy, Int.natCast_add, Int.natCast_mul, Int.natCast_pow]; rfl
   obtain ⟨s, hs⟩ : ∃ s, s = c + ((digs m)[L.length] : Nat) - ((digs n)[L.length] : Nat) := ⟨_, rfl⟩
   have w4 : IntKind.i64.wrap (c + ((digs m)[L.length] : Nat) - ((digs n)[L.length] : Nat)) = s := by rw [wrap64 (by omega) (by omega)]; omega
   have w5 : IntKind.u32.wrap s = (((s % 4294967296).toNat : Nat) : Int) := by rw [u32w]; omega
   have e1 : (Rw digC (padN L (digs m).length)).set L.length [.int .u32 (((s % 4294967296).toNat : Nat) : Int)] = Rw digC (padN (L ++ [(s % 4294967296).toNat]) (digs m).length) := by rw [← padN_set L _ _ (by omega)]; exact Rw_set _ _ _ _ rfl
   repeat' (first | with_reducible refine And.intro ?_ ?_ | simp only [go_sem,seval, hkd, hyd, hpl, Rw_at _ _ hlt, Rw_get _ _ hlt, Rw_at _ _ hy, Rw_get _ _ hy, w1, w2, w3, w4, w5, e1] | simp (disch := omega) only [wrap64, Rw_at, dig_at] | intro hx_ | omega)
   refine nx_mk (L ++ [(s % 4294967296).toNat], s / 4294967296) ⟨by simp only [List.length_append, List.length_singleton]; omega, dig_snoc dL (by omega), by simp only []; omega, ?_⟩ (by simp only [List.length_append, List.length_singleton]; omega) (by (try simp only [go_sem,seval, List.length_append, List.length_singleton]) <;> (try simp (disch := omega) [wrap64]) <;> (try omega)) (Heap.Le.refl _)
   simp only [List.length_append, List.length_singleton]
   have := carry_stepI L s
   rw [tx, ty]
   rw [hs] at this ⊢
   rw [Int.mul_sub, Int.mul_add] at this
   omega
  ·have hyd : decide ((L.length : Int) < (digs n).length) = false := decide_eq_false (by omega)
   obtain ⟨s, hs⟩ : ∃ s, s = c + ((digs m)[L.length] : Nat) := ⟨_, rfl⟩
   rw [← hs] at w2
   have w5 : IntKind.u32.wrap s = (((s % 4294967296).toNat : Nat) : Int) := by rw [u32w]; omega
   have e1 : (Rw digC (padN L (digs m).length)).set L.length [.int .u32 (((s % 4294967296).toNat : Nat) : Int)] = Rw digC (padN (L ++ [(s % 4294967296).toNat]) (digs m).length) := by rw [← padN_set L _ _ (by omega)]; exact Rw_set _ _ _ _ rfl
   repeat' (first | with_reducible refine And.intro ?_ ?_ | simp only [go_sem,seval, hkd, hyd, hpl, Rw_at _ _ hlt, Rw_get _ _ hlt, w1, ← hs, w2, w5, e1] | simp (disch := omega) only [wrap64, Rw_at, dig_at] | intro hx_ | omega)
   refine nx_mk (L ++ [(s % 4294967296).toNat], s / 4294967296) ⟨by simp only [List.length_append, List.length_singleton]; omega, dig_snoc dL (by omega), by simp only []; omega, ?_⟩ (by simp only [List.length_append, List.length_singleton]; omega) (by (try simp only [go_sem,seval, List.length_append, List.length_singleton]) <;> (try simp (disch := omega) [wrap64]) <;> (try omega)) (Heap.Le.refl _)
   simp only [List.length_append, List.length_singleton]
   have := carry_stepI L s
   rw [List.take_of_length_le (l := digs n) (by omega)] at hv
   rw [tx, List.take_of_length_le (l := digs n) (by omega)]
   rw [hs] at this ⊢
   rw [Int.mul_add] at this
   omega
 ·have hkd : decide ((L.length : Int) < (digs m).length) = false := decide_eq_false (by omega)
  have hLe : L.length = (digs m).length := by omega
  have e1 : Rw digC (padN L (digs m).length) = Rw digC L := by rw [padN_full _ _ hLe]
  rw [List.take_of_length_le (by omega), List.take_of_length_le (by omega), valD_digs, valD_digs] at hv
  have hlt2 := valD_lt dL
  have hval : valD L = m - n := by
   have hp : ((4294967296 ^ L.length : Nat) : Int) = (4294967296 : Int) ^ L.length := Int.natCast_pow _ _
   have hc2 : c = 0 ∨ c = -1 := by omega
   rcases hc2 with rfl | rfl
   ·omega
   ·rw [← hp] at hv; omega
  repeat' (first | with_reducible refine And.intro ?_ ?_ | simp only [go_sem,seval, hkd, e1] | simp (disch := omega) only [wrap64, Rw_at, dig_at] | intro hx_ | omega)
  refine trim_a L bo _ _ (by simp [hLe]) (by omega) (heap_same _ _) ?_
  repeat' (first | with_reducible refine And.intro ?_ ?_ | simp only [go_sem,seval] | simp (disch := omega) only [wrap64, Rw_at, dig_at] | intro hx_ | omega)
  refine fin_trim (l := L) dL (by simp [hLe]) (heap_same _ _) ?_
  rw [hval, set_del hbo]
  exact Fin.same h
set_option maxHeartbeats 1000000 in
theorem nmul_a {Q} (m n : Nat) (hm : (digs m).length ≤ 100000) (hn : (digs n).length ≤ 100000) (H : Heap) (h : Q (natD (m * n)) H) : ACalls Tryz.prog 212 [natD m, natD n] H Q := by
 refine acalls_of_wp [] Tryz.mixed Tryz.func212 rfl (by kernel_rfl) (of_decide_eq_true (by kernel_rfl)) (by kernel_rfl) ?_
 simp only [go_sem,seval, Tryz.results212]
 repeat' (first | with_reducible refine And.intro ?_ ?_ | simp only [go_sem,seval] | simp (disch := omega) only [wrap64, Rw_at, dig_at] | intro hx_ | omega)
 rename_i bo
 have hbo := hx_
 clear hx_
 have hrep : List.replicate (((digs m).length : Int) + (digs n).length).toNat [D.int .u32 0] = Rw digC (List.replicate ((digs m).length + (digs n).length) 0) := by rw [show (((digs m).length : Int) + (digs n).length).toNat = (digs m).length + (digs n).length by omega]; exact Rw_rep _ _ _ rfl
 rw [hrep]
 refine loop_c [1, 5, 17, 18] (fun (p : Nat × List Nat) => [(19, .int .i64 p.1)]) (fun (p : Nat × List Nat) => H.set bo (.vec 1 (Rw digC p.2))) (fun (p : Nat × List Nat) => p.1 ≤ (digs m).length ∧ p.2.length = (digs m).length + (digs n).length ∧ Dig p.2 ∧ valD p.2 = valD ((digs m).take p.1) * n ∧ ∀ (k : Nat) (hk : k < p.2.length), p.1 + (digs n).length ≤ k → p.2[k] = 0) (fun (p : Nat × List Nat) => (digs m).length - p.1) ((0, List.replicate ((digs m).length + (digs n).length) 0)) (⟨Nat.zero_le _, by simp, dig_zeros _, by simp [valD_zeros, valD], fun k hk _ => by simp⟩) (by (try simp only [go_sem,seval]) <;> (try simp (disch := omega) [wrap64]) <;> (try omega)) (by first | with_reducible exact Heap.Le.refl _ | exact heap_set_le (by assumption) | exact Heap.Le.refl _ | exact heap_le_set (by assumption) | exact (by simp only [Go.Av.Heap.Le, Go.Av.Heap.set, Go.Av.Heap.del] at * <;> grind)) ?_
 rintro Ec rfl ⟨i, out⟩ ⟨hi, hol, hod, hov, hoz⟩
 simp only at hi hol hod hov hoz
 by_cases hlt : i < (digs m).length
 ·have hkd : decide ((i : Int) < (digs m).length) = true := decide_eq_true (by omega)
  have x1 := dig_at (digs_dig m) hlt
  repeat' (first | with_reducible refine And.intro ?_ ?_ | simp only [go_sem,seval, hkd, Rw_at _ _ hlt, Rw_get _ _ hlt] | simp (disch := omega) only [wrap64, Rw_at, dig_at] | intro hx_ | omega)
  refine loop_c [1, 5, 6, 7, 17, 18, 19, 24, 25] (fun (q : Nat × List Nat × Nat) => [(26, .int .i64 q.1), (8, .int .u64 q.2.2)]) (fun (q : Nat × List Nat × Nat) => H.set bo (.vec 1 (Rw digC q.2.1))) (fun (q : Nat × List Nat × Nat) => q.1 ≤ (digs n).length ∧ q.2.1.length = (digs m).length + (digs n).length ∧ Dig q.2.1 ∧ q.2.2 < 4294967296 ∧ valD q.2.1 + 4294967296 ^ (i + q.1) * q.2.2 = valD ((digs m).take i) * n + 4294967296 ^ i * (digs m)[i] * valD ((digs n).take q.1) ∧ ∀ (k : Nat) (hk : k < q.2.1.length), i + (digs n).length ≤ k → q.2.1[k] = 0) (fun (q : Nat × List Nat × Nat) => (digs n).length - q.1) ((0, out, 0)) (⟨Nat.zero_le _, hol, hod, by simp, by simp [hov, valD], hoz⟩) (by (try simp only [go_sem,seval]) <;> (try simp (disch := omega) [wrap64]) <;> (try omega)) (by first | with_reducible exact Heap.Le.refl _ | exact heap_set_le (by assumption) | exact Heap.Le.refl _ | exact heap_le_set (by assumption) | exact (by simp only [Go.Av.Heap.Le, Go.Av.Heap.set, Go.Av.Heap.del] at * <;> grind)) ?_
  clear hol hod hov hoz
  rintro Ec1 rfl ⟨j, o2, c⟩ ⟨hj, hol, hod, hc, hov, hoz⟩
  simp only at hj hol hod hc hov hoz
  by_cases hjl : j < (digs n).length
  ·have hjd : decide ((j : Int) < (digs n).length) = true := decide_eq_true (by omega)
   have y1 := dig_at (digs_dig n) hjl
   have hp : i + j < o2.length := by omega
   have o1 := dig_at hod hp
   obtain ⟨s, hs⟩ : ∃ s, s = c + ((digs m)[i] * (digs n)[j] + o2[i + j]) := ⟨_, rfl⟩
   obtain ⟨m1, m2⟩ := mul_lt x1 y1 o1 hc
   have w1 : IntKind.u64.wrap (((digs m)[i] : Nat) : Int) = (((digs m)[i] : Nat) : Int) := u64w (by omega) (by omega)
   have w2 : IntKind.u64.wrap (((digs n)[j] : Nat) : Int) = (((digs n)[j] : Nat) : Int) := u64w (by omega) (by omega)
   have w3 : IntKind.u64.wrap ((o2[i + j] : Nat) : Int) = ((o2[i + j] : Nat) : Int) := u64w (by omega) (by omega)
   have w4 : IntKind.u64.wrap ((((digs m)[i] : Nat) : Int) * (((digs n)[j] : Nat) : Int)) = (((digs m)[i] * (digs n)[j] : Nat) : Int) := by rw [← Int.natCast_mul]; exact u64w (by omega) (by omega)
   have w5 : IntKind.u64.wrap ((((digs m)[i] * (digs n)[j] : Nat) : Int) + ((o2[i + j] : Nat) : Int)) = (((digs m)[i] * (digs n)[j] + o2[i + j] : Nat) : Int) := by rw [← Int.natCast_add]; exact u64w (by omega) (by omega)
   have w6 : IntKind.u64.wrap ((c : Int) + (((digs m)[i] * (digs n)[j] + o2[i + j] : Nat) : Int)) = (s : Int) := by rw [← Int.natCast_add, ← hs]; exact u64w (by omega) (by omega)
   have w7 : IntKind.u32.wrap (s : Int) = ((s % 4294967296 : Nat) : Int) := by rw [u32w]; omega
   have w8 : (s : Int) / 4294967296 = ((s / 4294967296 : Nat) : Int) := by omega
   have wi : (i : Int) + (j : Int) = ((i + j : Nat) : Int) := by omega
   have e1 : (Rw digC o2).set (i + j) [.int .u32 ((s % 4294967296 : Nat) : Int)] = Rw digC (o2.set (i + j) (s % 4294967296)) := Rw_set _ _ _ _ rfl
   repeat' (first | with_reducible refine And.intro ?_ ?_ | simp only [go_sem,seval, hjd, wi, Rw_at _ _ hlt, Rw_get _ _ hlt, Rw_at _ _ hjl, Rw_get _ _ hjl, Rw_at _ _ hp, Rw_get _ _ hp, w1, w2, w3, w4, w5, w6, w7, w8, e1] | simp (disch := omega) only [wrap64, Rw_at, dig_at] | intro hx_ | omega)
   refine nx_mk (j + 1, o2.set (i + j) (s % 4294967296), s / 4294967296) ⟨by simp only []; omega, by simp only [List.length_set]; omega, dig_set hod (by omega), by simp only []; omega, ?_, fun k hk hik => ?_⟩ (by simp only []; omega) (by (try simp only [go_sem,seval]) <;> (try simp (disch := omega) [wrap64]) <;> (try omega)) (Heap.Le.refl _)
   ·simp only []
    rw [valD_take_succ _ _ hjl, ← Nat.add_assoc]
    exact mul_step o2 (i + j) i j s _ _ c _ _ hp rfl hov hs
   ·simp only [] at hk ⊢
    rw [List.getElem_set_ne (by omega)]
    exact hoz k (by simpa using hk) hik
  ·have hjd : decide ((j : Int) < (digs n).length) = false := decide_eq_false (by omega)
   have hje : j = (digs n).length := by omega
   subst hje
   have hp : i + (digs n).length < o2.length := by omega
   have wi : (i : Int) + ((digs n).length : Int) = ((i + (digs n).length : Nat) : Int) := by omega
   have w7 : IntKind.u32.wrap (c : Int) = (c : Int) := u32i (by omega) (by omega)
   have e1 : (Rw digC o2).set (i + (digs n).length) [.int .u32 (c : Int)] = Rw digC (o2.set (i + (digs n).length) c) := Rw_set _ _ _ _ rfl
   repeat' (first | with_reducible refine And.intro ?_ ?_ | simp only [go_sem,seval, hjd, wi, Rw_at _ _ hp, Rw_get _ _ hp, w7, e1] | simp (disch := omega) only [wrap64, Rw_at, dig_at] | intro hx_ | omega)
   refine nx_mk (i + 1, o2.set (i + (digs n).length) c) ⟨by simp only []; omega, by simp only [List.length_set]; omega, dig_set hod hc, ?_, fun k hk hik => ?_⟩ (by simp only []; omega) (by (try simp only [go_sem,seval]) <;> (try simp (disch := omega) [wrap64]) <;> (try omega)) (Heap.Le.refl _)
   ·simp only []
    rw [List.take_of_length_le (l := digs n) (by omega), valD_digs] at hov
    rw [mul_end o2 _ c _ _ hp (hoz _ hp (by omega)) hov, valD_take_succ _ _ hlt, Nat.add_mul]
   ·simp only [] at hk hik ⊢
    rw [List.getElem_set_ne (by omega)]
    exact hoz k (by simpa using hk) (by omega)
 ·have hkd : decide ((i : Int) < (digs m).length) = false := decide_eq_false (by omega)
  rw [List.take_of_length_le (by omega), valD_digs] at hov
  repeat' (first | with_reducible refine And.intro ?_ ?_ | simp only [go_sem,seval, hkd] | simp (disch := omega) only [wrap64, Rw_at, dig_at] | intro hx_ | omega)
  refine trim_a out bo _ _ (by rw [hol]; omega) (by omega) (heap_same _ _) ?_
  repeat' (first | with_reducible refine And.intro ?_ ?_ | simp only [go_sem,seval] | simp (disch := omega) only [wrap64, Rw_at, dig_at] | intro hx_ | omega)
  refine fin_trim (l := out) hod (by rw [hol]; omega) (heap_same _ _) ?_
  rw [hov, set_del hbo]
  exact Fin.same h
theorem u64n {q : Nat} (h : q < 18446744073709551616) : IntKind.u64.wrap (q : Int) = q := u64w (by omega) (by omega)
theorem u32n {q : Nat} (h : q < 4294967296) : IntKind.u32.wrap (q : Int) = q := u32i (by omega) (by omega)
theorem ndiv_a {Q} (m n : Nat) (hm : (digs m).length ≤ 100000) (h0 : n ≠ 0) (hn : n < 4294967296) (H : Heap) (h : Q (.tuple [natD (m / n), natD (m % n)]) H) : ACalls Tryz.prog 210 [natD m, natD n] H Q := by
 refine acalls_of_wp [(26, .par)] Tryz.mixed Tryz.func210 rfl (by kernel_rfl) (of_decide_eq_true (by kernel_rfl)) (by kernel_rfl) ?_
 simp only [go_sem,seval, Tryz.results210]
 have hdn : digs n = [n] := digs_one hn h0
 have hnl : (digs n).length = 1 := by rw [hdn]; rfl
 have hn0 : 0 < (digs n).length := by omega
 have hg : (digs n)[0] = n := by simp [hdn]
 by_cases hlt : m < n
 ·repeat' (first | with_reducible refine And.intro ?_ ?_ | simp only [go_sem,seval] | simp (disch := omega) only [wrap64, Rw_at, dig_at] | intro hx_ | omega)
  refine cmp_a m n (by omega) (by omega) _ fun c hc => ?_
  have hcd : decide (c < 0) = true := decide_eq_true (hc.1.2 hlt)
  repeat' (first | with_reducible refine And.intro ?_ ?_ | simp only [go_sem,seval, hcd] | simp (disch := omega) only [wrap64, Rw_at, dig_at] | intro hx_ | omega)
  rw [Nat.div_eq_of_lt hlt, Nat.mod_eq_of_lt hlt] at h
  refine Fin.nilsl 1 _ ?_
  exact Fin.same (by rw [show natD 0 = .sl 1 [] by rw [natD_d, digs_zero]; rfl] at h; exact h)
 ·repeat' (first | with_reducible refine And.intro ?_ ?_ | simp only [go_sem,seval] | simp (disch := omega) only [wrap64, Rw_at, dig_at] | intro hx_ | omega)
  refine cmp_a m n (by omega) (by omega) _ fun c hc => ?_
  have hcd : decide (c < 0) = false := decide_eq_false (fun g => hlt (hc.1.1 g))
  have hnli : ((digs n).length : Int) = 1 := by omega
  repeat' (first | with_reducible refine And.intro ?_ ?_ | simp only [go_sem,seval, hcd, hnli] | simp (disch := omega) only [wrap64, Rw_at, dig_at] | intro hx_ | omega)
  rename_i bo
  have hbo := hx_
  clear hx_
  have hrep : List.replicate (digs m).length [D.int .u32 0] = Rw digC (padB [] (digs m).length) := by rw [padB_nil]; exact Rw_rep _ _ _ rfl
  rw [hrep]
  refine loop_c [0, 1, 6] (fun (p : Nat × List Nat × Nat) => [(8, .int .i64 ((p.1 : Int) - 1)), (7, .int .u64 p.2.2)]) (fun (p : Nat × List Nat × Nat) => H.set bo (.vec 1 (Rw digC (padB p.2.1 (digs m).length)))) (fun (p : Nat × List Nat × Nat) => p.2.1.length + p.1 = (digs m).length ∧ Dig p.2.1 ∧ p.2.2 < n ∧ valD p.2.1 * n + p.2.2 = valD ((digs m).drop p.1)) (fun (p : Nat × List Nat × Nat) => p.1) (((digs m).length, [], 0)) (⟨by simp, by simp [Dig], by simp only []; omega, by simp [valD]⟩) (by (try simp only [go_sem,seval]) <;> (try simp (disch := omega) [wrap64]) <;> (try omega)) (by first | with_reducible exact Heap.Le.refl _ | exact heap_set_le (by assumption) | exact Heap.Le.refl _ | exact heap_le_set (by assumption) | exact (by simp only [Go.Av.Heap.Le, Go.Av.Heap.set, Go.Av.Heap.del] at * <;> grind)) ?_
  rintro Ec rfl ⟨k, L, r⟩ ⟨hk, dL, hr, hv⟩
  simp only at hk dL hr hv
  have hpl := padB_len L (digs m).length (by omega)
  by_cases hk0 : 0 < k
  ·obtain ⟨j, rfl⟩ : ∃ j, k = j + 1 := ⟨k - 1, by omega⟩
   have hj : j < (digs m).length := by omega
   have ek : (((j + 1 : Nat) : Int) - 1) = (j : Int) := by omega
   have k0 : decide ((0 : Int) ≤ (j : Int)) = true := decide_eq_true (by omega)
   have x1 := dig_at (digs_dig m) hj
   have w1 : IntKind.u64.wrap (((digs m)[j] : Nat) : Int) = (((digs m)[j] : Nat) : Int) := u64w (by omega) (by omega)
   have w2 : IntKind.u64.wrap ((r : Int) * 4294967296) = (r : Int) * 4294967296 := u64w (by omega) (by omega)
   have w3 := or_add (r := r) (x := (digs m)[j]) (by omega) x1
   obtain ⟨s, hs⟩ : ∃ s, s = r * 4294967296 + (digs m)[j] := ⟨_, rfl⟩
   rw [← hs] at w3
   have hsn : s / n < 4294967296 := by
    rw [Nat.div_lt_iff_lt_mul (by omega)]
    have := Nat.mul_le_mul_left 4294967296 (show r + 1 ≤ n by omega)
    omega
   have w4 : IntKind.u64.wrap ((n : Nat) : Int) = (n : Int) := u64w (by omega) (by omega)
   have hsl : s < 18446744073709551616 := by omega
   have w5 : IntKind.u64.wrap ((s : Int).tdiv (n : Int)) = ((s / n : Nat) : Int) := by rw [← Int.ofNat_tdiv]; exact u64n (Nat.lt_of_le_of_lt (Nat.div_le_self s n) hsl)
   have w6 : IntKind.u32.wrap ((s / n : Nat) : Int) = ((s / n : Nat) : Int) := u32n hsn
   have w7 : (s : Int).tmod (n : Int) = ((s % n : Nat) : Int) := (Int.ofNat_tmod s n).symm
   have nz : ¬ ((n : Int) = 0) := by omega
   have e1 : (Rw digC (padB L (digs m).length)).set j [.int .u32 ((s / n : Nat) : Int)] = Rw digC (padB ((s / n) :: L) (digs m).length) := by rw [← padB_set L _ _ j (by omega)]; exact Rw_set _ _ _ _ rfl
   repeat' (first | with_reducible refine And.intro ?_ ?_ | simp only [go_sem,seval, ek, k0, hpl, Rw_at _ _ hj, Rw_get _ _ hj, Rw_at _ _ hn0, Rw_get _ _ hn0, hg, w1, w2, w3, w4, w5, w6, w7, nz, e1] | simp (disch := omega) only [wrap64, Rw_at, dig_at] | intro hx_ | omega)
   refine nx_mk (j, s / n :: L, s % n) ⟨by simp only [List.length_cons]; omega, fun x hx => ?_, Nat.mod_lt _ (by omega), ?_⟩ (by simp only []; omega) (by (try simp only [go_sem,seval]) <;> (try simp (disch := omega) [wrap64]) <;> (try omega)) (Heap.Le.refl _)
   ·rcases List.mem_cons.1 hx with rfl | g
    ·exact hsn
    ·exact dL x g
   ·simp only [valD]
    rw [valD_drop _ _ hj, hs]
    exact div_step (by omega) hv
  ·have e : k = 0 := by omega
   subst e
   have k0 : decide ((0 : Int) ≤ (((0 : Nat) : Int) - 1)) = false := by decide
   rw [List.drop_zero, valD_digs] at hv
   obtain ⟨q1, q2⟩ := div_end hr hv
   have e1 : padB L (digs m).length = L := padB_full _ _ (by omega)
   repeat' (first | with_reducible refine And.intro ?_ ?_ | simp only [go_sem,seval, k0, e1] | simp (disch := omega) only [wrap64, Rw_at, dig_at] | intro hx_ | omega)
   refine trim_a L bo _ _ (by omega) (by omega) (heap_same _ _) ?_
   repeat' (first | with_reducible refine And.intro ?_ ?_ | simp only [go_sem,seval] | simp (disch := omega) only [wrap64, Rw_at, dig_at] | intro hx_ | omega)
   refine of_a r (by omega) _ ?_
   repeat' (first | with_reducible refine And.intro ?_ ?_ | simp only [go_sem,seval] | simp (disch := omega) only [wrap64, Rw_at, dig_at] | intro hx_ | omega)
   refine Fin.freeze (b := bo) (heap_same _ _) (.tuple _ [.sl 1 (((Rw digC L).drop 0).take (trimN L (digs m).length)), natD r] rfl fun i d d' g1 g2 => ?_) ?_
   ·match i with
    | 0 => cases g1; cases g2; exact .vec 0 _ (by rw [Nat.zero_add, Rw_len]; have := trimN_le L (digs m).length; omega)
    | 1 => cases g1; cases g2; exact .same _
    | i + 2 => cases g1
   ·have e2 : L.take (trimN L (digs m).length) = digs (valD L) := by have := trim_all dL; rwa [show L.length = (digs m).length by omega] at this
    rw [List.drop_zero, Rw_take, e2, ← q1, ← q2, set_del hbo]
    exact Fin.same h
theorem ngcd_a {Q} (m n : Nat) (hm : (digs m).length ≤ 100000) (hn : n < 4294967296) (H : Heap) (h : Q (natD (Nat.gcd m n)) H) : ACalls Tryz.prog 209 [natD m, natD n] H Q := by
 refine acalls_of_wp [] Tryz.mixed Tryz.func209 rfl (by kernel_rfl) (of_decide_eq_true (by kernel_rfl)) (by kernel_rfl) ?_
 simp only [go_sem,seval, Tryz.results209]
 repeat' (first | with_reducible refine And.intro ?_ ?_ | simp only [go_sem,seval] | intro hx_ | omega)
 refine loop_c [] (fun (p : Nat × Nat) => [(0, natD p.1), (1, natD p.2)]) (fun (p : Nat × Nat) => H) (fun (p : Nat × Nat) => (digs p.1).length ≤ 100000 ∧ p.2 < 4294967296 ∧ Nat.gcd p.1 p.2 = Nat.gcd m n) (fun (p : Nat × Nat) => p.2) ((m, n)) (⟨hm, hn, rfl⟩) (by (try simp only [go_sem,seval]) <;> (try simp (disch := omega) [wrap64]) <;> (try omega)) (by first | with_reducible exact Heap.Le.refl _ | exact heap_set_le (by assumption) | exact Heap.Le.refl _ | exact heap_le_set (by assumption) | exact (by simp only [Go.Av.Heap.Le, Go.Av.Heap.set, Go.Av.Heap.del] at * <;> grind)) ?_
 rintro Ec rfl ⟨a, b⟩ ⟨ha, hb, hg⟩
 simp only at ha hb hg
 by_cases hb0 : b = 0
 ·subst hb0
  have hl : (digs 0).length = 0 := by rw [digs_zero]; rfl
  have hd : decide ((0 : Int) < ((digs 0).length : Int)) = false := by rw [hl]; rfl
  repeat' (first | with_reducible refine And.intro ?_ ?_ | simp only [go_sem,seval, hd] | intro hx_ | omega)
  rw [Nat.gcd_zero_right] at hg
  rw [← hg] at h
  exact Fin.same h
 ·have hl : (digs b).length ≠ 0 := fun e => hb0 ((digs_len_pos b).1 e)
  have hd : decide ((0 : Int) < ((digs b).length : Int)) = true := decide_eq_true (by omega)
  repeat' (first | with_reducible refine And.intro ?_ ?_ | simp only [go_sem,seval, hd] | intro hx_ | omega)
  refine ndiv_a a b ha hb0 hb _ ?_
  repeat' (first | with_reducible refine And.intro ?_ ?_ | simp only [go_sem,seval] | intro hx_ | omega)
  have hmod := Nat.mod_lt a (Nat.pos_of_ne_zero hb0)
  exact nx_mk (b, a % b) ⟨by simp only []; exact Nat.le_trans (digs_len b 1 (by simpa using hb)) (by decide), by simp only []; omega, by simp only []; rw [← hg, Nat.gcd_comm a b, Nat.gcd_rec b a, Nat.gcd_comm]⟩ (by simp only []; exact hmod) (by (try simp only [go_sem,seval]) <;> (try simp (disch := omega) [wrap64]) <;> (try omega)) (Heap.Le.refl _)
end Go.Proofs.YtacekpdodelnbaaGreatDoor
end
section
set_option maxRecDepth 20000
namespace Go.Lin
open Go Go.Av
abbrev Sz (n : Int) : Prop := (digs n.natAbs).length ≤ 100000
theorem sz_of {n : Int} {k : Nat} (h : n.natAbs < 4294967296 ^ k) (hk : k ≤ 100000) : Sz n := Nat.le_trans (digs_len _ k h) hk
theorem sz_two {n : Int} (h : n.natAbs < 340282366920938463463374607431768211456) : Sz n := sz_of (k := 4) (by simpa using h) (by decide)
theorem digs_pos_iff (n : Int) : decide ((0 : Int) < ((digs n.natAbs).length : Int)) = decide (n ≠ 0) := by
 apply decide_eq_decide.2
 have := digs_len_pos n.natAbs
 omega
theorem bigC_nat (k : Nat) : bigC (k : Int) = [.bool false, .sl 1 (Rw digC (digs k))] := by
 unfold bigC
 rw [decide_eq_false (by omega), Int.natAbs_natCast]
theorem bigC_sg (n : Int) (k : Nat) (b : Bool) (h1 : n.natAbs = k) (h2 : b = decide (n < 0)) : [D.bool b, .sl 1 (Rw digC (digs k))] = bigC n := by subst h1; subst h2; rfl
theorem bigC_natv (n : Int) (k : Nat) (h : n = (k : Int)) : [D.bool false, .sl 1 (Rw digC (digs k))] = bigC n := by subst h; exact (bigC_nat k).symm
theorem bigC_negv (n : Int) (k : Nat) (h : n = -(k : Int)) : [D.bool (decide (-(k : Int) < 0)), .sl 1 (Rw digC (digs k))] = bigC n := by subst h; exact bigC_sg _ k _ (by omega) rfl
theorem mul_same {a b : Int} (h : decide (a < 0) = decide (b < 0)) : decide (a * b < 0) = false := by
 apply decide_eq_false
 have h := decide_eq_decide.1 h
 by_cases a0 : a < 0
 ·have := Int.mul_pos_of_neg_of_neg a0 (h.1 a0)
  omega
 ·have := Int.mul_nonneg (show 0 ≤ a by omega) (show 0 ≤ b by have := mt h.2 a0; omega)
  omega
theorem mul_diff {a b : Int} (h : ¬ decide (a < 0) = decide (b < 0)) : decide ((0 : Int) < ((digs (a.natAbs * b.natAbs)).length : Int)) = decide (a * b < 0) := by
 rw [← Int.natAbs_mul, digs_pos_iff]
 apply decide_eq_decide.2
 constructor
 ·intro g
  have a1 : a ≠ 0 := by rintro rfl; exact g (Int.zero_mul _)
  have b1 : b ≠ 0 := by rintro rfl; exact g (Int.mul_zero _)
  by_cases a0 : a < 0
  ·have b0 : ¬ b < 0 := fun b0 => h (by rw [decide_eq_true a0, decide_eq_true b0])
   exact Int.mul_neg_of_neg_of_pos a0 (by omega)
  ·have b0 : b < 0 := by
    by_cases b0 : b < 0
    ·exact b0
    ·exact absurd (by rw [decide_eq_false a0, decide_eq_false b0]) h
   exact Int.mul_neg_of_pos_of_neg (by omega) b0
 ·omega
theorem fdiv_abs (a b : Int) (h0 : b ≠ 0) : a.fdiv b = (if b < 0 then -a else a) / (b.natAbs : Int) := by
 by_cases hb : b < 0
 ·rw [if_pos hb, ← Int.neg_fdiv_neg, Int.fdiv_eq_ediv_of_nonneg _ (by omega)]
  congr 1; omega
 ·rw [if_neg hb, Int.fdiv_eq_ediv_of_nonneg _ (by omega)]
  congr 1; omega
theorem fdiv_same (a b : Int) (h0 : b ≠ 0) (h : decide (a < 0) = decide (b < 0) ∨ a = 0) : a.fdiv b = ((a.natAbs / b.natAbs : Nat) : Int) := by
 rw [fdiv_abs a b h0, Int.natCast_ediv]
 congr 1
 rcases h with h | h
 ·have h := decide_eq_decide.1 h
  split <;> omega
 ·subst h; split <;> simp
theorem ediv_of {a b q r : Int} (hb : 0 < b) (h : r + b * q = a) (h1 : 0 ≤ r) (h2 : r < b) : a / b = q := ((Int.ediv_emod_unique hb).2 ⟨h, h1, h2⟩).1
theorem len_neg (k : Nat) : decide ((0 : Int) < ((digs k).length : Int)) = decide (-(k : Int) < 0) := by
 apply decide_eq_decide.2
 have := digs_len_pos k
 omega
theorem fdiv_diff (a b : Int) (h0 : b ≠ 0) (ha : a ≠ 0) (h : ¬ decide (a < 0) = decide (b < 0)) : a.fdiv b = if a.natAbs % b.natAbs = 0 then -((a.natAbs / b.natAbs : Nat) : Int) else -((a.natAbs / b.natAbs + 1 : Nat) : Int) := by
 have hs : (if b < 0 then -a else a) = -(a.natAbs : Int) := by
  have h : ¬ (a < 0 ↔ b < 0) := fun g => h (decide_eq_decide.2 g)
  split
  ·rename_i hb; have : ¬ a < 0 := fun g => h ⟨fun _ => hb, fun _ => g⟩; omega
  ·rename_i hb
   by_cases g : a < 0
   ·omega
   ·exact absurd ⟨fun q => absurd q g, fun q => absurd q hb⟩ h
 rw [fdiv_abs a b h0, hs]
 have hb : (0 : Int) < (b.natAbs : Int) := by omega
 have e := Nat.div_add_mod a.natAbs b.natAbs
 have ei : (a.natAbs : Int) = (b.natAbs : Int) * ((a.natAbs / b.natAbs : Nat) : Int) + ((a.natAbs % b.natAbs : Nat) : Int) := by rw [← Int.natCast_mul, ← Int.natCast_add, e]
 have hm := Nat.mod_lt a.natAbs (show 0 < b.natAbs by omega)
 split
 ·rename_i hz
  refine (ediv_of hb (r := 0) ?_ (by omega) hb).symm ▸ rfl
  rw [hz] at ei
  rw [ei, Int.mul_neg]; simp
 ·rename_i hz
  refine (ediv_of hb (r := (b.natAbs : Int) - ((a.natAbs % b.natAbs : Nat) : Int)) ?_ (by omega) (by omega)).symm ▸ rfl
  rw [ei, Int.natCast_add, Int.mul_neg, Int.mul_add]
  omega
theorem nil_big : NilR (.agg [.bool false, .nilsl]) (.agg (bigC 0)) := by
 have e : bigC 0 = [.bool false, .sl 1 []] := by
  unfold bigC
  rw [show (0 : Int).natAbs = 0 from rfl, digs_zero]; rfl
 rw [e]
 refine .agg _ _ rfl fun i d d' h1 h2 => ?_
 match i with
 | 0 => cases h1; cases h2; exact .same _
 | 1 => cases h1; cases h2; exact .nil _
 | i + 2 => cases h1
end Go.Lin
namespace Go.Proofs.YtacekpdodelnbaaGreatDoor
open Go Go.Av Go.Lin
attribute [local irreducible] ACalls at8
theorem sign_a {Q} (n : Int) (H : Heap) (h : Q (.int .i64 n.sign) H) : ACalls Tryz.prog 169 [.agg (bigC n)] H Q := by
 refine acalls_of_wp [] Tryz.mixed Tryz.func169 rfl (by kernel_rfl) (of_decide_eq_true (by kernel_rfl)) (by kernel_rfl) ?_
 simp only [go_sem,seval, Tryz.results169]
 intro b1 hb1
 have e1 := heap_same (H := H) b1 (.box (bigC n))
 simp only [bigC_d] at e1
 by_cases h0 : n = 0
 ·have hz : (digs n.natAbs).length = 0 := (digs_len_pos _).2 (by omega)
  repeat' (first | with_reducible refine And.intro ?_ ?_ | simp only [go_sem,seval, e1, hz] | intro hx_ | omega)
  rw [h0] at h
  exact Fin.less (heap_le_set hb1) h
 ·have hz : ¬ (((digs n.natAbs).length : Int) = 0) := by have := digs_len_pos n.natAbs; omega
  by_cases hn : n < 0
  ·repeat' (first | with_reducible refine And.intro ?_ ?_ | simp only [go_sem,seval, e1, hz, hn, decide_true, decide_false] | intro hx_ | omega)
   rw [Int.sign_eq_neg_one_of_neg hn] at h
   exact Fin.less (heap_le_set hb1) h
  ·repeat' (first | with_reducible refine And.intro ?_ ?_ | simp only [go_sem,seval, e1, hz, hn, decide_true, decide_false] | intro hx_ | omega)
   rw [Int.sign_eq_one_of_pos (by omega)] at h
   exact Fin.less (heap_le_set hb1) h
theorem abs_a {Q} (n : Int) (H : Heap) (h : Q (.agg (bigC n.natAbs)) H) : ACalls Tryz.prog 178 [.agg (bigC n)] H Q := by
 refine acalls_of_wp [] Tryz.mixed Tryz.func178 rfl (by kernel_rfl) (of_decide_eq_true (by kernel_rfl)) (by kernel_rfl) ?_
 simp only [go_sem,seval, Tryz.results178]
 rw [bigC_nat] at h
 repeat' (first | with_reducible refine And.intro ?_ ?_ | simp only [go_sem,seval] | simp (disch := first | omega | grind) only [heap_ne_] | (intro hx_; try simp only [set_none] at hx_) | omega)
 exact Fin.less (by simp only [Go.Av.Heap.Le, Go.Av.Heap.set, Go.Av.Heap.del] at * <;> grind) h
theorem bneg_a {Q} (n : Int) (H : Heap) (h : Q (.agg (bigC (-n))) H) : ACalls Tryz.prog 183 [.agg (bigC n)] H Q := by
 refine acalls_of_wp [] Tryz.mixed Tryz.func183 rfl (by kernel_rfl) (of_decide_eq_true (by kernel_rfl)) (by kernel_rfl) ?_
 simp only [go_sem,seval, Tryz.results183]
 by_cases hn : n < 0
 ·rw [← bigC_sg (-n) n.natAbs false (by omega) (by rw [decide_eq_false (by omega)])] at h
  repeat' (first | with_reducible refine And.intro ?_ ?_ | simp only [go_sem,seval, hn, decide_true] | simp (disch := first | omega | grind) only [heap_ne_] | (intro hx_; try simp only [set_none] at hx_) | omega)
  all_goals exact Fin.less (by simp only [Go.Av.Heap.Le, Go.Av.Heap.set, Go.Av.Heap.del] at * <;> grind) h
 ·by_cases h0 : n = 0
  ·have hz : ((digs n.natAbs).length : Int) = 0 := by have := digs_len_pos n.natAbs; omega
   rw [← bigC_sg (-n) n.natAbs false (by omega) (by rw [decide_eq_false (by omega)])] at h
   repeat' (first | with_reducible refine And.intro ?_ ?_ | simp only [go_sem,seval, hn, decide_false, hz] | simp (disch := first | omega | grind) only [heap_ne_] | (intro hx_; try simp only [set_none] at hx_) | omega)
   all_goals exact Fin.less (by simp only [Go.Av.Heap.Le, Go.Av.Heap.set, Go.Av.Heap.del] at * <;> grind) h
  ·have hz : (0 : Int) < ((digs n.natAbs).length : Int) := by have := digs_len_pos n.natAbs; omega
   rw [← bigC_sg (-n) n.natAbs true (by omega) (by rw [decide_eq_true (by omega)])] at h
   repeat' (first | with_reducible refine And.intro ?_ ?_ | simp only [go_sem,seval, hn, decide_false, hz, decide_true] | simp (disch := first | omega | grind) only [heap_ne_] | (intro hx_; try simp only [set_none] at hx_) | omega)
   all_goals exact Fin.less (by simp only [Go.Av.Heap.Le, Go.Av.Heap.set, Go.Av.Heap.del] at * <;> grind) h
theorem one_a {Q} (n : Int) (H : Heap) (h : Q (.bool (decide (n.natAbs = 1))) H) : ACalls Tryz.prog 170 [.agg (bigC n)] H Q := by
 refine acalls_of_wp [] Tryz.mixed Tryz.func170 rfl (by kernel_rfl) (of_decide_eq_true (by kernel_rfl)) (by kernel_rfl) ?_
 simp only [go_sem,seval, Tryz.results170]
 by_cases hl : (digs n.natAbs).length = 1
 ·have hl1 : ((digs n.natAbs).length : Int) = 1 := by omega
  have hl0 : 0 < (digs n.natAbs).length := by omega
  have hv := valD_digs n.natAbs
  obtain ⟨d, hd⟩ := List.length_eq_one_iff.1 hl
  have hg : (digs n.natAbs)[0] = d := by simp [hd]
  rw [hd] at hv
  simp only [valD, Nat.mul_zero, Nat.add_zero] at hv
  have e : decide (n.natAbs = 1) = decide ((d : Int) = 1) := decide_eq_decide.2 (by omega)
  rw [e] at h
  repeat' (first | with_reducible refine And.intro ?_ ?_ | simp only [go_sem,seval, hl1, Rw_at _ _ hl0, Rw_get _ _ hl0, hg] | simp (disch := omega) only [Rw_at] | intro hx_ | omega)
  all_goals (first | exact Fin.less (by simp only [Go.Av.Heap.Le, Go.Av.Heap.set, Go.Av.Heap.del] at * <;> grind) h | (refine Fin.less (H' := H) (by simp only [Go.Av.Heap.Le, Go.Av.Heap.set, Go.Av.Heap.del] at * <;> grind) ?_; simp_all))
 ·have hl1 : ¬ (((digs n.natAbs).length : Int) = 1) := by omega
  have e : decide (n.natAbs = 1) = false := decide_eq_false (fun g => hl (by rw [g, digs_one (by decide) (by decide)]; rfl))
  rw [e] at h
  repeat' (first | with_reducible refine And.intro ?_ ?_ | simp only [go_sem,seval, hl1, decide_false] | simp (disch := omega) only [Rw_at] | intro hx_ | omega)
  all_goals exact Fin.less (by simp only [Go.Av.Heap.Le, Go.Av.Heap.set, Go.Av.Heap.del] at * <;> grind) h
theorem btimes_a {Q} (a b : Int) (ha : Sz a) (hb : Sz b) (H : Heap) (h : Q (.agg (bigC (a * b))) H) : ACalls Tryz.prog 172 [.agg (bigC a), .agg (bigC b)] H Q := by
 refine acalls_of_wp [] Tryz.mixed Tryz.func172 rfl (by kernel_rfl) (of_decide_eq_true (by kernel_rfl)) (by kernel_rfl) ?_
 simp only [go_sem,seval, Tryz.results172]
 have hab : (a * b).natAbs = a.natAbs * b.natAbs := Int.natAbs_mul a b
 repeat' (first | with_reducible refine And.intro ?_ ?_ | simp only [go_sem,seval] | simp (disch := first | omega | grind) only [heap_ne_] | (intro hx_; try simp only [set_none] at hx_) | with_reducible refine nmul_a _ _ ha hb _ ?_ | omega)
 ·rw [bigC_sg (a * b) _ _ hab (mul_diff (by assumption))]
  exact Fin.less (by simp only [Go.Av.Heap.Le, Go.Av.Heap.set, Go.Av.Heap.del] at * <;> grind) h
 ·rw [bigC_sg (a * b) _ _ hab (mul_same (by assumption)).symm]
  exact Fin.less (by simp only [Go.Av.Heap.Le, Go.Av.Heap.set, Go.Av.Heap.del] at * <;> grind) h
theorem bfloor_a {Q} (a b : Int) (ha : Sz a) (h0 : b ≠ 0) (hb : b.natAbs < 4294967296) (H : Heap) (h : Q (.agg (bigC (a.fdiv b))) H) : ACalls Tryz.prog 171 [.agg (bigC a), .agg (bigC b)] H Q := by
 refine acalls_of_wp [] Tryz.mixed Tryz.func171 rfl (by kernel_rfl) (of_decide_eq_true (by kernel_rfl)) (by kernel_rfl) ?_
 simp only [go_sem,seval, Tryz.results171]
 repeat' (first | with_reducible refine And.intro ?_ ?_ | simp only [go_sem,seval] | simp (disch := first | omega | grind) only [heap_ne_, del_ne] | (intro hx_; try simp only [set_none] at hx_) | with_reducible refine ndiv_a _ _ ha (by omega) hb _ ?_ | omega)
 ·have hz : a = 0 := by have := digs_len_pos a.natAbs; omega
  rw [bigC_natv (a.fdiv b) _ (fdiv_same a b h0 (.inr hz))]
  exact Fin.less (by simp only [Go.Av.Heap.Le, Go.Av.Heap.set, Go.Av.Heap.del] at * <;> grind) h
 ·have hz : a ≠ 0 := by have := digs_len_pos a.natAbs; omega
  have hr : ¬ a.natAbs % b.natAbs = 0 := by have := digs_len_pos (a.natAbs % b.natAbs); omega
  have hf := fdiv_diff a b h0 hz (by assumption)
  rw [if_neg hr] at hf
  have h1 : Rw digC (digs 1) = [[D.int .u32 1]] := by rw [digs_one (by decide) (by decide)]; rfl
  refine ACalls.vec2 (es := Rw digC (digs 1)) (by rw [h1]; exact heap_same _ _) (by rw [h1]; rfl) ?_
  have hql : (digs (a.natAbs / b.natAbs)).length ≤ 100000 := Nat.le_trans (digs_mono (Nat.div_le_self _ _)) ha
  refine nadd_a _ 1 hql (by rw [digs_one (by decide) (by decide)]; decide) _ ?_
  repeat' (first | with_reducible refine And.intro ?_ ?_ | simp only [go_sem,seval] | simp (disch := first | omega | grind) only [heap_ne_, del_ne] | (intro hx_; try simp only [set_none] at hx_) | omega)
  rw [len_neg, bigC_negv (a.fdiv b) _ hf]
  exact Fin.less (by simp only [Go.Av.Heap.Le, Go.Av.Heap.set, Go.Av.Heap.del] at * <;> grind) h
 ·have hz : a ≠ 0 := by have := digs_len_pos a.natAbs; omega
  have hr : a.natAbs % b.natAbs = 0 := by have := digs_len_pos (a.natAbs % b.natAbs); omega
  have hf := fdiv_diff a b h0 hz (by assumption)
  rw [if_pos hr] at hf
  rw [len_neg, bigC_negv (a.fdiv b) _ hf]
  exact Fin.less (by simp only [Go.Av.Heap.Le, Go.Av.Heap.set, Go.Av.Heap.del] at * <;> grind) h
 ·rw [bigC_natv (a.fdiv b) _ (fdiv_same a b h0 (.inl (by assumption)))]
  exact Fin.less (by simp only [Go.Av.Heap.Le, Go.Av.Heap.set, Go.Av.Heap.del] at * <;> grind) h
theorem bplus_a {Q} (a b : Int) (ha : Sz a) (hb : Sz b) (H : Heap) (h : Q (.agg (bigC (a + b))) H) : ACalls Tryz.prog 179 [.agg (bigC a), .agg (bigC b)] H Q := by
 refine acalls_of_wp [(2, .par), (7, .par), (8, .par)] Tryz.mixed Tryz.func179 rfl (by kernel_rfl) (of_decide_eq_true (by kernel_rfl)) (by kernel_rfl) ?_
 simp only [go_sem,seval, Tryz.results179]
 intro b2 hb2 b3 hb3 b4 hb4
 simp only [set_none] at hb3 hb4
 have m2 : b2 ∈ [b2, b3] := by simp
 have m3 : b3 ∈ [b2, b3] := by simp
 have n24 := hb4.2.1.symm
 have n34 := hb4.1.symm
 have n23 := hb3.1.symm
 by_cases hs : decide (a < 0) = decide (b < 0)
 ·have hi := decide_eq_decide.1 hs
  repeat' (first | with_reducible refine And.intro ?_ ?_ | simp only [go_sem,seval, hs, beq_self_eq_true] | simp (disch := first | omega | grind) only [heap_ne_] | (intro hx_; try simp only [set_none] at hx_) | omega)
  refine par_mk (fun i => if i = 6 then natD (a.natAbs + b.natAbs) else .undef) [b2, b3] ?_
  repeat' (first | with_reducible refine And.intro ?_ ?_ | simp only [go_sem,seval, m2, m3] | simp (disch := first | omega | grind) only [heap_ne_] | (intro hx_; try simp only [set_none] at hx_) | with_reducible refine pc0 (fun H' Q hro hq => nadd_a _ _ ha hb H' hq) ?_ | omega)
  rw [bigC_sg (a + b) _ _ (by omega) (by apply decide_eq_decide.2; omega)]
  exact Fin.less (by simp only [Go.Av.Heap.Le, Go.Av.Heap.set, Go.Av.Heap.del] at * <;> grind) h
 ·have hi : ¬ (a < 0 ↔ b < 0) := fun g => hs (decide_eq_decide.2 g)
  have hsb : (decide (a < 0) == decide (b < 0)) = false := by rw [beq_eq_false_iff_ne]; exact hs
  repeat' (first | with_reducible refine And.intro ?_ ?_ | simp only [go_sem,seval, hsb] | simp (disch := first | omega | grind) only [heap_ne_] | (intro hx_; try simp only [set_none] at hx_) | omega)
  refine cmp_a _ _ (by omega) (by omega) _ fun c hc => ?_
  have c1 := hc.1
  have c2 := hc.2
  by_cases c0 : c = 0
  ·have hz : a + b = 0 := by have := c2.1 c0; omega
   repeat' (first | with_reducible refine And.intro ?_ ?_ | simp only [go_sem,seval, c0] | simp (disch := first | omega | grind) only [heap_ne_] | (intro hx_; try simp only [set_none] at hx_) | omega)
   rw [hz] at h
   exact Fin.nilR nil_big (Fin.less (by simp only [Go.Av.Heap.Le, Go.Av.Heap.set, Go.Av.Heap.del] at * <;> grind) h)
  ·by_cases cp : 0 < c
   ·have hsz : b.natAbs ≤ a.natAbs := by omega
    repeat' (first | with_reducible refine And.intro ?_ ?_ | simp only [go_sem,seval, c0, cp, decide_true, decide_false] | simp (disch := first | omega | grind) only [heap_ne_] | (intro hx_; try simp only [set_none] at hx_) | omega)
    refine par_mk (fun i => if i = 6 then natD (a.natAbs - b.natAbs) else .undef) [b2, b3] ?_
    repeat' (first | with_reducible refine And.intro ?_ ?_ | simp only [go_sem,seval, m2, m3] | simp (disch := first | omega | grind) only [heap_ne_] | (intro hx_; try simp only [set_none] at hx_) | with_reducible refine pc0 (fun H' Q hro hq => nsub_a _ _ hsz ha H' hq) ?_ | omega)
    rw [bigC_sg (a + b) _ _ (by omega) (by apply decide_eq_decide.2; omega)]
    exact Fin.less (by simp only [Go.Av.Heap.Le, Go.Av.Heap.set, Go.Av.Heap.del] at * <;> grind) h
   ·have hsz : a.natAbs ≤ b.natAbs := by omega
    repeat' (first | with_reducible refine And.intro ?_ ?_ | simp only [go_sem,seval, c0, cp, decide_true, decide_false] | simp (disch := first | omega | grind) only [heap_ne_] | (intro hx_; try simp only [set_none] at hx_) | omega)
    refine par_mk (fun i => if i = 6 then natD (b.natAbs - a.natAbs) else .undef) [b2, b3] ?_
    repeat' (first | with_reducible refine And.intro ?_ ?_ | simp only [go_sem,seval, m2, m3] | simp (disch := first | omega | grind) only [heap_ne_] | (intro hx_; try simp only [set_none] at hx_) | with_reducible refine pc0 (fun H' Q hro hq => nsub_a _ _ hsz hb H' hq) ?_ | omega)
    rw [bigC_sg (a + b) _ _ (by omega) (by apply decide_eq_decide.2; omega)]
    exact Fin.less (by simp only [Go.Av.Heap.Le, Go.Av.Heap.set, Go.Av.Heap.del] at * <;> grind) h
theorem bminus_a {Q} (a b : Int) (ha : Sz a) (hb : Sz b) (H : Heap) (h : Q (.agg (bigC (a - b))) H) : ACalls Tryz.prog 173 [.agg (bigC a), .agg (bigC b)] H Q := by
 refine acalls_of_wp [(1, .par)] Tryz.mixed Tryz.func173 rfl (by kernel_rfl) (of_decide_eq_true (by kernel_rfl)) (by kernel_rfl) ?_
 simp only [go_sem,seval, Tryz.results173]
 intro b2 hb2 b3 hb3 b4 hb4
 simp only [set_none] at hb3 hb4
 have m2 : b2 ∈ [b2, b3] := by simp
 have m3 : b3 ∈ [b2, b3] := by simp
 have n24 := hb4.2.1.symm
 have n34 := hb4.1.symm
 have n23 := hb3.1.symm
 have hnb : Sz (-b) := by unfold Sz; rw [Int.natAbs_neg]; exact hb
 have e : a + -b = a - b := by omega
 rw [← e] at h
 refine par_mk (fun i => if i = 2 then .agg (bigC (-b)) else if i = 3 then .agg (bigC (a + -b)) else .undef) [b2, b3] ?_
 repeat' (first | with_reducible refine And.intro ?_ ?_ | simp only [go_sem,seval, m2, m3] | simp (disch := first | omega | grind) only [heap_ne_] | (intro hx_; try simp only [set_none] at hx_) | with_reducible refine pc0 (fun H' Q hro hq => bneg_a b H' hq) ?_ | with_reducible refine pc0 (fun H' Q hro hq => bplus_a a (-b) ha hnb H' hq) ?_ | omega)
 exact Fin.less (by simp only [Go.Av.Heap.Le, Go.Av.Heap.set, Go.Av.Heap.del] at * <;> grind) h
theorem bless_a {Q} (a b : Int) (ha : Sz a) (hb : Sz b) (H : Heap) (h : Q (.bool (decide (a < b))) H) : ACalls Tryz.prog 186 [.agg (bigC a), .agg (bigC b)] H Q := by
 refine acalls_of_wp [] Tryz.mixed Tryz.func186 rfl (by kernel_rfl) (of_decide_eq_true (by kernel_rfl)) (by kernel_rfl) ?_
 simp only [go_sem,seval, Tryz.results186]
 have e : decide (a < b) = decide ((a - b).sign < 0) := by
  apply decide_eq_decide.2
  rw [Int.sign_neg_iff]; omega
 rw [e] at h
 repeat' (first | with_reducible refine And.intro ?_ ?_ | simp only [go_sem,seval] | simp (disch := first | omega | grind) only [heap_ne_] | (intro hx_; try simp only [set_none] at hx_) | with_reducible refine bminus_a a b ha hb _ ?_ | with_reducible refine sign_a (a - b) _ ?_ | omega)
 exact Fin.less (by simp only [Go.Av.Heap.Le, Go.Av.Heap.set, Go.Av.Heap.del] at * <;> grind) h
theorem bgcd_a {Q} (a b : Int) (ha : Sz a) (hb : b.natAbs < 4294967296) (H : Heap) (h : Q (.agg (bigC (Nat.gcd a.natAbs b.natAbs))) H) : ACalls Tryz.prog 168 [.agg (bigC a), .agg (bigC b)] H Q := by
 refine acalls_of_wp [] Tryz.mixed Tryz.func168 rfl (by kernel_rfl) (of_decide_eq_true (by kernel_rfl)) (by kernel_rfl) ?_
 simp only [go_sem,seval, Tryz.results168]
 rw [bigC_nat] at h
 repeat' (first | with_reducible refine And.intro ?_ ?_ | simp only [go_sem,seval] | simp (disch := first | omega | grind) only [heap_ne_] | (intro hx_; try simp only [set_none] at hx_) | with_reducible refine ngcd_a _ _ ha hb _ ?_ | omega)
 exact Fin.less (by simp only [Go.Av.Heap.Le, Go.Av.Heap.set, Go.Av.Heap.del] at * <;> grind) h
theorem whole_a {Q} (n : Int) (h0 : -9223372036854775808 ≤ n) (h1 : n ≤ 9223372036854775807) (H : Heap) (h : Q (.agg (bigC n)) H) : ACalls Tryz.prog 142 [.int .i64 n] H Q := by
 refine acalls_of_wp [] Tryz.mixed Tryz.func142 rfl (by kernel_rfl) (of_decide_eq_true (by kernel_rfl)) (by kernel_rfl) ?_
 simp only [go_sem,seval, Tryz.results142]
 by_cases hn : n < 0
 ·have w1 : IntKind.u64.wrap n = n + 18446744073709551616 := by rw [IntKind.wrap]; simp only [IntKind.signed, IntKind.bits]; simp; omega
  have w2 : IntKind.u64.wrap (0 - (n + 18446744073709551616)) = (n.natAbs : Int) := by rw [IntKind.wrap]; simp only [IntKind.signed, IntKind.bits]; simp; omega
  rw [← bigC_sg n n.natAbs true rfl (by rw [decide_eq_true hn])] at h
  repeat' (first | with_reducible refine And.intro ?_ ?_ | simp only [go_sem,seval, hn, decide_true, w1, w2] | intro hx_ | with_reducible refine of_a n.natAbs (by omega) _ ?_ | omega)
  exact Fin.less (by simp only [Go.Av.Heap.Le, Go.Av.Heap.set, Go.Av.Heap.del] at * <;> grind) h
 ·have w1 : IntKind.u64.wrap n = (n.natAbs : Int) := by rw [u64w (by omega) (by omega)]; omega
  rw [← bigC_sg n n.natAbs false rfl (by rw [decide_eq_false hn])] at h
  repeat' (first | with_reducible refine And.intro ?_ ?_ | simp only [go_sem,seval, hn, decide_false, w1] | intro hx_ | with_reducible refine of_a n.natAbs (by omega) _ ?_ | omega)
  exact Fin.less (by simp only [Go.Av.Heap.Le, Go.Av.Heap.set, Go.Av.Heap.del] at * <;> grind) h
end Go.Proofs.YtacekpdodelnbaaGreatDoor
end
section
namespace Go.Av
theorem weak_rowN {H Hd : Heap} {E E' : Env} {c m sz s n : Nat} {rest : List D} {es X : List (List D)} (hS : Av.Sub E' E) (hn : n = es.length) (hc : Hd c = some (.vec s (X ++ [.vec m sz 0 n :: rest]))) (hm : Hd m = some (.vec sz es)) (hne : m ≠ c)
  (hH : ∀ k o, k ≠ c → H k = some o → k ≠ m ∧ Hd k = some o) : Weak E' (H.set c (.vec s (X ++ [.sl sz es :: rest]))) E Hd := by
 refine weak_freeze hm (fz_sub hS) (fun k o' ho => ?_)
 unfold Heap.set at ho
 by_cases hk : k = c
 ·subst hk
  rw [if_pos rfl] at ho
  cases ho
  refine ⟨Ne.symm hne, _, hc, .vec _ _ _ (by simp) fun i y y' hy hy' => ?_⟩
  by_cases hi : i < X.length
  ·rw [List.getElem?_append_left hi] at hy hy'
   rw [hy] at hy'; cases hy'
   exact ⟨rfl, fun j d d' h3 h4 => by rw [h3] at h4; cases h4; exact .same _⟩
  ·rw [List.getElem?_append_right (by omega)] at hy hy'
   by_cases hi2 : i - X.length = 0
   ·rw [hi2] at hy hy'
    cases hy; cases hy'
    refine ⟨by simp, fun j d d' h3 h4 => ?_⟩
    cases j with
    | zero => cases h3; cases h4; rw [hn]; exact .all
    | succ j =>
     rw [List.getElem?_cons_succ] at h3 h4
     rw [h3] at h4; cases h4; exact .same _
   ·obtain ⟨q, hq⟩ : ∃ q, i - X.length = q + 1 := ⟨_, (Nat.succ_pred hi2).symm⟩
    rw [hq] at hy; cases hy
 ·rw [if_neg hk] at ho
  obtain ⟨h1, h2⟩ := hH k o' hk ho
  exact ⟨h1, o', h2, .same _⟩
end Go.Av
end
section
set_option maxRecDepth 20000
namespace Go.Lin
open Go Go.Av
theorem fdiv_le (a b : Int) (h0 : b ≠ 0) : (a.fdiv b).natAbs ≤ a.natAbs + 1 := by
 have hk := Nat.div_le_self a.natAbs b.natAbs
 by_cases ha : a = 0
 ·rw [fdiv_same a b h0 (.inr ha), Int.natAbs_natCast]; omega
 ·by_cases hs : decide (a < 0) = decide (b < 0)
  ·rw [fdiv_same a b h0 (.inl hs), Int.natAbs_natCast]; omega
  ·rw [fdiv_diff a b h0 ha hs]
   split
   ·rw [Int.natAbs_neg, Int.natAbs_natCast]; omega
   ·rw [Int.natAbs_neg, Int.natAbs_natCast]; omega
theorem mul_abs {a b : Int} {m n : Nat} (ha : a.natAbs ≤ m) (hb : b.natAbs ≤ n) : (a * b).natAbs ≤ m * n := by rw [Int.natAbs_mul]; exact Nat.mul_le_mul ha hb
theorem le_swap {H : Heap} {b c : Nat} {A A' B : Av.Obj} (h : c ≠ b) : ((H.set b A').set c B).Le (((H.set b A).set c B).set b A') := fun q o hq => by
 by_cases e : q = b
 ·subst e
  rw [heap_ne _ h.symm, heap_same] at hq
  rw [heap_same]; exact hq
 ·rw [heap_ne _ e]
  by_cases e2 : q = c
  ·subst e2; rw [heap_same] at hq ⊢; exact hq
  ·rw [heap_ne _ e2, heap_ne _ e] at hq ⊢; exact hq
def zB : List D := [.bool false, .nilsl]
def padZ (C : List Int) (n i : Nat) : List (List D) := Rw bigC (C.take i) ++ List.replicate (n - i) zB
theorem padZ_len (C : List Int) (n i : Nat) (h : C.length = n) (hi : i ≤ n) : (padZ C n i).length = n := by simp [padZ, Rw]; omega
theorem padZ_zero (C : List Int) (n : Nat) : padZ C n 0 = List.replicate n zB := by simp [padZ, Rw]
theorem padZ_all (C : List Int) (n : Nat) (h : C.length = n) : padZ C n n = Rw bigC C := by simp [padZ, ← h]
theorem padZ_set (C : List Int) (n i : Nat) (h : C.length = n) (hi : i < n) (c : List D) (hc : bigC (C[i]'(by omega)) = c) : (padZ C n i).set i c = padZ C n (i + 1) := by
 subst hc
 unfold padZ
 have hl : (Rw bigC (C.take i)).length = i := by simp [Rw]; omega
 have e : n - i = (n - (i + 1)) + 1 := by omega
 rw [List.set_append_right _ _ (by omega), hl, Nat.sub_self, e, List.replicate_succ, List.set_cons_zero, Rw_take_succ _ _ (by omega), List.append_assoc]; rfl
theorem padZ_get (C : List Int) (n i j : Nat) (h : C.length = n) (hi : i ≤ j) (hj : j < n) : (padZ C n i)[j]? = some zB := by
 unfold padZ
 have hl : (Rw bigC (C.take i)).length = i := by simp [Rw]; omega
 rw [List.getElem?_append_right (by omega), hl, List.getElem?_replicate, if_pos (by omega)]
theorem padZ_getD (C : List Int) (n i j : Nat) (h : C.length = n) (hi : i ≤ j) (hj : j < n) : (padZ C n i).getD j [] = zB := by
 rw [List.getD_eq_getElem?_getD, padZ_get C n i j h hi hj]; rfl
end Go.Lin
namespace Go.Proofs.YtacekpdodelnbaaGreatDoor
open Go Go.Av Go.Lin
attribute [local irreducible] ACalls at8
theorem near_a {Q} (a b : Int) (ha : a.natAbs ≤ 18446744073709551616) (hb0 : 0 < b) (hb : b < 2147483648) (H : Heap) (h : Q (.agg (bigC (nearR a b))) H) : ACalls Tryz.prog 182 [.agg (bigC a), .agg (bigC b)] H Q := by
 refine acalls_of_wp [(2, .par)] Tryz.mixed Tryz.func182 rfl (by kernel_rfl) (of_decide_eq_true (by kernel_rfl)) (by kernel_rfl) ?_
 simp only [go_sem,seval, Tryz.results182]
 intro b2 hb2 b3 hb3 b4 hb4
 simp only [set_none] at hb3 hb4
 have n24 := hb4.2.1.symm
 have n34 := hb4.1.symm
 have n23 := hb3.1.symm
 obtain ⟨t, ht⟩ : ∃ t : Int, t = 2 := ⟨2, rfl⟩
 have hw : ∀ (H' : Heap) (Q' : D → Heap → Prop), Q' (.agg (bigC t)) H' → ACalls Tryz.prog 142 [.int .i64 2] H' Q' := fun H' Q' hq => whole_a 2 (by omega) (by omega) H' (by rw [← ht]; exact hq)
 repeat' (first | with_reducible refine And.intro ?_ ?_ | simp only [go_sem,seval] | simp (disch := first | omega | grind) only [heap_ne_] | (intro hx_; try simp only [set_none] at hx_) | with_reducible refine hw _ _ ?_ | omega)
 rename_i b5
 have hb5 := hx_
 clear hx_
 have m2 : b2 ∈ [b2, b3, b5] := by simp
 have m3 : b3 ∈ [b2, b3, b5] := by simp
 have m5 : b5 ∈ [b2, b3, b5] := by simp
 have n45 := hb5.1
 have n35 := hb5.2.1.symm
 have n25 := hb5.2.2.1.symm
 obtain ⟨f, hf⟩ : ∃ f, f = (a * t + b).fdiv (b * t) := ⟨_, rfl⟩
 have hfl := fdiv_le (a * t + b) (b * t) (by subst ht; omega)
 rw [← hf] at hfl
 have hfl : f.natAbs ≤ 55340232221128654849 := by (have : (a * t + b).natAbs ≤ 55340232221128654848 := by (subst ht; omega)); omega
 have hbf := mul_abs (a := b) (b := f) (m := 2147483648) (n := 55340232221128654849) (by omega) (by omega)
 have s1 : Sz a := sz_two (by omega)
 have s2 : Sz b := sz_two (by omega)
 have s3 : Sz t := sz_two (by omega)
 have s4 : Sz (a * t) := sz_two (by subst ht; omega)
 have s5 : Sz (a * t + b) := sz_two (by subst ht; omega)
 have s6 : Sz f := sz_two (by omega)
 have s7 : Sz (b * f) := sz_two (by omega)
 refine par_mk (fun i => if i = 4 then .agg (bigC (a * t)) else if i = 6 then .agg (bigC (a * t + b)) else if i = 9 then .agg (bigC (b * t)) else if i = 10 then .agg (bigC f) else if i = 11 then .agg (bigC (b * f)) else if i = 12 then .agg (bigC (a - b * f)) else .undef) [b2, b3, b5] ?_
 repeat' (first | with_reducible refine And.intro ?_ ?_ | simp only [go_sem,seval, m2, m3, m5] | simp (disch := first | omega | grind) only [heap_ne_] | (intro hx_; try simp only [set_none] at hx_) | with_reducible refine pc0 (fun H' Q hro hq => btimes_a a t s1 s3 H' hq) ?_ | with_reducible refine pc0 (fun H' Q hro hq => bplus_a (a * t) b s4 s2 H' hq) ?_ | with_reducible refine pc0 (fun H' Q hro hq => btimes_a b t s2 s3 H' hq) ?_ | with_reducible refine pc0 (fun H' Q hro hq => bfloor_a (a * t + b) (b * t) s5 (by subst ht; omega) (by subst ht; omega) H' (by rw [← hf]; exact hq)) ?_ | with_reducible refine pc0 (fun H' Q hro hq => btimes_a b f s2 s6 H' hq) ?_ | with_reducible refine pc0 (fun H' Q hro hq => bminus_a a (b * f) s1 s7 H' hq) ?_ | omega)
 have e : nearR a b = a - b * f := by rw [hf, ht]; rfl
 rw [e] at h
 exact Fin.less (by simp only [Go.Av.Heap.Le, Go.Av.Heap.set, Go.Av.Heap.del] at * <;> grind) h
def RowS (r : Row) (m : Nat) : Prop := r.k.natAbs ≤ m ∧ ∀ x ∈ r.c, x.natAbs ≤ m
theorem opposite_a {Q} (a b : Row) (s : Int) (hs : s = 1 ∨ s = -1) (hl : a.c.length = b.c.length) (hlen : a.c.length ≤ 1000000) (ha : RowS a 18446744073709551616) (hb : RowS b 18446744073709551616) (H : Heap) (h : Q (.bool (oppR a b s)) H) :
  ACalls Tryz.prog 213 [.agg (rowC a), .agg (rowC b), .int .i64 s] H Q := by
 refine acalls_of_wp [] Tryz.mixed Tryz.func213 rfl (by kernel_rfl) (of_decide_eq_true (by kernel_rfl)) (by kernel_rfl) ?_
 simp only [go_sem,seval, Tryz.results213]
 intro b3 hb3 b4 hb4
 simp only [set_none] at hb4
 have e3 : ((H.set b3 (.box (rowC a))).set b4 (.box (rowC b))) b3 = some (.box (rowC a)) := by rw [heap_ne _ hb4.1.symm, heap_same]
 have e4 : ((H.set b3 (.box (rowC a))).set b4 (.box (rowC b))) b4 = some (.box (rowC b)) := heap_same _ _
 have hle : H.Le ((H.set b3 (.box (rowC a))).set b4 (.box (rowC b))) := (by simp only [Go.Av.Heap.Le, Go.Av.Heap.set, Go.Av.Heap.del] at * <;> grind)
 generalize (H.set b3 (.box (rowC a))).set b4 (.box (rowC b)) = Bs at e3 e4 hle ⊢
 repeat' (first | with_reducible refine And.intro ?_ ?_ | simp only [go_sem,seval, e3, e4] | simp (disch := omega) only [wrap64, Rw_at] | simp (disch := first | omega | grind) only [heap_ne_] | (intro hx_; try simp only [set_none] at hx_) | omega)
 have key : oppR a b s = true ↔ ∀ (k : Nat) (h1 : k < a.c.length) (h2 : k < b.c.length), a.c[k] = b.c[k] * s := by
  unfold oppR
  rw [beq_iff_eq]
  constructor
  ·intro e k h1 h2
   have := List.getElem_of_eq e h1
   rw [this, List.getElem_map]
  ·intro e
   apply List.ext_getElem (by simpa using hl)
   intro k h1 h2
   rw [List.getElem_map]
   exact e k h1 (by simpa using h2)
 refine loop_c [2, 4, 11, 12] (fun (i : Nat) => [(13, .int .i64 i)]) (fun (i : Nat) => Bs) (fun (i : Nat) => i ≤ a.c.length ∧ ∀ (k : Nat) (h1 : k < a.c.length) (h2 : k < b.c.length), k < i → a.c[k] = b.c[k] * s) (fun (i : Nat) => a.c.length - i) (0) (⟨Nat.zero_le _, fun k _ _ h => absurd h (Nat.not_lt_zero _)⟩) (by (try simp only [go_sem,seval]) <;> (try simp (disch := omega) [wrap64]) <;> (try omega)) (by first | with_reducible exact Heap.Le.refl _ | exact heap_set_le (by assumption) | exact Heap.Le.refl _ | exact heap_le_set (by assumption) | exact (by simp only [Go.Av.Heap.Le, Go.Av.Heap.set, Go.Av.Heap.del] at * <;> grind)) ?_
 rintro Ec rfl i ⟨hi, hall⟩
 by_cases hlt : i < a.c.length
 ·have hkd : decide ((i : Int) < a.c.length) = true := decide_eq_true (by omega)
  have hlb : i < b.c.length := by omega
  have a1 := ha.2 _ (List.getElem_mem hlt)
  have b1 := hb.2 _ (List.getElem_mem hlb)
  have sa : Sz a.c[i] := sz_two (by omega)
  have sb : Sz b.c[i] := sz_two (by omega)
  have hib : (i : Int) < b.c.length := by omega
  have snb : Sz (-b.c[i]) := sz_two (by omega)
  rcases hs with rfl | rfl
  ·have eb : b.c[i] * 1 = b.c[i] := by omega
   by_cases he : a.c[i] = b.c[i]
   ·have h0 : (a.c[i] - b.c[i]).sign = 0 := by rw [he, Int.sub_self]; rfl
    repeat' (first | with_reducible refine And.intro ?_ ?_ | simp only [go_sem,seval, hkd, e3, e4, hib, Rw_at _ _ hlt, Rw_get _ _ hlt, Rw_at _ _ hlb, Rw_get _ _ hlb, h0] | simp (disch := omega) only [wrap64, Rw_at] | simp (disch := first | omega | grind) only [heap_ne_] | (intro hx_; try simp only [set_none] at hx_) | with_reducible refine bminus_a _ _ sa sb _ ?_ | with_reducible refine sign_a _ _ ?_ | omega)
    refine nx_mk (i + 1) ⟨by omega, fun k h1 h2 hk => ?_⟩ (by omega) (by (try simp only [go_sem,seval]) <;> (try simp (disch := omega) [wrap64]) <;> (try omega)) (by simp only [Go.Av.Heap.Le, Go.Av.Heap.set, Go.Av.Heap.del] at * <;> grind)
    by_cases e : k = i
    ·subst e; rw [eb]; exact he
    ·exact hall k h1 h2 (by omega)
   ·have h0 : ¬ ((a.c[i] - b.c[i]).sign = 0) := by rw [Int.sign_eq_zero_iff_zero]; omega
    have h1 : oppR a b (1) = false := by rw [← Bool.not_eq_true]; exact fun g => he (by rw [← eb]; exact key.1 g i hlt hlb)
    have h2 : ((a.c[i] - b.c[i]).sign != 0) = true := by rw [bne_iff_ne]; exact h0
    repeat' (first | with_reducible refine And.intro ?_ ?_ | simp only [go_sem,seval, hkd, e3, e4, hib, Rw_at _ _ hlt, Rw_get _ _ hlt, Rw_at _ _ hlb, Rw_get _ _ hlb, h2] | simp (disch := omega) only [wrap64, Rw_at] | simp (disch := first | omega | grind) only [heap_ne_] | (intro hx_; try simp only [set_none] at hx_) | with_reducible refine bminus_a _ _ sa sb _ ?_ | with_reducible refine sign_a _ _ ?_ | omega)
    rw [h1] at h
    exact Fin.less (by simp only [Go.Av.Heap.Le, Go.Av.Heap.set, Go.Av.Heap.del] at * <;> grind) h
  ·have eb : b.c[i] * -1 = -b.c[i] := by omega
   by_cases he : a.c[i] = -b.c[i]
   ·have h0 : (a.c[i] - -b.c[i]).sign = 0 := by rw [he, Int.sub_self]; rfl
    repeat' (first | with_reducible refine And.intro ?_ ?_ | simp only [go_sem,seval, hkd, e3, e4, hib, Rw_at _ _ hlt, Rw_get _ _ hlt, Rw_at _ _ hlb, Rw_get _ _ hlb, h0] | simp (disch := omega) only [wrap64, Rw_at] | simp (disch := first | omega | grind) only [heap_ne_] | (intro hx_; try simp only [set_none] at hx_) | with_reducible refine bneg_a _ _ ?_ | with_reducible refine bminus_a _ _ sa snb _ ?_ | with_reducible refine sign_a _ _ ?_ | omega)
    refine nx_mk (i + 1) ⟨by omega, fun k h1 h2 hk => ?_⟩ (by omega) (by (try simp only [go_sem,seval]) <;> (try simp (disch := omega) [wrap64]) <;> (try omega)) (by simp only [Go.Av.Heap.Le, Go.Av.Heap.set, Go.Av.Heap.del] at * <;> grind)
    by_cases e : k = i
    ·subst e; rw [eb]; exact he
    ·exact hall k h1 h2 (by omega)
   ·have h0 : ¬ ((a.c[i] - -b.c[i]).sign = 0) := by rw [Int.sign_eq_zero_iff_zero]; omega
    have h1 : oppR a b (-1) = false := by rw [← Bool.not_eq_true]; exact fun g => he (by rw [← eb]; exact key.1 g i hlt hlb)
    have h2 : ((a.c[i] - -b.c[i]).sign != 0) = true := by rw [bne_iff_ne]; exact h0
    repeat' (first | with_reducible refine And.intro ?_ ?_ | simp only [go_sem,seval, hkd, e3, e4, hib, Rw_at _ _ hlt, Rw_get _ _ hlt, Rw_at _ _ hlb, Rw_get _ _ hlb, h2] | simp (disch := omega) only [wrap64, Rw_at] | simp (disch := first | omega | grind) only [heap_ne_] | (intro hx_; try simp only [set_none] at hx_) | with_reducible refine bneg_a _ _ ?_ | with_reducible refine bminus_a _ _ sa snb _ ?_ | with_reducible refine sign_a _ _ ?_ | omega)
    rw [h1] at h
    exact Fin.less (by simp only [Go.Av.Heap.Le, Go.Av.Heap.set, Go.Av.Heap.del] at * <;> grind) h
 ·have hkd : decide ((i : Int) < a.c.length) = false := decide_eq_false (by omega)
  repeat' (first | with_reducible refine And.intro ?_ ?_ | simp only [go_sem,seval, hkd] | simp (disch := omega) only [wrap64, Rw_at] | simp (disch := first | omega | grind) only [heap_ne_] | (intro hx_; try simp only [set_none] at hx_) | omega)
  rw [key.2 (fun k h1 h2 => hall k h1 h2 (by omega))] at h
  exact Fin.less hle h
set_option maxHeartbeats 1000000 in
theorem plus_a {Q} (x y : Row) (a b : Int) (hl : x.c.length = y.c.length) (hlen : x.c.length ≤ 1000000) (hx : RowS x 18446744073709551616) (hy : RowS y 18446744073709551616) (ha : a.natAbs ≤ 18446744073709551616) (hb : b.natAbs ≤ 18446744073709551616) (H : Heap)
  (h : Q (.agg (rowC (plusR x a y b))) H) : ACalls Tryz.prog 188 [.agg (rowC x), .agg (bigC a), .agg (rowC y), .agg (bigC b)] H Q := by
 refine acalls_of_wp [(1, .par), (5, .par)] Tryz.mixed Tryz.func188 rfl (by kernel_rfl) (of_decide_eq_true (by kernel_rfl)) (by kernel_rfl) ?_
 simp only [go_sem,seval, Tryz.results188]
 intro b4 h4 b5 h5 b6 h6 b7 h7 b8 h8
 simp only [set_none] at h5 h6 h7 h8
 have e4 : (((((H.set b4 (.box (rowC x))).set b5 (.box (bigC a))).set b6 (.box (rowC y))).set b7 (.box (bigC b))).set b8 (.box [.nilsl, .bool false, .nilsl, .bool false])) b4 = some (.box (rowC x)) := by simp (disch := first | omega | grind) only [heap_ne_, heap_same]
 have e5 : (((((H.set b4 (.box (rowC x))).set b5 (.box (bigC a))).set b6 (.box (rowC y))).set b7 (.box (bigC b))).set b8 (.box [.nilsl, .bool false, .nilsl, .bool false])) b5 = some (.box (bigC a)) := by simp (disch := first | omega | grind) only [heap_ne_, heap_same]
 have e6 : (((((H.set b4 (.box (rowC x))).set b5 (.box (bigC a))).set b6 (.box (rowC y))).set b7 (.box (bigC b))).set b8 (.box [.nilsl, .bool false, .nilsl, .bool false])) b6 = some (.box (rowC y)) := by simp (disch := first | omega | grind) only [heap_ne_, heap_same]
 have e7 : (((((H.set b4 (.box (rowC x))).set b5 (.box (bigC a))).set b6 (.box (rowC y))).set b7 (.box (bigC b))).set b8 (.box [.nilsl, .bool false, .nilsl, .bool false])) b7 = some (.box (bigC b)) := by simp (disch := first | omega | grind) only [heap_ne_, heap_same]
 have e8 : (((((H.set b4 (.box (rowC x))).set b5 (.box (bigC a))).set b6 (.box (rowC y))).set b7 (.box (bigC b))).set b8 (.box [.nilsl, .bool false, .nilsl, .bool false])) b8 = some (.box [.nilsl, .bool false, .nilsl, .bool false]) := heap_same _ _
 have hle : H.Le ((((H.set b4 (.box (rowC x))).set b5 (.box (bigC a))).set b6 (.box (rowC y))).set b7 (.box (bigC b))) := (by simp only [Go.Av.Heap.Le, Go.Av.Heap.set, Go.Av.Heap.del] at * <;> grind)
 have h8' : ((((H.set b4 (.box (rowC x))).set b5 (.box (bigC a))).set b6 (.box (rowC y))).set b7 (.box (bigC b))) b8 = none := by simp only [set_none]; exact h8
 have hle2 := hle.trans (heap_le_set (o := .box [.nilsl, .bool false, .nilsl, .bool false]) h8')
 have hb8 : H b8 = none := hle.none h8'
 generalize (((((H.set b4 (.box (rowC x))).set b5 (.box (bigC a))).set b6 (.box (rowC y))).set b7 (.box (bigC b))).set b8 (.box [.nilsl, .bool false, .nilsl, .bool false])) = Bs at e4 e5 e6 e7 e8 hle2 ⊢
 clear hle h8' h4 h5 h6 h7 h8
 have xk := hx.1
 have yk := hy.1
 have m1 := mul_abs xk ha
 have m2 := mul_abs yk hb
 have s1 : Sz x.k := sz_two (by omega)
 have s2 : Sz y.k := sz_two (by omega)
 have s3 : Sz a := sz_two (by omega)
 have s4 : Sz b := sz_two (by omega)
 have s5 : Sz (x.k * a) := sz_of (k := 5) (by omega) (by decide)
 have s6 : Sz (y.k * b) := sz_of (k := 5) (by omega) (by decide)
 have q4 : b4 ∈ [b4, b5, b6, b7] := by simp
 have q5 : b5 ∈ [b4, b5, b6, b7] := by simp
 have q6 : b6 ∈ [b4, b5, b6, b7] := by simp
 have q7 : b7 ∈ [b4, b5, b6, b7] := by simp
 refine par_mk (fun i => if i = 7 then .agg (bigC (x.k * a)) else if i = 11 then .agg (bigC (y.k * b)) else if i = 12 then .agg (bigC (x.k * a + y.k * b)) else .undef) [b4, b5, b6, b7] ?_
 repeat' (first | with_reducible refine And.intro ?_ ?_ | simp only [go_sem,seval, e4, e5, e6, e7, q4, q5, q6, q7] | simp (disch := omega) only [wrap64, Rw_at] | simp (disch := first | omega | grind) only [heap_ne_, del_ne] | (intro hx_; try simp only [set_none] at hx_) | with_reducible refine pc0 (fun H' Q hro hq => btimes_a x.k a s1 s3 H' hq) ?_ | with_reducible refine pc0 (fun H' Q hro hq => btimes_a y.k b s2 s4 H' hq) ?_ | with_reducible refine pc0 (fun H' Q hro hq => bplus_a (x.k * a) (y.k * b) s5 s6 H' hq) ?_ | omega)
 rename_i bo hbo b9
 have h9 := hx_
 clear hx_
 obtain ⟨C, hC⟩ : ∃ C, C = List.zipWith (fun p q => p * a + q * b) x.c y.c := ⟨_, rfl⟩
 have hCl : C.length = x.c.length := by rw [hC]; simp [hl]
 have hrep : List.replicate x.c.length [D.bool false, .nilsl] = padZ C x.c.length 0 := (padZ_zero _ _).symm
 rw [hrep]
 obtain ⟨k, hk⟩ : ∃ k, k = x.k * a + y.k * b := ⟨_, rfl⟩
 have n9 : b9 ≠ bo := h9.1
 have f4 : b4 ≠ bo := fun e => by rw [e, hbo] at e4; cases e4
 have f5 : b5 ≠ bo := fun e => by rw [e, hbo] at e5; cases e5
 have f6 : b6 ≠ bo := fun e => by rw [e, hbo] at e6; cases e6
 have f7 : b7 ≠ bo := fun e => by rw [e, hbo] at e7; cases e7
 have f8 : b8 ≠ bo := fun e => by rw [e, hbo] at e8; cases e8
 have g4 : b4 ≠ b9 := fun e => by rw [e, h9.2] at e4; cases e4
 have g5 : b5 ≠ b9 := fun e => by rw [e, h9.2] at e5; cases e5
 have g6 : b6 ≠ b9 := fun e => by rw [e, h9.2] at e6; cases e6
 have g7 : b7 ≠ b9 := fun e => by rw [e, h9.2] at e7; cases e7
 have g8 : b8 ≠ b9 := fun e => by rw [e, h9.2] at e8; cases e8
 refine loop_c [4, 5, 6, 7, 8, 9, 29] (fun (i : Nat) => [(30, .int .i64 i)]) (fun (i : Nat) => (Bs.set bo (.vec 2 (padZ C x.c.length i))).set b9 (.box [.vec bo 2 0 x.c.length, .bool (decide (x.k * a + y.k * b < 0)), .sl 1 (Rw digC (digs (x.k * a + y.k * b).natAbs)), .bool x.eq])) (fun (i : Nat) => i ≤ x.c.length) (fun (i : Nat) => x.c.length - i) (0) (Nat.zero_le _) (by (try simp only [go_sem,seval]) <;> (try simp (disch := omega) [wrap64]) <;> (try omega)) (by first | with_reducible exact Heap.Le.refl _ | exact heap_set_le (by assumption) | exact Heap.Le.refl _ | exact heap_le_set (by assumption) | exact (by simp only [Go.Av.Heap.Le, Go.Av.Heap.set, Go.Av.Heap.del] at * <;> grind)) ?_
 rintro Ec rfl i hi
 have hpl := padZ_len C x.c.length i hCl hi
 by_cases hlt : i < x.c.length
 ·have hkd : decide ((i : Int) < x.c.length) = true := decide_eq_true (by omega)
  have hly : i < y.c.length := by omega
  have hiy : (i : Int) < y.c.length := by omega
  have hiC : i < C.length := by omega
  have x1 := hx.2 _ (List.getElem_mem hlt)
  have y1 := hy.2 _ (List.getElem_mem hly)
  have p1 := mul_abs x1 ha
  have p2 := mul_abs y1 hb
  have t1 : Sz x.c[i] := sz_two (by omega)
  have t2 : Sz y.c[i] := sz_two (by omega)
  have t3 : Sz (x.c[i] * a) := sz_of (k := 5) (by omega) (by decide)
  have t4 : Sz (y.c[i] * b) := sz_of (k := 5) (by omega) (by decide)
  have hci : C[i] = x.c[i] * a + y.c[i] * b := by simp only [hC, List.getElem_zipWith]
  have hset := padZ_set C x.c.length i hCl hlt (bigC (x.c[i] * a + y.c[i] * b)) (by rw [hci])
  have hpg := padZ_getD C x.c.length i i hCl (Nat.le_refl _) hlt
  have hpg2 := padZ_get C x.c.length i i hCl (Nat.le_refl _) hlt
  have r4 : b4 ∈ [b4, b5, b6, b7, b9] := by simp
  have r5 : b5 ∈ [b4, b5, b6, b7, b9] := by simp
  have r6 : b6 ∈ [b4, b5, b6, b7, b9] := by simp
  have r7 : b7 ∈ [b4, b5, b6, b7, b9] := by simp
  have r9 : b9 ∈ [b4, b5, b6, b7, b9] := by simp
  repeat' (first | with_reducible refine And.intro ?_ ?_ | simp only [go_sem,seval, hkd] | simp (disch := omega) only [wrap64, Rw_at] | simp (disch := first | omega | grind) only [heap_ne_, del_ne] | (intro hx_; try simp only [set_none] at hx_) | omega)
  refine par_mk (fun i' => if i' = 9 then .agg (bigC (x.c[i] * a)) else if i' = 16 then .agg (bigC (y.c[i] * b)) else if i' = 17 then .agg (bigC (x.c[i] * a + y.c[i] * b)) else .undef) [b4, b5, b6, b7, b9] ?_
  repeat' (first | with_reducible refine And.intro ?_ ?_ | simp only [go_sem,seval, e4, e5, e6, e7, r4, r5, r6, r7, r9, hiy, hpl, hpg, hpg2, Rw_at _ _ hlt, Rw_get _ _ hlt, Rw_at _ _ hly, Rw_get _ _ hly, hset] | simp (disch := omega) only [wrap64, Rw_at] | simp (disch := first | omega | grind) only [heap_ne_, del_ne] | (intro hx_; try simp only [set_none] at hx_) | with_reducible refine pc0 (fun H' Q hro hq => btimes_a x.c[i] a t1 s3 H' hq) ?_ | with_reducible refine pc0 (fun H' Q hro hq => btimes_a y.c[i] b t2 s4 H' hq) ?_ | with_reducible refine pc0 (fun H' Q hro hq => bplus_a (x.c[i] * a) (y.c[i] * b) t3 t4 H' hq) ?_ | omega)
  refine nx_mk (i + 1) (by omega) (by omega) (by (try simp only [go_sem,seval]) <;> (try simp (disch := omega) [wrap64]) <;> (try omega)) ?_
  have hset2 : (padZ C x.c.length i).set i ((zB.set 0 (D.bool (decide (x.c[i] * a + y.c[i] * b < 0)))).set 1 (D.sl 1 (Rw digC (digs (x.c[i] * a + y.c[i] * b).natAbs)))) = padZ C x.c.length (i + 1) := hset
  rw [hset2]
  exact le_swap n9
 ·have hkd : decide ((i : Int) < x.c.length) = false := decide_eq_false (by omega)
  have hie : i = x.c.length := by omega
  subst hie
  rw [padZ_all C _ hCl]
  repeat' (first | with_reducible refine And.intro ?_ ?_ | simp only [go_sem,seval, hkd, e8] | simp (disch := omega) only [wrap64, Rw_at] | simp (disch := first | omega | grind) only [heap_ne_, del_ne] | (intro hx_; try simp only [set_none] at hx_) | omega)
  have hlen2 : x.c.length = (Rw bigC C).length := by rw [Rw_len, hCl]
  refine Fin.freezeA (b := bo) (sz := 2) (es := Rw bigC C) (cs' := rowC (plusR x a y b)) (by rw [heap_ne _ f8.symm, heap_ne _ n9.symm, heap_same]) rfl (fun i d d' e1 e2 => ?_) (Fin.less (fun q o hq => ?_) h)
  ·match i with
   | 0 =>
    cases e1; cases e2
    show Fz bo 2 (Rw bigC C) (.vec bo 2 0 x.c.length) (.sl 2 (Rw bigC (List.zipWith (fun p q => p * a + q * b) x.c y.c)))
    rw [← hC, hlen2]; exact .all
   | 1 => cases e1; cases e2; exact .same _
   | 2 => cases e1; cases e2; exact .same _
   | 3 => cases e1; cases e2; exact .same _
   | i + 4 => cases e1
  ·have hq2 := hle2 q o hq
   have d1 : q ≠ bo := fun e => by rw [e, hbo] at hq2; cases hq2
   have d2 : q ≠ b9 := fun e => by rw [e, h9.2] at hq2; cases hq2
   have d3 : q ≠ b8 := fun e => by rw [e, hb8] at hq; cases hq
   rw [del_ne d1, heap_ne _ d3, heap_ne _ d2, heap_ne _ d1]; exact hq2
end Go.Proofs.YtacekpdodelnbaaGreatDoor
end
section
namespace Go.Av
theorem Fin.out2t {n sz : Nat} {es : List (List D)} {ob : Option Nat} {a : D} {ds : List D} {Q : D → Heap → Prop} {H : Heap} (hn : n = es.length) (hc : OutAt H sz es ob) (h : Fin Q (.tuple (a :: .sl sz es :: ds)) (delB H ob)) : Fin Q (.tuple (a :: outG sz n ob :: ds)) H := by
 subst hn
 cases ob with
 | none =>
  have e : es = [] := hc
  subst e
  refine Fin.nilR (.tuple _ _ (by simp) fun i d d' h1 h2 => ?_) h
  match i with
  | 0 => cases h1; cases h2; exact .same _
  | 1 => cases h1; cases h2; exact .nil _
  | i + 2 =>
   simp only [List.getElem?_cons_succ] at h1 h2
   rw [h1] at h2; cases h2; exact .same _
 | some c =>
  refine Fin.freeze hc (.tuple _ _ (by simp) fun i d d' h1 h2 => ?_) h
  match i with
  | 0 => cases h1; cases h2; exact .same _
  | 1 => cases h1; cases h2; exact .all
  | i + 2 =>
   simp only [List.getElem?_cons_succ] at h1 h2
   rw [h1] at h2; cases h2; exact .same _
theorem OutAt.up {H H' : Heap} {sz : Nat} {es : List (List D)} {ob : Option Nat} (h : OutAt H sz es ob) (hle : H.Le H') : OutAt H' sz es ob := by
 cases ob with
 | none => exact h
 | some c => exact hle _ _ h
theorem OutAt.keep {H0 H' : Heap} {sz sz' : Nat} {es e2 : List (List D)} {ob o2 : Option Nat} {b' : Nat} (h : OutAt H0 sz' e2 o2) (ha : Apd H0 sz ob es b' H') (hd : ∀ b, o2 = some b → ob ≠ some b) : OutAt H' sz' e2 o2 := by
 cases o2 with
 | none => exact h
 | some c => exact ha.2.1 c _ h (hd c rfl)
structure O3 (H Hp : Heap) (sz : Nat) (e1 e2 e3 : List (List D)) (o1 o2 o3 : Option Nat) : Prop where
 le : H.Le Hp
 a1 : OutAt Hp sz e1 o1
 a2 : OutAt Hp sz e2 o2
 a3 : OutAt Hp sz e3 o3
 n1 : ∀ b, o1 = some b → H b = none
 n2 : ∀ b, o2 = some b → H b = none
 n3 : ∀ b, o3 = some b → H b = none
 d12 : ∀ b, o1 = some b → o2 ≠ some b
 d13 : ∀ b, o1 = some b → o3 ≠ some b
 d23 : ∀ b, o2 = some b → o3 ≠ some b
theorem O3.nil (H : Heap) (sz : Nat) : O3 H H sz [] [] [] none none none := ⟨Heap.Le.refl H, rfl, rfl, rfl, by simp, by simp, by simp, by simp, by simp, by simp⟩
theorem O3.rot {H Hp : Heap} {sz : Nat} {e1 e2 e3 : List (List D)} {o1 o2 o3 : Option Nat} (h : O3 H Hp sz e1 e2 e3 o1 o2 o3) : O3 H Hp sz e2 e3 e1 o2 o3 o1 :=
 ⟨h.le, h.a2, h.a3, h.a1, h.n2, h.n3, h.n1, h.d23, fun b e e2 => h.d12 b e2 e, fun b e e2 => h.d13 b e2 e⟩
theorem OutAt.some_of {H : Heap} {sz : Nat} {es : List (List D)} {ob : Option Nat} (h : OutAt H sz es ob) {b : Nat} (e : ob = some b) : H b = some (.vec sz es) := by subst e; exact h
theorem O3.app1 {H Hp H0 H' : Heap} {sz : Nat} {e1 e2 e3 e1' : List (List D)} {o1 o2 o3 : Option Nat} {b' : Nat} (h : O3 H Hp sz e1 e2 e3 o1 o2 o3) (hle : Hp.Le H0) (ha : Apd H0 sz o1 e1' b' H') : O3 H H' sz e1' e2 e3 (some b') o2 o3 := by
 have nb : ∀ {e : List (List D)} {o : Option Nat}, OutAt Hp sz e o → (∀ b, o1 = some b → o ≠ some b) → o ≠ some b' := fun {e o} hat hd hb => by
  rcases ha.2.2 with g | g
  ·have := hle _ _ (hat.some_of hb); rw [g] at this; cases this
  ·exact hd _ g hb
 refine ⟨fun k o hk => ha.2.1 k o (hle k o (h.le k o hk)) (fun e => by have := h.n1 k e; rw [this] at hk; cases hk), ha.1, (h.a2.up hle).keep ha (fun b e g => h.d12 b g e), (h.a3.up hle).keep ha (fun b e g => h.d13 b g e), fun b e => ?_, h.n2, h.n3, fun b e g => ?_, fun b e g => ?_, h.d23⟩
 ·cases e
  rcases ha.2.2 with g | g
  ·exact h.le.none (hle.none g)
  ·exact h.n1 _ g
 ·cases e; exact nb h.a2 h.d12 g
 ·cases e; exact nb h.a3 h.d13 g
theorem O3.app2 {H Hp H0 H' : Heap} {sz : Nat} {e1 e2 e3 e2' : List (List D)} {o1 o2 o3 : Option Nat} {b' : Nat} (h : O3 H Hp sz e1 e2 e3 o1 o2 o3) (hle : Hp.Le H0) (ha : Apd H0 sz o2 e2' b' H') : O3 H H' sz e1 e2' e3 o1 (some b') o3 := (h.rot.app1 hle ha).rot.rot
theorem O3.app3 {H Hp H0 H' : Heap} {sz : Nat} {e1 e2 e3 e3' : List (List D)} {o1 o2 o3 : Option Nat} {b' : Nat} (h : O3 H Hp sz e1 e2 e3 o1 o2 o3) (hle : Hp.Le H0) (ha : Apd H0 sz o3 e3' b' H') : O3 H H' sz e1 e2 e3' o1 o2 (some b') := (h.rot.rot.app1 hle ha).rot
theorem O3.ap {H Hp H0 : Heap} {KD : D → Heap → Prop} {sz by_ n bx : Nat} {o : Go.Av.Obj} {e1 e2 e3 e1' xs : List (List D)} {o1 o2 o3 : Option Nat} (h : O3 H Hp sz e1 e2 e3 o1 o2 o3) (hle : Hp.Le H0) (hx0 : H0 bx = none) (hne : xs ≠ []) (hn : n = e1.length)
  (h1 : (n + xs.length) * by_ ≤ 140737488355328) (h2 : n + xs.length ≤ 9223372036854775807) (he : e1' = e1 ++ xs)
  (K : ∀ b' H', O3 H H' sz e1' e2 e3 (some b') o2 o3 → KD (.vec b' sz 0 (n + xs.length)) H') : apS (outG sz n o1) sz by_ xs (H0.set bx o) KD :=
 apS_z (P := default) hx0 hne (h.a1.up hle) hn h1 h2 fun b' H' hA => K b' H' (h.app1 hle (by rw [he]; exact hA))
theorem O3.last {H Hp : Heap} {sz : Nat} {e1 e2 e3 : List (List D)} {o1 o2 o3 : Option Nat} (h : O3 H Hp sz e1 e2 e3 o1 o2 o3) : (putB H sz e3 o3).Le (delB (delB Hp o1) o2) ∧ OutAt (delB Hp o1) sz e2 o2 := by
 have hd : ∀ (K : Heap) (o : Option Nat) (k : Nat) (x : Go.Av.Obj), K k = some x → o ≠ some k → delB K o k = some x := fun K o k x hk hn => by
  cases o with
  | none => exact hk
  | some c => show (K.del c) k = _; rw [del_ne (by rintro rfl; exact hn rfl)]; exact hk
 constructor
 ·intro k x hk
  have old : ∀ y, H k = some y → o1 ≠ some k ∧ o2 ≠ some k ∧ Hp k = some y := fun y hy =>
   ⟨fun e => (by have := h.n1 _ e; rw [this] at hy; cases hy), fun e => (by have := h.n2 _ e; rw [this] at hy; cases hy), h.le _ _ hy⟩
  have hne1 : o1 ≠ some k ∧ o2 ≠ some k ∧ Hp k = some x := by
   cases o3 with
   | none => exact old x hk
   | some c =>
    replace hk : (H.set c (.vec sz e3)) k = some x := hk
    simp only [Heap.set] at hk
    by_cases e : k = c
    ·rw [if_pos e] at hk
     cases hk
     rw [e]
     exact ⟨fun e => h.d13 _ e rfl, fun e => h.d23 _ e rfl, h.a3⟩
    ·rw [if_neg e] at hk
     exact old x hk
  exact hd _ _ _ _ (hd _ _ _ _ hne1.2.2 hne1.1) hne1.2.1
 ·cases o2 with
  | none => exact h.a2
  | some c => exact hd _ _ _ _ h.a2 (fun e => h.d12 _ e rfl)
end Go.Av
end
section
set_option maxRecDepth 20000
namespace Go.Lin
open Go Go.Av
def idxI {α : Type} (p : α → Bool) : List α → Int
 | [] => -1
 | a :: l => if p a = true then 0 else if idxI p l < 0 then -1 else idxI p l + 1
theorem idxI_ge {α : Type} (p : α → Bool) : ∀ l, -1 ≤ idxI p l
 | [] => by rw [idxI]; omega
 | a :: l => by have := idxI_ge p l; rw [idxI]; split; omega; split <;> omega
theorem idxI_any {α : Type} (p : α → Bool) : ∀ l, decide (0 ≤ idxI p l) = l.any p
 | [] => rfl
 | a :: l => by
  have := idxI_any p l
  rw [idxI, List.any_cons, ← this]
  split
  ·rename_i h; simp [h]
  ·rename_i h
   simp only [h, Bool.false_or]
   apply decide_eq_decide.2
   split <;> omega
theorem idxI_drop {α : Type} (p : α → Bool) (l : List α) (k : Nat) (h : k < l.length) : idxI p (l.drop k) = if p l[k] = true then 0 else if idxI p (l.drop (k + 1)) < 0 then -1 else idxI p (l.drop (k + 1)) + 1 := by
 rw [List.drop_eq_getElem_cons h, idxI]
end Go.Lin
namespace Go.Proofs.YtacekpdodelnbaaGreatDoor
open Go Go.Av Go.Lin
attribute [local irreducible] ACalls at8
theorem idxA_a {Q} (p : LinV → Bool) (l : List LinV) (hl : l.length ≤ 1000000000000000) (g : Nat) (first cap : List D) (H : Heap)
  (hf : ∀ a ∈ l, ∀ (Q : D → Heap → Prop), Q (.bool (p a)) H → ACalls Tryz.prog g (first ++ [.agg (linC a)] ++ cap) H Q) (h : Q (.int .i64 (idxI p l)) H) :
  ACalls Tryz.prog 98 [.sl 3 (Rw linC l), .fn (.func g) first cap] H Q := by
 refine acalls_of_wp [] Tryz.mixed Tryz.func98 rfl (by kernel_rfl) (of_decide_eq_true (by kernel_rfl)) (by kernel_rfl) ?_
 simp only [go_sem,seval, Tryz.results98]
 refine loop_c [0, 1, 7] (fun (k : Nat) => [(8, .int .i64 k)]) (fun (k : Nat) => H) (fun (k : Nat) => k ≤ l.length ∧ idxI p l = if idxI p (l.drop k) < 0 then -1 else idxI p (l.drop k) + k) (fun (k : Nat) => l.length - k) (0) (⟨Nat.zero_le _, by have := idxI_ge p l; rw [List.drop_zero]; split <;> omega⟩) (by (try simp only [go_sem,seval]) <;> (try simp (disch := omega) [wrap64]) <;> (try omega)) (by first | with_reducible exact Heap.Le.refl _ | exact heap_set_le (by assumption) | exact Heap.Le.refl _ | exact heap_le_set (by assumption) | exact (by simp only [Go.Av.Heap.Le, Go.Av.Heap.set, Go.Av.Heap.del] at * <;> grind)) ?_
 rintro Ec rfl k ⟨hk, hp⟩
 by_cases hlt : k < l.length
 ·have hkd : decide ((k : Int) < l.length) = true := decide_eq_true (by omega)
  rw [idxI_drop p l k hlt] at hp
  repeat' (first | with_reducible refine And.intro ?_ ?_ | simp only [go_sem,seval, hkd, Rw_at _ _ hlt] | simp (disch := omega) only [wrap64, Rw_at] | intro hx_ | with_reducible refine hf l[k] (List.getElem_mem hlt) _ ?_ | omega)
  ·have h1 : p l[k] = true := by assumption
   rw [if_pos h1] at hp
   simp only [Int.zero_add, show ¬ ((0 : Int) < 0) by omega, if_false] at hp
   rw [hp] at h
   exact Fin.same h
  ·have h1 : ¬ p l[k] = true := by simp_all
   rw [if_neg h1] at hp
   exact nx_mk (k + 1) ⟨by omega, by rw [hp]; have := idxI_ge p (l.drop (k + 1)); split <;> split <;> omega⟩ (by omega) (by (try simp only [go_sem,seval]) <;> (try simp (disch := omega) [wrap64]) <;> (try omega)) (Heap.Le.refl _)
 ·have hkd : decide ((k : Int) < l.length) = false := decide_eq_false (by omega)
  rw [List.drop_eq_nil_of_le (by omega), idxI] at hp
  repeat' (first | with_reducible refine And.intro ?_ ?_ | simp only [go_sem,seval, hkd] | simp (disch := omega) only [wrap64, Rw_at] | intro hx_ | omega)
  simp only [show ((-1 : Int) < 0) by omega, if_true] at hp
  rw [hp] at h
  exact Fin.same h
theorem hasA_a {Q} (p : LinV → Bool) (l : List LinV) (hl : l.length ≤ 1000000000000000) (g : Nat) (first cap : List D) (H : Heap)
  (hf : ∀ a ∈ l, ∀ (Q : D → Heap → Prop), Q (.bool (p a)) H → ACalls Tryz.prog g (first ++ [.agg (linC a)] ++ cap) H Q) (h : Q (.bool (l.any p)) H) :
  ACalls Tryz.prog 52 [.sl 3 (Rw linC l), .fn (.func g) first cap] H Q := by
 refine acalls_of_wp [] Tryz.mixed Tryz.func52 rfl (by kernel_rfl) (of_decide_eq_true (by kernel_rfl)) (by kernel_rfl) ?_
 simp only [go_sem,seval, Tryz.results52]
 rw [← idxI_any] at h
 repeat' (first | with_reducible refine And.intro ?_ ?_ | simp only [go_sem,seval] | intro hx_ | with_reducible refine idxA_a p l hl g first cap _ hf ?_ | omega)
 exact Fin.same h
theorem idxW_a {Q} (p : Row → Bool) (l : List Row) (hl : l.length ≤ 1000000000000000) (g : Nat) (first cap : List D) (H : Heap)
  (hf : ∀ a ∈ l, ∀ (Q : D → Heap → Prop), Q (.bool (p a)) H → ACalls Tryz.prog g (first ++ [.agg (rowC a)] ++ cap) H Q) (h : Q (.int .i64 (idxI p l)) H) :
  ACalls Tryz.prog 135 [.sl 4 (Rw rowC l), .fn (.func g) first cap] H Q := by
 refine acalls_of_wp [] Tryz.mixed Tryz.func135 rfl (by kernel_rfl) (of_decide_eq_true (by kernel_rfl)) (by kernel_rfl) ?_
 simp only [go_sem,seval, Tryz.results135]
 refine loop_c [0, 1, 7] (fun (k : Nat) => [(8, .int .i64 k)]) (fun (k : Nat) => H) (fun (k : Nat) => k ≤ l.length ∧ idxI p l = if idxI p (l.drop k) < 0 then -1 else idxI p (l.drop k) + k) (fun (k : Nat) => l.length - k) (0) (⟨Nat.zero_le _, by have := idxI_ge p l; rw [List.drop_zero]; split <;> omega⟩) (by (try simp only [go_sem,seval]) <;> (try simp (disch := omega) [wrap64]) <;> (try omega)) (by first | with_reducible exact Heap.Le.refl _ | exact heap_set_le (by assumption) | exact Heap.Le.refl _ | exact heap_le_set (by assumption) | exact (by simp only [Go.Av.Heap.Le, Go.Av.Heap.set, Go.Av.Heap.del] at * <;> grind)) ?_
 rintro Ec rfl k ⟨hk, hp⟩
 by_cases hlt : k < l.length
 ·have hkd : decide ((k : Int) < l.length) = true := decide_eq_true (by omega)
  rw [idxI_drop p l k hlt] at hp
  repeat' (first | with_reducible refine And.intro ?_ ?_ | simp only [go_sem,seval, hkd, Rw_at _ _ hlt] | simp (disch := omega) only [wrap64, Rw_at] | intro hx_ | with_reducible refine hf l[k] (List.getElem_mem hlt) _ ?_ | omega)
  ·have h1 : p l[k] = true := by assumption
   rw [if_pos h1] at hp
   simp only [Int.zero_add, show ¬ ((0 : Int) < 0) by omega, if_false] at hp
   rw [hp] at h
   exact Fin.same h
  ·have h1 : ¬ p l[k] = true := by simp_all
   rw [if_neg h1] at hp
   exact nx_mk (k + 1) ⟨by omega, by rw [hp]; have := idxI_ge p (l.drop (k + 1)); split <;> split <;> omega⟩ (by omega) (by (try simp only [go_sem,seval]) <;> (try simp (disch := omega) [wrap64]) <;> (try omega)) (Heap.Le.refl _)
 ·have hkd : decide ((k : Int) < l.length) = false := decide_eq_false (by omega)
  rw [List.drop_eq_nil_of_le (by omega), idxI] at hp
  repeat' (first | with_reducible refine And.intro ?_ ?_ | simp only [go_sem,seval, hkd] | simp (disch := omega) only [wrap64, Rw_at] | intro hx_ | omega)
  simp only [show ((-1 : Int) < 0) by omega, if_true] at hp
  rw [hp] at h
  exact Fin.same h
theorem hasW_a {Q} (p : Row → Bool) (l : List Row) (hl : l.length ≤ 1000000000000000) (g : Nat) (first cap : List D) (H : Heap)
  (hf : ∀ a ∈ l, ∀ (Q : D → Heap → Prop), Q (.bool (p a)) H → ACalls Tryz.prog g (first ++ [.agg (rowC a)] ++ cap) H Q) (h : Q (.bool (l.any p)) H) :
  ACalls Tryz.prog 217 [.sl 4 (Rw rowC l), .fn (.func g) first cap] H Q := by
 refine acalls_of_wp [] Tryz.mixed Tryz.func217 rfl (by kernel_rfl) (of_decide_eq_true (by kernel_rfl)) (by kernel_rfl) ?_
 simp only [go_sem,seval, Tryz.results217]
 rw [← idxI_any] at h
 repeat' (first | with_reducible refine And.intro ?_ ?_ | simp only [go_sem,seval] | intro hx_ | with_reducible refine idxW_a p l hl g first cap _ hf ?_ | omega)
 exact Fin.same h
end Go.Proofs.YtacekpdodelnbaaGreatDoor
end
section
set_option maxRecDepth 20000
namespace Go.Lin
open Go Go.Av
def optI : Option Nat → Int
 | none => -1
 | some j => j
def betB (c : List Int) (x : Int) : Option Nat → Bool
 | none => true
 | some j => decide (x.natAbs < (getI c j).natAbs)
def leastT (c : List Int) : Nat → Option Nat
 | 0 => none
 | i + 1 => if getI c i ≠ 0 ∧ betB c (getI c i) (leastT c i) = true then some i else leastT c i
theorem leastT_lt (c : List Int) : ∀ (i j : Nat), leastT c i = some j → j < i
 | 0, j, h => by simp [leastT] at h
 | i + 1, j, h => by
  rw [leastT] at h
  split at h
  ·simp at h; omega
  ·have := leastT_lt c i j h; omega
theorem leastA_cons (c : List Int) (x : Int) (l : List Int) (i : Nat) (b : Option Nat) : leastA c (x :: l) i b = leastA c l (i + 1) (if x ≠ 0 ∧ betB c x b = true then some i else b) := by
 cases b <;> rfl
theorem leastA_T (c : List Int) : ∀ (l : List Int) (i : Nat), i ≤ c.length → l = c.drop i → leastA c l i (leastT c i) = leastT c c.length
 | [], i, hi, h => by
  have : c.length ≤ i := by
   have := congrArg List.length h
   simp at this; omega
  rw [show i = c.length by omega]; rfl
 | x :: l, i, hi, h => by
  have hlt : i < c.length := by
   have := congrArg List.length h
   simp at this; omega
  rw [List.drop_eq_getElem_cons hlt] at h
  simp only [List.cons.injEq] at h
  have e : getI c i = x := by simp [getI, hlt, h.1]
  rw [leastA_cons, ← leastA_T c l (i + 1) (by omega) h.2, leastT, e]
theorem leastR_T (r : Row) : leastR r = leastT r.c r.c.length := leastA_T r.c r.c 0 (Nat.zero_le _) rfl
theorem getI_at (c : List Int) (i : Nat) (h : i < c.length) : getI c i = c[i] := by simp [getI, h]
theorem filt_succ {p : Row → Bool} (l : List Row) (i : Nat) (h : i < l.length) : (l.take (i + 1)).filter p = (l.take i).filter p ++ if p l[i] = true then [l[i]] else [] := by
 rw [List.take_succ_eq_append_getElem h, List.filter_append]
 congr 1
 by_cases c : p l[i] = true
 ·rw [if_pos c]; simp [c]
 ·rw [if_neg c]; simp [c]
theorem filt_len {p : Row → Bool} (l : List Row) : (l.filter p).length ≤ l.length := List.length_filter_le _ _
end Go.Lin
namespace Go.Proofs.YtacekpdodelnbaaGreatDoor
open Go Go.Av Go.Lin
attribute [local irreducible] ACalls at8
theorem least_a {Q} (r : Row) (hlen : r.c.length ≤ 1000000) (hr : RowS r 18446744073709551616) (H : Heap) (h : Q (.int .i64 (optI (leastR r))) H) : ACalls Tryz.prog 176 [.agg (rowC r)] H Q := by
 refine acalls_of_wp [(5, .par)] Tryz.mixed Tryz.func176 rfl (by kernel_rfl) (of_decide_eq_true (by kernel_rfl)) (by kernel_rfl) ?_
 simp only [go_sem,seval, Tryz.results176]
 intro b1 hb1
 have e1 : (H.set b1 (.box (rowC r))) b1 = some (.box (rowC r)) := heap_same _ _
 have hle : H.Le (H.set b1 (.box (rowC r))) := heap_le_set hb1
 generalize H.set b1 (.box (rowC r)) = Bs at e1 hle ⊢
 have t0 : optI (leastT r.c 0) = -1 := rfl
 repeat' (first | with_reducible refine And.intro ?_ ?_ | simp only [go_sem,seval, e1] | simp (disch := omega) only [wrap64, Rw_at, getI_at] | simp (disch := first | omega | grind) only [heap_ne_] | intro hx_ | omega)
 rw [← t0]
 refine loop_c [1, 7, 8] (fun (i : Nat) => [(9, .int .i64 i), (3, .int .i64 (optI (leastT r.c i)))]) (fun (i : Nat) => Bs) (fun (i : Nat) => i ≤ r.c.length) (fun (i : Nat) => r.c.length - i) (0) (Nat.zero_le _) (by (try simp only [go_sem,seval]) <;> (try simp (disch := omega) [wrap64]) <;> (try omega)) (by first | with_reducible exact Heap.Le.refl _ | exact heap_set_le (by assumption) | exact Heap.Le.refl _ | exact heap_le_set (by assumption) | exact (by simp only [Go.Av.Heap.Le, Go.Av.Heap.set, Go.Av.Heap.del] at * <;> grind)) ?_
 rintro Ec rfl i hi
 by_cases hlt : i < r.c.length
 ·have hkd : decide ((i : Int) < r.c.length) = true := decide_eq_true (by omega)
  have hri : (i : Int) < r.c.length := by omega
  have a1 := hr.2 _ (List.getElem_mem hlt)
  have sa : Sz r.c[i] := sz_two (by omega)
  have sa2 : Sz ((r.c[i].natAbs : Nat) : Int) := sz_two (by omega)
  have ts : leastT r.c (i + 1) = if r.c[i] ≠ 0 ∧ betB r.c r.c[i] (leastT r.c i) = true then some i else leastT r.c i := by rw [leastT, getI_at _ _ hlt]
  repeat' (first | with_reducible refine And.intro ?_ ?_ | simp only [go_sem,seval, hkd, e1, hri, Rw_at _ _ hlt, Rw_get _ _ hlt] | simp (disch := omega) only [wrap64, Rw_at, getI_at] | simp (disch := first | omega | grind) only [heap_ne_] | intro hx_ | omega)
  rename_i b5
  have h5 := hx_
  clear hx_
  have n15 : b1 ≠ b5 := fun e => by rw [e, h5] at e1; cases e1
  have q1 : b1 ∈ [b1, b5] := by simp
  have q5 : b5 ∈ [b1, b5] := by simp
  by_cases hx : r.c[i] = 0
  ·have ts2 : leastT r.c (i + 1) = leastT r.c i := by rw [ts, if_neg (fun g => g.1 hx)]
   have hs0 : r.c[i].sign = 0 := by rw [hx]; rfl
   refine par_mk (fun i' => if i' = 1 then .int .i64 0 else .undef) [b1, b5] ?_
   repeat' (first | with_reducible refine And.intro ?_ ?_ | simp only [go_sem,seval, e1, q1, q5, decide_true, Bool.not_true] | simp (disch := omega) only [wrap64, Rw_at, getI_at] | simp (disch := first | omega | grind) only [heap_ne_] | intro hx_ | with_reducible refine pc0 (fun H' Q hro hq => sign_a r.c[i] H' (by rw [hs0]; exact hq)) ?_ | omega)
   refine nx_mk (i + 1) (by omega) (by omega) (by (try simp only [go_sem,seval, ts2]) <;> (try simp (disch := omega) [wrap64]) <;> (try omega)) (heap_le_set h5)
  ·have hs0 : ¬ (r.c[i].sign = 0) := fun g => hx (Int.sign_eq_zero_iff_zero.1 g)
   cases hb : leastT r.c i with
   | none =>
    have ts2 : leastT r.c (i + 1) = some i := by rw [ts, hb, if_pos ⟨hx, rfl⟩]
    have ts3 : optI (leastT r.c (i + 1)) = i := by rw [ts2]; rfl
    have oi : optI none = -1 := rfl
    refine par_mk (fun i' => if i' = 1 then .int .i64 r.c[i].sign else .undef) [b1, b5] ?_
    repeat' (first | with_reducible refine And.intro ?_ ?_ | simp only [go_sem,seval, e1, q1, q5, hs0, hb, oi, decide_true, decide_false, Bool.not_true, Bool.not_false] | simp (disch := omega) only [wrap64, Rw_at, getI_at] | simp (disch := first | omega | grind) only [heap_ne_] | intro hx_ | with_reducible refine pc0 (fun H' Q hro hq => sign_a r.c[i] H' hq) ?_ | omega)
    refine nx_mk (i + 1) (by omega) (by omega) (by (try simp only [go_sem,seval, ts3]) <;> (try simp (disch := omega) [wrap64]) <;> (try omega)) (heap_le_set h5)
   | some j =>
    have hj := leastT_lt _ _ _ hb
    have hjl : j < r.c.length := by omega
    have hji : (j : Int) < r.c.length := by omega
    have a2 := hr.2 _ (List.getElem_mem hjl)
    have sb : Sz ((r.c[j].natAbs : Nat) : Int) := sz_two (by omega)
    have ts2 : leastT r.c (i + 1) = if r.c[i].natAbs < r.c[j].natAbs then some i else some j := by
     rw [ts, hb, betB, getI_at _ _ hjl]
     by_cases g : r.c[i].natAbs < r.c[j].natAbs
     ·rw [if_pos ⟨hx, decide_eq_true g⟩, if_pos g]
     ·rw [if_neg (fun k => g (of_decide_eq_true k.2)), if_neg g]
    have oi : optI (some j) = j := rfl
    have oj : ¬ ((j : Int) < 0) := by omega
    refine par_mk (fun i' => if i' = 1 then .int .i64 r.c[i].sign else if i' = 8 then .agg (bigC (r.c[i].natAbs : Nat)) else if i' = 14 then .agg (bigC (r.c[j].natAbs : Nat)) else if i' = 15 then .bool (decide (((r.c[i].natAbs : Nat) : Int) < ((r.c[j].natAbs : Nat) : Int))) else .undef) [b1, b5] ?_
    repeat' (first | with_reducible refine And.intro ?_ ?_ | simp only [go_sem,seval, e1, q1, q5, hs0, hb, oi, oj, hji, Rw_at _ _ hjl, Rw_get _ _ hjl, decide_true, decide_false, Bool.not_true, Bool.not_false] | simp (disch := omega) only [wrap64, Rw_at, getI_at] | simp (disch := first | omega | grind) only [heap_ne_] | intro hx_ | with_reducible refine pc0 (fun H' Q hro hq => sign_a r.c[i] H' hq) ?_ | with_reducible refine pc0 (fun H' Q hro hq => abs_a r.c[i] H' hq) ?_ | with_reducible refine pc0 (fun H' Q hro hq => abs_a r.c[j] H' hq) ?_ | with_reducible refine pc0 (fun H' Q hro hq => bless_a _ _ sa2 sb H' hq) ?_ | omega)
    ·have g : r.c[i].natAbs < r.c[j].natAbs := by omega
     rw [if_pos g] at ts2
     have ts3 : optI (leastT r.c (i + 1)) = i := by rw [ts2]; rfl
     refine nx_mk (i + 1) (by omega) (by omega) (by (try simp only [go_sem,seval, ts3]) <;> (try simp (disch := omega) [wrap64]) <;> (try omega)) (heap_le_set h5)
    ·have g : ¬ r.c[i].natAbs < r.c[j].natAbs := by omega
     rw [if_neg g] at ts2
     have ts3 : optI (leastT r.c (i + 1)) = j := by rw [ts2]; rfl
     refine nx_mk (i + 1) (by omega) (by omega) (by (try simp only [go_sem,seval, ts3]) <;> (try simp (disch := omega) [wrap64]) <;> (try omega)) (heap_le_set h5)
 ·have hkd : decide ((i : Int) < r.c.length) = false := decide_eq_false (by omega)
  have hie : i = r.c.length := by omega
  subst hie
  rw [leastR_T] at h
  repeat' (first | with_reducible refine And.intro ?_ ?_ | simp only [go_sem,seval, hkd] | simp (disch := omega) only [wrap64, Rw_at, getI_at] | simp (disch := first | omega | grind) only [heap_ne_] | intro hx_ | omega)
  exact Fin.less hle h
theorem sides_a {Q} (l : List Row) (k : Nat) (hlen : l.length ≤ 1000000) (hk : ∀ r ∈ l, k < r.c.length) (H : Heap)
  (h : ∀ ob, (ob = none → restR l k = []) → (∀ b, ob = some b → H b = none) → Q (.tuple [.sl 4 (Rw rowC (lowR l k)), .sl 4 (Rw rowC (highR l k)), outG 4 (restR l k).length ob]) (putB H 4 (Rw rowC (restR l k)) ob)) :
  ACalls Tryz.prog 184 [.sl 4 (Rw rowC l), .int .i64 (k : Int)] H Q := by
 refine acalls_of_wp [] Tryz.mixed Tryz.func184 rfl (by kernel_rfl) (of_decide_eq_true (by kernel_rfl)) (by kernel_rfl) ?_
 simp only [go_sem,seval, Tryz.results184]
 have z0 : D.nilsl = outG 4 (lowR (l.take 0) k).length none := rfl
 have z1 : D.nilsl = outG 4 (highR (l.take 0) k).length none := rfl
 have z2 : D.nilsl = outG 4 (restR (l.take 0) k).length none := rfl
 repeat' (first | with_reducible refine And.intro ?_ ?_ | simp only [go_sem,seval] | simp (disch := omega) only [wrap64, Rw_at, getI_at] | (intro hx_; try simp only [set_none] at hx_) | omega)
 refine loop_c [1, 9, 10] (fun (p : Nat × Option Nat × Option Nat × Option Nat × Heap) => [(11, .int .i64 p.1), (4, outG 4 (lowR (l.take p.1) k).length p.2.1), (5, outG 4 (highR (l.take p.1) k).length p.2.2.1), (6, outG 4 (restR (l.take p.1) k).length p.2.2.2.1)]) (fun (p : Nat × Option Nat × Option Nat × Option Nat × Heap) => p.2.2.2.2) (fun (p : Nat × Option Nat × Option Nat × Option Nat × Heap) => p.1 ≤ l.length ∧ O3 H p.2.2.2.2 4 (Rw rowC (lowR (l.take p.1) k)) (Rw rowC (highR (l.take p.1) k)) (Rw rowC (restR (l.take p.1) k)) p.2.1 p.2.2.1 p.2.2.2.1) (fun (p : Nat × Option Nat × Option Nat × Option Nat × Heap) => l.length - p.1) ((0, none, none, none, H)) (⟨Nat.zero_le _, O3.nil H 4⟩) (by (try simp only [go_sem,seval]) <;> (try simp (disch := omega) [wrap64]) <;> (try omega)) (by first | with_reducible exact Heap.Le.refl _ | exact heap_set_le (by assumption) | exact Heap.Le.refl _ | exact heap_le_set (by assumption) | exact (by simp only [Go.Av.Heap.Le, Go.Av.Heap.set, Go.Av.Heap.del] at * <;> grind)) ?_
 rintro Ec rfl ⟨i, o1, o2, o3, Hp⟩ ⟨hi, h3⟩
 simp only at hi h3
 by_cases hlt : i < l.length
 ·have hkd : decide ((i : Int) < l.length) = true := decide_eq_true (by omega)
  have hti : (i : Int) < l.length := by omega
  have hkl := hk _ (List.getElem_mem hlt)
  have hki : (k : Int) < l[i].c.length := by omega
  have gk := getI_at l[i].c k hkl
  have f1 := filt_succ (p := fun r => decide (0 < getI r.c k)) l i hlt
  have f2 := filt_succ (p := fun r => decide (getI r.c k < 0)) l i hlt
  have f3 := filt_succ (p := fun r => decide (getI r.c k = 0)) l i hlt
  simp only [gk, decide_eq_true_eq] at f1 f2 f3
  change lowR (l.take (i + 1)) k = lowR (l.take i) k ++ _ at f1
  change highR (l.take (i + 1)) k = highR (l.take i) k ++ _ at f2
  change restR (l.take (i + 1)) k = restR (l.take i) k ++ _ at f3
  have l1 : (lowR (l.take i) k).length ≤ 1000000 := Nat.le_trans (filt_len _) (by rw [List.length_take]; omega)
  have l2 : (highR (l.take i) k).length ≤ 1000000 := Nat.le_trans (filt_len _) (by rw [List.length_take]; omega)
  have l3 : (restR (l.take i) k).length ≤ 1000000 := Nat.le_trans (filt_len _) (by rw [List.length_take]; omega)
  rcases Int.lt_trichotomy l[i].c[k] 0 with c | c | c
  ·have s : l[i].c[k].sign = -1 := Int.sign_eq_neg_one_of_neg c
   rw [if_neg (by omega), List.append_nil] at f1
   rw [if_pos c] at f2
   rw [if_neg (by omega), List.append_nil] at f3
   repeat' (first | with_reducible refine And.intro ?_ ?_ | simp only [go_sem,seval, hkd, Rw_at _ _ hlt, Rw_get _ _ hlt, Rw_at _ _ hkl, Rw_get _ _ hkl, hki, s] | simp (disch := omega) only [wrap64, Rw_at, getI_at] | (intro hx_; try simp only [set_none] at hx_) | with_reducible refine sign_a _ _ ?_ | omega)
   rename_i b8 h8 bx
   have hbx := hx_
   clear hx_
   refine apS_z (P := Tryz.prog) (H0 := Hp.set b8 (.box (rowC l[i]))) (es := Rw rowC (highR (l.take i) k)) (by rw [set_none]; exact hbx) (by simp) (h3.a2.up (heap_le_set h8)) (by rw [Rw_len]) (by simp only [List.length_cons, List.length_nil]; omega) (by simp only [List.length_cons, List.length_nil]; omega) fun b' H' hA => ?_
   repeat' (first | with_reducible refine And.intro ?_ ?_ | simp only [go_sem,seval] | simp (disch := omega) only [wrap64, Rw_at, getI_at] | (intro hx_; try simp only [set_none] at hx_) | omega)
   have hA2 : Apd (Hp.set b8 (.box (rowC l[i]))) 4 o2 (Rw rowC (highR (l.take (i + 1)) k)) b' H' := by rw [f2, ← Rw_app]; exact hA
   refine nx_mk (i + 1, o1, some b', o3, H') ⟨by simp only []; omega, ?_⟩ (by simp only []; omega) (by (try simp only [go_sem,seval, f1, f2, f3, List.length_append, out_some]) <;> (try simp (disch := omega) [wrap64]) <;> (try omega)) (Heap.Le.refl _)
   simp only []
   have := h3.app2 (heap_le_set h8) hA2
   rw [f1, f3]
   exact this
  ·have s : l[i].c[k].sign = 0 := (by rw [c]; rfl)
   rw [if_neg (by omega), List.append_nil] at f1
   rw [if_neg (by omega), List.append_nil] at f2
   rw [if_pos c] at f3
   repeat' (first | with_reducible refine And.intro ?_ ?_ | simp only [go_sem,seval, hkd, Rw_at _ _ hlt, Rw_get _ _ hlt, Rw_at _ _ hkl, Rw_get _ _ hkl, hki, s] | simp (disch := omega) only [wrap64, Rw_at, getI_at] | (intro hx_; try simp only [set_none] at hx_) | with_reducible refine sign_a _ _ ?_ | omega)
   rename_i b8 h8 bx
   have hbx := hx_
   clear hx_
   refine apS_z (P := Tryz.prog) (H0 := Hp.set b8 (.box (rowC l[i]))) (es := Rw rowC (restR (l.take i) k)) (by rw [set_none]; exact hbx) (by simp) (h3.a3.up (heap_le_set h8)) (by rw [Rw_len]) (by simp only [List.length_cons, List.length_nil]; omega) (by simp only [List.length_cons, List.length_nil]; omega) fun b' H' hA => ?_
   repeat' (first | with_reducible refine And.intro ?_ ?_ | simp only [go_sem,seval] | simp (disch := omega) only [wrap64, Rw_at, getI_at] | (intro hx_; try simp only [set_none] at hx_) | omega)
   have hA2 : Apd (Hp.set b8 (.box (rowC l[i]))) 4 o3 (Rw rowC (restR (l.take (i + 1)) k)) b' H' := by rw [f3, ← Rw_app]; exact hA
   refine nx_mk (i + 1, o1, o2, some b', H') ⟨by simp only []; omega, ?_⟩ (by simp only []; omega) (by (try simp only [go_sem,seval, f1, f2, f3, List.length_append, out_some]) <;> (try simp (disch := omega) [wrap64]) <;> (try omega)) (Heap.Le.refl _)
   simp only []
   have := h3.app3 (heap_le_set h8) hA2
   rw [f1, f2]
   exact this
  ·have s : l[i].c[k].sign = 1 := Int.sign_eq_one_of_pos c
   rw [if_pos c] at f1
   rw [if_neg (by omega), List.append_nil] at f2
   rw [if_neg (by omega), List.append_nil] at f3
   repeat' (first | with_reducible refine And.intro ?_ ?_ | simp only [go_sem,seval, hkd, Rw_at _ _ hlt, Rw_get _ _ hlt, Rw_at _ _ hkl, Rw_get _ _ hkl, hki, s] | simp (disch := omega) only [wrap64, Rw_at, getI_at] | (intro hx_; try simp only [set_none] at hx_) | with_reducible refine sign_a _ _ ?_ | omega)
   rename_i b8 h8 bx
   have hbx := hx_
   clear hx_
   refine apS_z (P := Tryz.prog) (H0 := Hp.set b8 (.box (rowC l[i]))) (es := Rw rowC (lowR (l.take i) k)) (by rw [set_none]; exact hbx) (by simp) (h3.a1.up (heap_le_set h8)) (by rw [Rw_len]) (by simp only [List.length_cons, List.length_nil]; omega) (by simp only [List.length_cons, List.length_nil]; omega) fun b' H' hA => ?_
   repeat' (first | with_reducible refine And.intro ?_ ?_ | simp only [go_sem,seval] | simp (disch := omega) only [wrap64, Rw_at, getI_at] | (intro hx_; try simp only [set_none] at hx_) | omega)
   have hA2 : Apd (Hp.set b8 (.box (rowC l[i]))) 4 o1 (Rw rowC (lowR (l.take (i + 1)) k)) b' H' := by rw [f1, ← Rw_app]; exact hA
   refine nx_mk (i + 1, some b', o2, o3, H') ⟨by simp only []; omega, ?_⟩ (by simp only []; omega) (by (try simp only [go_sem,seval, f1, f2, f3, List.length_append, out_some]) <;> (try simp (disch := omega) [wrap64]) <;> (try omega)) (Heap.Le.refl _)
   simp only []
   have := h3.app1 (heap_le_set h8) hA2
   rw [f2, f3]
   exact this
 ·have hkd : decide ((i : Int) < l.length) = false := decide_eq_false (by omega)
  rw [List.take_of_length_le (by omega)] at h3
  have e1 : l.take i = l := List.take_of_length_le (by omega)
  repeat' (first | with_reducible refine And.intro ?_ ?_ | simp only [go_sem,seval, hkd, e1] | simp (disch := omega) only [wrap64, Rw_at, getI_at] | (intro hx_; try simp only [set_none] at hx_) | omega)
  have h4 := h3.last
  refine Fin.out1 (by rw [Rw_len]) h3.a1 (Fin.out2t (by rw [Rw_len]) h4.2 (Fin.less h4.1 (h o3 (fun e => ?_) h3.n3)))
  have := h3.a3
  rw [e] at this
  have this : Rw rowC (restR l k) = [] := this
  exact List.eq_nil_of_length_eq_zero (by rw [← Rw_len (f := rowC), this]; rfl)
end Go.Proofs.YtacekpdodelnbaaGreatDoor
end
section
set_option maxRecDepth 20000
namespace Go.Lin
open Go Go.Av
theorem O3.one {H Hp : Heap} {sz : Nat} {e1 : List (List D)} {o1 : Option Nat} (h : O3 H Hp sz e1 [] [] o1 none none) : H.Le (delB Hp o1) := by
 have := h.last.1
 exact fun k o hk => this k o hk
theorem map_succ {α β : Type} (f : α → β) (l : List α) (i : Nat) (h : i < l.length) : (l.take (i + 1)).map f = (l.take i).map f ++ [f l[i]] := by
 rw [List.take_succ_eq_append_getElem h, List.map_append]; rfl
theorem map_len {α β : Type} (f : α → β) (l : List α) (i : Nat) (h : i ≤ l.length) : ((l.take i).map f).length = i := by rw [List.length_map, List.length_take]; omega
end Go.Lin
namespace Go.Proofs.YtacekpdodelnbaaGreatDoor
open Go Go.Av Go.Lin
attribute [local irreducible] ACalls at8
theorem replace_a {Q} (l : List Row) (e : Row) (k n : Nat) (hlen : l.length ≤ 1000000) (hn : n ≤ 1000000) (hw : ∀ r ∈ l, r.c.length = n) (he : e.c.length = n) (hk : k < n) (hr : ∀ r ∈ l, RowS r 18446744073709551616) (hre : RowS e 18446744073709551616) (hrc : ∀ r ∈ l, ∀ x ∈ r.c, x.natAbs ≤ 4294967296) (hec : ∀ x ∈ e.c, x.natAbs ≤ 4294967296) (H : Heap)
  (h : Q (.sl 4 (Rw rowC (l.map (replR e k)))) H) : ACalls Tryz.prog 177 [.sl 4 (Rw rowC l), .agg (rowC e), .int .i64 (k : Int)] H Q := by
 refine acalls_of_wp [(7, .par)] Tryz.mixed Tryz.func177 rfl (by kernel_rfl) (of_decide_eq_true (by kernel_rfl)) (by kernel_rfl) ?_
 simp only [go_sem,seval, Tryz.results177]
 intro b4 hb4
 have e4 : (H.set b4 (.box (rowC e))) b4 = some (.box (rowC e)) := heap_same _ _
 have hle0 : H.Le (H.set b4 (.box (rowC e))) := heap_le_set hb4
 generalize H.set b4 (.box (rowC e)) = Bs at e4 hle0 ⊢
 have z0 : D.nilsl = outG 4 ((l.take 0).map (replR e k)).length none := rfl
 repeat' (first | with_reducible refine And.intro ?_ ?_ | simp only [go_sem,seval] | simp (disch := omega) only [wrap64, Rw_at, getI_at] | simp (disch := first | omega | grind) only [heap_ne_] | (intro hx_; try simp only [set_none] at hx_) | omega)
 refine loop_c [2, 4, 11, 12] (fun (p : Nat × Option Nat × Heap) => [(13, .int .i64 p.1), (7, outG 4 p.1 p.2.1)]) (fun (p : Nat × Option Nat × Heap) => p.2.2) (fun (p : Nat × Option Nat × Heap) => p.1 ≤ l.length ∧ O3 Bs p.2.2 4 (Rw rowC ((l.take p.1).map (replR e k))) [] [] p.2.1 none none) (fun (p : Nat × Option Nat × Heap) => l.length - p.1) ((0, none, Bs)) (⟨Nat.zero_le _, O3.nil Bs 4⟩) (by (try simp only [go_sem,seval]) <;> (try simp (disch := omega) [wrap64]) <;> (try omega)) (by first | with_reducible exact Heap.Le.refl _ | exact heap_set_le (by assumption) | exact Heap.Le.refl _ | exact heap_le_set (by assumption) | exact (by simp only [Go.Av.Heap.Le, Go.Av.Heap.set, Go.Av.Heap.del] at * <;> grind)) ?_
 rintro Ec rfl ⟨i, o1, Hp⟩ ⟨hi, h3⟩
 simp only at hi h3
 by_cases hlt : i < l.length
 ·have hkd : decide ((i : Int) < l.length) = true := decide_eq_true (by omega)
  have hti : (i : Int) < l.length := by omega
  have hil := hw _ (List.getElem_mem hlt)
  have hkl : k < l[i].c.length := by omega
  have hki : (k : Int) < l[i].c.length := by omega
  have hke : k < e.c.length := by omega
  have hkei : (k : Int) < e.c.length := by omega
  have gk := getI_at l[i].c k hkl
  have ge := getI_at e.c k hke
  have fs := map_succ (replR e k) l i hlt
  have fl := map_len (replR e k) l i hi
  have q4 : Hp b4 = some (.box (rowC e)) := h3.le _ _ e4
  by_cases c0 : l[i].c[k] = 0
  ·have s : l[i].c[k].sign = 0 := by rw [c0]; rfl
   have er : replR e k l[i] = l[i] := by unfold replR; rw [gk, if_pos c0]
   repeat' (first | with_reducible refine And.intro ?_ ?_ | simp only [go_sem,seval, hkd, Rw_at _ _ hlt, Rw_get _ _ hlt, Rw_at _ _ hkl, Rw_get _ _ hkl, hki, s, decide_true, Bool.not_true] | simp (disch := omega) only [wrap64, Rw_at, getI_at] | simp (disch := first | omega | grind) only [heap_ne_] | (intro hx_; try simp only [set_none] at hx_) | with_reducible refine sign_a _ _ ?_ | omega)
   rename_i b9 h9 b10 h10 bx
   have hbx := hx_
   clear hx_
   have hleX : Hp.Le ((Hp.set b9 (.box (rowC l[i]))).set b10 (.box (bigC l[i].c[k]))) := (by simp only [Go.Av.Heap.Le, Go.Av.Heap.set, Go.Av.Heap.del] at * <;> grind)
   obtain ⟨R, hR⟩ : ∃ R, R = (Hp.set b9 (.box (rowC l[i]))).set b10 (.box (bigC l[i].c[k])) := ⟨_, rfl⟩
   have hle9 : Hp.Le R := by rw [hR]; exact hleX
   rw [← hR]
   have hbx2 : R bx = none := by rw [hR]; simp only [set_none]; exact hbx
   refine apS_z (P := Tryz.prog) (H0 := R) (es := Rw rowC ((l.take i).map (replR e k))) hbx2 (by simp) (h3.a1.up hle9) (by rw [Rw_len, fl]) (by simp only [List.length_cons, List.length_nil]; omega) (by simp only [List.length_cons, List.length_nil]; omega) fun b' H' hA => ?_
   repeat' (first | with_reducible refine And.intro ?_ ?_ | simp only [go_sem,seval] | simp (disch := omega) only [wrap64, Rw_at, getI_at] | simp (disch := first | omega | grind) only [heap_ne_] | (intro hx_; try simp only [set_none] at hx_) | omega)
   have fs2 : Rw rowC ((l.take (i + 1)).map (replR e k)) = Rw rowC ((l.take i).map (replR e k)) ++ [rowC (l[i])] := by rw [fs, er, ← Rw_app]; rfl
   have hA2 : Apd R 4 o1 (Rw rowC ((l.take (i + 1)).map (replR e k))) b' H' := by rw [fs2]; exact hA
   refine nx_mk (i + 1, some b', H') ⟨by simp only []; omega, h3.app1 hle9 hA2⟩ (by simp only []; omega) (by (try simp only [go_sem,seval, out_some]) <;> (try simp (disch := omega) [wrap64]) <;> (try omega)) (Heap.Le.refl _)
  ·have s : ¬ (l[i].c[k].sign = 0) := fun g => c0 (Int.sign_eq_zero_iff_zero.1 g)
   repeat' (first | with_reducible refine And.intro ?_ ?_ | simp only [go_sem,seval, hkd, Rw_at _ _ hlt, Rw_get _ _ hlt, Rw_at _ _ hkl, Rw_get _ _ hkl, hki, s, decide_false, Bool.not_false] | simp (disch := omega) only [wrap64, Rw_at, getI_at] | simp (disch := first | omega | grind) only [heap_ne_] | (intro hx_; try simp only [set_none] at hx_) | with_reducible refine sign_a _ _ ?_ | omega)
   rename_i b9 h9 b10
   have h10 := hx_
   clear hx_
   obtain ⟨n10, h10⟩ := h10
   have e9 : ((Hp.set b9 (.box (rowC l[i]))).set b10 (.box (bigC l[i].c[k]))) b9 = some (.box (rowC l[i])) := by rw [heap_ne _ (Ne.symm n10), heap_same]
   have e10 : ((Hp.set b9 (.box (rowC l[i]))).set b10 (.box (bigC l[i].c[k]))) b10 = some (.box (bigC l[i].c[k])) := heap_same _ _
   have hle9 : Hp.Le (((Hp.set b9 (.box (rowC l[i]))).set b10 (.box (bigC l[i].c[k]))).del b9) := (by simp only [Go.Av.Heap.Le, Go.Av.Heap.set, Go.Av.Heap.del] at * <;> grind)
   have f4 := (hle9.trans (Heap.del_le _ _)) _ _ q4
   have n49 : b4 ≠ b9 := fun g => by rw [g, h9] at q4; cases q4
   generalize (Hp.set b9 (.box (rowC l[i]))).set b10 (.box (bigC l[i].c[k])) = Hq at e9 e10 hle9 f4 ⊢
   have m4 : b4 ∈ [b4, b9, b10] := by simp
   have m9 : b9 ∈ [b4, b9, b10] := by simp
   have m10 : b10 ∈ [b4, b9, b10] := by simp
   have a1 := hrc _ (List.getElem_mem hlt) _ (List.getElem_mem hkl)
   have a2 := hec _ (List.getElem_mem hke)
   have a3 := mul_abs a1 a2
   obtain ⟨t, ht⟩ : ∃ t : Int, t = 1 := ⟨1, rfl⟩
   obtain ⟨x, hx⟩ : ∃ x : Int, x = l[i].c[k] := ⟨_, rfl⟩
   obtain ⟨y, hy⟩ : ∃ y : Int, y = e.c[k] := ⟨_, rfl⟩
   have er : replR e k l[i] = plusR l[i] t e (-(x * y)) := by unfold replR; rw [gk, if_neg c0, ge, ht, hx, hy]
   rw [← hx] at a1 a3
   rw [← hy] at a2 a3
   have s1 : Sz x := sz_two (by omega)
   have s2 : Sz y := sz_two (by omega)
   refine par_mk (fun i' => if i' = 1 then .agg (bigC t) else if i' = 9 then .agg (bigC (x * y)) else if i' = 10 then .agg (bigC (-(x * y))) else if i' = 11 then .agg (rowC (plusR l[i] t e (-(x * y)))) else .undef) [b4, b9, b10] ?_
   repeat' (first | with_reducible refine And.intro ?_ ?_ | simp only [go_sem,seval, e9, e10, f4, m4, m9, m10, Rw_at _ _ hke, Rw_get _ _ hke, hkei, ← hx, ← hy] | simp (disch := omega) only [wrap64, Rw_at, getI_at] | simp (disch := first | omega | grind) only [heap_ne_] | (intro hx_; try simp only [set_none] at hx_) | with_reducible refine pc0 (fun H' Q hro hq => whole_a 1 (by omega) (by omega) H' (by rw [← ht]; exact hq)) ?_ | with_reducible refine pc0 (fun H' Q hro hq => btimes_a x y s1 s2 H' hq) ?_ | with_reducible refine pc0 (fun H' Q hro hq => bneg_a (x * y) H' hq) ?_ | with_reducible refine pc0 (fun H' Q hro hq => plus_a l[i] e t (-(x * y)) (by omega) (by omega) (hr _ (List.getElem_mem hlt)) hre (by omega) (by omega) H' hq) ?_ | omega)
   rename_i bx
   have hbx := hx_
   clear hx_
   have hleX : Hp.Le (Hq.set b9 (.box (rowC (plusR l[i] t e (-(x * y)))))) := (by simp only [Go.Av.Heap.Le, Go.Av.Heap.set, Go.Av.Heap.del] at * <;> grind)
   obtain ⟨R, hR⟩ : ∃ R, R = Hq.set b9 (.box (rowC (plusR l[i] t e (-(x * y))))) := ⟨_, rfl⟩
   have hle9 : Hp.Le R := by rw [hR]; exact hleX
   rw [← hR]
   have hbx2 : R bx = none := by rw [hR]; simp only [set_none]; exact hbx
   refine apS_z (P := Tryz.prog) (H0 := R) (es := Rw rowC ((l.take i).map (replR e k))) hbx2 (by simp) (h3.a1.up hle9) (by rw [Rw_len, fl]) (by simp only [List.length_cons, List.length_nil]; omega) (by simp only [List.length_cons, List.length_nil]; omega) fun b' H' hA => ?_
   repeat' (first | with_reducible refine And.intro ?_ ?_ | simp only [go_sem,seval] | simp (disch := omega) only [wrap64, Rw_at, getI_at] | simp (disch := first | omega | grind) only [heap_ne_] | (intro hx_; try simp only [set_none] at hx_) | omega)
   have fs2 : Rw rowC ((l.take (i + 1)).map (replR e k)) = Rw rowC ((l.take i).map (replR e k)) ++ [rowC (plusR l[i] t e (-(x * y)))] := by rw [fs, er, ← Rw_app]; rfl
   have hA2 : Apd R 4 o1 (Rw rowC ((l.take (i + 1)).map (replR e k))) b' H' := by rw [fs2]; exact hA
   refine nx_mk (i + 1, some b', H') ⟨by simp only []; omega, h3.app1 hle9 hA2⟩ (by simp only []; omega) (by (try simp only [go_sem,seval, out_some]) <;> (try simp (disch := omega) [wrap64]) <;> (try omega)) (Heap.Le.refl _)
 ·have hkd : decide ((i : Int) < l.length) = false := decide_eq_false (by omega)
  have e1 : l.take i = l := List.take_of_length_le (by omega)
  have e2 : i = l.length := by omega
  rw [e1] at h3
  repeat' (first | with_reducible refine And.intro ?_ ?_ | simp only [go_sem,seval, hkd] | simp (disch := omega) only [wrap64, Rw_at, getI_at] | simp (disch := first | omega | grind) only [heap_ne_] | (intro hx_; try simp only [set_none] at hx_) | omega)
  exact Fin.out (by rw [Rw_len, List.length_map]; exact e2) h3.a1 (Fin.less (hle0.trans (O3.one h3)) h)
end Go.Proofs.YtacekpdodelnbaaGreatDoor
end
section
set_option maxRecDepth 20000
namespace Go.Av
theorem OutAt.ne {H : Heap} {sz : Nat} {es : List (List D)} {o : Option Nat} (h : OutAt H sz es o) {b : Nat} (hb : H b = none) : o ≠ some b := fun e => by
 have := h.some_of e
 rw [hb] at this; cases this
theorem O3.less {H H' Hp : Heap} {sz : Nat} {e1 e2 e3 : List (List D)} {o1 o2 o3 : Option Nat} (h : O3 H Hp sz e1 e2 e3 o1 o2 o3) (hl : H'.Le H) : O3 H' Hp sz e1 e2 e3 o1 o2 o3 :=
 ⟨hl.trans h.le, h.a1, h.a2, h.a3, fun b e => hl.none (h.n1 b e), fun b e => hl.none (h.n2 b e), fun b e => hl.none (h.n3 b e), h.d12, h.d13, h.d23⟩
theorem O3.grow {H Hp : Heap} {sz : Nat} {e1 e2 e3 : List (List D)} {o1 o2 o3 : Option Nat} (h : O3 H Hp sz e1 e2 e3 o1 o2 o3) {b : Nat} (hb : Hp b = none) (x : Go.Av.Obj) : O3 (H.set b x) (Hp.set b x) sz e1 e2 e3 o1 o2 o3 := by
 have hle := heap_le_set (o := x) hb
 have nn : ∀ {c : Nat} {o : Option Nat} {e : List (List D)}, OutAt Hp sz e o → o = some c → H c = none → (H.set b x) c = none := fun {c o e} ha e hn => by
  rw [heap_ne _ (by rintro rfl; exact ha.ne hb e)]; exact hn
 refine ⟨fun k o hk => ?_, h.a1.up hle, h.a2.up hle, h.a3.up hle, fun c e => nn h.a1 e (h.n1 c e), fun c e => nn h.a2 e (h.n2 c e), fun c e => nn h.a3 e (h.n3 c e), h.d12, h.d13, h.d23⟩
 by_cases e : k = b
 ·subst e; rw [heap_same] at hk ⊢; exact hk
 ·rw [heap_ne _ e] at hk ⊢; exact h.le k o hk
theorem O3.put {H : Heap} {sz : Nat} {es : List (List D)} {ob : Option Nat} (h0 : ob = none → es = []) (h1 : ∀ b, ob = some b → H b = none) : O3 H (putB H sz es ob) sz es [] [] ob none none := by
 refine ⟨?_, outAt_put h0, rfl, rfl, h1, by simp, by simp, by simp, by simp, by simp⟩
 cases ob with
 | none => exact Heap.Le.refl H
 | some b => exact heap_le_set (h1 b rfl)
theorem O3.set1 {H Hp Hq : Heap} {sz c : Nat} {e1 e2 e3 e1' : List (List D)} {o2 o3 : Option Nat} (h : O3 H Hp sz e1 e2 e3 (some c) o2 o3) (hle : Hp.Le Hq) : O3 H (Hq.set c (.vec sz e1')) sz e1' e2 e3 (some c) o2 o3 := by
 have up : ∀ {e : List (List D)} {o : Option Nat}, OutAt Hp sz e o → o ≠ some c → OutAt (Hq.set c (.vec sz e1')) sz e o := fun {e o} ha hn => by
  cases o with
  | none => exact ha
  | some b => show (Hq.set c _) b = _; rw [heap_ne _ (by rintro rfl; exact hn rfl)]; exact hle _ _ ha
 refine ⟨fun k o hk => ?_, heap_same _ _, up h.a2 (h.d12 _ rfl), up h.a3 (h.d13 _ rfl), h.n1, h.n2, h.n3, h.d12, h.d13, h.d23⟩
 rw [heap_ne _ (by rintro rfl; have := h.n1 _ rfl; rw [this] at hk; cases hk)]
 exact hle _ _ (h.le _ _ hk)
end Go.Av
namespace Go.Lin
open Go Go.Av
def shIn (l : List Row) (k : Nat) (i j : Nat) : List Row := restR l k ++ ((lowR l k).take i).flatMap (fun a => (highR l k).map fun b => shadowP a b k false) ++ ((highR l k).take j).map fun b => shadowP ((lowR l k).getD i default) b k false
theorem shIn_zero (l : List Row) (k : Nat) : shIn l k 0 0 = restR l k := by simp [shIn]
theorem shIn_next (l : List Row) (k i : Nat) (h : i < (lowR l k).length) : shIn l k i (highR l k).length = shIn l k (i + 1) 0 := by
 unfold shIn
 rw [List.take_succ_eq_append_getElem h, List.take_length, List.flatMap_append]
 simp [h]
theorem shIn_all (l : List Row) (k : Nat) : shIn l k (lowR l k).length 0 = shadowR l k false := by simp [shIn, shadowR]
theorem shIn_succ (l : List Row) (k i j : Nat) (h : j < (highR l k).length) : shIn l k i (j + 1) = shIn l k i j ++ [shadowP ((lowR l k).getD i default) (highR l k)[j] k false] := by
 unfold shIn
 rw [List.take_succ_eq_append_getElem h, List.map_append, ← List.append_assoc]; rfl
theorem shIn_len (l : List Row) (k i j : Nat) (hl : l.length ≤ 10000) (hi : i ≤ 10000) : (shIn l k i j).length ≤ 100020000 := by
 unfold shIn
 rw [List.length_append, List.length_append, List.length_map, List.length_take]
 have h1 : (restR l k).length ≤ l.length := filt_len _
 have h2 : (highR l k).length ≤ l.length := filt_len _
 have key : ∀ (m : List Row), (m.flatMap fun a => (highR l k).map fun b => shadowP a b k false).length = m.length * (highR l k).length := by
  intro m
  induction m with
  | nil => simp
  | cons a m ih => rw [List.flatMap_cons, List.length_append, ih, List.length_map, List.length_cons, Nat.succ_mul]; omega
 rw [key]
 have h3 : ((lowR l k).take i).length ≤ 10000 := by rw [List.length_take]; omega
 have h4 : ((lowR l k).take i).length * (highR l k).length ≤ 10000 * 10000 := Nat.mul_le_mul h3 (by omega)
 omega
end Go.Lin
namespace Go.Proofs.YtacekpdodelnbaaGreatDoor
open Go Go.Av Go.Lin
attribute [local irreducible] ACalls at8
theorem shadow_a {Q} (l : List Row) (k n : Nat) (hlen : l.length ≤ 10000) (hn : n ≤ 1000000) (hw : ∀ r ∈ l, r.c.length = n) (hk : k < n) (hr : ∀ r ∈ l, RowS r 18446744073709551616) (H : Heap)
  (h : Q (.sl 4 (Rw rowC (shadowR l k false))) H) : ACalls Tryz.prog 140 [.sl 4 (Rw rowC l), .int .i64 (k : Int), .bool false] H Q := by
 refine acalls_of_wp [(9, .par), (12, .par)] Tryz.mixed Tryz.func140 rfl (by kernel_rfl) (of_decide_eq_true (by kernel_rfl)) (by kernel_rfl) ?_
 simp only [go_sem,seval, Tryz.results140]
 have wl : ∀ r ∈ lowR l k, r ∈ l := fun r hr => (List.mem_filter.1 hr).1
 have wh : ∀ r ∈ highR l k, r ∈ l := fun r hr => (List.mem_filter.1 hr).1
 have l1 : (lowR l k).length ≤ 10000 := Nat.le_trans (filt_len _) hlen
 have l2 : (highR l k).length ≤ 10000 := Nat.le_trans (filt_len _) hlen
 obtain ⟨t, ht⟩ : ∃ t : Int, t = 1 := ⟨1, rfl⟩
 repeat' (first | with_reducible refine And.intro ?_ ?_ | simp only [go_sem,seval] | simp (disch := omega) only [wrap64, Rw_at, getI_at] | simp (disch := first | omega | grind) only [heap_ne_] | (intro hx_; try simp only [set_none] at hx_) | omega)
 refine sides_a l k (by omega) (fun r hr => by rw [hw r hr]; exact hk) _ fun ob hob hob2 => ?_
 have o0 := O3.put (H := H) (sz := 4) (es := Rw rowC (restR l k)) (ob := ob) (fun e => by rw [hob e]; rfl) hob2
 have hlr : (restR l k).length = (shIn l k 0 0).length := by rw [shIn_zero]
 rw [← shIn_zero l k] at o0 ⊢
 generalize putB H 4 (Rw rowC (shIn l k 0 0)) ob = Hp at o0 ⊢
 repeat' (first | with_reducible refine And.intro ?_ ?_ | simp only [go_sem,seval] | simp (disch := omega) only [wrap64, Rw_at, getI_at] | simp (disch := first | omega | grind) only [heap_ne_] | (intro hx_; try simp only [set_none] at hx_) | with_reducible refine whole_a 1 (by omega) (by omega) _ ?_ | omega)
 rename_i b10
 have h10 := hx_
 clear hx_
 refine loop_c [1, 2, 8, 10, 26, 27] (fun (p : Nat × Option Nat × Heap) => [(28, .int .i64 p.1), (9, outG 4 (shIn l k p.1 0).length p.2.1)]) (fun (p : Nat × Option Nat × Heap) => p.2.2) (fun (p : Nat × Option Nat × Heap) => p.1 ≤ (lowR l k).length ∧ O3 H p.2.2 4 (Rw rowC (shIn l k p.1 0)) [] [] p.2.1 none none) (fun (p : Nat × Option Nat × Heap) => (lowR l k).length - p.1) ((0, ob, Hp)) (⟨Nat.zero_le _, o0⟩) (by (try simp only [go_sem,seval]) <;> (try simp (disch := omega) [wrap64]) <;> (try omega)) (by first | with_reducible exact Heap.Le.refl _ | exact heap_set_le (by assumption) | exact Heap.Le.refl _ | exact heap_le_set (by assumption) | exact (by simp only [Go.Av.Heap.Le, Go.Av.Heap.set, Go.Av.Heap.del] at * <;> grind)) ?_
 clear o0 h10 hlr hob hob2
 rintro Ec rfl ⟨i, o1, Hp⟩ ⟨hi, h3⟩
 simp only at hi h3
 by_cases hlt : i < (lowR l k).length
 ·have hkd : decide ((i : Int) < (lowR l k).length) = true := decide_eq_true (by omega)
  have hti : (i : Int) < (lowR l k).length := by omega
  have hai := wl _ (List.getElem_mem hlt)
  have hkl : k < (lowR l k)[i].c.length := by rw [hw _ hai]; exact hk
  have hki : (k : Int) < (lowR l k)[i].c.length := by omega
  have gi : (lowR l k).getD i default = (lowR l k)[i] := by simp [hlt]
  repeat' (first | with_reducible refine And.intro ?_ ?_ | simp only [go_sem,seval, hkd, Rw_at _ _ hlt, Rw_get _ _ hlt] | simp (disch := omega) only [wrap64, Rw_at, getI_at] | simp (disch := first | omega | grind) only [heap_ne_] | (intro hx_; try simp only [set_none] at hx_) | omega)
  rename_i b12
  have h12 := hx_
  clear hx_
  have g3 := h3.grow h12 (.box (rowC (lowR l k)[i]))
  have e12 : (Hp.set b12 (.box (rowC (lowR l k)[i]))) b12 = some (.box (rowC (lowR l k)[i])) := heap_same _ _
  have hH : H.Le (H.set b12 (.box (rowC (lowR l k)[i]))) := heap_le_set (h3.le.none h12)
  have e12 : (H.set b12 (.box (rowC (lowR l k)[i]))) b12 = some (.box (rowC (lowR l k)[i])) := heap_same _ _
  generalize Hp.set b12 (.box (rowC (lowR l k)[i])) = Hq at g3 ⊢
  generalize H.set b12 (.box (rowC (lowR l k)[i])) = H1 at g3 e12 hH
  refine loop_c [1, 2, 8, 10, 12, 26, 27, 28, 32, 33] (fun (p : Nat × Option Nat × Heap) => [(34, .int .i64 p.1), (9, outG 4 (shIn l k i p.1).length p.2.1)]) (fun (p : Nat × Option Nat × Heap) => p.2.2) (fun (p : Nat × Option Nat × Heap) => p.1 ≤ (highR l k).length ∧ O3 H1 p.2.2 4 (Rw rowC (shIn l k i p.1)) [] [] p.2.1 none none) (fun (p : Nat × Option Nat × Heap) => (highR l k).length - p.1) ((0, o1, Hq)) (⟨Nat.zero_le _, g3⟩) (by (try simp only [go_sem,seval]) <;> (try simp (disch := omega) [wrap64]) <;> (try omega)) (by first | with_reducible exact Heap.Le.refl _ | exact heap_set_le (by assumption) | exact Heap.Le.refl _ | exact heap_le_set (by assumption) | exact (by simp only [Go.Av.Heap.Le, Go.Av.Heap.set, Go.Av.Heap.del] at * <;> grind)) ?_
  clear g3 h3
  rintro Ec rfl ⟨j, o1, Hp⟩ ⟨hj, h3⟩
  simp only at hj h3
  have a12 := h3.le _ _ e12
  by_cases hjt : j < (highR l k).length
  ·have hkd : decide ((j : Int) < (highR l k).length) = true := decide_eq_true (by omega)
   have htj : (j : Int) < (highR l k).length := by omega
   have haj := wh _ (List.getElem_mem hjt)
   have hkl2 : k < (highR l k)[j].c.length := by rw [hw _ haj]; exact hk
   have hki2 : (k : Int) < (highR l k)[j].c.length := by omega
   repeat' (first | with_reducible refine And.intro ?_ ?_ | simp only [go_sem,seval, hkd, Rw_at _ _ hjt, Rw_get _ _ hjt] | simp (disch := omega) only [wrap64, Rw_at, getI_at] | simp (disch := first | omega | grind) only [heap_ne_] | (intro hx_; try simp only [set_none] at hx_) | omega)
   rename_i b14
   have h14 := hx_
   clear hx_
   have c14 : (Hp.set b14 (.box (rowC (highR l k)[j]))) b14 = some (.box (rowC (highR l k)[j])) := heap_same _ _
   have c12 : (Hp.set b14 (.box (rowC (highR l k)[j]))) b12 = some (.box (rowC (lowR l k)[i])) := (heap_le_set h14) _ _ a12
   have hle1 : Hp.Le (Hp.set b14 (.box (rowC (highR l k)[j]))) := heap_le_set h14
   generalize Hp.set b14 (.box (rowC (highR l k)[j])) = Hr at c14 c12 hle1 ⊢
   have m12 : b12 ∈ [b12, b14] := by simp
   have m14 : b14 ∈ [b12, b14] := by simp
   have hra := hr _ hai
   have hrb := hr _ haj
   have x1 := hra.2 _ (List.getElem_mem hkl)
   have x2 := hrb.2 _ (List.getElem_mem hkl2)
   obtain ⟨p, hp⟩ : ∃ p, p = (lowR l k)[i].c[k] := ⟨_, rfl⟩
   obtain ⟨q, hq⟩ : ∃ q, q = -(highR l k)[j].c[k] := ⟨_, rfl⟩
   have es : shadowP ((lowR l k).getD i default) (highR l k)[j] k false = plusR (lowR l k)[i] q (highR l k)[j] p := by
    unfold shadowP
    simp only [gi, getI_at _ _ hkl, getI_at _ _ hkl2, ← hp, ← hq]
    rfl
   have lz := shIn_len l k i j hlen (by omega)
   have fs2 : Rw rowC (shIn l k i (j + 1)) = Rw rowC (shIn l k i j) ++ [rowC (plusR (lowR l k)[i] q (highR l k)[j] p)] := by rw [shIn_succ l k i j hjt, es, ← Rw_app]; rfl
   have fl : (shIn l k i (j + 1)).length = (shIn l k i j).length + 1 := by rw [shIn_succ l k i j hjt]; simp
   refine par_mk (fun i' => if i' = 10 then .agg (bigC q) else .undef) [b12, b14] ?_
   repeat' (first | with_reducible refine And.intro ?_ ?_ | simp only [go_sem,seval, m12, m14, c12, c14, hki, hki2, Rw_at _ _ hkl, Rw_get _ _ hkl, Rw_at _ _ hkl2, Rw_get _ _ hkl2, ← hp] | simp (disch := omega) only [wrap64, Rw_at, getI_at] | simp (disch := first | omega | grind) only [heap_ne_] | (intro hx_; try simp only [set_none] at hx_) | with_reducible refine pc0 (fun H' Q hro hq2 => bneg_a (highR l k)[j].c[k] H' (by rw [← hq]; exact hq2)) ?_ | with_reducible refine plus_a (lowR l k)[i] (highR l k)[j] q p (by rw [hw _ hai, hw _ haj]) (by rw [hw _ hai]; exact hn) hra hrb (by omega) (by omega) _ ?_ | omega)
   rename_i b15 h15 b16 h16 b17 h17 bx
   have hbx := hx_
   clear hx_
   refine O3.ap h3 (e1' := Rw rowC (shIn l k i (j + 1))) (hle1.trans (by simp only [Go.Av.Heap.Le, Go.Av.Heap.set, Go.Av.Heap.del] at * <;> grind)) (by simp only [set_none]; simp only [hbx, ne_eq, not_false_eq_true, and_self]) (by simp) (by rw [Rw_len]) (by simp only [List.length_cons, List.length_nil]; omega) (by simp only [List.length_cons, List.length_nil]; omega) fs2 fun b' H' h4 => ?_
   repeat' (first | with_reducible refine And.intro ?_ ?_ | simp only [go_sem,seval] | simp (disch := omega) only [wrap64, Rw_at, getI_at] | simp (disch := first | omega | grind) only [heap_ne_] | (intro hx_; try simp only [set_none] at hx_) | omega)
   refine nx_mk (j + 1, some b', H') ⟨by simp only []; omega, h4⟩ (by simp only []; omega) (by (try simp only [go_sem,seval, out_some, fl]) <;> (try simp (disch := omega) [wrap64]) <;> (try omega)) (Heap.Le.refl _)
  ·have hkd : decide ((j : Int) < (highR l k).length) = false := decide_eq_false (by omega)
   have hje : j = (highR l k).length := by omega
   subst hje
   rw [shIn_next l k i hlt] at h3
   repeat' (first | with_reducible refine And.intro ?_ ?_ | simp only [go_sem,seval, hkd, shIn_next l k i hlt] | simp (disch := omega) only [wrap64, Rw_at, getI_at] | simp (disch := first | omega | grind) only [heap_ne_] | (intro hx_; try simp only [set_none] at hx_) | omega)
   refine nx_mk (i + 1, o1, Hp) ⟨by simp only []; omega, h3.less hH⟩ (by simp only []; omega) (by (try simp only [go_sem,seval]) <;> (try simp (disch := omega) [wrap64]) <;> (try omega)) (Heap.Le.refl _)
 ·have hkd : decide ((i : Int) < (lowR l k).length) = false := decide_eq_false (by omega)
  have hie : i = (lowR l k).length := by omega
  subst hie
  rw [shIn_all] at h3
  repeat' (first | with_reducible refine And.intro ?_ ?_ | simp only [go_sem,seval, hkd, shIn_all] | simp (disch := omega) only [wrap64, Rw_at, getI_at] | simp (disch := first | omega | grind) only [heap_ne_] | (intro hx_; try simp only [set_none] at hx_) | omega)
  exact Fin.out (by rw [Rw_len]) h3.a1 (Fin.less (O3.one h3) h)
end Go.Proofs.YtacekpdodelnbaaGreatDoor
end
