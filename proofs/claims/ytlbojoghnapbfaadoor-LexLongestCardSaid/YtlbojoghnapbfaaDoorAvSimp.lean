/- Av: how a walk is reckoned: one rewriting rule for each form of code and each operation. -/
import Derived.Test.YtlbojoghnapbfaaDoorAvCode
set_option linter.unusedVariables false
set_option linter.unusedSimpArgs false
namespace Go.Av

/-- A string's bytes. -/
def B (s : ByteArray) : List UInt8 := s.data.toList
@[simp] theorem B_len (s : ByteArray) : (B s).length = s.size := by simp [B]
theorem B_inj {s t : ByteArray} (h : B s = B t) : s = t := by
  apply ByteArray.ext
  unfold B at h
  exact Array.toList_inj.1 h
/-- The string of some bytes. -/
def S (l : List UInt8) : ByteArray := ⟨l.toArray⟩
@[go_sem] theorem B_S (l : List UInt8) : B (S l) = l := by simp [B, S]
theorem S_B (s : ByteArray) : S (B s) = s := B_inj (B_S _)
@[go_sem] theorem S_size (l : List UInt8) : (S l).size = l.length := by rw [← B_len, B_S]
theorem S_mk (l : List UInt8) : (⟨l.toArray⟩ : ByteArray) = S l := rfl
theorem S_inj {l m : List UInt8} (h : S l = S m) : l = m := by rw [← B_S l, h, B_S]
@[go_sem] theorem S_size' (l : List UInt8) : (ByteArray.mk l.toArray).size = l.length := S_size l
@[go_sem] theorem B_S' (l : List UInt8) : B (ByteArray.mk l.toArray) = l := B_S l
@[go_sem] theorem B_app (x y : ByteArray) : B (x ++ y) = B x ++ B y := by simp [B, ByteArray.data_append]
attribute [go_sem] B_len
@[go_sem] theorem app_size (x y : ByteArray) : (x ++ y).size = x.size + y.size := by rw [← B_len, B_app, List.length_append, B_len, B_len]
theorem extract_S (s : ByteArray) (l h : Nat) : s.extract l h = S (((B s).take h).drop l) := by
  apply B_inj
  rw [B_S]
  simp [B, ByteArray.data_extract, List.extract_eq_take_drop]
  rw [List.drop_take]
theorem B_lit (l : List UInt8) : B ⟨l.toArray⟩ = l := by simp [B]

def seqK (P : Program) (Z : List (Nat × Bool)) (b : Code) (Q : AX → Env → Heap → Prop) : AX → Env → Heap → Prop
  | .normal, E, H => wp P Z b Q E H
  | .exit i, E, H => Q (.exit i) E H
  | .ret, E, H => Q .ret E H

def blockK (id : Nat) (Q : AX → Env → Heap → Prop) : AX → Env → Heap → Prop
  | .normal, E, H => Q .normal E H
  | .exit i, E, H => if i = id then Q .normal E H else Q (.exit i) E H
  | .ret, E, H => Q .ret E H

def loopK (Q : AX → Env → Heap → Prop) (K : Env → Heap → Prop) : AX → Env → Heap → Prop
  | .normal, E, H => K E H
  | .exit i, E, H => Q (.exit i) E H
  | .ret, E, H => Q .ret E H

def normalK (Q : AX → Env → Heap → Prop) : Env → Heap → Prop := fun E H => Q .normal E H

/-- A loop that stands to be walked. -/
def Loop (P : Program) (Z : List (Nat × Bool)) (c : Code) (Q : AX → Env → Heap → Prop) (E : Env) (H : Heap) : Prop := LoopA (fun K => wp P Z c (loopK Q K)) E H

def opK (P : Program) (gs : List (Option Nat)) (K : Env → Heap → Prop) (l : List Oper) (dst : Option Nat) (E : Env) : D → Heap → Prop := fun d H => wpOps P gs K l (E.put dst d) H

def optK (o : Option D) (K : D → Heap → Prop) (H : Heap) : Prop := ∃ d, o = some d ∧ K d H
def optH (o : Option Heap) (K : D → Heap → Prop) : Prop := ∃ H', o = some H' ∧ K .undef H'

def condA (P : Program) (Z : List (Nat × Bool)) (c : Operand) (d : D) (x y : Code) (Q : AX → Env → Heap → Prop) (E : Env) (H : Heap) : Prop := ∃ b, d = .bool b ∧ (b = true → wp P Z x Q (E.fix c true) H) ∧ (b = false → wp P Z y Q (E.fix c false) H)

/-- A guarded operation. -/
def guardK (P : Program) (gs : List (Option Nat)) (K : Env → Heap → Prop) (l : List Oper) (dst : Option Nat) (op : Op) (s : Nat) (d : D) (want : Bool) (E : Env) (H : Heap) : Prop :=
  (d = .tuple [] ∧ wpOps P gs K l (E.put dst (.tuple [])) H) ∨
  ∃ b, d = .bool b ∧ (b = want → wpOp P (Env.ev ((s, .bool want) :: E)) H (opK P gs K l dst ((s, .bool want) :: E)) op) ∧ (b = !want → wpOps P gs K l (Env.put ((s, .bool (!want)) :: E) dst (.tuple [])) H)

def guardS (P : Program) (gs : List (Option Nat)) (K : Env → Heap → Prop) (l : List Oper) (dst : Option Nat) (op : Op) (s : Option Nat) (want : Bool) (E : Env) (H : Heap) : Prop := match s with
  | none => wpOps P gs K l (E.put dst (.tuple [])) H
  | some s => guardK P gs K l dst op s (E.get s) want E H

def callA (P : Program) (f : D) (args : List D) (H : Heap) (K : D → Heap → Prop) : Prop := match f with
  | .fn (.func g) first captured => ACalls P g (first ++ args ++ captured) H K
  | _ => False

/-- The end of a function: less may be told of what is owned. -/
def Fin (Q : D → Heap → Prop) (d : D) (H : Heap) : Prop := ∃ H' d', Shift H d H' d' ∧ Q d' H'
def finK (o : Option D) (Q : D → Heap → Prop) (H : Heap) : Prop := ∃ r, o = some r ∧ Fin Q r H

theorem Fin.less {Q : D → Heap → Prop} {d : D} {H H' : Heap} (hl : H'.Le H) (h : Q d H') : Fin Q d H := ⟨H', d, .less hl d, h⟩
theorem Fin.same {Q : D → Heap → Prop} {d : D} {H : Heap} (h : Q d H) : Fin Q d H := ⟨H, d, .less (Heap.Le.refl H) d, h⟩
theorem Fin.freeze {Q : D → Heap → Prop} {d d' : D} {H : Heap} {b sz : Nat} {es : List (List D)} (hb : H b = some (.vec sz es)) (hz : Fz b sz es d d') (h : Fin Q d' (H.del b)) : Fin Q d H :=
  let ⟨H', e, h1, h2⟩ := h; ⟨H', e, (Shift.freeze hb hz).trans h1, h2⟩
theorem Fin.then {Q : D → Heap → Prop} {d : D} {H H' : Heap} (hl : H'.Le H) (h : Fin Q d H') : Fin Q d H :=
  let ⟨H1, e, h1, h2⟩ := h; ⟨H1, e, (Shift.less hl d).trans h1, h2⟩
/-- The slice that comes first is written no more. -/
theorem Fin.slice1 {Q : D → Heap → Prop} {ds : List D} {H : Heap} {b sz n : Nat} {es : List (List D)} (hb : H b = some (.vec sz es)) (hn : n = es.length) (h : Fin Q (.tuple (.sl sz es :: ds)) (H.del b)) : Fin Q (.tuple (.vec b sz 0 n :: ds)) H := by
  subst hn
  refine Fin.freeze hb (.tuple _ _ (by simp) fun i d d' h1 h2 => ?_) h
  cases i with
  | zero => simp at h1 h2; subst h1; subst h2; exact .all
  | succ i => simp at h1 h2; rw [h1] at h2; cases h2; exact .same _
/-- An empty slice, for nil. -/
theorem Fin.nilsl {Q : D → Heap → Prop} {H : Heap} (sz : Nat) (ds : List D) (h : Fin Q (.tuple (.sl sz [] :: ds)) H) : Fin Q (.tuple (.nilsl :: ds)) H :=
  let ⟨H1, e, h1, h2⟩ := h; ⟨H1, e, Shift.trans (fun w v hr hs => ⟨by
    obtain ⟨vs, rfl, hl, hr'⟩ := hr.tuple_inv
    refine .tuple _ _ (by simpa using hl) fun i d hd => ?_
    cases i with
    | zero => simp at hd; subst hd; have := hr' 0 _ rfl; generalize vs.getD 0 Go.undef = u at this; cases this; exact .sl0 _ _ _
    | succ i => exact hr' (i + 1) d (by simpa using hd), hs, fun _ hn => hn⟩) h1, h2⟩

theorem base_of_int {P : Program} {t : Nat} {k : IntKind} (h : P.underlying t = some (.int k)) : baseT P t = .int := by unfold baseT; rw [h]

section
variable {P : Program} {Z : List (Nat × Bool)} {Q : AX → Env → Heap → Prop} {E : Env} {H : Heap} {K : Env → Heap → Prop} {gs : List (Option Nat)} {l : List Oper} {KD : D → Heap → Prop} {ev : Operand → D}

/-! code -/
@[go_sem] theorem aw_skip : wp P Z .skip Q E H = Q .normal E H := rfl
def raceK (P : Program) (gs : List (Option Nat)) (ops : List Oper) (K : Env → Heap → Prop) (E : Env) (H : Heap) : Option Bool → Prop
  | none => wpOps P gs K ops E H
  | some sx => ∃ bl, (∀ k ∈ bl, H k ≠ none) ∧ wpOpsR P sx bl K ops E H
@[go_sem] theorem aw_region (id : Nat) (l : List Oper) (d : Bool) : wp P Z (.region id l.toArray d) Q E H = raceK P (l.map (·.dst)) l (normalK Q) E H (raceOf id Z) := by
  show (match raceOf id Z with | none => _ | some sx => _) = _
  unfold raceK
  cases raceOf id Z <;> rfl
@[go_sem] theorem raceOf_nil (id : Nat) : raceOf id [] = none := rfl
@[go_sem] theorem raceOf_cons (id i : Nat) (sx : Bool) (Z : List (Nat × Bool)) : raceOf id ((i, sx) :: Z) = if id = i then some sx else raceOf id Z := rfl
@[go_sem] theorem raceK_none (gs : List (Option Nat)) (ops : List Oper) : raceK P gs ops K E H none = wpOps P gs K ops E H := rfl
theorem race_mk {gs : List (Option Nat)} {ops : List Oper} {sx : Bool} (bl : List Nat) (h : ∀ k ∈ bl, H k ≠ none) (h2 : wpOpsR P sx bl K ops E H) : raceK P gs ops K E H (some sx) := ⟨bl, h, h2⟩
@[go_sem] theorem aw_seq (a b : Code) : wp P Z (.seq a b) Q E H = wp P Z a (seqK P Z b Q) E H := by
  show wp P Z a _ E H = wp P Z a _ E H
  congr 1; funext x; cases x <;> rfl
@[go_sem] theorem aw_cond (c : Operand) (x y : Code) : wp P Z (.cond c x y) Q E H = condA P Z c (E.ev c) x y Q E H := rfl
@[go_sem] theorem aw_block (id : Nat) (c : Code) : wp P Z (.block id c) Q E H = wp P Z c (blockK id Q) E H := by
  show wp P Z c _ E H = wp P Z c _ E H
  congr 1; funext x; cases x <;> rfl
@[go_sem] theorem aw_loop (c : Code) : wp P Z (.loop c) Q E H = Loop P Z c Q E H := by
  show LoopA _ E H = LoopA _ E H
  congr 1; funext K; congr 1; funext x; cases x <;> rfl
@[go_sem] theorem aw_exit (id : Nat) : wp P Z (.exit id) Q E H = Q (.exit id) E H := rfl
@[go_sem] theorem aw_ret : wp P Z .ret Q E H = Q .ret E H := rfl
@[go_sem] theorem seqK_normal (b : Code) : seqK P Z b Q .normal E H = wp P Z b Q E H := rfl
@[go_sem] theorem seqK_exit (b : Code) (i : Nat) : seqK P Z b Q (.exit i) E H = Q (.exit i) E H := rfl
@[go_sem] theorem seqK_ret (b : Code) : seqK P Z b Q .ret E H = Q .ret E H := rfl
@[go_sem] theorem blockK_normal (i : Nat) : blockK i Q .normal E H = Q .normal E H := rfl
@[go_sem] theorem blockK_exit (i j : Nat) : blockK i Q (.exit j) E H = if j = i then Q .normal E H else Q (.exit j) E H := rfl
@[go_sem] theorem blockK_ret (i : Nat) : blockK i Q .ret E H = Q .ret E H := rfl
@[go_sem] theorem loopK_normal : loopK Q K .normal E H = K E H := rfl
@[go_sem] theorem loopK_exit (j : Nat) : loopK Q K (.exit j) E H = Q (.exit j) E H := rfl
@[go_sem] theorem loopK_ret : loopK Q K .ret E H = Q .ret E H := rfl
@[go_sem] theorem normalK_app : normalK Q E H = Q .normal E H := rfl

theorem condA_bool (c : Operand) (b : Bool) (x y : Code) : condA P Z c (.bool b) x y Q E H = ((b = true → wp P Z x Q (E.fix c true) H) ∧ (b = false → wp P Z y Q (E.fix c false) H)) := by
  unfold condA
  simp only [D.bool.injEq, exists_eq_left']
attribute [go_sem low] condA_bool
@[go_sem high] theorem condA_true (c : Operand) (x y : Code) : condA P Z c (.bool true) x y Q E H = wp P Z x Q (E.fix c true) H := by rw [condA_bool]; simp
@[go_sem high] theorem condA_false (c : Operand) (x y : Code) : condA P Z c (.bool false) x y Q E H = wp P Z y Q (E.fix c false) H := by rw [condA_bool]; simp
@[go_sem] theorem fix_tmp (t : Nat) (b : Bool) : Env.fix E (.tmp t) b = (t, .bool b) :: E := rfl
@[go_sem] theorem fix_const (v : Value) (b : Bool) : Env.fix E (.const v) b = E := rfl

/-! lists of operations -/
@[go_sem] theorem ops_nil : wpOps P gs K [] E H = K E H := rfl
@[go_sem] theorem ops_cons (dst : Option Nat) (op : Op) (ty : Nat) (pos : String) (after : Array Edge) : wpOps P gs K (⟨dst, op, ty, pos, after, none⟩ :: l) E H = wpOp P (Env.ev E) H (opK P gs K l dst E) op := rfl
@[go_sem] theorem ops_guard (dst : Option Nat) (op : Op) (ty : Nat) (pos : String) (after : Array Edge) (j : Nat) (want : Bool) :
    wpOps P gs K (⟨dst, op, ty, pos, after, some (j, want)⟩ :: l) E H = guardS P gs K l dst op (guardSlot gs j) want E H := by
  rw [wpOps]
  simp only []
  unfold guardA guardS
  cases guardSlot gs j <;> rfl
@[go_sem] theorem guardSlot_zero (g : Option Nat) (gs : List (Option Nat)) : guardSlot (g :: gs) 0 = g := rfl
@[go_sem] theorem guardSlot_succ (g : Option Nat) (gs : List (Option Nat)) (j : Nat) : guardSlot (g :: gs) (j + 1) = guardSlot gs j := by simp [guardSlot]
@[go_sem] theorem guardS_some (dst : Option Nat) (op : Op) (s : Nat) (want : Bool) : guardS P gs K l dst op (some s) want E H = guardK P gs K l dst op s (E.get s) want E H := rfl
theorem guardK_bool (dst : Option Nat) (op : Op) (s : Nat) (b want : Bool) : guardK P gs K l dst op s (.bool b) want E H =
    ((b = want → wpOp P (Env.ev ((s, .bool want) :: E)) H (opK P gs K l dst ((s, .bool want) :: E)) op) ∧ (b = !want → wpOps P gs K l (Env.put ((s, .bool (!want)) :: E) dst (.tuple [])) H)) := by
  unfold guardK
  simp only [D.bool.injEq, exists_eq_left', reduceCtorEq, false_and, false_or]
attribute [go_sem low] guardK_bool
@[go_sem high] theorem guardK_skip (dst : Option Nat) (op : Op) (s : Nat) (want : Bool) : guardK P gs K l dst op s (.tuple []) want E H = wpOps P gs K l (E.put dst (.tuple [])) H := by
  unfold guardK
  simp
@[go_sem high] theorem guardK_tt (dst : Option Nat) (op : Op) (s : Nat) : guardK P gs K l dst op s (.bool true) true E H = wpOp P (Env.ev ((s, .bool true) :: E)) H (opK P gs K l dst ((s, .bool true) :: E)) op := by rw [guardK_bool]; simp
@[go_sem high] theorem guardK_ff (dst : Option Nat) (op : Op) (s : Nat) : guardK P gs K l dst op s (.bool false) false E H = wpOp P (Env.ev ((s, .bool false) :: E)) H (opK P gs K l dst ((s, .bool false) :: E)) op := by rw [guardK_bool]; simp
@[go_sem high] theorem guardK_tf (dst : Option Nat) (op : Op) (s : Nat) : guardK P gs K l dst op s (.bool true) false E H = wpOps P gs K l (Env.put ((s, .bool true) :: E) dst (.tuple [])) H := by rw [guardK_bool]; simp
@[go_sem high] theorem guardK_ft (dst : Option Nat) (op : Op) (s : Nat) : guardK P gs K l dst op s (.bool false) true E H = wpOps P gs K l (Env.put ((s, .bool false) :: E) dst (.tuple [])) H := by rw [guardK_bool]; simp
@[go_sem] theorem opK_app (dst : Option Nat) (d : D) : opK P gs K l dst E d H = wpOps P gs K l (Env.put E dst d) H := rfl
@[go_sem] theorem optK_some (d : D) : optK (some d) KD H = KD d H := by simp [optK]
@[go_sem] theorem optK_none : optK none KD H = False := by simp [optK]
@[go_sem] theorem optK_ite (c : Prop) [Decidable c] (a : Option D) : optK (if c then a else none) KD H = (c ∧ optK a KD H) := by
  by_cases h : c <;> simp [h, optK]
@[go_sem] theorem optK_ite' (c : Prop) [Decidable c] (a : Option D) : optK (if c then none else a) KD H = (¬ c ∧ optK a KD H) := by
  by_cases h : c <;> simp [h, optK]
@[go_sem] theorem optH_some (H' : Heap) : optH (some H') KD = KD .undef H' := by simp [optH]
@[go_sem] theorem optH_ite (c : Prop) [Decidable c] (a : Option Heap) : optH (if c then a else none) KD = (c ∧ optH a KD) := by
  by_cases h : c <;> simp [h, optH]

/-! reads beside writes -/
def opRK (P : Program) (sx : Bool) (bl : List Nat) (K : Env → Heap → Prop) (l : List Oper) (dst : Option Nat) (E : Env) : D → Heap → Prop := fun d H => wpOpsR P sx bl K l (E.put dst d) H
def tt : D → Heap → Prop := fun _ _ => True
@[go_sem] theorem tt_app (d : D) : tt d H = True := rfl
variable {sx : Bool} {bl : List Nat}
@[go_sem] theorem opsR_nil : wpOpsR P sx bl K [] E H = K E H := rfl
@[go_sem] theorem opsR_cons (dst : Option Nat) (op : Op) (ty : Nat) (pos : String) (after : Array Edge) : wpOpsR P sx bl K (⟨dst, op, ty, pos, after, none⟩ :: l) E H = wpOpR P sx bl (Env.ev E) H (opRK P sx bl K l dst E) op := by
  show (none = none ∧ _) = _
  simp only [true_and]; rfl
@[go_sem] theorem opRK_app (dst : Option Nat) (d : D) : opRK P sx bl K l dst E d H = wpOpsR P sx bl K l (Env.put E dst d) H := rfl
def inBl (bl : List Nat) : D → Prop
  | .box b _ => b ∈ bl
  | .el b _ _ _ => b ∈ bl
  | _ => False
@[go_sem] theorem inBl_el (b s i off : Nat) : inBl bl (.el b s i off) = (b ∈ bl) := rfl
@[go_sem] theorem inBl_box (b off : Nat) : inBl bl (.box b off) = (b ∈ bl) := rfl
@[go_sem] theorem r_load (t : Nat) (x : Operand) : wpOpR P sx bl ev H KD (.load t x) = (inBl bl (ev x) ∧ wpOp P ev H KD (.load t x)) := by
  show ((match ev x with | .box b _ => b ∈ bl | .el b _ _ _ => b ∈ bl | _ => False) ∧ _) = _
  unfold inBl; rfl
@[go_sem] theorem r_store (t : Nat) (a x : Operand) : wpOpR P sx bl ev H KD (.store t a x) = ((sx = true → wpOp P ev (H.minus bl) tt (.store t a x)) ∧ wpOp P ev H KD (.store t a x)) := rfl
@[go_sem] theorem r_alloc (t : Nat) : wpOpR P sx bl ev H KD (.alloc t) = (wpOp P ev (H.minus bl) tt (.alloc t) ∧ wpOp P ev H KD (.alloc t)) := rfl
@[go_sem] theorem r_box (t : Nat) (x : Operand) : wpOpR P sx bl ev H KD (.box t x) = (wpOp P ev (H.minus bl) tt (.box t x) ∧ wpOp P ev H KD (.box t x)) := rfl
@[go_sem] theorem r_bs (t n : Nat) (ps : Array (Nat × Operand)) : wpOpR P sx bl ev H KD (.buildSlice t n ps) = (wpOp P ev (H.minus bl) tt (.buildSlice t n ps) ∧ wpOp P ev H KD (.buildSlice t n ps)) := rfl
@[go_sem] theorem r_append (as : Array Operand) (ts : Array Nat) : wpOpR P sx bl ev H KD (.call ⟨.builtin .append, as, ts⟩) = (wpOp P ev (H.minus bl) tt (.call ⟨.builtin .append, as, ts⟩) ∧ wpOp P ev H KD (.call ⟨.builtin .append, as, ts⟩)) := rfl
@[go_sem] theorem r_move (x : Operand) : wpOpR P sx bl ev H KD (.move x) = wpOp P ev H KD (.move x) := by show (_ = _ ∧ _) = _; simp [cls]
@[go_sem] theorem r_assign (x : Operand) : wpOpR P sx bl ev H KD (.assign x) = wpOp P ev H KD (.assign x) := by show (_ = _ ∧ _) = _; simp [cls]
@[go_sem] theorem r_pick (a b c : Operand) : wpOpR P sx bl ev H KD (.pick a b c) = wpOp P ev H KD (.pick a b c) := by show (_ = _ ∧ _) = _; simp [cls]
@[go_sem] theorem r_build (t : Nat) (ps : Array (Nat × Operand)) : wpOpR P sx bl ev H KD (.build t ps) = wpOp P ev H KD (.build t ps) := by show (_ = _ ∧ _) = _; simp [cls]
@[go_sem] theorem r_nilck (x : Operand) : wpOpR P sx bl ev H KD (.nilCheck x) = wpOp P ev H KD (.nilCheck x) := by show (_ = _ ∧ _) = _; simp [cls]
@[go_sem] theorem r_bin (op : BinOp) (t : Nat) (x y : Operand) (yt : Nat) : wpOpR P sx bl ev H KD (.binOp op t x y yt) = wpOp P ev H KD (.binOp op t x y yt) := by show (_ = _ ∧ _) = _; simp [cls]
@[go_sem] theorem r_un (op : UnOp) (t : Nat) (x : Operand) : wpOpR P sx bl ev H KD (.unOp op t x) = wpOp P ev H KD (.unOp op t x) := by show (_ = _ ∧ _) = _; simp [cls]
@[go_sem] theorem r_fa (t : Nat) (x : Operand) (f : Nat) : wpOpR P sx bl ev H KD (.fieldAddr t x f) = wpOp P ev H KD (.fieldAddr t x f) := by show (_ = _ ∧ _) = _; simp [cls]
@[go_sem] theorem r_fd (t : Nat) (x : Operand) (f : Nat) : wpOpR P sx bl ev H KD (.field t x f) = wpOp P ev H KD (.field t x f) := by show (_ = _ ∧ _) = _; simp [cls]
@[go_sem] theorem r_ia (t : Nat) (x i : Operand) : wpOpR P sx bl ev H KD (.indexAddr t x i) = wpOp P ev H KD (.indexAddr t x i) := by show (_ = _ ∧ _) = _; simp [cls]
@[go_sem] theorem r_ix (t : Nat) (x i : Operand) : wpOpR P sx bl ev H KD (.index t x i) = wpOp P ev H KD (.index t x i) := by show (_ = _ ∧ _) = _; simp [cls]
@[go_sem] theorem r_slice (t : Nat) (x : Operand) (lo hi mx : Option Operand) : wpOpR P sx bl ev H KD (.slice t x lo hi mx) = wpOp P ev H KD (.slice t x lo hi mx) := by show (_ = _ ∧ _) = _; simp [cls]
@[go_sem] theorem r_extract (x : Operand) (i : Nat) : wpOpR P sx bl ev H KD (.extract x i) = wpOp P ev H KD (.extract x i) := by show (_ = _ ∧ _) = _; simp [cls]
theorem minus_in {b : Nat} (h : b ∈ bl) : (H.minus bl) b = none := by simp [Heap.minus, h]
theorem minus_out {b : Nat} (h : b ∉ bl) : (H.minus bl) b = H b := by simp [Heap.minus, h]

/-! slots -/
@[go_sem] theorem env_get (i j : Nat) (d : D) (E : Env) : Env.get ((i, d) :: E) j = if i = j then d else Env.get E j := rfl
@[go_sem] theorem env_put (i : Nat) (d : D) : Env.put E (some i) d = (i, d) :: E := rfl
@[go_sem] theorem env_put_none (d : D) : Env.put E none d = E := rfl
@[go_sem] theorem ev_tmp (t : Nat) : Env.ev E (.tmp t) = Env.get E t := rfl
@[go_sem] theorem ev_int (k : IntKind) (n : Int) : Env.ev E (.const (.int k n)) = .int k n := rfl
@[go_sem] theorem ev_bool (b : Bool) : Env.ev E (.const (.bool b)) = .bool b := rfl
@[go_sem] theorem ev_str (s : ByteArray) : Env.ev E (.const (.string s)) = .str s := rfl
@[go_sem] theorem ev_nilsl : Env.ev E (.const (.slice none 0 0)) = .nilsl := rfl
@[go_sem] theorem ev_nilp : Env.ev E (.const (.pointer none)) = .nilp := rfl
@[go_sem] theorem ev_nilif : Env.ev E (.const .nilIface) = .nilif := rfl
@[go_sem] theorem ev_nilfn : Env.ev E (.const .nilFunc) = .nilfn := rfl
@[go_sem] theorem ev_func (f : Nat) : Env.ev E (.func f) = .fn (.func f) [] [] := rfl
@[go_sem] theorem ev_global (g : Nat) : Env.ev E (.global g) = .glob g := rfl

/-! operations -/
@[go_sem] theorem s_move (x : Operand) : wpOp P ev H KD (.move x) = KD (ev x) H := optK_some _
@[go_sem] theorem s_assign (x : Operand) : wpOp P ev H KD (.assign x) = KD (ev x) H := optK_some _
def pickD : D → D → D → Option D
  | .bool t, a, b => some (if t then a else b)
  | _, _, _ => none
@[go_sem high] theorem pick_true (a b : D) : pickD (.bool true) a b = some a := rfl
@[go_sem high] theorem pick_false (a b : D) : pickD (.bool false) a b = some b := rfl
@[go_sem] theorem pick_bool (t : Bool) (a b : D) : pickD (.bool t) a b = some (if t = true then a else b) := rfl
@[go_sem] theorem ite_bool (c : Prop) [Decidable c] (a b : Bool) : (if c then D.bool a else D.bool b) = .bool (if c then a else b) := by split <;> rfl
@[go_sem] theorem ite_int (c : Prop) [Decidable c] (k : IntKind) (a b : Int) : (if c then D.int k a else D.int k b) = .int k (if c then a else b) := by split <;> rfl
@[go_sem] theorem s_pick (c a b : Operand) : wpOp P ev H KD (.pick c a b) = optK (pickD (ev c) (ev a) (ev b)) KD H := by
  show optK _ KD H = _
  simp only [pureD, pickD]
  congr 1
  cases ev c <;> rfl
def nilckD : D → Option D
  | .box b off => some (.box b off)
  | .el b sz i off => some (.el b sz i off)
  | .ro cs => some (.ro cs)
  | .fn (.func f) a b => some (.fn (.func f) a b)
  | _ => none
@[go_sem] theorem nilck_box (b off : Nat) : nilckD (.box b off) = some (.box b off) := rfl
@[go_sem] theorem nilck_el (b sz i off : Nat) : nilckD (.el b sz i off) = some (.el b sz i off) := rfl
@[go_sem] theorem nilck_ro (cs : List D) : nilckD (.ro cs) = some (.ro cs) := rfl
@[go_sem] theorem nilck_fn (f : Nat) (a b : List D) : nilckD (.fn (.func f) a b) = some (.fn (.func f) a b) := rfl
@[go_sem] theorem s_nilck (x : Operand) : wpOp P ev H KD (.nilCheck x) = optK (nilckD (ev x)) KD H := by
  show optK _ KD H = _
  simp only [pureD, nilckD]
  generalize ev x = d
  cases d <;> rfl
@[go_sem] theorem s_bin (op : BinOp) (t : Nat) (x y : Operand) (yt : Nat) : wpOp P ev H KD (.binOp op t x y yt) = optK (bin2D P op t (isConst x || isConst y) (ev x) (ev y)) KD H := rfl
@[go_sem] theorem s_un (op : UnOp) (t : Nat) (x : Operand) : wpOp P ev H KD (.unOp op t x) = optK (unD op (ev x)) KD H := rfl
@[go_sem] theorem s_faddr (t : Nat) (x : Operand) (f : Nat) : wpOp P ev H KD (.fieldAddr t x f) = optK (fieldAddrD P t (ev x) f) KD H := rfl
@[go_sem] theorem s_field (t : Nat) (x : Operand) (f : Nat) : wpOp P ev H KD (.field t x f) = optK (fieldD P t (ev x) f) KD H := rfl
@[go_sem] theorem s_iaddr (t : Nat) (x i : Operand) : wpOp P ev H KD (.indexAddr t x i) = optK (indexAddrD P t (ev x) (ev i)) KD H := rfl
@[go_sem] theorem s_index (t : Nat) (x i : Operand) : wpOp P ev H KD (.index t x i) = optK (indexD P t (ev x) (ev i)) KD H := rfl
@[go_sem] theorem s_slice (t : Nat) (x : Operand) (lo hi : Option Operand) : wpOp P ev H KD (.slice t x lo hi none) = optK (sliceD P t (ev x) (lo.map ev) (hi.map ev)) KD H := rfl
def extractD : D → Nat → Option D
  | .tuple ds, i => ds[i]?
  | _, _ => none
@[go_sem] theorem extract_tuple (ds : List D) (i : Nat) : extractD (.tuple ds) i = ds[i]? := rfl
@[go_sem] theorem s_extract (x : Operand) (i : Nat) : wpOp P ev H KD (.extract x i) = optK (extractD (ev x) i) KD H := by
  show optK _ KD H = _
  simp only [pureD, extractD]
  congr 1
  cases ev x <;> rfl
@[go_sem] theorem s_load (t : Nat) (x : Operand) : wpOp P ev H KD (.load t x) = optK (loadD P t (ev x) H) KD H := rfl
@[go_sem] theorem s_store (t : Nat) (a x : Operand) : wpOp P ev H KD (.store t a x) = optH (storeD P t (ev a) (ev x) H) KD := rfl
def allocA (z : Option (List D)) (H : Heap) (KD : D → Heap → Prop) : Prop := ∃ c, z = some c ∧ ∀ b, H b = none → KD (.box b 0) (H.set b (.box c))
@[go_sem] theorem s_alloc (t : Nat) : wpOp P ev H KD (.alloc t) = allocA (zeroD P t) H KD := rfl
@[go_sem] theorem allocA_some (c : List D) : allocA (some c) H KD = ∀ b, H b = none → KD (.box b 0) (H.set b (.box c)) := by simp [allocA]
@[go_sem] theorem s_box (t : Nat) (x : Operand) : wpOp P ev H KD (.box t x) = ((ev x).cells.all D.one = true ∧ ∀ b, H b = none → KD (.box b 0) (H.set b (.box (ev x).cells))) := rfl
@[go_sem] theorem s_call (f : Operand) (args : List Operand) (ts : Array Nat) : wpOp P ev H KD (.call ⟨.value f, args.toArray, ts⟩) = callA P (ev f) (args.map ev) H KD := by
  show (match ev f with | .fn (.func g) first captured => ACalls P g (first ++ args.toArray.toList.map ev ++ captured) H KD | _ => False) = _
  unfold callA
  rfl
@[go_sem] theorem callA_fn (g : Nat) (fs as cs : List D) : callA P (.fn (.func g) fs cs) as H KD = ACalls P g (fs ++ as ++ cs) H KD := rfl
@[go_sem] theorem s_len (x : Operand) (t : Nat) : wpOp P ev H KD (.call ⟨.builtin .len, #[x], #[t]⟩) = optK (lenD P t (ev x)) KD H := rfl
@[go_sem] theorem s_min (x y : Operand) (ts : Array Nat) : wpOp P ev H KD (.call ⟨.builtin .min, #[x, y], ts⟩) = optK (min2D (ev x) (ev y)) KD H := by
  show optK (foldD min2D [ev x, ev y]) KD H = _
  simp [foldD]
@[go_sem] theorem s_max (x y : Operand) (ts : Array Nat) : wpOp P ev H KD (.call ⟨.builtin .max, #[x, y], ts⟩) = optK (max2D (ev x) (ev y)) KD H := by
  show optK (foldD max2D [ev x, ev y]) KD H = _
  simp [foldD]
@[go_sem] theorem s_append (s x : Operand) (t t' : Nat) : wpOp P ev H KD (.call ⟨.builtin .append, #[s, x], #[t, t']⟩) = appendA P ev H KD t t' s x := rfl
def ifaceD (P : Program) (t : Nat) (d : D) : Option D := if baseT P t = .iface ∨ (P.underlying t).isNone then none else some (.iface t d)
@[go_sem] theorem s_mkiface (t : Nat) (x : Operand) : wpOp P ev H KD (.makeInterface t x) = optK (ifaceD P t (ev x)) KD H := rfl
@[go_sem] theorem s_mkfn (fn : Fn) (fs cs : List Operand) : wpOp P ev H KD (.makeFunc fn fs.toArray cs.toArray) = KD (.fn fn (fs.map ev) (cs.map ev)) H := by
  show optK _ KD H = _
  simp [pureD, optK_some]
def buildD (P : Program) (t : Nat) (ps : List (Nat × D)) : Option D := match baseT P t with
    | .struct => (zeroD P t).bind fun z => (fieldsT P t).bind fun fs => (fillD (fun i => (fs[i]?).map fun f => (f.1, f.2.2)) z ps).map .agg
    | _ => none
def buildK (b : Base) (z : Option (List D)) (fs : Option (List (Nat × Bool × Nat))) (ps : List (Nat × D)) : Option D := match b, z, fs with
  | .struct, some z, some fs => (fillD (fun i => (fs[i]?).map fun f => (f.1, f.2.2)) z ps).map .agg
  | _, _, _ => none
@[go_sem] theorem build_def (t : Nat) (ps : List (Nat × D)) : buildD P t ps = buildK (baseT P t) (zeroD P t) (fieldsT P t) ps := by
  unfold buildD buildK
  cases baseT P t <;> try rfl
  cases zeroD P t <;> try rfl
  cases fieldsT P t <;> rfl
@[go_sem] theorem buildK_some (z : List D) (fs : List (Nat × Bool × Nat)) (ps : List (Nat × D)) : buildK .struct (some z) (some fs) ps = (fillD (fun i => (fs[i]?).map fun f => (f.1, f.2.2)) z ps).map .agg := rfl
@[go_sem] theorem fill_nil (pl : Nat → Option (Nat × Nat)) (cs : List D) : fillD pl cs [] = some cs := rfl
def fillK (o : Option (Nat × Nat)) (pl : Nat → Option (Nat × Nat)) (cs : List D) (d : D) (ps : List (Nat × D)) : Option (List D) := match o with
  | none => none
  | some (off, size) => if d.cells.length = size ∧ off + size ≤ cs.length ∧ d.cells.all D.one = true then fillD pl (putAt cs off d.cells) ps else none
@[go_sem] theorem fill_cons (pl : Nat → Option (Nat × Nat)) (cs : List D) (i : Nat) (d : D) (ps : List (Nat × D)) : fillD pl cs ((i, d) :: ps) = fillK (pl i) pl cs d ps := by
  rw [fillD]; unfold fillK; cases pl i <;> rfl
@[go_sem] theorem fillK_some (off size : Nat) (pl : Nat → Option (Nat × Nat)) (cs : List D) (d : D) (ps : List (Nat × D)) : fillK (some (off, size)) pl cs d ps = if d.cells.length = size ∧ off + size ≤ cs.length ∧ d.cells.all D.one = true then fillD pl (putAt cs off d.cells) ps else none := rfl
@[go_sem] theorem s_build (t : Nat) (ps : List (Nat × Operand)) : wpOp P ev H KD (.build t ps.toArray) = optK (buildD P t (ps.map fun p => (p.1, ev p.2))) KD H := by
  show optK _ KD H = _
  simp only [pureD, buildD]
  cases baseT P t <;> rfl

/-! operators -/
variable {t : Nat} {c : Bool} {k : IntKind} {a b : Int}
@[go_sem] theorem b_add : binD P .add t c (.int k a) (.int k b) = some (.int k (k.wrap (a + b))) := by simp [binD, intD]
@[go_sem] theorem b_sub : binD P .sub t c (.int k a) (.int k b) = some (.int k (k.wrap (a - b))) := by simp [binD, intD]
@[go_sem] theorem b_mul : binD P .mul t c (.int k a) (.int k b) = some (.int k (k.wrap (a * b))) := by simp [binD, intD]
@[go_sem] theorem b_quo : binD P .quo t c (.int k a) (.int k b) = if b = 0 then none else some (.int k (k.wrap (a.tdiv b))) := by simp [binD, intD]
@[go_sem] theorem b_rem : binD P .rem t c (.int k a) (.int k b) = if b = 0 then none else some (.int k (a.tmod b)) := by simp [binD, intD]
@[go_sem] theorem b_eql : binD P .eql t c (.int k a) (.int k b) = some (.bool (decide (a = b))) := by simp [binD, intD]; rfl
@[go_sem] theorem b_neq : binD P .neq t c (.int k a) (.int k b) = some (.bool (!decide (a = b))) := by simp [binD, intD]; rfl
@[go_sem] theorem b_lss : binD P .lss t c (.int k a) (.int k b) = some (.bool (decide (a < b))) := by simp [binD, intD]
@[go_sem] theorem b_leq : binD P .leq t c (.int k a) (.int k b) = some (.bool (decide (a ≤ b))) := by simp [binD, intD]
@[go_sem] theorem b_gtr : binD P .gtr t c (.int k a) (.int k b) = some (.bool (decide (b < a))) := by simp [binD, intD]
@[go_sem] theorem b_geq : binD P .geq t c (.int k a) (.int k b) = some (.bool (decide (b ≤ a))) := by simp [binD, intD]
@[go_sem] theorem bs_add (x y : ByteArray) : binD P .add t c (.str x) (.str y) = if x.size + y.size ≤ 9223372036854775807 then some (.str (x ++ y)) else none := rfl
@[go_sem] theorem bs_eql (x y : ByteArray) : binD P .eql t c (.str x) (.str y) = some (.bool (decide (B x = B y))) := by
  show some (D.bool (x.data.toList == y.data.toList)) = _
  unfold B; generalize x.data.toList = a; generalize y.data.toList = b; by_cases h : a = b <;> simp [h]
@[go_sem] theorem bs_neq (x y : ByteArray) : binD P .neq t c (.str x) (.str y) = some (.bool (!decide (B x = B y))) := by
  show some (D.bool (!(x.data.toList == y.data.toList))) = _
  unfold B; generalize x.data.toList = a; generalize y.data.toList = b; by_cases h : a = b <;> simp [h]
@[go_sem] theorem bs_lss (x y : ByteArray) : binD P .lss t c (.str x) (.str y) = some (.bool (Op.bytesLess x.data.toList y.data.toList)) := rfl
@[go_sem] theorem bb_eql (x y : Bool) : binD P .eql t c (.bool x) (.bool y) = if baseT P t = .bool then some (.bool (x == y)) else none := rfl
@[go_sem] theorem bb_neq (x y : Bool) : binD P .neq t c (.bool x) (.bool y) = if baseT P t = .bool then some (.bool (!(x == y))) else none := rfl
@[go_sem] theorem un_not (x : Bool) : unD .not (.bool x) = some (.bool (!x)) := rfl
@[go_sem] theorem un_neg : unD .neg (.int k a) = some (.int k (k.wrap (0 - a))) := rfl
@[go_sem] theorem min2_int (k' : IntKind) : min2D (.int k a) (.int k' b) = some (.int k (if b < a then b else a)) := rfl
@[go_sem] theorem max2_int (k' : IntKind) : max2D (.int k a) (.int k' b) = some (.int k (if a < b then b else a)) := rfl

@[go_sem] theorem b2_int (op : BinOp) (y : D) : bin2D P op t c (.int k a) y = binD P op t c (.int k a) y := by cases op <;> rfl
@[go_sem] theorem b2_str (op : BinOp) (x : ByteArray) (y : D) : bin2D P op t c (.str x) y = binD P op t c (.str x) y := by cases op <;> rfl
@[go_sem] theorem b2_bool (op : BinOp) (x : Bool) (y : D) : bin2D P op t c (.bool x) y = binD P op t c (.bool x) y := by cases op <;> rfl
@[go_sem] theorem b2_nilp (op : BinOp) (y : D) : bin2D P op t c .nilp y = binD P op t c .nilp y := by cases op <;> rfl
@[go_sem] theorem b2_nilsl (op : BinOp) (y : D) : bin2D P op t c .nilsl y = binD P op t c .nilsl y := by cases op <;> rfl
@[go_sem] theorem b2_nilfn (op : BinOp) (y : D) : bin2D P op t c .nilfn y = binD P op t c .nilfn y := by cases op <;> rfl
@[go_sem] theorem b2_nilif (op : BinOp) (y : D) : bin2D P op t c .nilif y = binD P op t c .nilif y := by cases op <;> rfl
@[go_sem] theorem b2_box (op : BinOp) (i j : Nat) (y : D) : bin2D P op t c (.box i j) y = binD P op t c (.box i j) y := by cases op <;> rfl
@[go_sem] theorem b2_el (op : BinOp) (i j m n : Nat) (y : D) : bin2D P op t c (.el i j m n) y = binD P op t c (.el i j m n) y := by cases op <;> rfl
@[go_sem] theorem b2_ro (op : BinOp) (cs : List D) (y : D) : bin2D P op t c (.ro cs) y = binD P op t c (.ro cs) y := by cases op <;> rfl
@[go_sem] theorem b2_sl (op : BinOp) (n : Nat) (es : List (List D)) (y : D) : bin2D P op t c (.sl n es) y = binD P op t c (.sl n es) y := by cases op <;> rfl
@[go_sem] theorem b2_vec (op : BinOp) (i j m n : Nat) (y : D) : bin2D P op t c (.vec i j m n) y = binD P op t c (.vec i j m n) y := by cases op <;> rfl
@[go_sem] theorem b2_fn (op : BinOp) (f : Fn) (as bs : List D) (y : D) : bin2D P op t c (.fn f as bs) y = binD P op t c (.fn f as bs) y := by cases op <;> rfl
@[go_sem] theorem b2_iface (op : BinOp) (u : Nat) (d y : D) : bin2D P op t c (.iface u d) y = binD P op t c (.iface u d) y := by cases op <;> rfl
def aggK (l : Option (List (Nat × Base))) (xs ys : List D) : Option Bool := l.bind fun fs => aggEq fs xs ys
@[go_sem] theorem b2_eql_agg (xs ys : List D) : bin2D P .eql t c (.agg xs) (.agg ys) = (aggK (flatEq P t) xs ys).map .bool := by
  show (flatEq P t).bind _ = _
  unfold aggK; cases flatEq P t <;> rfl
@[go_sem] theorem b2_neq_agg (xs ys : List D) : bin2D P .neq t c (.agg xs) (.agg ys) = (aggK (flatEq P t) xs ys).map fun b => .bool (!b) := by
  show (flatEq P t).bind _ = _
  unfold aggK; cases flatEq P t <;> rfl
@[go_sem] theorem aggK_some (fs : List (Nat × Base)) (xs ys : List D) : aggK (some fs) xs ys = aggEq fs xs ys := rfl
@[go_sem] theorem aggEq_nil (xs ys : List D) : aggEq [] xs ys = some true := rfl
def aggC (x y : Option D) (bs : Base) (r : Option Bool) : Option Bool := match x, y with
  | some x, some y => (cellEq bs x y).bind fun c => r.map (c && ·)
  | _, _ => none
@[go_sem] theorem aggEq_cons (o : Nat) (bs : Base) (fs : List (Nat × Base)) (xs ys : List D) : aggEq ((o, bs) :: fs) xs ys = aggC xs[o]? ys[o]? bs (aggEq fs xs ys) := rfl
@[go_sem] theorem aggC_int (k : IntKind) (a b : Int) (r : Option Bool) : aggC (some (.int k a)) (some (.int k b)) .int r = r.map (decide (a = b) && ·) := by
  simp [aggC, cellEq]; rfl
@[go_sem] theorem aggC_str (a b : ByteArray) (r : Option Bool) : aggC (some (.str a)) (some (.str b)) .str r = r.map (decide (B a = B b) && ·) := by
  have : (a.data.toList == b.data.toList) = decide (B a = B b) := by
    unfold B; generalize a.data.toList = x; generalize b.data.toList = y; by_cases h : x = y <;> simp [h]
  simp only [aggC, cellEq, this, Option.bind_some]
@[go_sem] theorem aggC_bool (a b : Bool) (r : Option Bool) : aggC (some (.bool a)) (some (.bool b)) .bool r = r.map ((a == b) && ·) := by
  simp [aggC, cellEq]

/-! slices that are made and grow -/
def elB (o : Option Obj) (sz lo n : Nat) : Option (List (List D)) := match o with
  | some (.vec sz' es) => if sz = sz' ∧ lo + n ≤ es.length then some ((es.drop lo).take n) else none
  | _ => none
@[go_sem] theorem elB_vec (sz' sz lo n : Nat) (es : List (List D)) : elB (some (.vec sz' es)) sz lo n = if sz = sz' ∧ lo + n ≤ es.length then some ((es.drop lo).take n) else none := rfl
@[go_sem] theorem elems_nil (sz : Nat) : elemsD H sz .nilsl = some [] := rfl
@[go_sem] theorem elems_sl (sz sz' : Nat) (es : List (List D)) : elemsD H sz (.sl sz' es) = if sz = sz' then some es else none := rfl
@[go_sem] theorem elems_str (sz : Nat) (s : ByteArray) : elemsD H sz (.str s) = if sz = 1 then some (bytesE s) else none := rfl
@[go_sem] theorem elems_vec (sz b sz' lo n : Nat) : elemsD H sz (.vec b sz' lo n) = if sz = sz' then elB (H b) sz lo n else none := by
  simp only [elemsD]
  generalize H b = o
  cases o with
  | none => rfl
  | some o => cases o <;> rfl
@[go_sem] theorem setE_nil (es : List (List D)) : setE es [] = some es := rfl
@[go_sem] theorem setE_cons (es : List (List D)) (i : Nat) (d : D) (ps : List (Nat × D)) : setE es ((i, d) :: ps) = if i < es.length ∧ d.cells.length = (es.getD i []).length ∧ d.cells.all D.one = true then setE (es.set i d.cells) ps else none := rfl
def bsC (o : Option (List (List D))) (sz len : Nat) (H : Heap) (KD : D → Heap → Prop) : Prop := match o with
  | some es => ∀ b, H b = none → KD (.vec b sz 0 len) (H.set b (.vec sz es))
  | none => False
@[go_sem] theorem bsC_some (es : List (List D)) (sz len : Nat) : bsC (some es) sz len H KD = ∀ b, H b = none → KD (.vec b sz 0 len) (H.set b (.vec sz es)) := rfl
def bsB (z : Option (List D)) (sz len : Nat) (ps : List (Nat × D)) (H : Heap) (KD : D → Heap → Prop) : Prop := match z with
  | some z => z.length = sz ∧ bsC (setE (List.replicate len z) ps) sz len H KD
  | none => False
@[go_sem] theorem bsB_some (z : List D) (sz len : Nat) (ps : List (Nat × D)) : bsB (some z) sz len ps H KD = (z.length = sz ∧ bsC (setE (List.replicate len z) ps) sz len H KD) := rfl
def bsA (P : Program) (et : Option (Nat × Nat × Nat)) (len : Nat) (ps : List (Nat × D)) (H : Heap) (KD : D → Heap → Prop) : Prop := match et with
  | some (e, sz, _) => 0 < sz ∧ len * sz ≤ 16777216 ∧ bsB (zeroD P e) sz len ps H KD
  | none => False
@[go_sem] theorem bsA_some (e sz by_ len : Nat) (ps : List (Nat × D)) : bsA P (some (e, sz, by_)) len ps H KD = (0 < sz ∧ len * sz ≤ 16777216 ∧ bsB (zeroD P e) sz len ps H KD) := rfl
@[go_sem] theorem s_buildSlice (t len : Nat) (ps : List (Nat × Operand)) : wpOp P ev H KD (.buildSlice t len ps.toArray) = bsA P (elemT P t) len (ps.map fun p => (p.1, ev p.2)) H KD := by
  show (∃ e sz by_ z es, elemT P t = some (e, sz, by_) ∧ 0 < sz ∧ len * sz ≤ 16777216 ∧ zeroD P e = some z ∧ z.length = sz ∧ setE (List.replicate len z) (ps.map fun p => (p.1, ev p.2)) = some es ∧ _) = _
  apply propext
  constructor
  · rintro ⟨e, sz, by_, z, es, h1, h2, h3, h4, h5, h6, h7⟩
    rw [h1]
    refine ⟨h2, h3, ?_⟩
    rw [h4]
    refine ⟨h5, ?_⟩
    rw [h6]
    exact h7
  · intro h
    cases he : elemT P t with
    | none => rw [he] at h; exact h.elim
    | some e =>
      obtain ⟨e, sz, by_⟩ := e
      rw [he] at h
      obtain ⟨h2, h3, h⟩ := h
      cases hz : zeroD P e with
      | none => rw [hz] at h; exact h.elim
      | some z =>
        rw [hz] at h
        obtain ⟨h5, h⟩ := h
        cases hs : setE (List.replicate len z) (ps.map fun p => (p.1, ev p.2)) with
        | none => rw [hs] at h; exact h.elim
        | some es => rw [hs] at h; exact ⟨e, sz, by_, z, es, rfl, h2, h3, hz, h5, hs, h⟩
def apV (o : Option Obj) (b sz n by_ : Nat) (xs : List (List D)) (H : Heap) (KD : D → Heap → Prop) : Prop := match o with
  | some (.vec sz' es) => sz = sz' ∧ n ≤ es.length ∧ (n + xs.length) * by_ ≤ 140737488355328 ∧ n + xs.length ≤ 9223372036854775807 ∧ ∀ b', H.del b b' = none → KD (.vec b' sz 0 (n + xs.length)) ((H.del b).set b' (.vec sz (es.take n ++ xs)))
  | _ => False
@[go_sem] theorem apV_vec (b sz sz' n by_ : Nat) (es xs : List (List D)) : apV (some (.vec sz' es)) b sz n by_ xs H KD = (sz = sz' ∧ n ≤ es.length ∧ (n + xs.length) * by_ ≤ 140737488355328 ∧ n + xs.length ≤ 9223372036854775807 ∧ ∀ b', H.del b b' = none → KD (.vec b' sz 0 (n + xs.length)) ((H.del b).set b' (.vec sz (es.take n ++ xs)))) := rfl
def apS (s : D) (sz by_ : Nat) (xs : List (List D)) (H : Heap) (KD : D → Heap → Prop) : Prop := match s with
  | .nilsl => xs.length * by_ ≤ 140737488355328 ∧ xs.length ≤ 9223372036854775807 ∧ (xs = [] → KD .nilsl H) ∧ (xs ≠ [] → ∀ b, H b = none → KD (.vec b sz 0 xs.length) (H.set b (.vec sz xs)))
  | .vec b sz' lo n => sz' = sz ∧ lo = 0 ∧ apV (H b) b sz n by_ xs H KD
  | _ => False
@[go_sem] theorem apS_nil (sz by_ : Nat) (xs : List (List D)) : apS .nilsl sz by_ xs H KD = (xs.length * by_ ≤ 140737488355328 ∧ xs.length ≤ 9223372036854775807 ∧ (xs = [] → KD .nilsl H) ∧ (xs ≠ [] → ∀ b, H b = none → KD (.vec b sz 0 xs.length) (H.set b (.vec sz xs)))) := rfl
@[go_sem] theorem apS_vec (b sz sz' lo n by_ : Nat) (xs : List (List D)) : apS (.vec b sz' lo n) sz by_ xs H KD = (sz' = sz ∧ lo = 0 ∧ apV (H b) b sz n by_ xs H KD) := rfl
def apX (o : Option (List (List D))) (s : D) (sz by_ : Nat) (H : Heap) (KD : D → Heap → Prop) : Prop := match o with
  | some xs => apS s sz by_ xs H KD
  | none => False
@[go_sem] theorem apX_some (xs : List (List D)) (s : D) (sz by_ : Nat) : apX (some xs) s sz by_ H KD = apS s sz by_ xs H KD := rfl
def apZ (o : Option (List D)) (sz : Nat) : Prop := match o with
  | some z => z.length = sz
  | none => False
@[go_sem] theorem apZ_some (z : List D) (sz : Nat) : apZ (some z) sz = (z.length = sz) := rfl
def apT (b : Base) : Prop := b = .slice ∨ b = .str
@[go_sem] theorem apT_slice : apT .slice = True := by simp [apT]
@[go_sem] theorem apT_str : apT .str = True := by simp [apT]
def apK (P : Program) (et : Option (Nat × Nat × Nat)) (bt : Base) (s x : D) (H : Heap) (KD : D → Heap → Prop) : Prop := match et with
  | some (e, sz, by_) => 0 < sz ∧ apT bt ∧ apZ (zeroD P e) sz ∧ apX (elemsD H sz x) s sz by_ H KD
  | none => False
@[go_sem] theorem apK_some (e sz by_ : Nat) (bt : Base) (s x : D) : apK P (some (e, sz, by_)) bt s x H KD = (0 < sz ∧ apT bt ∧ apZ (zeroD P e) sz ∧ apX (elemsD H sz x) s sz by_ H KD) := rfl
@[go_sem] theorem s_append_ (s x : Operand) (t t' : Nat) : appendA P ev H KD t t' s x = apK P (elemT P t) (baseT P t') (ev s) (ev x) H KD := by
  unfold appendA
  apply propext
  constructor
  · rintro ⟨e, sz, by_, h1, h2, h3, h4, xs, h5, h6⟩
    rw [h1]
    refine ⟨h2, h3, ?_, ?_⟩
    · cases hz : zeroD P e with
      | none => rw [hz] at h4; cases h4
      | some z => rw [hz] at h4; simpa [apZ] using h4
    · rw [h5]
      show apS _ _ _ _ _ _
      cases hs : ev s <;> rw [hs] at h6 <;> try exact h6.elim
      · exact h6
      · obtain ⟨h7, h8, es, h9, h10⟩ := h6
        refine ⟨h7, h8, ?_⟩
        rw [h9]
        exact ⟨rfl, h10⟩
  · intro h
    cases he : elemT P t with
    | none => rw [he] at h; exact h.elim
    | some e =>
      obtain ⟨e, sz, by_⟩ := e
      rw [he] at h
      obtain ⟨h2, h3, h4, h5⟩ := h
      cases hx : elemsD H sz (ev x) with
      | none => rw [hx] at h5; exact h5.elim
      | some xs =>
        rw [hx] at h5
        refine ⟨e, sz, by_, rfl, h2, h3, ?_, xs, hx, ?_⟩
        · cases hz : zeroD P e with
          | none => rw [hz] at h4; exact h4.elim
          | some z => rw [hz] at h4; simpa [apZ] using h4
        · change apS _ _ _ _ _ _ at h5
          cases hs : ev s <;> rw [hs] at h5 <;> try exact h5.elim
          · exact h5
          · obtain ⟨h7, h8, h9⟩ := h5
            refine ⟨h7, h8, ?_⟩
            rename_i b sz' lo n
            cases ho : H b with
            | none => rw [ho] at h9; exact h9.elim
            | some o =>
              rw [ho] at h9
              cases o with
              | vec sz2 es => obtain ⟨rfl, h10⟩ := h9; exact ⟨es, rfl, h10⟩
              | _ => exact h9.elim

/-! conversions -/
def intT (P : Program) (t : Nat) : Option IntKind := match P.underlying t with
  | some (.int k) => some k
  | _ => none
def bytesT (P : Program) (t : Nat) : Bool := match P.underlying t with
  | some (.slice e) => match P.underlying e with
    | some (.int .u8) => true
    | _ => false
  | _ => false
def cvI (d : D) (k : Option IntKind) (H : Heap) (KD : D → Heap → Prop) : Prop := match d, k with
  | .int _ n, some k => KD (.int k (k.wrap n)) H
  | _, _ => False
@[go_sem] theorem cvI_int (k k' : IntKind) (n : Int) : cvI (.int k n) (some k') H KD = KD (.int k' (k'.wrap n)) H := rfl
@[go_sem] theorem s_conv_ii (s t : Nat) (x : Operand) (h1 : (intT P s).isSome = true) (h2 : (intT P t).isSome = true) : wpOp P ev H KD (.convert s t x) = cvI (ev x) (intT P t) H KD := by
  unfold intT at h1 h2
  split at h1
  · rename_i k1 e1
    split at h2
    · rename_i k2 e2
      have hc : cls P (.convert s t x) = .pure := by simp [cls, e1, e2]
      simp only [wpOp, hc, pureD]
      unfold cvI intT
      rw [e2]
      cases hx : ev x <;> simp [convD, e1, e2, hx, base_of_int e1]
    · cases h2
  · cases h1
def cvSB (d : D) (H : Heap) (KD : D → Heap → Prop) : Prop := match d with
  | .str z => ∀ b, H b = none → KD (.vec b 1 0 z.size) (H.set b (.vec 1 (bytesE z)))
  | _ => False
@[go_sem] theorem cvSB_str (z : ByteArray) : cvSB (.str z) H KD = ∀ b, H b = none → KD (.vec b 1 0 z.size) (H.set b (.vec 1 (bytesE z))) := rfl
theorem s_conv_sb (s t : Nat) (x : Operand) (h1 : baseT P s = .str) (h2 : bytesT P t = true) (h : cvSB (ev x) H KD) : wpOp P ev H KD (.convert s t x) := by
  obtain ⟨e, hu, he⟩ : ∃ e, P.underlying t = some (.slice e) ∧ P.underlying e = some (.int .u8) := by
    unfold bytesT at h2
    split at h2
    · rename_i e hu
      split at h2
      · rename_i he; exact ⟨e, hu, he⟩
      · cases h2
    · cases h2
  have hs : P.underlying s = some .string := by
    unfold baseT at h1
    split at h1 <;> simp_all
  have hc : cls P (.convert s t x) = .eff := by simp [cls, hs, hu]
  simp only [wpOp, hc, convA]
  cases hx : ev x <;> rw [hx] at h <;> try exact h.elim
  exact ⟨h1, by simp [hu, he], h⟩
theorem s_conv_bs (s t : Nat) (x : Operand) (z : ByteArray) (h1 : bytesT P s = true) (h2 : baseT P t = .str) (hz : elemsD H 1 (ev x) = some (bytesE z)) (hn : ∀ z', ev x ≠ .str z') (h : KD (.str z) H) : wpOp P ev H KD (.convert s t x) := by
  obtain ⟨e, hu, he⟩ : ∃ e, P.underlying s = some (.slice e) ∧ P.underlying e = some (.int .u8) := by
    unfold bytesT at h1
    split at h1
    · rename_i e hu
      split at h1
      · rename_i he; exact ⟨e, hu, he⟩
      · cases h1
    · cases h1
  have hs : P.underlying t = some .string := by
    unfold baseT at h2
    split at h2 <;> simp_all
  have hc : cls P (.convert s t x) = .eff := by simp [cls, hs, hu]
  simp only [wpOp, hc, convA]
  cases hx : ev x <;> first | exact absurd hx (hn _) | (rw [hx] at hz; exact ⟨h2, by simp [hu, he], z, hz, h⟩)

/-! iterators -/
def rangeA (P : Program) (t : Nat) (x : D) (H : Heap) (KD : D → Heap → Prop) : Prop := match x with
  | .str s => P.underlying t = some .string ∧ ∀ b, H b = none → KD (.box b 0) (H.set b (.iter s 0))
  | _ => False
@[go_sem] theorem s_range (t : Nat) (x : Operand) : wpOp P ev H KD (.range t x) = rangeA P t (ev x) H KD := by
  show (match ev x with | _ => _) = _
  unfold rangeA; rfl
@[go_sem] theorem rangeA_str (t : Nat) (s : ByteArray) : rangeA P t (.str s) H KD = (P.underlying t = some .string ∧ ∀ b, H b = none → KD (.box b 0) (H.set b (.iter s 0))) := rfl
def nextB (o : Option Obj) (b : Nat) (H : Heap) (KD : D → Heap → Prop) : Prop := match o with
  | some (.iter s pos) => (pos < s.size → KD (.tuple [.bool true, .int .i64 pos, .int .i32 (Utf8.decode s pos).1]) (H.set b (.iter s (pos + (Utf8.decode s pos).2)))) ∧ (¬ pos < s.size → KD (.tuple [.bool false]) H)
  | _ => False
def nextA (x : D) (H : Heap) (KD : D → Heap → Prop) : Prop := match x with
  | .box b 0 => nextB (H b) b H KD
  | _ => False
@[go_sem] theorem s_next (x : Operand) : wpOp P ev H KD (.next x true) = nextA (ev x) H KD := by
  show (match ev x, true with | .box b 0, true => _ | _, _ => False) = _
  unfold nextA nextB
  cases ev x <;> try rfl
  rename_i b off
  cases off <;> rfl
@[go_sem] theorem nextA_box (b : Nat) : nextA (.box b 0) H KD = nextB (H b) b H KD := rfl
@[go_sem] theorem nextB_iter (s : ByteArray) (pos b : Nat) : nextB (some (.iter s pos)) b H KD = ((pos < s.size → KD (.tuple [.bool true, .int .i64 pos, .int .i32 (Utf8.decode s pos).1]) (H.set b (.iter s (pos + (Utf8.decode s pos).2)))) ∧ (¬ pos < s.size → KD (.tuple [.bool false]) H)) := rfl

/-! memory -/
variable {t : Nat}
@[go_sem] theorem heap_same (b : Nat) (o : Obj) : (H.set b o) b = some o := by simp [Heap.set]
theorem heap_ne_ {b k : Nat} (o : Obj) (h : k ≠ b) : (H.set b o) k = H k := by simp [Heap.set, h]
@[go_sem] theorem heap_set_set (b : Nat) (o o' : Obj) : (H.set b o).set b o' = H.set b o' := by
  funext k; unfold Heap.set; split <;> rfl
theorem heap_set_le {b : Nat} {o : Obj} (h : H b = some o) : (H.set b o).Le H := fun k x hx => by
  unfold Heap.set at hx
  split at hx
  · rename_i e; rw [e, h]; exact hx
  · exact hx
theorem set_none {b k : Nat} {o : Obj} : (H.set b o) k = none ↔ k ≠ b ∧ H k = none := by unfold Heap.set; by_cases h : k = b <;> simp [h]
theorem del_none {b k : Nat} : (H.del b) k = none ↔ k = b ∨ H k = none := by unfold Heap.del; by_cases h : k = b <;> simp [h]
theorem heap_box_le {b : Nat} {cs cs' : List D} (h : cs = cs') : (H.set b (.box cs)).Le (H.set b (.box cs')) := by rw [h]; exact Heap.Le.refl _
theorem del_ne {b k : Nat} (h : k ≠ b) : (H.del b) k = H k := by simp [Heap.del, h]
@[go_sem] theorem del_same {b : Nat} : (H.del b) b = none := by simp [Heap.del]
theorem heap_le_set {b : Nat} {o : Obj} (h : H b = none) : H.Le (H.set b o) := fun k x hx => by
  rw [heap_ne_ o (by rintro rfl; rw [h] at hx; cases hx)]; exact hx
theorem heap_ne {b k : Nat} (o : Obj) (h : k ≠ b) : (H.set b o) k = H k := by simp [Heap.set, h]
def loadK : Option (Bool × Nat) → Option (List D) → Option D
  | some s, some cs => takeD s cs
  | _, _ => none
@[go_sem] theorem load_def (a : D) : loadD P t a H = loadK (shapeT P t) (locD H a) := by
  unfold loadD loadK
  cases shapeT P t <;> simp
  cases locD H a <;> rfl
@[go_sem] theorem loadK_some (s : Bool × Nat) (cs : List D) : loadK (some s) (some cs) = takeD s cs := rfl
def locB : Option Obj → Nat → Option (List D)
  | some (.box cs), off => some (cs.drop off)
  | _, _ => none
def locE : Option Obj → Nat → Nat → Nat → Option (List D)
  | some (.vec sz' es), sz, i, off => if sz = sz' then (es[i]?).map (·.drop off) else none
  | _, _, _, _ => none
@[go_sem] theorem loc_box (b off : Nat) : locD H (.box b off) = locB (H b) off := by
  simp only [locD]
  generalize H b = o
  cases o with
  | none => rfl
  | some o => cases o <;> rfl
@[go_sem] theorem loc_el (b sz i off : Nat) : locD H (.el b sz i off) = locE (H b) sz i off := by
  simp only [locD]
  generalize H b = o
  cases o with
  | none => rfl
  | some o => cases o <;> rfl
def locG : Option Obj → Option (List D)
  | some (.ro cs) => some cs
  | _ => none
@[go_sem] theorem loc_glob (g : Nat) : locD H (.glob g) = locG (H g) := by
  simp only [locD]
  generalize H g = o
  cases o with
  | none => rfl
  | some o => cases o <;> rfl
@[go_sem] theorem locG_ro (cs : List D) : locG (some (.ro cs)) = some cs := rfl
@[go_sem] theorem loc_ro (cs : List D) : locD H (.ro cs) = some cs := rfl
@[go_sem] theorem locB_box (cs : List D) (off : Nat) : locB (some (.box cs)) off = some (cs.drop off) := rfl
@[go_sem] theorem locE_vec (sz sz' i off : Nat) (es : List (List D)) : locE (some (.vec sz' es)) sz i off = if sz = sz' then (es[i]?).map (·.drop off) else none := rfl
@[go_sem] theorem take_val (n : Nat) (cs : List D) : takeD (false, n) cs = cs.head? := rfl
@[go_sem] theorem take_agg (n : Nat) (cs : List D) : takeD (true, n) cs = if n ≤ cs.length then some (.agg (cs.take n)) else none := rfl
def storeB : Option (Bool × Nat) → Option Obj → Nat → Nat → List D → Heap → Option Heap
  | some (_, n), some (.box cs), b, off, xs, H => if n = xs.length ∧ xs.all D.one = true ∧ off + xs.length ≤ cs.length then some (H.set b (.box (putAt cs off xs))) else none
  | _, _, _, _, _, _ => none
def storeE : Option (Bool × Nat) → Option Obj → Nat → Nat → Nat → Nat → List D → Heap → Option Heap
  | some (_, n), some (.vec sz' es), b, sz, i, off, xs, H => if n = xs.length ∧ xs.all D.one = true ∧ sz = sz' ∧ i < es.length ∧ off + xs.length ≤ sz then some (H.set b (.vec sz (es.set i (putAt (es.getD i []) off xs)))) else none
  | _, _, _, _, _, _, _, _ => none
@[go_sem] theorem store_box (b off : Nat) (x : D) : storeD P t (.box b off) x H = storeB (shapeT P t) (H b) b off x.cells H := by
  unfold storeD
  cases hs : shapeT P t with
  | none => simp [storeB]
  | some s =>
    obtain ⟨bb, n⟩ := s
    cases hb : H b with
    | none => simp [storeB, hb]
    | some o => cases o with
      | box cs =>
        simp only [Option.map_some, Option.some.injEq, storeB, hb]
        by_cases h1 : n = x.cells.length <;> by_cases h2 : x.cells.all D.one = true <;> by_cases h3 : off + x.cells.length ≤ cs.length <;> simp only [h1, h2, h3] <;> simp
      | vec => simp [storeB, hb]
      | ro => simp [storeB, hb]
      | iter => simp [storeB, hb]
@[go_sem] theorem store_el (b sz i off : Nat) (x : D) : storeD P t (.el b sz i off) x H = storeE (shapeT P t) (H b) b sz i off x.cells H := by
  unfold storeD
  cases hs : shapeT P t with
  | none => simp [storeE]
  | some s =>
    obtain ⟨bb, n⟩ := s
    cases hb : H b with
    | none => simp [storeE, hb]
    | some o => cases o with
      | box cs => simp [storeE, hb]
      | ro cs => simp [storeE, hb]
      | iter => simp [storeE, hb]
      | vec sz' es =>
        simp only [Option.map_some, Option.some.injEq, storeE, hb]
        by_cases h1 : n = x.cells.length <;> by_cases h2 : x.cells.all D.one = true <;> simp only [h1, h2] <;> simp
@[go_sem] theorem storeB_box (bb : Bool) (n b off : Nat) (cs xs : List D) : storeB (some (bb, n)) (some (.box cs)) b off xs H = if n = xs.length ∧ xs.all D.one = true ∧ off + xs.length ≤ cs.length then some (H.set b (.box (putAt cs off xs))) else none := rfl
@[go_sem] theorem storeE_vec (bb : Bool) (n b sz sz' i off : Nat) (es : List (List D)) (xs : List D) : storeE (some (bb, n)) (some (.vec sz' es)) b sz i off xs H = if n = xs.length ∧ xs.all D.one = true ∧ sz = sz' ∧ i < es.length ∧ off + xs.length ≤ sz then some (H.set b (.vec sz (es.set i (putAt (es.getD i []) off xs)))) else none := rfl
@[go_sem] theorem putAt_nil (cs : List D) (i : Nat) : putAt cs i [] = cs := by cases cs <;> rfl
@[go_sem] theorem putAt_cons (cs xs : List D) (i : Nat) (x : D) : putAt cs i (x :: xs) = putAt (cs.set i x) (i + 1) xs := by cases cs <;> rfl
@[go_sem] theorem cells_agg (cs : List D) : (D.agg cs).cells = cs := rfl
@[go_sem] theorem cells_int (k : IntKind) (n : Int) : (D.int k n).cells = [.int k n] := rfl
@[go_sem] theorem cells_bool (b : Bool) : (D.bool b).cells = [.bool b] := rfl
@[go_sem] theorem cells_str (s : ByteArray) : (D.str s).cells = [.str s] := rfl
@[go_sem] theorem cells_nilsl : D.nilsl.cells = [.nilsl] := rfl
@[go_sem] theorem cells_sl (sz : Nat) (es : List (List D)) : (D.sl sz es).cells = [.sl sz es] := rfl
@[go_sem] theorem cells_vec (b sz lo n : Nat) : (D.vec b sz lo n).cells = [.vec b sz lo n] := rfl
@[go_sem] theorem cells_box (b o : Nat) : (D.box b o).cells = [.box b o] := rfl
@[go_sem] theorem cells_el (b s i o : Nat) : (D.el b s i o).cells = [.el b s i o] := rfl
@[go_sem] theorem cells_ro (cs : List D) : (D.ro cs).cells = [.ro cs] := rfl
@[go_sem] theorem cells_nilp : D.nilp.cells = [.nilp] := rfl
@[go_sem] theorem cells_nilif : D.nilif.cells = [.nilif] := rfl
@[go_sem] theorem cells_nilfn : D.nilfn.cells = [.nilfn] := rfl
@[go_sem] theorem cells_fn (f : Fn) (a b : List D) : (D.fn f a b).cells = [.fn f a b] := rfl
@[go_sem] theorem cells_iface (t : Nat) (d : D) : (D.iface t d).cells = [.iface t d] := rfl
attribute [go_sem] D.one

/-! slices, strings, places -/
def sliceK (e : Option (Nat × Nat × Nat)) (sz : Nat) (o : Option D) : Option D := match e with
  | some (_, sz', _) => if sz' = sz then o else none
  | none => none
@[go_sem] theorem sliceK_some (e sz' by_ sz : Nat) (o : Option D) : sliceK (some (e, sz', by_)) sz o = if sz' = sz then o else none := rfl
def sliceB (x : D) : Option (Nat × Nat) → Option D
  | none => none
  | some (l, h) => match x with
    | .str s => some (.str (s.extract l h))
    | .nilsl => some .nilsl
    | .sl sz es => some (.sl sz ((es.take h).drop l))
    | .vec b sz lo _ => some (if l = 0 then .vec b sz lo h else if l < h then .vec b sz (lo + l) (h - l) else .sl sz [])
    | _ => none
def sliceO (x : D) (b : Option (Nat × Nat)) : Option D := sliceB x b
theorem sliceO_ite_ (x : D) (c : Prop) [Decidable c] (b : Option (Nat × Nat)) : sliceO x (if c then b else none) = if c then sliceO x b else none := by split <;> rfl
theorem bd_ln_ (n : Nat) (k : IntKind) (l : Int) : boundsD n (some (.int k l)) none = if 0 ≤ l ∧ l ≤ n then some (l.toNat, n) else none := rfl
theorem bd_nh_ (n : Nat) (k : IntKind) (h : Int) : boundsD n none (some (.int k h)) = if 0 ≤ h ∧ h ≤ n then some (0, h.toNat) else none := rfl
theorem bd_lh_ (n : Nat) (k k' : IntKind) (l h : Int) : boundsD n (some (.int k l)) (some (.int k' h)) = if 0 ≤ l ∧ l ≤ h ∧ h ≤ n then some (l.toNat, h.toNat) else none := rfl
theorem slice_str (s : ByteArray) (lo hi : Option D) : sliceD P t (.str s) lo hi = if baseT P t = .str then sliceO (.str s) (boundsD s.size lo hi) else none := by
  simp only [sliceD, sliceO]
  generalize boundsD s.size lo hi = o
  cases o <;> rfl
def strK (b : Base) (o : Option D) : Option D := if b = .str then o else none
@[go_sem] theorem strK_str (o : Option D) : strK .str o = o := rfl
@[go_sem] theorem slice_str_nn (s : ByteArray) : sliceD P t (.str s) none none = strK (baseT P t) (some (.str s)) := by
  rw [slice_str]; unfold strK
  have : s.extract 0 s.size = s := by rw [extract_S, ← B_len, List.take_length, List.drop_zero, S_B]
  split
  · show some (D.str (s.extract 0 s.size)) = _
    rw [this]
  · rfl
@[go_sem] theorem slice_str_ln (s : ByteArray) (k : IntKind) (l : Int) : sliceD P t (.str s) (some (.int k l)) none = strK (baseT P t) (if 0 ≤ l ∧ l ≤ s.size then some (.str (S ((B s).drop l.toNat))) else none) := by
  rw [slice_str]; unfold strK
  have : s.extract l.toNat s.size = S ((B s).drop l.toNat) := by rw [extract_S, ← B_len, List.take_length]
  rw [bd_ln_, sliceO_ite_]
  split
  · split
    · show some (D.str (s.extract l.toNat s.size)) = _
      rw [this]
    · rfl
  · rfl
@[go_sem] theorem slice_str_nh (s : ByteArray) (k : IntKind) (h : Int) : sliceD P t (.str s) none (some (.int k h)) = strK (baseT P t) (if 0 ≤ h ∧ h ≤ s.size then some (.str (S ((B s).take h.toNat))) else none) := by
  rw [slice_str]; unfold strK
  have : s.extract 0 h.toNat = S ((B s).take h.toNat) := by rw [extract_S, List.drop_zero]
  rw [bd_nh_, sliceO_ite_]
  split
  · split
    · show some (D.str (s.extract 0 h.toNat)) = _
      rw [this]
    · rfl
  · rfl
@[go_sem] theorem slice_str_lh (s : ByteArray) (k k' : IntKind) (l h : Int) : sliceD P t (.str s) (some (.int k l)) (some (.int k' h)) = strK (baseT P t) (if 0 ≤ l ∧ l ≤ h ∧ h ≤ s.size then some (.str (S (((B s).take h.toNat).drop l.toNat))) else none) := by
  rw [slice_str]; unfold strK
  rw [bd_lh_, sliceO_ite_]
  split
  · split
    · show some (D.str (s.extract l.toNat h.toNat)) = _
      rw [extract_S]
    · rfl
  · rfl
@[go_sem] theorem slice_nil (lo hi : Option D) : sliceD P t .nilsl lo hi = if (elemT P t).isSome then sliceO .nilsl (boundsD 0 lo hi) else none := by
  simp only [sliceD, sliceO]
  generalize boundsD 0 lo hi = o
  cases o <;> rfl
@[go_sem] theorem slice_sl (sz : Nat) (es : List (List D)) (lo hi : Option D) : sliceD P t (.sl sz es) lo hi = sliceK (elemT P t) sz (sliceO (.sl sz es) (boundsD es.length lo hi)) := by
  simp only [sliceD, sliceO]
  generalize boundsD es.length lo hi = o
  cases elemT P t with
  | none => simp [sliceK]
  | some e => cases o <;> simp [sliceB, sliceK]
@[go_sem] theorem slice_vec (b sz l n : Nat) (lo hi : Option D) : sliceD P t (.vec b sz l n) lo hi = sliceK (elemT P t) sz (sliceO (.vec b sz l n) (boundsD n lo hi)) := by
  simp only [sliceD, sliceO]
  generalize boundsD n lo hi = o
  cases elemT P t with
  | none => simp [sliceK]
  | some e => cases o <;> simp [sliceB, sliceK]
@[go_sem] theorem sliceO_some (x : D) (l h : Nat) : sliceO x (some (l, h)) = sliceB x (some (l, h)) := rfl
@[go_sem] theorem sliceO_ite (x : D) (c : Prop) [Decidable c] (b : Option (Nat × Nat)) : sliceO x (if c then b else none) = if c then sliceO x b else none := by split <;> rfl
@[go_sem] theorem sliceB_str (s : ByteArray) (l h : Nat) : sliceB (.str s) (some (l, h)) = some (.str (s.extract l h)) := rfl
@[go_sem] theorem sliceB_nil (l h : Nat) : sliceB .nilsl (some (l, h)) = some .nilsl := rfl
@[go_sem] theorem sliceB_sl (sz l h : Nat) (es : List (List D)) : sliceB (.sl sz es) (some (l, h)) = some (.sl sz ((es.take h).drop l)) := rfl
@[go_sem] theorem sliceB_vec (b sz lo n l h : Nat) : sliceB (.vec b sz lo n) (some (l, h)) = some (if l = 0 then .vec b sz lo h else if l < h then .vec b sz (lo + l) (h - l) else .sl sz []) := rfl
@[go_sem] theorem bd_nn (n : Nat) : boundsD n none none = some (0, n) := rfl
@[go_sem] theorem bd_ln (n : Nat) (k : IntKind) (l : Int) : boundsD n (some (.int k l)) none = if 0 ≤ l ∧ l ≤ n then some (l.toNat, n) else none := rfl
@[go_sem] theorem bd_nh (n : Nat) (k : IntKind) (h : Int) : boundsD n none (some (.int k h)) = if 0 ≤ h ∧ h ≤ n then some (0, h.toNat) else none := rfl
@[go_sem] theorem bd_lh (n : Nat) (k k' : IntKind) (l h : Int) : boundsD n (some (.int k l)) (some (.int k' h)) = if 0 ≤ l ∧ l ≤ h ∧ h ≤ n then some (l.toNat, h.toNat) else none := rfl
@[go_sem] theorem len_str (s : ByteArray) : lenD P t (.str s) = if baseT P t = .str then some (.int .i64 s.size) else none := rfl
@[go_sem] theorem len_nil : lenD P t .nilsl = if baseT P t = .slice then some (.int .i64 0) else none := rfl
@[go_sem] theorem len_sl (sz : Nat) (es : List (List D)) : lenD P t (.sl sz es) = if baseT P t = .slice then some (.int .i64 es.length) else none := rfl
@[go_sem] theorem len_vec (b sz lo n : Nat) : lenD P t (.vec b sz lo n) = if baseT P t = .slice then some (.int .i64 n) else none := rfl
@[go_sem] theorem ix_str (s : ByteArray) (k : IntKind) (n : Int) : indexD P t (.str s) (.int k n) = if baseT P t = .str ∧ 0 ≤ n ∧ n < s.size then some (.int .u8 (at8 s n)) else none := rfl
@[go_sem] theorem ia_sl (sz : Nat) (es : List (List D)) (k : IntKind) (n : Int) : indexAddrD P t (.sl sz es) (.int k n) = sliceK (elemT P t) sz (if 0 ≤ n ∧ n < es.length then some (.ro (es.getD n.toNat [])) else none) := by
  unfold indexAddrD sliceK
  cases elemT P t with
  | none => simp
  | some e => obtain ⟨a, b, c⟩ := e; by_cases h : b = sz <;> simp [h]
@[go_sem] theorem ia_vec (b sz l m : Nat) (k : IntKind) (n : Int) : indexAddrD P t (.vec b sz l m) (.int k n) = sliceK (elemT P t) sz (if 0 ≤ n ∧ n < m then some (.el b sz (l + n.toNat) 0) else none) := by
  unfold indexAddrD sliceK
  cases elemT P t with
  | none => simp
  | some e => obtain ⟨a, b', c⟩ := e; by_cases h : b' = sz <;> simp [h]
def fieldK (f : Option (Nat × Bool × Nat)) (x : D) : Option D := match f with
  | some (o, _, n) => if n = 0 then none else match x with
    | .box b off => some (.box b (off + o))
    | .el b sz i off => some (.el b sz i (off + o))
    | .ro cs => some (.ro (cs.drop o))
    | _ => none
  | none => none
def fieldsK (l : Option (List (Nat × Bool × Nat))) (f : Nat) : Option (Nat × Bool × Nat) := match l with
  | some l => l[f]?
  | none => none
@[go_sem] theorem fieldsK_some (l : List (Nat × Bool × Nat)) (f : Nat) : fieldsK (some l) f = l[f]? := rfl
@[go_sem] theorem fa_def (x : D) (f : Nat) : fieldAddrD P t x f = fieldK (fieldsK (fieldsT P t) f) x := by
  unfold fieldAddrD fieldK fieldsK
  cases fieldsT P t <;> rfl
@[go_sem] theorem fieldK_box (o n b off : Nat) (bb : Bool) : fieldK (some (o, bb, n)) (.box b off) = if n = 0 then none else some (.box b (off + o)) := rfl
@[go_sem] theorem fieldK_el (o n b sz i off : Nat) (bb : Bool) : fieldK (some (o, bb, n)) (.el b sz i off) = if n = 0 then none else some (.el b sz i (off + o)) := rfl
@[go_sem] theorem fieldK_ro (o n : Nat) (bb : Bool) (cs : List D) : fieldK (some (o, bb, n)) (.ro cs) = if n = 0 then none else some (.ro (cs.drop o)) := rfl
def partK (f : Option (Nat × Bool × Nat)) (x : D) : Option D := match f, x with
  | some (o, s), .agg cs => takeD s (cs.drop o)
  | _, _ => none
@[go_sem] theorem fd_def (x : D) (f : Nat) : fieldD P t x f = partK (fieldsK (fieldsT P t) f) x := by
  unfold fieldD partK fieldsK
  cases fieldsT P t <;> rfl
@[go_sem] theorem partK_agg (o : Nat) (s : Bool × Nat) (cs : List D) : partK (some (o, s)) (.agg cs) = takeD s (cs.drop o) := rfl

/-! the end -/
@[go_sem] theorem retQ_ret (rs : List ResultVar) (Q : D → Heap → Prop) : retQ P rs Q .ret E H = finK (resA P rs E H) Q H := rfl
@[go_sem] theorem retQ_normal (rs : List ResultVar) (Q : D → Heap → Prop) : retQ P rs Q .normal E H = finK (resA P rs E H) Q H := rfl
@[go_sem] theorem finK_some (d : D) (Q : D → Heap → Prop) : finK (some d) Q H = Fin Q d H := by simp [finK]
@[go_sem] theorem resA_none : resA P [] E H = some (.tuple []) := rfl
@[go_sem] theorem resA_tmp (t : Nat) : resA P [.tmp t] E H = some (E.get t) := rfl
def resL (P : Program) (rs : List ResultVar) (E : Env) (H : Heap) : Option (List D) := rs.mapM (resA1 P E H)
def consO : Option D → Option (List D) → Option (List D)
  | some d, some l => some (d :: l)
  | _, _ => none
@[go_sem] theorem consO_some (d : D) (l : List D) : consO (some d) (some l) = some (d :: l) := rfl
@[go_sem] theorem resL_nil : resL P [] E H = some [] := rfl
@[go_sem] theorem resL_cons (r : ResultVar) (rs : List ResultVar) : resL P (r :: rs) E H = consO (resA1 P E H r) (resL P rs E H) := by
  simp only [resL, List.mapM_cons, Option.bind_eq_bind, Option.pure_def]
  cases resA1 P E H r <;> cases List.mapM (resA1 P E H) rs <;> rfl
@[go_sem] theorem resA_many (r r' : ResultVar) (rs : List ResultVar) : resA P (r :: r' :: rs) E H = (resL P (r :: r' :: rs) E H).map .tuple := by
  unfold resA
  show Option.map _ (resL P (r :: r' :: rs) E H) = _
  rw [resL_cons, resL_cons]
  cases resA1 P E H r <;> cases resA1 P E H r' <;> cases resL P rs E H <;> rfl
@[go_sem] theorem resA1_tmp (t : Nat) : resA1 P E H (.tmp t) = some (E.get t) := rfl
@[go_sem] theorem resA1_cell (a t : Nat) : resA1 P E H (.cell a t) = loadD P t (E.get a) H := rfl
@[go_sem] theorem resA_cell (a t : Nat) : resA P [.cell a t] E H = loadD P t (E.get a) H := by
  simp [resA, resA1, List.mapM_cons]
  cases loadD P t (E.get a) H <;> rfl
end

/-! integers that fit -/
theorem wrap8 {x : Int} (h1 : 0 ≤ x) (h2 : x ≤ 255) : IntKind.u8.wrap x = x := IntWalk.u8_in _ (by omega)
theorem wrap64 {x : Int} (h1 : -9223372036854775808 ≤ x) (h2 : x ≤ 9223372036854775807) : IntKind.i64.wrap x = x := IntWalk.i64_in _ (by omega)

/-! loops -/
def Sub : Env → Env → Prop
  | [], _ => True
  | (i, d) :: r, E => E.get i = d ∧ Sub r E

/-- The next round begins. -/
def Nx {ι : Type} (Ei : ι → Env) (Hi : ι → Heap) (Inv : ι → Prop) (μ : ι → Nat) (x : ι) : Env → Heap → Prop := fun E' H' => ∃ y, Inv y ∧ μ y < μ x ∧ Weak (Ei y) (Hi y) E' H'

theorem Sub.all : ∀ {E0 E : Env}, Sub E0 E → ∀ p ∈ E0, E.get p.1 = p.2
  | [], _, _, _, hp => by simp at hp
  | (i, d) :: r, E, h, p, hp => by
    rcases List.mem_cons.1 hp with rfl | hp
    · exact h.1
    · exact Sub.all h.2 p hp

theorem loop_w {P : Program} {Z : List (Nat × Bool)} {c : Code} {Q : AX → Env → Heap → Prop} {E : Env} {H : Heap} {ι : Type} (Ei : ι → Env) (Hi : ι → Heap) (Inv : ι → Prop) (μ : ι → Nat) (x0 : ι) (h0 : Inv x0) (hw : Weak (Ei x0) (Hi x0) E H)
    (step : ∀ x, Inv x → wp P Z c (loopK Q (Nx Ei Hi Inv μ x)) (Ei x) (Hi x)) : Loop P Z c Q E H := by
  refine ⟨fun n E H => ∃ x, Inv x ∧ μ x = n ∧ E = Ei x ∧ H = Hi x, ⟨μ x0, Ei x0, Hi x0, hw, x0, h0, rfl, rfl, rfl⟩, ?_⟩
  rintro n E1 H1 ⟨x, hx, rfl, rfl, rfl⟩
  have hmono : (fun E' H' => ∃ m E0 H0, m < μ x ∧ Weak E0 H0 E' H' ∧ ∃ x, Inv x ∧ μ x = m ∧ E0 = Ei x ∧ H0 = Hi x) = Nx Ei Hi Inv μ x := by
    funext E' H'
    apply propext
    constructor
    · rintro ⟨m, E0, H0, hm, hw, y, hy, rfl, rfl, rfl⟩
      exact ⟨y, hy, hm, hw⟩
    · rintro ⟨y, hy, hm, hs⟩
      exact ⟨μ y, Ei y, Hi y, hm, hs, y, hy, rfl, rfl, rfl⟩
  have := step x hx
  rw [hmono]
  exact this
theorem loop_a {P : Program} {Z : List (Nat × Bool)} {c : Code} {Q : AX → Env → Heap → Prop} {E : Env} {H : Heap} {ι : Type} (Ei : ι → Env) (Hi : ι → Heap) (Inv : ι → Prop) (μ : ι → Nat) (x0 : ι) (h0 : Inv x0) (hE : Sub (Ei x0) E) (hH : (Hi x0).Le H)
    (step : ∀ x, Inv x → wp P Z c (loopK Q (Nx Ei Hi Inv μ x)) (Ei x) (Hi x)) : Loop P Z c Q E H := loop_w Ei Hi Inv μ x0 h0 (weak_of hE.all hH) step
attribute [go_sem] Sub
theorem nx_mk {ι : Type} {Ei : ι → Env} {Hi : ι → Heap} {Inv : ι → Prop} {μ : ι → Nat} {x : ι} {E' : Env} {H' : Heap} (y : ι) (h1 : Inv y) (h2 : μ y < μ x) (h3 : Sub (Ei y) E') (h4 : (Hi y).Le H') : Nx Ei Hi Inv μ x E' H' := ⟨y, h1, h2, weak_of h3.all h4⟩
theorem nx_w {ι : Type} {Ei : ι → Env} {Hi : ι → Heap} {Inv : ι → Prop} {μ : ι → Nat} {x : ι} {E' : Env} {H' : Heap} (y : ι) (h1 : Inv y) (h2 : μ y < μ x) (h3 : Weak (Ei y) (Hi y) E' H') : Nx Ei Hi Inv μ x E' H' := ⟨y, h1, h2, h3⟩
/-- A byte, as a number. -/
def nth (l : List UInt8) (k : Nat) : Int := ((l.getD k 0).toNat : Int)
theorem at8_nat (s : ByteArray) (k : Nat) : at8 s k = nth (B s) k := rfl
@[go_sem] theorem at8_S (l : List UInt8) (i : Int) : at8 (S l) i = nth l i.toNat := by
  show (((S l).data.toList.getD i.toNat 0).toNat : Int) = _
  rw [show (S l).data.toList = l from B_S l]; rfl
theorem at8_zero (s : ByteArray) : at8 s 0 = nth (B s) 0 := rfl
theorem nth_range (l : List UInt8) (k : Nat) : 0 ≤ nth l k ∧ nth l k ≤ 255 := ⟨by unfold nth; omega, by unfold nth; have := (l.getD k 0).toNat_lt; omega⟩
attribute [irreducible] Fin Loop Nx
attribute [go_sem] argEnv List.map_cons List.map_nil Option.map_some Option.map_none List.nil_append List.append_nil List.cons_append Bool.not_true Bool.not_false Bool.not_eq_true' Bool.not_eq_false' decide_eq_true_eq decide_eq_false_iff_not true_and and_true List.drop_succ_cons List.drop_zero List.head?_cons List.take_succ_cons List.take_zero List.length_cons List.length_nil List.set_cons_zero List.set_cons_succ List.all_cons List.all_nil Bool.and_true Bool.true_and List.getElem?_cons_zero List.getElem?_cons_succ Nat.zero_add Nat.add_zero Int.toNat_natCast forall_const implies_true Option.isSome_some ne_eq not_true_eq_false not_false_eq_true Nat.le_refl beq_iff_eq bne_iff_ne beq_eq_false_iff_ne Nat.le_add_left Nat.not_lt_zero beq_self_eq_true if_true if_false List.length_drop List.length_take Int.toNat_natCast_add_one Option.map_map List.size_toArray List.mem_singleton false_imp_iff true_imp_iff List.length_append List.map_append List.length_map decide_true decide_false List.replicate_succ List.replicate_zero List.getD_cons_zero List.getD_cons_succ List.append_eq Nat.min_self
end Go.Av
