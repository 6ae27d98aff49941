/- Av: operations on memory: loads, stores, new variables, slices that grow; calls. -/
import Derived.Test.YtlbojoghnapbfaaDoorAvPureOk4
import Derived.Laws.IdiomCopy
import Derived.Laws.Append
import Derived.Laws.RangeString
namespace Go.Av

/-- Behind an operation or a call. -/
def Post (H : Heap) (w : World) (K : D → Heap → Prop) (v : Value) (w' : World) : Prop :=
  ∃ d H', R w' H' d v ∧ Sat H' w' ∧ Ext H w w' ∧ From w H H' ∧ K d H'

theorem Post.mono {H : Heap} {w : World} {K K' : D → Heap → Prop} {v : Value} {w' : World} (h : Post H w K v w') (hK : ∀ d H', K d H' → K' d H') : Post H w K' v w' :=
  let ⟨d, H', h1, h2, h3, h4, h5⟩ := h; ⟨d, H', h1, h2, h3, h4, hK _ _ h5⟩

def bodied (P : Program) (f : Nat) : Bool := match P.funcs[f]? with
  | some fn => fn.body.isSome && fn.name != "runtime.NumGoroutine"
  | none => false

/-- A call, on abstract values: it returns. -/
def ACalls (P : Program) (f : Nat) (args : List D) (H : Heap) (Q : D → Heap → Prop) : Prop :=
  bodied P f = true ∧ ∀ w (vs : Array Value), args.length = vs.size → (∀ (i : Nat) d, args[i]? = some d → R w H d (vs.getD i Go.undef)) → Sat H w →
    Calls P f vs w fun e w' => ∃ v, e = .returned v ∧ Post H w Q v w'

theorem ACalls.mono {P : Program} {f : Nat} {args : List D} {H : Heap} {Q Q' : D → Heap → Prop} (h : ACalls P f args H Q) (hq : ∀ d H', Q d H' → Q' d H') : ACalls P f args H Q' :=
  ⟨h.1, fun w vs h1 h2 h3 => (h.2 w vs h1 h2 h3).mono fun _ _ ⟨v, he, hp⟩ => ⟨v, he, hp.mono hq⟩⟩

/-! ### What the operations do, on abstract values -/
def locD (H : Heap) : D → Option (List D)
  | .box b off => match H b with
    | some (.box cs) => some (cs.drop off)
    | _ => none
  | .el b sz i off => match H b with
    | some (.vec sz' es) => if sz = sz' then (es[i]?).map (·.drop off) else none
    | _ => none
  | .ro cs => some cs
  | .glob g => match H g with
    | some (.ro cs) => some cs
    | _ => none
  | _ => none

def loadD (P : Program) (t : TypeId) (a : D) (H : Heap) : Option D := (shapeT P t).bind fun s => (locD H a).bind (takeD s)

def storeD (P : Program) (t : TypeId) (a x : D) (H : Heap) : Option Heap :=
  if (shapeT P t).map (·.2) = some x.cells.length ∧ x.cells.all D.one = true then match a with
    | .box b off => match H b with
      | some (.box cs) => if off + x.cells.length ≤ cs.length then some (H.set b (.box (putAt cs off x.cells))) else none
      | _ => none
    | .el b sz i off => match H b with
      | some (.vec sz' es) => if sz = sz' ∧ i < es.length ∧ off + x.cells.length ≤ sz then some (H.set b (.vec sz (es.set i (putAt (es.getD i []) off x.cells)))) else none
      | _ => none
    | _ => none
  else none

def bytesE (s : ByteArray) : List (List D) := s.data.toList.map fun c => [D.int .u8 c.toNat]

/-- What a slice (or a string's bytes) holds. -/
def elemsD (H : Heap) (sz : Nat) : D → Option (List (List D))
  | .nilsl => some []
  | .sl sz' es => if sz = sz' then some es else none
  | .vec b sz' lo n => if sz = sz' then match H b with
    | some (.vec sz'' es) => if sz = sz'' ∧ lo + n ≤ es.length then some ((es.drop lo).take n) else none
    | _ => none else none
  | .str s => if sz = 1 then some (bytesE s) else none
  | _ => none

def setE : List (List D) → List (Nat × D) → Option (List (List D))
  | es, [] => some es
  | es, (i, d) :: ps => if i < es.length ∧ d.cells.length = (es.getD i []).length ∧ d.cells.all D.one = true then setE (es.set i d.cells) ps else none

def appendA (P : Program) (ev : Operand → D) (H : Heap) (K : D → Heap → Prop) (t t' : TypeId) (s x : Operand) : Prop :=
  ∃ e sz by_, elemT P t = some (e, sz, by_) ∧ 0 < sz ∧ (baseT P t' = .slice ∨ baseT P t' = .str) ∧ (zeroD P e).map (·.length) = some sz ∧ ∃ xs, elemsD H sz (ev x) = some xs ∧ match ev s with
    | .nilsl => xs.length * by_ ≤ 140737488355328 ∧ xs.length ≤ 9223372036854775807 ∧ (xs = [] → K .nilsl H) ∧ (xs ≠ [] → ∀ b, H b = none → K (.vec b sz 0 xs.length) (H.set b (.vec sz xs)))
    | .vec b sz' lo n => sz' = sz ∧ lo = 0 ∧ ∃ es, H b = some (.vec sz es) ∧ n ≤ es.length ∧ (n + xs.length) * by_ ≤ 140737488355328 ∧ n + xs.length ≤ 9223372036854775807 ∧
        ∀ b', H.del b b' = none → K (.vec b' sz 0 (n + xs.length)) ((H.del b).set b' (.vec sz (es.take n ++ xs)))
    | _ => False

def convA (P : Program) (ev : Operand → D) (H : Heap) (K : D → Heap → Prop) (s t : TypeId) (x : Operand) : Prop := match ev x with
  | .str z => baseT P s = .str ∧ (match P.underlying t with | some (.slice e) => P.underlying e = some (.int .u8) | _ => False) ∧ ∀ b, H b = none → K (.vec b 1 0 z.size) (H.set b (.vec 1 (bytesE z)))
  | d => baseT P t = .str ∧ (match P.underlying s with | some (.slice e) => P.underlying e = some (.int .u8) | _ => False) ∧ ∃ z, elemsD H 1 d = some (bytesE z) ∧ K (.str z) H

def wpOp (P : Program) (ev : Operand → D) (H : Heap) (K : D → Heap → Prop) (op : Op) : Prop := match op with
  | .load t x => ∃ d, loadD P t (ev x) H = some d ∧ K d H
  | .store t a x => ∃ H', storeD P t (ev a) (ev x) H = some H' ∧ K .undef H'
  | .alloc t => ∃ z, zeroD P t = some z ∧ ∀ b, H b = none → K (.box b 0) (H.set b (.box z))
  | .box _ x => (ev x).cells.all D.one = true ∧ ∀ b, H b = none → K (.box b 0) (H.set b (.box (ev x).cells))
  | .buildSlice t len parts => ∃ e sz by_ z es, elemT P t = some (e, sz, by_) ∧ 0 < sz ∧ len * sz ≤ 16777216 ∧ zeroD P e = some z ∧ z.length = sz ∧ setE (List.replicate len z) (parts.toList.map fun p => (p.1, ev p.2)) = some es ∧
      ∀ b, H b = none → K (.vec b sz 0 len) (H.set b (.vec sz es))
  | .makeSlice t l c => ∃ e sz by_ z k n k' m, elemT P t = some (e, sz, by_) ∧ 0 < sz ∧ zeroD P e = some z ∧ z.length = sz ∧ ev l = .int k n ∧ ev c = .int k' m ∧ 0 ≤ n ∧ n ≤ m ∧ by_ * m ≤ 281474976710656 ∧ m < 9223372036854775808 ∧
      ∀ b, H b = none → K (.vec b sz 0 n.toNat) (H.set b (.vec sz (List.replicate n.toNat z)))
  | .convert s t x => match cls P (.convert s t x) with
    | .pure => ∃ d, pureD P ev (.convert s t x) = some d ∧ K d H
    | _ => convA P ev H K s t x
  | .call c => match c.callee with
    | .value f => match ev f with
      | .fn (.func g) first captured => ACalls P g (first ++ c.args.toList.map ev ++ captured) H K
      | _ => False
    | .builtin .append => match c.argTypes.toList, c.args.toList with
      | [t, t'], [s, x] => appendA P ev H K t t' s x
      | _, _ => False
    | _ => match cls P (.call c) with
      | .pure => ∃ d, pureD P ev (.call c) = some d ∧ K d H
      | _ => False
  | .range t x => match ev x with
    | .str s => P.underlying t = some .string ∧ ∀ b, H b = none → K (.box b 0) (H.set b (.iter s 0))
    | _ => False
  | .next x isString => match ev x, isString with
    | .box b 0, true => match H b with
      | some (.iter s pos) => (pos < s.size → K (.tuple [.bool true, .int .i64 pos, .int .i32 (Utf8.decode s pos).1]) (H.set b (.iter s (pos + (Utf8.decode s pos).2)))) ∧ (¬ pos < s.size → K (.tuple [.bool false]) H)
      | _ => False
    | _, _ => False
  | op => match cls P op with
    | .pure => ∃ d, pureD P ev op = some d ∧ K d H
    | _ => False

/-- Less some blocks. -/
def Heap.minus (H : Heap) (l : List Nat) : Heap := fun k => if k ∈ l then none else H k

/-- An operation of a region where what is read of the blocks 'l' may be read early or late; 'sx': stores, too, must let them be. -/
def wpOpR (P : Program) (sx : Bool) (l : List Nat) (ev : Operand → D) (H : Heap) (K : D → Heap → Prop) (op : Op) : Prop := match op with
  | .load t x => (match ev x with | .box b _ => b ∈ l | .el b _ _ _ => b ∈ l | _ => False) ∧ wpOp P ev H K (.load t x)
  | .store t a x => (sx = true → wpOp P ev (H.minus l) (fun _ _ => True) (.store t a x)) ∧ wpOp P ev H K (.store t a x)
  | .alloc t => wpOp P ev (H.minus l) (fun _ _ => True) (.alloc t) ∧ wpOp P ev H K (.alloc t)
  | .box t x => wpOp P ev (H.minus l) (fun _ _ => True) (.box t x) ∧ wpOp P ev H K (.box t x)
  | .buildSlice t n ps => wpOp P ev (H.minus l) (fun _ _ => True) (.buildSlice t n ps) ∧ wpOp P ev H K (.buildSlice t n ps)
  | .call ⟨.builtin .append, as, ts⟩ => wpOp P ev (H.minus l) (fun _ _ => True) (.call ⟨.builtin .append, as, ts⟩) ∧ wpOp P ev H K (.call ⟨.builtin .append, as, ts⟩)
  | op => cls P op = .pure ∧ wpOp P ev H K op

end Go.Av
