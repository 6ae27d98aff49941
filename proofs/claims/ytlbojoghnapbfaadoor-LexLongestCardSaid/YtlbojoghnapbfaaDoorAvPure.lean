/- Av: what the pure operations leave, on abstract values; and that they do so in every world. -/
import Derived.Test.YtlbojoghnapbfaaDoorAvBase
import Derived.Test.YtlbojoghnapbfaaDoorAvSem
namespace Go.Av

/-! ### The types, as functions -/
inductive Base where
  | bool | int | str | ptr | slice | iface | func | map | struct | other
  deriving DecidableEq

def baseT (P : Program) (t : TypeId) : Base := match P.underlying t with
  | some .bool => .bool | some (.int _) => .int | some .string => .str | some (.pointer _) => .ptr | some (.slice _) => .slice
  | some (.interface _) => .iface | some (.func ..) => .func | some (.map ..) => .map | some (.struct _) => .struct | _ => .other

/-- A slice type's element: its type, its cells, its bytes. -/
def elemT (P : Program) (t : TypeId) : Option (Nat × Nat × Nat) := match P.underlying t with
  | some (.slice e) => (P.info? e).map fun i => (e, i.size, i.bytes)
  | _ => none

/-- An array type's length and the cells of its element. -/
def arrT (P : Program) (t : TypeId) : Option (Nat × Nat) := match P.underlying t with
  | some (.array n e) => (P.info? e).map fun i => (n, i.size)
  | _ => none

/-- Is it a struct or an array; how many cells. -/
def shapeT (P : Program) (t : TypeId) : Option (Bool × Nat) := match P.underlying t, P.info? t with
  | some (.struct _), some i => some (true, i.size)
  | some (.array ..), some i => some (true, i.size)
  | some _, some i => some (false, i.size)
  | _, _ => none

/-- A struct's fields: where each stands, is it an aggregate, its cells. -/
def fieldsT (P : Program) (t : TypeId) : Option (List (Nat × Bool × Nat)) := match P.underlying t with
  | some (.struct fs) => fs.toList.mapM fun f => (shapeT P f.type).map fun s => (f.offset, s.1, s.2)
  | _ => none

/-! ### Values of constants -/
def D.ofCell : Value → D
  | .bool b => .bool b
  | .int k n => .int k n
  | .string s => .str s
  | .pointer none => .nilp
  | .slice none 0 0 => .nilsl
  | .nilIface => .nilif
  | .nilFunc => .nilfn
  | _ => .undef

def D.ofValue : Value → D
  | .agg vs => if (vs.toList.map D.ofCell).all D.one then .agg (vs.toList.map D.ofCell) else .undef
  | v => D.ofCell v

theorem ofCell_R (w : World) (H : Heap) (v : Value) : R w H (D.ofCell v) v := by
  cases v with
  | pointer a => cases a <;> constructor
  | slice a n c =>
    unfold D.ofCell
    split <;> rename_i h <;> first | (cases h <;> constructor) | constructor
  | _ => constructor

theorem ofValue_R (w : World) (H : Heap) (v : Value) : R w H (D.ofValue v) v := by
  unfold D.ofValue
  split
  · rename_i vs
    split
    · rename_i hall
      refine .agg _ _ (by simp) (fun i d hd => ?_) (fun i d hd => ?_)
      · exact List.all_eq_true.1 hall d (List.mem_of_getElem? hd)
      · simp only [List.getElem?_map, Option.map_eq_some_iff] at hd
        obtain ⟨u, hu, rfl⟩ := hd
        have : vs.getD i Go.undef = u := by
          have h' : vs[i]? = some u := by simpa using hu
          simp [h']
        rw [this]
        exact ofCell_R w H u
    · constructor
  · exact ofCell_R w H v

abbrev Env := List (Nat × D)

def Env.get : Env → Nat → D
  | [], _ => .undef
  | (i, d) :: E, j => if i = j then d else Env.get E j

def Env.put (E : Env) : Option Nat → D → Env
  | some i, d => (i, d) :: E
  | none, _ => E

def Env.ev (E : Env) : Operand → D
  | .tmp t => E.get t
  | .const v => D.ofValue v
  | .global g => .glob g
  | .func f => .fn (.func f) [] []

/-! ### Operators -/
def at8 (s : ByteArray) (i : Int) : Int := ((s.data.toList.getD i.toNat 0).toNat : Int)

def intD (op : BinOp) (k : IntKind) (a b : Int) : Option D := match op with
  | .add => some (.int k (k.wrap (a + b)))
  | .sub => some (.int k (k.wrap (a - b)))
  | .mul => some (.int k (k.wrap (a * b)))
  | .quo => if b = 0 then none else some (.int k (k.wrap (a.tdiv b)))
  | .rem => if b = 0 then none else some (.int k (a.tmod b))
  | .and => some (.int k (k.wrap (BitVec.ofInt k.bits a &&& BitVec.ofInt k.bits b).toNat))
  | .or => some (.int k (k.wrap (BitVec.ofInt k.bits a ||| BitVec.ofInt k.bits b).toNat))
  | .xor => some (.int k (k.wrap (BitVec.ofInt k.bits a ^^^ BitVec.ofInt k.bits b).toNat))
  | .andNot => some (.int k (k.wrap (BitVec.ofInt k.bits a &&& ~~~ BitVec.ofInt k.bits b).toNat))
  | .eql => some (.bool (a == b))
  | .neq => some (.bool (a != b))
  | .lss => some (.bool (decide (a < b)))
  | .leq => some (.bool (decide (a ≤ b)))
  | .gtr => some (.bool (decide (b < a)))
  | .geq => some (.bool (decide (b ≤ a)))
  | _ => none

def strD (op : BinOp) (x y : ByteArray) : Option D := match op with
  | .add => if x.size + y.size ≤ 9223372036854775807 then some (.str (x ++ y)) else none
  | .eql => some (.bool (x.data.toList == y.data.toList))
  | .neq => some (.bool (!(x.data.toList == y.data.toList)))
  | .lss => some (.bool (Op.bytesLess x.data.toList y.data.toList))
  | .leq => some (.bool (Op.bytesLess x.data.toList y.data.toList || x.data.toList == y.data.toList))
  | .gtr => some (.bool (!(Op.bytesLess x.data.toList y.data.toList || x.data.toList == y.data.toList)))
  | .geq => some (.bool (!(Op.bytesLess x.data.toList y.data.toList)))
  | _ => none

/-- Whether a pointer, a slice, a function, an interface value is nil. -/
def nilD (b : Base) : D → Option Bool
  | .nilp => if b = .ptr then some true else none
  | .box .. | .el .. | .ro _ | .glob _ => if b = .ptr then some false else none
  | .nilsl => if b = .slice then some true else none
  | .vec .. => if b = .slice then some false else none
  | .nilfn => if b = .func then some true else none
  | .fn .. => if b = .func then some false else none
  | .nilif => if b = .iface then some true else none
  | .iface .. => if b = .iface then some false else none
  | _ => none

/-- '==' between a constant nil and another value. -/
def eqNil (b : Base) (x y : D) : Option Bool := match nilD b x, nilD b y with
  | some true, some c => some c
  | some c, some true => some c
  | _, _ => none

def isConst : Operand → Bool
  | .const _ => true
  | _ => false

def binD (P : Program) (op : BinOp) (t : TypeId) (cst : Bool) (x y : D) : Option D := match op, x, y with
  | .shl, .int k a, .int _ b => if b < 0 then none else some (.int k (k.wrap (a * 2 ^ (min b.toNat k.bits))))
  | .shr, .int k a, .int _ b => if b < 0 then none else some (.int k (a.fdiv (2 ^ (min b.toNat k.bits))))
  | op, .int k a, .int k' b => if k = k' then intD op k a b else none
  | op, .str a, .str b => strD op a b
  | .eql, .bool a, .bool b => if baseT P t = .bool then some (.bool (a == b)) else none
  | .neq, .bool a, .bool b => if baseT P t = .bool then some (.bool (!(a == b))) else none
  | .eql, x, y => if cst then (eqNil (baseT P t) x y).map .bool else none
  | .neq, x, y => if cst then (eqNil (baseT P t) x y).map fun b => .bool (!b) else none
  | _, _, _ => none

/-- A struct whose fields are numbers, strings and truth values: where each stands, and its kind. -/
def flatEq (P : Program) (t : TypeId) : Option (List (Nat × Base)) := if P.eqGuardType P.depth t = false ∧ P.stoodInHeld t = false then match P.underlying t with
  | some (.struct fs) => fs.toList.mapM fun f => if f.name ≠ "_" ∧ shapeT P f.type = some (false, 1) ∧ (baseT P f.type = .bool ∨ baseT P f.type = .int ∨ baseT P f.type = .str) then some (f.offset, baseT P f.type) else none
  | _ => none else none

def cellEq : Base → D → D → Option Bool
  | .int, .int k a, .int k' b => if k = k' then some (a == b) else none
  | .str, .str a, .str b => some (a.data.toList == b.data.toList)
  | .bool, .bool a, .bool b => some (a == b)
  | _, _, _ => none

def aggEq : List (Nat × Base) → List D → List D → Option Bool
  | [], _, _ => some true
  | (o, bs) :: fs, xs, ys => match xs[o]?, ys[o]? with
    | some x, some y => (cellEq bs x y).bind fun c => (aggEq fs xs ys).map (c && ·)
    | _, _ => none

def bin2D (P : Program) (op : BinOp) (t : TypeId) (cst : Bool) (x y : D) : Option D := match op, x, y with
  | .eql, .agg xs, .agg ys => (flatEq P t).bind fun fs => (aggEq fs xs ys).map .bool
  | .neq, .agg xs, .agg ys => (flatEq P t).bind fun fs => (aggEq fs xs ys).map fun b => .bool (!b)
  | op, x, y => binD P op t cst x y

/-- The cells of a type, off the front of a row. -/
def takeD (s : Bool × Nat) (cs : List D) : Option D := match s with
  | (true, n) => if n ≤ cs.length then some (.agg (cs.take n)) else none
  | (false, _) => cs.head?

def putAt : List D → Nat → List D → List D
  | cs, _, [] => cs
  | cs, i, x :: xs => putAt (cs.set i x) (i + 1) xs

def fillD (place : Nat → Option (Nat × Nat)) (cells : List D) : List (Nat × D) → Option (List D)
  | [] => some cells
  | (i, d) :: rest => match place i with
    | none => none
    | some (off, size) => if d.cells.length = size ∧ off + size ≤ cells.length ∧ d.cells.all D.one = true then fillD place (putAt cells off d.cells) rest else none

def zeroD (P : Program) (t : TypeId) : Option (List D) := ((P.info? t).bind (·.zero)).bind fun v =>
  if (v.cells.toList.map D.ofCell).all D.one then some (v.cells.toList.map D.ofCell) else none

/-- The bounds of a slice expression: low, high (both at most 'len'). -/
def boundsD (len : Nat) (lo hi : Option D) : Option (Nat × Nat) := match lo, hi with
  | none, none => some (0, len)
  | some (.int _ l), none => if 0 ≤ l ∧ l ≤ len then some (l.toNat, len) else none
  | none, some (.int _ h) => if 0 ≤ h ∧ h ≤ len then some (0, h.toNat) else none
  | some (.int _ l), some (.int _ h) => if 0 ≤ l ∧ l ≤ h ∧ h ≤ len then some (l.toNat, h.toNat) else none
  | _, _ => none

def sliceD (P : Program) (t : TypeId) (x : D) (lo hi : Option D) : Option D := match x with
  | .str s => if baseT P t = .str then (boundsD s.size lo hi).map fun b => .str (s.extract b.1 b.2) else none
  | .nilsl => if (elemT P t).isSome then (boundsD 0 lo hi).map fun _ => .nilsl else none
  | .sl sz es => if (elemT P t).map (·.2.1) = some sz then (boundsD es.length lo hi).map fun b => .sl sz ((es.take b.2).drop b.1) else none
  | .vec b sz l n => if (elemT P t).map (·.2.1) = some sz then (boundsD n lo hi).map fun p => if p.1 = 0 then .vec b sz l p.2 else if p.1 < p.2 then .vec b sz (l + p.1) (p.2 - p.1) else .sl sz [] else none
  | _ => none

def lenD (P : Program) (t : TypeId) : D → Option D
  | .str s => if baseT P t = .str then some (.int .i64 s.size) else none
  | .nilsl => if baseT P t = .slice then some (.int .i64 0) else none
  | .sl _ es => if baseT P t = .slice then some (.int .i64 es.length) else none
  | .vec _ _ _ n => if baseT P t = .slice then some (.int .i64 n) else none
  | _ => none

def indexAddrD (P : Program) (t : TypeId) (x i : D) : Option D := match x, i with
  | .sl sz es, .int _ n => if (elemT P t).map (·.2.1) = some sz ∧ 0 ≤ n ∧ n < es.length then some (.ro (es.getD n.toNat [])) else none
  | .vec b sz l m, .int _ n => if (elemT P t).map (·.2.1) = some sz ∧ 0 ≤ n ∧ n < m then some (.el b sz (l + n.toNat) 0) else none
  | .box b off, .int _ n => match arrT P t with
    | some (len, sz) => if 0 ≤ n ∧ n < len then some (.box b (off + n.toNat * sz)) else none
    | none => none
  | _, _ => none

def fieldAddrD (P : Program) (t : TypeId) (x : D) (f : Nat) : Option D := match (fieldsT P t).bind (·[f]?) with
  | some (o, _, n) => if n = 0 then none else match x with
    | .box b off => some (.box b (off + o))
    | .el b sz i off => some (.el b sz i (off + o))
    | .ro cs => some (.ro (cs.drop o))
    | _ => none
  | none => none

def fieldD (P : Program) (t : TypeId) (x : D) (f : Nat) : Option D := match (fieldsT P t).bind (·[f]?), x with
  | some (o, s), .agg cs => takeD s (cs.drop o)
  | _, _ => none

def indexD (P : Program) (t : TypeId) (x i : D) : Option D := match x, i with
  | .str s, .int _ n => if baseT P t = .str ∧ 0 ≤ n ∧ n < s.size then some (.int .u8 (at8 s n)) else none
  | _, _ => none

def min2D : D → D → Option D
  | .int k a, .int _ b => some (.int k (if b < a then b else a))
  | _, _ => none
def max2D : D → D → Option D
  | .int k a, .int _ b => some (.int k (if a < b then b else a))
  | _, _ => none

def unD : UnOp → D → Option D
  | .neg, .int k n => some (.int k (k.wrap (0 - n)))
  | .xor, .int k n => some (.int k (k.wrap (BitVec.ofInt k.bits (if k.signed then -1 else k.max) ^^^ BitVec.ofInt k.bits n).toNat))
  | .not, .bool b => some (.bool (!b))
  | _, _ => none

def convD (P : Program) (s t : TypeId) : D → Option D
  | .int _ n => match P.underlying s, P.underlying t with
    | some (.int _), some (.int k) => some (.int k (k.wrap n))
    | _, _ => none
  | .str x => if baseT P s = .str ∧ baseT P t = .str then some (.str x) else none
  | _ => none

def foldD (f : D → D → Option D) : List D → Option D
  | [] => none
  | x :: l => l.foldlM f x

def pureD (P : Program) (ev : Operand → D) : Op → Option D
  | .move x | .assign x => some (ev x)
  | .pick c a b => match ev c with
    | .bool t => some (if t then ev a else ev b)
    | _ => none
  | .build t parts => match baseT P t with
    | .struct => (zeroD P t).bind fun z => (fieldsT P t).bind fun fs => (fillD (fun i => (fs[i]?).map fun f => (f.1, f.2.2)) z (parts.toList.map fun p => (p.1, ev p.2))).map .agg
    | _ => none
  | .nilCheck x => match ev x with
    | .box b off => some (.box b off)
    | .el b sz i off => some (.el b sz i off)
    | .ro cs => some (.ro cs)
    | .fn (.func f) a b => some (.fn (.func f) a b)
    | _ => none
  | .binOp op t x y _ => bin2D P op t (isConst x || isConst y) (ev x) (ev y)
  | .unOp op _ x => unD op (ev x)
  | .convert s t x => convD P s t (ev x)
  | .fieldAddr s x f => fieldAddrD P s (ev x) f
  | .field t x f => fieldD P t (ev x) f
  | .indexAddr t x i => indexAddrD P t (ev x) (ev i)
  | .index t x i => indexD P t (ev x) (ev i)
  | .slice t x lo hi none => sliceD P t (ev x) (lo.map ev) (hi.map ev)
  | .extract x i => match ev x with
    | .tuple ds => ds[i]?
    | _ => none
  | .makeInterface t x => if baseT P t = .iface ∨ (P.underlying t).isNone then none else some (.iface t (ev x))
  | .makeFunc fn first captured => some (.fn fn (first.toList.map ev) (captured.toList.map ev))
  | .call c => match c.callee with
    | .builtin .len => match c.argTypes[0]?, c.args[0]? with
      | some t, some x => lenD P t (ev x)
      | _, _ => none
    | .builtin .min => foldD min2D (c.args.toList.map ev)
    | .builtin .max => foldD max2D (c.args.toList.map ev)
    | _ => none
  | _ => none

end Go.Av
