/- Part of the proof: what the last text builds on. No condition stands here. -/
import Derived.WalkKit
import Derived.Below
import Derived.MapKept
import Derived.Laws.StructEq
import Derived.Laws.IdiomCopy
import Derived.Laws.Append
import Derived.Laws.RangeString
import Derived.ChangeKeysEq
import Derived.IntWalk
import Derived.Laws.BytesString
import Derived.Orders
import Derived.Scope
import Derived.Test.YtacekpdodelnbaaGreatDoorProg
import Derived.KernelRfl
import Derived.Lib.AtoiAll
import Derived.Lib.ItoaNum
import Derived.Lib.Strings
import Derived.Lib.IndexMore
import Derived.Lib.ConvBytes
import Derived.Lib.LaidTab
import Derived.Sort.Grow
import Derived.Deep.Draws
import Derived.Lib.AppendZeros
import Derived.Shelf.RegionOpenPlain
import Derived.Lib.Walk
import Derived.Shelf.SlIter.Nil
import Derived.Shelf.SortM.Plain
import Derived.Shelf.SortM.SortNone
import Derived.Ground.GgzProg
import Derived.Ground.SlgmProg
import Derived.StringKeys
import Derived.Shelf.Small.Bits
import Derived.Shelf.Small.Strs
import Derived.Shelf.Small.Wraps
import Derived.Shelf.Strconv.Atoi
import Derived.Shelf.Strconv.Itoa0
import Derived.Shelf.Strconv.Itoa1
import Derived.Shelf.LaysM
import Derived.Shelf.Strconv.Itoa2
import Derived.Shelf.Strconv.Itoa3
import Derived.Shelf.Strconv.AtoiErrFast
import Derived.Shelf.Strconv.ParseIntEmpty
import Derived.Shelf.Strconv.AtoiFail
import Derived.Shelf.Strconv.Clone
import Derived.Shelf.Strconv.SyntaxError
import Derived.Shelf.LaysC
import Derived.Shelf.Strconv.ToError
import Derived.Shelf.Strconv.Lower
import Derived.Shelf.Strconv.ParseUint10
import Derived.Shelf.Strconv.ParseUint10Empty
import Derived.Shelf.Strconv.ParseUint10Any
import Derived.Shelf.Strconv.ParseInt10
import Derived.Shelf.Strconv.AtoiLong
import Derived.Shelf.Strconv.AtoiInnerAll
import Derived.Shelf.Strconv.RangeError
import Derived.Shelf.Strconv.ToErrorRange
import Derived.Shelf.Strconv.AtoiAll
import Derived.Shelf.Strconv.ErrVarAll
import Derived.Shelf.Strings.Search1
import Derived.Shelf.Strings.Search2
import Derived.Shelf.Strings.Cut
import Derived.Shelf.Strings.Shaped
import Derived.Shelf.Strings.Prefix
import Derived.Lib.Bytealg
import Derived.Lib.Atoi
import Derived.Laws.RangeAny
import Derived.ChangeArms
import Derived.ChangeMaps5
import Derived.DataReads
import Derived.Carry
import Derived.WideShapes
import GoSem.ClaimJoined
import Derived.Handed
import Derived.ProofKit
import Derived.LaidMore
import Derived.Test.YtacekpdodelnbaaGreatDoorRows
import Derived.Lay
import Derived.Stop.Joined
set_option linter.unusedSimpArgs false
set_option linter.unusedVariables false
section
namespace Go.Av
inductive D where
 | undef
 | bool (b : Bool)
 | int (k : IntKind) (n : Int)
 | str (s : ByteArray)
 | nilp
 | box (b off : Nat)
 | el (b sz i off : Nat)
 | ro (cs : List D)
 | nilsl
 | sl (sz : Nat) (es : List (List D))
 | vec (b sz lo n : Nat)
 | agg (cs : List D)
 | tuple (ds : List D)
 | fn (f : Fn) (first captured : List D)
 | nilfn
 | iface (t : TypeId) (d : D)
 | nilif
 | glob (g : Nat)
 | map (b : Nat)
 | nilmap
 deriving Inhabited
def D.one : D → Bool
 | .undef | .agg _ | .tuple _ => false
 | _ => true
def D.cells : D → List D
 | .agg cs => cs
 | d => [d]
inductive Obj where
 | box (cs : List D) (T : Option TypeId := none)
 | vec (sz : Nat) (es : List (List D))
 | ro (cs : List D)
 | iter (s : ByteArray) (pos : Nat)
 | map (kvs : List (D × D))
 | buf (T : TypeId) (bs : List UInt8)
def D.key : D → Bool
 | .int _ _ | .str _ | .bool _ => true
 | _ => false
def D.keyA : D → Bool
 | .agg cs => cs.all D.key
 | d => d.key
abbrev Heap := Nat → Option Obj
def Heap.set (H : Heap) (b : Nat) (o : Obj) : Heap := fun k => if k = b then some o else H k
def Heap.del (H : Heap) (b : Nat) : Heap := fun k => if k = b then none else H k
def Heap.Le (H H' : Heap) : Prop := ∀ b o, H b = some o → H' b = some o
def Obj.rw : Obj → Bool
 | .ro _ => false
 | _ => true
def Heap.held (H : Heap) (k : Nat) : Bool := match H k with
 | some o => o.rw
 | none => false
theorem held_none {H : Heap} {k : Nat} (h : H k = none) : H.held k = false := by unfold Heap.held; rw [h]
theorem held_of {H : Heap} {k : Nat} {o : Obj} (h : H k = some o) : H.held k = o.rw := by unfold Heap.held; rw [h]
theorem held_ne {H H' : Heap} {k : Nat} (h : H' k = H k) : H'.held k = H.held k := by unfold Heap.held; rw [h]
inductive R (w : World) (H : Heap) : D → Value → Prop
 | undef (v : Value) : R w H .undef v
 | bool (b : Bool) : R w H (.bool b) (.bool b)
 | int (k : IntKind) (n : Int) : R w H (.int k n) (.int k n)
 | str (s : ByteArray) : R w H (.str s) (.string s)
 | nilp : R w H .nilp (.pointer none)
 | box (b off : Nat) : R w H (.box b off) (.pointer (some ⟨b, off, none⟩))
 | el (b sz i off : Nat) : R w H (.el b sz i off) (.pointer (some ⟨b, i * sz + off, none⟩))
 | ro (cs : List D) (b off : Nat) (u : Nat → Value) (hb : b < w.heap.size) (hn : H.held b = false)
   (hc : ∀ j, j < cs.length → w.cell? ⟨b, off + j, none⟩ = some (u j)) (h1 : ∀ (j : Nat) (d : D), cs[j]? = some d → d.one = true)
   (hr : ∀ (j : Nat) (d : D), cs[j]? = some d → R w H d (u j)) : R w H (.ro cs) (.pointer (some ⟨b, off, none⟩))
 | nilsl : R w H .nilsl (.slice none 0 0)
 | sl0 (sz : Nat) (a : Option Addr) (cap : Nat) : R w H (.sl sz []) (.slice a 0 cap)
 | sl (sz : Nat) (es : List (List D)) (b off cap : Nat) (u : Nat → Nat → Value) (hb : b < w.heap.size) (hn : H.held b = false)
   (hlen : ∀ (i : Nat) (e : List D), es[i]? = some e → e.length = sz) (hcap : es.length ≤ cap)
   (hc : ∀ i j, i < es.length → j < sz → w.cell? ⟨b, off + i * sz + j, none⟩ = some (u i j))
   (h1 : ∀ (i : Nat) (e : List D) (j : Nat) (d : D), es[i]? = some e → e[j]? = some d → d.one = true)
   (hr : ∀ (i : Nat) (e : List D) (j : Nat) (d : D), es[i]? = some e → e[j]? = some d → R w H d (u i j)) : R w H (.sl sz es) (.slice (some ⟨b, off, none⟩) es.length cap)
 | vec (b sz lo n cap : Nat) (T : TypeId) (m : Nat) (hb : w.shape? b = some (T, m)) (hs : m = (lo + cap) * sz) (hsz : 0 < sz) (hn : n ≤ cap) :
   R w H (.vec b sz lo n) (.slice (some ⟨b, lo * sz, none⟩) n cap)
 | vec0 (b sz lo off : Nat) : R w H (.vec b sz lo 0) (.slice (some ⟨b, off, none⟩) 0 0)
 | agg (cs : List D) (vs : Array Value) (hl : cs.length = vs.size) (h1 : ∀ (i : Nat) (d : D), cs[i]? = some d → d.one = true) (hr : ∀ (i : Nat) (d : D), cs[i]? = some d → R w H d (vs.getD i Go.undef)) :
   R w H (.agg cs) (.agg vs)
 | tuple (ds : List D) (vs : Array Value) (hl : ds.length = vs.size) (hr : ∀ (i : Nat) (d : D), ds[i]? = some d → R w H d (vs.getD i Go.undef)) : R w H (.tuple ds) (.tuple vs)
 | fn (f : Fn) (ds es : List D) (vs us : Array Value) (hl : ds.length = vs.size) (hm : es.length = us.size)
   (hr : ∀ (i : Nat) (d : D), ds[i]? = some d → R w H d (vs.getD i Go.undef)) (hq : ∀ (i : Nat) (d : D), es[i]? = some d → R w H d (us.getD i Go.undef)) : R w H (.fn f ds es) (.func f vs us)
 | nilfn : R w H .nilfn .nilFunc
 | iface (t : TypeId) (d : D) (v : Value) (hr : R w H d v) : R w H (.iface t d) (.iface t v)
 | nilif : R w H .nilif .nilIface
 | glob (g : Nat) : R w H (.glob g) (.pointer (some ⟨g, 0, none⟩))
 | map (b : Nat) : R w H (.map b) (.map (some b))
 | nilmap : R w H .nilmap (.map none)
structure Ext (H : Heap) (w w' : World) : Prop where
 os : w'.os = w.os
 tape : w'.tape = w.tape
 output : w'.output = w.output
 size : w.heap.size ≤ w'.heap.size
 block : ∀ k, k < w.heap.size → H.held k = false → w'.heap[k]? = w.heap[k]?
 shape : ∀ k, k < w.heap.size → w'.shape? k = w.shape? k
def From (w : World) (H H' : Heap) : Prop := ∀ k, k < w.heap.size → H.held k = false → H'.held k = false
theorem shape_lt {w : World} {b : Nat} {x : TypeId × Nat} (h : w.shape? b = some x) : b < w.heap.size := by
 unfold World.shape? at h
 by_cases hb : b < w.heap.size
 ·exact hb
 ·simp [Array.getElem?_eq_none (Nat.le_of_not_lt hb)] at h
theorem Ext.cell {H : Heap} {w w' : World} (h : Ext H w w') {b off : Nat} (hb : b < w.heap.size) (hn : H.held b = false) :
  w'.cell? ⟨b, off, none⟩ = w.cell? ⟨b, off, none⟩ := World.cell?_of_block (w := w) (h.block b hb hn)
theorem R.mono {w w' : World} {H H' : Heap} {d : D} {v : Value} (h : R w H d v) (he : Ext H w w') (hf : From w H H') : R w' H' d v := by
 induction h with
 | ro cs b off u hb hn hc h1 _ ih => exact .ro cs b off u (Nat.lt_of_lt_of_le hb he.size) (hf b hb hn) (fun j hj => by rw [he.cell hb hn]; exact hc j hj) h1 ih
 | sl sz es b off cap u hb hn hlen hcap hc h1 _ ih =>
  exact .sl sz es b off cap u (Nat.lt_of_lt_of_le hb he.size) (hf b hb hn) hlen hcap (fun i j hi hj => by rw [he.cell hb hn]; exact hc i j hi hj) h1 ih
 | vec b sz lo n cap T m hb hs hsz hn => exact .vec b sz lo n cap T m (by rw [he.shape b (shape_lt hb)]; exact hb) hs hsz hn
 | vec0 b sz lo off => exact .vec0 b sz lo off
 | agg cs vs hl h1 _ ih => exact .agg cs vs hl h1 ih
 | tuple ds vs hl _ ih => exact .tuple ds vs hl ih
 | fn f ds es vs us hl hm _ _ ih ih' => exact .fn f ds es vs us hl hm ih ih'
 | iface t d v _ ih => exact .iface t d v ih
 | _ => constructor
theorem Ext.refl (H : Heap) (w : World) : Ext H w w := ⟨rfl, rfl, rfl, Nat.le_refl _, fun _ _ _ => rfl, fun _ _ => rfl⟩
theorem From.refl (w : World) (H : Heap) : From w H H := fun _ _ h => h
theorem Ext.trans {H H' : Heap} {a b c : World} (h : Ext H a b) (hf : From a H H') (k : Ext H' b c) : Ext H a c :=
  ⟨k.os.trans h.os, k.tape.trans h.tape, k.output.trans h.output, Nat.le_trans h.size k.size,
   fun i hi hn => (k.block i (Nat.lt_of_lt_of_le hi h.size) (hf i hi hn)).trans (h.block i hi hn),
   fun i hi => (k.shape i (Nat.lt_of_lt_of_le hi h.size)).trans (h.shape i hi)⟩
theorem From.trans {H H' H'' : Heap} {a b : World} (h : From a H H') (hs : a.heap.size ≤ b.heap.size) (k : From b H' H'') : From a H H'' :=
 fun i hi hn => k i (Nat.lt_of_lt_of_le hi hs) (h i hi hn)
theorem Heap.Le.refl (H : Heap) : H.Le H := fun _ _ h => h
theorem Heap.Le.trans {A B C : Heap} (h : A.Le B) (k : B.Le C) : A.Le C := fun b o x => k b o (h b o x)
theorem Heap.Le.held {A B : Heap} (h : A.Le B) {b : Nat} (hb : B.held b = false) : A.held b = false := by
 cases ha : A b with
 | none => exact held_none ha
 | some o => rw [held_of ha, ← held_of (h b o ha)]; exact hb
theorem Heap.Le.none {A B : Heap} (h : A.Le B) {b : Nat} (hb : B b = none) : A b = none := by
 cases ha : A b with
 | none => rfl
 | some o => rw [h b o ha] at hb; cases hb
theorem R.less {w : World} {H H' : Heap} {d : D} {v : Value} (h : R w H d v) (hl : H'.Le H) : R w H' d v :=
 h.mono (Ext.refl H w) fun _ _ hn => hl.held hn
def ObjOk (w : World) (H : Heap) (b : Nat) : Obj → Prop
 | .box cs Z => ∃ c T lo hi, w.heap[b]? = some (.cells c T (lo, hi)) ∧ (∀ j, j < c.size → ¬ (lo ≤ j ∧ j < hi)) ∧ c.size = cs.length ∧ (∀ (j : Nat) (d : D), cs[j]? = some d → d.one = true ∧ R w H d (c.getD j Go.undef)) ∧ ∀ t, Z = some t → T = t
 | .vec sz es => ∃ c T lo hi, w.heap[b]? = some (.cells c T (lo, hi)) ∧ (∀ j, j < c.size → ¬ (lo ≤ j ∧ j < hi)) ∧ 0 < sz ∧ es.length * sz ≤ c.size ∧ (∀ (i : Nat) (e : List D), es[i]? = some e → e.length = sz) ∧
   ∀ (i : Nat) (e : List D) (j : Nat) (d : D), es[i]? = some e → e[j]? = some d → d.one = true ∧ R w H d (c.getD (i * sz + j) Go.undef)
 | .ro cs => ∃ c T fz, w.heap[b]? = some (.cells c T fz) ∧ c.size = cs.length ∧ ∀ (j : Nat) (d : D), cs[j]? = some d → d.one = true ∧ R w H d (c.getD j Go.undef)
 | .iter s pos => w.heap[b]? = some (.stringIter s pos)
 | .buf T bs => ∃ c, w.heap[b]? = some (.cells c T (0, 0)) ∧ bs.length ≤ c.size ∧ c.size ≤ 9223372036854775807 ∧ c.toList.take bs.length = bs.map fun x => Value.int .u8 x.toNat
 | .map kvs => ∃ es clock, w.heap[b]? = some (.map es clock) ∧ MapKept.Stamped es clock ∧ es.size = kvs.length ∧
   ∀ (i : Nat) (p : D × D), kvs[i]? = some p → p.1.keyA = true ∧ R w H p.1 (es.getD i default).key ∧ R w H p.2 (es.getD i default).val
def Sat (H : Heap) (w : World) : Prop := ∀ b o, H b = some o → ObjOk w H b o
theorem ObjOk.mono {w w' : World} {H H' : Heap} {b : Nat} {o : Obj} (h : ObjOk w H b o) (he : Ext H w w') (hf : From w H H') (hb : w'.heap[b]? = w.heap[b]?) : ObjOk w' H' b o := by
 cases o with
 | box cs Z => obtain ⟨c, T, lo, hi, h1, h0, h2, h3, h4⟩ := h; exact ⟨c, T, lo, hi, hb.trans h1, h0, h2, fun j d hd => ⟨(h3 j d hd).1, (h3 j d hd).2.mono he hf⟩, h4⟩
 | vec sz es => obtain ⟨c, T, lo, hi, h1, h0, h2, h3, h4, h5⟩ := h; exact ⟨c, T, lo, hi, hb.trans h1, h0, h2, h3, h4, fun i e j d he' hd => ⟨(h5 i e j d he' hd).1, (h5 i e j d he' hd).2.mono he hf⟩⟩
 | ro cs => obtain ⟨c, T, fz, h1, h2, h3⟩ := h; exact ⟨c, T, fz, hb.trans h1, h2, fun j d hd => ⟨(h3 j d hd).1, (h3 j d hd).2.mono he hf⟩⟩
 | iter s pos => exact hb.trans h
 | buf T bs => obtain ⟨c, h1, h2⟩ := h; exact ⟨c, hb.trans h1, h2⟩
 | map kvs => obtain ⟨es, ck, h1, h2, h3, h4⟩ := h; exact ⟨es, ck, hb.trans h1, h2, h3, fun i p hp => ⟨(h4 i p hp).1, (h4 i p hp).2.1.mono he hf, (h4 i p hp).2.2.mono he hf⟩⟩
theorem Sat.less {w : World} {H H' : Heap} (h : Sat H w) (hl : H'.Le H) : Sat H' w :=
 fun b o hb => (h b o (hl b o hb)).mono (Ext.refl H w) (fun _ _ hn => hl.held hn) rfl
theorem From.less {w : World} {H H' H'' : Heap} (h : From w H H') (hl : H''.Le H') : From w H H'' := fun k hk hn => hl.held (h k hk hn)
theorem Sat.lt {w : World} {H : Heap} (h : Sat H w) {b : Nat} {o : Obj} (hb : H b = some o) : b < w.heap.size := by
 have := h b o hb
 by_cases hlt : b < w.heap.size
 ·exact hlt
 ·have hn := Array.getElem?_eq_none (Nat.le_of_not_lt hlt)
  cases o with
  | ro cs => obtain ⟨c, T, fz, h1, _⟩ := this; rw [hn] at h1; cases h1
  | iter s pos => rw [show w.heap[b]? = some (.stringIter s pos) from this] at hn; cases hn
  | buf T bs => obtain ⟨c, h1, _⟩ := this; rw [hn] at h1; cases h1
  | map kvs => obtain ⟨es, ck, h1, _⟩ := this; rw [hn] at h1; cases h1
  | _ => obtain ⟨c, T, lo, hi, h1, _⟩ := this; rw [hn] at h1; cases h1
theorem Sat.fresh {w : World} {H : Heap} (h : Sat H w) {b : Nat} (hb : w.heap.size ≤ b) : H b = none := by
 cases ho : H b with
 | none => rfl
 | some o => exact absurd (h.lt ho) (by omega)
theorem Ext.alloc (H : Heap) (w : World) (o : Go.Obj) : Ext H w (w.alloc o) := by
 refine ⟨rfl, rfl, rfl, by simp, fun k hk _ => Go.RowKit.Below.heap_alloc _ _ _ hk, fun k hk => ?_⟩
 unfold World.shape?
 rw [Go.RowKit.Below.heap_alloc _ _ _ hk]
theorem Ext.drewN (H : Heap) (w : World) (n : Nat) : Ext H w { w with drawn := w.drawn + n } := ⟨rfl, rfl, rfl, Nat.le_refl _, fun _ _ _ => rfl, fun _ _ => rfl⟩
end Go.Av
end
section
namespace Go.Av
inductive Cls where
 | pure | load | eff
 deriving DecidableEq
def cls (P : Program) : Op → Cls
 | .move _ | .assign _ | .pick .. | .build .. | .nilCheck _ | .binOp .. | .unOp .. | .fieldAddr .. | .field .. | .indexAddr .. | .index .. | .slice .. | .extract .. | .makeInterface .. | .makeFunc .. => .pure
 | .convert s d _ => match P.underlying s, P.underlying d with
  | some (.int _), some (.int _) => .pure
  | some .string, some .string => .pure
  | some (.int _), some .string => .pure
  | _, _ => .eff
 | .call c => match c.callee with
  | .builtin .len => match (c.argTypes[0]?).bind P.underlying with
   | some (.map ..) => .eff
   | _ => .pure
  | .builtin .cap | .builtin .min | .builtin .max => .pure
  | _ => .eff
 | .load .. => .load
 | _ => .eff
def effPost (P : Program) (next : Value → World → Prop) : Result Next → Prop
 | .ok (.value v) w' => next v w'
 | .ok .skip w' => next undef w'
 | .ok (.enter f args) w' => Calls P f args w' fun e w'' => ∃ v, e = .returned v ∧ next v w''
 | _ => False
def Keep (F : Option (Bool × List Nat)) (w w' : World) : Prop := match F with
 | none => w' = w
 | some (_, l) => ∀ k ∈ l, w'.heap[k]? = w.heap[k]?
def isStore : Op → Bool
 | .store .. => true
 | _ => false
def Frame (F : Option (Bool × List Nat)) (o : Op) (w w' : World) : Prop := match F with
 | none => True
 | some (sx, l) => (sx = false ∧ isStore o = true) ∨ ∀ k ∈ l, w'.heap[k]? = w.heap[k]?
theorem Keep.refl (F : Option (Bool × List Nat)) (w : World) : Keep F w w := by
 unfold Keep; split
 ·rfl
 ·exact fun _ _ => rfl
theorem Keep.trans {F : Option (Bool × List Nat)} {a b c : World} (h : Keep F a b) (k : Keep F b c) : Keep F a c := by
 unfold Keep at *; split
 ·simp only at h k; rw [k, h]
 ·simp only at h k; exact fun i hi => (k i hi).trans (h i hi)
def opSem (P : Program) (F : Option (Bool × List Nat)) (o : Oper) (a : Act) (w : World) (next : Value → World → Prop) : Prop :=
 match cls P o.op with
 | .pure => ∃ v, (∀ w', (execOp a.eval o).run P w' = .ok (.value v) w') ∧ next v w
 | .load => ∃ v, (∀ w', Keep F w w' → (execOp a.eval o).run P w' = .ok (.value v) w') ∧ next v w
 | .eff => effPost P (fun v w' => Frame F o.op w w' ∧ next v w') ((execOp a.eval o).run P w)
theorem effPost.mono {P : Program} {next next' : Value → World → Prop} {r : Result Next} (h : effPost P next r) (hn : ∀ v w, next v w → next' v w) : effPost P next' r := by
 unfold effPost at *
 split at h <;> try exact h.elim
 ·exact hn _ _ h
 ·exact hn _ _ h
 ·exact h.mono fun e w'' ⟨v, he, hv⟩ => ⟨v, he, hn _ _ hv⟩
theorem opSem.mono {P : Program} {F : Option (Bool × List Nat)} {o : Oper} {a : Act} {w : World} {next next' : Value → World → Prop} (h : opSem P F o a w next) (hn : ∀ v w, next v w → next' v w) : opSem P F o a w next' := by
 unfold opSem at *
 split at h
 ·obtain ⟨v, hr, hv⟩ := h; exact ⟨v, hr, hn _ _ hv⟩
 ·obtain ⟨v, hr, hv⟩ := h; exact ⟨v, hr, hn _ _ hv⟩
 ·exact h.mono fun v w' hh => ⟨hh.1, hn _ _ hh.2⟩
theorem opSem.wp {P : Program} {F : Option (Bool × List Nat)} {o : Oper} {a : Act} {w : World} {K : Act → World → Prop} {Q : Exit → Act → World → Prop}
  (h : opSem P F o a w fun v w' => K (a.put o.dst v) w') : o.wp P a w K Q := by
 unfold Oper.wp
 unfold opSem at h
 split at h
 ·obtain ⟨v, hr, hv⟩ := h; rw [hr w]; exact hv
 ·obtain ⟨v, hr, hv⟩ := h; rw [hr w (Keep.refl F w)]; exact hv
 ·unfold effPost at h
  split at h <;> try exact h.elim
  ·rename_i hr; rw [hr]; exact h.2
  ·rename_i hr; rw [hr]; exact h.2
  ·rename_i hr; rw [hr]
   refine h.mono fun e w'' ⟨v, he, _, hv⟩ => ?_
   subst he
   exact hv
def wpA (P : Program) (F : Option (Bool × List Nat)) (ops : Array Oper) (K : Act → World → Prop) : List Oper → Act → World → Prop
 | [], a, w => K a w
 | o :: l, a, w =>
  if Region.wanted o (yielded ops a.tmps) then opSem P F o a w fun v w' => wpA P F ops K l (a.put o.dst v) w' else wpA P F ops K l (a.put o.dst undef) w
def wpI (P : Program) (F : Option (Bool × List Nat)) (ops : Array Oper) (K : Act → World → Prop) : List Nat → Act → World → Prop
 | [], a, w => K a w
 | i :: l, a, w => match ops[i]? with
  | none => wpI P F ops K l a w
  | some o => if Region.wanted o (yielded ops a.tmps) then opSem P F o a w fun v w' => wpI P F ops K l (a.put o.dst v) w' else wpI P F ops K l (a.put o.dst undef) w
theorem wpI_wpOps {P : Program} {F : Option (Bool × List Nat)} {ops : Array Oper} {K : Act → World → Prop} {Q : Exit → Act → World → Prop} (hQ : ∀ a w, K a w → Q .normal a w) :
  ∀ (l : List Nat) (a : Act) (w : World), wpI P F ops K l a w → wpOps P ops Q l a w := by
 intro l
 induction l with
 | nil => exact fun a w h => hQ a w h
 | cons i l ih =>
  intro a w h
  unfold wpI at h
  unfold wpOps
  split at h
  ·rename_i hn; simp only [hn]; exact ih _ _ h
  ·rename_i o ho
   simp only [ho]
   split at h
   ·rename_i hw
    rw [if_pos hw]
    exact .inl (opSem.wp (h.mono fun v w' hv => ih _ _ hv))
   ·rename_i hw
    rw [if_neg hw]
    exact ih _ _ h
theorem wpA_wpI {P : Program} {F : Option (Bool × List Nat)} {ops : Array Oper} {K : Act → World → Prop} : ∀ (l : List Oper) (k : Nat), (∀ j, l[j]? = ops[k + j]?) →
  wpA P F ops K l = wpI P F ops K (List.range' k l.length) := by
 intro l
 induction l with
 | nil => intro k _; funext a w; simp [wpA, wpI]
 | cons o l ih =>
  intro k h
  have h0 : ops[k]? = some o := by simpa using (h 0).symm
  have ih' := ih (k + 1) (fun j => by have := h (j + 1); simpa [Nat.add_assoc, Nat.add_comm 1 j] using this)
  funext a w
  simp only [List.length_cons, List.range'_succ, wpA, wpI, h0, ih']
theorem wpA_all {P : Program} {F : Option (Bool × List Nat)} {ops : Array Oper} {K : Act → World → Prop} : wpA P F ops K ops.toList = wpI P F ops K (List.range ops.size) := by
 rw [wpA_wpI ops.toList 0 (by simp), List.range_eq_range', Array.length_toList]
theorem wpA_region {P : Program} {F : Option (Bool × List Nat)} {id : Nat} {ops : Array Oper} {K : Act → World → Prop} {Q : Exit → Act → World → Prop} {a : Act} {w : World}
  (hQ : ∀ a w, K a w → Q .normal a w) (h : wpA P F ops K ops.toList a w) : (Code.region id ops false).wp P Q a w := by
 rw [wpA_all] at h
 exact wp_region (wpI_wpOps hQ _ _ _ h)
end Go.Av
end
section
namespace Go.Av
inductive Base where
 | bool | int | str | ptr | slice | iface | func | map | struct | other
 deriving DecidableEq
def baseT (P : Program) (t : TypeId) : Base := match P.underlying t with
 | some .bool => .bool | some (.int _) => .int | some .string => .str | some (.pointer _) => .ptr | some (.slice _) => .slice
 | some (.interface _) => .iface | some (.func ..) => .func | some (.map ..) => .map | some (.struct _) => .struct | _ => .other
def elemT (P : Program) (t : TypeId) : Option (Nat × Nat × Nat) := match P.underlying t with
 | some (.slice e) => (P.info? e).map fun i => (e, i.size, i.bytes)
 | _ => none
def arrT (P : Program) (t : TypeId) : Option (Nat × Nat) := match P.underlying t with
 | some (.array n e) => (P.info? e).map fun i => (n, i.size)
 | _ => none
def shapeT (P : Program) (t : TypeId) : Option (Bool × Nat) := match P.underlying t, P.info? t with
 | some (.struct _), some i => some (true, i.size)
 | some (.array ..), some i => some (true, i.size)
 | some _, some i => some (false, i.size)
 | _, _ => none
def fieldsT (P : Program) (t : TypeId) : Option (List (Nat × Bool × Nat)) := match P.underlying t with
 | some (.struct fs) => fs.toList.mapM fun f => (shapeT P f.type).map fun s => (f.offset, s.1, s.2)
 | _ => none
def D.ofCell : Value → D
 | .bool b => .bool b
 | .int k n => .int k n
 | .string s => .str s
 | .pointer none => .nilp
 | .slice none 0 0 => .nilsl
 | .nilIface => .nilif
 | .nilFunc => .nilfn
 | .map none => .nilmap
 | _ => .undef
def D.ofValue : Value → D
 | .agg vs => if (vs.toList.map D.ofCell).all D.one then .agg (vs.toList.map D.ofCell) else .undef
 | v => D.ofCell v
theorem ofCell_R (w : World) (H : Heap) (v : Value) : R w H (D.ofCell v) v := by
 cases v with
 | pointer a => cases a <;> constructor
 | map a => cases a <;> constructor
 | slice a n c =>
  unfold D.ofCell
  split <;> rename_i h <;> first | (cases h <;> constructor) | constructor
 | _ => constructor
theorem ofValue_R (w : World) (H : Heap) (v : Value) : R w H (D.ofValue v) v := by
 unfold D.ofValue
 split
 ·rename_i vs
  split
  ·rename_i hall
   refine .agg _ _ (by simp) (fun i d hd => ?_) (fun i d hd => ?_)
   ·exact List.all_eq_true.1 hall d (List.mem_of_getElem? hd)
   ·simp only [List.getElem?_map, Option.map_eq_some_iff] at hd
    obtain ⟨u, hu, rfl⟩ := hd
    have : vs.getD i Go.undef = u := by
     have h' : vs[i]? = some u := by simpa using hu
     simp [h']
    rw [this]
    exact ofCell_R w H u
  ·constructor
 ·exact ofCell_R w H v
abbrev Env := List (Nat × D)
def Env.get : Env → Nat → D
 | [], _ => .undef
 | (i, d) :: E, j => if i = j then d else Env.get E j
def Env.put (E : Env) : Option Nat → D → Env
 | some i, d => (i, d) :: E
 | none, _ => E
def Env.ev (E : Env) : Operand → D
 | .tmp t => E.get t
 | .const v => D.ofValue v
 | .global g => .glob g
 | .func f => .fn (.func f) [] []
def at8 (s : ByteArray) (i : Int) : Int := ((s.data.toList.getD i.toNat 0).toNat : Int)
def intD (op : BinOp) (k : IntKind) (a b : Int) : Option D := match op with
 | .add => some (.int k (k.wrap (a + b)))
 | .sub => some (.int k (k.wrap (a - b)))
 | .mul => some (.int k (k.wrap (a * b)))
 | .quo => if b = 0 then none else some (.int k (k.wrap (a.tdiv b)))
 | .rem => if b = 0 then none else some (.int k (a.tmod b))
 | .and => some (.int k (k.wrap (BitVec.ofInt k.bits a &&& BitVec.ofInt k.bits b).toNat))
 | .or => some (.int k (k.wrap (BitVec.ofInt k.bits a ||| BitVec.ofInt k.bits b).toNat))
 | .xor => some (.int k (k.wrap (BitVec.ofInt k.bits a ^^^ BitVec.ofInt k.bits b).toNat))
 | .andNot => some (.int k (k.wrap (BitVec.ofInt k.bits a &&& ~~~ BitVec.ofInt k.bits b).toNat))
 | .eql => some (.bool (a == b))
 | .neq => some (.bool (a != b))
 | .lss => some (.bool (decide (a < b)))
 | .leq => some (.bool (decide (a ≤ b)))
 | .gtr => some (.bool (decide (b < a)))
 | .geq => some (.bool (decide (b ≤ a)))
 | _ => none
def strD (op : BinOp) (x y : ByteArray) : Option D := match op with
 | .add => if x.size + y.size ≤ 9223372036854775807 then some (.str (x ++ y)) else none
 | .eql => some (.bool (x.data.toList == y.data.toList))
 | .neq => some (.bool (!(x.data.toList == y.data.toList)))
 | .lss => some (.bool (Op.bytesLess x.data.toList y.data.toList))
 | .leq => some (.bool (Op.bytesLess x.data.toList y.data.toList || x.data.toList == y.data.toList))
 | .gtr => some (.bool (!(Op.bytesLess x.data.toList y.data.toList || x.data.toList == y.data.toList)))
 | .geq => some (.bool (!(Op.bytesLess x.data.toList y.data.toList)))
 | _ => none
def nilD (b : Base) : D → Option Bool
 | .nilp => if b = .ptr then some true else none
 | .box .. | .el .. | .ro _ | .glob _ => if b = .ptr then some false else none
 | .nilsl => if b = .slice then some true else none
 | .vec .. => if b = .slice then some false else none
 | .sl _ (_ :: _) => if b = .slice then some false else none
 | .nilfn => if b = .func then some true else none
 | .fn .. => if b = .func then some false else none
 | .nilif => if b = .iface then some true else none
 | .iface .. => if b = .iface then some false else none
 | _ => none
def eqNil (b : Base) (x y : D) : Option Bool := match nilD b x, nilD b y with
 | some true, some c => some c
 | some c, some true => some c
 | _, _ => none
def isConst : Operand → Bool
 | .const _ => true
 | _ => false
def binD (P : Program) (op : BinOp) (t : TypeId) (cst : Bool) (x y : D) : Option D := match op, x, y with
 | .shl, .int k a, .int _ b => if b < 0 then none else some (.int k (k.wrap (a * 2 ^ (min b.toNat k.bits))))
 | .shr, .int k a, .int _ b => if b < 0 then none else some (.int k (a.fdiv (2 ^ (min b.toNat k.bits))))
 | op, .int k a, .int k' b => if k = k' then intD op k a b else none
 | op, .str a, .str b => strD op a b
 | .eql, .bool a, .bool b => if baseT P t = .bool then some (.bool (a == b)) else none
 | .neq, .bool a, .bool b => if baseT P t = .bool then some (.bool (!(a == b))) else none
 | .eql, x, y => if cst then (eqNil (baseT P t) x y).map .bool else none
 | .neq, x, y => if cst then (eqNil (baseT P t) x y).map fun b => .bool (!b) else none
 | _, _, _ => none
def flatEq (P : Program) (t : TypeId) : Option (List (Nat × Base)) := if P.eqGuardType P.depth t = false ∧ P.stoodInHeld t = false then match P.underlying t with
 | some (.struct fs) => fs.toList.mapM fun f => if f.name ≠ "_" ∧ shapeT P f.type = some (false, 1) ∧ (baseT P f.type = .bool ∨ baseT P f.type = .int ∨ baseT P f.type = .str) then some (f.offset, baseT P f.type) else none
 | _ => none else none
def cellEq : Base → D → D → Option Bool
 | .int, .int k a, .int k' b => if k = k' then some (a == b) else none
 | .str, .str a, .str b => some (a.data.toList == b.data.toList)
 | .bool, .bool a, .bool b => some (a == b)
 | _, _, _ => none
def aggEq : List (Nat × Base) → List D → List D → Option Bool
 | [], _, _ => some true
 | (o, bs) :: fs, xs, ys => match xs[o]?, ys[o]? with
  | some x, some y => (cellEq bs x y).bind fun c => (aggEq fs xs ys).map (c && ·)
  | _, _ => none
def bin2D (P : Program) (op : BinOp) (t : TypeId) (cst : Bool) (x y : D) : Option D := match op, x, y with
 | .eql, .agg xs, .agg ys => (flatEq P t).bind fun fs => (aggEq fs xs ys).map .bool
 | .neq, .agg xs, .agg ys => (flatEq P t).bind fun fs => (aggEq fs xs ys).map fun b => .bool (!b)
 | op, x, y => binD P op t cst x y
def takeD (s : Bool × Nat) (cs : List D) : Option D := match s with
 | (true, n) => if n ≤ cs.length then some (.agg (cs.take n)) else none
 | (false, _) => cs.head?
def putAt : List D → Nat → List D → List D
 | cs, _, [] => cs
 | cs, i, x :: xs => putAt (cs.set i x) (i + 1) xs
def fillD (place : Nat → Option (Nat × Nat)) (cells : List D) : List (Nat × D) → Option (List D)
 | [] => some cells
 | (i, d) :: rest => match place i with
  | none => none
  | some (off, size) => if d.cells.length = size ∧ off + size ≤ cells.length ∧ d.cells.all D.one = true then fillD place (putAt cells off d.cells) rest else none
def zeroD (P : Program) (t : TypeId) : Option (List D) := ((P.info? t).bind (·.zero)).bind fun v =>
 if (v.cells.toList.map D.ofCell).all D.one then some (v.cells.toList.map D.ofCell) else none
def boundsD (len : Nat) (lo hi : Option D) : Option (Nat × Nat) := match lo, hi with
 | none, none => some (0, len)
 | some (.int _ l), none => if 0 ≤ l ∧ l ≤ len then some (l.toNat, len) else none
 | none, some (.int _ h) => if 0 ≤ h ∧ h ≤ len then some (0, h.toNat) else none
 | some (.int _ l), some (.int _ h) => if 0 ≤ l ∧ l ≤ h ∧ h ≤ len then some (l.toNat, h.toNat) else none
 | _, _ => none
def sliceD (P : Program) (t : TypeId) (x : D) (lo hi : Option D) : Option D := match x with
 | .str s => if baseT P t = .str then (boundsD s.size lo hi).map fun b => .str (s.extract b.1 b.2) else none
 | .nilsl => if (elemT P t).isSome then (boundsD 0 lo hi).map fun _ => .nilsl else none
 | .sl sz es => if (elemT P t).map (·.2.1) = some sz then (boundsD es.length lo hi).map fun b => .sl sz ((es.take b.2).drop b.1) else none
 | .vec b sz l n => if (elemT P t).map (·.2.1) = some sz then (boundsD n lo hi).map fun p => if p.1 = 0 then .vec b sz l p.2 else .vec b sz (l + p.1) (p.2 - p.1) else none
 | _ => none
def lenD (P : Program) (t : TypeId) : D → Option D
 | .str s => if baseT P t = .str then some (.int .i64 s.size) else none
 | .nilsl => if baseT P t = .slice then some (.int .i64 0) else none
 | .sl _ es => if baseT P t = .slice then some (.int .i64 es.length) else none
 | .vec _ _ _ n => if baseT P t = .slice then some (.int .i64 n) else none
 | _ => none
def indexAddrD (P : Program) (t : TypeId) (x i : D) : Option D := match x, i with
 | .sl sz es, .int _ n => if (elemT P t).map (·.2.1) = some sz ∧ 0 ≤ n ∧ n < es.length then some (.ro (es.getD n.toNat [])) else none
 | .vec b sz l m, .int _ n => if (elemT P t).map (·.2.1) = some sz ∧ 0 ≤ n ∧ n < m then some (.el b sz (l + n.toNat) 0) else none
 | .box b off, .int _ n => match arrT P t with
  | some (len, sz) => if 0 ≤ n ∧ n < len then some (.box b (off + n.toNat * sz)) else none
  | none => none
 | _, _ => none
def fieldAddrD (P : Program) (t : TypeId) (x : D) (f : Nat) : Option D := match (fieldsT P t).bind (·[f]?) with
 | some (o, _, n) => if n = 0 then none else match x with
  | .box b off => some (.box b (off + o))
  | .el b sz i off => some (.el b sz i (off + o))
  | .ro cs => some (.ro (cs.drop o))
  | _ => none
 | none => none
def fieldD (P : Program) (t : TypeId) (x : D) (f : Nat) : Option D := match (fieldsT P t).bind (·[f]?), x with
 | some (o, s), .agg cs => takeD s (cs.drop o)
 | _, _ => none
def indexD (P : Program) (t : TypeId) (x i : D) : Option D := match x, i with
 | .str s, .int _ n => if baseT P t = .str ∧ 0 ≤ n ∧ n < s.size then some (.int .u8 (at8 s n)) else none
 | _, _ => none
def min2D : D → D → Option D
 | .int k a, .int _ b => some (.int k (if b < a then b else a))
 | _, _ => none
def max2D : D → D → Option D
 | .int k a, .int _ b => some (.int k (if a < b then b else a))
 | _, _ => none
def unD : UnOp → D → Option D
 | .neg, .int k n => some (.int k (k.wrap (0 - n)))
 | .xor, .int k n => some (.int k (k.wrap (BitVec.ofInt k.bits (if k.signed then -1 else k.max) ^^^ BitVec.ofInt k.bits n).toNat))
 | .not, .bool b => some (.bool (!b))
 | _, _ => none
def convD (P : Program) (s t : TypeId) : D → Option D
 | .int _ n => match P.underlying s, P.underlying t with
  | some (.int _), some (.int k) => some (.int k (k.wrap n))
  | some (.int _), some .string => some (.str (Utf8.encode n))
  | _, _ => none
 | .str x => if baseT P s = .str ∧ baseT P t = .str then some (.str x) else none
 | _ => none
def foldD (f : D → D → Option D) : List D → Option D
 | [] => none
 | x :: l => l.foldlM f x
def pureD (P : Program) (ev : Operand → D) : Op → Option D
 | .move x | .assign x => some (ev x)
 | .pick c a b => match ev c with
  | .bool t => some (if t then ev a else ev b)
  | _ => none
 | .build t parts => match baseT P t with
  | .struct => (zeroD P t).bind fun z => (fieldsT P t).bind fun fs => (fillD (fun i => (fs[i]?).map fun f => (f.1, f.2.2)) z (parts.toList.map fun p => (p.1, ev p.2))).map .agg
  | .other => (zeroD P t).bind fun z => (arrT P t).bind fun s => (fillD (fun i => some (i * s.2, s.2)) z (parts.toList.map fun p => (p.1, ev p.2))).map .agg
  | _ => none
 | .nilCheck x => match ev x with
  | .box b off => some (.box b off)
  | .el b sz i off => some (.el b sz i off)
  | .ro cs => some (.ro cs)
  | .fn (.func f) a b => some (.fn (.func f) a b)
  | _ => none
 | .binOp op t x y _ => bin2D P op t (isConst x || isConst y) (ev x) (ev y)
 | .unOp op _ x => unD op (ev x)
 | .convert s t x => convD P s t (ev x)
 | .fieldAddr s x f => fieldAddrD P s (ev x) f
 | .field t x f => fieldD P t (ev x) f
 | .indexAddr t x i => indexAddrD P t (ev x) (ev i)
 | .index t x i => indexD P t (ev x) (ev i)
 | .slice t x lo hi none => sliceD P t (ev x) (lo.map ev) (hi.map ev)
 | .extract x i => match ev x with
  | .tuple ds => ds[i]?
  | _ => none
 | .makeInterface t x => if baseT P t = .iface ∨ (P.underlying t).isNone then none else some (.iface t (ev x))
 | .makeFunc fn first captured => some (.fn fn (first.toList.map ev) (captured.toList.map ev))
 | .call c => match c.callee with
  | .builtin .len => match c.argTypes[0]?, c.args[0]? with
   | some t, some x => lenD P t (ev x)
   | _, _ => none
  | .builtin .cap => match c.argTypes[0]?, (c.args[0]?).map ev with
   | some t, some .nilsl => if baseT P t = .slice then some (.int .i64 0) else none
   | _, _ => none
  | .builtin .min => foldD min2D (c.args.toList.map ev)
  | .builtin .max => foldD max2D (c.args.toList.map ev)
  | _ => none
 | _ => none
end Go.Av
end
section
namespace Go.Av
section
variable {P : Program}
def Runs {α : Type} (P : Program) (s : Sem α) (v : α) : Prop := ∀ w, s.run P w = .ok v w
theorem Runs.pure {α : Type} (v : α) : Runs P (Pure.pure v : Sem α) v := fun _ => rfl
theorem Runs.bind {α β : Type} {s : Sem α} {f : α → Sem β} {v : α} {u : β} (h : Runs P s v) (k : Runs P (f v) u) : Runs P (s >>= f) u := fun w => by
 rw [Sem.run_bind, h w]; exact k w
theorem runs_underlying {t : TypeId} {d : TypeDesc} (h : P.underlying t = some d) : Runs P (underlying t) d := fun w => run_underlying h w
theorem runs_typeInfo {t : TypeId} {i : TypeInfo} (h : P.info? t = some i) : Runs P (typeInfo t) i := fun w => by
 unfold typeInfo
 rw [Sem.run_bind]
 simp [program, Sem.run, Result.andThen, h]
theorem runs_sizeOf {t : TypeId} {i : TypeInfo} (h : P.info? t = some i) : Runs P (sizeOf t) i.size := (runs_typeInfo h).bind (.pure _)
theorem runs_isAgg {t : TypeId} {b : Bool} {n : Nat} (h : shapeT P t = some (b, n)) : Runs P (isAgg t) b ∧ Runs P (sizeOf t) n := by
 unfold shapeT at h
 split at h
 ·rename_i hu hi; cases h; exact ⟨(runs_underlying hu).bind (.pure _), runs_sizeOf hi⟩
 ·rename_i hu hi; cases h; exact ⟨(runs_underlying hu).bind (.pure _), runs_sizeOf hi⟩
 ·rename_i d i h1 h2 hu hi
  cases h
  refine ⟨(runs_underlying hu).bind ?_, runs_sizeOf hi⟩
  cases d <;> first | exact .pure _ | exact absurd rfl (h1 _) | exact absurd rfl (h2 _ _)
 ·cases h
theorem runs_zero {t : TypeId} {z : List D} (h : zeroD P t = some z) : ∃ v, Runs P (zeroValue t) v ∧ z = v.cells.toList.map D.ofCell ∧ z.all D.one = true := by
 unfold zeroD at h
 obtain ⟨v, hv, h⟩ := Option.bind_eq_some_iff.1 h
 obtain ⟨i, hi, hz⟩ := Option.bind_eq_some_iff.1 hv
 split at h
 ·rename_i hall
  cases h
  refine ⟨v, ?_, rfl, hall⟩
  unfold zeroValue
  refine (runs_typeInfo hi).bind ?_
  rw [hz]
  exact .pure _
 ·cases h
section
variable {w : World} {H : Heap} {v : Value}
theorem R.bool_inv {b : Bool} (h : R w H (.bool b) v) : v = .bool b := by cases h; rfl
theorem R.int_inv {k : IntKind} {n : Int} (h : R w H (.int k n) v) : v = .int k n := by cases h; rfl
theorem R.str_inv {s : ByteArray} (h : R w H (.str s) v) : v = .string s := by cases h; rfl
theorem R.box_inv {b off : Nat} (h : R w H (.box b off) v) : v = .pointer (some ⟨b, off, none⟩) := by cases h; rfl
theorem R.el_inv {b sz i off : Nat} (h : R w H (.el b sz i off) v) : v = .pointer (some ⟨b, i * sz + off, none⟩) := by cases h; rfl
theorem R.ro_inv {cs : List D} (h : R w H (.ro cs) v) : ∃ b off, v = .pointer (some ⟨b, off, none⟩) := by cases h; exact ⟨_, _, rfl⟩
theorem R.agg_inv {cs : List D} (h : R w H (.agg cs) v) : ∃ vs, v = .agg vs ∧ cs.length = vs.size ∧ (∀ (i : Nat) d, cs[i]? = some d → d.one = true) ∧ ∀ (i : Nat) d, cs[i]? = some d → R w H d (vs.getD i Go.undef) := by
 cases h; exact ⟨_, rfl, by assumption, by assumption, by assumption⟩
theorem R.tuple_inv {cs : List D} (h : R w H (.tuple cs) v) : ∃ vs, v = .tuple vs ∧ cs.length = vs.size ∧ ∀ (i : Nat) d, cs[i]? = some d → R w H d (vs.getD i Go.undef) := by
 cases h; exact ⟨_, rfl, by assumption, by assumption⟩
theorem R.oneCell {d : D} (h : R w H d v) (h1 : d.one = true) : v.oneCell' = true := by cases h <;> first | rfl | (simp [D.one] at h1)
theorem R.cells {d : D} (h : R w H d v) (h1 : d.cells.all D.one = true) : d.cells.length = v.cells.size ∧ ∀ (i : Nat) c, d.cells[i]? = some c → R w H c (v.cells.getD i Go.undef) := by
 cases d with
 | agg cs =>
  obtain ⟨vs, rfl, hl, _, hr⟩ := h.agg_inv
  exact ⟨hl, hr⟩
 | _ =>
  have hone := h.oneCell (by simpa [D.cells] using h1)
  have hc : v.cells = #[v] := by cases v <;> first | rfl | (simp [Value.oneCell'] at hone)
  rw [hc]
  refine ⟨by simp [D.cells], fun i c hc => ?_⟩
  simp only [D.cells] at hc
  cases i with
  | zero => simp at hc; subst hc; simpa using h
  | succ i => simp at hc
end
theorem runs_v {s : Sem Value} {v : Value} (h : Runs P s v) : Runs P (do pure (Next.value (← s))) (Next.value v) := h.bind (.pure _)
theorem runs_intD {op : BinOp} {k : IntKind} {a b : Int} {d : D} (h : intD op k a b = some d) (h1 : op ≠ .shl) (h2 : op ≠ .shr) (t : TypeId) :
  ∃ v, Runs P (binOp op t (.int k a) (.int k b)) v ∧ ∀ w H, R w H d v := by
 have key : ∀ {d' : D} {v : Value}, some d' = some d → Runs P (binOp op t (.int k a) (.int k b)) v → (∀ w H, R w H d' v) → ∃ v, Runs P (binOp op t (.int k a) (.int k b)) v ∧ ∀ w H, R w H d v :=
  fun he hr hR => by cases he; exact ⟨_, hr, hR⟩
 cases op <;> simp only [intD] at h
 case shl => exact absurd rfl h1
 case shr => exact absurd rfl h2
 case add => exact key (v := .int k (k.wrap (a + b))) h (fun w => by simp [binOp, Op.intArith]) fun _ _ => .int _ _
 case sub => exact key (v := .int k (k.wrap (a - b))) h (fun w => by simp [binOp, Op.intArith]) fun _ _ => .int _ _
 case mul => exact key (v := .int k (k.wrap (a * b))) h (fun w => by simp [binOp, Op.intArith]) fun _ _ => .int _ _
 case quo => split at h; (· cases h); rename_i hb; exact key (v := .int k (k.wrap (a.tdiv b))) h (fun w => by simp [binOp, Op.intDiv, hb]) fun _ _ => .int _ _
 case rem => split at h; (· cases h); rename_i hb; exact key (v := .int k (a.tmod b)) h (fun w => by simp [binOp, Op.intDiv, hb]) fun _ _ => .int _ _
 case and => exact key h (fun w => by simp only [binOp, Op.intBits, ne_eq, not_true_eq_false, if_false]; rfl) fun _ _ => .int _ _
 case or => exact key h (fun w => by simp only [binOp, Op.intBits, ne_eq, not_true_eq_false, if_false]; rfl) fun _ _ => .int _ _
 case xor => exact key h (fun w => by simp only [binOp, Op.intBits, ne_eq, not_true_eq_false, if_false]; rfl) fun _ _ => .int _ _
 case andNot => exact key h (fun w => by simp only [binOp, Op.intBits, ne_eq, not_true_eq_false, if_false]; rfl) fun _ _ => .int _ _
 case eql => exact key (v := .bool (a == b)) h (fun w => by simp [binOp, Op.intCmp]) fun _ _ => .bool _
 case neq => exact key (v := .bool (a != b)) h (fun w => by simp [binOp, Op.intCmp]) fun _ _ => .bool _
 case lss => exact key (v := .bool (decide (a < b))) h (fun w => by simp [binOp, Op.intCmp]) fun _ _ => .bool _
 case leq => exact key (v := .bool (decide (a ≤ b))) h (fun w => by simp [binOp, Op.intCmp]) fun _ _ => .bool _
 case gtr => exact key (v := .bool (decide (b < a))) h (fun w => by simp [binOp, Op.intCmp]) fun _ _ => .bool _
 case geq => exact key (v := .bool (decide (b ≤ a))) h (fun w => by simp [binOp, Op.intCmp]) fun _ _ => .bool _
 all_goals cases h
theorem runs_strD {op : BinOp} {x y : ByteArray} {d : D} (h : strD op x y = some d) (t : TypeId) :
    ∃ v, Runs P (binOp op t (.string x) (.string y)) v ∧ ∀ w H, R w H d v := by
  cases op <;> simp only [strD] at h <;> first
    | (split at h
       · rename_i hs
         cases h
         refine ⟨.string (x ++ y), fun w => ?_, fun _ _ => .str _⟩
         have : ¬ (((x.size + y.size : Nat) : Int) > IntKind.i64.max) := by
           have hm : IntKind.i64.max = 9223372036854775807 := by decide
           rw [hm]; omega
         simp only [binOp, Op.stringOp, if_neg this]; rfl
       · cases h)
    | (cases h; refine ⟨_, fun w => ?_, fun _ _ => .bool _⟩; simp only [binOp, Op.stringOp, ByteArray.toList_eq]; rfl)
    | cases h
end
end Go.Av
end
section
namespace Go.Av
section
variable {P : Program}
theorem base_bool {t : TypeId} (h : baseT P t = .bool) : P.underlying t = some .bool := by unfold baseT at h; split at h <;> first | assumption | cases h
theorem base_str {t : TypeId} (h : baseT P t = .str) : P.underlying t = some .string := by unfold baseT at h; split at h <;> first | assumption | cases h
theorem base_ptr {t : TypeId} (h : baseT P t = .ptr) : ∃ e, P.underlying t = some (.pointer e) := by unfold baseT at h; split at h <;> first | exact ⟨_, by assumption⟩ | cases h
theorem base_slice {t : TypeId} (h : baseT P t = .slice) : ∃ e, P.underlying t = some (.slice e) := by unfold baseT at h; split at h <;> first | exact ⟨_, by assumption⟩ | cases h
theorem base_iface {t : TypeId} (h : baseT P t = .iface) : ∃ e, P.underlying t = some (.interface e) := by unfold baseT at h; split at h <;> first | exact ⟨_, by assumption⟩ | cases h
theorem base_func {t : TypeId} (h : baseT P t = .func) : ∃ a b c, P.underlying t = some (.func a b c) := by unfold baseT at h; split at h <;> first | exact ⟨_, _, _, by assumption⟩ | cases h
theorem base_struct {t : TypeId} (h : baseT P t = .struct) : ∃ e, P.underlying t = some (.struct e) := by unfold baseT at h; split at h <;> first | exact ⟨_, by assumption⟩ | cases h
theorem elem_inv {t : TypeId} {x : Nat × Nat × Nat} (h : elemT P t = some x) : P.underlying t = some (.slice x.1) ∧ ∃ i, P.info? x.1 = some i ∧ i.size = x.2.1 ∧ i.bytes = x.2.2 := by
 unfold elemT at h
 split at h
 ·rename_i e hu
  obtain ⟨i, hi, rfl⟩ := Option.map_eq_some_iff.1 h
  exact ⟨hu, i, hi, rfl, rfl⟩
 ·cases h
def IsNil (b : Base) (c : Bool) (v : Value) : Prop := match b, c with
 | .ptr, true => v = .pointer none
 | .ptr, false => ∃ a, v = .pointer (some a)
 | .slice, true => v = .slice none 0 0
 | .slice, false => ∃ a n k, v = .slice (some a) n k
 | .func, true => v = .nilFunc
 | .func, false => ∃ f a b, v = .func f a b
 | .iface, true => v = .nilIface
 | .iface, false => ∃ t u, v = .iface t u
 | _, _ => False
theorem nilD_inv {b : Base} {d : D} {c : Bool} (h : nilD b d = some c) {w : World} {H : Heap} {v : Value} (hr : R w H d v) : IsNil b c v := by
  by_cases hsl : ∃ sz e es, d = .sl sz (e :: es)
  · obtain ⟨sz, e, es, rfl⟩ := hsl
    simp only [nilD] at h
    split at h
    · rename_i hb; subst hb; cases h; cases hr; exact ⟨_, _, _, rfl⟩
    · cases h
  cases d
  case sl sz es =>
    cases es with
    | nil => cases h
    | cons e es => exact absurd ⟨_, _, _, rfl⟩ hsl
  all_goals simp only [nilD] at h
  all_goals first
    | cases h
    | (split at h
       · rename_i hb; subst hb; cases h; cases hr <;> first | rfl | exact ⟨_, rfl⟩ | exact ⟨_, _, rfl⟩ | exact ⟨_, _, _, rfl⟩
       · cases h)
theorem runs_equal_nil {t : TypeId} {x y : Value} {c : Bool} (hx : IsNil (baseT P t) true x) (hy : IsNil (baseT P t) c y) : Runs P (Op.equal t x y) c ∧ Runs P (Op.equal t y x) c := by
 have hd : Op.maxDepth = 9999 + 1 := rfl
 cases hb : baseT P t <;> rw [hb] at hx hy <;> first | (exfalso; simp only [IsNil] at hx; done) | skip
 case ptr =>
  obtain ⟨e, hu⟩ := base_ptr hb
  cases c
  ·obtain ⟨a, rfl⟩ := hy
   simp only [IsNil] at hx; subst hx
   unfold Op.equal; rw [hd]
   exact ⟨(runs_underlying hu).bind (.pure _), (runs_underlying hu).bind (.pure _)⟩
  ·simp only [IsNil] at hx hy; subst hx; subst hy
   unfold Op.equal; rw [hd]
   exact ⟨(runs_underlying hu).bind (.pure _), (runs_underlying hu).bind (.pure _)⟩
 case slice =>
  obtain ⟨e, hu⟩ := base_slice hb
  cases c
  ·obtain ⟨a, n, k, rfl⟩ := hy
   simp only [IsNil] at hx; subst hx
   unfold Op.equal; rw [hd]
   exact ⟨(runs_underlying hu).bind (.pure _), (runs_underlying hu).bind (.pure _)⟩
  ·simp only [IsNil] at hx hy; subst hx; subst hy
   unfold Op.equal; rw [hd]
   exact ⟨(runs_underlying hu).bind (.pure _), (runs_underlying hu).bind (.pure _)⟩
 case func =>
  obtain ⟨_, _, _, hu⟩ := base_func hb
  cases c
  ·obtain ⟨a, n, k, rfl⟩ := hy
   simp only [IsNil] at hx; subst hx
   unfold Op.equal; rw [hd]
   exact ⟨(runs_underlying hu).bind (.pure _), (runs_underlying hu).bind (.pure _)⟩
  ·simp only [IsNil] at hx hy; subst hx; subst hy
   unfold Op.equal; rw [hd]
   exact ⟨(runs_underlying hu).bind (.pure _), (runs_underlying hu).bind (.pure _)⟩
 case iface =>
  obtain ⟨e, hu⟩ := base_iface hb
  cases c
  ·obtain ⟨a, k, rfl⟩ := hy
   simp only [IsNil] at hx; subst hx
   unfold Op.equal; rw [hd]
   exact ⟨(runs_underlying hu).bind (.pure _), (runs_underlying hu).bind (.pure _)⟩
  ·simp only [IsNil] at hx hy; subst hx; subst hy
   unfold Op.equal; rw [hd]
   exact ⟨(runs_underlying hu).bind (.pure _), (runs_underlying hu).bind (.pure _)⟩
theorem runs_eqGuard {op : BinOp} {t : TypeId} {x y : Operand} {a b : Value} (h : (∀ vs us, ¬ (a = .agg vs ∧ b = .agg us)) ∧ (a = .nilIface → b = .nilIface → (isConst x || isConst y) = true)) :
  Runs P (eqGuard op t x y a b) () := by
 unfold eqGuard
 cases op <;> first | exact Runs.pure _ | skip
 all_goals
  simp only [Bool.not_true, Bool.false_eq_true, if_false]
  split
  ·have hcst := h.2 rfl rfl
   cases x <;> cases y <;> first | exact Runs.pure _ | (simp [isConst] at hcst; done)
  ·exact absurd ⟨rfl, rfl⟩ (h.1 _ _)
  ·exact .pure _
theorem IsNil.no_agg {b : Base} {c : Bool} {v : Value} (h : IsNil b c v) (vs : Array Value) : v ≠ .agg vs := by
 rintro rfl
 cases b <;> cases c <;> simp [IsNil] at h
theorem runs_eql {t : TypeId} {x y : Value} {b : Bool} (h : Runs P (Op.equal t x y) b) (hx : ∀ k n, x ≠ .int k n) (hs : ∀ s, x ≠ .string s) (hf : ∀ k n, x ≠ .float k n) (hc : ∀ k n m, x ≠ .complex k n m) :
  Runs P (binOp .eql t x y) (.bool b) ∧ Runs P (binOp .neq t x y) (.bool (!b)) := by
 constructor
 ·have e : binOp .eql t x y = (do pure (.bool (← Op.equal t x y))) := by
   cases x <;> first | rfl | exact absurd rfl (hx _ _) | exact absurd rfl (hs _) | exact absurd rfl (hf _ _) | exact absurd rfl (hc _ _ _)
  rw [e]; exact h.bind (.pure _)
 ·have e : binOp .neq t x y = (do pure (.bool (!(← Op.equal t x y)))) := by
   cases x <;> first | rfl | exact absurd rfl (hx _ _) | exact absurd rfl (hs _) | exact absurd rfl (hf _ _) | exact absurd rfl (hc _ _ _)
  rw [e]; exact h.bind (.pure _)
theorem IsNil.plain {b : Base} {c : Bool} {v : Value} (h : IsNil b c v) : (∀ k n, v ≠ .int k n) ∧ (∀ s, v ≠ .string s) ∧ (∀ k n, v ≠ .float k n) ∧ ∀ k n m, v ≠ .complex k n m := by
 refine ⟨?_, ?_, ?_, ?_⟩ <;> (intros; rintro rfl; cases b <;> cases c <;> simp [IsNil] at h)
theorem runs_binD {op : BinOp} {t : TypeId} {x y : Operand} {dx dy d : D} (h : binD P op t (isConst x || isConst y) dx dy = some d) {w : World} {H : Heap} {a b : Value} (hx : R w H dx a) (hy : R w H dy b) :
  ∃ v, Runs P (do eqGuard op t x y a b; binOp op t a b) v ∧ R w H d v := by
 have glue : ∀ {v : Value}, Runs P (eqGuard op t x y a b) () → Runs P (binOp op t a b) v → Runs P (do eqGuard op t x y a b; binOp op t a b) v := fun h1 h2 => h1.bind h2
 unfold binD at h
 split at h
 ·rename_i k m k' n
  have e1 := hx.int_inv; have e2 := hy.int_inv; subst e1; subst e2
  split at h
  ·cases h
  ·rename_i hb
   cases h
   refine ⟨.int k (k.wrap (m * 2 ^ (min n.toNat k.bits))), glue (runs_eqGuard ⟨by simp, by simp⟩) (fun w => ?_), .int _ _⟩
   simp [binOp, Op.shift, hb]
 ·rename_i k m k' n
  have e1 := hx.int_inv; have e2 := hy.int_inv; subst e1; subst e2
  split at h
  ·cases h
  ·rename_i hb
   cases h
   refine ⟨.int k (m.fdiv (2 ^ (min n.toNat k.bits))), glue (runs_eqGuard ⟨by simp, by simp⟩) (fun w => ?_), .int _ _⟩
   simp [binOp, Op.shift, hb]
 ·rename_i k m k' n h1 h2
  have e1 := hx.int_inv; have e2 := hy.int_inv; subst e1; subst e2
  split at h
  ·rename_i hk
   subst hk
   obtain ⟨v, hv, hR⟩ := runs_intD (P := P) h h1 h2 t
   exact ⟨v, glue (runs_eqGuard ⟨by simp, by simp⟩) hv, hR _ _⟩
  ·cases h
 ·have e1 := hx.str_inv; have e2 := hy.str_inv; subst e1; subst e2
  obtain ⟨v, hv, hR⟩ := runs_strD (P := P) h t
  exact ⟨v, glue (runs_eqGuard ⟨by simp, by simp⟩) hv, hR _ _⟩
 ·rename_i m n
  have e1 := hx.bool_inv; have e2 := hy.bool_inv; subst e1; subst e2
  split at h
  ·rename_i hb
   cases h
   have hd : Op.maxDepth = 9999 + 1 := rfl
   have he : Runs P (Op.equal t (.bool m) (.bool n)) (m == n) := by unfold Op.equal; rw [hd]; exact (runs_underlying (base_bool hb)).bind (.pure _)
   exact ⟨_, glue (runs_eqGuard ⟨by simp, by simp⟩) (runs_eql he (by simp) (by simp) (by simp) (by simp)).1, .bool _⟩
  ·cases h
 ·rename_i m n
  have e1 := hx.bool_inv; have e2 := hy.bool_inv; subst e1; subst e2
  split at h
  ·rename_i hb
   cases h
   have hd : Op.maxDepth = 9999 + 1 := rfl
   have he : Runs P (Op.equal t (.bool m) (.bool n)) (m == n) := by unfold Op.equal; rw [hd]; exact (runs_underlying (base_bool hb)).bind (.pure _)
   exact ⟨_, glue (runs_eqGuard ⟨by simp, by simp⟩) (runs_eql he (by simp) (by simp) (by simp) (by simp)).2, .bool _⟩
  ·cases h
 ·split at h
  ·rename_i hc
   obtain ⟨c, hcc, rfl⟩ := Option.map_eq_some_iff.1 h
   unfold eqNil at hcc
   split at hcc
   ·rename_i h1 h2
    cases hcc
    have i1 := nilD_inv h1 hx; have i2 := nilD_inv h2 hy
    exact ⟨_, glue (runs_eqGuard ⟨fun vs us hh => i1.no_agg vs hh.1, fun _ _ => hc⟩) (runs_eql (runs_equal_nil i1 i2).1 i1.plain.1 i1.plain.2.1 i1.plain.2.2.1 i1.plain.2.2.2).1, .bool _⟩
   ·rename_i _ h1 h2
    cases hcc
    have i1 := nilD_inv h1 hx; have i2 := nilD_inv h2 hy
    exact ⟨_, glue (runs_eqGuard ⟨fun vs us hh => i1.no_agg vs hh.1, fun _ _ => hc⟩) (runs_eql (runs_equal_nil i2 i1).2 i1.plain.1 i1.plain.2.1 i1.plain.2.2.1 i1.plain.2.2.2).1, .bool _⟩
   ·cases hcc
  ·cases h
 ·split at h
  ·rename_i hc
   obtain ⟨c, hcc, rfl⟩ := Option.map_eq_some_iff.1 h
   unfold eqNil at hcc
   split at hcc
   ·rename_i h1 h2
    cases hcc
    have i1 := nilD_inv h1 hx; have i2 := nilD_inv h2 hy
    exact ⟨_, glue (runs_eqGuard ⟨fun vs us hh => i1.no_agg vs hh.1, fun _ _ => hc⟩) (runs_eql (runs_equal_nil i1 i2).1 i1.plain.1 i1.plain.2.1 i1.plain.2.2.1 i1.plain.2.2.2).2, .bool _⟩
   ·rename_i _ h1 h2
    cases hcc
    have i1 := nilD_inv h1 hx; have i2 := nilD_inv h2 hy
    exact ⟨_, glue (runs_eqGuard ⟨fun vs us hh => i1.no_agg vs hh.1, fun _ _ => hc⟩) (runs_eql (runs_equal_nil i2 i1).2 i1.plain.1 i1.plain.2.1 i1.plain.2.2.1 i1.plain.2.2.2).2, .bool _⟩
   ·cases hcc
  ·cases h
 ·cases h
end
end Go.Av
end
section
namespace Go.Av
section
variable {P : Program}
theorem add_off (b off n : Nat) : (⟨b, off, none⟩ : Addr).add n = ⟨b, off + n, none⟩ := by unfold Addr.add; split <;> simp_all
def OptR (d : Option D) (v : Option Value) : Prop := match d, v with
 | none, none => True
 | some d, some v => ∀ k n, d = .int k n → v = .int k n
 | _, _ => False
theorem runs_sliceBound {k : IntKind} {n : Int} {y : Nat} {c : BoundsCode} (h : 0 ≤ n ∧ n ≤ y) : Runs P (Instr.sliceBound (.int k n) y c) n.toNat := by
 intro w
 simp [Instr.sliceBound, asIntOf, h.1, h.2]
theorem runs_bounds {isS : Bool} {len cap : Nat} {lo hi : Option D} {l h : Nat} (hb : boundsD len lo hi = some (l, h)) {vlo vhi : Option Value} (h1 : OptR lo vlo) (h2 : OptR hi vhi) (hc : len ≤ cap) :
  Runs P (Instr.sliceBounds isS len cap vlo vhi none) (l, h, cap) ∧ l ≤ h ∧ h ≤ len := by
 unfold boundsD at hb
 split at hb
 ·cases hb
  cases vlo <;> cases vhi <;> simp only [OptR] at h1 h2
  exact ⟨fun w => rfl, Nat.zero_le _, Nat.le_refl _⟩
 ·rename_i k n
  split at hb
  ·rename_i hn
   cases hb
   cases vlo <;> cases vhi <;> simp only [OptR] at h1 h2
   rename_i v
   obtain rfl := h1 _ _ rfl
   exact ⟨(Runs.pure cap).bind ((Runs.pure len).bind ((runs_sliceBound ⟨hn.1, hn.2⟩).bind (.pure _))), by omega, Nat.le_refl _⟩
  ·cases hb
 ·rename_i k n
  split at hb
  ·rename_i hn
   cases hb
   cases vlo <;> cases vhi <;> simp only [OptR] at h1 h2
   rename_i v
   obtain rfl := h2 _ _ rfl
   exact ⟨(Runs.pure cap).bind ((runs_sliceBound ⟨hn.1, by omega⟩).bind ((Runs.pure 0).bind (.pure _))), Nat.zero_le _, by omega⟩
  ·cases hb
 ·rename_i k n k' m
  split at hb
  ·rename_i hn
   cases hb
   cases vlo <;> cases vhi <;> simp only [OptR] at h1 h2
   rename_i v u
   obtain rfl := h1 _ _ rfl
   obtain rfl := h2 _ _ rfl
   exact ⟨(Runs.pure cap).bind ((runs_sliceBound ⟨by omega, by omega⟩).bind ((runs_sliceBound ⟨hn.1, by omega⟩).bind (.pure _))), by omega, by omega⟩
  ·cases hb
 ·cases hb
theorem runs_sliceD {t : TypeId} {x d : D} {lo hi : Option D} (h : sliceD P t x lo hi = some d) {w : World} {H : Heap} {v : Value} (hx : R w H x v) {vlo vhi : Option Value} (h1 : OptR lo vlo) (h2 : OptR hi vhi) :
  ∃ u, Runs P (Instr.sliceAt t v vlo vhi none) u ∧ R w H d u := by
 unfold sliceD at h
 split at h
 ·rename_i s
  obtain rfl := hx.str_inv
  split at h
  ·rename_i hb
   obtain ⟨⟨l, k⟩, hbd, rfl⟩ := Option.map_eq_some_iff.1 h
   obtain ⟨hr, hl, hk⟩ := runs_bounds (P := P) (isS := false) (cap := s.size) hbd h1 h2 (Nat.le_refl _)
   refine ⟨.string (s.extract l k), ?_, .str _⟩
   refine (runs_underlying (base_str hb)).bind ?_
   unfold Instr.slice
   refine (runs_underlying (base_str hb)).bind ?_
   exact hr.bind (.pure _)
  ·cases h
 ·cases hx
  split at h
  ·rename_i hb
   obtain ⟨⟨e, sz, by_⟩, he⟩ := Option.isSome_iff_exists.1 hb
   obtain ⟨⟨l, k⟩, hbd, rfl⟩ := Option.map_eq_some_iff.1 h
   obtain ⟨hr, hl, hk⟩ := runs_bounds (P := P) (isS := true) (cap := 0) hbd h1 h2 (Nat.le_refl _)
   obtain ⟨hu, i, hi, _, _⟩ := elem_inv he
   have : l = 0 := by omega
   have : k = 0 := by omega
   subst l; subst k
   refine ⟨.slice none 0 0, ?_, .nilsl⟩
   refine (runs_underlying hu).bind ?_
   unfold Instr.slice
   refine (runs_underlying hu).bind ?_
   refine hr.bind ?_
   exact (runs_sizeOf hi).bind (.pure _)
  ·cases h
 ·rename_i sz es
  split at h
  ·rename_i hb
   obtain ⟨⟨e, sz', by_⟩, he, hsz⟩ := Option.map_eq_some_iff.1 hb
   simp only at hsz
   subst hsz
   obtain ⟨⟨l, k⟩, hbd, rfl⟩ := Option.map_eq_some_iff.1 h
   obtain ⟨hu, i, hi, his, _⟩ := elem_inv he
   simp only at hu hi his
   have go : ∀ (a : Option Addr) (cap : Nat), es.length ≤ cap → v = .slice a es.length cap → Runs P (Instr.sliceAt t v vlo vhi none) (.slice (if cap = l then a else a.map (·.add (l * sz'))) (k - l) (cap - l)) ∧ l ≤ k ∧ k ≤ es.length := by
    rintro a cap hcap rfl
    obtain ⟨hr, hl, hk⟩ := runs_bounds (P := P) (isS := true) (cap := cap) hbd h1 h2 hcap
    refine ⟨?_, hl, hk⟩
    refine (runs_underlying hu).bind ?_
    unfold Instr.slice
    refine (runs_underlying hu).bind ?_
    refine hr.bind ?_
    rw [← his]
    exact (runs_sizeOf hi).bind (.pure _)
   have hlen : k ≤ es.length → ((es.take k).drop l).length = k - l := fun hk => by simp [Nat.min_eq_left hk]
   cases hx with
   | sl0 sz a cap =>
    obtain ⟨hr, hl, hk⟩ := go a cap (Nat.zero_le _) rfl
    refine ⟨_, hr, ?_⟩
    have e : (([] : List (List D)).take k).drop l = [] := by simp
    rw [e]
    have : k - l = 0 := by simp at hk; omega
    rw [this]
    exact .sl0 _ _ _
   | sl sz es b off cap u hb' hn hln hcap hc h1' hr' =>
    obtain ⟨hr, hl, hk⟩ := go _ cap hcap rfl
    refine ⟨_, hr, ?_⟩
    by_cases hlk : l = k
    ·have e : (es.take k).drop l = [] := by rw [List.drop_eq_nil_iff]; simp; omega
     rw [e, show k - l = 0 by omega]
     exact .sl0 _ _ _
    ·have hne : ¬ cap = l := by omega
     rw [if_neg hne]
     simp only [Option.map_some, add_off]
     rw [← hlen hk]
     have at' : ∀ i e, ((es.take k).drop l)[i]? = some e → es[l + i]? = some e := fun i e he => by
      rw [List.getElem?_drop, List.getElem?_take] at he
      split at he
      ·exact he
      ·cases he
     refine .sl sz' _ b (off + l * sz') (cap - l) (fun i j => u (l + i) j) hb' hn (fun i e he => hln _ e (at' i e he)) (by rw [hlen hk]; omega) (fun i j hi hj => ?_) (fun i e j d he hd => h1' _ e j d (at' i e he) hd) (fun i e j d he hd => hr' _ e j d (at' i e he) hd)
     rw [hlen hk] at hi
     have := hc (l + i) j (by omega) hj
     rw [← this, Nat.add_mul]
     congr 2; omega
  ·cases h
 ·rename_i b sz lo0 n
  split at h
  ·rename_i hb
   obtain ⟨⟨e, sz', by_⟩, he, hsz⟩ := Option.map_eq_some_iff.1 hb
   simp only at hsz
   subst hsz
   obtain ⟨⟨l, k⟩, hbd, rfl⟩ := Option.map_eq_some_iff.1 h
   obtain ⟨hu, i, hi, his, _⟩ := elem_inv he
   simp only at hu hi his
   cases hx with
   | vec b sz lo n cap T m hsh hs hsz hn =>
    obtain ⟨hr, hl, hk⟩ := runs_bounds (P := P) (isS := true) (cap := cap) hbd h1 h2 hn
    refine ⟨.slice (if cap = l then some ⟨b, lo0 * sz', none⟩ else (some (⟨b, lo0 * sz', none⟩ : Addr)).map (·.add (l * sz'))) (k - l) (cap - l), ?_, ?_⟩
    ·refine (runs_underlying hu).bind ?_
     unfold Instr.slice
     refine (runs_underlying hu).bind ?_
     refine hr.bind ?_
     rw [← his]
     exact (runs_sizeOf hi).bind (.pure _)
    ·simp only
     split
     ·rename_i hl0
      subst hl0
      have e : (if cap = 0 then some ⟨b, lo0 * sz', none⟩ else (some (⟨b, lo0 * sz', none⟩ : Addr)).map (·.add (0 * sz'))) = some (⟨b, lo0 * sz', none⟩ : Addr) := by split <;> simp [add_off]
      rw [e]
      simp only [Nat.sub_zero]
      exact .vec b sz' lo0 k cap T m hsh hs hsz (by omega)
     ·rename_i hl0
      by_cases hcl : cap = l
      ·rw [if_pos hcl, show k - l = 0 by omega, show cap - l = 0 by omega]
       exact .vec0 _ _ _ _
      ·rw [if_neg hcl]
       simp only [Option.map_some, add_off]
       rw [← Nat.add_mul]
       exact .vec b sz' (lo0 + l) (k - l) (cap - l) T m hsh (by rw [hs]; congr 1; omega) hsz (by omega)
   | vec0 b sz lo off =>
    obtain ⟨hr, hl, hk⟩ := runs_bounds (P := P) (isS := true) (cap := 0) hbd h1 h2 (Nat.le_refl 0)
    refine ⟨.slice (if 0 = l then some ⟨b, off, none⟩ else (some (⟨b, off, none⟩ : Addr)).map (·.add (l * sz'))) (k - l) (0 - l), ?_, ?_⟩
    ·refine (runs_underlying hu).bind ?_
     unfold Instr.slice
     refine (runs_underlying hu).bind ?_
     refine hr.bind ?_
     rw [← his]
     exact (runs_sizeOf hi).bind (.pure _)
    ·obtain rfl : k = 0 := by omega
     obtain rfl : l = 0 := by omega
     exact .vec0 _ _ _ _
  ·cases h
 ·cases h
theorem runs_lenD {t : TypeId} {x d : D} (h : lenD P t x = some d) {w : World} {H : Heap} {v : Value} (hx : R w H x v) (ty : TypeId) (ts : Array TypeId) (ht : ts[0]? = some t) (vs : Array Value) (hv : vs[0]? = some v) :
  ∃ u, Runs P (Builtin.len_ ts ty vs) u ∧ R w H d u := by
 have go : ∀ {s : Sem Value} {u : Value}, s = Builtin.len_ ts ty vs → Runs P s u → Runs P (Builtin.len_ ts ty vs) u := fun e h => e ▸ h
 unfold Builtin.len_
 rw [ht, hv]
 cases x <;> simp only [lenD] at h <;> try (cases h; done)
 case str s =>
  split at h
  ·rename_i hb
   cases h; obtain rfl := hx.str_inv
   exact ⟨_, (runs_underlying (base_str hb)).bind (.pure _), .int _ _⟩
  ·cases h
 case nilsl =>
  split at h
  ·rename_i hb
   cases h; cases hx
   obtain ⟨e, hu⟩ := base_slice hb
   exact ⟨_, (runs_underlying hu).bind (.pure _), .int _ _⟩
  ·cases h
 case sl sz es =>
  split at h
  ·rename_i hb
   cases h
   obtain ⟨e, hu⟩ := base_slice hb
   cases hx
   ·exact ⟨_, (runs_underlying hu).bind (.pure _), .int _ _⟩
   ·exact ⟨_, (runs_underlying hu).bind (.pure _), .int _ _⟩
  ·cases h
 case vec b sz lo n =>
  split at h
  ·rename_i hb
   cases h
   obtain ⟨e, hu⟩ := base_slice hb
   cases hx <;> exact ⟨_, (runs_underlying hu).bind (.pure _), .int _ _⟩
  ·cases h
theorem runs_indexAddrD {t : TypeId} {x i d : D} (h : indexAddrD P t x i = some d) {w : World} {H : Heap} {v vi : Value} (hx : R w H x v) (hi : R w H i vi) :
  ∃ u, Runs P (Instr.indexAt t v vi) u ∧ R w H d u := by
 unfold indexAddrD at h
 split at h
 ·rename_i sz es k n
  obtain rfl := hi.int_inv
  split at h
  ·rename_i hc
   obtain ⟨hb, h0, hlt⟩ := hc
   cases h
   obtain ⟨⟨e, sz', by_⟩, he, hsz⟩ := Option.map_eq_some_iff.1 hb
   simp only at hsz
   subst hsz
   obtain ⟨hu, i, hi, his, _⟩ := elem_inv he
   simp only at hu hi his
   cases hx with
   | sl0 => simp at hlt; omega
   | sl sz es b off cap u hb' hn hln hcap hcc h1' hr' =>
    refine ⟨.pointer (some ⟨b, off + n.toNat * sz', none⟩), ?_, ?_⟩
    ·unfold Instr.indexAt
     refine (Runs.pure (P := P) (k, n)).bind ?_
     refine (runs_underlying hu).bind ?_
     refine (Runs.pure (P := P) (some (⟨b, off, none⟩ : Addr), es.length, e)).bind ?_
     refine (runs_underlying hu).bind ?_
     simp only [h0, hlt, and_self, if_true]
     rw [← his]
     exact (runs_sizeOf hi).bind (by rw [add_off]; exact .pure _)
    ·have hltn : n.toNat < es.length := by omega
     have hg : es[n.toNat]? = some (es.getD n.toNat []) := by simp [List.getElem?_eq_getElem hltn]
     have hl := hln _ _ hg
     exact .ro _ b (off + n.toNat * sz') (fun j => u n.toNat j) hb' hn (fun j hj => by rw [hl] at hj; exact hcc _ _ hltn hj) (fun j d hd => h1' _ _ j d hg hd) (fun j d hd => hr' _ _ j d hg hd)
  ·cases h
 ·rename_i b sz l m k n
  obtain rfl := hi.int_inv
  split at h
  ·rename_i hc
   obtain ⟨hb, h0, hlt⟩ := hc
   cases h
   obtain ⟨⟨e, sz', by_⟩, he, hsz⟩ := Option.map_eq_some_iff.1 hb
   simp only at hsz
   subst hsz
   obtain ⟨hu, i, hi, his, _⟩ := elem_inv he
   simp only at hu hi his
   cases hx with
   | vec b sz lo n' cap T m' hsh hs hsz hn =>
    refine ⟨.pointer (some ⟨b, (l + n.toNat) * sz' + 0, none⟩), ?_, .el _ _ _ _⟩
    unfold Instr.indexAt
    refine (Runs.pure (P := P) (k, n)).bind ?_
    refine (runs_underlying hu).bind ?_
    refine (Runs.pure (P := P) (some (⟨b, l * sz', none⟩ : Addr), m, e)).bind ?_
    refine (runs_underlying hu).bind ?_
    simp only [h0, hlt, and_self, if_true]
    rw [← his]
    exact (runs_sizeOf hi).bind (by rw [add_off, Nat.add_zero, Nat.add_mul]; exact .pure _)
   | vec0 b sz lo off => omega
  ·cases h
 ·rename_i b off k n
  obtain rfl := hi.int_inv
  obtain rfl := hx.box_inv
  split at h
  ·rename_i len sz ha
   split at h
   ·rename_i hc
    cases h
    unfold arrT at ha
    split at ha
    ·rename_i n' e hu
     obtain ⟨i, hi, hie⟩ := Option.map_eq_some_iff.1 ha
     cases hie
     refine ⟨.pointer (some ⟨b, off + n.toNat * i.size, none⟩), ?_, .box _ _⟩
     unfold Instr.indexAt
     refine (Runs.pure (P := P) (k, n)).bind ?_
     refine (runs_underlying hu).bind ?_
     refine (Runs.pure (P := P) (⟨b, off, none⟩ : Addr)).bind ?_
     refine (Runs.pure (P := P) (some (⟨b, off, none⟩ : Addr), len, e)).bind ?_
     refine (runs_underlying hu).bind ?_
     simp only [hc.1, hc.2, and_self, if_true]
     exact (runs_sizeOf hi).bind (by rw [add_off]; exact .pure _)
    ·cases ha
   ·cases h
  ·cases h
 ·cases h
theorem mapM_get {α β : Type} {f : α → Option β} : ∀ {l : List α} {r : List β}, l.mapM f = some r → ∀ (i : Nat) (b : β), r[i]? = some b → ∃ a, l[i]? = some a ∧ f a = some b
 | [], r, h, i, b, hb => by simp at h; subst h; simp at hb
 | a :: l, r, h, i, b, hb => by
  simp only [List.mapM_cons, Option.bind_eq_bind, Option.bind_eq_some_iff, Option.pure_def] at h
  obtain ⟨b0, h0, r0, h1, h2⟩ := h
  cases h2
  cases i with
  | zero => simp at hb; subst hb; exact ⟨a, by simp, h0⟩
  | succ i => simp at hb ⊢; exact mapM_get h1 i b hb
theorem fields_inv {t : TypeId} {f : Nat} {o : Nat} {b : Bool} {n : Nat} (h : (fieldsT P t).bind (·[f]?) = some (o, b, n)) :
  ∃ fs fd, P.underlying t = some (.struct fs) ∧ fs[f]? = some fd ∧ fd.offset = o ∧ shapeT P fd.type = some (b, n) := by
 obtain ⟨l, hl, hg⟩ := Option.bind_eq_some_iff.1 h
 unfold fieldsT at hl
 split at hl
 ·rename_i fs hu
  obtain ⟨fd, hfd, hs⟩ := mapM_get hl f _ hg
  obtain ⟨s, hs', he⟩ := Option.map_eq_some_iff.1 hs
  cases he
  exact ⟨fs, fd, hu, by simpa using hfd, rfl, hs'⟩
 ·cases hl
theorem runs_fieldAddrD {t : TypeId} {x d : D} {f : Nat} (h : fieldAddrD P t x f = some d) {w : World} {H : Heap} {v : Value} (hx : R w H x v) :
  ∃ u, Runs P (Instr.fieldAt t v f) u ∧ R w H d u := by
 unfold fieldAddrD at h
 split at h
 ·rename_i o bb n hf
  split at h
  ·cases h
  ·rename_i hn0
   obtain ⟨fs, fd, hu, hfd, ho, hsh⟩ := fields_inv hf
   obtain ⟨_, hsz⟩ := runs_isAgg (P := P) hsh
   have go : ∀ (a : Addr), v = .pointer (some a) → Runs P (Instr.fieldAt t v f) (.pointer (some (a.add o))) := by
    rintro a rfl
    unfold Instr.fieldAt
    refine (runs_underlying hu).bind ?_
    simp only [hfd]
    refine (Runs.pure (P := P) a).bind ?_
    unfold fieldPlace
    refine Runs.bind (v := a.add o) (hsz.bind ?_) (.pure _)
    rw [if_neg hn0, ho]
    exact .pure _
   split at h
   ·cases h; obtain rfl := hx.box_inv; exact ⟨_, go _ rfl, by rw [add_off]; exact .box _ _⟩
   ·cases h; obtain rfl := hx.el_inv; exact ⟨_, go _ rfl, by rw [add_off, Nat.add_assoc]; exact .el _ _ _ _⟩
   ·cases h
    cases hx with
    | ro cs b off u hb hn hc h1 hr =>
     refine ⟨_, go _ rfl, ?_⟩
     rw [add_off]
     refine .ro _ b (off + o) (fun j => u (o + j)) hb hn (fun j hj => ?_) (fun j d hd => h1 (o + j) d (by rwa [List.getElem?_drop] at hd)) (fun j d hd => hr (o + j) d (by rwa [List.getElem?_drop] at hd))
     have := hc (o + j) (by simp at hj; omega)
     rw [← this, Nat.add_assoc]
   ·cases h
 ·cases h
theorem takeD_R {s : Bool × Nat} {cs : List D} {d : D} (h : takeD s cs = some d) {w : World} {H : Heap} (g : Nat → Value) (h1 : ∀ (i : Nat) c, cs[i]? = some c → c.one = true) (hr : ∀ (i : Nat) c, cs[i]? = some c → R w H c (g i)) :
  (s.1 = true → s.2 ≤ cs.length ∧ d = .agg (cs.take s.2) ∧ R w H d (.agg ((List.range s.2).map g).toArray)) ∧ (s.1 = false → cs[0]? = some d ∧ R w H d (g 0)) := by
 obtain ⟨b, n⟩ := s
 cases b
 ·refine ⟨by simp, fun _ => ?_⟩
  simp only [takeD] at h
  have h0 : cs[0]? = some d := by cases cs <;> simp_all
  exact ⟨h0, hr 0 d h0⟩
 ·refine ⟨fun _ => ?_, by simp⟩
  simp only [takeD] at h
  split at h
  ·rename_i hn
   cases h
   refine ⟨hn, rfl, .agg _ _ (by simp [hn]) (fun i d hd => ?_) (fun i d hd => ?_)⟩
   ·rw [List.getElem?_take] at hd; split at hd <;> first | exact h1 i d hd | cases hd
   ·rw [List.getElem?_take] at hd
    split at hd
    ·rename_i hi
     have : ((List.range n).map g).toArray.getD i Go.undef = g i := by simp [hi]
     rw [this]; exact hr i d hd
    ·cases hd
  ·cases h
theorem runs_part {t : TypeId} {s : Bool × Nat} (hs : shapeT P t = some s) {cs : List D} {vs : Array Value} {o : Nat} {d : D} (h : takeD s (cs.drop o) = some d) {w : World} {H : Heap}
  (hl : cs.length = vs.size) (h1 : ∀ (i : Nat) c, cs[i]? = some c → c.one = true) (hr : ∀ (i : Nat) c, cs[i]? = some c → R w H c (vs.getD i Go.undef)) :
  ∃ u, Runs P (part t vs o) u ∧ R w H d u := by
 obtain ⟨b, n⟩ := s
 obtain ⟨ha, hz⟩ := runs_isAgg (P := P) hs
 obtain ⟨k1, k2⟩ := takeD_R h (w := w) (H := H) (fun i => vs.getD (o + i) Go.undef) (fun i c hc => h1 (o + i) c (by rwa [List.getElem?_drop] at hc)) (fun i c hc => hr (o + i) c (by rwa [List.getElem?_drop] at hc))
 unfold part
 cases b
 ·obtain ⟨h0, hR⟩ := k2 rfl
  refine ⟨_, ha.bind ?_, hR⟩
  rw [List.getElem?_drop] at h0
  have hlt : o < vs.size := by
   have := (List.getElem?_eq_some_iff.1 h0).1
   omega
  have hv : vs[o]? = some (vs.getD o Go.undef) := by simp [hlt]
  simp only [Bool.false_eq_true, if_false, Nat.add_zero]
  rw [hv]
  exact .pure _
 ·obtain ⟨hn, _, hR⟩ := k1 rfl
  refine ⟨_, ha.bind ?_, hR⟩
  simp only [if_true]
  refine hz.bind ?_
  have e : vs.extract o (o + n) = ((List.range n).map fun i => vs.getD (o + i) Go.undef).toArray := by
   simp at hn
   apply Array.ext
   ·simp; omega
   ·intro i hi1 hi2
    simp at hi1 hi2 ⊢
    have : o + i < vs.size := by omega
    simp [this]
  rw [e]
  exact .pure _
theorem runs_fieldD {t : TypeId} {x d : D} {f : Nat} (h : fieldD P t x f = some d) {w : World} {H : Heap} {v : Value} (hx : R w H x v) :
  ∃ u, Runs P (Instr.field t v f) u ∧ R w H d u := by
 unfold fieldD at h
 split at h
 ·rename_i o s cs hf
  obtain ⟨b, n⟩ := s
  obtain ⟨fs, fd, hu, hfd, ho, hsh⟩ := fields_inv hf
  obtain ⟨vs, rfl, hl, h1, hr⟩ := hx.agg_inv
  obtain ⟨u, hp, hR⟩ := runs_part (P := P) hsh h hl h1 hr
  refine ⟨u, ?_, hR⟩
  unfold Instr.field
  refine (runs_underlying hu).bind ?_
  simp only [hfd]
  refine (Runs.pure (P := P) vs).bind ?_
  rw [ho]; exact hp
 ·cases h
theorem runs_indexD {t : TypeId} {x i d : D} (h : indexD P t x i = some d) {w : World} {H : Heap} {v vi : Value} (hx : R w H x v) (hi : R w H i vi) :
  ∃ u, Runs P (Instr.index t v vi) u ∧ R w H d u := by
 unfold indexD at h
 split at h
 ·rename_i s k n
  obtain rfl := hx.str_inv
  obtain rfl := hi.int_inv
  split at h
  ·rename_i hc
   obtain ⟨hb, h0, hlt⟩ := hc
   cases h
   refine ⟨.int .u8 (at8 s n), ?_, .int _ _⟩
   unfold Instr.index
   refine (Runs.pure (P := P) (k, n)).bind ?_
   refine (runs_underlying (base_str hb)).bind ?_
   have hl : n.toNat < s.size := by omega
   have e : (if 0 ≤ n then s[n.toNat]? else none) = some (s.data.toList.getD n.toNat 0) := by
    rw [if_pos h0]
    rw [getElem?_pos s n.toNat hl]
    have : n.toNat < s.data.toList.length := by simpa using hl
    simp [List.getD, List.getElem?_eq_getElem this]
    rfl
   dsimp only
   rw [e]
   exact .pure _
  ·cases h
 ·cases h
theorem runs_unD {op : UnOp} {x d : D} (h : unD op x = some d) {w : World} {H : Heap} {v : Value} (hx : R w H x v) : ∃ u, Runs P (Op.unary op v) u ∧ R w H d u := by
 unfold unD at h
 split at h
 ·cases h; obtain rfl := hx.int_inv; exact ⟨_, .pure _, .int _ _⟩
 ·cases h; obtain rfl := hx.int_inv; exact ⟨_, .pure _, .int _ _⟩
 ·cases h; obtain rfl := hx.bool_inv; exact ⟨_, .pure _, .bool _⟩
 ·cases h
theorem runs_convD {s t : TypeId} {x d : D} (h : convD P s t x = some d) {w : World} {H : Heap} {v : Value} (hx : R w H x v) : ∃ u, Runs P (convert s t v) u ∧ R w H d u := by
 unfold convD at h
 split at h
 ·split at h
  ·rename_i hs ht
   cases h; obtain rfl := hx.int_inv
   exact ⟨_, (runs_underlying hs).bind ((runs_underlying ht).bind (.pure _)), .int _ _⟩
  ·rename_i hs ht
   cases h; obtain rfl := hx.int_inv
   exact ⟨_, (runs_underlying hs).bind ((runs_underlying ht).bind (.pure _)), .str _⟩
  ·cases h
 ·split at h
  ·rename_i hb
   cases h; obtain rfl := hx.str_inv
   exact ⟨_, (runs_underlying (base_str hb.1)).bind ((runs_underlying (base_str hb.2)).bind (.pure _)), .str _⟩
  ·cases h
 ·cases h
end
end Go.Av
end
section
namespace Go.Av
section
variable {P : Program}
theorem runs_cellEq {d : Nat} {t : TypeId} {x y : D} {c : Bool} (h : cellEq (baseT P t) x y = some c) {w : World} {H : Heap} {a b : Value} (hx : R w H x a) (hy : R w H y b) :
  Runs P (Op.equalIn (d + 1) t a b) c := by
 unfold cellEq at h
 split at h
 ·rename_i k m k' n hbt
  have e1 := hx.int_inv; have e2 := hy.int_inv; subst e1; subst e2
  split at h
  ·rename_i hk
   subst hk; cases h
   obtain ⟨k', hu⟩ : ∃ k', P.underlying t = some (.int k') := by
    unfold baseT at hbt
    split at hbt <;> simp_all
   exact fun w => run_equalIn_int w d t k k' m n hu
  ·cases h
 ·rename_i m n hbt
  have e1 := hx.str_inv; have e2 := hy.str_inv; subst e1; subst e2
  cases h
  have hu : P.underlying t = some .string := by
   unfold baseT at hbt
   split at hbt <;> simp_all
  intro w
  rw [run_equalIn_string w d t m n hu, ByteArray.toList_eq, ByteArray.toList_eq]
 ·rename_i m n hbt
  have e1 := hx.bool_inv; have e2 := hy.bool_inv; subst e1; subst e2
  cases h
  have hu : P.underlying t = some .bool := by
   unfold baseT at hbt
   split at hbt <;> simp_all
  exact fun w => run_equalIn_bool' w d t m n hu
 ·cases h
theorem mapM_cons_inv {α β : Type} {f : α → Option β} {x : α} {xs : List α} {ys : List β} (h : (x :: xs).mapM f = some ys) : ∃ y r, f x = some y ∧ xs.mapM f = some r ∧ ys = y :: r := by
 simp only [List.mapM_cons, Option.bind_eq_bind, Option.bind_eq_some_iff, Option.pure_def, Option.some.injEq] at h
 obtain ⟨y, hy, r, hr, rfl⟩ := h
 exact ⟨y, r, hy, hr, rfl⟩
theorem runs_aggEq {d : Nat} {w0 : World} {H : Heap} {xs ys : List D} {vs us : Array Value} (hl : xs.length = vs.size) (h1 : ∀ (i : Nat) c, xs[i]? = some c → c.one = true) (hr : ∀ (i : Nat) c, xs[i]? = some c → R w0 H c (vs.getD i Go.undef))
  (hl' : ys.length = us.size) (h1' : ∀ (i : Nat) c, ys[i]? = some c → c.one = true) (hr' : ∀ (i : Nat) c, ys[i]? = some c → R w0 H c (us.getD i Go.undef)) :
  ∀ (fs : List Field) (l : List (Nat × Base)) (c : Bool), (fs.mapM fun f => if f.name ≠ "_" ∧ shapeT P f.type = some (false, 1) ∧ (baseT P f.type = .bool ∨ baseT P f.type = .int ∨ baseT P f.type = .str) then some (f.offset, baseT P f.type) else none) = some l →
   aggEq l xs ys = some c → Runs P (Op.eqFields (d + 1) vs us fs) c := by
 intro fs
 induction fs with
 | nil => intro l c hm h; simp at hm; subst hm; simp [aggEq] at h; subst h; exact .pure _
 | cons f fs ih =>
  intro l c hm h
  obtain ⟨p, r, hp, hrr, rfl⟩ := mapM_cons_inv hm
  split at hp
  ·rename_i hc
   cases hp
   obtain ⟨hn, hs, _⟩ := hc
   unfold aggEq at h
   split at h
   ·rename_i x y hx hy
    obtain ⟨c1, hc1, h2⟩ := Option.bind_eq_some_iff.1 h
    obtain ⟨c2, hc2, rfl⟩ := Option.map_eq_some_iff.1 h2
    have tk : ∀ (cs : List D) (z : D), cs[f.offset]? = some z → takeD (false, 1) (cs.drop f.offset) = some z := fun cs z hz => by
     simp only [takeD, List.head?_drop]; exact hz
    obtain ⟨a, ha, hRa⟩ := runs_part (P := P) hs (tk _ _ hx) hl h1 hr
    obtain ⟨b, hb', hRb⟩ := runs_part (P := P) hs (tk _ _ hy) hl' h1' hr'
    unfold Op.eqFields
    rw [if_pos hn]
    refine ha.bind (hb'.bind ((runs_cellEq hc1 hRa hRb).bind ?_))
    cases c1
    ·simp only [Bool.not_false, if_true, Bool.false_and]; exact .pure _
    ·simp only [Bool.not_true, Bool.false_eq_true, if_false, Bool.true_and]
     exact ih _ _ hrr hc2
   ·cases h
  ·cases hp
theorem runs_bin2D {op : BinOp} {t : TypeId} {x y : Operand} {dx dy d : D} (h : bin2D P op t (isConst x || isConst y) dx dy = some d) {w : World} {H : Heap} {a b : Value} (hx : R w H dx a) (hy : R w H dy b) :
  ∃ v, Runs P (do eqGuard op t x y a b; binOp op t a b) v ∧ R w H d v := by
 have key : ∀ {xs ys : List D} {fs : List (Nat × Base)} {c : Bool}, R w H (.agg xs) a → R w H (.agg ys) b → flatEq P t = some fs → aggEq fs xs ys = some c →
   ∃ vs us, a = .agg vs ∧ b = .agg us ∧ (∀ op, Runs P (eqGuard op t x y (.agg vs) (.agg us)) ()) ∧ Runs P (Op.equalIn 10000 t (.agg vs) (.agg us)) c := by
  intro xs ys fs c hx hy hfl hag
  obtain ⟨vs, rfl, hl, h1, hr⟩ := hx.agg_inv
  obtain ⟨us, rfl, hl', h1', hr'⟩ := hy.agg_inv
  unfold flatEq at hfl
  split at hfl
  ·rename_i hc
   split at hfl
   ·rename_i fds hu
    refine ⟨vs, us, rfl, rfl, fun op w => run_eqGuard_agg w op t x y vs us hc.1, fun w => ?_⟩
    have hfo : P.fieldsOf t = fds := by unfold Program.fieldsOf; rw [hu]
    rw [run_equalIn_agg w 9999 t vs us (by rw [hfo]; exact hu) hc.2, hfo]
    exact runs_aggEq (P := P) (d := 9998) hl h1 hr hl' h1' hr' fds.toList fs c hfl hag w
   ·cases hfl
  ·cases hfl
 unfold bin2D at h
 split at h
 ·obtain ⟨fs, hf, h2⟩ := Option.bind_eq_some_iff.1 h
  obtain ⟨c, hc, rfl⟩ := Option.map_eq_some_iff.1 h2
  obtain ⟨vs, us, rfl, rfl, hg, he⟩ := key hx hy hf hc
  exact ⟨.bool c, (hg _).bind (fun w => by rw [run_eql_struct, he w]; rfl), .bool _⟩
 ·obtain ⟨fs, hf, h2⟩ := Option.bind_eq_some_iff.1 h
  obtain ⟨c, hc, rfl⟩ := Option.map_eq_some_iff.1 h2
  obtain ⟨vs, us, rfl, rfl, hg, he⟩ := key hx hy hf hc
  exact ⟨.bool (!c), (hg _).bind (fun w => by rw [run_neq_struct, he w]; rfl), .bool _⟩
 ·exact runs_binD h hx hy
theorem putAt_length : ∀ (xs : List D) (cs : List D) (i : Nat), (putAt cs i xs).length = cs.length
 | [], _, _ => rfl
 | x :: xs, cs, i => by rw [putAt, putAt_length xs]; simp
theorem putAt_get : ∀ (xs : List D) (cs : List D) (i j : Nat), (putAt cs i xs)[j]? = if i ≤ j ∧ j < i + xs.length ∧ j < cs.length then xs[j - i]? else cs[j]?
 | [], cs, i, j => by rw [putAt, if_neg (by simp; omega)]
 | x :: xs, cs, i, j => by
  rw [putAt, putAt_get xs]
  simp only [List.length_set, List.length_cons]
  by_cases hij : i = j
  ·subst hij
   rw [if_neg (by omega)]
   by_cases hl : i < cs.length
   ·rw [if_pos (by omega)]; simp [hl]
   ·rw [if_neg (by omega)]; simp [hl]
  ·by_cases h1 : i + 1 ≤ j ∧ j < i + 1 + xs.length ∧ j < cs.length
   ·rw [if_pos h1, if_pos (by omega)]
    rw [show j - i = (j - (i + 1)) + 1 by omega, List.getElem?_cons_succ]
   ·rw [if_neg h1, if_neg (by omega), List.getElem?_set_ne hij]
def putV : Array Value → Nat → List Value → Array Value
 | c, _, [] => c
 | c, i, v :: vs => putV (c.setIfInBounds i v) (i + 1) vs
theorem putV_size : ∀ (vs : List Value) (c : Array Value) (i : Nat), (putV c i vs).size = c.size
 | [], _, _ => rfl
 | v :: vs, c, i => by rw [putV, putV_size vs]; simp
theorem putV_get : ∀ (vs : List Value) (c : Array Value) (i j : Nat), (putV c i vs)[j]? = if i ≤ j ∧ j < i + vs.length ∧ j < c.size then vs[j - i]? else c[j]?
 | [], c, i, j => by rw [putV, if_neg (by simp; omega)]
 | v :: vs, c, i, j => by
  rw [putV, putV_get vs]
  simp only [Array.size_setIfInBounds, List.length_cons]
  by_cases hij : i = j
  ·subst hij
   rw [if_neg (by omega)]
   by_cases hl : i < c.size
   ·rw [if_pos (by omega)]; simp [hl]
   ·rw [if_neg (by omega)]; simp [hl]
  ·by_cases h1 : i + 1 ≤ j ∧ j < i + 1 + vs.length ∧ j < c.size
   ·rw [if_pos h1, if_pos (by omega)]
    rw [show j - i = (j - (i + 1)) + 1 by omega, List.getElem?_cons_succ]
   ·rw [if_neg h1, if_neg (by omega), Array.getElem?_setIfInBounds_ne hij]
structure RowR (w : World) (H : Heap) (cs : List D) (vs : Array Value) : Prop where
 len : cs.length = vs.size
 one : ∀ (i : Nat) c, cs[i]? = some c → c.one = true
 rel : ∀ (i : Nat) c, cs[i]? = some c → R w H c (vs.getD i Go.undef)
theorem RowR.agg {w : World} {H : Heap} {cs : List D} {vs : Array Value} (h : RowR w H cs vs) : R w H (.agg cs) (.agg vs) := .agg cs vs h.len h.one h.rel
theorem RowR.of_cells {w : World} {H : Heap} {d : D} {v : Value} (h : R w H d v) (h1 : d.cells.all D.one = true) : RowR w H d.cells v.cells :=
 ⟨(h.cells h1).1, fun _ c hc => List.all_eq_true.1 h1 c (List.mem_of_getElem? hc), (h.cells h1).2⟩
theorem RowR.put {w : World} {H : Heap} {cs ds : List D} {vs us : Array Value} (h : RowR w H cs vs) (k : RowR w H ds us) (o : Nat) : RowR w H (putAt cs o ds) (putV vs o us.toList) := by
 have hl : us.toList.length = us.size := by simp
 have both : ∀ (i : Nat) c, (putAt cs o ds)[i]? = some c → c.one = true ∧ R w H c ((putV vs o us.toList).getD i Go.undef) := fun i c hc => by
  rw [putAt_get] at hc
  have hg : (putV vs o us.toList).getD i Go.undef = ((putV vs o us.toList)[i]?).getD Go.undef := by simp
  rw [hg, putV_get, hl, ← k.len, ← h.len]
  split at hc
  ·rename_i hcond
   rw [if_pos hcond]
   have := k.rel _ _ hc
   exact ⟨k.one _ _ hc, by simpa using this⟩
  ·rename_i hcond
   rw [if_neg hcond]
   have := h.rel _ _ hc
   exact ⟨h.one _ _ hc, by simpa using this⟩
 exact ⟨by rw [putAt_length, putV_size, h.len], fun i c hc => (both i c hc).1, fun i c hc => (both i c hc).2⟩
theorem fold_putV (off : Nat) : ∀ (l : List Value) (k : Nat) (c : Array Value), (l.zipIdx k).foldl (fun cs (x : Value × Nat) => cs.setIfInBounds (off + x.2) x.1) c = putV c (off + k) l
 | [], _, _ => rfl
 | v :: l, k, c => by
  simp only [List.zipIdx_cons, List.foldl_cons, putV]
  exact fold_putV off l (k + 1) _
theorem fill_R {w : World} {H : Heap} {place : Nat → Option (Nat × Nat)} : ∀ {ps : List (Nat × D)} {qs : List (Nat × Value)} {cs out : List D} {vs : Array Value}, fillD place cs ps = some out → RowR w H cs vs →
  (ps.length = qs.length) → (∀ (i : Nat) p q, ps[i]? = some p → qs[i]? = some q → p.1 = q.1 ∧ R w H p.2 q.2) → ∃ us, Instr.fill place vs qs = some us ∧ RowR w H out us := by
 intro ps
 induction ps with
 | nil =>
  intro qs cs out vs h hr hl _
  cases qs with
  | nil => simp only [fillD, Option.some.injEq] at h; subst h; exact ⟨vs, rfl, hr⟩
  | cons => simp at hl
 | cons p ps ih =>
  intro qs cs out vs h hr hl hrel
  cases qs with
  | nil => simp at hl
  | cons q qs =>
   obtain ⟨i, d⟩ := p
   obtain ⟨j, v⟩ := q
   obtain ⟨hij, hR⟩ := hrel 0 _ _ rfl rfl
   simp only at hij hR
   subst hij
   simp only [fillD] at h
   unfold Instr.fill
   split at h
   ·cases h
   ·rename_i off size hp
    split at h
    ·rename_i hc
     obtain ⟨h1, h2, h3⟩ := hc
     have hcells := RowR.of_cells hR h3
     obtain ⟨us, hus, hru⟩ := ih (qs := qs) (vs := putV vs off v.cells.toList) h (hr.put hcells off) (by simpa using hl) (fun k p q hp hq => hrel (k + 1) p q (by simpa using hp) (by simpa using hq))
     refine ⟨us, ?_, hru⟩
     rw [hp]
     have e1 : v.cells.size = size := by rw [← hcells.len, h1]
     have e2 : vs.size = cs.length := hr.len.symm
     simp only [e1, e2]
     rw [if_neg (by simp; omega)]
     have e3 := fold_putV off v.cells.toList 0 vs
     simp only [Nat.add_zero] at e3
     rw [← Array.foldl_toList, Array.toList_zipIdx, e3]
     exact hus
    ·cases h
theorem runs_places {t : TypeId} {fs : Array Field} (hu : P.underlying t = some (.struct fs)) {l : List (Nat × Bool × Nat)} (h : fieldsT P t = some l) :
  Runs P (fs.mapM fun f => do pure (f.offset, ← sizeOf f.type)) ((l.map fun x => (x.1, x.2.2)).toArray) := by
 unfold fieldsT at h
 rw [hu] at h
 simp only at h
 intro w
 rw [Array.mapM_eq_mapM_toList]
 generalize fs.toList = m at h
 have key : ∀ (m : List Field) (l : List (Nat × Bool × Nat)), m.mapM (fun f => (shapeT P f.type).map fun s => (f.offset, s.1, s.2)) = some l →
   Runs P (m.mapM fun f => do pure (f.offset, ← sizeOf f.type)) (l.map fun x => (x.1, x.2.2)) := by
  intro m
  induction m with
  | nil => intro l h; simp at h; subst h; exact .pure _
  | cons f m ih =>
   intro l h
   simp only [List.mapM_cons, Option.bind_eq_bind, Option.bind_eq_some_iff, Option.pure_def] at h
   obtain ⟨b0, h0, r0, h1, h2⟩ := h
   cases h2
   obtain ⟨s, hs, he⟩ := Option.map_eq_some_iff.1 h0
   cases he
   rw [List.mapM_cons]
   refine Runs.bind (v := (f.offset, s.2)) (((runs_isAgg (P := P) (b := s.1) (n := s.2) hs).2).bind (.pure _)) ?_
   exact (ih r0 h1).bind (.pure _)
 have := key m l h w
 simp only [Functor.map]
 rw [Sem.run_bind', this]
 rfl
theorem runs_fold {f : D → D → Option D} {g : Value → Value → Sem Value} (hf : ∀ a b c, f a b = some c → ∀ w H u v, R w H a u → R w H b v → ∃ r, Runs P (g u v) r ∧ R w H c r) {w : World} {H : Heap} :
  ∀ (l : List D) (us : List Value) (x d : D) (u : Value), l.foldlM f x = some d → R w H x u → l.length = us.length → (∀ (i : Nat) c, l[i]? = some c → R w H c (us.getD i Go.undef)) → ∃ r, Runs P (us.foldlM g u) r ∧ R w H d r
 | [], us, x, d, u, h, hx, hl, _ => by
  cases us with
  | nil => simp at h; subst h; exact ⟨u, .pure _, hx⟩
  | cons => simp at hl
 | y :: l, us, x, d, u, h, hx, hl, hr => by
  cases us with
  | nil => simp at hl
  | cons v us =>
   simp only [List.foldlM_cons, Option.bind_eq_bind, Option.bind_eq_some_iff] at h
   obtain ⟨c, hc, h⟩ := h
   obtain ⟨r, hr1, hr2⟩ := hf _ _ _ hc w H u v hx (by simpa using hr 0 y rfl)
   obtain ⟨r', h1, h2⟩ := runs_fold hf l us c d r h hr2 (by simpa using hl) (fun i c hc => by simpa using hr (i + 1) c (by simpa using hc))
   exact ⟨r', by rw [List.foldlM_cons]; exact hr1.bind h1, h2⟩
theorem min2_ok : ∀ a b c, min2D a b = some c → ∀ w H u v, R w H a u → R w H b v → ∃ r, Runs P (Builtin.min2 u v) r ∧ R w H c r := by
 intro a b c h w H u v ha hb
 unfold min2D at h
 split at h
 ·cases h; obtain rfl := ha.int_inv; obtain rfl := hb.int_inv
  exact ⟨_, .pure _, .int _ _⟩
 ·cases h
theorem max2_ok : ∀ a b c, max2D a b = some c → ∀ w H u v, R w H a u → R w H b v → ∃ r, Runs P (Builtin.max2 u v) r ∧ R w H c r := by
 intro a b c h w H u v ha hb
 unfold max2D at h
 split at h
 ·cases h; obtain rfl := ha.int_inv; obtain rfl := hb.int_inv
  exact ⟨_, .pure _, .int _ _⟩
 ·cases h
theorem pureD_sound {o : Oper} {ρ : Operand → Value} {ev : Operand → D} {w : World} {H : Heap} {d : D} (hev : ∀ x, R w H (ev x) (ρ x)) (h : pureD P ev o.op = some d) :
  ∃ v, (∀ w', (execOp ρ o).run P w' = .ok (.value v) w') ∧ R w H d v := by
 obtain ⟨dst, op, type, pos, after, guard⟩ := o
 simp only at h
 have lift : ∀ {s : Sem Value}, (∃ v, Runs P s v ∧ R w H d v) → ∃ v, Runs P (do pure (Next.value (← s))) (Next.value v) ∧ R w H d v := fun ⟨v, h1, h2⟩ => ⟨v, runs_v h1, h2⟩
 have opt : ∀ (x : Option Operand), OptR (x.map ev) (x.map ρ) := fun x => by
  cases x with
  | none => trivial
  | some x => intro k n e; have := hev x; rw [e] at this; exact this.int_inv
 show ∃ v, Runs P (execOp ρ _) (Next.value v) ∧ R w H d v
 cases op <;> simp only [pureD] at h <;> try (cases h; done)
 case move x => cases h; exact ⟨ρ x, .pure _, hev x⟩
 case assign x => cases h; exact ⟨ρ x, .pure _, hev x⟩
 case pick c a b =>
  split at h
  ·rename_i t hc
   cases h
   have hb := hev c
   rw [hc] at hb
   refine ⟨if t then ρ a else ρ b, ?_, ?_⟩
   ·simp only [execOp]
    rw [hb.bool_inv]
    exact (Runs.pure (P := P) t).bind (.pure _)
   ·cases t
    ·exact hev b
    ·exact hev a
  ·cases h
 case build t parts =>
  split at h
  ·rename_i hb
   obtain ⟨z, hz, h⟩ := Option.bind_eq_some_iff.1 h
   obtain ⟨fs, hfs, h⟩ := Option.bind_eq_some_iff.1 h
   obtain ⟨out, ho, rfl⟩ := Option.map_eq_some_iff.1 h
   obtain ⟨zv, hzv, hze, hz1⟩ := runs_zero hz
   obtain ⟨fds, hu⟩ := base_struct hb
   have hrow : RowR w H z zv.cells := by
    subst hze
    refine ⟨by simp, fun i c hc => List.all_eq_true.1 hz1 c (List.mem_of_getElem? hc), fun i c hc => ?_⟩
    simp only [List.getElem?_map, Option.map_eq_some_iff] at hc
    obtain ⟨u, hu', rfl⟩ := hc
    have : zv.cells.getD i Go.undef = u := by
     have h' : zv.cells[i]? = some u := by simpa using hu'
     simp [h']
    rw [this]; exact ofCell_R w H u
   obtain ⟨us, hus, hru⟩ := fill_R (qs := parts.toList.map fun p => (p.1, ρ p.2)) ho hrow (by simp) (fun i p q hp hq => by
    simp only [List.getElem?_map, Option.map_eq_some_iff] at hp hq
    obtain ⟨a, ha, rfl⟩ := hp
    obtain ⟨b, hb', rfl⟩ := hq
    rw [ha] at hb'; cases hb'
    exact ⟨rfl, hev _⟩)
   refine lift ⟨.agg us, ?_, hru.agg⟩
   unfold Instr.build
   refine hzv.bind ?_
   refine (runs_underlying hu).bind ?_
   refine (runs_places hu hfs).bind ?_
   have e1 : (fun i : Nat => ((fs.map fun x => (x.1, x.2.2)).toArray)[i]?) = fun i : Nat => (fs[i]?).map fun (f : Nat × Bool × Nat) => (f.1, f.2.2) := by funext i; simp
   have e2 : (parts.map fun (i, x) => (i, ρ x)).toList = parts.toList.map fun p => (p.1, ρ p.2) := by simp
   rw [e1, e2, hus]
   exact .pure _
  ·rename_i hb
   obtain ⟨z, hz, h⟩ := Option.bind_eq_some_iff.1 h
   obtain ⟨s, hs, h⟩ := Option.bind_eq_some_iff.1 h
   obtain ⟨out, ho, rfl⟩ := Option.map_eq_some_iff.1 h
   obtain ⟨zv, hzv, hze, hz1⟩ := runs_zero hz
   obtain ⟨n0, e0, i0, hu, hi0, hsz⟩ : ∃ n0 e0 i0, P.underlying t = some (.array n0 e0) ∧ P.info? e0 = some i0 ∧ s.2 = i0.size := by
    unfold arrT at hs
    split at hs
    ·rename_i n0 e0 hu
     obtain ⟨i0, hi0, he⟩ := Option.map_eq_some_iff.1 hs
     subst he
     exact ⟨n0, e0, i0, hu, hi0, rfl⟩
    ·cases hs
   rw [hsz] at ho
   have hrow : RowR w H z zv.cells := by
    subst hze
    refine ⟨by simp, fun i c hc => List.all_eq_true.1 hz1 c (List.mem_of_getElem? hc), fun i c hc => ?_⟩
    simp only [List.getElem?_map, Option.map_eq_some_iff] at hc
    obtain ⟨u, hu', rfl⟩ := hc
    have : zv.cells.getD i Go.undef = u := by
     have h' : zv.cells[i]? = some u := by simpa using hu'
     simp [h']
    rw [this]; exact ofCell_R w H u
   obtain ⟨us, hus, hru⟩ := fill_R (qs := parts.toList.map fun p => (p.1, ρ p.2)) ho hrow (by simp) (fun i p q hp hq => by
    simp only [List.getElem?_map, Option.map_eq_some_iff] at hp hq
    obtain ⟨a, ha, rfl⟩ := hp
    obtain ⟨b, hb', rfl⟩ := hq
    rw [ha] at hb'; cases hb'
    exact ⟨rfl, hev _⟩)
   refine lift ⟨.agg us, ?_, hru.agg⟩
   unfold Instr.build
   refine hzv.bind ?_
   refine (runs_underlying hu).bind ?_
   refine (runs_sizeOf hi0).bind ?_
   have e2 : (parts.map fun (i, x) => (i, ρ x)).toList = parts.toList.map fun p => (p.1, ρ p.2) := by simp
   rw [e2, hus]
   exact .pure _
  ·cases h
 case nilCheck x =>
  have hx := hev x
  split at h
  ·rename_i e; cases h; rw [e] at hx; refine ⟨_, ?_, hx⟩; simp only [execOp, hx.box_inv]; exact .pure _
  ·rename_i e; cases h; rw [e] at hx; refine ⟨_, ?_, hx⟩; simp only [execOp, hx.el_inv]; exact .pure _
  ·rename_i e; cases h; rw [e] at hx; obtain ⟨b, off, hv⟩ := hx.ro_inv; refine ⟨_, ?_, hx⟩; simp only [execOp, hv]; exact .pure _
  ·rename_i e; cases h; rw [e] at hx
   generalize hv : ρ x = v at hx
   cases hx with
   | fn f ds es vs us hl hm hr hq => refine ⟨_, ?_, .fn _ _ _ vs us hl hm hr hq⟩; simp only [execOp, hv]; exact .pure _
  ·cases h
 case binOp bop t x y yt => exact lift (runs_bin2D h (hev x) (hev y))
 case unOp uop t x => exact lift (runs_unD h (hev x))
 case convert s t x => exact lift (runs_convD h (hev x))
 case fieldAddr s x f => exact lift (runs_fieldAddrD h (hev x))
 case field t x f => exact lift (runs_fieldD h (hev x))
 case indexAddr t x i => exact lift (runs_indexAddrD h (hev x) (hev i))
 case index t x i => exact lift (runs_indexD h (hev x) (hev i))
 case slice t x lo hi mx =>
  cases mx with
  | some m => simp at h
  | none => simp only at h; exact lift (runs_sliceD h (hev x) (opt lo) (opt hi))
 case extract x i =>
  split at h
  ·rename_i ds e
   have hx := hev x
   rw [e] at hx
   obtain ⟨vs, hv, hl, hr⟩ := hx.tuple_inv
   refine lift ⟨_, ?_, hr i d h⟩
   rw [hv]
   have hlt : i < vs.size := by rw [← hl]; exact (List.getElem?_eq_some_iff.1 h).1
   have : vs[i]? = some (vs.getD i Go.undef) := by simp [hlt]
   unfold Instr.extract
   dsimp only
   rw [this]
   exact .pure _
  ·cases h
 case makeInterface t x =>
  split at h
  ·cases h
  ·rename_i hn
   cases h
   refine lift ⟨_, ?_, .iface t _ _ (hev x)⟩
   simp only [not_or] at hn
   obtain ⟨u, hu⟩ : ∃ u, P.underlying t = some u := by
    cases e : P.underlying t with
    | none => exact absurd (by rw [e]; rfl) hn.2
    | some u => exact ⟨u, rfl⟩
   unfold Instr.makeInterface
   refine (runs_underlying hu).bind ?_
   cases u <;> first | exact .pure _ | (exfalso; apply hn.1; simp [baseT, hu]; done)
 case makeFunc fn first captured =>
  cases h
  refine lift ⟨_, .pure _, .fn fn _ _ _ _ (by simp) (by simp) (fun i d hd => ?_) (fun i d hd => ?_)⟩
  ·simp only [List.getElem?_map, Option.map_eq_some_iff] at hd
   obtain ⟨x, hx, rfl⟩ := hd
   have : (first.map ρ).getD i Go.undef = ρ x := by
    have h' : first[i]? = some x := by simpa using hx
    simp [h']
   rw [this]; exact hev x
  ·simp only [List.getElem?_map, Option.map_eq_some_iff] at hd
   obtain ⟨x, hx, rfl⟩ := hd
   have : (captured.map ρ).getD i Go.undef = ρ x := by
    have h' : captured[i]? = some x := by simpa using hx
    simp [h']
   rw [this]; exact hev x
 case call c =>
  obtain ⟨callee, args, ats⟩ := c
  have hfold : ∀ {f : D → D → Option D} {g : Value → Value → Sem Value}, (∀ a b c, f a b = some c → ∀ w H u v, R w H a u → R w H b v → ∃ r, Runs P (g u v) r ∧ R w H c r) → foldD f (args.toList.map ev) = some d →
    ∃ x l, (args.map ρ).toList = x :: l ∧ ∃ r, Runs P (l.foldlM g x) r ∧ R w H d r := by
   intro f g hf hd
   unfold foldD at hd
   cases hl : args.toList with
   | nil => rw [hl] at hd; simp at hd
   | cons a as_ =>
    rw [hl] at hd
    simp only [List.map_cons] at hd
    refine ⟨ρ a, as_.map ρ, by simp [hl], ?_⟩
    refine runs_fold hf (as_.map ev) (as_.map ρ) (ev a) d (ρ a) hd (hev a) (by simp) (fun i c hc => ?_)
    simp only [List.getElem?_map, Option.map_eq_some_iff] at hc
    obtain ⟨x, hx, rfl⟩ := hc
    have : (as_.map ρ).getD i Go.undef = ρ x := by simp [List.getD, hx]
    rw [this]; exact hev x
  cases callee with
  | value => simp at h
  | invoke => simp at h
  | builtin b =>
   cases b <;> simp only at h <;> try (cases h; done)
   case len =>
    split at h
    ·rename_i t x ht hx
     obtain ⟨u, hr, hR⟩ := runs_lenD h (hev x) type ats ht (args.map ρ) (by simp [hx])
     refine ⟨u, ?_, hR⟩
     simp only [execOp, resolve, invoke, builtin]
     exact (Runs.pure (P := P) _).bind (runs_v hr)
    ·cases h
   case cap =>
    split at h
    ·rename_i t ht hx
     obtain ⟨x, hx, he⟩ := Option.map_eq_some_iff.1 hx
     split at h
     ·rename_i hb
      cases h
      obtain ⟨e, hu⟩ := base_slice hb
      have hr := hev x
      rw [he] at hr
      generalize hv : ρ x = v at hr
      cases hr
      refine ⟨.int .i64 0, ?_, .int _ _⟩
      simp only [execOp, resolve, invoke, builtin]
      refine (Runs.pure (P := P) _).bind (runs_v ?_)
      unfold Builtin.cap_
      rw [ht, show (args.map ρ)[0]? = some (.slice none 0 0) by simp [hx, hv]]
      exact (runs_underlying hu).bind (.pure _)
     ·cases h
    ·cases h
   case min =>
    obtain ⟨x, l, hl, r, hr, hR⟩ := hfold min2_ok h
    refine ⟨r, ?_, hR⟩
    simp only [execOp, resolve, invoke, builtin]
    refine (Runs.pure (P := P) _).bind (runs_v ?_)
    unfold Builtin.min_
    rw [hl]; exact hr
   case max =>
    obtain ⟨x, l, hl, r, hr, hR⟩ := hfold max2_ok h
    refine ⟨r, ?_, hR⟩
    simp only [execOp, resolve, invoke, builtin]
    refine (Runs.pure (P := P) _).bind (runs_v ?_)
    unfold Builtin.max_
    rw [hl]; exact hr
end
end Go.Av
end
section
namespace Go.Av
def Post (H : Heap) (w : World) (K : D → Heap → Prop) (v : Value) (w' : World) : Prop :=
 ∃ d H', R w' H' d v ∧ Sat H' w' ∧ Ext H w w' ∧ From w H H' ∧ K d H'
theorem Post.mono {H : Heap} {w : World} {K K' : D → Heap → Prop} {v : Value} {w' : World} (h : Post H w K v w') (hK : ∀ d H', K d H' → K' d H') : Post H w K' v w' :=
 let ⟨d, H', h1, h2, h3, h4, h5⟩ := h; ⟨d, H', h1, h2, h3, h4, hK _ _ h5⟩
def bodied (P : Program) (f : Nat) : Bool := match P.funcs[f]? with
 | some fn => fn.body.isSome && fn.name != "runtime.NumGoroutine"
 | none => false
def ACalls (P : Program) (f : Nat) (args : List D) (H : Heap) (Q : D → Heap → Prop) : Prop :=
 bodied P f = true ∧ ∀ w (vs : Array Value), args.length = vs.size → (∀ (i : Nat) d, args[i]? = some d → R w H d (vs.getD i Go.undef)) → Sat H w →
  Calls P f vs w fun e w' => ∃ v, e = .returned v ∧ Post H w Q v w'
theorem ACalls.mono {P : Program} {f : Nat} {args : List D} {H : Heap} {Q Q' : D → Heap → Prop} (h : ACalls P f args H Q) (hq : ∀ d H', Q d H' → Q' d H') : ACalls P f args H Q' :=
 ⟨h.1, fun w vs h1 h2 h3 => (h.2 w vs h1 h2 h3).mono fun _ _ ⟨v, he, hp⟩ => ⟨v, he, hp.mono hq⟩⟩
def locD (H : Heap) : D → Option (List D)
 | .box b off => match H b with
  | some (.box cs _) => some (cs.drop off)
  | _ => none
 | .el b sz i off => match H b with
  | some (.vec sz' es) => if sz = sz' then (es[i]?).map (·.drop off) else none
  | _ => none
 | .ro cs => some cs
 | .glob g => match H g with
  | some (.ro cs) => some cs
  | _ => none
 | _ => none
def loadD (P : Program) (t : TypeId) (a : D) (H : Heap) : Option D := (shapeT P t).bind fun s => (locD H a).bind (takeD s)
def storeD (P : Program) (t : TypeId) (a x : D) (H : Heap) : Option Heap :=
 if (shapeT P t).map (·.2) = some x.cells.length ∧ x.cells.all D.one = true then match a with
  | .box b off => match H b with
   | some (.box cs Z) => if off + x.cells.length ≤ cs.length then some (H.set b (.box (putAt cs off x.cells) Z)) else none
   | _ => none
  | .el b sz i off => match H b with
   | some (.vec sz' es) => if sz = sz' ∧ i < es.length ∧ off + x.cells.length ≤ sz then some (H.set b (.vec sz (es.set i (putAt (es.getD i []) off x.cells)))) else none
   | _ => none
  | _ => none
 else none
def bytesE (s : ByteArray) : List (List D) := s.data.toList.map fun c => [D.int .u8 c.toNat]
def elemsD (H : Heap) (sz : Nat) : D → Option (List (List D))
 | .nilsl => some []
 | .sl sz' es => if sz = sz' then some es else none
 | .vec b sz' lo n => if sz = sz' then match H b with
  | some (.vec sz'' es) => if sz = sz'' ∧ lo + n ≤ es.length then some ((es.drop lo).take n) else none
  | _ => none else none
 | .str s => if sz = 1 then some (bytesE s) else none
 | _ => none
def setE : List (List D) → List (Nat × D) → Option (List (List D))
 | es, [] => some es
 | es, (i, d) :: ps => if i < es.length ∧ d.cells.length = (es.getD i []).length ∧ d.cells.all D.one = true then setE (es.set i d.cells) ps else none
def appendA (P : Program) (ev : Operand → D) (H : Heap) (K : D → Heap → Prop) (t t' : TypeId) (s x : Operand) : Prop :=
 ∃ e sz by_, elemT P t = some (e, sz, by_) ∧ 0 < sz ∧ (baseT P t' = .slice ∨ baseT P t' = .str) ∧ (zeroD P e).map (·.length) = some sz ∧ ∃ xs, elemsD H sz (ev x) = some xs ∧ match ev s with
  | .nilsl => xs.length * by_ ≤ 140737488355328 ∧ xs.length ≤ 9223372036854775807 ∧ (xs = [] → K .nilsl H) ∧ (xs ≠ [] → ∀ b, H b = none → K (.vec b sz 0 xs.length) (H.set b (.vec sz xs)))
  | .vec b sz' lo n => sz' = sz ∧ ((lo = 0 ∧ ∃ es, H b = some (.vec sz es) ∧ n ≤ es.length ∧ (n + xs.length) * by_ ≤ 140737488355328 ∧ n + xs.length ≤ 9223372036854775807 ∧
    ∀ b', H.del b b' = none → K (.vec b' sz 0 (n + xs.length)) ((H.del b).set b' (.vec sz (es.take n ++ xs)))) ∨
   ∃ es, H b = some (.vec sz es) ∧ lo + n ≤ es.length ∧ (n + xs.length) * by_ ≤ 140737488355328 ∧ n + xs.length ≤ 9223372036854775807 ∧
    ∀ b' pre, H.del b b' = none → K (.vec b' sz pre.length (n + xs.length)) ((H.del b).set b' (.vec sz (pre ++ ((es.drop lo).take n ++ xs)))))
  | _ => False
def convA (P : Program) (ev : Operand → D) (H : Heap) (K : D → Heap → Prop) (s t : TypeId) (x : Operand) : Prop := match ev x with
 | .str z => baseT P s = .str ∧ (match P.underlying t with | some (.slice e) => P.underlying e = some (.int .u8) | _ => False) ∧ ∀ b, H b = none → K (.vec b 1 0 z.size) (H.set b (.vec 1 (bytesE z)))
 | d => baseT P t = .str ∧ (match P.underlying s with | some (.slice e) => P.underlying e = some (.int .u8) | _ => False) ∧ ∃ z, elemsD H 1 d = some (bytesE z) ∧ K (.str z) H
inductive KK where
 | one (b : Base)
 | arr (n : Nat) (b : Base)
def keyB (b : Base) : Bool := b = .int ∨ b = .str ∨ b = .bool
def mapT (P : Program) (t : TypeId) : Option (TypeId × TypeId × KK) := match P.underlying t with
 | some (.map k e) => match P.underlying k with
  | some (.array n e') => if (P.info? e').map (·.size) = some 1 ∧ shapeT P e' = some (false, 1) ∧ keyB (baseT P e') = true then some (k, e, .arr n (baseT P e')) else none
  | _ => if keyB (baseT P k) = true then some (k, e, .one (baseT P k)) else none
 | _ => none
def keyEq : KK → D → D → Option Bool
 | .one b, x, y => cellEq b x y
 | .arr n b, .agg xs, .agg ys => if xs.length = n ∧ ys.length = n then aggEq ((List.range n).map fun i => (i, b)) xs ys else none
 | .arr _ _, _, _ => none
def findD (kk : KK) (k : D) : List (D × D) → Nat → Option (Option (Nat × D))
 | [], _ => some none
 | p :: l, i => (keyEq kk k p.1).bind fun c => if c = true then some (some (i, p.2)) else findD kk k l (i + 1)
def keyIs : KK → D → Bool
 | .one _, .agg _ => false
 | .one _, d => d.key
 | .arr n _, .agg cs => decide (cs.length = n) && d1 cs
 | .arr _ _, _ => false
where d1 (cs : List D) : Bool := cs.all D.key
def zero1 (P : Program) (t : TypeId) : Option D := ((P.info? t).bind (·.zero)).map D.ofValue
def foundD (ok : Bool) (z : D) : Option (Nat × D) → D
 | some (_, d) => if ok = true then .tuple [d, .bool true] else d
 | none => if ok = true then .tuple [z, .bool false] else z
def kvsOf (H : Heap) : D → Option (List (D × D))
 | .nilmap => some []
 | .map b => match H b with
  | some (.map kvs) => some kvs
  | _ => none
 | _ => none
def lookupD (P : Program) (t : TypeId) (m k : D) (ok : Bool) (H : Heap) : Option D := (mapT P t).bind fun T => if keyIs T.2.2 k = true then (zero1 P T.2.1).bind fun z => (kvsOf H m).bind fun kvs => (findD T.2.2 k kvs 0).map (foundD ok z) else none
def putKV (kvs : List (D × D)) (k x : D) : Option (Nat × D) → List (D × D)
 | some (i, _) => kvs.set i (k, x)
 | none => kvs ++ [(k, x)]
def mapPutD (P : Program) (t : TypeId) (m k x : D) (H : Heap) : Option Heap := (mapT P t).bind fun T => if keyIs T.2.2 k = true then match m with
 | .map b => match H b with
  | some (.map kvs) => (findD T.2.2 k kvs 0).map fun r => H.set b (.map (putKV kvs k x r))
  | _ => none
 | _ => none else none
def bldT (P : Program) (t : TypeId) : Option TypeId := match P.info? t with
 | some i => match i.desc with
  | .named "strings.Builder" _ => some t
  | _ => none
 | none => none
def wpOp (P : Program) (ev : Operand → D) (H : Heap) (K : D → Heap → Prop) (op : Op) : Prop := match op with
 | .load t x => ∃ d, loadD P t (ev x) H = some d ∧ K d H
 | .store t a x => ∃ H', storeD P t (ev a) (ev x) H = some H' ∧ K .undef H'
 | .alloc t => ∃ z, zeroD P t = some z ∧ ∀ b, H b = none → K (.box b 0) (H.set b (.box z (bldT P t)))
 | .box _ x => (ev x).cells.all D.one = true ∧ ∀ b, H b = none → K (.box b 0) (H.set b (.box (ev x).cells))
 | .buildSlice t len parts => ∃ e sz by_ z es, elemT P t = some (e, sz, by_) ∧ 0 < sz ∧ len * sz ≤ 16777216 ∧ zeroD P e = some z ∧ z.length = sz ∧ setE (List.replicate len z) (parts.toList.map fun p => (p.1, ev p.2)) = some es ∧
   ∀ b, H b = none → K (.vec b sz 0 len) (H.set b (.vec sz es))
 | .makeSlice t l c => ∃ e sz by_ z k n k' m, elemT P t = some (e, sz, by_) ∧ 0 < sz ∧ zeroD P e = some z ∧ z.length = sz ∧ ev l = .int k n ∧ ev c = .int k' m ∧ 0 ≤ n ∧ n ≤ m ∧ by_ * m ≤ 281474976710656 ∧ m < 9223372036854775808 ∧
   ∀ b, H b = none → K (.vec b sz 0 n.toNat) (H.set b (.vec sz (List.replicate n.toNat z)))
 | .convert s t x => match cls P (.convert s t x) with
  | .pure => ∃ d, pureD P ev (.convert s t x) = some d ∧ K d H
  | _ => convA P ev H K s t x
 | .call c => match c.callee with
  | .value f => match ev f with
   | .fn (.func g) first captured => ACalls P g (first ++ c.args.toList.map ev ++ captured) H K
   | _ => False
  | .builtin .len => match cls P (.call c) with
   | .pure => ∃ d, pureD P ev (.call c) = some d ∧ K d H
   | _ => match c.args.toList with
    | [x] => ∃ kvs, kvsOf H (ev x) = some kvs ∧ K (.int .i64 kvs.length) H
    | _ => False
  | .builtin .append => match c.argTypes.toList, c.args.toList with
   | [t, t'], [s, x] => appendA P ev H K t t' s x
   | _, _ => False
  | _ => match cls P (.call c) with
   | .pure => ∃ d, pureD P ev (.call c) = some d ∧ K d H
   | _ => False
 | .range t x => match ev x with
  | .str s => P.underlying t = some .string ∧ ∀ b, H b = none → K (.box b 0) (H.set b (.iter s 0))
  | _ => False
 | .next x isString => match ev x, isString with
  | .box b 0, true => match H b with
   | some (.iter s pos) => (pos < s.size → K (.tuple [.bool true, .int .i64 pos, .int .i32 (Utf8.decode s pos).1]) (H.set b (.iter s (pos + (Utf8.decode s pos).2)))) ∧ (¬ pos < s.size → K (.tuple [.bool false]) H)
   | _ => False
  | _, _ => False
 | .makeMap _ none => ∀ b, H b = none → K (.map b) (H.set b (.map []))
 | .lookup t m k ok => ∃ d, lookupD P t (ev m) (ev k) ok H = some d ∧ K d H
 | .mapUpdate t m k x => ∃ H', mapPutD P t (ev m) (ev k) (ev x) H = some H' ∧ K .undef H'
 | op => match cls P op with
  | .pure => ∃ d, pureD P ev op = some d ∧ K d H
  | _ => False
def Heap.minus (H : Heap) (l : List Nat) : Heap := fun k => if k ∈ l then none else H k
def wpOpR (P : Program) (sx : Bool) (l : List Nat) (ev : Operand → D) (H : Heap) (K : D → Heap → Prop) (op : Op) : Prop := match op with
 | .load t x => (match ev x with | .box b _ => b ∈ l | .el b _ _ _ => b ∈ l | _ => False) ∧ wpOp P ev H K (.load t x)
 | .store t a x => (sx = true → wpOp P ev (H.minus l) (fun _ _ => True) (.store t a x)) ∧ wpOp P ev H K (.store t a x)
 | .alloc t => wpOp P ev (H.minus l) (fun _ _ => True) (.alloc t) ∧ wpOp P ev H K (.alloc t)
 | .box t x => wpOp P ev (H.minus l) (fun _ _ => True) (.box t x) ∧ wpOp P ev H K (.box t x)
 | .buildSlice t n ps => wpOp P ev (H.minus l) (fun _ _ => True) (.buildSlice t n ps) ∧ wpOp P ev H K (.buildSlice t n ps)
 | .call ⟨.builtin .append, as_, ts⟩ => wpOp P ev (H.minus l) (fun _ _ => True) (.call ⟨.builtin .append, as_, ts⟩) ∧ wpOp P ev H K (.call ⟨.builtin .append, as_, ts⟩)
 | op => cls P op = .pure ∧ wpOp P ev H K op
def flatD : D → Bool
 | .bool _ | .int _ _ | .str _ => true
 | _ => false
def Heap.sub (H Hc : Heap) : Heap := fun k => if Hc.held k = true then none else H k
def wpOpF (P : Program) (l : List Nat) (ev : Operand → D) (H : Heap) (K : D → Heap → Prop) (op : Op) : Prop := match op with
 | .load t x => (match ev x with | .box b _ => b ∈ l | .el b _ _ _ => b ∈ l | _ => False) ∧ wpOp P ev H K (.load t x)
 | .buildSlice t n ps => wpOp P ev (H.minus l) (fun _ _ => True) (.buildSlice t n ps) ∧ wpOp P ev H K (.buildSlice t n ps)
 | .call ⟨.value f, as_, ts⟩ => ∃ Hc : Heap, Hc.Le H ∧ (∀ k ∈ l, Hc.held k = false) ∧ wpOp P ev Hc (fun d _ => flatD d = true ∧ K d (H.sub Hc)) (.call ⟨.value f, as_, ts⟩)
 | op => cls P op = .pure ∧ wpOp P ev H K op
end Go.Av
end
section
namespace Go.Av
section
variable {P : Program}
theorem RowR.mono {w w' : World} {H H' : Heap} {cs : List D} {vs : Array Value} (h : RowR w H cs vs) (he : Ext H w w') (hf : From w H H') : RowR w' H' cs vs :=
 ⟨h.len, h.one, fun i c hc => (h.rel i c hc).mono he hf⟩
theorem RowR.oneCell {w : World} {H : Heap} {cs : List D} {vs : Array Value} (h : RowR w H cs vs) : ∀ v ∈ vs.toList, v.oneCell' = true := by
 intro v hv
 obtain ⟨i, hi⟩ := List.getElem?_of_mem hv
 have hlt : i < vs.size := by
  have := (List.getElem?_eq_some_iff.1 hi).1
  simpa using this
 have hlt' : i < cs.length := by rw [h.len]; exact hlt
 have hc : cs[i]? = some cs[i] := List.getElem?_eq_getElem hlt'
 have := (h.rel i _ hc).oneCell (h.one i _ hc)
 have e : vs.getD i Go.undef = v := by
  have h' : vs[i]? = some v := by simpa using hi
  simp [h']
 rwa [e] at this
theorem objOk_box {w : World} {H : Heap} {b : Nat} {cs : List D} {c : Array Value} {T lo hi : Nat} {Z : Option TypeId} (hZ : ∀ t, Z = some t → T = t) (hb : w.heap[b]? = some (.cells c T (lo, hi))) (hf : ∀ j, j < c.size → ¬ (lo ≤ j ∧ j < hi)) (h : RowR w H cs c) : ObjOk w H b (.box cs Z) :=
 ⟨c, T, lo, hi, hb, hf, h.len.symm, fun j d hd => ⟨h.one j d hd, h.rel j d hd⟩, hZ⟩
theorem box_inv {w : World} {H : Heap} {b : Nat} {cs : List D} {Z : Option TypeId} (h : ObjOk w H b (.box cs Z)) : ∃ c T lo hi, w.heap[b]? = some (.cells c T (lo, hi)) ∧ (∀ j, j < c.size → ¬ (lo ≤ j ∧ j < hi)) ∧ RowR w H cs c ∧ ∀ t, Z = some t → T = t := by
 obtain ⟨c, T, lo, hi, h1, h2, h3, h4, h5⟩ := h
 exact ⟨c, T, lo, hi, h1, h2, ⟨h3.symm, fun i d hd => (h4 i d hd).1, fun i d hd => (h4 i d hd).2⟩, h5⟩
structure VecR (w : World) (H : Heap) (sz : Nat) (es : List (List D)) (c : Array Value) : Prop where
 le : es.length * sz ≤ c.size
 each : ∀ (i : Nat) e, es[i]? = some e → e.length = sz
 one : ∀ (i : Nat) (e : List D) (j : Nat) d, es[i]? = some e → e[j]? = some d → d.one = true
 rel : ∀ (i : Nat) (e : List D) (j : Nat) d, es[i]? = some e → e[j]? = some d → R w H d (c.getD (i * sz + j) Go.undef)
theorem VecR.mono {w w' : World} {H H' : Heap} {sz : Nat} {es : List (List D)} {c : Array Value} (h : VecR w H sz es c) (he : Ext H w w') (hf : From w H H') : VecR w' H' sz es c :=
 ⟨h.le, h.each, h.one, fun i e j d h1 h2 => (h.rel i e j d h1 h2).mono he hf⟩
theorem objOk_vec {w : World} {H : Heap} {b sz : Nat} {es : List (List D)} {c : Array Value} {T lo hi : Nat} (hb : w.heap[b]? = some (.cells c T (lo, hi))) (hf : ∀ j, j < c.size → ¬ (lo ≤ j ∧ j < hi)) (hsz : 0 < sz) (h : VecR w H sz es c) : ObjOk w H b (.vec sz es) :=
 ⟨c, T, lo, hi, hb, hf, hsz, h.le, h.each, fun i e j d h1 h2 => ⟨h.one i e j d h1 h2, h.rel i e j d h1 h2⟩⟩
theorem vec_inv {w : World} {H : Heap} {b sz : Nat} {es : List (List D)} (h : ObjOk w H b (.vec sz es)) : ∃ c T lo hi, w.heap[b]? = some (.cells c T (lo, hi)) ∧ (∀ j, j < c.size → ¬ (lo ≤ j ∧ j < hi)) ∧ 0 < sz ∧ VecR w H sz es c := by
 obtain ⟨c, T, lo, hi, h1, h2, h3, h4, h5, h6⟩ := h
 exact ⟨c, T, lo, hi, h1, h2, h3, ⟨h4, h5, fun i e j d a b => (h6 i e j d a b).1, fun i e j d a b => (h6 i e j d a b).2⟩⟩
theorem Sat.update {w w' : World} {H : Heap} {b : Nat} {o : Obj} (hs : Sat H w) (he : Ext H w w') (hf : From w H (H.set b o)) (hk : ∀ k, k < w.heap.size → k ≠ b → w'.heap[k]? = w.heap[k]?) (ho : ObjOk w' (H.set b o) b o) : Sat (H.set b o) w' := by
 intro k x hx
 unfold Heap.set at hx
 by_cases hkb : k = b
 ·rw [if_pos hkb] at hx; cases hx; rw [hkb]; exact ho
 ·rw [if_neg hkb] at hx
  exact (hs k x hx).mono he hf (hk k (hs.lt hx) hkb)
theorem From.set_owned {w : World} {H : Heap} {b : Nat} (hb : H.held b = true) (o : Obj) : From w H (H.set b o) := fun k _ hn => by
 have hk : k ≠ b := fun e => by rw [e, hb] at hn; cases hn
 rw [held_ne (H := H) (by unfold Heap.set; rw [if_neg hk])]
 exact hn
theorem From.set_new {w : World} {H : Heap} {b : Nat} (hb : w.heap.size ≤ b) (o : Obj) : From w H (H.set b o) := fun k hk hn => by
 rw [held_ne (H := H) (by unfold Heap.set; rw [if_neg (by omega)])]
 exact hn
theorem heap_alloc_new (w : World) (o : Go.Obj) : (w.alloc o).heap[w.heap.size]? = some o := by
 show (w.heap.push o)[w.heap.size]? = _
 simp
theorem post_box {w : World} {H : Heap} {K : D → Heap → Prop} (hs : Sat H w) {cs : List D} {vs : Array Value} (T : Nat) {Z : Option TypeId} (hZ : ∀ t, Z = some t → T = t) (hr : RowR w H cs vs) (hK : ∀ b, H b = none → K (.box b 0) (H.set b (.box cs Z))) :
  Post H w K (.pointer (some ⟨w.heap.size, 0, none⟩)) (w.alloc (.cells vs T)) := by
 have he := Ext.alloc H w (.cells vs T)
 have hf := From.set_new (H := H) (Nat.le_refl w.heap.size) (.box cs Z)
 refine ⟨.box w.heap.size 0, H.set w.heap.size (.box cs Z), .box _ _, ?_, he, hf, hK _ (hs.fresh (Nat.le_refl _))⟩
 exact hs.update he hf (fun k hk _ => Go.RowKit.Below.heap_alloc _ _ _ hk) (objOk_box hZ (heap_alloc_new w _) (by simp) (hr.mono he hf))
theorem post_vec {w : World} {H : Heap} {K : D → Heap → Prop} (hs : Sat H w) {sz : Nat} {es : List (List D)} {vs : Array Value} (T n cap : Nat) (hsz : 0 < sz) (hr : VecR w H sz es vs) (hn : n ≤ cap) (hc : vs.size = cap * sz) (hK : ∀ b, H b = none → K (.vec b sz 0 n) (H.set b (.vec sz es))) :
  Post H w K (.slice (some ⟨w.heap.size, 0, none⟩) n cap) (w.alloc (.cells vs T)) := by
 have he := Ext.alloc H w (.cells vs T)
 have hf := From.set_new (H := H) (Nat.le_refl w.heap.size) (.vec sz es)
 refine ⟨.vec w.heap.size sz 0 n, H.set w.heap.size (.vec sz es), ?_, ?_, he, hf, hK _ (hs.fresh (Nat.le_refl _))⟩
 ·have := R.vec (w := w.alloc (.cells vs T)) (H := H.set w.heap.size (.vec sz es)) w.heap.size sz 0 n cap T vs.size (by unfold World.shape?; rw [heap_alloc_new]) (by rw [hc, Nat.zero_add]) hsz hn
  rwa [Nat.zero_mul] at this
 ·exact hs.update he hf (fun k hk _ => Go.RowKit.Below.heap_alloc _ _ _ hk) (objOk_vec (heap_alloc_new w _) (by simp) hsz (hr.mono he hf))
theorem setCells_spec (b T : Nat) (fz : Nat × Nat) : ∀ (vs : List Value) (o : Nat) (w : World) (c : Array Value), w.heap[b]? = some (.cells c T fz) →
  (w.setCells b o vs).heap[b]? = some (.cells (putV c o vs) T fz) ∧ (∀ k, k ≠ b → (w.setCells b o vs).heap[k]? = w.heap[k]?) ∧ (w.setCells b o vs).heap.size = w.heap.size ∧ (w.setCells b o vs).os = w.os ∧ (w.setCells b o vs).tape = w.tape ∧ (w.setCells b o vs).output = w.output
 | [], _, _, _, h => ⟨h, fun _ _ => rfl, rfl, rfl, rfl, rfl⟩
 | v :: vs, o, w, c, h => by
  have h1 : (w.setCell ⟨b, o, none⟩ v).heap[b]? = some (.cells (c.setIfInBounds o v) T fz) := by
   simp only [World.setCell, Array.getElem?_modify, if_true, h, Option.map_some]
   rfl
  obtain ⟨k1, k2, k3, k4, k5, k6⟩ := setCells_spec b T fz vs (o + 1) (w.setCell ⟨b, o, none⟩ v) _ h1
  exact ⟨k1, fun k hk => (k2 k hk).trans (Go.RowKit.Below.heap_setCell _ _ _ _ hk), k3.trans (by simp [World.setCell]), k4, k5, k6⟩
theorem Ext.setCells {H : Heap} {w : World} {b T : Nat} {fz : Nat × Nat} {c : Array Value} (hb : w.heap[b]? = some (.cells c T fz)) (hn : H.held b = true) (vs : List Value) (o : Nat) : Ext H w (w.setCells b o vs) := by
 obtain ⟨k1, k2, k3, k4, k5, k6⟩ := setCells_spec b T fz vs o w c hb
 refine ⟨k4, k5, k6, Nat.le_of_eq k3.symm, fun k _ hk => k2 k (fun e => by rw [e, hn] at hk; cases hk), fun k _ => ?_⟩
 unfold World.shape?
 by_cases hk : k = b
 ·subst hk; rw [k1, hb]; simp [putV_size]
 ·rw [k2 k hk]
theorem cell_at {w : World} {b T : Nat} {fz : Nat × Nat} {c : Array Value} (hb : w.heap[b]? = some (.cells c T fz)) (i : Nat) : w.cell? ⟨b, i, none⟩ = c[i]? := by
 unfold World.cell?
 rw [hb]; rfl
theorem frozen_at {w : World} {b T lo hi : Nat} {c : Array Value} (hb : w.heap[b]? = some (.cells c T (lo, hi))) {i : Nat} (h : ¬ (lo ≤ i ∧ i < hi)) : w.frozen? ⟨b, i, none⟩ = false := by
 unfold World.frozen?
 rw [hb]
 simp only
 rw [Bool.and_eq_false_iff]
 by_cases h1 : lo ≤ i
 ·right; simp; omega
 ·left; simp; omega
theorem run_storeVar {w : World} {t : TypeId} {b o T lo hi : Nat} {c vs : Array Value} {v : Value} {bb : Bool} (hv : v.cells = vs) (hsh : shapeT P t = some (bb, vs.size)) (hb : w.heap[b]? = some (.cells c T (lo, hi))) (hf : ∀ j, j < c.size → ¬ (lo ≤ j ∧ j < hi)) (hle : o + vs.size ≤ c.size) (h1 : ∀ v ∈ vs.toList, v.oneCell' = true) :
  (storeVar t ⟨b, o, none⟩ v).run P w = .ok () (w.setCells b o vs.toList) := by
 obtain ⟨_, hz⟩ := runs_isAgg (P := P) hsh
 unfold storeVar
 rw [Sem.run_bind, hz w]
 simp only [Result.andThen_ok, hv, ne_eq, not_true_eq_false, if_false]
 have hl : vs.toList.length = vs.size := by simp
 have := run_storeCells_cells (P := P) b o vs.toList 0 w (fun j hj => by rw [Nat.add_zero, cell_at hb]; rw [hl] at hj; simp; omega)
  (fun j hj => by rw [Nat.add_zero]; rw [hl] at hj; exact frozen_at hb (hf _ (by omega))) h1
 rwa [Nat.add_zero] at this
theorem locD_R {w : World} {H : Heap} (hs : Sat H w) {d : D} {cs : List D} (h : locD H d = some cs) {v : Value} (hr : R w H d v) :
  ∃ b o, v = .pointer (some ⟨b, o, none⟩) ∧ ∃ g : Nat → Value, (∀ i, i < cs.length → w.cell? ⟨b, o + i, none⟩ = some (g i)) ∧ (∀ (i : Nat) c, cs[i]? = some c → c.one = true) ∧ ∀ (i : Nat) c, cs[i]? = some c → R w H c (g i) := by
 unfold locD at h
 split at h
 ·rename_i b off
  split at h
  ·rename_i zs Z hb
   cases h
   obtain ⟨c, T, lo, hi, hc, hf, hrow, _⟩ := box_inv (hs b _ hb)
   refine ⟨b, off, hr.box_inv, fun i => c.getD (off + i) Go.undef, fun i hi => ?_, fun i d hd => hrow.one (off + i) d (by rwa [List.getElem?_drop] at hd), fun i d hd => hrow.rel (off + i) d (by rwa [List.getElem?_drop] at hd)⟩
   rw [cell_at hc]
   have : off + i < c.size := by have := hrow.len; simp at hi; omega
   simp [this]
  ·cases h
 ·rename_i b sz i off
  split at h
  ·rename_i sz' es hb
   split at h
   ·rename_i hsz
    subst hsz
    obtain ⟨e, he, rfl⟩ := Option.map_eq_some_iff.1 h
    obtain ⟨c, T, lo, hi, hc, hf, _, hv⟩ := vec_inv (hs b _ hb)
    have hel := hv.each i e he
    have hilt : i < es.length := (List.getElem?_eq_some_iff.1 he).1
    have hle : (i + 1) * sz ≤ es.length * sz := Nat.mul_le_mul_right _ hilt
    rw [Nat.add_mul, Nat.one_mul] at hle
    have hle' := hv.le
    refine ⟨b, i * sz + off, hr.el_inv, fun k => c.getD (i * sz + (off + k)) Go.undef, fun k hk => ?_, fun k d hd => hv.one i e (off + k) d he (by rwa [List.getElem?_drop] at hd), fun k d hd => hv.rel i e (off + k) d he (by rwa [List.getElem?_drop] at hd)⟩
    rw [cell_at hc]
    simp at hk
    have : i * sz + off + k < c.size := by omega
    rw [Nat.add_assoc] at this
    simp [this, Nat.add_assoc]
   ·cases h
  ·cases h
 ·cases h
  cases hr with
  | ro cs b off u hb hn hc h1 hr => exact ⟨b, off, rfl, u, hc, h1, hr⟩
 ·rename_i g
  split at h
  ·rename_i zs hb
   cases h
   obtain ⟨c, T, fz, hc, hl, hrel⟩ := hs g _ hb
   have hv : v = .pointer (some ⟨g, 0, none⟩) := by cases hr; rfl
   refine ⟨g, 0, hv, fun i => c.getD i Go.undef, fun i hi => ?_, fun i d hd => (hrel i d hd).1, fun i d hd => (hrel i d hd).2⟩
   rw [cell_at hc, Nat.zero_add]
   have : i < c.size := by omega
   simp [this]
  ·cases h
 ·cases h
theorem load_stable {w : World} {H : Heap} (hs : Sat H w) {t : TypeId} {a d : D} (h : loadD P t a H = some d) {v : Value} (hr : R w H a v) : ∃ u, (∀ w' : World, (∀ b o, v = .pointer (some ⟨b, o, none⟩) → w'.heap[b]? = w.heap[b]?) → (Instr.loadAt t v).run P w' = .ok u w') ∧ R w H d u := by
 unfold loadD at h
 obtain ⟨⟨bb, n⟩, hsh, h⟩ := Option.bind_eq_some_iff.1 h
 obtain ⟨cs, hcs, h⟩ := Option.bind_eq_some_iff.1 h
 obtain ⟨b, o, rfl, g, hg, h1, hrel⟩ := locD_R hs hcs hr
 obtain ⟨k1, k2⟩ := takeD_R h g h1 hrel
 obtain ⟨ha, hz⟩ := runs_isAgg (P := P) hsh
 have hg' : ∀ w' : World, (∀ b' o', Value.pointer (some ⟨b, o, none⟩) = .pointer (some ⟨b', o', none⟩) → w'.heap[b']? = w.heap[b']?) → ∀ i, i < cs.length → w'.cell? ⟨b, o + i, none⟩ = some (g i) := fun w' hw i hi => by
  rw [World.cell?_of_block (w := w) (hw b o rfl)]; exact hg i hi
 cases bb
 ·obtain ⟨h0, hR⟩ := k2 rfl
  refine ⟨g 0, fun w' hw => ?_, hR⟩
  unfold Instr.loadAt
  have hsure : (Instr.sureAddr (.pointer (some ⟨b, o, none⟩))).run P w' = .ok ⟨b, o, none⟩ w' := rfl
  rw [Sem.run_bind, hsure]
  simp only [Result.andThen_ok]
  unfold loadVar
  rw [Sem.run_bind, ha w']
  simp only [Result.andThen_ok]
  have := hg' w' hw 0 (List.getElem?_eq_some_iff.1 h0).1
  rw [Nat.add_zero] at this
  simp only [Bool.false_eq_true, if_false, run_load, this]
 ·obtain ⟨hn, _, hR⟩ := k1 rfl
  refine ⟨_, fun w' hw => ?_, hR⟩
  unfold Instr.loadAt
  have hsure : (Instr.sureAddr (.pointer (some ⟨b, o, none⟩))).run P w' = .ok ⟨b, o, none⟩ w' := rfl
  rw [Sem.run_bind, hsure]
  simp only [Result.andThen_ok]
  unfold loadVar
  rw [Sem.run_bind, ha w']
  simp only [Result.andThen_ok]
  simp only [if_true]
  rw [Sem.run_bind, hz w']
  simp only [Result.andThen_ok]
  rw [Sem.run_bind, run_loadCells w' ⟨b, o, none⟩ n g (fun j hj => by rw [add_off]; exact hg' w' hw j (by simp only at hn; omega))]
  rfl
theorem load_sound {w : World} {H : Heap} (hs : Sat H w) {t : TypeId} {a d : D} (h : loadD P t a H = some d) {v : Value} (hr : R w H a v) : ∃ u, (Instr.loadAt t v).run P w = .ok u w ∧ R w H d u :=
 let ⟨u, h1, h2⟩ := load_stable (P := P) hs h hr; ⟨u, h1 w fun _ _ _ => rfl, h2⟩
theorem store_sound {w : World} {H H' : Heap} (hs : Sat H w) {t : TypeId} {a x : D} (h : storeD P t a x H = some H') {va vx : Value} (hra : R w H a va) (hrx : R w H x vx) :
  ∃ w', (Instr.storeAt t va vx).run P w = .ok () w' ∧ Sat H' w' ∧ Ext H w w' ∧ From w H H' := by
 unfold storeD at h
 split at h
 ·rename_i hc
  obtain ⟨hsh, h1⟩ := hc
  obtain ⟨⟨bb, n⟩, hsh, hn⟩ := Option.map_eq_some_iff.1 hsh
  simp only at hn
  subst hn
  have hrow := RowR.of_cells hrx h1
  rw [hrow.len] at hsh
  split at h
  ·rename_i b off
   split at h
   ·rename_i zs Z hb
    split at h
    ·rename_i hle
     cases h
     obtain rfl := hra.box_inv
     obtain ⟨c, T, lo, hi, hcell, hf, hr, hZ⟩ := box_inv (hs b _ hb)
     have hbn : H.held b = true := held_of hb
     have he := Ext.setCells (H := H) hcell hbn vx.cells.toList off
     have hfr := From.set_owned (w := w) hbn (.box (putAt zs off x.cells) Z)
     refine ⟨_, ?_, ?_, he, hfr⟩
     ·unfold Instr.storeAt
      have hsure : (Instr.sureAddr (.pointer (some ⟨b, off, none⟩))).run P w = .ok ⟨b, off, none⟩ w := rfl
      rw [Sem.run_bind, hsure]
      exact run_storeVar rfl hsh hcell hf (by rw [← hrow.len, ← hr.len]; exact hle) hrow.oneCell
     ·obtain ⟨k1, k2, _⟩ := setCells_spec b T (lo, hi) vx.cells.toList off w c hcell
      exact hs.update he hfr (fun k _ hk => k2 k hk) (objOk_box hZ k1 (by rw [putV_size]; exact hf) ((hr.put hrow off).mono he hfr))
    ·cases h
   ·cases h
  ·rename_i b sz i off
   split at h
   ·rename_i sz' es hb
    split at h
    ·rename_i hle
     obtain ⟨hsz, hi, hle⟩ := hle
     subst hsz
     cases h
     obtain rfl := hra.el_inv
     obtain ⟨c, T, lo, hi', hcell, hf, hsz, hv⟩ := vec_inv (hs b _ hb)
     have hbn : H.held b = true := held_of hb
     have he := Ext.setCells (H := H) hcell hbn vx.cells.toList (i * sz + off)
     have hfr := From.set_owned (w := w) hbn (.vec sz (es.set i (putAt (es.getD i []) off x.cells)))
     have hge : es[i]? = some (es.getD i []) := by simp [List.getElem?_eq_getElem hi]
     have hel := hv.each i _ hge
     have hmul : (i + 1) * sz ≤ es.length * sz := Nat.mul_le_mul_right _ hi
     rw [Nat.add_mul, Nat.one_mul] at hmul
     have hcs := hv.le
     refine ⟨_, ?_, ?_, he, hfr⟩
     ·unfold Instr.storeAt
      have hsure : (Instr.sureAddr (.pointer (some ⟨b, i * sz + off, none⟩))).run P w = .ok ⟨b, i * sz + off, none⟩ w := rfl
      rw [Sem.run_bind, hsure]
      exact run_storeVar rfl hsh hcell hf (by rw [← hrow.len]; omega) hrow.oneCell
     ·obtain ⟨k1, k2, _⟩ := setCells_spec b T (lo, hi') vx.cells.toList (i * sz + off) w c hcell
      refine hs.update he hfr (fun k _ hk => k2 k hk) (objOk_vec k1 (by rw [putV_size]; exact hf) hsz (VecR.mono ?_ he hfr))
      have hlen : vx.cells.toList.length = x.cells.length := by rw [hrow.len]; simp
      have both : ∀ (i' : Nat) (e : List D) (j : Nat) d, (es.set i (putAt (es.getD i []) off x.cells))[i']? = some e → e[j]? = some d → d.one = true ∧ R w H d ((putV c (i * sz + off) vx.cells.toList).getD (i' * sz + j) Go.undef) := by
       intro i' e j d he' hd
       have hg : (putV c (i * sz + off) vx.cells.toList).getD (i' * sz + j) Go.undef = ((putV c (i * sz + off) vx.cells.toList)[i' * sz + j]?).getD Go.undef := by simp
       rw [hg, putV_get, hlen]
       by_cases hii : i = i'
       ·subst hii
        rw [List.getElem?_set_self hi] at he'
        cases he'
        rw [putAt_get] at hd
        have hjl : j < sz := by
         have : j < (es.getD i []).length := by
          split at hd
          ·omega
          ·exact (List.getElem?_eq_some_iff.1 hd).1
         omega
        by_cases hin : off ≤ j ∧ j < off + x.cells.length ∧ j < (es.getD i []).length
        ·rw [if_pos hin] at hd
         rw [if_pos (by omega), show i * sz + j - (i * sz + off) = j - off by omega]
         refine ⟨hrow.one _ _ hd, ?_⟩
         have := hrow.rel _ _ hd
         simpa using this
        ·rw [if_neg hin] at hd
         rw [if_neg (by omega)]
         refine ⟨hv.one i _ j d hge hd, ?_⟩
         have := hv.rel i _ j d hge hd
         simpa using this
       ·rw [List.getElem?_set_ne hii] at he'
        have hjl : j < sz := by
         have h1 := hv.each i' e he'
         have h2 := (List.getElem?_eq_some_iff.1 hd).1
         omega
        have hne : ¬ (i * sz + off ≤ i' * sz + j ∧ i' * sz + j < i * sz + off + x.cells.length ∧ i' * sz + j < c.size) := by
         rcases Nat.lt_or_gt_of_ne hii with hlt | hgt
         ·have := Nat.mul_le_mul_right sz (show i + 1 ≤ i' from hlt)
          rw [Nat.add_mul, Nat.one_mul] at this
          omega
         ·have := Nat.mul_le_mul_right sz (show i' + 1 ≤ i from hgt)
          rw [Nat.add_mul, Nat.one_mul] at this
          omega
        rw [if_neg hne]
        refine ⟨hv.one i' e j d he' hd, ?_⟩
        have := hv.rel i' e j d he' hd
        simpa using this
      refine ⟨by rw [putV_size, List.length_set]; exact hv.le, fun i' e he' => ?_, fun i' e j d a b => (both i' e j d a b).1, fun i' e j d a b => (both i' e j d a b).2⟩
      by_cases hii : i = i'
      ·subst hii
       rw [List.getElem?_set_self hi] at he'
       cases he'
       rw [putAt_length]; exact hel
      ·rw [List.getElem?_set_ne hii] at he'
       exact hv.each i' e he'
    ·cases h
   ·cases h
  ·cases h
 ·cases h
theorem zero_row {w : World} {H : Heap} {t : TypeId} {z : List D} (h : zeroD P t = some z) : ∃ v, Runs P (zeroValue t) v ∧ RowR w H z v.cells := by
 obtain ⟨v, hv, he, h1⟩ := runs_zero h
 refine ⟨v, hv, ?_⟩
 subst he
 refine ⟨by simp, fun i c hc => List.all_eq_true.1 h1 c (List.mem_of_getElem? hc), fun i c hc => ?_⟩
 simp only [List.getElem?_map, Option.map_eq_some_iff] at hc
 obtain ⟨u, hu', rfl⟩ := hc
 have : v.cells.getD i Go.undef = u := by
  have h' : v.cells[i]? = some u := by simpa using hu'
  simp [h']
 rw [this]; exact ofCell_R w H u
end
end Go.Av
end
section
namespace Go.Av
section
variable {P : Program}
theorem vecR_of {w : World} {H : Heap} {sz : Nat} {xs : List (List D)} (g : Nat → Value) (hl : ∀ (i : Nat) e, xs[i]? = some e → e.length = sz) (h1 : ∀ (i : Nat) (e : List D) (j : Nat) d, xs[i]? = some e → e[j]? = some d → d.one = true)
  (hr : ∀ (i : Nat) (e : List D) (j : Nat) d, xs[i]? = some e → e[j]? = some d → R w H d (g (i * sz + j))) : VecR w H sz xs ((List.range (xs.length * sz)).map g).toArray := by
 refine ⟨by simp, hl, h1, fun i e j d he hd => ?_⟩
 have hi := (List.getElem?_eq_some_iff.1 he).1
 have hj : j < sz := by
  have h2 := (List.getElem?_eq_some_iff.1 hd).1
  rw [hl i e he] at h2; exact h2
 have hm : (i + 1) * sz ≤ xs.length * sz := Nat.mul_le_mul_right _ hi
 rw [Nat.add_mul, Nat.one_mul] at hm
 have hlt : i * sz + j < xs.length * sz := by omega
 have : ((List.range (xs.length * sz)).map g).toArray.getD (i * sz + j) Go.undef = g (i * sz + j) := by simp [hlt]
 rw [this]
 exact hr i e j d he hd
theorem VecR.oneCell {w : World} {H : Heap} {sz : Nat} {es : List (List D)} {c : Array Value} (h : VecR w H sz es c) (hs : c.size = es.length * sz) (hsz : 0 < sz) : ∀ v ∈ c.toList, v.oneCell' = true := by
 intro v hv
 obtain ⟨k, hk⟩ := List.getElem?_of_mem hv
 have hlt : k < c.size := by
  have := (List.getElem?_eq_some_iff.1 hk).1
  simpa using this
 have hi : k / sz < es.length := by rw [hs] at hlt; exact Nat.div_lt_of_lt_mul (by rwa [Nat.mul_comm] at hlt)
 have hj : k % sz < sz := Nat.mod_lt _ hsz
 have he : es[k / sz]? = some es[k / sz] := List.getElem?_eq_getElem hi
 have hl := h.each _ _ he
 have hd : (es[k / sz])[k % sz]? = some ((es[k / sz])[k % sz]'(by rw [hl]; exact hj)) := List.getElem?_eq_getElem _
 have e1 : k / sz * sz + k % sz = k := by rw [Nat.mul_comm]; exact Nat.div_add_mod k sz
 have := (h.rel _ _ _ _ he hd).oneCell (h.one _ _ _ _ he hd)
 rw [e1] at this
 have e : c.getD k Go.undef = v := by
  have h' : c[k]? = some v := by simpa using hk
  simp [h']
 rwa [e] at this
theorem elems_R {w : World} {H : Heap} (hs : Sat H w) {sz : Nat} (hsz : 0 < sz) {d : D} {xs : List (List D)} (h : elemsD H sz d = some xs) {v : Value} (hr : R w H d v) :
  ∃ us : Array Value, us.size = xs.length * sz ∧ VecR w H sz xs us ∧ ∀ W : World, W.heap = w.heap → (Builtin.lenOf v).run P W = .ok xs.length W ∧ (Builtin.firstCells sz xs.length v).run P W = .ok us W := by
 have hcell' : ∀ (W : World), W.heap = w.heap → ∀ a, W.cell? a = w.cell? a := fun W hW a => by unfold World.cell?; rw [hW]
 cases d <;> simp only [elemsD] at h <;> try (cases h; done)
 case nilsl =>
  cases h; cases hr
  exact ⟨#[], by simp, ⟨by simp, by simp, by simp, by simp⟩, fun W _ => ⟨rfl, rfl⟩⟩
 case sl sz' es =>
  split at h
  ·rename_i e
   cases h; subst e
   cases hr with
   | sl0 sz a cap =>
    refine ⟨#[], by simp, ⟨by simp, by simp, by simp, by simp⟩, fun W _ => ⟨rfl, ?_⟩⟩
    cases a with
    | none => rfl
    | some a =>
     show (loadCells a (0 * sz)).run P W = _
     rw [Nat.zero_mul]; rfl
   | sl sz es b off cap u hb hn hln hcap hc h1 hr =>
    refine ⟨((List.range (xs.length * sz)).map fun k => u (k / sz) (k % sz)).toArray, by simp, vecR_of (fun k => u (k / sz) (k % sz)) hln h1 (fun i e j d he hd => ?_), fun W hW => ⟨rfl, ?_⟩⟩
    ·have hj : j < sz := by
      have h2 := (List.getElem?_eq_some_iff.1 hd).1
      rw [hln i e he] at h2; exact h2
     have e1 : (i * sz + j) / sz = i := by rw [Nat.mul_comm, Nat.mul_add_div hsz, Nat.div_eq_of_lt hj, Nat.add_zero]
     have e2 : (i * sz + j) % sz = j := by rw [Nat.mul_comm, Nat.mul_add_mod, Nat.mod_eq_of_lt hj]
     simp only [e1, e2]
     exact hr i e j d he hd
    ·show (loadCells ⟨b, off, none⟩ (xs.length * sz)).run P W = _
     refine run_loadCells W _ _ _ (fun k hk => ?_)
     rw [add_off, hcell' W hW]
     have hi : k / sz < xs.length := Nat.div_lt_of_lt_mul (by rwa [Nat.mul_comm] at hk)
     have := hc (k / sz) (k % sz) hi (Nat.mod_lt _ hsz)
     rw [← this]
     have e1 : k / sz * sz + k % sz = k := by rw [Nat.mul_comm]; exact Nat.div_add_mod k sz
     rw [Nat.add_assoc, e1]
  ·cases h
 case vec b sz' lo n =>
  split at h
  ·rename_i e
   subst e
   split at h
   ·rename_i sz'' es hb
    split at h
    ·rename_i hc
     obtain ⟨e, hle⟩ := hc
     subst e
     cases h
     obtain ⟨c, T, l0, hi0, hcell, hf, _, hv⟩ := vec_inv (hs b _ hb)
     have hlen : ((es.drop lo).take n).length = n := by simp; omega
     cases hr with
     | vec b sz lo n cap T' m hsh hs' hsz' hn =>
      have at' : ∀ (i : Nat) e, ((es.drop lo).take n)[i]? = some e → es[lo + i]? = some e := fun i e he => by
       rw [List.getElem?_take] at he
       split at he
       ·rwa [List.getElem?_drop] at he
       ·cases he
      refine ⟨((List.range (((es.drop lo).take n).length * sz)).map fun k => c.getD (lo * sz + k) Go.undef).toArray, by simp, vecR_of (fun k => c.getD (lo * sz + k) Go.undef) (fun i e he => hv.each _ e (at' i e he)) (fun i e j d he hd => hv.one _ e j d (at' i e he) hd) (fun i e j d he hd => ?_), fun W hW => ⟨by rw [hlen]; rfl, ?_⟩⟩
      ·have := hv.rel _ e j d (at' i e he) hd
       rwa [Nat.add_mul, Nat.add_assoc] at this
      ·rw [hlen]
       show (loadCells ⟨b, lo * sz, none⟩ (n * sz)).run P W = _
       refine run_loadCells W _ _ _ (fun k hk => ?_)
       rw [add_off, hcell' W hW, cell_at hcell]
       have h1 := hv.le
       have h2 : (lo + n) * sz ≤ es.length * sz := Nat.mul_le_mul_right _ hle
       rw [Nat.add_mul] at h2
       have : lo * sz + k < c.size := by omega
       simp [this]
     | vec0 b sz lo off =>
      rw [List.take_zero]
      exact ⟨#[], by simp, ⟨by simp, fun i e he => by simp at he, fun i e j d he hd => by simp at he, fun i e j d he hd => by simp at he⟩, fun W _ => ⟨rfl, by
       show (loadCells ⟨b, off, none⟩ (0 * sz)).run P W = _
       rw [Nat.zero_mul]; rfl⟩⟩
    ·cases h
   ·cases h
  ·cases h
 case str s =>
  split at h
  ·rename_i e
   subst e
   cases h
   obtain rfl := hr.str_inv
   have hl : (bytesE s).length = s.size := by simp [bytesE]
   refine ⟨s.data.map fun b => .int .u8 b.toNat, by simp [hl], ⟨by simp [hl], fun i e he => ?_, fun i e j d he hd => ?_, fun i e j d he hd => ?_⟩, fun W _ => ⟨by rw [hl]; rfl, ?_⟩⟩
   ·simp only [bytesE, List.getElem?_map, Option.map_eq_some_iff] at he
    obtain ⟨u, _, rfl⟩ := he; rfl
   ·simp only [bytesE, List.getElem?_map, Option.map_eq_some_iff] at he
    obtain ⟨u, _, rfl⟩ := he
    cases j with
    | zero => simp at hd; subst hd; rfl
    | succ j => simp at hd
   ·simp only [bytesE, List.getElem?_map, Option.map_eq_some_iff] at he
    obtain ⟨u, hu, rfl⟩ := he
    cases j with
    | zero =>
     simp at hd; subst hd
     have hlt := (List.getElem?_eq_some_iff.1 hu).1
     have : (s.data.map fun b => Value.int .u8 b.toNat).getD (i * 1 + 0) Go.undef = .int .u8 u.toNat := by
      have h' : s.data[i]? = some u := by simpa using hu
      simp [h']
     rw [this]; exact .int _ _
    | succ j => simp at hd
   ·rw [hl]
    show (Pure.pure ((s.extract 0 s.size).data.map fun b => Value.int .u8 b.toNat) : Sem (Array Value)).run P W = _
    have : s.extract 0 s.size = s := by
     apply ByteArray.ext
     simp [ByteArray.extract, ByteArray.copySlice]
    rw [this]; rfl
  ·cases h
theorem VecR.take {w : World} {H : Heap} {sz : Nat} {es : List (List D)} {c : Array Value} (h : VecR w H sz es c) (n : Nat) : VecR w H sz (es.take n) c := by
 have at' : ∀ (i : Nat) e, (es.take n)[i]? = some e → es[i]? = some e := fun i e he => by
  rw [List.getElem?_take] at he
  split at he
  ·exact he
  ·cases he
 refine ⟨Nat.le_trans (Nat.mul_le_mul_right _ ?_) h.le, fun i e he => h.each i e (at' i e he), fun i e j d he hd => h.one i e j d (at' i e he) hd, fun i e j d he hd => h.rel i e j d (at' i e he) hd⟩
 simp; omega
theorem VecR.join {w : World} {H : Heap} {sz : Nat} {es xs : List (List D)} {c us r : Array Value} (h : VecR w H sz es c) (k : VecR w H sz xs us)
  (h1 : ∀ i, i < es.length * sz → r.getD i Go.undef = c.getD i Go.undef) (h2 : ∀ i, i < xs.length * sz → r.getD (es.length * sz + i) Go.undef = us.getD i Go.undef) (hs : (es.length + xs.length) * sz ≤ r.size) : VecR w H sz (es ++ xs) r := by
 have small : ∀ {l : List (List D)} {i j : Nat} {e : List D} {d : D}, (∀ (i : Nat) e, l[i]? = some e → e.length = sz) → l[i]? = some e → e[j]? = some d → i * sz + j < l.length * sz := by
  intro l i j e d hl he hd
  have hi := (List.getElem?_eq_some_iff.1 he).1
  have hj := (List.getElem?_eq_some_iff.1 hd).1
  rw [hl i e he] at hj
  have hm : (i + 1) * sz ≤ l.length * sz := Nat.mul_le_mul_right _ hi
  rw [Nat.add_mul, Nat.one_mul] at hm
  omega
 have part : ∀ (i : Nat) e, (es ++ xs)[i]? = some e → (i < es.length ∧ es[i]? = some e) ∨ (es.length ≤ i ∧ xs[i - es.length]? = some e) := fun i e he => by
  by_cases hi : i < es.length
  ·rw [List.getElem?_append_left hi] at he; exact .inl ⟨hi, he⟩
  ·rw [List.getElem?_append_right (by omega)] at he; exact .inr ⟨by omega, he⟩
 refine ⟨by simpa using hs, fun i e he => ?_, fun i e j d he hd => ?_, fun i e j d he hd => ?_⟩
 ·rcases part i e he with ⟨_, h'⟩ | ⟨_, h'⟩
  ·exact h.each _ _ h'
  ·exact k.each _ _ h'
 ·rcases part i e he with ⟨_, h'⟩ | ⟨_, h'⟩
  ·exact h.one _ _ _ _ h' hd
  ·exact k.one _ _ _ _ h' hd
 ·rcases part i e he with ⟨_, h'⟩ | ⟨hge, h'⟩
  ·rw [h1 _ (small h.each h' hd)]; exact h.rel _ _ _ _ h' hd
  ·have := h2 _ (small k.each h' hd)
   have e1 : i * sz + j = es.length * sz + ((i - es.length) * sz + j) := by
    rw [← Nat.add_assoc, ← Nat.add_mul, show es.length + (i - es.length) = i by omega]
   rw [e1, this]
   exact k.rel _ _ _ _ h' hd
theorem append_types {t' : TypeId} (h : baseT P t' = .slice ∨ baseT P t' = .str) : (∃ e, P.underlying t' = some (.slice e)) ∨ P.underlying t' = some .string := by
 rcases h with h | h
 ·exact .inl (base_slice h)
 ·exact .inr (base_str h)
theorem run_append_in {w : World} {t t' ty e sz by_ n cap m : Nat} {base : Option Addr} {x : Value} {us : Array Value} (he : elemT P t = some (e, sz, by_)) (ht' : baseT P t' = .slice ∨ baseT P t' = .str)
    (hl : (Builtin.lenOf x).run P w = .ok m w) (hf : (Builtin.firstCells sz m x).run P w = .ok us w) (hle : n + m ≤ cap) :
    (Builtin.append_ #[t, t'] ty #[.slice base n cap, x]).run P w = (match base with | some a => (do storeCells (a.add (n * sz)) us.toList; pure (.slice base (n + m) cap) : Sem Value) | none => pure (.slice base (n + m) cap)).run P w := by
  obtain ⟨hu, i, hi, his, _⟩ := elem_inv he
  simp only at hu hi his
  unfold Builtin.append_
  simp only [List.getElem?_toArray, List.getElem?_cons_zero, List.getElem?_cons_succ]
  rw [Sem.run_bind, run_underlying hu]
  simp only [Result.andThen_ok]
  rw [Sem.run_bind, runs_sizeOf hi w]
  simp only [Result.andThen_ok, his]
  rcases append_types ht' with ⟨e', hu'⟩ | hu' <;>
  ( rw [Sem.run_bind, run_underlying hu']
    simp only [Result.andThen_ok]
    rw [Sem.run_bind]
    simp only [Sem.run_pure, Result.andThen_ok, Bool.false_eq_true, if_false]
    rw [Sem.run_bind, hl]
    simp only [Result.andThen_ok, hle, if_true, Bool.not_false]
    rw [Sem.run_bind, hf]
    cases base <;> rfl )
theorem run_append_new {w : World} {t t' ty e sz by_ n cap m : Nat} {base : Option Addr} {x z : Value} {us os : Array Value} (he : elemT P t = some (e, sz, by_)) (ht' : baseT P t' = .slice ∨ baseT P t' = .str)
    (hl : (Builtin.lenOf x).run P w = .ok m w) (hf : ∀ W : World, W.heap = w.heap → (Builtin.firstCells sz m x).run P W = .ok us W) (ho : ∀ W : World, W.heap = w.heap → (Builtin.firstCells sz n (.slice base n cap)).run P W = .ok os W) (hz : Runs P (zeroValue e) z) (hle : ¬ n + m ≤ cap)
    (hby : (n + m) * by_ ≤ 140737488355328) (hmx : n + m ≤ 9223372036854775807) : ∃ nc, n + m ≤ nc ∧ 
    (Builtin.append_ #[t, t'] ty #[.slice base n cap, x]).run P w = .ok (.slice (some ⟨w.heap.size, 0, none⟩) (n + m) nc) (({ w with drawn := w.drawn + 1 } : World).alloc (.cells (os ++ us ++ Builtin.zeroCells z.cells (nc - (n + m))) e)) := by
  obtain ⟨hu, i, hi, his, hib⟩ := elem_inv he
  simp only at hu hi his hib
  refine ⟨(Question.appendCap (n + m) cap e).cut (w.tape w.drawn (.appendCap (n + m) cap e)), by simp only [Question.cut]; omega, ?_⟩
  generalize hnc : (Question.appendCap (n + m) cap e).cut (w.tape w.drawn (.appendCap (n + m) cap e)) = nc
  unfold Builtin.append_
  simp only [List.getElem?_toArray, List.getElem?_cons_zero, List.getElem?_cons_succ]
  rw [Sem.run_bind, run_underlying hu]
  simp only [Result.andThen_ok]
  rw [Sem.run_bind, runs_sizeOf hi w]
  simp only [Result.andThen_ok, his]
  have hm : IntKind.i64.max = 9223372036854775807 := by decide
  have h1 : ¬ (((n + m : Nat) : Int) > IntKind.i64.max ∧ (False ∨ i.bytes = 0)) := by rw [hm]; omega
  have h2 : ¬ (Builtin.nextslicecap (n + m) cap * i.bytes > 2 ^ 48) := by
    have := growslice_fits (need := n + m) (old := cap) (bytes := by_) (by omega) hby
    rw [hib]; omega
  have hask : ∀ (k : Nat) (W : World), (askRoom k).run P W = .ok () W := fun k W => by unfold askRoom; split <;> rfl
  rcases append_types ht' with ⟨e', hu'⟩ | hu' <;>
  ( rw [Sem.run_bind, run_underlying hu']
    simp only [Result.andThen_ok]
    rw [Sem.run_bind]
    simp only [Sem.run_pure, Result.andThen_ok, Bool.false_eq_true, if_false]
    rw [Sem.run_bind, hl]
    simp only [Result.andThen_ok, hle, if_false, Bool.not_false, if_true]
    rw [Sem.run_bind, runs_typeInfo hi w]
    simp only [Result.andThen_ok, if_neg h1]
    rw [Sem.run_bind, runs_typeInfo hi w]
    simp only [Result.andThen_ok, if_neg h2]
    rw [Sem.run_bind, run_choose]
    simp only [Question.forced, Bool.false_eq_true, if_false, Result.andThen_ok, hnc]
    rw [Sem.run_bind, runs_typeInfo hi]
    simp only [Result.andThen_ok]
    rw [Sem.run_bind, hask]
    simp only [Result.andThen_ok]
    rw [Sem.run_bind, ho { w with drawn := w.drawn + 1 } rfl]
    simp only [Result.andThen_ok]
    rw [Sem.run_bind, hf { w with drawn := w.drawn + 1 } rfl]
    simp only [Result.andThen_ok]
    rw [Sem.run_bind, hz]
    simp only [Result.andThen_ok]
    rfl )
end
end Go.Av
end
section
namespace Go.Av
section
variable {P : Program}
theorem bldT_inv {t u : TypeId} (h : bldT P t = some u) : t = u := by
 unfold bldT at h
 split at h
 ·split at h
  ·cases h; rfl
  ·cases h
 ·cases h
def D.toV1 : D → Value
 | .int k n => .int k n
 | .str s => .string s
 | .bool b => .bool b
 | _ => Go.undef
def D.toV : D → Value
 | .agg cs => .agg (cs.map D.toV1).toArray
 | d => d.toV1
theorem key_toV1 {d : D} (h : d.key = true) {w : World} {H : Heap} {v : Value} (hr : R w H d v) : v = d.toV1 := by
 cases d <;> simp [D.key] at h
 ·exact hr.bool_inv
 ·exact hr.int_inv
 ·exact hr.str_inv
theorem toV1_R {d : D} (h : d.key = true) (w : World) (H : Heap) : R w H d d.toV1 := by
 cases d <;> simp [D.key] at h <;> constructor
theorem key_one {d : D} (h : d.key = true) : d.one = true := by cases d <;> simp [D.key] at h <;> rfl
theorem key_toV {d : D} (h : d.keyA = true) {w : World} {H : Heap} {v : Value} (hr : R w H d v) : v = d.toV := by
 cases d
 case agg cs =>
  cases hr with
  | agg _ vs hl h1 hr =>
   simp only [D.keyA, List.all_eq_true] at h
   simp only [D.toV, Value.agg.injEq]
   apply Array.ext
   ·simpa using hl.symm
   ·intro i hi hi2
    have hi3 : i < cs.length := by omega
    have := key_toV1 (h _ (List.getElem_mem hi3)) (hr i cs[i] (List.getElem?_eq_getElem hi3))
    simp only [Array.getD_eq_getD_getElem?, Array.getElem?_eq_getElem hi, Option.getD_some] at this
    simpa using this
 all_goals exact key_toV1 (d := _) (by exact h) hr
theorem toV_R {d : D} (h : d.keyA = true) (w : World) (H : Heap) : R w H d d.toV := by
 cases d
 case agg cs =>
  simp only [D.keyA, List.all_eq_true] at h
  refine .agg cs _ (by simp) (fun i d hd => key_one (h d (List.mem_of_getElem? hd))) (fun i d hd => ?_)
  have : ((cs.map D.toV1).toArray).getD i Go.undef = d.toV1 := by simp [hd]
  rw [this]
  exact toV1_R (h d (List.mem_of_getElem? hd)) w H
 all_goals exact toV1_R (d := _) (by exact h) w H
theorem bytes_iff (s t : ByteArray) : (s.data.toList == t.data.toList) = true ↔ s = t := by
 rw [beq_iff_eq]
 constructor
 ·intro h
  apply ByteArray.ext
  exact Array.toList_inj.1 h
 ·intro h; rw [h]
theorem cellEq_iff {b : Base} {x y : D} {c : Bool} (h : cellEq b x y = some c) : c = true ↔ x.toV1 = y.toV1 := by
 unfold cellEq at h
 split at h
 ·split at h
  ·rename_i hk; subst hk; cases h; simp [D.toV1]
  ·cases h
 ·cases h
  simp only [D.toV1, Value.string.injEq]
  exact bytes_iff _ _
 ·cases h; simp [D.toV1]
 ·cases h
theorem aggEq_iff {b : Base} {xs ys : List D} : ∀ (is : List Nat) (c : Bool), aggEq (is.map fun i => (i, b)) xs ys = some c → (c = true ↔ ∀ i ∈ is, (xs[i]?).map D.toV1 = (ys[i]?).map D.toV1)
 | [], c, h => by simp [aggEq] at h; subst h; simp
 | i :: is, c, h => by
  simp only [List.map_cons, aggEq] at h
  split at h
  ·rename_i x y hx hy
   obtain ⟨c1, hc1, h⟩ := Option.bind_eq_some_iff.1 h
   obtain ⟨c2, hc2, rfl⟩ := Option.map_eq_some_iff.1 h
   have e1 := cellEq_iff hc1
   have e2 := aggEq_iff is c2 hc2
   simp only [Bool.and_eq_true, e1, e2, List.mem_cons, forall_eq_or_imp, hx, hy, Option.map_some, Option.some.injEq]
  ·cases h
theorem keyEq_iff {kk : KK} {x y : D} {c : Bool} (h : keyEq kk x y = some c) (hx : keyIs kk x = true) (hy : y.keyA = true) : c = true ↔ x.toV = y.toV := by
 unfold keyEq at h
 split at h
 ·rename_i b
  have e := cellEq_iff h
  have tv : ∀ z : D, (∀ cs, z ≠ .agg cs) → z.toV = z.toV1 := fun z hz => by cases z <;> first | rfl | exact absurd rfl (hz _)
  rw [tv x (by intro cs hcs; subst hcs; simp [keyIs] at hx), tv y (by intro cs hcs; subst hcs; simp [cellEq] at h)]
  exact e
 ·rename_i n b xs ys
  split at h
  ·rename_i hl
   have e := aggEq_iff _ _ h
   rw [e]
   simp only [D.toV, Value.agg.injEq, List.mem_range]
   constructor
   ·intro hh
    apply Array.ext
    ·simp; omega
    ·intro i h1 h2
     simp only [List.size_toArray, List.length_map] at h1 h2
     have := hh i (by omega)
     rw [List.getElem?_eq_getElem h1, List.getElem?_eq_getElem h2] at this
     simpa using this
   ·intro hh i hi
    have h3 := congrArg Array.toList hh
    simp only at h3
    have := congrArg (·[i]?) h3
    simpa using this
  ·cases h
 ·cases h
def plainDesc : TypeDesc → Prop
 | .bool | .int _ | .string => True
 | _ => False
theorem keyB_desc {t : TypeId} (h : keyB (baseT P t) = true) : ∃ d, P.underlying t = some d ∧ plainDesc d := by
 unfold keyB at h
 simp only [decide_eq_true_eq] at h
 unfold baseT at h
 split at h <;> rename_i hu <;> first | exact ⟨_, hu, trivial⟩ | (simp at h; done)
theorem mapT_inv {t kt et : TypeId} {kk : KK} (h : mapT P t = some (kt, et, kk)) : P.underlying t = some (.map kt et) ∧
  ((∃ d, kk = .one (baseT P kt) ∧ P.underlying kt = some d ∧ plainDesc d) ∨ ∃ n e' i, kk = .arr n (baseT P e') ∧ P.underlying kt = some (.array n e') ∧ P.info? e' = some i ∧ i.size = 1 ∧ shapeT P e' = some (false, 1) ∧ ∃ d, P.underlying e' = some d ∧ plainDesc d) := by
 unfold mapT at h
 split at h
 ·rename_i k e hu
  split at h
  ·rename_i n e' hk
   split at h
   ·rename_i hc
    cases h
    obtain ⟨i, hi, hs⟩ := Option.map_eq_some_iff.1 hc.1
    exact ⟨hu, .inr ⟨n, e', i, rfl, hk, hi, hs, hc.2.1, keyB_desc hc.2.2⟩⟩
   ·cases h
  ·split at h
   ·rename_i hc
    cases h
    obtain ⟨d, hd, hp⟩ := keyB_desc hc
    exact ⟨hu, .inl ⟨d, rfl, hd, hp⟩⟩
   ·cases h
 ·cases h
theorem run_check1 {w : World} {t : TypeId} {d : TypeDesc} (hd : P.underlying t = some d) (hp : plainDesc d) (v : Value) (e : Bool) (n : Nat) : (Instr.checkKey e (n + 1) t v).run P w = .ok () w := by
 unfold Instr.checkKey
 simp only [Sem.run_bind, run_underlying hd, Result.andThen]
 cases d <;> first | rfl | exact hp.elim
theorem run_check {w : World} {t kt et : TypeId} {kk : KK} {k : D} (hm : mapT P t = some (kt, et, kk)) (hk : keyIs kk k = true) (e : Bool) : (Instr.checkKey e 10000 kt k.toV).run P w = .ok () w := by
 rcases (mapT_inv hm).2 with ⟨d, rfl, hd, hp⟩ | ⟨n, e', i, rfl, hu, hi, hs, hsh, d, hd, hp⟩
 ·exact run_check1 hd hp _ _ 9999
 ·cases k with
  | agg cs =>
   simp only [keyIs, keyIs.d1, Bool.and_eq_true, decide_eq_true_eq, List.all_eq_true] at hk
   obtain ⟨hl, hall⟩ := hk
   rw [show (10000 : Nat) = 9998 + 1 + 1 from rfl, Instr.checkKey]
   simp only [D.toV, Sem.run_bind, run_underlying hu, Result.andThen_ok]
   simp only [Std.Legacy.Range.forIn_eq_forIn_range', Std.Legacy.Range.size, Nat.sub_zero, Nat.add_one_sub_one, Nat.div_one]
   have each : ∀ j ∈ List.range' 0 n, j < n := fun j hj => by simp at hj; omega
   generalize List.range' 0 n = is at each
   induction is with
   | nil => simp
   | cons j is ih =>
    have hj : j < cs.length := by have := each j (by simp); omega
    obtain ⟨u, hu', _⟩ := runs_part (P := P) hsh (o := j) (cs := cs) (vs := (cs.map D.toV1).toArray) (d := cs[j]) (by simp [takeD, hj]) (w := w) (H := fun _ => none) (by simp)
     (fun i d hd => key_one (hall d (List.mem_of_getElem? hd))) (fun i d hd => by
      have : ((cs.map D.toV1).toArray).getD i Go.undef = d.toV1 := by simp [hd]
      rw [this]; exact toV1_R (hall d (List.mem_of_getElem? hd)) _ _)
    have hc : P.cellsOf e' = 1 := by simp [Program.cellsOf, hi, hs]
    simp only [List.forIn_cons, Sem.run_bind, run_sizeOf w hi, hc, Result.andThen_ok, Nat.mul_one, hu' w, run_check1 hd hp, Sem.run_pure]
    exact ih (fun y hy => each y (by simp [hy]))
  | _ => simp [keyIs] at hk
structure KvR (w : World) (H : Heap) (kvs : List (D × D)) (es : List MapEntry) : Prop where
 len : es.length = kvs.length
 key : ∀ (i : Nat) (p : D × D) (e : MapEntry), kvs[i]? = some p → es[i]? = some e → p.1.keyA = true ∧ e.key = p.1.toV ∧ R w H p.2 e.val
theorem KvR.tail {w : World} {H : Heap} {p : D × D} {kvs : List (D × D)} {e : MapEntry} {es : List MapEntry} (h : KvR w H (p :: kvs) (e :: es)) : KvR w H kvs es :=
 ⟨by have := h.len; simpa using this, fun i p' e' hp he => h.key (i + 1) p' e' (by simpa using hp) (by simpa using he)⟩
theorem sameNow_D {b : Base} {x y : D} {c : Bool} (h : cellEq b x y = some c) {kt : TypeId} {d : TypeDesc} (hb : b = baseT P kt) (hd : P.underlying kt = some d) (hp : plainDesc d) (hy : y.keyA = true) : Instr.sameNow d x.toV y.toV = some c := by
 have hbd : b = (match d with | .bool => .bool | .int _ => .int | _ => .str) := by
  subst hb; simp only [baseT, hd]; cases d <;> first | rfl | exact hp.elim
 unfold cellEq at h
 split at h
 ·split at h
  ·rename_i hk; subst hk; cases h
   cases d <;> simp [plainDesc] at hp hbd
   simp [D.toV, D.toV1, Instr.sameNow]
  ·cases h
 ·cases h
  cases d <;> simp [plainDesc] at hp hbd
  rename_i s t
  have : (s == t) = (s.data.toList == t.data.toList) := by
   apply Bool.eq_iff_iff.2
   rw [MapKept.bytes_beq, bytes_iff]
  simp [D.toV, D.toV1, Instr.sameNow, this]
 ·cases h
  cases d <;> simp [plainDesc] at hp hbd
  simp [D.toV, D.toV1, Instr.sameNow]
 ·cases h
def Found (w : World) (H : Heap) (kvs : List (D × D)) (es : List MapEntry) (k : D) (i : Nat) (r : Option (Nat × D)) (r' : Option (Nat × Value)) : Prop := match r with
 | none => r' = none ∧ ∀ x ∈ es, x.key ≠ k.toV
 | some (j, d) => ∃ e p, i ≤ j ∧ es[j - i]? = some e ∧ kvs[j - i]? = some p ∧ p.2 = d ∧ r' = some (j, e.val) ∧ e.key = k.toV ∧ R w H d e.val
theorem Found.cons {w : World} {H : Heap} {p : D × D} {kvs : List (D × D)} {e : MapEntry} {es : List MapEntry} {k : D} {i : Nat} {r : Option (Nat × D)} {r' : Option (Nat × Value)} (h : Found w H kvs es k (i + 1) r r') (hne : e.key ≠ k.toV) : Found w H (p :: kvs) (e :: es) k i r r' := by
 cases r with
 | none => exact ⟨h.1, fun x hx => by rcases List.mem_cons.1 hx with rfl | hx; exact hne; exact h.2 x hx⟩
 | some q =>
  obtain ⟨j, d⟩ := q
  obtain ⟨e', p', hij, h1, h2, h3, h4, h5, h6⟩ := h
  have : j - i = (j - (i + 1)) + 1 := by omega
  exact ⟨e', p', by omega, by rw [this]; simpa using h1, by rw [this]; simpa using h2, h3, h4, h5, h6⟩
theorem find_one {w : World} {H : Heap} {kt : TypeId} {d : TypeDesc} {k : D} (hd : P.underlying kt = some d) (hp : plainDesc d) (hk : keyIs (.one (baseT P kt)) k = true) : ∀ (kvs : List (D × D)) (es : List MapEntry) (i : Nat) (r : Option (Nat × D)), KvR w H kvs es →
  findD (.one (baseT P kt)) k kvs i = some r → ∃ r', Instr.findNow d k.toV es i = some r' ∧ Found w H kvs es k i r r'
 | [], es, i, r, hkv, h => by
  have : es = [] := List.eq_nil_of_length_eq_zero (by simpa using hkv.len)
  subst this
  simp [findD] at h; subst h
  exact ⟨none, rfl, rfl, by simp⟩
 | p :: kvs, [], i, r, hkv, h => by have := hkv.len; simp at this
 | p :: kvs, e :: es, i, r, hkv, h => by
  obtain ⟨hpk, hek, hR⟩ := hkv.key 0 p e rfl rfl
  unfold findD at h
  obtain ⟨c, hc, h⟩ := Option.bind_eq_some_iff.1 h
  have hiff := keyEq_iff hc hk hpk
  have hsn := sameNow_D (P := P) (x := k) (y := p.1) (by exact hc) rfl hd hp hpk
  unfold Instr.findNow
  rw [hek, hsn]
  cases c
  ·simp only [Bool.false_eq_true, if_false] at h
   obtain ⟨r', hr', hf⟩ := find_one hd hp hk kvs es (i + 1) r hkv.tail h
   refine ⟨r', hr', hf.cons ?_⟩
   rw [hek]
   intro hh
   have := hiff.2 hh.symm
   cases this
  ·simp only [if_true, Option.some.injEq] at h
   subst h
   refine ⟨_, rfl, e, p, Nat.le_refl _, by simp, by simp, rfl, rfl, ?_, hR⟩
   rw [hek]; exact (hiff.1 rfl).symm
theorem runs_items {w0 : World} {H : Heap} {e' : TypeId} {b : Base} {xs ys : List D} {vs us : Array Value} (hb : b = baseT P e') (hsh : shapeT P e' = some (false, 1)) (d : Nat) (hx : RowR w0 H xs vs) (hy : RowR w0 H ys us) : ∀ (is : List Nat) (c : Bool),
  aggEq (is.map fun i => (i, b)) xs ys = some c → ∀ w, (Op.eqItems (d + 1) e' 1 vs us is).run P w = .ok c w
 | [], c, h, w => by simp [aggEq] at h; subst h; rfl
 | i :: is, c, h, w => by
  simp only [List.map_cons, aggEq] at h
  split at h
  ·rename_i x y hx' hy'
   obtain ⟨c1, hc1, h⟩ := Option.bind_eq_some_iff.1 h
   obtain ⟨c2, hc2, rfl⟩ := Option.map_eq_some_iff.1 h
   have tk : ∀ (cs : List D) (z : D), cs[i]? = some z → takeD (false, 1) (cs.drop i) = some z := fun cs z hz => by
    simp only [takeD, List.head?_drop]; exact hz
   obtain ⟨a, ha, hRa⟩ := runs_part (P := P) hsh (tk _ _ hx') hx.len hx.one hx.rel
   obtain ⟨b', hb', hRb⟩ := runs_part (P := P) hsh (tk _ _ hy') hy.len hy.one hy.rel
   subst hb
   have hc := runs_cellEq (P := P) (d := d) hc1 hRa hRb
   unfold Op.eqItems
   simp only [Sem.run_bind, Nat.mul_one, ha w, Result.andThen_ok, hb' w, hc w]
   cases c1
   ·simp
   ·simp only [Bool.not_true, Bool.false_eq_true, if_false, Bool.true_and]
    exact runs_items rfl hsh d hx hy is c2 hc2 w
  ·cases h
theorem agg_rowR {w : World} {H : Heap} {cs : List D} (h : cs.all D.key = true) : RowR w H cs (cs.map D.toV1).toArray := by
 have h' := List.all_eq_true.1 h
 refine ⟨by simp, fun i d hd => key_one (h' d (List.mem_of_getElem? hd)), fun i d hd => ?_⟩
 have : ((cs.map D.toV1).toArray).getD i Go.undef = d.toV1 := by simp [hd]
 rw [this]
 exact toV1_R (h' d (List.mem_of_getElem? hd)) w H
theorem find_arr {w : World} {H : Heap} {kt e' : TypeId} {n : Nat} {i : TypeInfo} {k : D} (hu : P.underlying kt = some (.array n e')) (hi : P.info? e' = some i) (his : i.size = 1) (hsh : shapeT P e' = some (false, 1)) (hk : keyIs (.arr n (baseT P e')) k = true) :
  ∀ (kvs : List (D × D)) (es : List MapEntry) (j : Nat) (r : Option (Nat × D)), KvR w H kvs es →
  findD (.arr n (baseT P e')) k kvs j = some r → ∃ r', (∀ w', (Instr.findAsking kt k.toV es j).run P w' = .ok r' w') ∧ Found w H kvs es k j r r'
 | [], es, j, r, hkv, h => by
  have : es = [] := List.eq_nil_of_length_eq_zero (by simpa using hkv.len)
  subst this
  simp [findD] at h; subst h
  exact ⟨none, fun _ => rfl, rfl, by simp⟩
 | p :: kvs, [], j, r, hkv, h => by have := hkv.len; simp at this
 | p :: kvs, e :: es, j, r, hkv, h => by
  obtain ⟨hpk, hek, hR⟩ := hkv.key 0 p e rfl rfl
  unfold findD at h
  obtain ⟨c, hc, h⟩ := Option.bind_eq_some_iff.1 h
  have hiff := keyEq_iff hc hk hpk
  have heq : ∀ w', (Op.equal kt k.toV e.key).run P w' = .ok c w' := by
   intro w'
   rw [hek]
   obtain ⟨pk, pv⟩ := p
   cases k <;> cases pk <;> simp only [keyEq, reduceCtorEq] at hc
   rename_i xs ys
   split at hc
   ·simp only [keyIs, keyIs.d1, Bool.and_eq_true] at hk
    show (Op.equalIn (9998 + 1 + 1) kt (.agg _) (.agg _)).run P w' = _
    rw [run_equalIn_array _ _ _ _ hu hi]
    have hcs : P.cellsOf e' = 1 := by simp [Program.cellsOf, hi, his]
    rw [hcs]
    exact runs_items (P := P) (w0 := w) (H := H) rfl hsh _ (agg_rowR hk.2) (agg_rowR (by simpa [D.keyA] using hpk)) _ _ hc w'
   ·cases hc
  cases c
  ·simp only [Bool.false_eq_true, if_false] at h
   obtain ⟨r', hr', hf⟩ := find_arr hu hi his hsh hk kvs es (j + 1) r hkv.tail h
   refine ⟨r', fun w' => ?_, hf.cons ?_⟩
   ·unfold Instr.findAsking
    simp only [Sem.run_bind, heq w', Result.andThen_ok, Bool.false_eq_true, if_false, hr' w']
   ·rw [hek]
    intro hh
    have := hiff.2 hh.symm
    cases this
  ·simp only [if_true, Option.some.injEq] at h
   subst h
   refine ⟨some (j, e.val), fun w' => ?_, e, p, Nat.le_refl _, by simp, by simp, rfl, rfl, ?_, hR⟩
   ·unfold Instr.findAsking
    simp only [Sem.run_bind, heq w', Result.andThen_ok, if_true, Sem.run_pure]
   ·rw [hek]; exact (hiff.1 rfl).symm
theorem run_find {w : World} {H : Heap} {t kt et : TypeId} {kk : KK} {k : D} (hm : mapT P t = some (kt, et, kk)) (hk : keyIs kk k = true) {kvs : List (D × D)} {es : List MapEntry} {r : Option (Nat × D)} (hkv : KvR w H kvs es)
  (h : findD kk k kvs 0 = some r) : ∃ r', (∀ w', (Instr.findKey kt k.toV es).run P w' = .ok r' w') ∧ Found w H kvs es k 0 r r' := by
 rcases (mapT_inv hm).2 with ⟨d, rfl, hd, hp⟩ | ⟨n, e', i, rfl, hu, hi, hs, hsh, d, hd, hp⟩
 ·obtain ⟨r', h1, h2⟩ := find_one hd hp hk kvs es 0 r hkv h
  exact ⟨r', fun w' => MapKept.run_findKey hd h1, h2⟩
 ·obtain ⟨r', h1, h2⟩ := find_arr hu hi hs hsh hk kvs es 0 r hkv h
  refine ⟨r', fun w' => ?_, h2⟩
  unfold Instr.findKey
  simp only [Sem.run_bind, run_underlying hu, Result.andThen_ok]
  cases es with
  | nil =>
   have := h1 w'
   simp [Instr.findAsking] at this
   simp [Instr.findNow, this]
  | cons e es =>
   have : Instr.findNow (.array n e') k.toV (e :: es) 0 = none := by
    unfold Instr.findNow
    cases hkv2 : k.toV <;> cases e.key <;> rfl
   rw [this]
   exact h1 w'
theorem keyIs_A {kk : KK} {k : D} (h : keyIs kk k = true) : k.keyA = true := by
 cases kk <;> cases k <;> simp_all [keyIs, D.keyA, D.key, keyIs.d1]
theorem sameBits_key1 {d : D} (h : d.key = true) (n : Nat) : Instr.sameBits n d.toV1 d.toV1 = true := by
 cases d <;> simp [D.key] at h <;> simp [D.toV1, Instr.sameBits, MapKept.bytes_beq]
theorem run_stays {w : World} {k : D} (h : k.keyA = true) : (Instr.keyThatStays k.toV k.toV).run P w = .ok k.toV w := by
 have : Instr.sameBits 10000 k.toV k.toV = true := by
  cases k
  case agg cs =>
   simp only [D.keyA, List.all_eq_true] at h
   simp only [D.toV, Instr.sameBits, beq_self_eq_true, Bool.true_and, List.all_eq_true]
   rintro ⟨x, y⟩ hxy
   obtain ⟨i, hi⟩ := List.getElem?_of_mem hxy
   rw [List.getElem?_zip_eq_some] at hi
   obtain ⟨h1, h2⟩ := hi
   simp only at h1 h2
   rw [h1] at h2
   cases h2
   rw [List.getElem?_map, Option.map_eq_some_iff] at h1
   obtain ⟨d, hd, rfl⟩ := h1
   exact sameBits_key1 (h d (List.mem_of_getElem? hd)) _
  all_goals first | exact sameBits_key1 (d := .int _ _) h _ | exact sameBits_key1 (d := .str _) h _ | exact sameBits_key1 (d := .bool _) h _ | (exact absurd h (by simp [D.keyA, D.key]))
 simp [Instr.keyThatStays, this]
theorem kvR_of {w : World} {H : Heap} {kvs : List (D × D)} {es : Array MapEntry} (hl : es.size = kvs.length) (h : ∀ (i : Nat) (p : D × D), kvs[i]? = some p → p.1.keyA = true ∧ R w H p.1 (es.getD i default).key ∧ R w H p.2 (es.getD i default).val) : KvR w H kvs es.toList := by
 refine ⟨by simpa using hl, fun i p e hp he => ?_⟩
 obtain ⟨h1, h2, h3⟩ := h i p hp
 have : es.getD i default = e := by
  have he' : es[i]? = some e := by simpa using he
  simp [he']
 rw [this] at h2 h3
 exact ⟨h1, key_toV h1 h2, h3⟩
theorem zero1_R {w : World} {H : Heap} {t : TypeId} {z : D} (h : zero1 P t = some z) : ∃ v, (∀ w', (zeroValue t).run P w' = .ok v w') ∧ R w H z v := by
 unfold zero1 at h
 obtain ⟨v, hv, rfl⟩ := Option.map_eq_some_iff.1 h
 obtain ⟨i, hi, hz⟩ := Option.bind_eq_some_iff.1 hv
 refine ⟨v, fun w' => ?_, ofValue_R w H v⟩
 simp only [zeroValue, Sem.run_bind, runs_typeInfo hi w', Result.andThen_ok, hz]
 rfl
theorem map_obj {w : World} {H : Heap} {b : Nat} {kvs : List (D × D)} (h : ObjOk w H b (.map kvs)) : ∃ es clock, w.heap[b]? = some (.map es clock) ∧ MapKept.Stamped es clock ∧ KvR w H kvs es.toList := by
 obtain ⟨es, ck, h1, h2, h3, h4⟩ := h
 exact ⟨es, ck, h1, h2, kvR_of h3 h4⟩
theorem lookup_sound {w : World} {H : Heap} (hs : Sat H w) {t : TypeId} {m k d : D} {ok : Bool} (h : lookupD P t m k ok H = some d) {vm vk : Value} (hm : R w H m vm) (hk : R w H k vk) :
  ∃ v, (Instr.lookup t vm vk ok).run P w = .ok v w ∧ R w H d v := by
 unfold lookupD at h
 obtain ⟨⟨kt, et, kk⟩, hT, h2⟩ := Option.bind_eq_some_iff.1 h
 clear h
 split at h2
 ·rename_i hki
  obtain ⟨z, hz, h3⟩ := Option.bind_eq_some_iff.1 h2
  clear h2
  obtain ⟨kvs, hkvs, h4⟩ := Option.bind_eq_some_iff.1 h3
  clear h3
  obtain ⟨r, hr, rfl⟩ := Option.map_eq_some_iff.1 h4
  clear h4
  obtain ⟨zv, hzv, hzR⟩ := zero1_R (w := w) (H := H) hz
  have hvk := key_toV (keyIs_A hki) hk
  subst hvk
  simp only at hzv
  have main : ∀ (es : Array MapEntry), KvR w H kvs es.toList → (Instr.lookup t vm k.toV ok).run P w = (do
    Instr.checkKey es.isEmpty 10000 kt k.toV
    let (v, ok') ← match ← Instr.findKey kt k.toV es.toList with
     | some (_, v) => pure (v, true)
     | none => pure (← zeroValue et, false)
    pure (if ok then .tuple #[v, .bool ok'] else v) : Sem Value).run P w → ∃ v, (Instr.lookup t vm k.toV ok).run P w = .ok v w ∧ R w H (foundD ok z r) v := by
   intro es hkv hrun
   obtain ⟨r', hfind, hF⟩ := run_find hT hki hkv hr
   rw [hrun]
   rw [Sem.run_bind, run_check hT hki]
   simp only [Result.andThen_ok]
   rw [Sem.run_bind, hfind w]
   simp only [Result.andThen_ok]
   cases r with
   | none =>
    obtain ⟨rfl, _⟩ := hF
    simp only
    rw [Sem.run_bind, hzv w]
    simp only [Result.andThen_ok, Sem.run_pure]
    refine ⟨_, rfl, ?_⟩
    cases ok
    ·exact hzR
    ·refine .tuple _ _ rfl fun i d hd => ?_
     match i, hd with
     | 0, hd => simp at hd; subst hd; exact hzR
     | 1, hd => simp at hd; subst hd; exact .bool _
     | i + 2, hd => simp at hd
   | some q =>
    obtain ⟨j, d⟩ := q
    obtain ⟨e, p, _, _, _, _, rfl, _, hR⟩ := hF
    simp only [Sem.run_pure, Result.andThen_ok]
    refine ⟨_, rfl, ?_⟩
    cases ok
    ·exact hR
    ·refine .tuple _ _ rfl fun i d' hd => ?_
     match i, hd with
     | 0, hd => simp at hd; subst hd; exact hR
     | 1, hd => simp at hd; subst hd; exact .bool _
     | i + 2, hd => simp at hd
  unfold kvsOf at hkvs
  split at hkvs
  ·cases hkvs
   obtain rfl : vm = .map none := by cases hm; rfl
   refine main #[] ⟨rfl, by simp⟩ ?_
   unfold Instr.lookup
   rw [Sem.run_bind, run_underlying (mapT_inv hT).1]
   rfl
  ·rename_i b
   split at hkvs
   ·rename_i kvs' hb
    cases hkvs
    obtain rfl : vm = .map (some b) := by cases hm; rfl
    obtain ⟨es, clock, h1, h2, h3⟩ := map_obj (hs b _ hb)
    refine main es h3 ?_
    unfold Instr.lookup
    rw [Sem.run_bind, run_underlying (mapT_inv hT).1]
    simp only [Result.andThen_ok]
    rw [Sem.run_bind, MapKept.run_getObj_map h1]
    rfl
   ·cases hkvs
  ·cases hkvs
 ·cases h2
theorem getD_modify {es : Array MapEntry} {i j : Nat} {f : MapEntry → MapEntry} {e : MapEntry} (he : es[i]? = some e) : (es.modify i f).getD j default = if i = j then f e else es.getD j default := by
 simp only [Array.getD_eq_getD_getElem?, Array.getElem?_modify]
 by_cases h : i = j
 ·subst h; simp [he]
 ·simp [h]
theorem Ext.map {H : Heap} {w : World} {b : Nat} {es es' : Array MapEntry} {c c' : Nat} (hb : w.heap[b]? = some (.map es c)) (hn : H.held b = true) : Ext H w { w with heap := w.heap.setIfInBounds b (.map es' c') } := by
 refine ⟨rfl, rfl, rfl, by simp, fun k _ hk => ?_, fun k _ => ?_⟩
 ·have : k ≠ b := fun e => by rw [e, hn] at hk; cases hk
  exact (MapKept.heap_set hb).2 k this
 ·unfold World.shape?
  by_cases hk : k = b
  ·subst hk
   rw [hb]
   have := (MapKept.heap_set (o' := .map es' c') hb).1
   simp only at this ⊢
   rw [this]
  ·rw [show ({ w with heap := w.heap.setIfInBounds b (.map es' c') } : World).heap[k]? = w.heap[k]? from (MapKept.heap_set hb).2 k hk]
theorem mapPut_sound {w : World} {H H' : Heap} (hs : Sat H w) {t : TypeId} {m k x : D} (h : mapPutD P t m k x H = some H') {vm vk vx : Value} (hm : R w H m vm) (hk : R w H k vk) (hx : R w H x vx) :
  ∃ w', (Instr.mapUpdate t vm vk vx).run P w = .ok () w' ∧ Sat H' w' ∧ Ext H w w' ∧ From w H H' := by
 unfold mapPutD at h
 obtain ⟨⟨kt, et, kk⟩, hT, hh⟩ := Option.bind_eq_some_iff.1 h
 clear h
 split at hh
 ·rename_i hki
  split at hh
  ·rename_i b
   split at hh
   ·rename_i kvs hb
    obtain ⟨r, hr, rfl⟩ := Option.map_eq_some_iff.1 hh
    clear hh
    have hvk := key_toV (keyIs_A hki) hk
    subst hvk
    obtain rfl : vm = .map (some b) := by cases hm; rfl
    obtain ⟨es, clock, h1, h2, h3⟩ := map_obj (hs b _ hb)
    obtain ⟨r', hfind, hF⟩ := run_find hT hki h3 hr
    have hheld : H.held b = true := held_of hb
    have hfr : ∀ o, From w H (H.set b o) := fun o => From.set_owned hheld o
    have entry : ∀ (es' : Array MapEntry) (c' : Nat) (kvs' : List (D × D)), MapKept.Stamped es' c' → es'.size = kvs'.length → (∀ (i : Nat) (p : D × D), kvs'[i]? = some p → p.1.keyA = true ∧ R w H p.1 (es'.getD i default).key ∧ R w H p.2 (es'.getD i default).val) →
      Sat (H.set b (.map kvs')) { w with heap := w.heap.setIfInBounds b (.map es' c') } ∧ Ext H w { w with heap := w.heap.setIfInBounds b (.map es' c') } := by
     intro es' c' kvs' k1 k2 k3
     have he := Ext.map (es' := es') (c' := c') h1 hheld
     refine ⟨hs.update he (hfr _) (fun k _ hk => (MapKept.heap_set h1).2 k hk) ⟨es', c', (MapKept.heap_set h1).1, k1, k2, fun i p hp => ?_⟩, he⟩
     obtain ⟨a1, a2, a3⟩ := k3 i p hp
     exact ⟨a1, a2.mono he (hfr _), a3.mono he (hfr _)⟩
    have hkv : ∀ (i : Nat) (p : D × D), kvs[i]? = some p → p.1.keyA = true ∧ R w H p.1 (es.getD i default).key ∧ R w H p.2 (es.getD i default).val := fun i p hp => by
     have hi : i < es.size := by
      have := h3.len
      have := (List.getElem?_eq_some_iff.1 hp).1
      simp at *; omega
     have he : es.toList[i]? = some es[i] := by simp [hi]
     obtain ⟨a1, a2, a3⟩ := h3.key i p _ hp he
     have : es.getD i default = es[i] := by simp [hi]
     rw [this, a2]
     exact ⟨a1, toV_R a1 w H, a3⟩
    unfold Instr.mapUpdate
    cases r with
    | none =>
     obtain ⟨rfl, hnew⟩ := hF
     have := entry (es.push { key := k.toV, val := vx, born := clock }) (clock + 1) (kvs ++ [(k, x)]) (MapKept.stamped_push h2 hnew) (by have := h3.len; simp at *; omega) (fun i p hp => by
      have hlen := h3.len
      simp only [Array.length_toList] at hlen
      rw [List.getElem?_append] at hp
      split at hp
      ·rename_i hi
       have e : (es.push { key := k.toV, val := vx, born := clock }).getD i default = es.getD i default := by
        simp only [Array.getD_eq_getD_getElem?]
        rw [Array.getElem?_push_lt (by omega)]
        simp [show i < es.size by omega]
       rw [e]; exact hkv i p hp
      ·rename_i hi
       have hi' : i = kvs.length := by
        have := (List.getElem?_eq_some_iff.1 hp).1
        simp at this; omega
       subst hi'
       simp at hp
       subst hp
       have e : (es.push { key := k.toV, val := vx, born := clock }).getD kvs.length default = { key := k.toV, val := vx, born := clock } := by
        simp [← hlen]
       rw [e]
       exact ⟨keyIs_A hki, toV_R (keyIs_A hki) w H, hx⟩)
     refine ⟨_, ?_, this.1, this.2, hfr _⟩
     rw [Sem.run_bind, run_underlying (mapT_inv hT).1]
     simp only [Result.andThen_ok]
     rw [Sem.run_bind, MapKept.run_getObj_map h1]
     simp only [Result.andThen_ok]
     rw [Sem.run_bind, run_check hT hki]
     simp only [Result.andThen_ok]
     rw [Sem.run_bind, hfind w]
     simp only [Result.andThen_ok]
     exact MapKept.run_setObj_map _ h1
    | some q =>
     obtain ⟨j, d⟩ := q
     obtain ⟨e, p, _, he, hp, _, rfl, hek, hR⟩ := hF
     simp only [Nat.sub_zero] at he hp
     have he' : es[j]? = some e := by simpa using he
     have := entry (es.modify j fun e => { e with key := k.toV, val := vx }) clock (kvs.set j (k, x)) (MapKept.stamped_modify h2 _ _ (fun _ _ => rfl) (fun e' _ h' => by rw [he'] at h'; cases h'; exact hek.symm)) (by have := h3.len; simp at *; omega) (fun i p' hp' => by
      rw [getD_modify he']
      rw [List.getElem?_set] at hp'
      split at hp'
      ·rename_i hji
       subst hji
       split at hp'
       ·cases hp'
        rw [if_pos rfl]
        exact ⟨keyIs_A hki, toV_R (keyIs_A hki) w H, hx⟩
       ·cases hp'
      ·rename_i hji
       rw [if_neg hji]
       exact hkv i p' hp')
     refine ⟨_, ?_, this.1, this.2, hfr _⟩
     rw [Sem.run_bind, run_underlying (mapT_inv hT).1]
     simp only [Result.andThen_ok]
     rw [Sem.run_bind, MapKept.run_getObj_map h1]
     simp only [Result.andThen_ok]
     rw [Sem.run_bind, run_check hT hki]
     simp only [Result.andThen_ok]
     rw [Sem.run_bind, hfind w]
     simp only [Result.andThen_ok]
     rw [Sem.run_bind]
     have : ((es[j]?).map (·.key)).getD k.toV = k.toV := by rw [he']; simpa using hek
     rw [this, run_stays (keyIs_A hki)]
     simp only [Result.andThen_ok]
     exact MapKept.run_setObj_map _ h1
   ·cases hh
  ·cases hh
 ·cases hh
theorem len_map_run {w : World} {H : Heap} (hs : Sat H w) {m : D} {kvs : List (D × D)} {vm : Value} (hm : R w H m vm) (h : kvsOf H m = some kvs) {ats : Array TypeId} {t kt et : TypeId} (ht : ats[0]? = some t) (hu : P.underlying t = some (.map kt et)) (ty : TypeId) :
  (Builtin.len_ ats ty #[vm]).run P w = .ok (.int .i64 kvs.length) w := by
 unfold kvsOf at h
 unfold Builtin.len_
 rw [ht]
 split at h
 ·cases h
  obtain rfl : vm = .map none := by cases hm; rfl
  show (do let d ← underlying t; _ : Sem Value).run P w = _
  rw [Sem.run_bind, run_underlying hu]
  rfl
 ·rename_i b
  split at h
  ·rename_i kvs' hb
   cases h
   obtain rfl : vm = .map (some b) := by cases hm; rfl
   obtain ⟨es, clock, h1, h2, h3⟩ := map_obj (hs b _ hb)
   have hl := h3.len
   simp only [Array.length_toList] at hl
   show (do let d ← underlying t; _ : Sem Value).run P w = _
   rw [Sem.run_bind, run_underlying hu]
   simp only [Result.andThen_ok]
   show (do let o ← getObj b; _ : Sem Value).run P w = _
   rw [Sem.run_bind, MapKept.run_getObj_map h1]
   simp only [Result.andThen_ok, Sem.run_pure, goInt, hl]
  ·cases h
 ·cases h
end
end Go.Av
end
section
namespace Go.Av
section
variable {P : Program}
theorem getD_append_left {a b : Array Value} {i : Nat} (h : i < a.size) : (a ++ b).getD i Go.undef = a.getD i Go.undef := by
 have h' : i < a.size + b.size := by omega
 simp [h, h']
theorem getD_append_right {a b : Array Value} {i : Nat} : (a ++ b).getD (a.size + i) Go.undef = b.getD i Go.undef := by
 by_cases h : i < b.size
 ·simp [h]
 ·simp [h]
theorem From.del (w : World) (H : Heap) (b : Nat) : From w H (H.del b) := fun k _ hn => by
 by_cases hk : k = b
 ·exact held_none (by unfold Heap.del; rw [if_pos hk])
 ·rw [held_ne (H := H) (by unfold Heap.del; rw [if_neg hk])]; exact hn
theorem Heap.Le.del (H : Heap) (b : Nat) : (H.del b).Le H := fun k o h => by
 unfold Heap.del at h
 split at h
 ·cases h
 ·exact h
theorem Post.before {H : Heap} {w w1 : World} {K : D → Heap → Prop} {v : Value} {w' : World} (he : Ext H w w1) (h : Post H w1 K v w') : Post H w K v w' :=
 let ⟨d, H', h1, h2, h3, h4, h5⟩ := h
 ⟨d, H', h1, h2, he.trans (From.refl _ _) h3, fun i hi hn => h4 i (Nat.lt_of_lt_of_le hi he.size) hn, h5⟩
theorem Post.lessOf {H H1 : Heap} {w : World} {K : D → Heap → Prop} {v : Value} {w' : World} (hl : H1.Le H) (h : Post H1 w K v w') : Post H w K v w' :=
 let ⟨d, H', h1, h2, h3, h4, h5⟩ := h
 ⟨d, H', h1, h2, ⟨h3.os, h3.tape, h3.output, h3.size, fun k hk hn => h3.block k hk (hl.held hn), h3.shape⟩, fun i hi hn => h4 i hi (hl.held hn), h5⟩
theorem Sat.same {H : Heap} {w w' : World} (hs : Sat H w) (h : w'.heap = w.heap) (he : Ext H w w') : Sat H w' := fun b o hb => (hs b o hb).mono he (From.refl _ _) (by rw [h])
theorem append_sound {ev : Operand → D} {ρ : Operand → Value} {H : Heap} {K : D → Heap → Prop} {w : World} {t t' : TypeId} {s x : Operand} (hs : Sat H w) (hev : ∀ x, R w H (ev x) (ρ x)) (h : appendA P ev H K t t' s x) (ty : TypeId) :
  ∃ v w', (Builtin.append_ #[t, t'] ty #[ρ s, ρ x]).run P w = .ok v w' ∧ Post H w K v w' := by
 obtain ⟨e, sz, by_, he, hsz, ht', hz, xs, hxs, hm⟩ := h
 obtain ⟨us, hus, hV, hrun⟩ := elems_R (P := P) hs hsz hxs (hev x)
 obtain ⟨z, hz, hzl⟩ := Option.map_eq_some_iff.1 hz
 obtain ⟨zv, hzr, hzrow⟩ := zero_row (w := w) (H := H) hz
 have hzc : zv.cells.size = sz := by rw [← hzrow.len, hzl]
 have hzs : ∀ n, (Builtin.zeroCells zv.cells n).size = n * sz := fun n => by simp [Builtin.zeroCells, hzc]
 have hx := hev s
 have hE1 : Ext H w { w with drawn := w.drawn + 1 } := Ext.drewN H w 1
 have hS1 : Sat H { w with drawn := w.drawn + 1 } := hs.same rfl hE1
 split at hm
 ·rename_i hes
  rw [hes] at hx
  cases hx' : ρ s with
  | slice a n c =>
   rw [hx'] at hx
   cases hx
   obtain ⟨hby, hmx, hnil, hcons⟩ := hm
   by_cases hxs0 : xs = []
   ·have hrun' := run_append_in (P := P) (n := 0) (cap := 0) (base := none) (ty := ty) he ht' (hrun w rfl).1 (hrun w rfl).2 (by rw [hxs0]; simp)
    refine ⟨_, _, hrun', ?_⟩
    refine ⟨.nilsl, H, ?_, hs, Ext.refl _ _, From.refl _ _, hnil hxs0⟩
    rw [hxs0]
    exact .nilsl
   ·have hpos : 0 < xs.length := List.length_pos_iff.2 hxs0
    obtain ⟨nc, hnc, hrun'⟩ := run_append_new (P := P) (n := 0) (cap := 0) (base := none) (ty := ty) (os := #[]) he ht' (hrun w rfl).1 (fun W hW => (hrun W hW).2) (fun W _ => rfl) hzr (by omega) (by simpa using hby) (by simpa using hmx)
    refine ⟨_, _, hrun', ?_⟩
    simp only [Nat.zero_add] at hnc
    refine Post.before hE1 ?_
    simp only [Nat.zero_add, Array.empty_append]
    refine post_vec hS1 e xs.length nc hsz ?_ hnc ?_ (hcons hxs0)
    ·refine ⟨by rw [Array.size_append, hus]; omega, hV.each, hV.one, fun i e' j d hi hd => ?_⟩
     have hi' := (List.getElem?_eq_some_iff.1 hi).1
     have hj := (List.getElem?_eq_some_iff.1 hd).1
     rw [hV.each i e' hi] at hj
     have hm' : (i + 1) * sz ≤ xs.length * sz := Nat.mul_le_mul_right _ hi'
     rw [Nat.add_mul, Nat.one_mul] at hm'
     rw [getD_append_left (by rw [hus]; omega)]
     exact (hV.rel i e' j d hi hd).mono hE1 (From.refl _ _)
    ·rw [Array.size_append, hus, hzs, ← Nat.add_mul]; congr 1; omega
  | _ => rw [hx'] at hx; cases hx
 ·rename_i b sz' lo n hes
  obtain ⟨rfl, es, hb, hn, hby, hmx, hK⟩ : sz' = sz ∧ ∃ es, H b = some (.vec sz es) ∧ lo + n ≤ es.length ∧ (n + xs.length) * by_ ≤ 140737488355328 ∧ n + xs.length ≤ 9223372036854775807 ∧
    ∀ b' pre, H.del b b' = none → (lo = 0 → pre = []) → K (.vec b' sz pre.length (n + xs.length)) ((H.del b).set b' (.vec sz (pre ++ ((es.drop lo).take n ++ xs)))) := by
   obtain ⟨e, ⟨rfl, es, h1, h2, h3, h4, h5⟩ | ⟨es, h1, h2, h3, h4, h5⟩⟩ := hm
   ·exact ⟨e, es, h1, by omega, h3, h4, fun b' pre hb' hp => by rw [hp rfl]; simpa using h5 b' hb'⟩
   ·exact ⟨e, es, h1, h2, h3, h4, fun b' pre hb' _ => h5 b' pre hb'⟩
  rw [hes] at hx
  have hel : elemsD H sz' (.vec b sz' lo n) = some ((es.drop lo).take n) := by simp [elemsD, hb, hn]
  obtain ⟨os, hos, hVs, hrs⟩ := elems_R (P := P) hs hsz hel hx
  have hlen : ((es.drop lo).take n).length = n := by simp; omega
  have hlt := hs.lt hb
  have hbn : H.held b = true := held_of hb
  obtain ⟨c, T, l0, hi0, hcell, hf, _, hv⟩ := vec_inv (hs b _ hb)
  have new : ∀ (base : Option Addr) (cap : Nat), ρ s = .slice base n cap → ¬ n + xs.length ≤ cap → ∃ v w', (Builtin.append_ #[t, t'] ty #[ρ s, ρ x]).run P w = .ok v w' ∧ Post H w K v w' := by
   intro base cap hρ hle
   rw [hρ] at hrs ⊢
   obtain ⟨nc, hnc, hrun'⟩ := run_append_new (P := P) (n := n) (cap := cap) (base := base) (ty := ty) (os := os) he ht' (hrun w rfl).1 (fun W hW => (hrun W hW).2) (fun W hW => by have := (hrs W hW).2; rwa [hlen] at this) hzr hle hby hmx
   refine ⟨_, _, hrun', ?_⟩
   refine Post.before hE1 (Post.lessOf (Heap.Le.del H b) ?_)
   have hS2 : Sat (H.del b) { w with drawn := w.drawn + 1 } := hS1.less (Heap.Le.del H b)
   rw [hlen] at hos
   refine post_vec hS2 e (n + xs.length) nc hsz ?_ hnc ?_ (fun b' hb' => by simpa using hK b' [] hb' (fun _ => rfl))
   ·have hfin : VecR w H sz' ((es.drop lo).take n ++ xs) (os ++ us ++ Builtin.zeroCells zv.cells (nc - (n + xs.length))) := by
     refine hVs.join hV (fun i hi => ?_) (fun i hi => ?_) ?_
     ·rw [hlen] at hi
      rw [getD_append_left (by rw [Array.size_append, hos]; omega), getD_append_left (by rw [hos]; exact hi)]
     ·rw [hlen]
      rw [getD_append_left (by rw [Array.size_append, hos, hus]; omega)]
      have := getD_append_right (a := os) (b := us) (i := i)
      rwa [hos] at this
     ·rw [hlen, Array.size_append, Array.size_append, hos, hus, Nat.add_mul]; omega
    exact hfin.mono hE1 (From.del _ _ _)
   ·rw [Array.size_append, Array.size_append, hos, hus, hzs, ← Nat.add_mul, ← Nat.add_mul]; congr 1; omega
  generalize hx' : ρ s = v at hx
  cases hx with
  | vec b sz lo n cap T' m hsh hm' hsz0 hncap =>
   have hcs : c.size = (lo + cap) * sz' := by
    unfold World.shape? at hsh
    rw [hcell] at hsh
    simp only [Option.some.injEq, Prod.mk.injEq] at hsh
    rw [hsh.2, hm']
   have htl : (es.take (lo + n)).length = lo + n := by simp; omega
   by_cases hle : n + xs.length ≤ cap
   ·have hrun' := run_append_in (P := P) (n := n) (cap := cap) (base := some ⟨b, lo * sz', none⟩) (ty := ty) he ht' (hrun w rfl).1 (hrun w rfl).2 hle
    have hmul : (lo + (n + xs.length)) * sz' ≤ (lo + cap) * sz' := Nat.mul_le_mul_right _ (by omega)
    have hmul' : (lo + (n + xs.length)) * sz' = (lo + n) * sz' + xs.length * sz' := by rw [← Nat.add_mul]; congr 1; omega
    have hone := hV.oneCell hus hsz
    have hst : (storeCells ((⟨b, lo * sz', none⟩ : Addr).add (n * sz')) us.toList).run P w = .ok () (w.setCells b ((lo + n) * sz') us.toList) := by
     rw [add_off, ← Nat.add_mul]
     have hl : us.toList.length = us.size := by simp
     have := run_storeCells_cells (P := P) b ((lo + n) * sz') us.toList 0 w (fun j hj => by rw [Nat.add_zero, cell_at hcell]; rw [hl] at hj; simp; omega)
      (fun j hj => by rw [Nat.add_zero]; rw [hl] at hj; exact frozen_at hcell (hf _ (by omega))) hone
     rwa [Nat.add_zero] at this
    refine ⟨.slice (some ⟨b, lo * sz', none⟩) (n + xs.length) cap, w.setCells b ((lo + n) * sz') us.toList, ?_, ?_⟩
    ·rw [hrun']
     simp only
     rw [Sem.run_bind, hst]
     rfl
    ·have hext := Ext.setCells (H := H) hcell hbn us.toList ((lo + n) * sz')
     have hdel : (H.del b).set b (.vec sz' (es.take lo ++ ((es.drop lo).take n ++ xs))) = H.set b (.vec sz' (es.take (lo + n) ++ xs)) := by
      rw [← List.append_assoc, ← List.take_add]
      funext k; by_cases hk : k = b <;> simp [Heap.del, Heap.set, hk]
     have hfr := From.set_owned (w := w) hbn (.vec sz' (es.take (lo + n) ++ xs))
     obtain ⟨k1, k2, _⟩ := setCells_spec b T (l0, hi0) us.toList ((lo + n) * sz') w c hcell
     have hl : us.toList.length = us.size := by simp
     have hvec : VecR w H sz' (es.take (lo + n) ++ xs) (putV c ((lo + n) * sz') us.toList) := by
      have g : ∀ i, (putV c ((lo + n) * sz') us.toList).getD i Go.undef = ((putV c ((lo + n) * sz') us.toList)[i]?).getD Go.undef := fun i => by simp
      refine (hv.take (lo + n)).join hV (fun i hi => ?_) (fun i hi => ?_) ?_
      ·rw [htl] at hi
       rw [g, putV_get, if_neg (by omega)]; simp
      ·rw [htl, g, putV_get, if_pos (by rw [hl]; omega), show (lo + n) * sz' + i - (lo + n) * sz' = i by omega]; simp
      ·rw [htl, putV_size, hcs, Nat.add_assoc]; exact hmul
     have hpl : (es.take lo).length = lo := by simp; omega
     have hK' := hK b (es.take lo) (by unfold Heap.del; rw [if_pos rfl]) (fun e => by rw [e]; rfl)
     rw [hpl, hdel] at hK'
     refine ⟨.vec b sz' lo (n + xs.length), H.set b (.vec sz' (es.take (lo + n) ++ xs)), ?_, ?_, hext, hfr, hK'⟩
     ·refine .vec b sz' lo (n + xs.length) cap T' m ?_ hm' hsz hle
      rw [hext.shape b hlt]; exact hsh
     ·exact hs.update hext hfr (fun k _ hk => k2 k hk) (objOk_vec k1 (by rw [putV_size]; exact hf) hsz (hvec.mono hext hfr))
   ·rw [hx'] at new; exact new _ _ rfl hle
  | vec0 b sz lo off =>
   by_cases hxs0 : xs = []
   ·subst hxs0
    have hrun' := run_append_in (P := P) (n := 0) (cap := 0) (base := some ⟨b, off, none⟩) (ty := ty) he ht' (hrun w rfl).1 (hrun w rfl).2 (by simp)
    have hu0 : us.toList = [] := by
     have : us.size = 0 := by simpa using hus
     exact List.length_eq_zero_iff.1 (by simpa using this)
    refine ⟨.slice (some ⟨b, off, none⟩) 0 0, w, ?_, ?_⟩
    ·rw [hrun', hu0]; rfl
    ·have hK' := hK b (es.take lo) (by unfold Heap.del; rw [if_pos rfl]) (fun e => by rw [e]; rfl)
     have hdel : (H.del b).set b (.vec sz' (es.take lo ++ ((es.drop lo).take 0 ++ []))) = H.set b (.vec sz' (es.take lo)) := by
      simp only [List.take_zero, List.append_nil]
      funext k; by_cases hk : k = b <;> simp [Heap.del, Heap.set, hk]
     rw [hdel] at hK'
     have hfr := From.set_owned (w := w) hbn (.vec sz' (es.take lo))
     exact ⟨_, _, .vec0 _ _ _ _, hs.update (Ext.refl _ _) hfr (fun k _ hk => rfl) (objOk_vec hcell hf hsz ((hv.take lo).mono (Ext.refl _ _) hfr)), Ext.refl _ _, hfr, hK'⟩
   ·rw [hx'] at new
    exact new _ _ rfl (by have := List.length_pos_iff.2 hxs0; omega)
 ·exact hm.elim
theorem setE_R {w : World} {H : Heap} {sz : Nat} : ∀ {ps : List (Nat × D)} {qs : List (Nat × Value)} {es out : List (List D)} {c : Array Value}, setE es ps = some out → VecR w H sz es c → c.size = es.length * sz →
  ps.length = qs.length → (∀ (i : Nat) p q, ps[i]? = some p → qs[i]? = some q → p.1 = q.1 ∧ R w H p.2 q.2) → ∃ c', Instr.fill (fun i => some (i * sz, sz)) c qs = some c' ∧ VecR w H sz out c' ∧ c'.size = c.size ∧ out.length = es.length := by
 intro ps
 induction ps with
 | nil =>
  intro qs es out c h hv _ hl _
  cases qs with
  | nil => simp only [setE, Option.some.injEq] at h; subst h; exact ⟨c, rfl, hv, rfl, rfl⟩
  | cons => simp at hl
 | cons p ps ih =>
  intro qs es out c h hv hc hl hrel
  cases qs with
  | nil => simp at hl
  | cons q qs =>
   obtain ⟨i, d⟩ := p
   obtain ⟨j, v⟩ := q
   obtain ⟨hij, hR⟩ := hrel 0 _ _ rfl rfl
   simp only at hij hR
   subst hij
   simp only [setE] at h
   split at h
   ·rename_i hcond
    obtain ⟨hi, hlen, h1⟩ := hcond
    have hge : es[i]? = some (es.getD i []) := by simp [List.getElem?_eq_getElem hi]
    have hel := hv.each i _ hge
    rw [hel] at hlen
    have hrow := RowR.of_cells hR h1
    have hmul : (i + 1) * sz ≤ es.length * sz := Nat.mul_le_mul_right _ hi
    rw [Nat.add_mul, Nat.one_mul] at hmul
    have hvl : v.cells.toList.length = sz := by rw [← hlen, hrow.len]; simp
    have hv' : VecR w H sz (es.set i d.cells) (putV c (i * sz) v.cells.toList) := by
     have both : ∀ (i' : Nat) (e : List D) (j : Nat) x, (es.set i d.cells)[i']? = some e → e[j]? = some x → x.one = true ∧ R w H x ((putV c (i * sz) v.cells.toList).getD (i' * sz + j) Go.undef) := by
      intro i' e j x he hx
      have hg : (putV c (i * sz) v.cells.toList).getD (i' * sz + j) Go.undef = ((putV c (i * sz) v.cells.toList)[i' * sz + j]?).getD Go.undef := by simp
      rw [hg, putV_get, hvl]
      by_cases hii : i = i'
      ·subst hii
       rw [List.getElem?_set_self hi] at he
       cases he
       have hj := (List.getElem?_eq_some_iff.1 hx).1
       rw [if_pos (by omega), show i * sz + j - i * sz = j by omega]
       exact ⟨hrow.one _ _ hx, by simpa using hrow.rel _ _ hx⟩
      ·rw [List.getElem?_set_ne hii] at he
       have hj : j < sz := by
        have h1 := hv.each i' e he
        have h2 := (List.getElem?_eq_some_iff.1 hx).1
        omega
       have hne : ¬ (i * sz ≤ i' * sz + j ∧ i' * sz + j < i * sz + sz ∧ i' * sz + j < c.size) := by
        rcases Nat.lt_or_gt_of_ne hii with hlt | hgt
        ·have := Nat.mul_le_mul_right sz (show i + 1 ≤ i' from hlt)
         rw [Nat.add_mul, Nat.one_mul] at this
         omega
        ·have := Nat.mul_le_mul_right sz (show i' + 1 ≤ i from hgt)
         rw [Nat.add_mul, Nat.one_mul] at this
         omega
       rw [if_neg hne]
       exact ⟨hv.one i' e j x he hx, by simpa using hv.rel i' e j x he hx⟩
     refine ⟨by rw [putV_size, List.length_set]; exact hv.le, fun i' e he => ?_, fun i' e j x a b => (both i' e j x a b).1, fun i' e j x a b => (both i' e j x a b).2⟩
     by_cases hii : i = i'
     ·subst hii
      rw [List.getElem?_set_self hi] at he
      cases he; exact hlen
     ·rw [List.getElem?_set_ne hii] at he
      exact hv.each i' e he
    obtain ⟨c', hc', hvc, hsz', hol⟩ := ih (qs := qs) (c := putV c (i * sz) v.cells.toList) h hv' (by rw [putV_size, List.length_set]; exact hc) (by simpa using hl) (fun k p q hp hq => hrel (k + 1) p q (by simpa using hp) (by simpa using hq))
    refine ⟨c', ?_, hvc, by rw [hsz', putV_size], by rw [hol, List.length_set]⟩
    unfold Instr.fill
    have e1 : v.cells.size = sz := by rw [← hvl]; simp
    simp only [e1]
    rw [if_neg (by simp; omega)]
    have e3 := fold_putV (i * sz) v.cells.toList 0 c
    simp only [Nat.add_zero] at e3
    rw [← Array.foldl_toList, Array.toList_zipIdx, e3]
    exact hc'
   ·cases h
theorem zeros_R {w : World} {H : Heap} {z : List D} {v : Value} (hr : RowR w H z v.cells) (len : Nat) :
  VecR w H z.length (List.replicate len z) ((Array.range (len * z.length)).map (v.cells[· % v.cells.size]!)) := by
 have hm : ∀ (i : Nat) (e : List D) (j : Nat) (d : D), (List.replicate len z)[i]? = some e → e[j]? = some d → z[j]? = some d ∧ ((Array.range (len * z.length)).map (v.cells[· % v.cells.size]!)).getD (i * z.length + j) Go.undef = v.cells.getD j Go.undef := by
  intro i e j d he hd
  rw [List.getElem?_replicate] at he
  split at he
  ·rename_i hi
   cases he
   have hj := (List.getElem?_eq_some_iff.1 hd).1
   have hmul : (i + 1) * z.length ≤ len * z.length := Nat.mul_le_mul_right _ hi
   rw [Nat.add_mul, Nat.one_mul] at hmul
   have hlt : i * z.length + j < len * z.length := by omega
   refine ⟨hd, ?_⟩
   have e2 : (i * z.length + j) % v.cells.size = j := by rw [← hr.len, Nat.mul_comm, Nat.mul_add_mod, Nat.mod_eq_of_lt hj]
   have hj' : j < v.cells.size := by rw [← hr.len]; exact hj
   simp [hlt, e2, hj']
  ·cases he
 refine ⟨by simp, fun i e he => ?_, fun i e j d he hd => hr.one _ _ (hm i e j d he hd).1, fun i e j d he hd => ?_⟩
 ·rw [List.getElem?_replicate] at he
  split at he
  ·cases he; rfl
  ·cases he
 ·obtain ⟨h1, h2⟩ := hm i e j d he hd
  rw [h2]; exact hr.rel _ _ h1
structure BytesWorld (w w' : World) (z : ByteArray) (cap : Nat) : Prop where
 os : w'.os = w.os
 tape : w'.tape = w.tape
 output : w'.output = w.output
 size : w'.heap.size = w.heap.size + 1
 old : ∀ k, k < w.heap.size → w'.heap[k]? = w.heap[k]?
 new : ∃ e, w'.heap[w.heap.size]? = some (.cells ((z.data.map fun b => Value.int .u8 b.toNat) ++ Array.replicate (cap - z.size) (.int .u8 0)) e (cap, cap + 1))
theorem run_toBytes {w : World} {s t e : TypeId} (hb : baseT P s = .str) (hu : P.underlying t = some (.slice e)) (z : ByteArray) (he : P.underlying e = some (.int .u8)) :
    ∃ w' cap, z.size ≤ cap ∧ (convert s t (.string z)).run P w = .ok (.slice (some ⟨w.heap.size, 0, none⟩) z.size cap) w' ∧ BytesWorld w w' z cap := by
  generalize hcap : (Question.appendCap z.size 0 e).cut (w.tape w.drawn (.appendCap z.size 0 e)) = cap
  have hle : z.size ≤ cap := by rw [← hcap]; simp only [Question.cut]; omega
  let c : Array Value := (z.data.map fun b => Value.int .u8 b.toNat) ++ Array.replicate (cap - z.size) (.int .u8 0)
  let w1 : World := ({ w with drawn := w.drawn + 1 } : World).alloc (.cells c e)
  have hc : c.size = cap := by simp [c]; omega
  have hnew : w1.heap[w.heap.size]? = some (.cells c e) := heap_alloc_new { w with drawn := w.drawn + 1 } (.cells c e)
  refine ⟨w1.freeze ⟨w.heap.size, cap, none⟩ 1, cap, hle, ?_, ?_⟩
  · unfold convert
    rw [Sem.run_bind, run_underlying (base_str hb)]
    simp only [Result.andThen_ok]
    rw [Sem.run_bind, run_underlying hu]
    simp only [Result.andThen_ok]
    rw [Sem.run_bind, run_underlying he]
    simp only [Result.andThen_ok]
    unfold Conv.stringToBytes
    rw [Sem.run_bind, run_choose]
    simp only [Question.forced, Bool.false_eq_true, if_false, Result.andThen_ok, hcap]
    have hrow : (newRow e c).run P { w with drawn := w.drawn + 1 } = .ok ⟨w.heap.size, 0, none⟩ w1 := rfl
    show (newRow e c >>= _).run P _ = _
    rw [Sem.run_bind, hrow]
    simp only [Result.andThen_ok]
    have hm : (markStringish ⟨w.heap.size, 0, none⟩).run P w1 = .ok () (w1.freeze ⟨w.heap.size, cap, none⟩ 1) := by
      unfold markStringish
      have : (shape w.heap.size).run P w1 = .ok (some (e, cap)) w1 := by
        show (Result.ok (w1.shape? w.heap.size) w1) = _
        unfold World.shape?
        rw [hnew]
        show (Result.ok (some (e, c.size)) w1 : Result (Option (TypeId × Nat))) = _
        rw [hc]
      rw [Sem.run_bind, this]
      rfl
    rw [Sem.run_bind, hm]
    rfl
  · have hf : (w1.freeze ⟨w.heap.size, cap, none⟩ 1).heap = w1.heap.modify w.heap.size fun
        | .cells c elem (lo, hi) => .cells c elem (if lo == hi then (cap, cap + 1) else (min lo cap, max hi (cap + 1)))
        | o => o := by unfold World.freeze; rw [if_neg (by simp)]; rfl
    refine ⟨?_, ?_, ?_, ?_, fun k hk => ?_, e, ?_⟩
    · unfold World.freeze; rw [if_neg (by simp)]; rfl
    · unfold World.freeze; rw [if_neg (by simp)]; rfl
    · unfold World.freeze; rw [if_neg (by simp)]; rfl
    · rw [hf]; simp [w1]
    · rw [hf, Array.getElem?_modify, if_neg (by omega)]
      exact Go.RowKit.Below.heap_alloc { w with drawn := w.drawn + 1 } _ _ hk
    · rw [hf, Array.getElem?_modify, if_pos rfl, hnew]
      rfl
theorem post_bytes {w w' : World} {H : Heap} {K : D → Heap → Prop} {z : ByteArray} {cap : Nat} (hs : Sat H w) (hcap : z.size ≤ cap) (h : BytesWorld w w' z cap) (hK : ∀ b, H b = none → K (.vec b 1 0 z.size) (H.set b (.vec 1 (bytesE z)))) :
  Post H w K (.slice (some ⟨w.heap.size, 0, none⟩) z.size cap) w' := by
 obtain ⟨e, hn⟩ := h.new
 have he : Ext H w w' := ⟨h.os, h.tape, h.output, by rw [h.size]; omega, fun k hk _ => h.old k hk, fun k hk => by unfold World.shape?; rw [h.old k hk]⟩
 have hf := From.set_new (H := H) (Nat.le_refl w.heap.size) (.vec 1 (bytesE z))
 have hc : ((z.data.map fun (b : UInt8) => Value.int .u8 b.toNat) ++ Array.replicate (cap - z.size) (Value.int .u8 0)).size = cap := by simp; omega
 refine ⟨.vec w.heap.size 1 0 z.size, H.set w.heap.size (.vec 1 (bytesE z)), ?_, ?_, he, hf, hK _ (hs.fresh (Nat.le_refl _))⟩
 ·have := R.vec (w := w') (H := H.set w.heap.size (.vec 1 (bytesE z))) w.heap.size 1 0 z.size cap e cap (by unfold World.shape?; rw [hn]; exact congrArg (fun n => some (e, n)) hc) (by omega) (by omega) hcap
  rwa [Nat.zero_mul] at this
 ·refine hs.update he hf (fun k hk _ => h.old k hk) (objOk_vec hn (by rw [hc]; omega) (by omega) ?_)
  have hl : (bytesE z).length = z.size := by simp [bytesE]
  refine ⟨by rw [hl, hc]; omega, fun i x hx => ?_, fun i x j d hx hd => ?_, fun i x j d hx hd => ?_⟩
  ·simp only [bytesE, List.getElem?_map, Option.map_eq_some_iff] at hx
   obtain ⟨u, _, rfl⟩ := hx; rfl
  ·simp only [bytesE, List.getElem?_map, Option.map_eq_some_iff] at hx
   obtain ⟨u, _, rfl⟩ := hx
   cases j with
   | zero => simp at hd; subst hd; rfl
   | succ j => simp at hd
  ·simp only [bytesE, List.getElem?_map, Option.map_eq_some_iff] at hx
   obtain ⟨u, hu, rfl⟩ := hx
   cases j with
   | zero =>
    simp at hd; subst hd
    have hlt := (List.getElem?_eq_some_iff.1 hu).1
    have hlt' : i < (z.data.map fun b => Value.int .u8 b.toNat).size := by simpa using hlt
    rw [Nat.mul_one, Nat.add_zero, getD_append_left hlt']
    have : (z.data.map fun b => Value.int .u8 b.toNat).getD i Go.undef = .int .u8 u.toNat := by
     have h' : z.data[i]? = some u := by simpa using hu
     simp [h']
    rw [this]; exact .int _ _
   | succ j => simp at hd
theorem push_all : ∀ (l : List UInt8) (r : ByteArray), (l.map fun c => (c.toNat : Int)).foldl (fun (r : ByteArray) n => r.push (UInt8.ofNat n.toNat)) r = ⟨r.data ++ l.toArray⟩
 | [], r => by simp
 | c :: l, r => by
  simp only [List.map_cons, List.foldl_cons, Int.toNat_natCast]
  rw [push_all l]
  have : UInt8.ofNat c.toNat = c := by simp
  rw [this]
  simp [ByteArray.push]
theorem run_toString {w : World} {H : Heap} {s t e : TypeId} {d : D} {v : Value} {z : ByteArray} {us : Array Value} (hb : baseT P t = .str) (hu : P.underlying s = some (.slice e)) (he : P.underlying e = some (.int .u8)) (hz : elemsD H 1 d = some (bytesE z)) (hx : R w H d v)
  (hus : us.size = (bytesE z).length * 1) (hV : VecR w H 1 (bytesE z) us) (hl : (Builtin.lenOf v).run P w = .ok (bytesE z).length w) (hf : (Builtin.firstCells 1 (bytesE z).length v).run P w = .ok us w) (hd : ∀ s, d ≠ .str s) :
  (convert s t v).run P w = .ok (.string z) w := by
 have hzl : (bytesE z).length = z.size := by simp [bytesE]
 have hue : us = ((z.data.toList.map fun c => (c.toNat : Int)).map (Value.int .u8)).toArray := by
  apply Array.ext_getElem?
  intro i
  by_cases hi : i < z.size
  ·have hb : (bytesE z)[i]? = some [D.int .u8 (z.data.toList[i]'(by simpa using hi)).toNat] := by simp [bytesE, hi]
   have := (hV.rel i _ 0 _ hb rfl).int_inv
   rw [Nat.mul_one, Nat.add_zero] at this
   have hi' : i < us.size := by rw [hus, hzl]; omega
   have h2 : us[i]? = some (us.getD i Go.undef) := by simp [hi']
   rw [h2, this]
   simp [hi]
  ·rw [Array.getElem?_eq_none (by rw [hus, hzl]; omega), Array.getElem?_eq_none (by simp; omega)]
 have hemp : z.size = 0 → z = ByteArray.empty := fun h => by
  apply ByteArray.ext
  exact Array.eq_empty_of_size_eq_zero h
 have step : ∀ (a : Option Addr) (n cap : Nat), v = .slice a n cap → (convert s t v).run P w = (Conv.bytesToString v).run P w := by
  rintro a n cap rfl
  unfold convert
  rw [Sem.run_bind, run_underlying hu]
  simp only [Result.andThen_ok]
  rw [Sem.run_bind, run_underlying (base_str hb)]
  simp only [Result.andThen_ok]
  rw [Sem.run_bind, run_underlying he]
  rfl
 have fin : ∀ (a : Option Addr) (n cap : Nat), v = .slice a n cap → (convert s t v).run P w = .ok (.string z) w := by
  rintro a n cap hv
  rw [step a n cap hv, hv]
  rw [hv] at hl hf
  have hn : n = (bytesE z).length := by
   have : (Result.ok n w : Result Nat) = .ok (bytesE z).length w := hl
   cases this; rfl
  cases a with
  | none =>
   have h0 : us = #[] := by
    have : (Result.ok (#[] : Array Value) w) = .ok us w := hf
    cases this; rfl
   have : z.size = 0 := by rw [h0] at hus; simp at hus; omega
   rw [hemp this]
   rfl
  | some a =>
   have hload : (loadCells a n).run P w = .ok ((z.data.toList.map fun c => (c.toNat : Int)).map (Value.int .u8)).toArray w := by
    have : (loadCells a ((bytesE z).length * 1)).run P w = .ok us w := hf
    rw [Nat.mul_one, ← hn] at this
    rw [this, hue]
   rw [run_bytesToString w a n cap _ hload, push_all]
   simp
 cases hx <;> simp only [elemsD] at hz <;> try (cases hz; done)
 case str => exact absurd rfl (hd _)
 all_goals exact fin _ _ _ rfl
theorem next_sound {w : World} {H : Heap} {b : Nat} {s : ByteArray} {pos : Nat} {K : D → Heap → Prop} (hs : Sat H w) (hb : H b = some (.iter s pos)) (ty : TypeId)
  (h : (pos < s.size → K (.tuple [.bool true, .int .i64 pos, .int .i32 (Utf8.decode s pos).1]) (H.set b (.iter s (pos + (Utf8.decode s pos).2)))) ∧ (¬ pos < s.size → K (.tuple [.bool false]) H)) :
  ∃ v w', (Instr.next (.pointer (some ⟨b, 0, none⟩)) true ty).run P w = .ok v w' ∧ Post H w K v w' := by
 have hw : w.heap[b]? = some (.stringIter s pos) := hs b _ hb
 have hlt := hs.lt hb
 by_cases hp : pos < s.size
 ·refine ⟨.tuple #[.bool true, .int .i64 pos, .int .i32 (Utf8.decode s pos).1], { w with heap := w.heap.setIfInBounds b (.stringIter s (pos + (Utf8.decode s pos).2)) }, ?_, ?_⟩
  ·simp only [Instr.next, getObj, setObj, Sem.run_bind, Sem.run, hw, Result.andThen, hp, if_true]
   simp [goInt]
  ·have he : Ext H w { w with heap := w.heap.setIfInBounds b (.stringIter s (pos + (Utf8.decode s pos).2)) } := by
    refine ⟨rfl, rfl, rfl, by simp, fun k hk hn => ?_, fun k hk => ?_⟩
    ·have hne : b ≠ k := fun e => by rw [e] at hb; rw [held_of hb] at hn; cases hn
     simp [Array.getElem?_setIfInBounds_ne hne]
    ·by_cases hne : b = k
     ·subst hne
      unfold World.shape?
      rw [hw]
      simp [hlt]
     ·unfold World.shape?
      simp [Array.getElem?_setIfInBounds_ne hne]
   have hf : From w H (H.set b (.iter s (pos + (Utf8.decode s pos).2))) := From.set_owned (held_of hb) _
   refine ⟨_, _, .tuple _ _ (by simp) (fun i d hd => ?_), hs.update he hf (fun k hk hne => by simp [Array.getElem?_setIfInBounds_ne (Ne.symm hne)]) (by show _ = _; simp [hlt]), he, hf, h.1 hp⟩
   match i, hd with
   | 0, hd => simp at hd; subst hd; exact .bool _
   | 1, hd => simp at hd; subst hd; exact .int _ _
   | 2, hd => simp at hd; subst hd; exact .int _ _
   | i + 3, hd => simp at hd
 ·refine ⟨.tuple #[.bool false], w, ?_, _, _, .tuple _ _ (by simp) (fun i d hd => ?_), hs, Ext.refl _ _, From.refl _ _, h.2 hp⟩
  ·simp [Instr.next, getObj, Sem.run, hw, hp]
  ·match i, hd with
   | 0, hd => simp at hd; subst hd; exact .bool _
   | i + 1, hd => simp at hd
theorem wpOp_sound {o : Oper} {a : Act} {w : World} {ev : Operand → D} {H : Heap} {K : D → Heap → Prop} (hs : Sat H w) (hev : ∀ x, R w H (ev x) (a.eval x)) (h : wpOp P ev H K o.op) : opSem P none o a w (Post H w K) := by
 have pureCase : cls P o.op = .pure → (∃ d, pureD P ev o.op = some d ∧ K d H) → opSem P none o a w (Post H w K) := fun hc ⟨d, hd, hk⟩ => by
  obtain ⟨v, hv, hR⟩ := pureD_sound (P := P) hev hd
  unfold opSem
  rw [hc]
  exact ⟨v, hv, d, H, hR, hs, Ext.refl _ _, From.refl _ _, hk⟩
 have effCase : cls P o.op = .eff → ∀ {v : Value} {w' : World}, (execOp a.eval o).run P w = .ok (.value v) w' → Post H w K v w' → opSem P none o a w (Post H w K) := fun hc v w' hr hp => by
  unfold opSem
  rw [hc]
  show effPost P _ _
  rw [hr]
  exact ⟨trivial, hp⟩
 obtain ⟨dst, op, type, pos, after, guard⟩ := o
 simp only at h pureCase effCase ⊢
 cases op
 case load t x =>
  obtain ⟨d, hd, hk⟩ := h
  obtain ⟨u, hu, hR⟩ := load_sound (P := P) hs hd (hev x)
  unfold opSem
  refine ⟨u, ?_, d, H, hR, hs, Ext.refl _ _, From.refl _ _, hk⟩
  intro w' hw'
  have hw' : w' = w := hw'
  subst hw'
  simp only [execOp]
  rw [Sem.run_bind, hu]; rfl
 case store t x y =>
  obtain ⟨H', hst, hk⟩ := h
  obtain ⟨w', hr, hs', he, hf⟩ := store_sound (P := P) hs hst (hev x) (hev y)
  unfold opSem
  show effPost P _ _
  have : (execOp a.eval { dst, op := .store t x y, type, pos, after, guard }).run P w = .ok .skip w' := by
   simp only [execOp]
   rw [Sem.run_bind, hr]; rfl
  rw [this]
  exact ⟨trivial, .undef, H', .undef _, hs', he, hf, hk⟩
 case alloc t =>
  obtain ⟨z, hz, hk⟩ := h
  obtain ⟨v, hv, hrow⟩ := zero_row (w := w) (H := H) hz
  refine effCase rfl (v := .pointer (some ⟨w.heap.size, 0, none⟩)) (w' := w.alloc (.cells v.cells t)) ?_ (post_box hs t (fun u hu => bldT_inv hu) hrow hk)
  simp only [execOp, Instr.alloc]
  rw [Sem.run_bind, Sem.run_bind, hv w]
  rfl
 case box t x =>
  obtain ⟨h1, hk⟩ := h
  refine effCase rfl (v := .pointer (some ⟨w.heap.size, 0, none⟩)) (w' := w.alloc (.cells (a.eval x).cells t)) rfl (post_box hs t (fun _ h => by cases h) (RowR.of_cells (hev x) h1) hk)
 case buildSlice t len parts =>
  obtain ⟨e, sz, by_, z, es, he, hsz, hle, hz, hzl, hset, hk⟩ := h
  obtain ⟨hu, i, hi, his, _⟩ := elem_inv he
  simp only at hu hi his
  obtain ⟨v, hv, hrow⟩ := zero_row (w := w) (H := H) hz
  subst hzl
  have hzr := zeros_R hrow len
  obtain ⟨c', hc', hvc, hcs, hel⟩ := setE_R (qs := parts.toList.map fun p => (p.1, a.eval p.2)) hset hzr (by simp) (by simp) (fun i p q hp hq => by
   simp only [List.getElem?_map, Option.map_eq_some_iff] at hp hq
   obtain ⟨a, ha, rfl⟩ := hp
   obtain ⟨b, hb', rfl⟩ := hq
   rw [ha] at hb'; cases hb'
   exact ⟨rfl, hev _⟩)
  refine effCase rfl (v := .slice (some ⟨w.heap.size, 0, none⟩) len len) (w' := w.alloc (.cells c' e)) ?_ (post_vec hs e len len hsz hvc (Nat.le_refl _) (by rw [hcs]; simp) hk)
  simp only [execOp, Instr.buildSlice]
  rw [Sem.run_bind, Sem.run_bind, run_underlying hu]
  simp only [Result.andThen_ok]
  rw [Sem.run_bind, runs_sizeOf hi w]
  simp only [Result.andThen_ok, his]
  rw [if_neg (by omega)]
  have e2 : (parts.map fun (i, x) => (i, a.eval x)).toList = parts.toList.map fun p => (p.1, a.eval p.2) := by simp
  by_cases h0 : len * z.length = 0
  ·have hl0 : len = 0 := by rcases Nat.mul_eq_zero.1 h0 with h' | h' <;> omega
   rw [if_pos h0]
   rw [Sem.run_bind]
   simp only [Sem.run_pure, Result.andThen_ok]
   have e3 : (Array.range (len * z.length)).map ((#[] : Array Value)[· % (#[] : Array Value).size]!) = (Array.range (len * z.length)).map (v.cells[· % v.cells.size]!) := by rw [h0]; simp
   rw [e3, e2, hc']
   rfl
  ·rw [if_neg h0]
   rw [Sem.run_bind, hv w]
   simp only [Result.andThen_ok]
   rw [Sem.run_bind]
   simp only [Sem.run_pure, Result.andThen_ok]
   rw [e2, hc']
   rfl
 case makeSlice t l c =>
  obtain ⟨e, sz, by_, z, k, n, k', m, he, hsz, hz, hzl, hl, hc, hn0, hnm, hby, hmx, hk⟩ := h
  obtain ⟨hu, i, hi, his, hib⟩ := elem_inv he
  simp only at hu hi his hib
  obtain ⟨v, hv, hrow⟩ := zero_row (w := w) (H := H) hz
  subst hzl
  have hel := hev l
  have hec := hev c
  rw [hl] at hel; rw [hc] at hec
  have hel := hel.int_inv
  have hec := hec.int_inv
  have hzr := zeros_R hrow m.toNat
  have hvec : VecR w H z.length (List.replicate n.toNat z) ((Array.range (m.toNat * z.length)).map (v.cells[· % v.cells.size]!)) := by
   have := hzr.take n.toNat
   rwa [List.take_replicate, Nat.min_eq_left (by omega)] at this
  refine effCase rfl (v := .slice (some ⟨w.heap.size, 0, none⟩) n.toNat m.toNat) (w' := w.alloc (.cells ((Array.range (m.toNat * z.length)).map (v.cells[· % v.cells.size]!)) e)) ?_ (post_vec hs e n.toNat m.toNat hsz hvec (by omega) (by simp) hk)
  have w1 : IntKind.i64.wrap n = n := IntWalk.i64_in _ (by omega)
  have w2 : IntKind.i64.wrap m = m := IntWalk.i64_in _ (by omega)
  simp only [execOp, Instr.makeSlice, hel, hec]
  rw [Sem.run_bind, Sem.run_bind, run_underlying hu]
  simp only [Result.andThen_ok]
  rw [Sem.run_bind]
  have ai : ∀ (k : IntKind) (n : Int) (w : World), (asInt (.int k n)).run P w = .ok n w := fun _ _ _ => rfl
  rw [ai]
  simp only [Result.andThen_ok]
  rw [Sem.run_bind, ai]
  simp only [Result.andThen_ok]
  rw [Sem.run_bind, runs_typeInfo hi w]
  simp only [Result.andThen_ok, w1, w2, hib]
  have c1 : ¬ ((decide (m < 0) || decide ((by_ : Int) * m > 2 ^ 48) || decide (n < 0) || decide (n > m)) = true) := by
   simp only [Bool.or_eq_true, decide_eq_true_eq, not_or]
   refine ⟨⟨⟨by omega, by omega⟩, by omega⟩, by omega⟩
  rw [if_neg c1]
  have hask : ∀ (k : Nat) (W : World), (askRoom k).run P W = .ok () W := fun k W => by unfold askRoom; split <;> rfl
  rw [Sem.run_bind, hask]
  simp only [Result.andThen_ok]
  rw [Sem.run_bind, runs_sizeOf hi w]
  simp only [Result.andThen_ok, his]
  by_cases h0 : m.toNat * z.length = 0
  ·rw [if_pos h0]
   rw [Sem.run_bind]
   simp only [Sem.run_pure, Result.andThen_ok]
   have e3 : (Array.range (m.toNat * z.length)).map ((#[] : Array Value)[· % (#[] : Array Value).size]!) = (Array.range (m.toNat * z.length)).map (v.cells[· % v.cells.size]!) := by rw [h0]; simp
   rw [e3]
   rfl
  ·rw [if_neg h0]
   rw [Sem.run_bind, hv w]
   simp only [Result.andThen_ok]
   rw [Sem.run_bind]
   simp only [Sem.run_pure, Result.andThen_ok]
   rfl
 case convert s t x =>
  simp only [wpOp] at h
  split at h
  ·rename_i hc; exact pureCase hc h
  ·rename_i hc
   have hc' : cls P (.convert s t x) = .eff := by
    have : cls P (.convert s t x) = .pure ∨ cls P (.convert s t x) = .eff := by
     simp only [cls]; split <;> simp
    exact this.resolve_left hc
   have hx := hev x
   unfold convA at h
   split at h
   ·rename_i z hz
    obtain ⟨hb, hm, hk⟩ := h
    rw [hz] at hx
    have hx := hx.str_inv
    split at hm
    ·rename_i e hu
     obtain ⟨w', cap, hcap, hrun, hw'⟩ := run_toBytes (P := P) (w := w) (s := s) hb hu z hm
     have hrun2 : (execOp a.eval { dst, op := .convert s t x, type, pos, after, guard }).run P w = .ok (.value (.slice (some ⟨w.heap.size, 0, none⟩) z.size cap)) w' := by
      simp only [execOp]
      rw [hx, Sem.run_bind, hrun]; rfl
     exact effCase hc' hrun2 (post_bytes hs hcap hw' hk)
    ·exact hm.elim
   ·rename_i hns
    obtain ⟨hb, hm, z, hz, hk⟩ := h
    split at hm
    ·rename_i e hu
     obtain ⟨us, hus, hV, hrun⟩ := elems_R (P := P) hs (Nat.zero_lt_one) hz hx
     refine effCase hc' (v := .string z) (w' := w) ?_ ⟨.str z, H, .str _, hs, Ext.refl _ _, From.refl _ _, hk⟩
     simp only [execOp]
     rw [Sem.run_bind, run_toString (P := P) hb hu hm hz hx hus hV (hrun w rfl).1 (hrun w rfl).2 hns]; rfl
    ·exact hm.elim
 case call c =>
  obtain ⟨callee, args, ats⟩ := c
  cases callee with
  | value f =>
   simp only [wpOp] at h
   split at h
   ·rename_i g first captured hf
    have hfv := hev f
    rw [hf] at hfv
    generalize hv : a.eval f = fv at hfv
    cases hfv with
    | fn _ _ _ vs us hl hm hr hq =>
     obtain ⟨hb, hc⟩ := h
     unfold opSem
     show effPost P _ _
     have hrun : (execOp a.eval { dst, op := .call { callee := .value f, args, argTypes := ats }, type, pos, after, guard }).run P w = .ok (.enter g (vs ++ args.map a.eval ++ us)) w := by
      unfold bodied at hb
      split at hb
      ·rename_i fn hfn
       simp only [Bool.and_eq_true, bne_iff_ne, ne_eq] at hb
       have h1 : (fn.name == "runtime.NumGoroutine") = false := by simpa using hb.2
       have h2 : fn.body.isNone = false := by
        cases hbody : fn.body with
        | none => rw [hbody] at hb; simp at hb
        | some _ => rfl
       simp only [execOp, resolve, hv, Deferred.ofValue]
       rw [Sem.run_bind]
       simp only [Sem.run_pure, Result.andThen_ok, invoke, callFunc]
       rw [Sem.run_bind]
       have : (program).run P w = .ok P w := rfl
       rw [this]
       simp only [Result.andThen_ok, hfn, h1, h2, Bool.false_eq_true, if_false]
       rfl
      ·cases hb
     rw [hrun]
     refine (hc w (vs ++ args.map a.eval ++ us) (by simp [hl, hm]) (fun i d hd => ?_) hs).mono fun e w' ⟨v, he, hp⟩ => ⟨v, he, trivial, hp⟩
     have hsz : (args.map a.eval).size = args.size := by simp
     by_cases h1 : i < first.length
     ·rw [List.append_assoc, List.getElem?_append_left h1] at hd
      have : (vs ++ args.map a.eval ++ us).getD i Go.undef = vs.getD i Go.undef := by
       rw [Array.append_assoc, getD_append_left (by omega)]
      rw [this]; exact hr i d hd
     ·rw [List.append_assoc, List.getElem?_append_right (by omega)] at hd
      obtain ⟨k, rfl⟩ : ∃ k, i = vs.size + k := ⟨i - first.length, by omega⟩
      rw [show vs.size + k - first.length = k by omega] at hd
      rw [Array.append_assoc, getD_append_right]
      by_cases h2 : k < args.size
      ·rw [List.getElem?_append_left (by simpa using h2)] at hd
       rw [getD_append_left (by simpa using h2)]
       simp only [List.getElem?_map, Option.map_eq_some_iff] at hd
       obtain ⟨x, hx, rfl⟩ := hd
       have : (args.map a.eval).getD k Go.undef = a.eval x := by
        have h' : args[k]? = some x := by simpa using hx
        simp [h']
       rw [this]; exact hev x
      ·rw [List.getElem?_append_right (by simpa using h2)] at hd
       obtain ⟨j, rfl⟩ : ∃ j, k = (args.map a.eval).size + j := ⟨k - args.size, by simp; omega⟩
       rw [getD_append_right]
       have : (args.map a.eval).size + j - (args.toList.map ev).length = j := by simp
       rw [this] at hd
       exact hq j d hd
   ·exact h.elim
  | invoke r m => simp only [wpOp, cls] at h
  | builtin b =>
   cases b
   case append =>
    simp only [wpOp] at h
    split at h
    ·rename_i t t' s x hats hargs
     obtain ⟨v, w', hr, hp⟩ := append_sound (P := P) hs hev h type
     refine effCase rfl (v := v) (w' := w') ?_ hp
     have e1 : ats = #[t, t'] := by rw [← Array.toArray_toList (xs := ats), hats]
     have e2 : args = #[s, x] := by rw [← Array.toArray_toList (xs := args), hargs]
     subst e1; subst e2
     simp only [execOp, resolve]
     rw [Sem.run_bind]
     simp only [Sem.run_pure, Result.andThen_ok, invoke, builtin]
     rw [Sem.run_bind]
     have : (#[s, x].map a.eval) = #[a.eval s, a.eval x] := by simp
     rw [this, hr]
     rfl
    ·exact h.elim
   case len =>
    simp only [wpOp] at h
    split at h
    ·rename_i hc; exact pureCase hc h
    ·rename_i hc
     have hc' : cls P (.call ⟨.builtin .len, args, ats⟩) = .eff := by
      have : cls P (.call ⟨.builtin .len, args, ats⟩) = .pure ∨ cls P (.call ⟨.builtin .len, args, ats⟩) = .eff := by
       simp only [cls]; split <;> simp
      exact this.resolve_left hc
     split at h
     ·rename_i x hargs
      obtain ⟨kvs, hkvs, hk⟩ := h
      have e2 : args = #[x] := by rw [← Array.toArray_toList (xs := args), hargs]
      subst e2
      have hl : ∃ t k e, ats[0]? = some t ∧ P.underlying t = some (.map k e) := by
       unfold cls at hc'
       simp only at hc'
       split at hc'
       ·rename_i k e hb
        obtain ⟨t, ht, hu⟩ := Option.bind_eq_some_iff.1 hb
        exact ⟨t, k, e, ht, hu⟩
       ·cases hc'
      obtain ⟨t, kt, et, ht, hu⟩ := hl
      have hrun := len_map_run (P := P) hs (hev x) hkvs ht hu type
      refine effCase hc' (v := .int .i64 kvs.length) (w' := w) ?_ ⟨_, H, .int _ _, hs, Ext.refl _ _, From.refl _ _, hk⟩
      simp only [execOp, resolve]
      rw [Sem.run_bind]
      simp only [Sem.run_pure, Result.andThen_ok, invoke, builtin]
      rw [Sem.run_bind]
      have : (#[x].map a.eval) = #[a.eval x] := by simp
      rw [this, hrun]
      rfl
     ·exact h.elim
   all_goals first
    | exact pureCase rfl h
    | (simp only [wpOp, cls] at h; done)
 case makeMap t r =>
  cases r with
  | some r => exact h.elim
  | none =>
   have he := Ext.alloc H w (.map #[] 0)
   have hf := From.set_new (H := H) (Nat.le_refl w.heap.size) (.map [])
   refine effCase rfl (v := .map (some w.heap.size)) (w' := w.alloc (.map #[] 0)) rfl ⟨_, _, .map _, ?_, he, hf, h _ (hs.fresh (Nat.le_refl _))⟩
   exact hs.update he hf (fun k hk _ => Go.RowKit.Below.heap_alloc _ _ _ hk) ⟨#[], 0, heap_alloc_new w _, MapKept.stamped_empty 0, rfl, fun i p hp => by simp at hp⟩
 case lookup t m k ok =>
  obtain ⟨d, hd, hk⟩ := h
  obtain ⟨v, hv, hR⟩ := lookup_sound (P := P) hs hd (hev m) (hev k)
  refine effCase rfl (v := v) (w' := w) ?_ ⟨d, H, hR, hs, Ext.refl _ _, From.refl _ _, hk⟩
  simp only [execOp]
  rw [Sem.run_bind, hv]
  rfl
 case mapUpdate t m k x =>
  obtain ⟨H', hH', hk⟩ := h
  obtain ⟨w', hr, h1, h2, h3⟩ := mapPut_sound (P := P) hs hH' (hev m) (hev k) (hev x)
  unfold opSem
  show effPost P _ _
  have : (execOp a.eval { dst, op := .mapUpdate t m k x, type, pos, after, guard }).run P w = .ok .skip w' := by
   simp only [execOp]
   rw [Sem.run_bind, hr]
   rfl
  rw [this]
  exact ⟨trivial, _, _, .undef _, h1, h2, h3, hk⟩
 case range t x =>
  simp only [wpOp] at h
  split at h
  ·rename_i s hx
   obtain ⟨hu, hk⟩ := h
   have hv := hev x
   rw [hx] at hv
   have hv := hv.str_inv
   have hn : H w.heap.size = none := hs.fresh (Nat.le_refl _)
   have he : Ext H w (w.iter s 0) := Ext.alloc H w _
   have hf : From w H (H.set w.heap.size (.iter s 0)) := From.set_new (Nat.le_refl _) _
   refine effCase rfl (v := .pointer (some ⟨w.heap.size, 0, none⟩)) (w' := w.iter s 0) ?_ ⟨_, _, .box _ _, hs.update he hf (fun k hk _ => Go.RowKit.Below.heap_alloc _ _ _ hk) (World.iter_heap w s 0), he, hf, hk _ hn⟩
   simp only [execOp]
   rw [Sem.run_bind, hv, run_range_string w t s hu]
   rfl
  ·exact h.elim
 case next x isString =>
  simp only [wpOp] at h
  split at h
  ·rename_i b hx
   split at h
   ·rename_i s pos hb
    have hv := hev x
    rw [hx] at hv
    have hv := hv.box_inv
    obtain ⟨v, w', hr, hp⟩ := next_sound (P := P) hs hb type h
    refine effCase rfl (v := v) (w' := w') ?_ hp
    simp only [execOp]
    rw [Sem.run_bind, hv, hr]
    rfl
   ·exact h.elim
  ·exact h.elim
 all_goals first
  | exact pureCase rfl h
  | exact h.elim
theorem minus_le (H : Heap) (l : List Nat) : (H.minus l).Le H := fun k o h => by
 unfold Heap.minus at h
 split at h
 ·cases h
 ·exact h
theorem noEnter_bind {α : Type} (s : Sem α) (g : α → Next) (hg : ∀ x f args, g x ≠ .enter f args) (w : World) (f : FuncId) (args : Array Value) (w' : World) : (do let x ← s; pure (g x) : Sem Next).run P w ≠ .ok (.enter f args) w' := by
 rw [Sem.run_bind]
 cases s.run P w with
 | ok x w1 => intro h; simp only [Result.andThen_ok, Sem.run_pure, Result.ok.injEq] at h; exact hg _ _ _ h.1
 | halt x w1 => intro h; cases h
theorem frame_eff {o : Oper} {a : Act} {w : World} {ev : Operand → D} {H : Heap} {K : D → Heap → Prop} {sx : Bool} {l : List Nat} (hl : ∀ k ∈ l, k < w.heap.size) (hs : Sat H w) (hev : ∀ x, R w H (ev x) (a.eval x)) (hc : cls P o.op = .eff)
  (hne : ∀ f args w', (execOp a.eval o).run P w ≠ .ok (.enter f args) w') (hx : (sx = false ∧ isStore o.op = true) ∨ wpOp P ev (H.minus l) (fun _ _ => True) o.op) (h : wpOp P ev H K o.op) : opSem P (some (sx, l)) o a w (Post H w K) := by
 have h1 := wpOp_sound (o := o) hs hev h
 unfold opSem at h1 ⊢
 rw [hc] at h1 ⊢
 simp only at h1 ⊢
 have hfr : ∀ v w', ((execOp a.eval o).run P w = .ok (.value v) w' ∨ (execOp a.eval o).run P w = .ok .skip w') → Frame (some (sx, l)) o.op w w' := by
  intro v w' hr
  rcases hx with hx | hx
  ·exact .inl hx
  ·have h2 := wpOp_sound (o := o) (hs.less (minus_le H l)) (fun x => (hev x).less (minus_le H l)) hx
   unfold opSem at h2
   rw [hc] at h2
   simp only at h2
   have he : Ext (H.minus l) w w' := by
    unfold effPost at h2
    rcases hr with hr | hr
    ·rw [hr] at h2; obtain ⟨_, _, _, _, _, he, _⟩ := h2; exact he
    ·rw [hr] at h2; obtain ⟨_, _, _, _, _, he, _⟩ := h2; exact he
   exact .inr fun k hk => he.block k (hl k hk) (held_none (by simp [Heap.minus, hk]))
 unfold effPost at h1 ⊢
 split at h1 <;> try exact h1.elim
 ·rename_i hr; exact ⟨hfr _ _ (.inl hr), h1.2⟩
 ·rename_i hr; exact ⟨hfr undef _ (.inr hr), h1.2⟩
 ·rename_i hr; exact absurd hr (hne _ _ _)
theorem wpOpR_sound {o : Oper} {a : Act} {w : World} {ev : Operand → D} {H : Heap} {K : D → Heap → Prop} {sx : Bool} {l : List Nat} (hl : ∀ k ∈ l, k < w.heap.size) (hs : Sat H w) (hev : ∀ x, R w H (ev x) (a.eval x)) (h : wpOpR P sx l ev H K o.op) :
  opSem P (some (sx, l)) o a w (Post H w K) := by
 have pureCase : cls P o.op = .pure → wpOp P ev H K o.op → opSem P (some (sx, l)) o a w (Post H w K) := fun hc h => by
  have h1 := wpOp_sound (o := o) hs hev h
  unfold opSem at h1 ⊢
  rw [hc] at h1 ⊢
  exact h1
 obtain ⟨dst, op, type, pos, after, guard⟩ := o
 simp only at h pureCase ⊢
 unfold wpOpR at h
 split at h
 ·rename_i t x
  obtain ⟨hb, d, hd, hk⟩ := h
  obtain ⟨u, hu, hR⟩ := load_stable (P := P) hs hd (hev x)
  unfold opSem
  refine ⟨u, fun w' hw' => ?_, d, H, hR, hs, Ext.refl _ _, From.refl _ _, hk⟩
  simp only [execOp]
  rw [Sem.run_bind, hu w' fun b o hv => ?_]; rfl
  split at hb
  ·rename_i b' off he
   have hr := hev x
   rw [he] at hr
   have hr := hr.box_inv
   rw [hr] at hv
   cases hv
   exact hw' _ hb
  ·rename_i b' sz i off he
   have hr := hev x
   rw [he] at hr
   have hr := hr.el_inv
   rw [hr] at hv
   cases hv
   exact hw' _ hb
  ·exact hb.elim
 ·exact frame_eff hl hs hev rfl (fun f args w' => noEnter_bind _ (fun _ => Next.skip) (by simp) w f args w') (by
   cases sx
   ·exact .inl ⟨rfl, rfl⟩
   ·exact .inr (h.1 rfl)) h.2
 ·exact frame_eff hl hs hev rfl (fun f args w' => noEnter_bind _ Next.value (by simp) w f args w') (.inr h.1) h.2
 ·exact frame_eff hl hs hev rfl (fun f args w' => noEnter_bind _ Next.value (by simp) w f args w') (.inr h.1) h.2
 ·exact frame_eff hl hs hev rfl (fun f args w' => noEnter_bind _ Next.value (by simp) w f args w') (.inr h.1) h.2
 ·refine frame_eff hl hs hev rfl (fun f args w' => ?_) (.inr h.1) h.2
  simp only [execOp, resolve]
  rw [Sem.run_bind]
  simp only [Sem.run_pure, Result.andThen_ok, invoke]
  exact noEnter_bind _ Next.value (by simp) w f args w'
 ·exact pureCase h.1 h.2
theorem sub_le (H Hc : Heap) : (H.sub Hc).Le H := fun k o h => by
 unfold Heap.sub at h
 split at h
 ·cases h
 ·exact h
theorem post_sub {H Hc : Heap} {w w' : World} {K : D → Heap → Prop} {v : Value} (hs : Sat H w) (hle : Hc.Le H) (h : Post Hc w (fun d _ => flatD d = true ∧ K d (H.sub Hc)) v w') : Post H w K v w' := by
 obtain ⟨d, H1, hr, hs1, he, hf, hfl, hk⟩ := h
 have heH : Ext H w w' := ⟨he.os, he.tape, he.output, he.size, fun k hk hn => he.block k hk (hle.held hn), he.shape⟩
 have hfH : From w H (H.sub Hc) := fun k hk hn => (sub_le H Hc).held hn
 refine ⟨d, H.sub Hc, ?_, fun b o hb => ?_, heH, hfH, hk⟩
 ·cases hr <;> first | (cases hfl; done) | constructor
 ·have hc : Hc.held b = false := by
   unfold Heap.sub at hb
   split at hb
   ·cases hb
   ·rename_i h; simpa using h
  have hb' := sub_le H Hc b o hb
  exact (hs b o hb').mono heH hfH (he.block b (hs.lt hb') hc)
theorem wpOpF_sound {o : Oper} {a : Act} {w : World} {ev : Operand → D} {H : Heap} {K : D → Heap → Prop} {l : List Nat} (hl : ∀ k ∈ l, k < w.heap.size) (hs : Sat H w) (hev : ∀ x, R w H (ev x) (a.eval x)) (h : wpOpF P l ev H K o.op) :
  opSem P (some (true, l)) o a w (Post H w K) := by
 have pureCase : cls P o.op = .pure → wpOp P ev H K o.op → opSem P (some (true, l)) o a w (Post H w K) := fun hc h => by
  have h1 := wpOp_sound (o := o) hs hev h
  unfold opSem at h1 ⊢
  rw [hc] at h1 ⊢
  exact h1
 obtain ⟨dst, op, type, pos, after, guard⟩ := o
 simp only at h pureCase ⊢
 unfold wpOpF at h
 split at h
 ·exact wpOpR_sound (o := ⟨dst, _, type, pos, after, guard⟩) (sx := true) hl hs hev h
 ·exact wpOpR_sound (o := ⟨dst, _, type, pos, after, guard⟩) (sx := true) hl hs hev h
 ·obtain ⟨Hc, hle, hlc, h⟩ := h
  have h1 := wpOp_sound (o := ⟨dst, _, type, pos, after, guard⟩) (hs.less hle) (fun x => (hev x).less hle) h
  unfold opSem at h1 ⊢
  simp only [cls] at h1 ⊢
  refine effPost.mono h1 fun v w' hn => ⟨.inr fun k hk => ?_, post_sub hs hle hn.2⟩
  obtain ⟨_, _, _, _, he, _⟩ := hn.2
  exact he.block k (hl k hk) (hlc k hk)
 ·exact pureCase h.1 h.2
end
end Go.Av
end
section
namespace Go.Av
section
variable {P : Program} {F : Option (Bool × List Nat)} {ops : Array Oper} {md : Region.Mode}
def sOp (P : Program) (F : Option (Bool × List Nat)) (ops : Array Oper) (i : Nat) (K : Act → World → Prop) (a : Act) (w : World) : Prop := match ops[i]? with
 | none => K a w
 | some o => if Region.wanted o (yielded ops a.tmps) then opSem P F o a w fun v w' => K (a.put o.dst v) w' else K (a.put o.dst undef) w
theorem sOp_mono {i : Nat} {K K' : Act → World → Prop} {a : Act} {w : World} (hK : ∀ a w, K a w → K' a w) (h : sOp P F ops i K a w) : sOp P F ops i K' a w := by
 unfold sOp at *
 split
 ·rename_i hn; simp only [hn] at h; exact hK _ _ h
 ·rename_i o ho
  simp only [ho] at h
  split
  ·rename_i hw; rw [if_pos hw] at h; exact h.mono fun v w' => hK _ _
  ·rename_i hw; rw [if_neg hw] at h; exact hK _ _ h
def wpAnyS (P : Program) (F : Option (Bool × List Nat)) (md : Region.Mode) (ops : Array Oper) (K : Act → World → Prop) : Nat → Array Bool → Act → World → Prop
 | 0, listed, a, w => Region.ready md ops listed = [] ∧ K a w
 | fuel + 1, listed, a, w =>
  (Region.ready md ops listed = [] → K a w) ∧ ∀ i ∈ Region.ready md ops listed, sOp P F ops i (wpAnyS P F md ops K fuel (listed.setIfInBounds i true)) a w
theorem wpAnyS.wpAny {K : Act → World → Prop} {Q : Exit → Act → World → Prop} (hQ : ∀ a w, K a w → Q .normal a w) : ∀ (fuel : Nat) (listed : Array Bool) (a : Act) (w : World),
  wpAnyS P F md ops K fuel listed a w → Go.wpAny P md ops Q fuel listed a w
 | 0, _, _, _, h => ⟨h.1, hQ _ _ h.2⟩
 | fuel + 1, listed, a, w, h => ⟨fun h0 => hQ _ _ (h.1 h0), fun i hi => by
   have h1 := h.2 i hi
   unfold sOp at h1
   unfold Go.wpOp
   split
   ·rename_i hn; simp only [hn] at h1; exact wpAnyS.wpAny hQ fuel _ _ _ h1
   ·rename_i o ho
    simp only [ho] at h1
    split
    ·rename_i hw; rw [if_pos hw] at h1; exact .inl (opSem.wp (h1.mono fun v w' hv => wpAnyS.wpAny hQ fuel _ _ _ hv))
    ·rename_i hw; rw [if_neg hw] at h1; exact wpAnyS.wpAny hQ fuel _ _ _ h1⟩
def YieldS (P : Program) (F : Option (Bool × List Nat)) (ops : Array Oper) (o : Oper) (v : Value) (a : Act) (w : World) : Prop :=
 (Region.wanted o (yielded ops a.tmps) = true ∧ cls P o.op = .pure ∧ ∀ w', (execOp a.eval o).run P w' = .ok (.value v) w') ∨
 (Region.wanted o (yielded ops a.tmps) = true ∧ cls P o.op = .load ∧ ∀ w', Keep F w w' → (execOp a.eval o).run P w' = .ok (.value v) w') ∨
 (Region.wanted o (yielded ops a.tmps) = false ∧ v = undef)
theorem YieldS.sOp {i : Nat} {o : Oper} {v : Value} {a : Act} {w : World} {K : Act → World → Prop} (hi : ops[i]? = some o) (hy : YieldS P F ops o v a w) (h : K (a.put o.dst v) w) : sOp P F ops i K a w := by
 unfold Av.sOp
 simp only [hi]
 rcases hy with ⟨h1, h2, h3⟩ | ⟨h1, h2, h3⟩ | ⟨h1, rfl⟩
 ·rw [if_pos h1]; unfold opSem; rw [h2]; exact ⟨v, h3, h⟩
 ·rw [if_pos h1]; unfold opSem; rw [h2]; exact ⟨v, h3, h⟩
 ·rw [if_neg (by simp [h1])]; exact h
theorem yieldS_of {i : Nat} {o : Oper} {a : Act} {w : World} {K : Act → World → Prop} (hi : ops[i]? = some o) (hc : cls P o.op ≠ .eff) (h : sOp P F ops i K a w) : ∃ v, YieldS P F ops o v a w ∧ K (a.put o.dst v) w := by
 unfold Av.sOp at h
 simp only [hi] at h
 by_cases hw : Region.wanted o (yielded ops a.tmps) = true
 ·rw [if_pos hw] at h
  unfold opSem at h
  split at h
  ·rename_i hcl; obtain ⟨v, h1, h2⟩ := h; exact ⟨v, .inl ⟨hw, hcl, h1⟩, h2⟩
  ·rename_i hcl; obtain ⟨v, h1, h2⟩ := h; exact ⟨v, .inr (.inl ⟨hw, hcl, h1⟩), h2⟩
  ·rename_i hcl; exact absurd hcl hc
 ·rw [if_neg hw] at h
  exact ⟨undef, .inr (.inr ⟨by simpa using hw, rfl⟩), h⟩
theorem YieldS.of_same {o : Oper} {v : Value} {a a' : Act} {w w' : World} (hy : YieldS P F ops o v a w) (he : execOp a'.eval o = execOp a.eval o)
  (hw : Region.wanted o (yielded ops a'.tmps) = Region.wanted o (yielded ops a.tmps)) (hww : cls P o.op = .load → Keep F w w') : YieldS P F ops o v a' w' := by
 unfold YieldS at *
 rw [he, hw]
 rcases hy with h | h | h
 ·exact .inl h
 ·exact .inr (.inl ⟨h.1, h.2.1, fun w'' hk => h.2.2 w'' ((hww h.2.1).trans hk)⟩)
 ·exact .inr (.inr h)
def beside (P : Program) (rc : Option Bool) (o : Op) : Bool := cls P o != .eff || match rc with
 | none => false
 | some sx => sx || !isStore o
theorem sOp_put {j : Nat} {oi oj : Oper} {v : Value} (hj : ops[j]? = some oj) (hap : oi.apart ops oj = true)
  (hsi : ∀ cs b, oi.op ≠ .select cs b) (hsj : ∀ cs b, oj.op ≠ .select cs b) (hcl : cls P oi.op = .load → beside P (F.map (·.1)) oj.op = true) {K : Act → World → Prop} {a : Act} {w : World}
  (hy : YieldS P F ops oi v a w) (h : sOp P F ops j K (a.put oi.dst v) w) :
  sOp P F ops j (fun a' w' => YieldS P F ops oi v a' w' ∧ K (a'.put oi.dst v) w') a w := by
 obtain ⟨h1, h2, h3⟩ := Oper.apart_spec hap
 have keep : ∀ (a : Act) (w w' : World), YieldS P F ops oi v a w → (cls P oi.op = .load → Keep F w w') → ∀ u, YieldS P F ops oi v (a.put oj.dst u) w' := fun a w w' hy hww u =>
  hy.of_same (execOp_put oi hsi a oj.dst u h3) (wanted_put oi a oj.dst u h3) hww
 unfold sOp at *
 simp only [hj] at *
 rw [wanted_put oj a oi.dst v h1] at h
 split
 ·rename_i hw
  rw [if_pos hw] at h
  unfold opSem at *
  rw [execOp_put oj hsj a oi.dst v h1] at h
  split at h
  ·obtain ⟨u, hu, hn⟩ := h
   exact ⟨u, hu, keep a w w hy (fun _ => Keep.refl F w) u, by rw [← Act.put_comm a v u h2]; exact hn⟩
  ·obtain ⟨u, hu, hn⟩ := h
   exact ⟨u, hu, keep a w w hy (fun _ => Keep.refl F w) u, by rw [← Act.put_comm a v u h2]; exact hn⟩
  ·rename_i hcj
   refine h.mono fun u w' hn => ⟨hn.1, keep a w w' hy (fun hl => ?_) u, by rw [← Act.put_comm a v u h2]; exact hn.2⟩
   have h5 := hcl hl
   cases hF : F with
   | none => rw [hF] at h5; simp [beside, hcj] at h5
   | some p =>
    obtain ⟨sx, l⟩ := p
    have h4 := hn.1
    rw [hF] at h4 h5
    rcases h4 with h4 | h4
    ·rw [h4.1] at h5; simp [beside, hcj, h4.2] at h5
    ·exact h4
 ·rename_i hw
  rw [if_neg hw] at h
  exact ⟨keep a w w hy (fun _ => Keep.refl F w) _, by rw [← Act.put_comm a v undef h2]; exact h⟩
def Closed (md : Region.Mode) (ops : Array Oper) (k : Nat) (W : Nat → Prop) : Prop :=
 W k ∧ ∀ j oj, W j → j ≠ k → ops[j]? = some oj → ∃ e ∈ oj.after, Region.binds md e = true ∧ W e.on
theorem Closed.not_ready {k : Nat} {W : Nat → Prop} (hW : Closed md ops k W) {listed : Array Bool} (hun : ∀ j, W j → listed.getD j false = false) {j : Nat}
  (hj : j ∈ Region.ready md ops listed) (hne : j ≠ k) : ¬ W j := fun hWj => by
 obtain ⟨_, oj, hoj, hall⟩ := mem_ready.1 hj
 obtain ⟨e, he, hb, hWe⟩ := hW.2 j oj hWj hne hoj
 have := hall e he hb
 rw [hun _ hWe] at this
 cases this
theorem getD_false_of_true {l : Array Bool} {j : Nat} (h : l.getD j true = false) : l.getD j false = false := by
 rcases Nat.lt_or_ge j l.size with h' | h'
 ·simp [h'] at h ⊢; exact h
 ·simp [Array.getElem?_eq_none h'] at h
theorem getD_set_false {l : Array Bool} {i j : Nat} (h : i ≠ j) : (l.setIfInBounds i true).getD j false = l.getD j false := getD_set_ne false h
theorem wpAnyS_first {K : Act → World → Prop} {i : Nat} {oi : Oper} {v : Value} {W : Nat → Prop} (hi : ops[i]? = some oi) (hsel : ∀ (j : Nat) (o : Oper) cs b, ops[j]? = some o → o.op ≠ .select cs b)
  (hW : Closed md ops i W) :
  ∀ (fuel : Nat) (listed : Array Bool) (a : Act) (w : World), (∀ j, W j → listed.getD j false = false) →
   (∀ j oj, ops[j]? = some oj → ¬ W j → listed.getD j true = false → oi.apart ops oj = true ∧ (cls P oi.op = .load → beside P (F.map (·.1)) oj.op = true)) →
   i ∈ Region.ready md ops listed → YieldS P F ops oi v a w →
   wpAnyS P F md ops K fuel (listed.setIfInBounds i true) (a.put oi.dst v) w → wpAnyS P F md ops K (fuel + 1) listed a w := by
 intro fuel
 induction fuel with
 | zero =>
  intro listed a w _ _ hr hy H
  refine ⟨fun h => (by rw [h] at hr; cases hr), fun j hj => ?_⟩
  by_cases hji : j = i
  ·subst hji; exact hy.sOp hi H
  ·have := ready_mono hj hji
   rw [H.1] at this
   cases this
 | succ fuel ih =>
  intro listed a w hun hfree hr hy H
  refine ⟨fun h => (by rw [h] at hr; cases hr), fun j hj => ?_⟩
  by_cases hji : j = i
  ·subst hji; exact hy.sOp hi H
  ·have h1 := H.2 j (ready_mono hj hji)
   obtain ⟨hjun, oj, hoj, _⟩ := mem_ready.1 hj
   have hnW := hW.not_ready hun hj hji
   obtain ⟨hap, hcl⟩ := hfree j oj hoj hnW hjun
   have h2 := sOp_put hoj hap (fun cs b => hsel i oi cs b hi) (fun cs b => hsel j oj cs b hoj) hcl hy h1
   have hun' : ∀ k, W k → (listed.setIfInBounds j true).getD k false = false := fun k hk => by
    rw [getD_set_false (fun e : j = k => hnW (by rw [e]; exact hk))]; exact hun k hk
   have hfree' : ∀ k ok, ops[k]? = some ok → ¬ W k → (listed.setIfInBounds j true).getD k true = false → oi.apart ops ok = true ∧ (cls P oi.op = .load → beside P (F.map (·.1)) ok.op = true) := fun k ok hk hnk hu => by
    refine hfree k ok hk hnk ?_
    by_cases hjk : j = k
    ·subst hjk; exact hjun
    ·rw [getD_set_ne true hjk] at hu; exact hu
   refine sOp_mono (fun a' w' h3 => ih (listed.setIfInBounds j true) a' w' hun' hfree' (ready_mono hr (Ne.symm hji)) h3.1 ?_) h2
   rw [Array.setIfInBounds_comm _ _ hji]
   exact h3.2
def isMove : Op → Bool
 | .move _ | .assign _ => true
 | _ => false
def moved (ops : Array Oper) (o : Oper) (a : Act) : Value :=
 if Region.wanted o (yielded ops a.tmps) then (match o.op with | .move x | .assign x => a.eval x | _ => undef) else undef
theorem sOp_move {j : Nat} {oj : Oper} {K : Act → World → Prop} {a : Act} {w : World} (hj : ops[j]? = some oj) (hm : isMove oj.op = true) :
  sOp P F ops j K a w ↔ K (a.put oj.dst (moved ops oj a)) w := by
 unfold sOp moved
 simp only [hj]
 split
 ·unfold opSem
  obtain ⟨dst, op, type, pos, after, guard⟩ := oj
  cases op <;> simp [isMove] at hm
  ·simp only [cls, execOp]
   exact ⟨fun ⟨v, h, hk⟩ => by have := h w; simp [pure] at this; subst this; exact hk, fun h => ⟨_, fun _ => rfl, h⟩⟩
  ·simp only [cls, execOp]
   exact ⟨fun ⟨v, h, hk⟩ => by have := h w; simp [pure] at this; subst this; exact hk, fun h => ⟨_, fun _ => rfl, h⟩⟩
 ·exact Iff.rfl
theorem moved_put {o : Oper} {a : Act} {dst : Option Tmp} {v : Value} (h : ∀ d, dst = some d → d ∉ o.looksAt ops) : moved ops o (a.put dst v) = moved ops o a := by
 unfold moved
 rw [wanted_put o a dst v h]
 have key : ∀ x ∈ o.op.operands, (a.put dst v).eval x = a.eval x := fun x hx => Act.eval_put fun d hd hxd => h d hd (by
  subst hxd
  exact List.mem_append_left _ (List.mem_filterMap.2 ⟨.tmp d, by simpa using hx, rfl⟩))
 obtain ⟨dst', op, type, pos, after, guard⟩ := o
 split
 ·cases op <;> simp only [] <;> exact key _ (by simp [Op.operands])
 ·rfl
theorem sOp_put_move {i : Nat} {oi oj : Oper} (hi : ops[i]? = some oi) (hap : oj.apart ops oi = true) (hsi : ∀ cs b, oi.op ≠ .select cs b) {K : Act → World → Prop} {a : Act} {w : World} (u : Value)
  (h : sOp P F ops i (fun a' w' => K (a'.put oj.dst u) w') a w) : sOp P F ops i K (a.put oj.dst u) w := by
 obtain ⟨h1, h2, h3⟩ := Oper.apart_spec hap
 unfold sOp at *
 simp only [hi] at *
 rw [wanted_put oi a oj.dst u h1]
 split
 ·rename_i hw
  rw [if_pos hw] at h
  unfold opSem at *
  rw [execOp_put oi hsi a oj.dst u h1]
  split at h
  ·obtain ⟨v, hv, hn⟩ := h; exact ⟨v, hv, by show K _ _; rw [Act.put_comm a u v h2]; exact hn⟩
  ·obtain ⟨v, hv, hn⟩ := h; exact ⟨v, hv, by show K _ _; rw [Act.put_comm a u v h2]; exact hn⟩
  ·exact h.mono fun v w' hn => ⟨hn.1, by show K _ _; rw [Act.put_comm a u v h2]; exact hn.2⟩
 ·rename_i hw
  rw [if_neg hw] at h
  rw [Act.put_comm a u undef h2]
  exact h
theorem YieldS.uniq {o : Oper} {u v : Value} {a : Act} {w : World} (h : YieldS P F ops o u a w) (g : YieldS P F ops o v a w) : u = v := by
 have val : ∀ {x y : Value}, (execOp a.eval o).run P w = .ok (.value x) w → (execOp a.eval o).run P w = .ok (.value y) w → x = y := fun h1 h2 => by
  rw [h1] at h2; cases h2; rfl
 rcases h with ⟨h1, h2, h3⟩ | ⟨h1, h2, h3⟩ | ⟨h1, h2⟩ <;> rcases g with ⟨g1, g2, g3⟩ | ⟨g1, g2, g3⟩ | ⟨g1, g2⟩
 ·exact val (h3 w) (g3 w)
 ·exact val (h3 w) (g3 w (Keep.refl F w))
 ·rw [h1] at g1; cases g1
 ·exact val (h3 w (Keep.refl F w)) (g3 w)
 ·exact val (h3 w (Keep.refl F w)) (g3 w (Keep.refl F w))
 ·rw [h1] at g1; cases g1
 ·rw [h1] at g1; cases g1
 ·rw [h1] at g1; cases g1
 ·rw [h2, g2]
theorem keep_of_frame {o : Op} {w w' : World} (hb : beside P (F.map (·.1)) o = true) (hc : cls P o = .eff) (h : Frame F o w w') : Keep F w w' := by
 cases F with
 | none => simp [beside, hc] at hb
 | some p =>
  obtain ⟨sx, l⟩ := p
  rcases h with h | h
  ·simp [beside, hc, h.1, h.2] at hb
  ·exact h
theorem Keep.symm {w w' : World} (h : Keep F w w') : Keep F w' w := by
 unfold Keep at *; split
 ·simp only at h; exact h.symm
 ·simp only at h; exact fun k hk => (h k hk).symm
theorem sOp_keep {i : Nat} {oi : Oper} (hi : ops[i]? = some oi) (hc : cls P oi.op = .eff) (hb : beside P (F.map (·.1)) oi.op = true) {K : Act → World → Prop} {a : Act} {w : World} (h : sOp P F ops i K a w) :
  sOp P F ops i (fun a' w' => Keep F w w' ∧ K a' w') a w := by
 unfold sOp at *
 simp only [hi] at *
 split
 ·rename_i hw
  rw [if_pos hw] at h
  unfold opSem at *
  rw [hc] at h ⊢
  exact h.mono fun v w' hn => ⟨hn.1, keep_of_frame hb hc hn.1, hn.2⟩
 ·rename_i hw
  rw [if_neg hw] at h
  exact ⟨Keep.refl F w, h⟩
theorem sOp_some {i : Nat} {oi : Oper} (hi : ops[i]? = some oi) {K : Act → World → Prop} {a : Act} {w : World} (h : sOp P F ops i K a w) : ∃ v w', K (a.put oi.dst v) w' := by
 unfold sOp at h
 simp only [hi] at h
 split at h
 ·unfold opSem at h
  split at h
  ·obtain ⟨v, _, h⟩ := h; exact ⟨v, w, h⟩
  ·obtain ⟨v, _, h⟩ := h; exact ⟨v, w, h⟩
  ·unfold effPost at h
   split at h <;> try exact h.elim
   ·exact ⟨_, _, h.2⟩
   ·exact ⟨_, _, h.2⟩
   ·obtain ⟨e, w', fr, ⟨v, _, _, hf⟩, _⟩ := h []; exact ⟨v, w', hf⟩
 ·exact ⟨_, _, h⟩
theorem wpAnyS_first_eff {K : Act → World → Prop} {i : Nat} {oi : Oper} {W : Nat → Prop} (hi : ops[i]? = some oi) (hce : cls P oi.op = .eff) (hsel : ∀ (j : Nat) (o : Oper) cs b, ops[j]? = some o → o.op ≠ .select cs b)
  (hW : Closed md ops i W) :
  ∀ (fuel : Nat) (listed : Array Bool) (a : Act) (w : World), (∀ j, W j → listed.getD j false = false) →
   (∀ j oj, ops[j]? = some oj → ¬ W j → listed.getD j true = false → oj.apart ops oi = true ∧ oi.apart ops oj = true ∧ (isMove oj.op = true ∨ (cls P oj.op = .load ∧ beside P (F.map (·.1)) oi.op = true))) →
   i ∈ Region.ready md ops listed → sOp P F ops i (wpAnyS P F md ops K fuel (listed.setIfInBounds i true)) a w → wpAnyS P F md ops K (fuel + 1) listed a w := by
 intro fuel
 induction fuel with
 | zero =>
  intro listed a w hun hfree hr H
  refine ⟨fun h => (by rw [h] at hr; cases hr), fun j hj => ?_⟩
  by_cases hji : j = i
  ·subst hji; exact H
  ·exfalso
   have h1 : ∀ a w, wpAnyS P F md ops K 0 (listed.setIfInBounds i true) a w → False := fun a w h => by
    have := ready_mono hj hji
    rw [h.1] at this
    cases this
   have h2 := sOp_mono h1 H
   unfold sOp at h2
   simp only [hi] at h2
   split at h2
   ·unfold opSem at h2
    split at h2
    ·obtain ⟨_, _, h⟩ := h2; exact h
    ·obtain ⟨_, _, h⟩ := h2; exact h
    ·unfold effPost at h2
     split at h2 <;> try exact h2.elim
     all_goals first
      | exact h2.2
      | (obtain ⟨e, w', fr, ⟨v, _, _, hf⟩, _⟩ := h2 []; exact hf)
   ·exact h2
 | succ fuel ih =>
  intro listed a w hun hfree hr H
  refine ⟨fun h => (by rw [h] at hr; cases hr), fun j hj => ?_⟩
  by_cases hji : j = i
  ·subst hji; exact H
  ·obtain ⟨hjun, oj, hoj, _⟩ := mem_ready.1 hj
   have hnW := hW.not_ready hun hj hji
   obtain ⟨hap, hap', hm⟩ := hfree j oj hoj hnW hjun
   have hun' : ∀ k, W k → (listed.setIfInBounds j true).getD k false = false := fun k hk => by
    rw [getD_set_false (fun e : j = k => hnW (by rw [e]; exact hk))]; exact hun k hk
   have hfree' : ∀ k ok, ops[k]? = some ok → ¬ W k → (listed.setIfInBounds j true).getD k true = false → ok.apart ops oi = true ∧ oi.apart ops ok = true ∧ (isMove ok.op = true ∨ (cls P ok.op = .load ∧ beside P (F.map (·.1)) oi.op = true)) := fun k ok hk hnk hu => by
    refine hfree k ok hk hnk ?_
    by_cases hjk : j = k
    ·subst hjk; exact hjun
    ·rw [getD_set_ne true hjk] at hu; exact hu
   rcases hm with hm | ⟨hcl, hb⟩
   case inr =>
    have hH := sOp_keep hi hce hb H
    have hload : cls P oj.op ≠ .eff := by rw [hcl]; exact fun e => by cases e
    have h1 := (Oper.apart_spec hap').1
    have back : ∀ v w' u, Keep F w w' → YieldS P F ops oj u (a.put oi.dst v) w' → YieldS P F ops oj u a w := fun v w' u hk hy =>
     hy.of_same (execOp_put oj (fun cs b => hsel j oj cs b hoj) a oi.dst v h1).symm (wanted_put oj a oi.dst v h1).symm (fun _ => hk.symm)
    obtain ⟨v, w', hk, hK1⟩ := sOp_some hi hH
    obtain ⟨u, hy, _⟩ := yieldS_of hoj hload (hK1.2 j (ready_mono hj hji))
    have hy0 := back v w' u hk hy
    refine hy0.sOp hoj ?_
    refine ih (listed.setIfInBounds j true) _ w hun' hfree' (ready_mono hr (Ne.symm hji)) ?_
    refine sOp_put_move hi hap (fun cs b => hsel i oi cs b hi) u ?_
    have step : ∀ v' w'', (Keep F w w'' ∧ wpAnyS P F md ops K (fuel + 1) (listed.setIfInBounds i true) (a.put oi.dst v') w'') →
      wpAnyS P F md ops K fuel ((listed.setIfInBounds j true).setIfInBounds i true) ((a.put oi.dst v').put oj.dst u) w'' := fun v' w'' ⟨hk', hK'⟩ => by
     obtain ⟨u', hy', h4⟩ := yieldS_of hoj hload (hK'.2 j (ready_mono hj hji))
     have hu : u' = u := (back v' w'' u' hk' hy').uniq hy0
     subst hu
     rw [Array.setIfInBounds_comm _ _ hji]
     exact h4
    unfold sOp at hH ⊢
    simp only [hi] at hH ⊢
    split
    ·rename_i hw; rw [if_pos hw] at hH; exact hH.mono fun v w' h => step v w' h
    ·rename_i hw; rw [if_neg hw] at hH; exact step _ _ hH
   rw [sOp_move hoj hm]
   refine ih (listed.setIfInBounds j true) _ w hun' hfree' (ready_mono hr (Ne.symm hji)) ?_
   refine sOp_put_move hi hap (fun cs b => hsel i oi cs b hi) _ ?_
   have step : ∀ v w', wpAnyS P F md ops K (fuel + 1) (listed.setIfInBounds i true) (a.put oi.dst v) w' →
     wpAnyS P F md ops K fuel ((listed.setIfInBounds j true).setIfInBounds i true) ((a.put oi.dst v).put oj.dst (moved ops oj a)) w' := fun v w' h => by
    have := h.2 j (ready_mono hj hji)
    rw [sOp_move hoj hm, moved_put (Oper.apart_spec hap').1] at this
    rw [Array.setIfInBounds_comm _ _ hji]
    exact this
   unfold sOp at H ⊢
   simp only [hi] at H ⊢
   split
   ·rename_i hw; rw [if_pos hw] at H; exact H.mono fun v w' h => step v w' h
   ·rename_i hw; rw [if_neg hw] at H; exact step _ _ H
def waitsOn (o : Oper) (k : Nat) (W : List Bool) : Bool := o.after.any fun e => Region.binds .any e && (e.on == k || (k < e.on && W.getD (e.on - (k + 1)) false))
def waits (k : Nat) : List Oper → List Bool → List Bool
 | [], W => W
 | o :: l, W => waits k l (W ++ [waitsOn o k W])
def okPair (P : Program) (rc : Option Bool) (ops : Array Oper) (oi oj : Oper) : Bool := match cls P oi.op with
 | .pure => oi.apart ops oj
 | .load => oi.apart ops oj && beside P rc oj.op
 | .eff => oj.apart ops oi && oi.apart ops oj && (isMove oj.op || (cls P oj.op == .load && beside P rc oi.op))
def okRest (P : Program) (rc : Option Bool) (ops : Array Oper) (oi : Oper) : List Oper → List Bool → Bool
 | [], _ => true
 | o :: l, b :: W => (b || okPair P rc ops oi o) && okRest P rc ops oi l W
 | _ :: _, [] => false
def okFrom (P : Program) (rc : Option Bool) (ops : Array Oper) : Nat → List Oper → Bool
 | _, [] => true
 | k, o :: l => (o.after.all fun e => !Region.binds .any e || e.on < k) && okRest P rc ops o l (waits k l []) && okFrom P rc ops (k + 1) l
def noSel (ops : Array Oper) : Bool := ops.all fun o => match o.op with | .select .. => false | _ => true
def okDraw (P : Program) (rc : Option Bool) (ops : Array Oper) : Bool := noSel ops && okFrom P rc ops 0 ops.toList
theorem waits_prefix (k : Nat) : ∀ (l : List Oper) (W : List Bool) (i : Nat), i < W.length → (waits k l W)[i]? = W[i]?
 | [], W, i, _ => rfl
 | o :: l, W, i, h => by
  rw [waits, waits_prefix k l _ i (by simp; omega), List.getElem?_append_left h]
theorem waits_at (k : Nat) : ∀ (l : List Oper) (W : List Bool) (i : Nat) (o : Oper), l[i]? = some o →
  (waits k l W)[W.length + i]? = some (waitsOn o k ((waits k l W).take (W.length + i)))
 | [], _, _, _, h => by simp at h
 | o' :: l, W, 0, o, h => by
  simp at h; subst h
  have e := waits_prefix k l (W ++ [waitsOn o' k W]) W.length (by simp)
  simp only [waits, Nat.add_zero]
  rw [e]
  have t : (waits k l (W ++ [waitsOn o' k W])).take W.length = W := by
   apply List.ext_getElem?
   intro i
   rw [List.getElem?_take]
   by_cases hi : i < W.length
   ·rw [if_pos hi, waits_prefix k l _ i (by simp; omega), List.getElem?_append_left hi]
   ·rw [if_neg hi, List.getElem?_eq_none (by omega)]
  rw [t]; simp
 | o' :: l, W, i + 1, o, h => by
  have := waits_at k l (W ++ [waitsOn o' k W]) i o (by simpa using h)
  simp only [List.length_append, List.length_cons, List.length_nil] at this
  simp only [waits]
  have e : W.length + (i + 1) = W.length + (0 + 1) + i := by omega
  rw [e]; exact this
theorem okRest_at {rc : Option Bool} {oi : Oper} : ∀ (l : List Oper) (W : List Bool), okRest P rc ops oi l W = true → ∀ (i : Nat) (o : Oper), l[i]? = some o → W[i]? = some true ∨ okPair P rc ops oi o = true
 | [], _, _, i, o, h => by simp at h
 | o' :: l, [], h, _, _, _ => by simp [okRest] at h
 | o' :: l, b :: W, h, 0, o, h0 => by
  simp [okRest] at h h0; subst h0
  rcases h.1 with h | h
  ·exact .inl (by simp [h])
  ·exact .inr h
 | o' :: l, b :: W, h, i + 1, o, h0 => by
  simp [okRest] at h h0
  simpa using okRest_at l W h.2 i o h0
theorem noSel_spec (h : noSel ops = true) : ∀ (j : Nat) (o : Oper) cs b, ops[j]? = some o → o.op ≠ .select cs b := by
 intro j o cs b ho he
 unfold noSel at h
 rw [Array.all_eq_true_iff_forall_mem] at h
 have := h o (Array.mem_of_getElem? ho)
 rw [he] at this
 simp at this
theorem okFrom_any (hs : noSel ops = true) {K : Act → World → Prop} : ∀ (l : List Oper) (k : Nat) (listed : Array Bool), (∀ j, l[j]? = ops[k + j]?) → (∀ j, listed.getD j false = decide (j < k)) → (listed.size = ops.size) →
  okFrom P (F.map (·.1)) ops k l = true → ∀ a w, wpA P F ops K l a w → wpAnyS P F .any ops K l.length listed a w := by
 intro l
 induction l with
 | nil =>
  intro k listed hl hL hsz _ a w h
  refine ⟨?_, h⟩
  cases hr : Region.ready .any ops listed with
  | nil => rfl
  | cons x xs =>
   exfalso
   have hx : x ∈ Region.ready .any ops listed := by rw [hr]; simp
   obtain ⟨h0, o, ho, _⟩ := mem_ready.1 hx
   have := hL x
   rw [getD_false_of_true h0] at this
   have hk : k ≤ x := by simpa using this
   have := hl (x - k)
   rw [show k + (x - k) = x from by omega, ho] at this
   simp at this
 | cons o l ih =>
  intro k listed hl hL hsz hok a w h
  have h0 : ops[k]? = some o := by simpa using (hl 0).symm
  have hkl : k < ops.size := (Array.getElem?_eq_some_iff.1 h0).1
  simp only [okFrom, Bool.and_eq_true] at hok
  obtain ⟨⟨he, hr⟩, hnext⟩ := hok
  have hl' : ∀ j, l[j]? = ops[k + 1 + j]? := fun j => by have := hl (j + 1); simpa [Nat.add_assoc, Nat.add_comm 1 j] using this
  have hready : k ∈ Region.ready .any ops listed := by
   rw [mem_ready]
   refine ⟨?_, o, h0, fun e hem hb => ?_⟩
   ·have := hL k
    simp at this
    have hks : k < listed.size := by omega
    simp [hks] at this ⊢
    exact this
   ·rw [hL]
    rw [Array.all_eq_true_iff_forall_mem] at he
    have := he e hem
    simp [hb] at this
    simpa using this
  have hL' : ∀ j, (listed.setIfInBounds k true).getD j false = decide (j < k + 1) := fun j => by
   by_cases hkj : k = j
   ·subst hkj
    have hks : k < listed.size := by omega
    simp [hks]
   ·rw [getD_set_ne false hkj, hL]
    apply decide_eq_decide.2
    omega
  have hsz' : (listed.setIfInBounds k true).size = ops.size := by simpa using hsz
  let W : Nat → Prop := fun j => j = k ∨ (k < j ∧ (waits k l [])[j - (k + 1)]? = some true)
  have hWc : Closed .any ops k W := by
   refine ⟨.inl rfl, fun j oj hj hne hoj => ?_⟩
   rcases hj with hj | ⟨hlt, hj⟩
   ·exact absurd hj hne
   ·have hlj : l[j - (k + 1)]? = some oj := by rw [hl']; rw [show k + 1 + (j - (k + 1)) = j from by omega]; exact hoj
    have hat := waits_at k l [] (j - (k + 1)) oj hlj
    simp only [List.length_nil, Nat.zero_add] at hat
    rw [hj] at hat
    have hw : waitsOn oj k ((waits k l []).take (j - (k + 1))) = true := by simpa using hat.symm
    unfold waitsOn at hw
    obtain ⟨e, hem, hcond⟩ := Array.any_eq_true'.1 hw
    simp only [Bool.and_eq_true, Bool.or_eq_true, beq_iff_eq, decide_eq_true_eq] at hcond
    refine ⟨e, hem, hcond.1, ?_⟩
    rcases hcond.2 with h1 | ⟨h1, h2⟩
    ·exact .inl h1
    ·refine .inr ⟨h1, ?_⟩
     rw [List.getD_eq_getElem?_getD] at h2
     cases ht : ((waits k l []).take (j - (k + 1)))[e.on - (k + 1)]? with
     | none => rw [ht] at h2; simp at h2
     | some b =>
      rw [ht] at h2; simp at h2; subst h2
      rw [List.getElem?_take] at ht
      split at ht
      ·exact ht
      ·cases ht
  have hun : ∀ j, W j → listed.getD j false = false := fun j hj => by
   rw [hL]; rcases hj with rfl | ⟨hlt, _⟩ <;> simp; omega
  have hfree : ∀ j oj, ops[j]? = some oj → ¬ W j → listed.getD j true = false → okPair P (F.map (·.1)) ops o oj = true := fun j oj hoj hnW hu => by
   have h1 := hL j
   rw [getD_false_of_true hu] at h1
   have hkj : k ≤ j := by simpa using h1
   have hne : j ≠ k := fun e => hnW (.inl e)
   have hlj : l[j - (k + 1)]? = some oj := by rw [hl']; rw [show k + 1 + (j - (k + 1)) = j from by omega]; exact hoj
   rcases okRest_at l _ hr _ _ hlj with h2 | h2
   ·exact absurd (.inr ⟨by omega, h2⟩) hnW
   ·exact h2
  have hst : sOp P F ops k (wpA P F ops K l) a w := by unfold sOp; simp only [h0]; exact h
  have hst' : sOp P F ops k (wpAnyS P F .any ops K l.length (listed.setIfInBounds k true)) a w :=
   sOp_mono (fun a' w' h' => ih (k + 1) _ hl' hL' hsz' hnext a' w' h') hst
  by_cases hc : cls P o.op = .eff
  ·refine wpAnyS_first_eff h0 hc (noSel_spec hs) hWc l.length listed a w hun (fun j oj hoj hnW hu => ?_) hready hst'
   have := hfree j oj hoj hnW hu
   unfold okPair at this
   rw [hc] at this
   simp only [Bool.and_eq_true, Bool.or_eq_true, beq_iff_eq] at this
   exact ⟨this.1.1, this.1.2, this.2⟩
  ·obtain ⟨v, hy, hK⟩ := yieldS_of h0 hc hst'
   refine wpAnyS_first h0 (noSel_spec hs) hWc l.length listed a w hun (fun j oj hoj hnW hu => ?_) hready hy hK
   have := hfree j oj hoj hnW hu
   unfold okPair at this
   split at this
   ·rename_i hp; exact ⟨this, fun hl => by rw [hp] at hl; cases hl⟩
   ·simp only [Bool.and_eq_true] at this
    exact ⟨this.1, fun _ => this.2⟩
   ·rename_i he'; exact absurd he' hc
theorem wpA_draw {id : Nat} {K : Act → World → Prop} {Q : Exit → Act → World → Prop} {a : Act} {w : World} (hm : P.follows .mixedOrders = true) (hok : okDraw P (F.map (·.1)) ops = true)
  (hQ : ∀ a w, K a w → Q .normal a w) (h : wpA P F ops K ops.toList a { w with drawn := w.drawn + 1 }) : (Code.region id ops true).wp P Q a w := by
 simp only [okDraw, Bool.and_eq_true] at hok
 refine wp_region_any hm (wpAnyS.wpAny (F := F) hQ _ _ _ _ ?_)
 have := okFrom_any hok.1 ops.toList 0 (Array.replicate ops.size false) (by simp) (by intro j; simp [Array.getElem?_replicate]; split <;> rfl) (by simp) hok.2 a _ h
 simpa using this
end
end Go.Av
end
