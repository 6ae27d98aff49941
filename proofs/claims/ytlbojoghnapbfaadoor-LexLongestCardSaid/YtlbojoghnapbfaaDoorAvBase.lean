/- Av, a small engine of our own for walks with values in place of memory: abstract values, what they stand for in a world, and how that is kept. No program is in sight. -/
import Derived.WalkKit
import Derived.Below
namespace Go.Av

/-- An abstract value. 'box', 'el', 'vec' name a block that is owned (may be written); 'ro' and 'sl' carry what stands in memory that nobody writes any more. -/
inductive D where
  | undef
  | bool (b : Bool)
  | int (k : IntKind) (n : Int)
  | str (s : ByteArray)
  | nilp
  | box (b off : Nat)
  | el (b sz i off : Nat)
  | ro (cs : List D)
  | nilsl
  | sl (sz : Nat) (es : List (List D))
  | vec (b sz lo n : Nat)
  | agg (cs : List D)
  | tuple (ds : List D)
  | fn (f : Fn) (first captured : List D)
  | nilfn
  | iface (t : TypeId) (d : D)
  | nilif
  | glob (g : Nat)
  deriving Inhabited

/-- May it stand in one cell? -/
def D.one : D → Bool
  | .undef | .agg _ | .tuple _ => false
  | _ => true

def D.cells : D → List D
  | .agg cs => cs
  | d => [d]

/-- What an owned block holds: a variable's cells; or the elements of a slice that is being made, 'sz' cells each (spare room behind them is not told). -/
inductive Obj where
  | box (cs : List D)
  | vec (sz : Nat) (es : List (List D))
  | ro (cs : List D)
  | iter (s : ByteArray) (pos : Nat)

abbrev Heap := Nat → Option Obj

def Heap.set (H : Heap) (b : Nat) (o : Obj) : Heap := fun k => if k = b then some o else H k
def Heap.del (H : Heap) (b : Nat) : Heap := fun k => if k = b then none else H k
def Heap.Le (H H' : Heap) : Prop := ∀ b o, H b = some o → H' b = some o
/-- May it be written? -/
def Obj.rw : Obj → Bool
  | .ro _ => false
  | _ => true
def Heap.held (H : Heap) (k : Nat) : Bool := match H k with
  | some o => o.rw
  | none => false
theorem held_none {H : Heap} {k : Nat} (h : H k = none) : H.held k = false := by unfold Heap.held; rw [h]
theorem held_of {H : Heap} {k : Nat} {o : Obj} (h : H k = some o) : H.held k = o.rw := by unfold Heap.held; rw [h]
theorem held_ne {H H' : Heap} {k : Nat} (h : H' k = H k) : H'.held k = H.held k := by unfold Heap.held; rw [h]

/-- 'v' in world 'w' is what 'd' tells, the blocks of 'H' being owned. -/
inductive R (w : World) (H : Heap) : D → Value → Prop
  | undef (v : Value) : R w H .undef v
  | bool (b : Bool) : R w H (.bool b) (.bool b)
  | int (k : IntKind) (n : Int) : R w H (.int k n) (.int k n)
  | str (s : ByteArray) : R w H (.str s) (.string s)
  | nilp : R w H .nilp (.pointer none)
  | box (b off : Nat) : R w H (.box b off) (.pointer (some ⟨b, off, none⟩))
  | el (b sz i off : Nat) : R w H (.el b sz i off) (.pointer (some ⟨b, i * sz + off, none⟩))
  | ro (cs : List D) (b off : Nat) (u : Nat → Value) (hb : b < w.heap.size) (hn : H.held b = false)
      (hc : ∀ j, j < cs.length → w.cell? ⟨b, off + j, none⟩ = some (u j)) (h1 : ∀ (j : Nat) (d : D), cs[j]? = some d → d.one = true)
      (hr : ∀ (j : Nat) (d : D), cs[j]? = some d → R w H d (u j)) : R w H (.ro cs) (.pointer (some ⟨b, off, none⟩))
  | nilsl : R w H .nilsl (.slice none 0 0)
  | sl0 (sz : Nat) (a : Option Addr) (cap : Nat) : R w H (.sl sz []) (.slice a 0 cap)
  | sl (sz : Nat) (es : List (List D)) (b off cap : Nat) (u : Nat → Nat → Value) (hb : b < w.heap.size) (hn : H.held b = false)
      (hlen : ∀ (i : Nat) (e : List D), es[i]? = some e → e.length = sz) (hcap : es.length ≤ cap)
      (hc : ∀ i j, i < es.length → j < sz → w.cell? ⟨b, off + i * sz + j, none⟩ = some (u i j))
      (h1 : ∀ (i : Nat) (e : List D) (j : Nat) (d : D), es[i]? = some e → e[j]? = some d → d.one = true)
      (hr : ∀ (i : Nat) (e : List D) (j : Nat) (d : D), es[i]? = some e → e[j]? = some d → R w H d (u i j)) : R w H (.sl sz es) (.slice (some ⟨b, off, none⟩) es.length cap)
  | vec (b sz lo n cap : Nat) (T : TypeId) (m : Nat) (hb : w.shape? b = some (T, m)) (hs : m = (lo + cap) * sz) (hsz : 0 < sz) (hn : n ≤ cap) :
      R w H (.vec b sz lo n) (.slice (some ⟨b, lo * sz, none⟩) n cap)
  | agg (cs : List D) (vs : Array Value) (hl : cs.length = vs.size) (h1 : ∀ (i : Nat) (d : D), cs[i]? = some d → d.one = true) (hr : ∀ (i : Nat) (d : D), cs[i]? = some d → R w H d (vs.getD i Go.undef)) :
      R w H (.agg cs) (.agg vs)
  | tuple (ds : List D) (vs : Array Value) (hl : ds.length = vs.size) (hr : ∀ (i : Nat) (d : D), ds[i]? = some d → R w H d (vs.getD i Go.undef)) : R w H (.tuple ds) (.tuple vs)
  | fn (f : Fn) (ds es : List D) (vs us : Array Value) (hl : ds.length = vs.size) (hm : es.length = us.size)
      (hr : ∀ (i : Nat) (d : D), ds[i]? = some d → R w H d (vs.getD i Go.undef)) (hq : ∀ (i : Nat) (d : D), es[i]? = some d → R w H d (us.getD i Go.undef)) : R w H (.fn f ds es) (.func f vs us)
  | nilfn : R w H .nilfn .nilFunc
  | iface (t : TypeId) (d : D) (v : Value) (hr : R w H d v) : R w H (.iface t d) (.iface t v)
  | nilif : R w H .nilif .nilIface
  | glob (g : Nat) : R w H (.glob g) (.pointer (some ⟨g, 0, none⟩))

/-- From 'w' to 'w'' nothing has turned but blocks that 'H' owns, and these keep their size. -/
structure Ext (H : Heap) (w w' : World) : Prop where
  os : w'.os = w.os
  tape : w'.tape = w.tape
  output : w'.output = w.output
  size : w.heap.size ≤ w'.heap.size
  block : ∀ k, k < w.heap.size → H.held k = false → w'.heap[k]? = w.heap[k]?
  shape : ∀ k, k < w.heap.size → w'.shape? k = w.shape? k

/-- What 'H'' owns, 'H' owned, or it is new since 'w'. -/
def From (w : World) (H H' : Heap) : Prop := ∀ k, k < w.heap.size → H.held k = false → H'.held k = false

theorem shape_lt {w : World} {b : Nat} {x : TypeId × Nat} (h : w.shape? b = some x) : b < w.heap.size := by
  unfold World.shape? at h
  by_cases hb : b < w.heap.size
  · exact hb
  · simp [Array.getElem?_eq_none (Nat.le_of_not_lt hb)] at h

theorem Ext.cell {H : Heap} {w w' : World} (h : Ext H w w') {b off : Nat} (hb : b < w.heap.size) (hn : H.held b = false) :
    w'.cell? ⟨b, off, none⟩ = w.cell? ⟨b, off, none⟩ := World.cell?_of_block (w := w) (h.block b hb hn)

theorem R.mono {w w' : World} {H H' : Heap} {d : D} {v : Value} (h : R w H d v) (he : Ext H w w') (hf : From w H H') : R w' H' d v := by
  induction h with
  | ro cs b off u hb hn hc h1 _ ih => exact .ro cs b off u (Nat.lt_of_lt_of_le hb he.size) (hf b hb hn) (fun j hj => by rw [he.cell hb hn]; exact hc j hj) h1 ih
  | sl sz es b off cap u hb hn hlen hcap hc h1 _ ih =>
    exact .sl sz es b off cap u (Nat.lt_of_lt_of_le hb he.size) (hf b hb hn) hlen hcap (fun i j hi hj => by rw [he.cell hb hn]; exact hc i j hi hj) h1 ih
  | vec b sz lo n cap T m hb hs hsz hn => exact .vec b sz lo n cap T m (by rw [he.shape b (shape_lt hb)]; exact hb) hs hsz hn
  | agg cs vs hl h1 _ ih => exact .agg cs vs hl h1 ih
  | tuple ds vs hl _ ih => exact .tuple ds vs hl ih
  | fn f ds es vs us hl hm _ _ ih ih' => exact .fn f ds es vs us hl hm ih ih'
  | iface t d v _ ih => exact .iface t d v ih
  | _ => constructor

theorem Ext.refl (H : Heap) (w : World) : Ext H w w := ⟨rfl, rfl, rfl, Nat.le_refl _, fun _ _ _ => rfl, fun _ _ => rfl⟩
theorem From.refl (w : World) (H : Heap) : From w H H := fun _ _ h => h

theorem Ext.trans {H H' : Heap} {a b c : World} (h : Ext H a b) (hf : From a H H') (k : Ext H' b c) : Ext H a c :=
  ⟨k.os.trans h.os, k.tape.trans h.tape, k.output.trans h.output, Nat.le_trans h.size k.size,
   fun i hi hn => (k.block i (Nat.lt_of_lt_of_le hi h.size) (hf i hi hn)).trans (h.block i hi hn),
   fun i hi => (k.shape i (Nat.lt_of_lt_of_le hi h.size)).trans (h.shape i hi)⟩

theorem From.trans {H H' H'' : Heap} {a b : World} (h : From a H H') (hs : a.heap.size ≤ b.heap.size) (k : From b H' H'') : From a H H'' :=
  fun i hi hn => k i (Nat.lt_of_lt_of_le hi hs) (h i hi hn)

theorem Heap.Le.refl (H : Heap) : H.Le H := fun _ _ h => h
theorem Heap.Le.trans {A B C : Heap} (h : A.Le B) (k : B.Le C) : A.Le C := fun b o x => k b o (h b o x)
theorem Heap.Le.held {A B : Heap} (h : A.Le B) {b : Nat} (hb : B.held b = false) : A.held b = false := by
  cases ha : A b with
  | none => exact held_none ha
  | some o => rw [held_of ha, ← held_of (h b o ha)]; exact hb
theorem Heap.Le.none {A B : Heap} (h : A.Le B) {b : Nat} (hb : B b = none) : A b = none := by
  cases ha : A b with
  | none => rfl
  | some o => rw [h b o ha] at hb; cases hb

/-- Less may be said to be owned. -/
theorem R.less {w : World} {H H' : Heap} {d : D} {v : Value} (h : R w H d v) (hl : H'.Le H) : R w H' d v :=
  h.mono (Ext.refl H w) fun _ _ hn => hl.held hn

/-- What an owned block holds, is so in the world. -/
def ObjOk (w : World) (H : Heap) (b : Nat) : Obj → Prop
  | .box cs => ∃ c T lo hi, w.heap[b]? = some (.cells c T (lo, hi)) ∧ (∀ j, j < c.size → ¬ (lo ≤ j ∧ j < hi)) ∧ c.size = cs.length ∧ ∀ (j : Nat) (d : D), cs[j]? = some d → d.one = true ∧ R w H d (c.getD j Go.undef)
  | .vec sz es => ∃ c T lo hi, w.heap[b]? = some (.cells c T (lo, hi)) ∧ (∀ j, j < c.size → ¬ (lo ≤ j ∧ j < hi)) ∧ 0 < sz ∧ es.length * sz ≤ c.size ∧ (∀ (i : Nat) (e : List D), es[i]? = some e → e.length = sz) ∧
      ∀ (i : Nat) (e : List D) (j : Nat) (d : D), es[i]? = some e → e[j]? = some d → d.one = true ∧ R w H d (c.getD (i * sz + j) Go.undef)
  | .ro cs => ∃ c T fz, w.heap[b]? = some (.cells c T fz) ∧ c.size = cs.length ∧ ∀ (j : Nat) (d : D), cs[j]? = some d → d.one = true ∧ R w H d (c.getD j Go.undef)
  | .iter s pos => w.heap[b]? = some (.stringIter s pos)

def Sat (H : Heap) (w : World) : Prop := ∀ b o, H b = some o → ObjOk w H b o

theorem ObjOk.mono {w w' : World} {H H' : Heap} {b : Nat} {o : Obj} (h : ObjOk w H b o) (he : Ext H w w') (hf : From w H H') (hb : w'.heap[b]? = w.heap[b]?) : ObjOk w' H' b o := by
  cases o with
  | box cs => obtain ⟨c, T, lo, hi, h1, h0, h2, h3⟩ := h; exact ⟨c, T, lo, hi, hb.trans h1, h0, h2, fun j d hd => ⟨(h3 j d hd).1, (h3 j d hd).2.mono he hf⟩⟩
  | vec sz es => obtain ⟨c, T, lo, hi, h1, h0, h2, h3, h4, h5⟩ := h; exact ⟨c, T, lo, hi, hb.trans h1, h0, h2, h3, h4, fun i e j d he' hd => ⟨(h5 i e j d he' hd).1, (h5 i e j d he' hd).2.mono he hf⟩⟩
  | ro cs => obtain ⟨c, T, fz, h1, h2, h3⟩ := h; exact ⟨c, T, fz, hb.trans h1, h2, fun j d hd => ⟨(h3 j d hd).1, (h3 j d hd).2.mono he hf⟩⟩
  | iter s pos => exact hb.trans h

theorem Sat.less {w : World} {H H' : Heap} (h : Sat H w) (hl : H'.Le H) : Sat H' w :=
  fun b o hb => (h b o (hl b o hb)).mono (Ext.refl H w) (fun _ _ hn => hl.held hn) rfl

theorem From.less {w : World} {H H' H'' : Heap} (h : From w H H') (hl : H''.Le H') : From w H H'' := fun k hk hn => hl.held (h k hk hn)

theorem Sat.lt {w : World} {H : Heap} (h : Sat H w) {b : Nat} {o : Obj} (hb : H b = some o) : b < w.heap.size := by
  have := h b o hb
  by_cases hlt : b < w.heap.size
  · exact hlt
  · have hn := Array.getElem?_eq_none (Nat.le_of_not_lt hlt)
    cases o with
    | ro cs => obtain ⟨c, T, fz, h1, _⟩ := this; rw [hn] at h1; cases h1
    | iter s pos => rw [show w.heap[b]? = some (.stringIter s pos) from this] at hn; cases hn
    | _ => obtain ⟨c, T, lo, hi, h1, _⟩ := this; rw [hn] at h1; cases h1

/-- Nothing of 'H' lies at the next free block. -/
theorem Sat.fresh {w : World} {H : Heap} (h : Sat H w) {b : Nat} (hb : w.heap.size ≤ b) : H b = none := by
  cases ho : H b with
  | none => rfl
  | some o => exact absurd (h.lt ho) (by omega)

theorem Ext.alloc (H : Heap) (w : World) (o : Go.Obj) : Ext H w (w.alloc o) := by
  refine ⟨rfl, rfl, rfl, by simp, fun k hk _ => Go.RowKit.Below.heap_alloc _ _ _ hk, fun k hk => ?_⟩
  unfold World.shape?
  rw [Go.RowKit.Below.heap_alloc _ _ _ hk]

theorem Ext.drewN (H : Heap) (w : World) (n : Nat) : Ext H w { w with drawn := w.drawn + n } := ⟨rfl, rfl, rfl, Nat.le_refl _, fun _ _ _ => rfl, fun _ _ => rfl⟩

end Go.Av
