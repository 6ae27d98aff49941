/- Part of the proof: what the last text builds on. No condition stands here. -/
import Derived.WalkKit
import Derived.Below
import Derived.MapKept
import Derived.Laws.StructEq
import Derived.Laws.IdiomCopy
import Derived.Laws.Append
import Derived.Laws.RangeString
import Derived.ChangeKeysEq
import Derived.Maps.RangeRun
import Derived.IntWalk
import Derived.Laws.BytesString
import Derived.Orders
import Derived.Scope
import Derived.Test.YtibphjonmikciaaGreatDoorProg
import Derived.KernelRfl
import Derived.Shelf.SlIter.Nil
import Derived.Shelf.SortM.Plain
import Derived.Shelf.SortM.SortNone
import Derived.Ground.GgzProg
import Derived.Ground.SlgmProg
import Derived.Lib.ConvBytes
import Derived.Lib.LaidTab
import Derived.Sort.Grow
import Derived.Deep.Draws
import Derived.StringKeys
import Derived.Shelf.Strings.Builder1
import Derived.Shelf.Small.Utf8
import Derived.Shelf.Small.Bits
import Derived.Shelf.Small.Strs
import Derived.Shelf.Small.Wraps
import Derived.Shelf.Strconv.Atoi
import Derived.Shelf.Strconv.Itoa0
import Derived.Shelf.Strconv.Itoa1
import Derived.Shelf.LaysM
import Derived.Shelf.Strconv.Itoa2
import Derived.Shelf.Strconv.Itoa3
import Derived.Shelf.Strconv.AtoiErrFast
import Derived.Shelf.Strconv.ParseIntEmpty
import Derived.Shelf.Strconv.AtoiFail
import Derived.Shelf.Strconv.Clone
import Derived.Shelf.Strconv.SyntaxError
import Derived.Shelf.LaysC
import Derived.Shelf.Strconv.ToError
import Derived.Shelf.Strconv.Lower
import Derived.Shelf.Strconv.ParseUint10
import Derived.Shelf.Strconv.ParseUint10Empty
import Derived.Shelf.Strconv.ParseUint10Any
import Derived.Shelf.Strconv.ParseInt10
import Derived.Shelf.Strconv.AtoiLong
import Derived.Shelf.Strconv.AtoiInnerAll
import Derived.Shelf.Strconv.RangeError
import Derived.Shelf.Strconv.ToErrorRange
import Derived.Shelf.Strconv.AtoiAll
import Derived.Shelf.Strconv.ErrVarAll
import Derived.Shelf.Strings.Search1
import Derived.Shelf.Strings.Search2
import Derived.Shelf.Strings.Cut
import Derived.Shelf.Strings.Shaped
import Derived.Shelf.Strings.Prefix
import Derived.Shelf.Strings.Runes
import Derived.Shelf.Strings.IndexAny
import Derived.Shelf.Strings.AsciiSet
import Derived.Shelf.Strings.IndexAnyAll
import Derived.Lib.Bytealg
import Derived.Lib.Atoi
import Derived.Laws.RangeAny
import Derived.Lib.AtoiAll
import Derived.Lib.ItoaNum
import Derived.Lib.Strings
import Derived.Lib.IndexMore
import Derived.Lib.AppendZeros
import Derived.Shelf.RegionOpenPlain
import Derived.Lib.Walk
import Derived.Shelf.SlMaps.Clone
import Derived.Laws.Cover3
import Derived.Lib.BufferMore
import Derived.ChangeArms
import Derived.ChangeMaps5
import Derived.DataReads
import Derived.Carry
import Derived.WideShapes
import GoSem.ClaimJoined
import Derived.Handed
import Derived.ProofKit
import Derived.LaidMore
import Derived.Test.YtibphjonmikciaaGreatDoorRows
import Derived.Lay
import Derived.Stop.Joined
import Derived.Test.YtibphjonmikciaaGreatDoorCards
import Derived.Deep.DeepHandedRow
import Derived.Test.YtibphjonmikciaaGreatDoorTie
set_option linter.unusedSimpArgs false
set_option linter.unusedVariables false
theorem D1H:type_of% @And.intro:=@And.intro
theorem D1I:type_of% @of_decide_eq_true:=@of_decide_eq_true
theorem D1J:type_of% @decide_eq_true:=@decide_eq_true
theorem D1K:type_of% @decide_eq_false:=@decide_eq_false
theorem D1L:type_of% @Array.getD_eq_getD_getElem?:=@Array.getD_eq_getD_getElem?
theorem D1M:type_of% @List.length_cons:=@List.length_cons
theorem D1N:type_of% @List.length_append:=@List.length_append
theorem D1O:type_of% @List.length_nil:=@List.length_nil
theorem D1P:type_of% @List.length_singleton:=@List.length_singleton
theorem D1Q:type_of% @Option.map_eq_some_iff:=@Option.map_eq_some_iff
theorem D1R:type_of% @List.getElem?_eq_some_iff:=@List.getElem?_eq_some_iff
theorem D1S:type_of% @List.mem_cons_self:=@List.mem_cons_self
theorem D1T:type_of% @Option.bind_eq_some_iff:=@Option.bind_eq_some_iff
theorem D1U:type_of% @Bool.and_eq_true:=@Bool.and_eq_true
theorem D1V:type_of% @List.getElem_mem:=@List.getElem_mem
theorem D1W:type_of% @List.take_of_length_le:=@List.take_of_length_le
theorem D1X:type_of% @Bool.false_eq_true:=@Bool.false_eq_true
theorem D1Y:type_of% @List.getElem?_eq_getElem:=@List.getElem?_eq_getElem
theorem D1Z:type_of% @List.mem_cons_of_mem:=@List.mem_cons_of_mem
theorem D1a:type_of% @List.take_succ_eq_append_getElem:=@List.take_succ_eq_append_getElem
theorem D1b:type_of% @Nat.le_refl:=@Nat.le_refl
theorem D1c:type_of% @Nat.zero_le:=@Nat.zero_le
theorem D1d:type_of% @decide_eq_true_eq:=@decide_eq_true_eq
theorem D1e:type_of% @List.getElem?_map:=@List.getElem?_map
theorem D1f:type_of% @List.eq_nil_of_length_eq_zero:=@List.eq_nil_of_length_eq_zero
theorem D1g:type_of% @Array.getElem?_eq_some_iff:=@Array.getElem?_eq_some_iff
theorem D1h:type_of% @List.mem_append:=@List.mem_append
theorem D1i:type_of% @List.mem_singleton:=@List.mem_singleton
theorem D1j:type_of% @List.mem_cons:=@List.mem_cons
theorem D1k:type_of% @List.not_mem_nil:=@List.not_mem_nil
theorem D1l:type_of% @Option.bind_some:=@Option.bind_some
theorem D1m:type_of% @List.drop_eq_getElem_cons:=@List.drop_eq_getElem_cons
theorem D1n:type_of% @List.getElem?_cons_succ:=@List.getElem?_cons_succ
theorem D1o:type_of% @List.mem_of_getElem?:=@List.mem_of_getElem?
theorem D1p:type_of% @List.length_drop:=@List.length_drop
theorem D1q:type_of% @List.getD_cons_zero:=@List.getD_cons_zero
theorem D1r:type_of% @List.getD_cons_succ:=@List.getD_cons_succ
theorem D1s:type_of% @List.all_eq_true:=@List.all_eq_true
theorem D1t:type_of% @Option.some.injEq:=@Option.some.injEq
theorem D1u:type_of% @decide_eq_decide:=@decide_eq_decide
theorem D1v:type_of% @Array.getElem?_setIfInBounds_ne:=@Array.getElem?_setIfInBounds_ne
theorem D1w:type_of% @Array.mem_toList_iff:=@Array.mem_toList_iff
theorem D1x:type_of% @Nat.mul_le_mul_right:=@Nat.mul_le_mul_right
theorem D1z:type_of% @List.length_take:=@List.length_take
theorem D10:type_of% @List.length_map:=@List.length_map
theorem D15:type_of% @List.append_assoc:=@List.append_assoc
theorem D16:type_of% @List.append_nil:=@List.append_nil
theorem D17:type_of% @List.getElem_map:=@List.getElem_map
theorem D18:type_of% @Array.length_toList:=@Array.length_toList
theorem D19:type_of% @List.foldl_append:=@List.foldl_append
theorem D2B:type_of% @List.getElem?_append_left:=@List.getElem?_append_left
theorem D2C:type_of% @List.getElem?_append_right:=@List.getElem?_append_right
theorem D2D:type_of% @Nat.lt_of_lt_of_le:=@Nat.lt_of_lt_of_le
theorem D2E:type_of% @List.length_set:=@List.length_set
theorem D2F:type_of% @List.mem_map:=@List.mem_map
theorem D2H:type_of% @List.map_append:=@List.map_append
theorem D2I:type_of% @Nat.mod_eq_of_lt:=@Nat.mod_eq_of_lt
theorem D2K:type_of% @List.all_cons:=@List.all_cons
theorem D2L:type_of% @List.all_append:=@List.all_append
theorem D2M:type_of% @List.any_cons:=@List.any_cons
theorem D2N:type_of% @Nat.le_trans:=@Nat.le_trans
theorem D2R:type_of% @List.drop_drop:=@List.drop_drop
theorem D2S:type_of% @List.cons_append:=@List.cons_append
theorem D2T:type_of% @List.nil_append:=@List.nil_append
theorem D2Y:type_of% @List.map_cons:=@List.map_cons
theorem D2c:type_of% @List.ext_getElem:=@List.ext_getElem
theorem D2d:type_of% @Bool.not_eq_true:=@Bool.not_eq_true
theorem D2e:type_of% @Bool.or_eq_true:=@Bool.or_eq_true
theorem D2f:type_of% @Bool.not_true:=@Bool.not_true
theorem D2g:type_of% @Bool.not_false:=@Bool.not_false
namespace Go.Av
inductive D where
 |undef
 |bool (b:Bool)
 |int (k:IntKind) (n:Int)
 |str (s:ByteArray)
 |nilp
 |box (b off:Nat)
 |el (b sz i off:Nat)
 |ro (cs:List D)
 |nilsl
 |sl (sz:Nat) (es:List (List D))
 |vec (b sz lo n:Nat)
 |agg (cs:List D)
 |tuple (ds:List D)
 |fn (f:Fn) (first captured:List D)
 |nilfn
 |iface (t:TypeId) (d:D)
 |nilif
 |glob (g:Nat)
 |map (b:Nat)
 |nilmap
 |fm (kvs:List (D×D))
 deriving Inhabited
def D.one:D→Bool
 | .undef| .agg _| .tuple _=>false
 |_=>true
def D.cells:D→List D
 | .agg cs=>cs
 |d=>[d]
inductive Obj where
 |box (cs:List D) (T:Option TypeId:=none)
 |vec (sz:Nat) (es:List (List D))
 |ro (cs:List D)
 |iter (s:ByteArray) (pos:Nat)
 |map (kvs:List (D×D))
 |rng (kvs:List (D×D)) (seen:List Nat)
 |buf (T:TypeId) (bs:List UInt8)
def D.key:D→Bool
 | .int _ _| .str _| .bool _=>true
 |_=>false
def D.keyA:D→Bool
 | .agg cs=>cs.all D.key
 |d=>d.key
abbrev Heap:=Nat→Option Obj
def Heap.set(H:Heap)(b:Nat)(o:Obj):Heap:=fun k=>if k=b then some o else H k
def Heap.del(H:Heap)(b:Nat):Heap:=fun k=>if k=b then none else H k
def Heap.Le(H H':Heap):Prop:=∀b o,H b=some o→H' b=some o
theorem F0(H H':Heap):H.Le H'= ∀b o,H b=some o→H' b=some o:=rfl
theorem D3(H:Heap)(b:Nat)(o:Obj)(k:Nat):H.set b o k=if k=b then some o else H k:=rfl
theorem D4(H:Heap)(b:Nat)(k:Nat):H.del b k=if k=b then none else H k:=rfl
def Obj.rw:Obj→Bool
 | .ro _=>false
 |_=>true
def Heap.held(H:Heap)(k:Nat):Bool:=match H k with
 |some o=>o.rw
 |none=>false
theorem G7{H:Heap}{k:Nat}(h:H k=none):H.held k=false:=by unfold Heap.held;rw[h]
theorem I1{H:Heap}{k:Nat}{o:Obj}(h:H k=some o):H.held k=o.rw:=by unfold Heap.held;rw[h]
theorem l9{H H':Heap}{k:Nat}(h:H' k=H k):H'.held k=H.held k:=by unfold Heap.held;rw[h]
inductive R(w:World)(H:Heap):D→Value→Prop
 |undef (v:Value):R w H .undef v
 |bool (b:Bool):R w H (.bool b) (.bool b)
 |int (k:IntKind) (n:Int):R w H (.int k n) (.int k n)
 |str (s:ByteArray):R w H (.str s) (.string s)
 |nilp:R w H .nilp (.pointer none)
 |box (b off:Nat):R w H (.box b off) (.pointer (some ⟨b,off,none⟩))
 |el (b sz i off:Nat):R w H (.el b sz i off) (.pointer (some ⟨b,i*sz+off,none⟩))
 |ro (cs:List D) (b off:Nat) (u:Nat→Value) (hb:b<w.heap.size) (hn:H.held b=false)
   (hc: ∀j,j<cs.length→w.cell? ⟨b,off+j,none⟩=some (u j)) (h1: ∀(j:Nat) (d:D),cs[j]? =some d→d.one=true)
   (hr: ∀(j:Nat) (d:D),cs[j]? =some d→R w H d (u j)):R w H (.ro cs) (.pointer (some ⟨b,off,none⟩))
 |nilsl:R w H .nilsl (.slice none 0 0)
 |sl0 (sz:Nat) (a:Option Addr) (cap:Nat):R w H (.sl sz []) (.slice a 0 cap)
 |sl (sz:Nat) (es:List (List D)) (b off cap:Nat) (u:Nat→Nat→Value) (hb:b<w.heap.size) (hn:H.held b=false)
   (hlen: ∀(i:Nat) (e:List D),es[i]? =some e→e.length=sz) (hcap:es.length≤cap)
   (hc: ∀i j,i<es.length→j<sz→w.cell? ⟨b,off+i*sz+j,none⟩=some (u i j))
   (h1: ∀(i:Nat) (e:List D) (j:Nat) (d:D),es[i]? =some e→e[j]? =some d→d.one=true)
   (hr: ∀(i:Nat) (e:List D) (j:Nat) (d:D),es[i]? =some e→e[j]? =some d→R w H d (u i j)):R w H (.sl sz es) (.slice (some ⟨b,off,none⟩) es.length cap)
 |vec (b sz lo n cap:Nat) (T:TypeId) (m:Nat) (hb:w.shape? b=some (T,m)) (hs:m=(lo+cap)*sz) (hsz:0<sz) (hn:n≤cap):
   R w H (.vec b sz lo n) (.slice (some ⟨b,lo*sz,none⟩) n cap)
 |vec0 (b sz lo off:Nat):R w H (.vec b sz lo 0) (.slice (some ⟨b,off,none⟩) 0 0)
 |agg (cs:List D) (vs:Array Value) (hl:cs.length=vs.size) (h1: ∀(i:Nat) (d:D),cs[i]? =some d→d.one=true) (hr: ∀(i:Nat) (d:D),cs[i]? =some d→R w H d (vs.getD i Go.undef)):
   R w H (.agg cs) (.agg vs)
 |tuple (ds:List D) (vs:Array Value) (hl:ds.length=vs.size) (hr: ∀(i:Nat) (d:D),ds[i]? =some d→R w H d (vs.getD i Go.undef)):R w H (.tuple ds) (.tuple vs)
 |fn (f:Fn) (ds es:List D) (vs us:Array Value) (hl:ds.length=vs.size) (hm:es.length=us.size)
   (hr: ∀(i:Nat) (d:D),ds[i]? =some d→R w H d (vs.getD i Go.undef)) (hq: ∀(i:Nat) (d:D),es[i]? =some d→R w H d (us.getD i Go.undef)):R w H (.fn f ds es) (.func f vs us)
 |nilfn:R w H .nilfn .nilFunc
 |iface (t:TypeId) (d:D) (v:Value) (hr:R w H d v):R w H (.iface t d) (.iface t v)
 |nilif:R w H .nilif .nilIface
 |glob (g:Nat):R w H (.glob g) (.pointer (some ⟨g,0,none⟩))
 |map (b:Nat):R w H (.map b) (.map (some b))
 |nilmap:R w H .nilmap (.map none)
 |fm (kvs:List (D×D)) (b:Nat) (es:Array MapEntry) (ck:Nat) (hb:w.heap[b]? =some (.map es ck)) (hn:H.held b=false) (hst:MapKept.Stamped es ck) (hl:es.size=kvs.length)
   (hk: ∀(i:Nat) (p:D×D),kvs[i]? =some p→p.1.keyA=true) (hr: ∀(i:Nat) (p:D×D),kvs[i]? =some p→R w H p.1 (es.getD i default).key)
   (hv: ∀(i:Nat) (p:D×D),kvs[i]? =some p→R w H p.2 (es.getD i default).val):R w H (.fm kvs) (.map (some b))
structure Ext(H:Heap)(w w':World):Prop where
 os:w'.os=w.os
 tape:w'.tape=w.tape
 output:w'.output=w.output
 size:w.heap.size≤w'.heap.size
 block: ∀k,k<w.heap.size→H.held k=false→w'.heap[k]? =w.heap[k]?
 shape: ∀k,k<w.heap.size→w'.shape? k=w.shape? k
def From(w:World)(H H':Heap):Prop:=∀k,k<w.heap.size→H.held k=false→H'.held k=false
theorem B5U{w:World}{b:Nat}{x:TypeId×Nat}(h:w.shape? b=some x):b<w.heap.size:=by
 unfold World.shape? at h;by_cases hb:b<w.heap.size
 ·exact hb
 ·simp[Array.getElem?_eq_none (Nat.le_of_not_lt hb)]at h
theorem Ext.cell{H:Heap}{w w':World}(h:Ext H w w'){b off:Nat}(hb:b<w.heap.size)(hn:H.held b=false):
  w'.cell? ⟨b,off,none⟩=w.cell? ⟨b,off,none⟩:=World.cell?_of_block (w:=w) (h.block b hb hn)
theorem T8{w:World}{b:Nat}{o:Go.Obj}(h:w.heap[b]? =some o):b<w.heap.size:=(D1g.1 h).1
theorem R.mono{w w':World}{H H':Heap}{d:D}{v:Value}(h:R w H d v)(he:Ext H w w')(q:From w H H'):R w' H' d v:=by
 induction h with
 |ro cs b off u hb hn hc h1 _ o=>exact .ro cs b off u (D2D hb he.size) (q b hb hn) (fun j r=>by rw[he.cell hb hn];exact hc j r) h1 o
 |sl sz es b off cap u hb hn hlen hcap hc h1 _ o=>
  exact .sl sz es b off cap u (D2D hb he.size) (q b hb hn) hlen hcap (fun i j x r=>by rw[he.cell hb hn];exact hc i j x r) h1 o
 |vec b sz lo n cap T m hb hs hsz hn=>exact .vec b sz lo n cap T m (by rw[he.shape b (B5U hb)];exact hb) hs hsz hn
 |vec0 b sz lo off=>exact .vec0 b sz lo off
 |agg cs vs hl h1 _ o=>exact .agg cs vs hl h1 o
 |tuple ds vs hl _ o=>exact .tuple ds vs hl o
 |fn f ds es vs us hl hm _ _ o p=>exact .fn f ds es vs us hl hm o p
 |iface t d v _ o=>exact .iface t d v o
 |fm kvs b es ck hb hn hst hl hk _ _ o p=>exact .fm kvs b es ck (by rw[he.block b (T8 hb) hn];exact hb) (q b (T8 hb) hn) hst hl hk o p
 |_=>constructor
theorem Ext.refl(H:Heap)(w:World):Ext H w w:=⟨rfl,rfl,rfl,D1b _,fun _ _ _=>rfl,fun _ _=>rfl⟩
theorem D2p:type_of% @Ext.refl:=@Ext.refl
theorem From.refl(w:World)(H:Heap):From w H H:=fun _ _ h=>h
theorem D2o:type_of% @From.refl:=@From.refl
theorem Ext.trans{H H':Heap}{a b c:World}(h:Ext H a b)(m:From a H H')(k:Ext H' b c):Ext H a c:=
  ⟨k.os.trans h.os,k.tape.trans h.tape,k.output.trans h.output,D2N h.size k.size,
   fun i j hn=>(k.block i (D2D j h.size) (m i j hn)).trans (h.block i j hn),
   fun i j=>(k.shape i (D2D j h.size)).trans (h.shape i j)⟩
theorem From.trans{H H' j:Heap}{a b:World}(h:From a H H')(hs:a.heap.size≤b.heap.size)(k:From b H' j):From a H j:=
 fun i m hn=>k i (D2D m hs) (h i m hn)
theorem Heap.Le.refl(H:Heap):H.Le H:=fun _ _ h=>h
theorem D2i:type_of% @Heap.Le.refl:=@Heap.Le.refl
theorem Heap.Le.trans{A B C:Heap}(h:A.Le B)(k:B.Le C):A.Le C:=fun b o x=>k b o (h b o x)
theorem Heap.Le.held{A B:Heap}(h:A.Le B){b:Nat}(hb:B.held b=false):A.held b=false:=by
 cases i:A b with
 |none=>exact G7 i
 |some o=>rw[I1 i,←I1 (h b o i)];exact hb
theorem Heap.Le.none{A B:Heap}(h:A.Le B){b:Nat}(hb:B b=none):A b=none:=by
 cases i:A b with
 |none=>rfl
 |some o=>rw[h b o i]at hb;cases hb
theorem R.less{w:World}{H H':Heap}{d:D}{v:Value}(h:R w H d v)(hl:H'.Le H):R w H' d v:=
 h.mono (D2p H w) fun _ _ hn=>hl.held hn
def ObjOk(w:World)(H:Heap)(b:Nat):Obj→Prop
 | .box cs Z=>∃c T lo hi,w.heap[b]? =some (.cells c T (lo,hi))∧(∀j,j<c.size→¬(lo≤j∧j<hi))∧c.size=cs.length∧(∀(j:Nat) (d:D),cs[j]? =some d→d.one=true∧R w H d (c.getD j Go.undef))∧∀t,Z=some t→T=t
 | .vec sz es=>∃c T lo hi,w.heap[b]? =some (.cells c T (lo,hi))∧(∀j,j<c.size→¬(lo≤j∧j<hi))∧0<sz∧es.length*sz≤c.size∧(∀(i:Nat) (e:List D),es[i]? =some e→e.length=sz)∧
   ∀(i:Nat) (e:List D) (j:Nat) (d:D),es[i]? =some e→e[j]? =some d→d.one=true∧R w H d (c.getD (i*sz+j) Go.undef)
 | .ro cs=>∃c T fz,w.heap[b]? =some (.cells c T fz)∧c.size=cs.length∧∀(j:Nat) (d:D),cs[j]? =some d→d.one=true∧R w H d (c.getD j Go.undef)
 | .iter s pos=>w.heap[b]? =some (.stringIter s pos)
 | .buf T bs=>∃c,w.heap[b]? =some (.cells c T (0,0))∧bs.length≤c.size∧c.size≤9223372036854775807∧c.toList.take bs.length=bs.map fun x=>Value.int .u8 x.toNat
 | .rng kvs seen=>∃m es ck sn,w.heap[b]? =some (.mapIter (some m) ck sn ck)∧w.heap[m]? =some (.map es ck)∧H.held m=false∧MapKept.Stamped es ck∧es.size=kvs.length∧
   (∀(i:Nat) (p:D×D),kvs[i]? =some p→p.1.keyA=true∧R w H p.1 (es.getD i default).key∧R w H p.2 (es.getD i default).val)∧(∀i∈seen,i<kvs.length)∧sn.toList=seen.map fun i=>(es.getD i default).born
 | .map kvs=>∃es clock,w.heap[b]? =some (.map es clock)∧MapKept.Stamped es clock∧es.size=kvs.length∧
   ∀(i:Nat) (p:D×D),kvs[i]? =some p→p.1.keyA=true∧R w H p.1 (es.getD i default).key∧R w H p.2 (es.getD i default).val
def Sat(H:Heap)(w:World):Prop:=∀b o,H b=some o→ObjOk w H b o
theorem ObjOk.mono{w w':World}{H H':Heap}{b:Nat}{o:Obj}(h:ObjOk w H b o)(he:Ext H w w')(x:From w H H')(hb:w'.heap[b]? =w.heap[b]?):ObjOk w' H' b o:=by
 cases o with
 |box cs Z=>obtain⟨c,T,lo,z,h1,A,q,r,u⟩:=h;exact⟨c,T,lo,z,hb.trans h1,A,q,fun j d hd=>⟨(r j d hd).1,(r j d hd).2.mono he x⟩,u⟩
 |vec sz es=>obtain⟨c,T,lo,z,h1,A,q,r,u,h5⟩:=h;exact⟨c,T,lo,z,hb.trans h1,A,q,r,u,fun i e j d y hd=>⟨(h5 i e j d y hd).1,(h5 i e j d y hd).2.mono he x⟩⟩
 |ro cs=>obtain⟨c,T,I,h1,q,r⟩:=h;exact⟨c,T,I,hb.trans h1,q,fun j d hd=>⟨(r j d hd).1,(r j d hd).2.mono he x⟩⟩
 |iter s pos=>exact hb.trans h
 |buf T bs=>obtain⟨c,h1,q⟩:=h;exact⟨c,hb.trans h1,q⟩
 |rng kvs seen=>obtain⟨m,es,ck,J,h1,q,r,u,h5,G,M,O⟩:=h;exact⟨m,es,ck,J,hb.trans h1,by rw[he.block m (T8 q) r];exact q,x m (T8 q) r,u,h5,fun i p hp=>⟨(G i p hp).1,(G i p hp).2.1.mono he x,(G i p hp).2.2.mono he x⟩,M,O⟩
 |map kvs=>obtain⟨es,ck,h1,q,r,u⟩:=h;exact⟨es,ck,hb.trans h1,q,r,fun i p hp=>⟨(u i p hp).1,(u i p hp).2.1.mono he x,(u i p hp).2.2.mono he x⟩⟩
theorem Sat.less{w:World}{H H':Heap}(h:Sat H w)(hl:H'.Le H):Sat H' w:=
 fun b o hb=>(h b o (hl b o hb)).mono (D2p H w) (fun _ _ hn=>hl.held hn) rfl
theorem From.less{w:World}{H H' i:Heap}(h:From w H H')(hl:i.Le H'):From w H i:=fun k hk hn=>hl.held (h k hk hn)
theorem Sat.lt{w:World}{H:Heap}(h:Sat H w){b:Nat}{o:Obj}(hb:H b=some o):b<w.heap.size:=by
 have:=h b o hb;by_cases i:b<w.heap.size
 ·exact i
 ·have hn:=Array.getElem?_eq_none (Nat.le_of_not_lt i);cases o with
  |ro cs=>obtain⟨c,T,j,h1,_⟩:=this;rw[hn]at h1;cases h1
  |iter s pos=>rw[show w.heap[b]? =some (.stringIter s pos)from this]at hn;cases hn
  |buf T bs=>obtain⟨c,h1,_⟩:=this;rw[hn]at h1;cases h1
  |map kvs=>obtain⟨es,ck,h1,_⟩:=this;rw[hn]at h1;cases h1
  |rng kvs seen=>obtain⟨m,es,ck,p,h1,_⟩:=this;rw[hn]at h1;cases h1
  |_=>obtain⟨c,T,lo,q,h1,_⟩:=this;rw[hn]at h1;cases h1
theorem Sat.fresh{w:World}{H:Heap}(h:Sat H w){b:Nat}(hb:w.heap.size≤b):H b=none:=by
 cases ho:H b with
 |none=>rfl
 |some o=>exact absurd (h.lt ho) (by omega)
theorem Ext.alloc(H:Heap)(w:World)(o:Go.Obj):Ext H w (w.alloc o):=by
 refine⟨rfl,rfl,rfl,by simp,fun k hk _=>Go.RowKit.Below.heap_alloc _ _ _ hk,fun k hk=>?_⟩;unfold World.shape?;rw[Go.RowKit.Below.heap_alloc _ _ _ hk]
theorem Ext.drewN(H:Heap)(w:World)(n:Nat):Ext H w {w with drawn:=w.drawn+n}:=⟨rfl,rfl,rfl,D1b _,fun _ _ _=>rfl,fun _ _=>rfl⟩
inductive Cls where
 |pure|load|eff
 deriving DecidableEq
def I4(P:Program):Op→Cls
 | .move _| .assign _| .pick .. | .build .. | .nilCheck _| .binOp .. | .unOp .. | .fieldAddr .. | .field .. | .indexAddr .. | .index .. | .slice .. | .extract .. | .makeInterface .. | .makeFunc .. =>.pure
 | .convert s d _=>match P.underlying s,P.underlying d with
  |some (.int _),some (.int _)=>.pure
  |some .string,some .string=>.pure
  |some (.int _),some .string=>.pure
  |_,_=>.eff
 | .call c=>match c.callee with
  | .builtin .len=>match (c.argTypes[0]?).bind P.underlying with
   |some (.map ..)=>.eff
   |_=>.pure
  | .builtin .cap| .builtin .min| .builtin .max=>.pure
  |_=>.eff
 | .load .. =>.load
 |_=>.eff
def effPost(P:Program)(next:Value→World→Prop):Result Next→Prop
 | .ok (.value v) w'=>next v w'
 | .ok .skip w'=>next undef w'
 | .ok (.enter f args) w'=>Calls P f args w' fun e w''=>∃v,e= .returned v∧next v w''
 |_=>False
def Keep(F:Option (Bool×List Nat))(w w':World):Prop:=match F with
 |none=>w'=w
 |some (_,l)=>∀k∈l,w'.heap[k]? =w.heap[k]?
def A1C:Op→Bool
 | .store .. =>true
 |_=>false
def B5V(F:Option (Bool×List Nat))(o:Op)(w w':World):Prop:=match F with
 |none=>True
 |some (sx,l)=>(sx=false∧A1C o=true)∨∀k∈l,w'.heap[k]? =w.heap[k]?
theorem Keep.refl(F:Option (Bool×List Nat))(w:World):Keep F w w:=by
 unfold Keep;split
 ·rfl
 ·exact fun _ _=>rfl
theorem Keep.trans{F:Option (Bool×List Nat)}{a b c:World}(h:Keep F a b)(k:Keep F b c):Keep F a c:=by
 unfold Keep at*;split
 ·simp only at h k;rw[k,h]
 ·simp only at h k;exact fun i j=>(k i j).trans (h i j)
def opSem(P:Program)(F:Option (Bool×List Nat))(o:Oper)(a:Act)(w:World)(next:Value→World→Prop):Prop:=
 match I4 P o.op with
 | .pure=>∃v,(∀w',(execOp a.eval o).run P w'= .ok (.value v) w')∧next v w
 | .load=>∃v,(∀w',Keep F w w'→(execOp a.eval o).run P w'= .ok (.value v) w')∧next v w
 | .eff=>effPost P (fun v w'=>B5V F o.op w w'∧next v w') ((execOp a.eval o).run P w)
theorem effPost.mono{P:Program}{next i:Value→World→Prop}{r:Result Next}(h:effPost P next r)(hn: ∀v w,next v w→i v w):effPost P i r:=by
 unfold effPost at*;split at h<;>try exact h.elim
 ·exact hn _ _ h
 ·exact hn _ _ h
 ·exact h.mono fun e j ⟨v,he,hv⟩=>⟨v,he,hn _ _ hv⟩
theorem opSem.mono{P:Program}{F:Option (Bool×List Nat)}{o:Oper}{a:Act}{w:World}{next i:Value→World→Prop}(h:opSem P F o a w next)(hn: ∀v w,next v w→i v w):opSem P F o a w i:=by
 unfold opSem at*;split at h
 ·obtain⟨v,hr,hv⟩:=h;exact⟨v,hr,hn _ _ hv⟩
 ·obtain⟨v,hr,hv⟩:=h;exact⟨v,hr,hn _ _ hv⟩
 ·exact h.mono fun v w' j=>⟨j.1,hn _ _ j.2⟩
theorem opSem.wp{P:Program}{F:Option (Bool×List Nat)}{o:Oper}{a:Act}{w:World}{K:Act→World→Prop}{Q:Exit→Act→World→Prop}
  (h:opSem P F o a w fun v w'=>K (a.put o.dst v) w'):o.wp P a w K Q:=by
 unfold Oper.wp;unfold opSem at h;split at h
 ·obtain⟨v,hr,hv⟩:=h;rw[hr w];exact hv
 ·obtain⟨v,hr,hv⟩:=h;rw[hr w (Keep.refl F w)];exact hv
 ·unfold effPost at h;split at h<;>try exact h.elim
  ·rename_i hr;rw[hr];exact h.2
  ·rename_i hr;rw[hr];exact h.2
  ·rename_i hr;rw[hr];refine h.mono fun e i ⟨v,he,_,hv⟩=>?_;subst he;exact hv
def wpA(P:Program)(F:Option (Bool×List Nat))(ops:Array Oper)(K:Act→World→Prop):List Oper→Act→World→Prop
 | [],a,w=>K a w
 |o::l,a,w=>
  if Region.wanted o (yielded ops a.tmps)then opSem P F o a w fun v w'=>wpA P F ops K l (a.put o.dst v) w' else wpA P F ops K l (a.put o.dst undef) w
def wpI(P:Program)(F:Option (Bool×List Nat))(ops:Array Oper)(K:Act→World→Prop):List Nat→Act→World→Prop
 | [],a,w=>K a w
 |i::l,a,w=>match ops[i]? with
  |none=>wpI P F ops K l a w
  |some o=>if Region.wanted o (yielded ops a.tmps)then opSem P F o a w fun v w'=>wpI P F ops K l (a.put o.dst v) w' else wpI P F ops K l (a.put o.dst undef) w
theorem B36{P:Program}{F:Option (Bool×List Nat)}{ops:Array Oper}{K:Act→World→Prop}{Q:Exit→Act→World→Prop}(m: ∀a w,K a w→Q .normal a w):
  ∀(l:List Nat) (a:Act) (w:World),wpI P F ops K l a w→wpOps P ops Q l a w:=by
 intro l
 induction l with
 |nil=>exact fun a w h=>m a w h
 |cons i l j=>
  intro a w h;unfold wpI at h;unfold wpOps;split at h
  ·rename_i hn;simp only[hn];exact j _ _ h
  ·rename_i o ho;simp only[ho];split at h
   ·rename_i hw;rw[if_pos hw];exact .inl (opSem.wp (h.mono fun v w' hv=>j _ _ hv))
   ·rename_i hw;rw[if_neg hw];exact j _ _ h
theorem B84{P:Program}{F:Option (Bool×List Nat)}{ops:Array Oper}{K:Act→World→Prop}: ∀(l:List Oper) (k:Nat),(∀j,l[j]? =ops[k+j]?)→
  wpA P F ops K l=wpI P F ops K (List.range' k l.length):=by
 intro l
 induction l with
 |nil=>intro k _;funext a w;simp[wpA,wpI]
 |cons o l m=>
  intro k h;have p:ops[k]? =some o:=by simpa using(h 0).symm
  have i:=m (k+1) (fun j=>by have:=h (j+1);simpa [Nat.add_assoc,Nat.add_comm 1 j]using this)
  funext a w
  simp only[D1M,List.range'_succ,wpA,wpI,p,i]
theorem B85{P:Program}{F:Option (Bool×List Nat)}{ops:Array Oper}{K:Act→World→Prop}:wpA P F ops K ops.toList=wpI P F ops K (List.range ops.size):=by
 rw[B84 ops.toList 0 (by simp),List.range_eq_range',D18]
theorem y0{P:Program}{F:Option (Bool×List Nat)}{id:Nat}{ops:Array Oper}{K:Act→World→Prop}{Q:Exit→Act→World→Prop}{a:Act}{w:World}
  (i: ∀a w,K a w→Q .normal a w) (h:wpA P F ops K ops.toList a w):(Code.region id ops false).wp P Q a w:=by
 rw[B85]at h;exact wp_region (B36 i _ _ _ h)
inductive R1 where
 |bool|int|str|ptr|slice|iface|func|map|struct|other
 deriving DecidableEq
def C7(P:Program)(t:TypeId):R1:=match P.underlying t with
 |some .bool=>.bool|some (.int _)=>.int|some .string=>.str|some (.pointer _)=>.ptr|some (.slice _)=>.slice
 |some (.interface _)=>.iface|some (.func ..)=>.func|some (.map ..)=>.map|some (.struct _)=>.struct|_=>.other
def G6(P:Program)(t:TypeId):Option (Nat×Nat×Nat):=match P.underlying t with
 |some (.slice e)=>(P.info? e).map fun i=>(e,i.size,i.bytes)
 |_=>none
def B1g(P:Program)(t:TypeId):Option (Nat×Nat):=match P.underlying t with
 |some (.array n e)=>(P.info? e).map fun i=>(n,i.size)
 |_=>none
def F7(P:Program)(t:TypeId):Option (Bool×Nat):=match P.underlying t,P.info? t with
 |some (.struct _),some i=>some (true,i.size)
 |some (.array ..),some i=>some (true,i.size)
 |some _,some i=>some (false,i.size)
 |_,_=>none
def L5(P:Program)(t:TypeId):Option (List (Nat×Bool×Nat)):=match P.underlying t with
 |some (.struct fs)=>fs.toList.mapM fun f=>(F7 P f.type).map fun s=>(f.offset,s.1,s.2)
 |_=>none
def D.ofCell:Value→D
 | .bool b=>.bool b
 | .int k n=>.int k n
 | .string s=>.str s
 | .pointer none=>.nilp
 | .slice none 0 0=>.nilsl
 | .nilIface=>.nilif
 | .nilFunc=>.nilfn
 | .map none=>.nilmap
 |_=>.undef
def D.ofValue:Value→D
 | .agg vs=>if(vs.toList.map D.ofCell).all D.one then .agg (vs.toList.map D.ofCell)else .undef
 |v=>D.ofCell v
theorem A1l(w:World)(H:Heap)(v:Value):R w H (D.ofCell v) v:=by
 cases v with
 |pointer a=>cases a<;>constructor
 |map a=>cases a<;>constructor
 |slice a n c=>
  unfold D.ofCell;split<;>rename_i h<;>first|(cases h<;>constructor)|constructor
 |_=>constructor
theorem A2J(w:World)(H:Heap)(v:Value):R w H (D.ofValue v) v:=by
 unfold D.ofValue;split
 ·rename_i vs;split
  ·rename_i h;refine .agg _ _ (by simp) (fun i d hd=>?_) (fun i d hd=>?_)
   ·exact D1s.1 h d (D1o hd)
   ·simp only[D1e,D1Q]at hd;obtain⟨u,j,rfl⟩:=hd;have:vs.getD i Go.undef=u:=by
     have m:vs[i]? =some u:=by simpa using j
     simp[m]
    rw[this];exact A1l w H u
  ·constructor
 ·exact A1l w H v
abbrev Env:=List (Nat×D)
def Env.get:Env→Nat→D
 | [],_=>.undef
 |(i,d)::E,j=>if i=j then d else Env.get E j
def Env.put(E:Env):Option Nat→D→Env
 |some i,d=>(i,d)::E
 |none,_=>E
def Env.ev(E:Env):Operand→D
 | .tmp t=>E.get t
 | .const v=>D.ofValue v
 | .global g=>.glob g
 | .func f=>.fn (.func f) [] []
def S9(s:ByteArray)(i:Int):Int:=((s.data.toList.getD i.toNat 0).toNat:Int)
def A3I(op:BinOp)(k:IntKind)(a b:Int):Option D:=match op with
 | .add=>some (.int k (k.wrap (a+b)))
 | .sub=>some (.int k (k.wrap (a-b)))
 | .mul=>some (.int k (k.wrap (a*b)))
 | .quo=>if b=0 then none else some (.int k (k.wrap (a.tdiv b)))
 | .rem=>if b=0 then none else some (.int k (a.tmod b))
 | .and=>some (.int k (k.wrap (BitVec.ofInt k.bits a&&&BitVec.ofInt k.bits b).toNat))
 | .or=>some (.int k (k.wrap (BitVec.ofInt k.bits a|||BitVec.ofInt k.bits b).toNat))
 | .xor=>some (.int k (k.wrap (BitVec.ofInt k.bits a ^^^ BitVec.ofInt k.bits b).toNat))
 | .andNot=>some (.int k (k.wrap (BitVec.ofInt k.bits a&&& ~~~ BitVec.ofInt k.bits b).toNat))
 | .eql=>some (.bool (a==b))
 | .neq=>some (.bool (a != b))
 | .lss=>some (.bool (decide (a<b)))
 | .leq=>some (.bool (decide (a≤b)))
 | .gtr=>some (.bool (decide (b<a)))
 | .geq=>some (.bool (decide (b≤a)))
 |_=>none
def C2r(op:BinOp)(x y:ByteArray):Option D:=match op with
 | .add=>if x.size+y.size≤9223372036854775807 then some (.str (x++y))else none
 | .eql=>some (.bool (x.data.toList==y.data.toList))
 | .neq=>some (.bool (!(x.data.toList==y.data.toList)))
 | .lss=>some (.bool (Op.bytesLess x.data.toList y.data.toList))
 | .leq=>some (.bool (Op.bytesLess x.data.toList y.data.toList||x.data.toList==y.data.toList))
 | .gtr=>some (.bool (!(Op.bytesLess x.data.toList y.data.toList||x.data.toList==y.data.toList)))
 | .geq=>some (.bool (!(Op.bytesLess x.data.toList y.data.toList)))
 |_=>none
def A9l(b:R1):D→Option Bool
 | .nilp=>if b= .ptr then some true else none
 | .box .. | .el .. | .ro _| .glob _=>if b= .ptr then some false else none
 | .nilsl=>if b= .slice then some true else none
 | .vec .. =>if b= .slice then some false else none
 | .sl _ (_::_)=>if b= .slice then some false else none
 | .nilfn=>if b= .func then some true else none
 | .fn .. =>if b= .func then some false else none
 | .nilif=>if b= .iface then some true else none
 | .iface .. =>if b= .iface then some false else none
 |_=>none
def A5p(b:R1)(x y:D):Option Bool:=match A9l b x,A9l b y with
 |some true,some c=>some c
 |some c,some true=>some c
 |_,_=>none
def J3:Operand→Bool
 | .const _=>true
 |_=>false
def K7(P:Program)(op:BinOp)(t:TypeId)(cst:Bool)(x y:D):Option D:=match op,x,y with
 | .shl,.int k a,.int _ b=>if b<0 then none else some (.int k (k.wrap (a*2 ^ (min b.toNat k.bits))))
 | .shr,.int k a,.int _ b=>if b<0 then none else some (.int k (a.fdiv (2 ^ (min b.toNat k.bits))))
 |op,.int k a,.int k' b=>if k=k' then A3I op k a b else none
 |op,.str a,.str b=>C2r op a b
 | .eql,.bool a,.bool b=>if C7 P t= .bool then some (.bool (a==b))else none
 | .neq,.bool a,.bool b=>if C7 P t= .bool then some (.bool (!(a==b)))else none
 | .eql,x,y=>if cst then(A5p (C7 P t) x y).map .bool else none
 | .neq,x,y=>if cst then(A5p (C7 P t) x y).map fun b=>.bool (!b)else none
 |_,_,_=>none
def A1D(P:Program)(t:TypeId):Option (List (Nat×R1)):=if P.eqGuardType P.depth t=false∧P.stoodInHeld t=false then match P.underlying t with
 |some (.struct fs)=>fs.toList.mapM fun f=>if f.name≠ "_" ∧F7 P f.type=some (false,1)∧(C7 P f.type= .bool∨C7 P f.type= .int∨C7 P f.type= .str)then some (f.offset,C7 P f.type)else none
 |_=>none else none
def V0:R1→D→D→Option Bool
 | .int,.int k a,.int k' b=>if k=k' then some (a==b)else none
 | .str,.str a,.str b=>some (a.data.toList==b.data.toList)
 | .bool,.bool a,.bool b=>some (a==b)
 |_,_,_=>none
def V1:List (Nat×R1)→List D→List D→Option Bool
 | [],_,_=>some true
 |(o,bs)::fs,xs,ys=>match xs[o]?,ys[o]? with
  |some x,some y=>(V0 bs x y).bind fun c=>(V1 fs xs ys).map (c&& ·)
  |_,_=>none
def A1m(P:Program)(op:BinOp)(t:TypeId)(cst:Bool)(x y:D):Option D:=match op,x,y with
 | .eql,.agg xs,.agg ys=>(A1D P t).bind fun fs=>(V1 fs xs ys).map .bool
 | .neq,.agg xs,.agg ys=>(A1D P t).bind fun fs=>(V1 fs xs ys).map fun b=>.bool (!b)
 |op,x,y=>K7 P op t cst x y
def y3(s:Bool×Nat)(cs:List D):Option D:=match s with
 |(true,n)=>if n≤cs.length then some (.agg (cs.take n))else none
 |(false,_)=>cs.head?
def P4:List D→Nat→List D→List D
 |cs,_,[]=>cs
 |cs,i,x::xs=>P4 (cs.set i x) (i+1) xs
def l5(place:Nat→Option (Nat×Nat))(cells:List D):List (Nat×D)→Option (List D)
 | []=>some cells
 |(i,d)::rest=>match place i with
  |none=>none
  |some (off,size)=>if d.cells.length=size∧off+size≤cells.length∧d.cells.all D.one=true then l5 place (P4 cells off d.cells) rest else none
def G4(P:Program)(t:TypeId):Option (List D):=((P.info? t).bind (·.zero)).bind fun v=>
 if(v.cells.toList.map D.ofCell).all D.one then some (v.cells.toList.map D.ofCell)else none
def boundsD(len:Nat)(lo hi:Option D):Option (Nat×Nat):=match lo,hi with
 |none,none=>some (0,len)
 |some (.int _ l),none=>if 0≤l∧l≤len then some (l.toNat,len)else none
 |none,some (.int _ h)=>if 0≤h∧h≤len then some (0,h.toNat)else none
 |some (.int _ l),some (.int _ h)=>if 0≤l∧l≤h∧h≤len then some (l.toNat,h.toNat)else none
 |_,_=>none
def T9(P:Program)(t:TypeId)(x:D)(lo hi:Option D):Option D:=match x with
 | .str s=>if C7 P t= .str then(boundsD s.size lo hi).map fun b=>.str (s.extract b.1 b.2)else none
 | .nilsl=>if(G6 P t).isSome then(boundsD 0 lo hi).map fun _=>.nilsl else none
 | .sl sz es=>if(G6 P t).map (·.2.1)=some sz then(boundsD es.length lo hi).map fun b=>.sl sz ((es.take b.2).drop b.1)else none
 | .vec b sz l n=>if(G6 P t).map (·.2.1)=some sz then(boundsD n lo hi).map fun p=>if p.1=0 then .vec b sz l p.2 else .vec b sz (l+p.1) (p.2-p.1)else none
 |_=>none
def A5q(P:Program)(t:TypeId):D→Option D
 | .str s=>if C7 P t= .str then some (.int .i64 s.size)else none
 | .nilsl=>if C7 P t= .slice then some (.int .i64 0)else none
 | .sl _ es=>if C7 P t= .slice then some (.int .i64 es.length)else none
 | .vec _ _ _ n=>if C7 P t= .slice then some (.int .i64 n)else none
 |_=>none
def Q2(P:Program)(t:TypeId)(x i:D):Option D:=match x,i with
 | .sl sz es,.int _ n=>if(G6 P t).map (·.2.1)=some sz∧0≤n∧n<es.length then some (.ro (es.getD n.toNat []))else none
 | .vec b sz l m,.int _ n=>if(G6 P t).map (·.2.1)=some sz∧0≤n∧n<m then some (.el b sz (l+n.toNat) 0)else none
 | .box b off,.int _ n=>match B1g P t with
  |some (len,sz)=>if 0≤n∧n<len then some (.box b (off+n.toNat*sz))else none
  |none=>none
 |_,_=>none
def Y1(P:Program)(t:TypeId)(x:D)(f:Nat):Option D:=match (L5 P t).bind (·[f]?)with
 |some (o,_,n)=>if n=0 then none else match x with
  | .box b off=>some (.box b (off+o))
  | .el b sz i off=>some (.el b sz i (off+o))
  | .ro cs=>some (.ro (cs.drop o))
  |_=>none
 |none=>none
def B1h(P:Program)(t:TypeId)(x:D)(f:Nat):Option D:=match (L5 P t).bind (·[f]?),x with
 |some (o,s),.agg cs=>y3 s (cs.drop o)
 |_,_=>none
def A5r(P:Program)(t:TypeId)(x i:D):Option D:=match x,i with
 | .str s,.int _ n=>if C7 P t= .str∧0≤n∧n<s.size then some (.int .u8 (S9 s n))else none
 |_,_=>none
def B2t:D→D→Option D
 | .int k a,.int _ b=>some (.int k (if b<a then b else a))
 |_,_=>none
def A7M:D→D→Option D
 | .int k a,.int _ b=>some (.int k (if a<b then b else a))
 |_,_=>none
def unD:UnOp→D→Option D
 | .neg,.int k n=>some (.int k (k.wrap (0-n)))
 | .xor,.int k n=>some (.int k (k.wrap (BitVec.ofInt k.bits (if k.signed then-1 else k.max) ^^^ BitVec.ofInt k.bits n).toNat))
 | .not,.bool b=>some (.bool (!b))
 |_,_=>none
def B2u(P:Program)(s t:TypeId):D→Option D
 | .int _ n=>match P.underlying s,P.underlying t with
  |some (.int _),some (.int k)=>some (.int k (k.wrap n))
  |some (.int _),some .string=>some (.str (Utf8.encode n))
  |_,_=>none
 | .str x=>if C7 P s= .str∧C7 P t= .str then some (.str x)else none
 |_=>none
def A7N(f:D→D→Option D):List D→Option D
 | []=>none
 |x::l=>l.foldlM f x
def L1(P:Program)(ev:Operand→D):Op→Option D
 | .move x| .assign x=>some (ev x)
 | .pick c a b=>match ev c with
  | .bool t=>some (if t then ev a else ev b)
  |_=>none
 | .build t parts=>match C7 P t with
  | .struct=>(G4 P t).bind fun z=>(L5 P t).bind fun fs=>(l5 (fun i=>(fs[i]?).map fun f=>(f.1,f.2.2)) z (parts.toList.map fun p=>(p.1,ev p.2))).map .agg
  | .other=>(G4 P t).bind fun z=>(B1g P t).bind fun s=>(l5 (fun i=>some (i*s.2,s.2)) z (parts.toList.map fun p=>(p.1,ev p.2))).map .agg
  |_=>none
 | .nilCheck x=>match ev x with
  | .box b off=>some (.box b off)
  | .el b sz i off=>some (.el b sz i off)
  | .ro cs=>some (.ro cs)
  | .fn (.func f) a b=>some (.fn (.func f) a b)
  |_=>none
 | .binOp op t x y _=>A1m P op t (J3 x||J3 y) (ev x) (ev y)
 | .unOp op _ x=>unD op (ev x)
 | .convert s t x=>B2u P s t (ev x)
 | .fieldAddr s x f=>Y1 P s (ev x) f
 | .field t x f=>B1h P t (ev x) f
 | .indexAddr t x i=>Q2 P t (ev x) (ev i)
 | .index t x i=>A5r P t (ev x) (ev i)
 | .slice t x lo hi none=>T9 P t (ev x) (lo.map ev) (hi.map ev)
 | .extract x i=>match ev x with
  | .tuple ds=>ds[i]?
  |_=>none
 | .makeInterface t x=>if C7 P t= .iface∨(P.underlying t).isNone then none else some (.iface t (ev x))
 | .makeFunc fn first captured=>some (.fn fn (first.toList.map ev) (captured.toList.map ev))
 | .call c=>match c.callee with
  | .builtin .len=>match c.argTypes[0]?,c.args[0]? with
   |some t,some x=>A5q P t (ev x)
   |_,_=>none
  | .builtin .cap=>match c.argTypes[0]?,(c.args[0]?).map ev with
   |some t,some .nilsl=>if C7 P t= .slice then some (.int .i64 0)else none
   |_,_=>none
  | .builtin .min=>A7N B2t (c.args.toList.map ev)
  | .builtin .max=>A7N A7M (c.args.toList.map ev)
  |_=>none
 |_=>none
section
variable {P:Program}
def Runs{α :Type}(P:Program)(s:Sem α)(v: α):Prop:=∀w,s.run P w= .ok v w
theorem Runs.pure{α :Type}(v: α):Runs P (Pure.pure v:Sem α) v:=fun _=>rfl
theorem D2q:type_of% @Runs.pure:=@Runs.pure
theorem Runs.bind{α β :Type}{s:Sem α}{f: α →Sem β}{v: α}{u: β}(h:Runs P s v)(k:Runs P (f v) u):Runs P (s >>=f) u:=fun w=>by
 rw[Sem.run_bind,h w];exact k w
theorem C0{t:TypeId}{d:TypeDesc}(h:P.underlying t=some d):Runs P (underlying t) d:=fun w=>run_underlying h w
theorem N4{t:TypeId}{i:TypeInfo}(h:P.info? t=some i):Runs P (typeInfo t) i:=fun w=>by
 unfold typeInfo;rw[Sem.run_bind];simp[program,Sem.run,Result.andThen,h]
theorem G8{t:TypeId}{i:TypeInfo}(h:P.info? t=some i):Runs P (sizeOf t) i.size:=(N4 h).bind (.pure _)
theorem y4{t:TypeId}{b:Bool}{n:Nat}(h:F7 P t=some (b,n)):Runs P (isAgg t) b∧Runs P (sizeOf t) n:=by
 unfold F7 at h;split at h
 ·rename_i j m;cases h;exact⟨(C0 j).bind (.pure _),G8 m⟩
 ·rename_i j m;cases h;exact⟨(C0 j).bind (.pure _),G8 m⟩
 ·rename_i d i h1 o j m;cases h;refine⟨(C0 j).bind ?_,G8 m⟩;cases d<;>first|exact .pure _|exact absurd rfl (h1 _)|exact absurd rfl (o _ _)
 ·cases h
theorem A4A{t:TypeId}{z:List D}(h:G4 P t=some z): ∃v,Runs P (zeroValue t) v∧z=v.cells.toList.map D.ofCell∧z.all D.one=true:=by
 unfold G4 at h;obtain⟨v,hv,h⟩:=D1T.1 h;obtain⟨i,m,o⟩:=D1T.1 hv;split at h
 ·rename_i j;cases h;refine⟨v,?_,rfl,j⟩;unfold zeroValue;refine(N4 m).bind ?_;rw[o];exact .pure _
 ·cases h
section
variable {w:World} {H:Heap} {v:Value}
theorem R.bool_inv{b:Bool}(h:R w H (.bool b) v):v= .bool b:=by cases h;rfl
theorem R.int_inv{k:IntKind}{n:Int}(h:R w H (.int k n) v):v= .int k n:=by cases h;rfl
theorem R.str_inv{s:ByteArray}(h:R w H (.str s) v):v= .string s:=by cases h;rfl
theorem R.box_inv{b off:Nat}(h:R w H (.box b off) v):v= .pointer (some ⟨b,off,none⟩):=by cases h;rfl
theorem R.el_inv{b sz i off:Nat}(h:R w H (.el b sz i off) v):v= .pointer (some ⟨b,i*sz+off,none⟩):=by cases h;rfl
theorem R.ro_inv{cs:List D}(h:R w H (.ro cs) v): ∃b off,v= .pointer (some ⟨b,off,none⟩):=by cases h;exact⟨_,_,rfl⟩
theorem R.agg_inv{cs:List D}(h:R w H (.agg cs) v): ∃vs,v= .agg vs∧cs.length=vs.size∧(∀(i:Nat) d,cs[i]? =some d→d.one=true)∧∀(i:Nat) d,cs[i]? =some d→R w H d (vs.getD i Go.undef):=by
 cases h;exact⟨_,rfl,by assumption,by assumption,by assumption⟩
theorem R.tuple_inv{cs:List D}(h:R w H (.tuple cs) v): ∃vs,v= .tuple vs∧cs.length=vs.size∧∀(i:Nat) d,cs[i]? =some d→R w H d (vs.getD i Go.undef):=by
 cases h;exact⟨_,rfl,by assumption,by assumption⟩
theorem R.oneCell{d:D}(h:R w H d v)(h1:d.one=true):v.oneCell'=true:=by cases h<;>first|rfl|(simp[D.one]at h1)
theorem R.cells{d:D}(h:R w H d v)(h1:d.cells.all D.one=true):d.cells.length=v.cells.size∧∀(i:Nat) c,d.cells[i]? =some c→R w H c (v.cells.getD i Go.undef):=by
 cases d with
 |agg cs=>
  obtain⟨vs,rfl,hl,_,hr⟩:=h.agg_inv;exact⟨hl,hr⟩
 |_=>
  have j:=h.oneCell (by simpa [D.cells]using h1);have hc:v.cells= #[v]:=by cases v<;>first|rfl|(simp[Value.oneCell']at j)
  rw[hc];refine⟨by simp[D.cells],fun i c hc=>?_⟩;simp only[D.cells]at hc;cases i with
  |zero=>simp at hc;subst hc;simpa using h
  |succ i=>simp at hc
end
theorem A5s{s:Sem Value}{v:Value}(h:Runs P s v):Runs P (do pure (Next.value (←s))) (Next.value v):=h.bind (.pure _)
theorem B37{op:BinOp}{k:IntKind}{a b:Int}{d:D}(h:A3I op k a b=some d)(h1:op≠ .shl)(i:op≠ .shr)(t:TypeId):
  ∃v,Runs P (binOp op t (.int k a) (.int k b)) v∧∀w H,R w H d v:=by
 have key: ∀{d':D} {v:Value},some d'=some d→Runs P (binOp op t (.int k a) (.int k b)) v→(∀w H,R w H d' v)→∃v,Runs P (binOp op t (.int k a) (.int k b)) v∧∀w H,R w H d v:=
  fun he hr j=>by cases he;exact⟨_,hr,j⟩
 cases op<;>simp only[A3I]at h
 case shl=>exact absurd rfl h1
 case shr=>exact absurd rfl i
 case add=>exact key (v:=.int k (k.wrap (a+b))) h (fun w=>by simp[binOp,Op.intArith]) fun _ _=>.int _ _
 case sub=>exact key (v:=.int k (k.wrap (a-b))) h (fun w=>by simp[binOp,Op.intArith]) fun _ _=>.int _ _
 case mul=>exact key (v:=.int k (k.wrap (a*b))) h (fun w=>by simp[binOp,Op.intArith]) fun _ _=>.int _ _
 case quo=>split at h;(· cases h);rename_i hb;exact key (v:=.int k (k.wrap (a.tdiv b))) h (fun w=>by simp[binOp,Op.intDiv,hb]) fun _ _=>.int _ _
 case rem=>split at h;(· cases h);rename_i hb;exact key (v:=.int k (a.tmod b)) h (fun w=>by simp[binOp,Op.intDiv,hb]) fun _ _=>.int _ _
 case and=>exact key h (fun w=>by simp only[binOp,Op.intBits,ne_eq,not_true_eq_false,if_false];rfl) fun _ _=>.int _ _
 case or=>exact key h (fun w=>by simp only[binOp,Op.intBits,ne_eq,not_true_eq_false,if_false];rfl) fun _ _=>.int _ _
 case xor=>exact key h (fun w=>by simp only[binOp,Op.intBits,ne_eq,not_true_eq_false,if_false];rfl) fun _ _=>.int _ _
 case andNot=>exact key h (fun w=>by simp only[binOp,Op.intBits,ne_eq,not_true_eq_false,if_false];rfl) fun _ _=>.int _ _
 case eql=>exact key (v:=.bool (a==b)) h (fun w=>by simp[binOp,Op.intCmp]) fun _ _=>.bool _
 case neq=>exact key (v:=.bool (a != b)) h (fun w=>by simp[binOp,Op.intCmp]) fun _ _=>.bool _
 case lss=>exact key (v:=.bool (decide (a<b))) h (fun w=>by simp[binOp,Op.intCmp]) fun _ _=>.bool _
 case leq=>exact key (v:=.bool (decide (a≤b))) h (fun w=>by simp[binOp,Op.intCmp]) fun _ _=>.bool _
 case gtr=>exact key (v:=.bool (decide (b<a))) h (fun w=>by simp[binOp,Op.intCmp]) fun _ _=>.bool _
 case geq=>exact key (v:=.bool (decide (b≤a))) h (fun w=>by simp[binOp,Op.intCmp]) fun _ _=>.bool _
 all_goals cases h
theorem B38{op:BinOp}{x y:ByteArray}{d:D}(h:C2r op x y=some d)(t:TypeId):
    ∃v,Runs P (binOp op t (.string x) (.string y)) v∧∀w H,R w H d v:=by
  cases op<;>simp only[C2r]at h<;>first
    | (split at h
       · rename_i hs
         cases h;refine⟨.string (x++y),fun w=>?_,fun _ _=>.str _⟩
         have: ¬(((x.size+y.size:Nat):Int) > IntKind.i64.max):=by
           have hm:IntKind.i64.max=9223372036854775807:=by decide
           rw[hm];omega
         simp only[binOp,Op.stringOp,if_neg this];rfl
       · cases h)
    |(cases h;refine⟨_,fun w=>?_,fun _ _=>.bool _⟩;simp only[binOp,Op.stringOp,ByteArray.toList_eq];rfl)
    |cases h
end
section
variable {P:Program}
theorem A7O{t:TypeId}(h:C7 P t= .bool):P.underlying t=some .bool:=by unfold C7 at h;split at h<;>first|assumption|cases h
theorem V2{t:TypeId}(h:C7 P t= .str):P.underlying t=some .string:=by unfold C7 at h;split at h<;>first|assumption|cases h
theorem B5W{t:TypeId}(h:C7 P t= .ptr): ∃e,P.underlying t=some (.pointer e):=by unfold C7 at h;split at h<;>first|exact⟨_,by assumption⟩|cases h
theorem Y2{t:TypeId}(h:C7 P t= .slice): ∃e,P.underlying t=some (.slice e):=by unfold C7 at h;split at h<;>first|exact⟨_,by assumption⟩|cases h
theorem B1i{t:TypeId}(h:C7 P t= .iface): ∃e,P.underlying t=some (.interface e):=by unfold C7 at h;split at h<;>first|exact⟨_,by assumption⟩|cases h
theorem B39{t:TypeId}(h:C7 P t= .func): ∃a b c,P.underlying t=some (.func a b c):=by unfold C7 at h;split at h<;>first|exact⟨_,_,_,by assumption⟩|cases h
theorem A9m{t:TypeId}(h:C7 P t= .struct): ∃e,P.underlying t=some (.struct e):=by unfold C7 at h;split at h<;>first|exact⟨_,by assumption⟩|cases h
theorem V3{t:TypeId}{x:Nat×Nat×Nat}(h:G6 P t=some x):P.underlying t=some (.slice x.1)∧∃i,P.info? x.1=some i∧i.size=x.2.1∧i.bytes=x.2.2:=by
 unfold G6 at h;split at h
 ·rename_i e j;obtain⟨i,m,rfl⟩:=D1Q.1 h;exact⟨j,i,m,rfl,rfl⟩
 ·cases h
def IsNil(b:R1)(c:Bool)(v:Value):Prop:=match b,c with
 | .ptr,true=>v= .pointer none
 | .ptr,false=>∃a,v= .pointer (some a)
 | .slice,true=>v= .slice none 0 0
 | .slice,false=>∃a n k,v= .slice (some a) n k
 | .func,true=>v= .nilFunc
 | .func,false=>∃f a b,v= .func f a b
 | .iface,true=>v= .nilIface
 | .iface,false=>∃t u,v= .iface t u
 |_,_=>False
theorem Z7{b:R1}{d:D}{c:Bool}(h:A9l b d=some c){w:World}{H:Heap}{v:Value}(hr:R w H d v):IsNil b c v:=by
  by_cases i: ∃sz e es,d= .sl sz (e::es)
  · obtain⟨sz,e,es,rfl⟩:=i
    simp only[A9l]at h;split at h
    · rename_i hb;subst hb;cases h;cases hr;exact⟨_,_,_,rfl⟩
    · cases h
  cases d
  case sl sz es=>
    cases es with
    |nil=>cases h
    |cons e es=>exact absurd ⟨_,_,_,rfl⟩ i
  all_goals simp only[A9l]at h
  all_goals first
    |cases h
    | (split at h
       · rename_i hb;subst hb;cases h;cases hr<;>first|rfl|exact⟨_,rfl⟩|exact⟨_,_,rfl⟩|exact⟨_,_,_,rfl⟩
       · cases h)
theorem V4{t:TypeId}{x y:Value}{c:Bool}(hx:IsNil (C7 P t) true x)(i:IsNil (C7 P t) c y):Runs P (Op.equal t x y) c∧Runs P (Op.equal t y x) c:=by
 have hd:Op.maxDepth=9999+1:=rfl;cases hb:C7 P t<;>rw[hb]at hx i<;>first|(exfalso;simp only[IsNil]at hx;done)|skip
 case ptr=>
  obtain⟨e,h⟩:=B5W hb;cases c
  ·obtain⟨a,rfl⟩:=i;simp only[IsNil]at hx;subst hx;unfold Op.equal;rw[hd];exact⟨(C0 h).bind (.pure _),(C0 h).bind (.pure _)⟩
  ·simp only[IsNil]at hx i;subst hx;subst i;unfold Op.equal;rw[hd];exact⟨(C0 h).bind (.pure _),(C0 h).bind (.pure _)⟩
 case slice=>
  obtain⟨e,h⟩:=Y2 hb;cases c
  ·obtain⟨a,n,k,rfl⟩:=i;simp only[IsNil]at hx;subst hx;unfold Op.equal;rw[hd];exact⟨(C0 h).bind (.pure _),(C0 h).bind (.pure _)⟩
  ·simp only[IsNil]at hx i;subst hx;subst i;unfold Op.equal;rw[hd];exact⟨(C0 h).bind (.pure _),(C0 h).bind (.pure _)⟩
 case func=>
  obtain⟨_,_,_,h⟩:=B39 hb;cases c
  ·obtain⟨a,n,k,rfl⟩:=i;simp only[IsNil]at hx;subst hx;unfold Op.equal;rw[hd];exact⟨(C0 h).bind (.pure _),(C0 h).bind (.pure _)⟩
  ·simp only[IsNil]at hx i;subst hx;subst i;unfold Op.equal;rw[hd];exact⟨(C0 h).bind (.pure _),(C0 h).bind (.pure _)⟩
 case iface=>
  obtain⟨e,h⟩:=B1i hb;cases c
  ·obtain⟨a,k,rfl⟩:=i;simp only[IsNil]at hx;subst hx;unfold Op.equal;rw[hd];exact⟨(C0 h).bind (.pure _),(C0 h).bind (.pure _)⟩
  ·simp only[IsNil]at hx i;subst hx;subst i;unfold Op.equal;rw[hd];exact⟨(C0 h).bind (.pure _),(C0 h).bind (.pure _)⟩
theorem J4{op:BinOp}{t:TypeId}{x y:Operand}{a b:Value}(h:(∀vs us,¬(a= .agg vs∧b= .agg us))∧(a= .nilIface→b= .nilIface→(J3 x||J3 y)=true)):
  Runs P (eqGuard op t x y a b) ():=by
 unfold eqGuard;cases op<;>first|exact D2q _|skip
 all_goals
  simp only[D2f,D1X,if_false];split
  ·have i:=h.2 rfl rfl;cases x<;>cases y<;>first|exact D2q _|(simp[J3]at i;done)
  ·exact absurd ⟨rfl,rfl⟩ (h.1 _ _)
  ·exact .pure _
theorem IsNil.no_agg{b:R1}{c:Bool}{v:Value}(h:IsNil b c v)(vs:Array Value):v≠ .agg vs:=by
 rintro rfl;cases b<;>cases c<;>simp[IsNil]at h
theorem A0q{t:TypeId}{x y:Value}{b:Bool}(h:Runs P (Op.equal t x y) b)(hx: ∀k n,x≠ .int k n)(hs: ∀s,x≠ .string s)(i: ∀k n,x≠ .float k n)(hc: ∀k n m,x≠ .complex k n m):
  Runs P (binOp .eql t x y) (.bool b)∧Runs P (binOp .neq t x y) (.bool (!b)):=by
 constructor
 ·have e:binOp .eql t x y=(do pure (.bool (←Op.equal t x y))):=by
   cases x<;>first|rfl|exact absurd rfl (hx _ _)|exact absurd rfl (hs _)|exact absurd rfl (i _ _)|exact absurd rfl (hc _ _ _)
  rw[e];exact h.bind (.pure _)
 ·have e:binOp .neq t x y=(do pure (.bool (!(←Op.equal t x y)))):=by
   cases x<;>first|rfl|exact absurd rfl (hx _ _)|exact absurd rfl (hs _)|exact absurd rfl (i _ _)|exact absurd rfl (hc _ _ _)
  rw[e];exact h.bind (.pure _)
theorem IsNil.plain{b:R1}{c:Bool}{v:Value}(h:IsNil b c v):(∀k n,v≠ .int k n)∧(∀s,v≠ .string s)∧(∀k n,v≠ .float k n)∧∀k n m,v≠ .complex k n m:=by
 refine⟨?_,?_,?_,?_⟩<;>(intros;rintro rfl;cases b<;>cases c<;>simp[IsNil]at h)
theorem B4A{op:BinOp}{t:TypeId}{x y:Operand}{A G d:D}(h:K7 P op t (J3 x||J3 y) A G=some d){w:World}{H:Heap}{a b:Value}(hx:R w H A a)(q:R w H G b):
  ∃v,Runs P (do eqGuard op t x y a b;binOp op t a b) v∧R w H d v:=by
 have i: ∀{v:Value},Runs P (eqGuard op t x y a b) ()→Runs P (binOp op t a b) v→Runs P (do eqGuard op t x y a b;binOp op t a b) v:=fun h1 p=>h1.bind p;unfold K7 at h;split at h
 ·rename_i k m I n;have e1:=hx.int_inv;have e2:=q.int_inv;subst e1;subst e2;split at h
  ·cases h
  ·rename_i hb;cases h;refine⟨.int k (k.wrap (m*2 ^ (min n.toNat k.bits))),i (J4 ⟨by simp,by simp⟩) (fun w=>?_),.int _ _⟩;simp[binOp,Op.shift,hb]
 ·rename_i k m I n;have e1:=hx.int_inv;have e2:=q.int_inv;subst e1;subst e2;split at h
  ·cases h
  ·rename_i hb;cases h;refine⟨.int k (m.fdiv (2 ^ (min n.toNat k.bits))),i (J4 ⟨by simp,by simp⟩) (fun w=>?_),.int _ _⟩;simp[binOp,Op.shift,hb]
 ·rename_i k m I n h1 p;have e1:=hx.int_inv;have e2:=q.int_inv;subst e1;subst e2;split at h
  ·rename_i hk;subst hk;obtain⟨v,hv,z⟩:=B37 (P:=P) h h1 p t;exact⟨v,i (J4 ⟨by simp,by simp⟩) hv,z _ _⟩
  ·cases h
 ·have e1:=hx.str_inv;have e2:=q.str_inv;subst e1;subst e2;obtain⟨v,hv,z⟩:=B38 (P:=P) h t;exact⟨v,i (J4 ⟨by simp,by simp⟩) hv,z _ _⟩
 ·rename_i m n;have e1:=hx.bool_inv;have e2:=q.bool_inv;subst e1;subst e2;split at h
  ·rename_i hb;cases h;have hd:Op.maxDepth=9999+1:=rfl;have he:Runs P (Op.equal t (.bool m) (.bool n)) (m==n):=by unfold Op.equal;rw[hd];exact(C0 (A7O hb)).bind (.pure _)
   exact⟨_,i (J4 ⟨by simp,by simp⟩) (A0q he (by simp) (by simp) (by simp) (by simp)).1,.bool _⟩
  ·cases h
 ·rename_i m n;have e1:=hx.bool_inv;have e2:=q.bool_inv;subst e1;subst e2;split at h
  ·rename_i hb;cases h;have hd:Op.maxDepth=9999+1:=rfl;have he:Runs P (Op.equal t (.bool m) (.bool n)) (m==n):=by unfold Op.equal;rw[hd];exact(C0 (A7O hb)).bind (.pure _)
   exact⟨_,i (J4 ⟨by simp,by simp⟩) (A0q he (by simp) (by simp) (by simp) (by simp)).2,.bool _⟩
  ·cases h
 ·split at h
  ·rename_i hc;obtain⟨c,o,rfl⟩:=D1Q.1 h;unfold A5p at o;split at o
   ·rename_i h1 p;cases o;have j:=Z7 h1 hx;have r:=Z7 p q;exact⟨_,i (J4 ⟨fun vs us u=>j.no_agg vs u.1,fun _ _=>hc⟩) (A0q (V4 j r).1 j.plain.1 j.plain.2.1 j.plain.2.2.1 j.plain.2.2.2).1,.bool _⟩
   ·rename_i _ h1 p;cases o;have j:=Z7 h1 hx;have r:=Z7 p q;exact⟨_,i (J4 ⟨fun vs us u=>j.no_agg vs u.1,fun _ _=>hc⟩) (A0q (V4 r j).2 j.plain.1 j.plain.2.1 j.plain.2.2.1 j.plain.2.2.2).1,.bool _⟩
   ·cases o
  ·cases h
 ·split at h
  ·rename_i hc;obtain⟨c,o,rfl⟩:=D1Q.1 h;unfold A5p at o;split at o
   ·rename_i h1 p;cases o;have j:=Z7 h1 hx;have r:=Z7 p q;exact⟨_,i (J4 ⟨fun vs us u=>j.no_agg vs u.1,fun _ _=>hc⟩) (A0q (V4 j r).1 j.plain.1 j.plain.2.1 j.plain.2.2.1 j.plain.2.2.2).2,.bool _⟩
   ·rename_i _ h1 p;cases o;have j:=Z7 h1 hx;have r:=Z7 p q;exact⟨_,i (J4 ⟨fun vs us u=>j.no_agg vs u.1,fun _ _=>hc⟩) (A0q (V4 r j).2 j.plain.1 j.plain.2.1 j.plain.2.2.1 j.plain.2.2.2).2,.bool _⟩
   ·cases o
  ·cases h
 ·cases h
end
section
variable {P:Program}
theorem R2(b off n:Nat):(⟨b,off,none⟩:Addr).add n=⟨b,off+n,none⟩:=by unfold Addr.add;split<;>simp_all
def A8N(d:Option D)(v:Option Value):Prop:=match d,v with
 |none,none=>True
 |some d,some v=>∀k n,d= .int k n→v= .int k n
 |_,_=>False
theorem T0{k:IntKind}{n:Int}{y:Nat}{c:BoundsCode}(h:0≤n∧n≤y):Runs P (Instr.sliceBound (.int k n) y c) n.toNat:=by
 intro w;simp[Instr.sliceBound,asIntOf,h.1,h.2]
theorem Z8{isS:Bool}{len cap:Nat}{lo p:Option D}{l h:Nat}(hb:boundsD len lo p=some (l,h)){i j:Option Value}(h1:A8N lo i)(o:A8N p j)(hc:len≤cap):
  Runs P (Instr.sliceBounds isS len cap i j none) (l,h,cap)∧l≤h∧h≤len:=by
 unfold boundsD at hb;split at hb
 ·cases hb;cases i<;>cases j<;>simp only[A8N]at h1 o;exact⟨fun w=>rfl,D1c _,D1b _⟩
 ·rename_i k n;split at hb
  ·rename_i hn;cases hb;cases i<;>cases j<;>simp only[A8N]at h1 o;rename_i v;obtain rfl:=h1 _ _ rfl;exact⟨(D2q cap).bind ((D2q len).bind ((T0 ⟨hn.1,hn.2⟩).bind (.pure _))),by omega,D1b _⟩
  ·cases hb
 ·rename_i k n;split at hb
  ·rename_i hn;cases hb;cases i<;>cases j<;>simp only[A8N]at h1 o;rename_i v;obtain rfl:=o _ _ rfl;exact⟨(D2q cap).bind ((T0 ⟨hn.1,by omega⟩).bind ((D2q 0).bind (.pure _))),D1c _,by omega⟩
  ·cases hb
 ·rename_i k n q m;split at hb
  ·rename_i hn;cases hb;cases i<;>cases j<;>simp only[A8N]at h1 o;rename_i v u;obtain rfl:=h1 _ _ rfl;obtain rfl:=o _ _ rfl;exact⟨(D2q cap).bind ((T0 ⟨by omega,by omega⟩).bind ((T0 ⟨hn.1,by omega⟩).bind (.pure _))),by omega,by omega⟩
  ·cases hb
 ·cases hb
theorem A9n{t:TypeId}{x d:D}{lo q:Option D}(h:T9 P t x lo q=some d){w:World}{H:Heap}{v:Value}(hx:R w H x v){z A:Option Value}(h1:A8N lo z)(I:A8N q A):
  ∃u,Runs P (Instr.sliceAt t v z A none) u∧R w H d u:=by
 unfold T9 at h;split at h
 ·rename_i s;obtain rfl:=hx.str_inv;split at h
  ·rename_i hb;obtain⟨⟨l,k⟩,o,rfl⟩:=D1Q.1 h;obtain⟨hr,hl,hk⟩:=Z8 (P:=P) (isS:=false) (cap:=s.size) o h1 I (D1b _);refine⟨.string (s.extract l k),?_,.str _⟩;refine(C0 (V2 hb)).bind ?_;unfold Instr.slice;refine(C0 (V2 hb)).bind ?_;exact hr.bind (.pure _)
  ·cases h
 ·cases hx;split at h
  ·rename_i hb;obtain⟨⟨e,sz,J⟩,he⟩:=Option.isSome_iff_exists.1 hb;obtain⟨⟨l,k⟩,o,rfl⟩:=D1Q.1 h;obtain⟨hr,hl,hk⟩:=Z8 (P:=P) (isS:=true) (cap:=0) o h1 I (D1b _);obtain⟨y,i,q,_,_⟩:=V3 he;have:l=0:=by omega
   have:k=0:=by omega
   subst l;subst k;refine⟨.slice none 0 0,?_,.nilsl⟩;refine(C0 y).bind ?_;unfold Instr.slice;refine(C0 y).bind ?_;refine hr.bind ?_;exact(G8 q).bind (.pure _)
  ·cases h
 ·rename_i sz es;split at h
  ·rename_i hb;obtain⟨⟨e,sz',J⟩,he,hsz⟩:=D1Q.1 hb;simp only at hsz;subst hsz;obtain⟨⟨l,k⟩,o,rfl⟩:=D1Q.1 h;obtain⟨y,i,q,r,_⟩:=V3 he;simp only at y q r;have go: ∀(a:Option Addr) (cap:Nat),es.length≤cap→v= .slice a es.length cap→Runs P (Instr.sliceAt t v z A none) (.slice (if cap=l then a else a.map (·.add (l*sz'))) (k-l) (cap-l))∧l≤k∧k≤es.length:=by
    rintro a cap hcap rfl;obtain⟨hr,hl,hk⟩:=Z8 (P:=P) (isS:=true) (cap:=cap) o h1 I hcap;refine⟨?_,hl,hk⟩;refine(C0 y).bind ?_;unfold Instr.slice;refine(C0 y).bind ?_;refine hr.bind ?_;rw[←r];exact(G8 q).bind (.pure _)
   have hlen:k≤es.length→((es.take k).drop l).length=k-l:=fun hk=>by simp[Nat.min_eq_left hk]
   cases hx with
   |sl0 sz a cap=>
    obtain⟨hr,hl,hk⟩:=go a cap (D1c _) rfl;refine⟨_,hr,?_⟩;have e:(([]:List (List D)).take k).drop l= []:=by simp
    rw[e];have:k-l=0:=by simp at hk;omega
    rw[this];exact .sl0 _ _ _
   |sl sz es b off cap u V hn W hcap hc X Y=>
    obtain⟨hr,hl,hk⟩:=go _ cap hcap rfl;refine⟨_,hr,?_⟩;by_cases a6:l=k
    ·have e:(es.take k).drop l= []:=by rw[List.drop_eq_nil_iff];simp;omega
     rw[e,show k-l=0 by omega];exact .sl0 _ _ _
    ·have a0: ¬cap=l:=by omega
     rw[if_neg a0];simp only[Option.map_some,R2];rw[←hlen hk];have G: ∀i e,((es.take k).drop l)[i]? =some e→es[l+i]? =some e:=fun i e he=>by
      rw[List.getElem?_drop,List.getElem?_take]at he;split at he
      ·exact he
      ·cases he
     refine .sl sz' _ b (off+l*sz') (cap-l) (fun i j=>u (l+i) j) V hn (fun i e he=>W _ e (G i e he)) (by rw[hlen hk];omega) (fun i j q hj=>?_) (fun i e j d he hd=>X _ e j d (G i e he) hd) (fun i e j d he hd=>Y _ e j d (G i e he) hd);rw[hlen hk]at q;have:=hc (l+i) j (by omega) hj;rw[←this,Nat.add_mul]
     congr 2;omega
  ·cases h
 ·rename_i b sz p n;split at h
  ·rename_i hb;obtain⟨⟨e,sz',J⟩,he,hsz⟩:=D1Q.1 hb;simp only at hsz;subst hsz;obtain⟨⟨l,k⟩,o,rfl⟩:=D1Q.1 h;obtain⟨y,i,q,r,_⟩:=V3 he;simp only at y q r;cases hx with
   |vec b sz lo n cap T m M hs hsz hn=>
    obtain⟨hr,hl,hk⟩:=Z8 (P:=P) (isS:=true) (cap:=cap) o h1 I hn;refine⟨.slice (if cap=l then some ⟨b,p*sz',none⟩else(some (⟨b,p*sz',none⟩:Addr)).map (·.add (l*sz'))) (k-l) (cap-l),?_,?_⟩
    ·refine(C0 y).bind ?_;unfold Instr.slice;refine(C0 y).bind ?_;refine hr.bind ?_;rw[←r];exact(G8 q).bind (.pure _)
    ·simp only;split
     ·rename_i O;subst O;have e:(if cap=0 then some ⟨b,p*sz',none⟩else(some (⟨b,p*sz',none⟩:Addr)).map (·.add (0*sz')))=some (⟨b,p*sz',none⟩:Addr):=by split<;>simp[R2]
      rw[e];simp only[Nat.sub_zero];exact .vec b sz' p k cap T m M hs hsz (by omega)
     ·rename_i O;by_cases U:cap=l
      ·rw[if_pos U,show k-l=0 by omega,show cap-l=0 by omega];exact .vec0 _ _ _ _
      ·rw[if_neg U];simp only[Option.map_some,R2];rw[←Nat.add_mul];exact .vec b sz' (p+l) (k-l) (cap-l) T m M (by rw[hs];congr 1;omega) hsz (by omega)
   |vec0 b sz lo off=>
    obtain⟨hr,hl,hk⟩:=Z8 (P:=P) (isS:=true) (cap:=0) o h1 I (D1b 0);refine⟨.slice (if 0=l then some ⟨b,off,none⟩else(some (⟨b,off,none⟩:Addr)).map (·.add (l*sz'))) (k-l) (0-l),?_,?_⟩
    ·refine(C0 y).bind ?_;unfold Instr.slice;refine(C0 y).bind ?_;refine hr.bind ?_;rw[←r];exact(G8 q).bind (.pure _)
    ·obtain rfl:k=0:=by omega
     obtain rfl:l=0:=by omega
     exact .vec0 _ _ _ _
  ·cases h
 ·cases h
theorem B4B{t:TypeId}{x d:D}(h:A5q P t x=some d){w:World}{H:Heap}{v:Value}(hx:R w H x v)(ty:TypeId)(j:Array TypeId)(ht:j[0]? =some t)(vs:Array Value)(hv:vs[0]? =some v):
  ∃u,Runs P (Builtin.len_ j ty vs) u∧R w H d u:=by
 have m: ∀{s:Sem Value} {u:Value},s=Builtin.len_ j ty vs→Runs P s u→Runs P (Builtin.len_ j ty vs) u:=fun e h=>e ▸ h;unfold Builtin.len_;rw[ht,hv];cases x<;>simp only[A5q]at h<;>try(cases h;done)
 case str s=>
  split at h
  ·rename_i hb;cases h;obtain rfl:=hx.str_inv;exact⟨_,(C0 (V2 hb)).bind (.pure _),.int _ _⟩
  ·cases h
 case nilsl=>
  split at h
  ·rename_i hb;cases h;cases hx;obtain⟨e,i⟩:=Y2 hb;exact⟨_,(C0 i).bind (.pure _),.int _ _⟩
  ·cases h
 case sl sz es=>
  split at h
  ·rename_i hb;cases h;obtain⟨e,i⟩:=Y2 hb;cases hx
   ·exact⟨_,(C0 i).bind (.pure _),.int _ _⟩
   ·exact⟨_,(C0 i).bind (.pure _),.int _ _⟩
  ·cases h
 case vec b sz lo n=>
  split at h
  ·rename_i hb;cases h;obtain⟨e,i⟩:=Y2 hb;cases hx<;>exact⟨_,(C0 i).bind (.pure _),.int _ _⟩
  ·cases h
theorem A5I{t:TypeId}{x i d:D}(h:Q2 P t x i=some d){w:World}{H:Heap}{v X:Value}(hx:R w H x v)(o:R w H i X):
  ∃u,Runs P (Instr.indexAt t v X) u∧R w H d u:=by
 unfold Q2 at h;split at h
 ·rename_i sz es k n;obtain rfl:=o.int_inv;split at h
  ·rename_i hc;obtain⟨hb,A,r⟩:=hc;cases h;obtain⟨⟨e,sz',G⟩,he,hsz⟩:=D1Q.1 hb;simp only at hsz;subst hsz;obtain⟨q,i,o,p,_⟩:=V3 he;simp only at q o p;cases hx with
   |sl0=>simp at r;omega
   |sl sz es b off cap u I hn J hcap M O U=>
    refine⟨.pointer (some ⟨b,off+n.toNat*sz',none⟩),?_,?_⟩
    ·unfold Instr.indexAt;refine(D2q (P:=P) (k,n)).bind ?_;refine(C0 q).bind ?_;refine(D2q (P:=P) (some (⟨b,off,none⟩:Addr),es.length,e)).bind ?_;refine(C0 q).bind ?_;simp only[A,r,and_self,if_true];rw[←p];exact(G8 o).bind (by rw[R2];exact .pure _)
    ·have y:n.toNat<es.length:=by omega
     have V:es[n.toNat]? =some (es.getD n.toNat []):=by simp[D1Y y]
     have hl:=J _ _ V;exact .ro _ b (off+n.toNat*sz') (fun j=>u n.toNat j) I hn (fun j Y=>by rw[hl]at Y;exact M _ _ y Y) (fun j d hd=>O _ _ j d V hd) (fun j d hd=>U _ _ j d V hd)
  ·cases h
 ·rename_i b sz l m k n;obtain rfl:=o.int_inv;split at h
  ·rename_i hc;obtain⟨hb,A,r⟩:=hc;cases h;obtain⟨⟨e,sz',G⟩,he,hsz⟩:=D1Q.1 hb;simp only at hsz;subst hsz;obtain⟨q,i,o,p,_⟩:=V3 he;simp only at q o p;cases hx with
   |vec b sz lo n' cap T m' a0 hs hsz hn=>
    refine⟨.pointer (some ⟨b,(l+n.toNat)*sz'+0,none⟩),?_,.el _ _ _ _⟩;unfold Instr.indexAt;refine(D2q (P:=P) (k,n)).bind ?_;refine(C0 q).bind ?_;refine(D2q (P:=P) (some (⟨b,l*sz',none⟩:Addr),m,e)).bind ?_;refine(C0 q).bind ?_;simp only[A,r,and_self,if_true];rw[←p];exact(G8 o).bind (by rw[R2,Nat.add_zero,Nat.add_mul];exact .pure _)
   |vec0 b sz lo off=>omega
  ·cases h
 ·rename_i b off k n;obtain rfl:=o.int_inv;obtain rfl:=hx.box_inv;split at h
  ·rename_i len sz z;split at h
   ·rename_i hc;cases h;unfold B1g at z;split at z
    ·rename_i n' e q;obtain⟨i,o,W⟩:=D1Q.1 z;cases W;refine⟨.pointer (some ⟨b,off+n.toNat*i.size,none⟩),?_,.box _ _⟩;unfold Instr.indexAt;refine(D2q (P:=P) (k,n)).bind ?_;refine(C0 q).bind ?_;refine(D2q (P:=P) (⟨b,off,none⟩:Addr)).bind ?_;refine(D2q (P:=P) (some (⟨b,off,none⟩:Addr),len,e)).bind ?_;refine(C0 q).bind ?_;simp only[hc.1,hc.2,and_self,if_true];exact(G8 o).bind (by rw[R2];exact .pure _)
    ·cases z
   ·cases h
  ·cases h
 ·cases h
theorem A9o{α β :Type}{f: α →Option β}: ∀{l:List α} {r:List β},l.mapM f=some r→∀(i:Nat) (b: β),r[i]? =some b→∃a,l[i]? =some a∧f a=some b
 | [],r,h,i,b,hb=>by simp at h;subst h;simp at hb
 |a::l,r,h,i,b,hb=>by
  simp only[List.mapM_cons,Option.bind_eq_bind,D1T,Option.pure_def]at h;obtain⟨o,j,p,h1,m⟩:=h;cases m;cases i with
  |zero=>simp at hb;subst hb;exact⟨a,by simp,j⟩
  |succ i=>simp at hb⊢;exact A9o h1 i b hb
theorem A5t{t:TypeId}{f:Nat}{o:Nat}{b:Bool}{n:Nat}(h:(L5 P t).bind (·[f]?)=some (o,b,n)):
  ∃fs i,P.underlying t=some (.struct fs)∧fs[f]? =some i∧i.offset=o∧F7 P i.type=some (b,n):=by
 obtain⟨l,hl,p⟩:=D1T.1 h;unfold L5 at hl;split at hl
 ·rename_i fs q;obtain⟨i,j,hs⟩:=A9o hl f _ p;obtain⟨s,m,he⟩:=D1Q.1 hs;cases he;exact⟨fs,i,q,by simpa using j,rfl,m⟩
 ·cases hl
theorem A5J{t:TypeId}{x d:D}{f:Nat}(h:Y1 P t x f=some d){w:World}{H:Heap}{v:Value}(hx:R w H x v):
  ∃u,Runs P (Instr.fieldAt t v f) u∧R w H d u:=by
 unfold Y1 at h;split at h
 ·rename_i o bb n r;split at h
  ·cases h
  ·rename_i i;obtain⟨fs,A,y,m,ho,p⟩:=A5t r;obtain⟨_,hsz⟩:=y4 (P:=P) p;have q: ∀(a:Addr),v= .pointer (some a)→Runs P (Instr.fieldAt t v f) (.pointer (some (a.add o))):=by
    rintro a rfl;unfold Instr.fieldAt;refine(C0 y).bind ?_;simp only[m];refine(D2q (P:=P) a).bind ?_;unfold fieldPlace;refine Runs.bind (v:=a.add o) (hsz.bind ?_) (.pure _);rw[if_neg i,ho];exact .pure _
   split at h
   ·cases h;obtain rfl:=hx.box_inv;exact⟨_,q _ rfl,by rw[R2];exact .box _ _⟩
   ·cases h;obtain rfl:=hx.el_inv;exact⟨_,q _ rfl,by rw[R2,Nat.add_assoc];exact .el _ _ _ _⟩
   ·cases h;cases hx with
    |ro cs b off u hb hn hc h1 hr=>
     refine⟨_,q _ rfl,?_⟩;rw[R2];refine .ro _ b (off+o) (fun j=>u (o+j)) hb hn (fun j z=>?_) (fun j d hd=>h1 (o+j) d (by rwa [List.getElem?_drop]at hd)) (fun j d hd=>hr (o+j) d (by rwa [List.getElem?_drop]at hd));have:=hc (o+j) (by simp at z;omega);rw[←this,Nat.add_assoc]
   ·cases h
 ·cases h
theorem B2v{s:Bool×Nat}{cs:List D}{d:D}(h:y3 s cs=some d){w:World}{H:Heap}(g:Nat→Value)(h1: ∀(i:Nat) c,cs[i]? =some c→c.one=true)(hr: ∀(i:Nat) c,cs[i]? =some c→R w H c (g i)):
  (s.1=true→s.2≤cs.length∧d= .agg (cs.take s.2)∧R w H d (.agg ((List.range s.2).map g).toArray))∧(s.1=false→cs[0]? =some d∧R w H d (g 0)):=by
 obtain⟨b,n⟩:=s;cases b
 ·refine⟨by simp,fun _=>?_⟩;simp only[y3]at h;have j:cs[0]? =some d:=by cases cs<;>simp_all
  exact⟨j,hr 0 d j⟩
 ·refine⟨fun _=>?_,by simp⟩;simp only[y3]at h;split at h
  ·rename_i hn;cases h;refine⟨hn,rfl,.agg _ _ (by simp[hn]) (fun i d hd=>?_) (fun i d hd=>?_)⟩
   ·rw[List.getElem?_take]at hd;split at hd<;>first|exact h1 i d hd|cases hd
   ·rw[List.getElem?_take]at hd;split at hd
    ·rename_i m;have:((List.range n).map g).toArray.getD i Go.undef=g i:=by simp[m]
     rw[this];exact hr i d hd
    ·cases hd
  ·cases h
theorem u8{t:TypeId}{s:Bool×Nat}(hs:F7 P t=some s){cs:List D}{vs:Array Value}{o:Nat}{d:D}(h:y3 s (cs.drop o)=some d){w:World}{H:Heap}
  (hl:cs.length=vs.size) (h1: ∀(i:Nat) c,cs[i]? =some c→c.one=true) (hr: ∀(i:Nat) c,cs[i]? =some c→R w H c (vs.getD i Go.undef)):
  ∃u,Runs P (part t vs o) u∧R w H d u:=by
 obtain⟨b,n⟩:=s;obtain⟨r,y⟩:=y4 (P:=P) hs;obtain⟨z,A⟩:=B2v h (w:=w) (H:=H) (fun i=>vs.getD (o+i) Go.undef) (fun i c hc=>h1 (o+i) c (by rwa [List.getElem?_drop]at hc)) (fun i c hc=>hr (o+i) c (by rwa [List.getElem?_drop]at hc));unfold part;cases b
 ·obtain⟨x,j⟩:=A rfl;refine⟨_,r.bind ?_,j⟩;rw[List.getElem?_drop]at x;have m:o<vs.size:=by
   have:=(D1R.1 x).1;omega
  have hv:vs[o]? =some (vs.getD o Go.undef):=by simp[m]
  simp only[D1X,if_false,Nat.add_zero];rw[hv];exact .pure _
 ·obtain⟨hn,_,j⟩:=z rfl;refine⟨_,r.bind ?_,j⟩;simp only[if_true];refine y.bind ?_;have e:vs.extract o (o+n)=((List.range n).map fun i=>vs.getD (o+i) Go.undef).toArray:=by
   simp at hn;apply Array.ext
   ·simp;omega
   ·intro i p q;simp at p q⊢;have:o+i<vs.size:=by omega
    simp[this]
  rw[e];exact .pure _
theorem A9p{t:TypeId}{x d:D}{f:Nat}(h:B1h P t x f=some d){w:World}{H:Heap}{v:Value}(hx:R w H x v):
  ∃u,Runs P (Instr.field t v f) u∧R w H d u:=by
 unfold B1h at h;split at h
 ·rename_i o s cs m;obtain⟨b,n⟩:=s;obtain⟨fs,r,p,i,ho,j⟩:=A5t m;obtain⟨vs,rfl,hl,h1,hr⟩:=hx.agg_inv;obtain⟨u,hp,q⟩:=u8 (P:=P) j h hl h1 hr;refine⟨u,?_,q⟩;unfold Instr.field;refine(C0 p).bind ?_;simp only[i];refine(D2q (P:=P) vs).bind ?_;rw[ho];exact hp
 ·cases h
theorem A9q{t:TypeId}{x i d:D}(h:A5r P t x i=some d){w:World}{H:Heap}{v j:Value}(hx:R w H x v)(m:R w H i j):
  ∃u,Runs P (Instr.index t v j) u∧R w H d u:=by
 unfold A5r at h;split at h
 ·rename_i s k n;obtain rfl:=hx.str_inv;obtain rfl:=m.int_inv;split at h
  ·rename_i hc;obtain⟨hb,o,p⟩:=hc;cases h;refine⟨.int .u8 (S9 s n),?_,.int _ _⟩;unfold Instr.index;refine(D2q (P:=P) (k,n)).bind ?_;refine(C0 (V2 hb)).bind ?_;have hl:n.toNat<s.size:=by omega
   have e:(if 0≤n then s[n.toNat]? else none)=some (s.data.toList.getD n.toNat 0):=by
    rw[if_pos o];rw[getElem?_pos s n.toNat hl];have:n.toNat<s.data.toList.length:=by simpa using hl
    simp[List.getD,D1Y this];rfl
   dsimp only;rw[e];exact .pure _
  ·cases h
 ·cases h
theorem B5X{op:UnOp}{x d:D}(h:unD op x=some d){w:World}{H:Heap}{v:Value}(hx:R w H x v): ∃u,Runs P (Op.unary op v) u∧R w H d u:=by
 unfold unD at h;split at h
 ·cases h;obtain rfl:=hx.int_inv;exact⟨_,.pure _,.int _ _⟩
 ·cases h;obtain rfl:=hx.int_inv;exact⟨_,.pure _,.int _ _⟩
 ·cases h;obtain rfl:=hx.bool_inv;exact⟨_,.pure _,.bool _⟩
 ·cases h
theorem B1j{s t:TypeId}{x d:D}(h:B2u P s t x=some d){w:World}{H:Heap}{v:Value}(hx:R w H x v): ∃u,Runs P (convert s t v) u∧R w H d u:=by
 unfold B2u at h;split at h
 ·split at h
  ·rename_i hs ht;cases h;obtain rfl:=hx.int_inv;exact⟨_,(C0 hs).bind ((C0 ht).bind (.pure _)),.int _ _⟩
  ·rename_i hs ht;cases h;obtain rfl:=hx.int_inv;exact⟨_,(C0 hs).bind ((C0 ht).bind (.pure _)),.str _⟩
  ·cases h
 ·split at h
  ·rename_i hb;cases h;obtain rfl:=hx.str_inv;exact⟨_,(C0 (V2 hb.1)).bind ((C0 (V2 hb.2)).bind (.pure _)),.str _⟩
  ·cases h
 ·cases h
end
section
variable {P:Program}
theorem A4u{d:Nat}{t:TypeId}{x y:D}{c:Bool}(h:V0 (C7 P t) x y=some c){w:World}{H:Heap}{a b:Value}(hx:R w H x a)(p:R w H y b):
  Runs P (Op.equalIn (d+1) t a b) c:=by
 unfold V0 at h;split at h
 ·rename_i k m o n i;have e1:=hx.int_inv;have e2:=p.int_inv;subst e1;subst e2;split at h
  ·rename_i hk;subst hk;cases h;obtain⟨o,j⟩: ∃o,P.underlying t=some (.int o):=by
    unfold C7 at i;split at i<;>simp_all
   exact fun w=>run_equalIn_int w d t k o m n j
  ·cases h
 ·rename_i m n i;have e1:=hx.str_inv;have e2:=p.str_inv;subst e1;subst e2;cases h;have j:P.underlying t=some .string:=by
   unfold C7 at i;split at i<;>simp_all
  intro w;rw[run_equalIn_string w d t m n j,ByteArray.toList_eq,ByteArray.toList_eq]
 ·rename_i m n i;have e1:=hx.bool_inv;have e2:=p.bool_inv;subst e1;subst e2;cases h;have j:P.underlying t=some .bool:=by
   unfold C7 at i;split at i<;>simp_all
  exact fun w=>run_equalIn_bool' w d t m n j
 ·cases h
theorem A67{α β :Type}{f: α →Option β}{x: α}{xs:List α}{i:List β}(h:(x::xs).mapM f=some i): ∃y r,f x=some y∧xs.mapM f=some r∧i=y::r:=by
 simp only[List.mapM_cons,Option.bind_eq_bind,D1T,Option.pure_def,D1t]at h;obtain⟨y,j,r,hr,rfl⟩:=h;exact⟨y,r,j,hr,rfl⟩
theorem B1k{d:Nat}{w0:World}{H:Heap}{xs j:List D}{vs us:Array Value}(hl:xs.length=vs.size)(h1: ∀(i:Nat) c,xs[i]? =some c→c.one=true)(hr: ∀(i:Nat) c,xs[i]? =some c→R w0 H c (vs.getD i Go.undef))
  (m:j.length=us.size) (o: ∀(i:Nat) c,j[i]? =some c→c.one=true) (q: ∀(i:Nat) c,j[i]? =some c→R w0 H c (us.getD i Go.undef)):
  ∀(fs:List Field) (l:List (Nat×R1)) (c:Bool),(fs.mapM fun f=>if f.name≠ "_" ∧F7 P f.type=some (false,1)∧(C7 P f.type= .bool∨C7 P f.type= .int∨C7 P f.type= .str)then some (f.offset,C7 P f.type)else none)=some l→
   V1 l xs j=some c→Runs P (Op.eqFields (d+1) vs us fs) c:=by
 intro fs
 induction fs with
 |nil=>intro l c hm h;simp at hm;subst hm;simp[V1]at h;subst h;exact .pure _
 |cons f fs T=>
  intro l c hm h;obtain⟨p,r,hp,u,rfl⟩:=A67 hm;split at hp
  ·rename_i hc;cases hp;obtain⟨hn,hs,_⟩:=hc;unfold V1 at h;split at h
   ·rename_i x y hx U;obtain⟨c1,A,V⟩:=D1T.1 h;obtain⟨Y,G,rfl⟩:=D1Q.1 V;have O: ∀(cs:List D) (z:D),cs[f.offset]? =some z→y3 (false,1) (cs.drop f.offset)=some z:=fun cs z W=>by
     simp only[y3,List.head?_drop];exact W
    obtain⟨a,X,I⟩:=u8 (P:=P) hs (O _ _ hx) hl h1 hr;obtain⟨b,J,M⟩:=u8 (P:=P) hs (O _ _ U) m o q;unfold Op.eqFields;rw[if_pos hn];refine X.bind (J.bind ((A4u A I M).bind ?_));cases c1
    ·simp only[D2g,if_true,Bool.false_and];exact .pure _
    ·simp only[D2f,D1X,if_false,Bool.true_and];exact T _ _ u G
   ·cases h
  ·cases hp
theorem B1l{op:BinOp}{t:TypeId}{x y:Operand}{J M d:D}(h:A1m P op t (J3 x||J3 y) J M=some d){w:World}{H:Heap}{a b:Value}(hx:R w H J a)(j:R w H M b):
  ∃v,Runs P (do eqGuard op t x y a b;binOp op t a b) v∧R w H d v:=by
 have key: ∀{xs p:List D} {fs:List (Nat×R1)} {c:Bool},R w H (.agg xs) a→R w H (.agg p) b→A1D P t=some fs→V1 fs xs p=some c→
   ∃vs us,a= .agg vs∧b= .agg us∧(∀op,Runs P (eqGuard op t x y (.agg vs) (.agg us)) ())∧Runs P (Op.equalIn 10000 t (.agg vs) (.agg us)) c:=by
  intro xs p fs c hx j i q;obtain⟨vs,rfl,hl,h1,hr⟩:=hx.agg_inv;obtain⟨us,rfl,r,u,z⟩:=j.agg_inv;unfold A1D at i;split at i
  ·rename_i hc;split at i
   ·rename_i m O;refine⟨vs,us,rfl,rfl,fun op w=>run_eqGuard_agg w op t x y vs us hc.1,fun w=>?_⟩;have o:P.fieldsOf t=m:=by unfold Program.fieldsOf;rw[O]
    rw[run_equalIn_agg w 9999 t vs us (by rw[o];exact O) hc.2,o];exact B1k (P:=P) (d:=9998) hl h1 hr r u z m.toList fs c i q w
   ·cases i
  ·cases i
 unfold A1m at h;split at h
 ·obtain⟨fs,A,G⟩:=D1T.1 h;obtain⟨c,hc,rfl⟩:=D1Q.1 G;obtain⟨vs,us,rfl,rfl,I,he⟩:=key hx j A hc;exact⟨.bool c,(I _).bind (fun w=>by rw[run_eql_struct,he w];rfl),.bool _⟩
 ·obtain⟨fs,A,G⟩:=D1T.1 h;obtain⟨c,hc,rfl⟩:=D1Q.1 G;obtain⟨vs,us,rfl,rfl,I,he⟩:=key hx j A hc;exact⟨.bool (!c),(I _).bind (fun w=>by rw[run_neq_struct,he w];rfl),.bool _⟩
 ·exact B4A h hx j
theorem A1E: ∀(xs:List D) (cs:List D) (i:Nat),(P4 cs i xs).length=cs.length
 | [],_,_=>rfl
 |x::xs,cs,i=>by rw[P4,A1E xs];simp
theorem A4B: ∀(xs:List D) (cs:List D) (i j:Nat),(P4 cs i xs)[j]? =if i≤j∧j<i+xs.length∧j<cs.length then xs[j-i]? else cs[j]?
 | [],cs,i,j=>by rw[P4,if_neg (by simp;omega)]
 |x::xs,cs,i,j=>by
  rw[P4,A4B xs];simp only[D2E,D1M];by_cases h:i=j
  ·subst h;rw[if_neg (by omega)];by_cases hl:i<cs.length
   ·rw[if_pos (by omega)];simp[hl]
   ·rw[if_neg (by omega)];simp[hl]
  ·by_cases h1:i+1≤j∧j<i+1+xs.length∧j<cs.length
   ·rw[if_pos h1,if_pos (by omega)];rw[show j-i=(j-(i+1))+1 by omega,D1n]
   ·rw[if_neg h1,if_neg (by omega),List.getElem?_set_ne h]
def j8:Array Value→Nat→List Value→Array Value
 |c,_,[]=>c
 |c,i,v::vs=>j8 (c.setIfInBounds i v) (i+1) vs
theorem O0: ∀(vs:List Value) (c:Array Value) (i:Nat),(j8 c i vs).size=c.size
 | [],_,_=>rfl
 |v::vs,c,i=>by rw[j8,O0 vs];simp
theorem A0r: ∀(vs:List Value) (c:Array Value) (i j:Nat),(j8 c i vs)[j]? =if i≤j∧j<i+vs.length∧j<c.size then vs[j-i]? else c[j]?
 | [],c,i,j=>by rw[j8,if_neg (by simp;omega)]
 |v::vs,c,i,j=>by
  rw[j8,A0r vs];simp only[Array.size_setIfInBounds,D1M];by_cases h:i=j
  ·subst h;rw[if_neg (by omega)];by_cases hl:i<c.size
   ·rw[if_pos (by omega)];simp[hl]
   ·rw[if_neg (by omega)];simp[hl]
  ·by_cases h1:i+1≤j∧j<i+1+vs.length∧j<c.size
   ·rw[if_pos h1,if_pos (by omega)];rw[show j-i=(j-(i+1))+1 by omega,D1n]
   ·rw[if_neg h1,if_neg (by omega),D1v h]
structure RowR(w:World)(H:Heap)(cs:List D)(vs:Array Value):Prop where
 len:cs.length=vs.size
 one: ∀(i:Nat) c,cs[i]? =some c→c.one=true
 rel: ∀(i:Nat) c,cs[i]? =some c→R w H c (vs.getD i Go.undef)
theorem RowR.agg{w:World}{H:Heap}{cs:List D}{vs:Array Value}(h:RowR w H cs vs):R w H (.agg cs) (.agg vs):=.agg cs vs h.len h.one h.rel
theorem Z6{w:World}{H:Heap}{d:D}{v:Value}(h:R w H d v)(h1:d.cells.all D.one=true):RowR w H d.cells v.cells:=
 ⟨(h.cells h1).1,fun _ c hc=>D1s.1 h1 c (D1o hc),(h.cells h1).2⟩
theorem RowR.put{w:World}{H:Heap}{cs ds:List D}{vs us:Array Value}(h:RowR w H cs vs)(k:RowR w H ds us)(o:Nat):RowR w H (P4 cs o ds) (j8 vs o us.toList):=by
 have hl:us.toList.length=us.size:=by simp
 have m: ∀(i:Nat) c,(P4 cs o ds)[i]? =some c→c.one=true∧R w H c ((j8 vs o us.toList).getD i Go.undef):=fun i c hc=>by
  rw[A4B]at hc;have p:(j8 vs o us.toList).getD i Go.undef=((j8 vs o us.toList)[i]?).getD Go.undef:=by simp
  rw[p,A0r,hl,←k.len,←h.len];split at hc
  ·rename_i j;rw[if_pos j];have:=k.rel _ _ hc;exact⟨k.one _ _ hc,by simpa using this⟩
  ·rename_i j;rw[if_neg j];have:=h.rel _ _ hc;exact⟨h.one _ _ hc,by simpa using this⟩
 exact⟨by rw[A1E,O0,h.len],fun i c hc=>(m i c hc).1,fun i c hc=>(m i c hc).2⟩
theorem A4C(off:Nat): ∀(l:List Value) (k:Nat) (c:Array Value),(l.zipIdx k).foldl (fun cs (x:Value×Nat)=>cs.setIfInBounds (off+x.2) x.1) c=j8 c (off+k) l
 | [],_,_=>rfl
 |v::l,k,c=>by
  simp only[List.zipIdx_cons,List.foldl_cons,j8];exact A4C off l (k+1) _
theorem B5Y{w:World}{H:Heap}{place:Nat→Option (Nat×Nat)}: ∀{ps:List (Nat×D)} {qs:List (Nat×Value)} {cs out:List D} {vs:Array Value},l5 place cs ps=some out→RowR w H cs vs→
  (ps.length=qs.length)→(∀(i:Nat) p q,ps[i]? =some p→qs[i]? =some q→p.1=q.1∧R w H p.2 q.2)→∃us,Instr.fill place vs qs=some us∧RowR w H out us:=by
 intro ps
 induction ps with
 |nil=>
  intro qs cs out vs h hr hl _;cases qs with
  |nil=>simp only[l5,D1t]at h;subst h;exact⟨vs,rfl,hr⟩
  |cons=>simp at hl
 |cons p ps z=>
  intro qs cs out vs h hr hl o;cases qs with
  |nil=>simp at hl
  |cons q qs=>
   obtain⟨i,d⟩:=p;obtain⟨j,v⟩:=q;obtain⟨r,y⟩:=o 0 _ _ rfl rfl;simp only at r y;subst r;simp only[l5]at h;unfold Instr.fill;split at h
   ·cases h
   ·rename_i off size hp;split at h
    ·rename_i hc;obtain⟨h1,G,A⟩:=hc;have m:=Z6 y A;obtain⟨us,u,x⟩:=z (qs:=qs) (vs:=j8 vs off v.cells.toList) h (hr.put m off) (by simpa using hl) (fun k p q hp hq=>o (k+1) p q (by simpa using hp) (by simpa using hq));refine⟨us,?_,x⟩;rw[hp];have e1:v.cells.size=size:=by rw[←m.len,h1]
     have e2:vs.size=cs.length:=hr.len.symm;simp only[e1,e2];rw[if_neg (by simp;omega)];have e3:=A4C off v.cells.toList 0 vs;simp only[Nat.add_zero]at e3;rw[←Array.foldl_toList,Array.toList_zipIdx,e3];exact u
    ·cases h
theorem A9r{t:TypeId}{fs:Array Field}(i:P.underlying t=some (.struct fs)){l:List (Nat×Bool×Nat)}(h:L5 P t=some l):
  Runs P (fs.mapM fun f=>do pure (f.offset,←sizeOf f.type)) ((l.map fun x=>(x.1,x.2.2)).toArray):=by
 unfold L5 at h;rw[i]at h;simp only at h;intro w;rw[Array.mapM_eq_mapM_toList];generalize fs.toList=m at h
 have key: ∀(m:List Field) (l:List (Nat×Bool×Nat)),m.mapM (fun f=>(F7 P f.type).map fun s=>(f.offset,s.1,s.2))=some l→
   Runs P (m.mapM fun f=>do pure (f.offset,←sizeOf f.type)) (l.map fun x=>(x.1,x.2.2)):=by
  intro m
  induction m with
  |nil=>intro l h;simp at h;subst h;exact .pure _
  |cons f m j=>
   intro l h;simp only[List.mapM_cons,Option.bind_eq_bind,D1T,Option.pure_def]at h;obtain⟨r,o,p,h1,q⟩:=h;cases q;obtain⟨s,hs,he⟩:=D1Q.1 o;cases he;rw[List.mapM_cons];refine Runs.bind (v:=(f.offset,s.2)) (((y4 (P:=P) (b:=s.1) (n:=s.2) hs).2).bind (.pure _)) ?_;exact(j p h1).bind (.pure _)
 have:=key m l h w;simp only[Functor.map];rw[Sem.run_bind',this];rfl
theorem A7P{f:D→D→Option D}{g:Value→Value→Sem Value}(o: ∀a b c,f a b=some c→∀w H u v,R w H a u→R w H b v→∃r,Runs P (g u v) r∧R w H c r){w:World}{H:Heap}:
  ∀(l:List D) (us:List Value) (x d:D) (u:Value),l.foldlM f x=some d→R w H x u→l.length=us.length→(∀(i:Nat) c,l[i]? =some c→R w H c (us.getD i Go.undef))→∃r,Runs P (us.foldlM g u) r∧R w H d r
 | [],us,x,d,u,h,hx,hl,_=>by
  cases us with
  |nil=>simp at h;subst h;exact⟨u,.pure _,hx⟩
  |cons=>simp at hl
 |y::l,us,x,d,u,h,hx,hl,hr=>by
  cases us with
  |nil=>simp at hl
  |cons v us=>
   simp only[List.foldlM_cons,Option.bind_eq_bind,D1T]at h;obtain⟨c,hc,h⟩:=h;obtain⟨r,j,m⟩:=o _ _ _ hc w H u v hx (by simpa using hr 0 y rfl);obtain⟨p,h1,q⟩:=A7P o l us c d r h m (by simpa using hl) (fun i c hc=>by simpa using hr (i+1) c (by simpa using hc));exact⟨p,by rw[List.foldlM_cons];exact j.bind h1,q⟩
theorem B86: ∀a b c,B2t a b=some c→∀w H u v,R w H a u→R w H b v→∃r,Runs P (Builtin.min2 u v) r∧R w H c r:=by
 intro a b c h w H u v i hb;unfold B2t at h;split at h
 ·cases h;obtain rfl:=i.int_inv;obtain rfl:=hb.int_inv;exact⟨_,.pure _,.int _ _⟩
 ·cases h
theorem B87: ∀a b c,A7M a b=some c→∀w H u v,R w H a u→R w H b v→∃r,Runs P (Builtin.max2 u v) r∧R w H c r:=by
 intro a b c h w H u v i hb;unfold A7M at h;split at h
 ·cases h;obtain rfl:=i.int_inv;obtain rfl:=hb.int_inv;exact⟨_,.pure _,.int _ _⟩
 ·cases h
theorem A9s{o:Oper}{ρ :Operand→Value}{ev:Operand→D}{w:World}{H:Heap}{d:D}(j: ∀x,R w H (ev x) (ρ x))(h:L1 P ev o.op=some d):
  ∃v,(∀w',(execOp ρ o).run P w'= .ok (.value v) w')∧R w H d v:=by
 obtain⟨dst,op,type,pos,after,guard⟩:=o;simp only at h;have lift: ∀{s:Sem Value},(∃v,Runs P s v∧R w H d v)→∃v,Runs P (do pure (Next.value (←s))) (Next.value v)∧R w H d v:=fun⟨v,h1,h2⟩=>⟨v,A5s h1,h2⟩
 have a9: ∀(x:Option Operand),A8N (x.map ev) (x.map ρ):=fun x=>by
  cases x with
  |none=>trivial
  |some x=>intro k n e;have:=j x;rw[e]at this;exact this.int_inv
 show∃v,Runs P (execOp ρ _) (Next.value v)∧R w H d v;cases op<;>simp only[L1]at h<;>try(cases h;done)
 case move x=>cases h;exact⟨ρ x,.pure _,j x⟩
 case assign x=>cases h;exact⟨ρ x,.pure _,j x⟩
 case pick c a b=>
  split at h
  ·rename_i t hc;cases h;have hb:=j c;rw[hc]at hb;refine⟨if t then ρ a else ρ b,?_,?_⟩
   ·simp only[execOp];rw[hb.bool_inv];exact(D2q (P:=P) t).bind (.pure _)
   ·cases t
    ·exact j b
    ·exact j a
  ·cases h
 case build t parts=>
  split at h
  ·rename_i hb;obtain⟨z,hz,h⟩:=D1T.1 h;obtain⟨fs,b0,h⟩:=D1T.1 h;obtain⟨out,ho,rfl⟩:=D1Q.1 h;obtain⟨O,T,U,V⟩:=A4A hz;obtain⟨b3,A⟩:=A9m hb;have G:RowR w H z O.cells:=by
    subst U;refine⟨by simp,fun i c hc=>D1s.1 V c (D1o hc),fun i c hc=>?_⟩;simp only[D1e,D1Q]at hc;obtain⟨u,W,rfl⟩:=hc;have:O.cells.getD i Go.undef=u:=by
     have X:O.cells[i]? =some u:=by simpa using W
     simp[X]
    rw[this];exact A1l w H u
   obtain⟨us,Y,a0⟩:=B5Y (qs:=parts.toList.map fun p=>(p.1,ρ p.2)) ho G (by simp) (fun i p q hp hq=>by
    simp only[D1e,D1Q]at hp hq;obtain⟨a,ha,rfl⟩:=hp;obtain⟨b,I,rfl⟩:=hq;rw[ha]at I;cases I;exact⟨rfl,j _⟩)
   refine lift ⟨.agg us,?_,a0.agg⟩;unfold Instr.build;refine T.bind ?_;refine(C0 A).bind ?_;refine(A9r A b0).bind ?_;have e1:(fun i:Nat=>((fs.map fun x=>(x.1,x.2.2)).toArray)[i]?)=fun i:Nat=>(fs[i]?).map fun(f:Nat×Bool×Nat)=>(f.1,f.2.2):=by funext i;simp
   have e2:(parts.map fun(i,x)=>(i,ρ x)).toList=parts.toList.map fun p=>(p.1,ρ p.2):=by simp
   rw[e1,e2,Y];exact .pure _
  ·rename_i hb;obtain⟨z,hz,h⟩:=D1T.1 h;obtain⟨s,hs,h⟩:=D1T.1 h;obtain⟨out,ho,rfl⟩:=D1Q.1 h;obtain⟨O,T,U,V⟩:=A4A hz;obtain⟨n0,e0,i0,A,a6,hsz⟩: ∃n0 e0 i0,P.underlying t=some (.array n0 e0)∧P.info? e0=some i0∧s.2=i0.size:=by
    unfold B1g at hs;split at hs
    ·rename_i n0 e0 A;obtain⟨i0,a6,he⟩:=D1Q.1 hs;subst he;exact⟨n0,e0,i0,A,a6,rfl⟩
    ·cases hs
   rw[hsz]at ho;have G:RowR w H z O.cells:=by
    subst U;refine⟨by simp,fun i c hc=>D1s.1 V c (D1o hc),fun i c hc=>?_⟩;simp only[D1e,D1Q]at hc;obtain⟨u,W,rfl⟩:=hc;have:O.cells.getD i Go.undef=u:=by
     have X:O.cells[i]? =some u:=by simpa using W
     simp[X]
    rw[this];exact A1l w H u
   obtain⟨us,Y,a0⟩:=B5Y (qs:=parts.toList.map fun p=>(p.1,ρ p.2)) ho G (by simp) (fun i p q hp hq=>by
    simp only[D1e,D1Q]at hp hq;obtain⟨a,ha,rfl⟩:=hp;obtain⟨b,I,rfl⟩:=hq;rw[ha]at I;cases I;exact⟨rfl,j _⟩)
   refine lift ⟨.agg us,?_,a0.agg⟩;unfold Instr.build;refine T.bind ?_;refine(C0 A).bind ?_;refine(G8 a6).bind ?_;have e2:(parts.map fun(i,x)=>(i,ρ x)).toList=parts.toList.map fun p=>(p.1,ρ p.2):=by simp
   rw[e2,Y];exact .pure _
  ·cases h
 case nilCheck x=>
  have hx:=j x;split at h
  ·rename_i e;cases h;rw[e]at hx;refine⟨_,?_,hx⟩;simp only[execOp,hx.box_inv];exact .pure _
  ·rename_i e;cases h;rw[e]at hx;refine⟨_,?_,hx⟩;simp only[execOp,hx.el_inv];exact .pure _
  ·rename_i e;cases h;rw[e]at hx;obtain⟨b,off,hv⟩:=hx.ro_inv;refine⟨_,?_,hx⟩;simp only[execOp,hv];exact .pure _
  ·rename_i e;cases h;rw[e]at hx;generalize hv: ρ x=v at hx;cases hx with
   |fn f ds es vs us hl hm hr hq=>refine⟨_,?_,.fn _ _ _ vs us hl hm hr hq⟩;simp only[execOp,hv];exact .pure _
  ·cases h
 case binOp bop t x y yt=>exact lift (B1l h (j x) (j y))
 case unOp uop t x=>exact lift (B5X h (j x))
 case convert s t x=>exact lift (B1j h (j x))
 case fieldAddr s x f=>exact lift (A5J h (j x))
 case field t x f=>exact lift (A9p h (j x))
 case indexAddr t x i=>exact lift (A5I h (j x) (j i))
 case index t x i=>exact lift (A9q h (j x) (j i))
 case slice t x lo hi mx=>
  cases mx with
  |some m=>simp at h
  |none=>simp only at h;exact lift (A9n h (j x) (a9 lo) (a9 hi))
 case extract x i=>
  split at h
  ·rename_i ds e;have hx:=j x;rw[e]at hx;obtain⟨vs,hv,hl,hr⟩:=hx.tuple_inv;refine lift ⟨_,?_,hr i d h⟩;rw[hv];have b1:i<vs.size:=by rw[←hl];exact(D1R.1 h).1
   have:vs[i]? =some (vs.getD i Go.undef):=by simp[b1]
   unfold Instr.extract;dsimp only;rw[this];exact .pure _
  ·cases h
 case makeInterface t x=>
  split at h
  ·cases h
  ·rename_i hn;cases h;refine lift ⟨_,?_,.iface t _ _ (j x)⟩;simp only[not_or]at hn;obtain⟨u,A⟩: ∃u,P.underlying t=some u:=by
    cases e:P.underlying t with
    |none=>exact absurd (by rw[e];rfl) hn.2
    |some u=>exact⟨u,rfl⟩
   unfold Instr.makeInterface;refine(C0 A).bind ?_;cases u<;>first|exact .pure _|(exfalso;apply hn.1;simp[C7,A];done)
 case makeFunc fn first captured=>
  cases h;refine lift ⟨_,.pure _,.fn fn _ _ _ _ (by simp) (by simp) (fun i d hd=>?_) (fun i d hd=>?_)⟩
  ·simp only[D1e,D1Q]at hd;obtain⟨x,hx,rfl⟩:=hd;have:(first.map ρ).getD i Go.undef= ρ x:=by
    have X:first[i]? =some x:=by simpa using hx
    simp[X]
   rw[this];exact j x
  ·simp only[D1e,D1Q]at hd;obtain⟨x,hx,rfl⟩:=hd;have:(captured.map ρ).getD i Go.undef= ρ x:=by
    have X:captured[i]? =some x:=by simpa using hx
    simp[X]
   rw[this];exact j x
 case call c=>
  obtain⟨callee,args,b2⟩:=c
  have J: ∀{f:D→D→Option D} {g:Value→Value→Sem Value},(∀a b c,f a b=some c→∀w H u v,R w H a u→R w H b v→∃r,Runs P (g u v) r∧R w H c r)→A7N f (args.toList.map ev)=some d→
    ∃x l,(args.map ρ).toList=x::l∧∃r,Runs P (l.foldlM g x) r∧R w H d r:=by
   intro f g hf hd;unfold A7N at hd;cases hl:args.toList with
   |nil=>rw[hl]at hd;simp at hd
   |cons a M=>
    rw[hl]at hd;simp only[D2Y]at hd;refine⟨ρ a,M.map ρ,by simp[hl],?_⟩;refine A7P hf (M.map ev) (M.map ρ) (ev a) d (ρ a) hd (j a) (by simp) (fun i c hc=>?_);simp only[D1e,D1Q]at hc;obtain⟨x,hx,rfl⟩:=hc;have:(M.map ρ).getD i Go.undef= ρ x:=by simp[List.getD,hx]
    rw[this];exact j x
  cases callee with
  |value=>simp at h
  |invoke=>simp at h
  |builtin b=>
   cases b<;>simp only at h<;>try(cases h;done)
   case len=>
    split at h
    ·rename_i t x ht hx;obtain⟨u,hr,hR⟩:=B4B h (j x) type b2 ht (args.map ρ) (by simp[hx]);refine⟨u,?_,hR⟩;simp only[execOp,resolve,invoke,builtin];exact(D2q (P:=P) _).bind (A5s hr)
    ·cases h
   case cap=>
    split at h
    ·rename_i t ht hx;obtain⟨x,hx,he⟩:=D1Q.1 hx;split at h
     ·rename_i hb;cases h;obtain⟨e,A⟩:=Y2 hb;have hr:=j x;rw[he]at hr;generalize hv: ρ x=v at hr;cases hr;refine⟨.int .i64 0,?_,.int _ _⟩;simp only[execOp,resolve,invoke,builtin];refine(D2q (P:=P) _).bind (A5s ?_);unfold Builtin.cap_;rw[ht,show (args.map ρ)[0]? =some (.slice none 0 0)by simp[hx,hv]];exact(C0 A).bind (.pure _)
     ·cases h
    ·cases h
   case min=>
    obtain⟨x,l,hl,r,hr,hR⟩:=J B86 h;refine⟨r,?_,hR⟩;simp only[execOp,resolve,invoke,builtin];refine(D2q (P:=P) _).bind (A5s ?_);unfold Builtin.min_;rw[hl];exact hr
   case max=>
    obtain⟨x,l,hl,r,hr,hR⟩:=J B87 h;refine⟨r,?_,hR⟩;simp only[execOp,resolve,invoke,builtin];refine(D2q (P:=P) _).bind (A5s ?_);unfold Builtin.max_;rw[hl];exact hr
end
def Post(H:Heap)(w:World)(K:D→Heap→Prop)(v:Value)(w':World):Prop:=
 ∃d H',R w' H' d v∧Sat H' w'∧Ext H w w'∧From w H H'∧K d H'
theorem Post.mono{H:Heap}{w:World}{K i:D→Heap→Prop}{v:Value}{w':World}(h:Post H w K v w')(j: ∀d H',K d H'→i d H'):Post H w i v w':=
 let ⟨d,H',h1,h2,h3,h4,h5⟩:=h;⟨d,H',h1,h2,h3,h4,j _ _ h5⟩
def A1n(P:Program)(f:Nat):Bool:=match P.funcs[f]? with
 |some fn=>fn.body.isSome&&fn.name != "runtime.NumGoroutine"
 |none=>false
def ACalls(P:Program)(f:Nat)(args:List D)(H:Heap)(Q:D→Heap→Prop):Prop:=
 A1n P f=true∧∀w (vs:Array Value),args.length=vs.size→(∀(i:Nat) d,args[i]? =some d→R w H d (vs.getD i Go.undef))→Sat H w→
  Calls P f vs w fun e w'=>∃v,e= .returned v∧Post H w Q v w'
theorem ACalls.mono{P:Program}{f:Nat}{args:List D}{H:Heap}{Q i:D→Heap→Prop}(h:ACalls P f args H Q)(hq: ∀d H',Q d H'→i d H'):ACalls P f args H i:=
 ⟨h.1,fun w vs h1 j m=>(h.2 w vs h1 j m).mono fun _ _ ⟨v,he,hp⟩=>⟨v,he,hp.mono hq⟩⟩
def A4D(H:Heap):D→Option (List D)
 | .box b off=>match H b with
  |some (.box cs _)=>some (cs.drop off)
  |_=>none
 | .el b sz i off=>match H b with
  |some (.vec sz' es)=>if sz=sz' then(es[i]?).map (·.drop off)else none
  |_=>none
 | .ro cs=>some cs
 | .glob g=>match H g with
  |some (.ro cs)=>some cs
  |_=>none
 |_=>none
def y5(P:Program)(t:TypeId)(a:D)(H:Heap):Option D:=(F7 P t).bind fun s=>(A4D H a).bind (y3 s)
def Y3(P:Program)(t:TypeId)(a x:D)(H:Heap):Option Heap:=
 if(F7 P t).map (·.2)=some x.cells.length∧x.cells.all D.one=true then match a with
  | .box b off=>match H b with
   |some (.box cs Z)=>if off+x.cells.length≤cs.length then some (H.set b (.box (P4 cs off x.cells) Z))else none
   |_=>none
  | .el b sz i off=>match H b with
   |some (.vec sz' es)=>if sz=sz'∧i<es.length∧off+x.cells.length≤sz then some (H.set b (.vec sz (es.set i (P4 (es.getD i []) off x.cells))))else none
   |_=>none
  |_=>none
 else none
def F1(s:ByteArray):List (List D):=s.data.toList.map fun c=>[D.int .u8 c.toNat]
def M7(H:Heap)(sz:Nat):D→Option (List (List D))
 | .nilsl=>some []
 | .sl sz' es=>if sz=sz' then some es else none
 | .vec b sz' lo n=>if sz=sz' then match H b with
  |some (.vec sz'' es)=>if sz=sz''∧lo+n≤es.length then some ((es.drop lo).take n)else none
  |_=>none else none
 | .str s=>if sz=1 then some (F1 s)else none
 |_=>none
def A4E:List (List D)→List (Nat×D)→Option (List (List D))
 |es,[]=>some es
 |es,(i,d)::ps=>if i<es.length∧d.cells.length=(es.getD i []).length∧d.cells.all D.one=true then A4E (es.set i d.cells) ps else none
def A1F(P:Program)(ev:Operand→D)(H:Heap)(K:D→Heap→Prop)(t t':TypeId)(s x:Operand):Prop:=
 ∃e sz by_,G6 P t=some (e,sz,by_)∧0<sz∧(C7 P t'= .slice∨C7 P t'= .str)∧(G4 P e).map (·.length)=some sz∧∃xs,M7 H sz (ev x)=some xs∧match ev s with
  | .nilsl=>xs.length*by_≤140737488355328∧xs.length≤9223372036854775807∧(xs= []→K .nilsl H)∧(xs≠[]→∀b,H b=none→K (.vec b sz 0 xs.length) (H.set b (.vec sz xs)))
  | .vec b sz' lo n=>sz'=sz∧((lo=0∧∃es,H b=some (.vec sz es)∧n≤es.length∧(n+xs.length)*by_≤140737488355328∧n+xs.length≤9223372036854775807∧
    ∀b',H.del b b'=none→K (.vec b' sz 0 (n+xs.length)) ((H.del b).set b' (.vec sz (es.take n++xs))))∨
   ∃es,H b=some (.vec sz es)∧lo+n≤es.length∧(n+xs.length)*by_≤140737488355328∧n+xs.length≤9223372036854775807∧
    ∀b' pre,H.del b b'=none→K (.vec b' sz pre.length (n+xs.length)) ((H.del b).set b' (.vec sz (pre++((es.drop lo).take n++xs)))))
  |_=>False
def A3J(P:Program)(ev:Operand→D)(H:Heap)(K:D→Heap→Prop)(s t:TypeId)(x:Operand):Prop:=match ev x with
 | .str z=>C7 P s= .str∧(match P.underlying t with|some (.slice e)=>P.underlying e=some (.int .u8)|_=>False)∧∀b,H b=none→K (.vec b 1 0 z.size) (H.set b (.vec 1 (F1 z)))
 |d=>(C7 P t= .str∧(match P.underlying s with|some (.slice e)=>P.underlying e=some (.int .u8)|_=>False)∧∃z,M7 H 1 d=some (F1 z)∧K (.str z) H)∨
  (s=t∧(match P.underlying s with|some (.slice e)=>P.underlying e=some (.int .u8)|_=>False)∧∃b z,d= .vec b 1 0 z.size∧0<z.size∧H b=some (.vec 1 (F1 z))∧K (.sl 1 (F1 z)) (H.del b))
inductive KK where
 |one (b:R1)
 |arr (n:Nat) (b:R1)
def B88(b:R1):Bool:=b= .int∨b= .str∨b= .bool
def A3K(P:Program)(t:TypeId):Option (TypeId×TypeId×KK):=match P.underlying t with
 |some (.map k e)=>match P.underlying k with
  |some (.array n e')=>if(P.info? e').map (·.size)=some 1∧F7 P e'=some (false,1)∧B88 (C7 P e')=true then some (k,e,.arr n (C7 P e'))else none
  |_=>if B88 (C7 P k)=true then some (k,e,.one (C7 P k))else none
 |_=>none
def A4v:KK→D→D→Option Bool
 | .one b,x,y=>V0 b x y
 | .arr n b,.agg xs,.agg ys=>if xs.length=n∧ys.length=n then V1 ((List.range n).map fun i=>(i,b)) xs ys else none
 | .arr _ _,_,_=>none
def P5(kk:KK)(k:D):List (D×D)→Nat→Option (Option (Nat×D))
 | [],_=>some none
 |p::l,i=>(A4v kk k p.1).bind fun c=>if c=true then some (some (i,p.2))else P5 kk k l (i+1)
def R9:KK→D→Bool
 | .one _,.agg _=>false
 | .one _,d=>d.key
 | .arr n _,.agg cs=>decide (cs.length=n)&&d1 cs
 | .arr _ _,_=>false
where d1 (cs:List D):Bool:=cs.all D.key
def A5u(P:Program)(t:TypeId):Option D:=((P.info? t).bind (·.zero)).map D.ofValue
def A2s(ok:Bool)(z:D):Option (Nat×D)→D
 |some (_,d)=>if ok=true then .tuple [d,.bool true]else d
 |none=>if ok=true then .tuple [z,.bool false]else z
def X7(H:Heap):D→Option (List (D×D))
 | .nilmap=>some []
 | .map b=>match H b with
  |some (.map kvs)=>some kvs
  |_=>none
 | .fm kvs=>some kvs
 |_=>none
def A1G(P:Program)(t:TypeId)(m k:D)(ok:Bool)(H:Heap):Option D:=(A3K P t).bind fun T=>if R9 T.2.2 k=true then(A5u P T.2.1).bind fun z=>(X7 H m).bind fun kvs=>(P5 T.2.2 k kvs 0).map (A2s ok z)else none
def A5v(kvs:List (D×D))(k x:D):Option (Nat×D)→List (D×D)
 |some (i,_)=>kvs.set i (k,x)
 |none=>kvs++[(k,x)]
def A3L(P:Program)(t:TypeId)(m k x:D)(H:Heap):Option Heap:=(A3K P t).bind fun T=>if R9 T.2.2 k=true then match m with
 | .map b=>match H b with
  |some (.map kvs)=>(P5 T.2.2 k kvs 0).map fun r=>H.set b (.map (A5v kvs k x r))
  |_=>none
 |_=>none else none
def A1h(P:Program)(t:TypeId):Option TypeId:=match P.info? t with
 |some i=>match i.desc with
  | .named "strings.Builder" _=>some t
  |_=>none
 |none=>none
def C9(P:Program)(ev:Operand→D)(H:Heap)(K:D→Heap→Prop)(op:Op):Prop:=match op with
 | .load t x=>∃d,y5 P t (ev x) H=some d∧K d H
 | .store t a x=>∃H',Y3 P t (ev a) (ev x) H=some H'∧K .undef H'
 | .alloc t=>∃z,G4 P t=some z∧∀b,H b=none→K (.box b 0) (H.set b (.box z (A1h P t)))
 | .box _ x=>(ev x).cells.all D.one=true∧∀b,H b=none→K (.box b 0) (H.set b (.box (ev x).cells))
 | .buildSlice t len parts=>∃e sz by_ z es,G6 P t=some (e,sz,by_)∧0<sz∧len*sz≤16777216∧G4 P e=some z∧z.length=sz∧A4E (List.replicate len z) (parts.toList.map fun p=>(p.1,ev p.2))=some es∧
   ∀b,H b=none→K (.vec b sz 0 len) (H.set b (.vec sz es))
 | .makeSlice t l c=>∃e sz by_ z k n k' m,G6 P t=some (e,sz,by_)∧0<sz∧G4 P e=some z∧z.length=sz∧ev l= .int k n∧ev c= .int k' m∧0≤n∧n≤m∧by_*m≤281474976710656∧m<9223372036854775808∧
   ∀b,H b=none→K (.vec b sz 0 n.toNat) (H.set b (.vec sz (List.replicate n.toNat z)))
 | .convert s t x=>match I4 P (.convert s t x)with
  | .pure=>∃d,L1 P ev (.convert s t x)=some d∧K d H
  |_=>A3J P ev H K s t x
 | .call c=>match c.callee with
  | .value f=>match ev f with
   | .fn (.func g) first captured=>ACalls P g (first++c.args.toList.map ev++captured) H K
   |_=>False
  | .builtin .len=>match I4 P (.call c)with
   | .pure=>∃d,L1 P ev (.call c)=some d∧K d H
   |_=>match c.args.toList with
    | [x]=>∃kvs,X7 H (ev x)=some kvs∧K (.int .i64 kvs.length) H
    |_=>False
  | .builtin .append=>match c.argTypes.toList,c.args.toList with
   | [t,t'],[s,x]=>A1F P ev H K t t' s x
   |_,_=>False
  |_=>match I4 P (.call c)with
   | .pure=>∃d,L1 P ev (.call c)=some d∧K d H
   |_=>False
 | .range t x=>match ev x with
  | .str s=>P.underlying t=some .string∧∀b,H b=none→K (.box b 0) (H.set b (.iter s 0))
  | .fm kvs=>(A3K P t).isSome=true∧∀b,H b=none→K (.box b 0) (H.set b (.rng kvs []))
  |_=>False
 | .next x isString=>match ev x,isString with
  | .box b 0,true=>match H b with
   |some (.iter s pos)=>(pos<s.size→K (.tuple [.bool true,.int .i64 pos,.int .i32 (Utf8.decode s pos).1]) (H.set b (.iter s (pos+(Utf8.decode s pos).2))))∧(¬pos<s.size→K (.tuple [.bool false]) H)
   |_=>False
  | .box b 0,false=>match H b with
   |some (.rng kvs seen)=>(∀i p,kvs[i]? =some p→i∉seen→K (.tuple [.bool true,p.1,p.2]) (H.set b (.rng kvs (seen++[i]))))∧((∀i,i<kvs.length→i∈seen)→K (.tuple [.bool false]) H)
   |_=>False
  |_,_=>False
 | .entry x=>match ev x with
  | .box b 0=>match H b with
   |some (.rng kvs seen)=>∃i p,seen.getLast?=some i∧kvs[i]? =some p∧K (.tuple [p.1,p.2]) H
   |_=>False
  |_=>False
 | .makeMap _ none=>∀b,H b=none→K (.map b) (H.set b (.map []))
 | .lookup t m k ok=>∃d,A1G P t (ev m) (ev k) ok H=some d∧K d H
 | .mapUpdate t m k x=>∃H',A3L P t (ev m) (ev k) (ev x) H=some H'∧K .undef H'
 |op=>match I4 P op with
  | .pure=>∃d,L1 P ev op=some d∧K d H
  |_=>False
def Heap.minus(H:Heap)(l:List Nat):Heap:=fun k=>if k∈l then none else H k
def B5Z(P:Program)(sx:Bool)(l:List Nat)(ev:Operand→D)(H:Heap)(K:D→Heap→Prop)(op:Op):Prop:=match op with
 | .load t x=>(match ev x with| .box b _=>b∈l| .el b _ _ _=>b∈l|_=>False)∧C9 P ev H K (.load t x)
 | .store t a x=>(sx=true→C9 P ev (H.minus l) (fun _ _=>True) (.store t a x))∧C9 P ev H K (.store t a x)
 | .alloc t=>C9 P ev (H.minus l) (fun _ _=>True) (.alloc t)∧C9 P ev H K (.alloc t)
 | .box t x=>C9 P ev (H.minus l) (fun _ _=>True) (.box t x)∧C9 P ev H K (.box t x)
 | .buildSlice t n ps=>C9 P ev (H.minus l) (fun _ _=>True) (.buildSlice t n ps)∧C9 P ev H K (.buildSlice t n ps)
 | .call ⟨.builtin .append,as_,ts⟩=>C9 P ev (H.minus l) (fun _ _=>True) (.call ⟨.builtin .append,as_,ts⟩)∧C9 P ev H K (.call ⟨.builtin .append,as_,ts⟩)
 |op=>I4 P op= .pure∧C9 P ev H K op
def A7Q:D→Bool
 | .bool _| .int _ _| .str _=>true
 |_=>false
def Heap.sub(H Hc:Heap):Heap:=fun k=>if Hc.held k=true then none else H k
def A5w(P:Program)(l:List Nat)(ev:Operand→D)(H:Heap)(K:D→Heap→Prop)(op:Op):Prop:=match op with
 | .load t x=>(match ev x with| .box b _=>b∈l| .el b _ _ _=>b∈l|_=>False)∧C9 P ev H K (.load t x)
 | .buildSlice t n ps=>C9 P ev (H.minus l) (fun _ _=>True) (.buildSlice t n ps)∧C9 P ev H K (.buildSlice t n ps)
 | .call ⟨.value f,as_,ts⟩=>∃Hc:Heap,Hc.Le H∧(∀k∈l,Hc.held k=false)∧C9 P ev Hc (fun d _=>A7Q d=true∧K d (H.sub Hc)) (.call ⟨.value f,as_,ts⟩)
 |op=>I4 P op= .pure∧C9 P ev H K op
section
variable {P:Program}
theorem RowR.mono{w w':World}{H H':Heap}{cs:List D}{vs:Array Value}(h:RowR w H cs vs)(he:Ext H w w')(j:From w H H'):RowR w' H' cs vs:=
 ⟨h.len,h.one,fun i c hc=>(h.rel i c hc).mono he j⟩
theorem RowR.oneCell{w:World}{H:Heap}{cs:List D}{vs:Array Value}(h:RowR w H cs vs): ∀v∈vs.toList,v.oneCell'=true:=by
 intro v hv;obtain⟨i,o⟩:=List.getElem?_of_mem hv;have m:i<vs.size:=by
  have:=(D1R.1 o).1;simpa using this
 have j:i<cs.length:=by rw[h.len];exact m
 have hc:cs[i]? =some cs[i]:=D1Y j;have:=(h.rel i _ hc).oneCell (h.one i _ hc);have e:vs.getD i Go.undef=v:=by
  have p:vs[i]? =some v:=by simpa using o
  simp[p]
 rwa [e]at this
theorem A4F{w:World}{H:Heap}{b:Nat}{cs:List D}{c:Array Value}{T lo i:Nat}{Z:Option TypeId}(m: ∀t,Z=some t→T=t)(hb:w.heap[b]? =some (.cells c T (lo,i)))(o: ∀j,j<c.size→¬(lo≤j∧j<i))(h:RowR w H cs c):ObjOk w H b (.box cs Z):=
 ⟨c,T,lo,i,hb,o,h.len.symm,fun j d hd=>⟨h.one j d hd,h.rel j d hd⟩,m⟩
theorem box_inv{w:World}{H:Heap}{b:Nat}{cs:List D}{Z:Option TypeId}(h:ObjOk w H b (.box cs Z)): ∃c T lo m,w.heap[b]? =some (.cells c T (lo,m))∧(∀j,j<c.size→¬(lo≤j∧j<m))∧RowR w H cs c∧∀t,Z=some t→T=t:=by
 obtain⟨c,T,lo,m,h1,p,q,o,h5⟩:=h;exact⟨c,T,lo,m,h1,p,⟨q.symm,fun i d hd=>(o i d hd).1,fun i d hd=>(o i d hd).2⟩,h5⟩
structure VecR(w:World)(H:Heap)(sz:Nat)(es:List (List D))(c:Array Value):Prop where
 le:es.length*sz≤c.size
 each: ∀(i:Nat) e,es[i]? =some e→e.length=sz
 one: ∀(i:Nat) (e:List D) (j:Nat) d,es[i]? =some e→e[j]? =some d→d.one=true
 rel: ∀(i:Nat) (e:List D) (j:Nat) d,es[i]? =some e→e[j]? =some d→R w H d (c.getD (i*sz+j) Go.undef)
theorem VecR.mono{w w':World}{H H':Heap}{sz:Nat}{es:List (List D)}{c:Array Value}(h:VecR w H sz es c)(he:Ext H w w')(m:From w H H'):VecR w' H' sz es c:=
 ⟨h.le,h.each,h.one,fun i e j d h1 o=>(h.rel i e j d h1 o).mono he m⟩
theorem A0s{w:World}{H:Heap}{b sz:Nat}{es:List (List D)}{c:Array Value}{T lo m:Nat}(hb:w.heap[b]? =some (.cells c T (lo,m)))(p: ∀j,j<c.size→¬(lo≤j∧j<m))(hsz:0<sz)(h:VecR w H sz es c):ObjOk w H b (.vec sz es):=
 ⟨c,T,lo,m,hb,p,hsz,h.le,h.each,fun i e j d h1 o=>⟨h.one i e j d h1 o,h.rel i e j d h1 o⟩⟩
theorem A2K{w:World}{H:Heap}{b sz:Nat}{es:List (List D)}(h:ObjOk w H b (.vec sz es)): ∃c T lo m,w.heap[b]? =some (.cells c T (lo,m))∧(∀j,j<c.size→¬(lo≤j∧j<m))∧0<sz∧VecR w H sz es c:=by
 obtain⟨c,T,lo,m,h1,p,q,r,h5,o⟩:=h;exact⟨c,T,lo,m,h1,p,q,⟨r,h5,fun i e j d a b=>(o i e j d a b).1,fun i e j d a b=>(o i e j d a b).2⟩⟩
theorem Sat.update{w w':World}{H:Heap}{b:Nat}{o:Obj}(hs:Sat H w)(he:Ext H w w')(i:From w H (H.set b o))(hk: ∀k,k<w.heap.size→k≠b→w'.heap[k]? =w.heap[k]?)(ho:ObjOk w' (H.set b o) b o):Sat (H.set b o) w':=by
 intro k x hx;unfold Heap.set at hx;by_cases h:k=b
 ·rw[if_pos h]at hx;cases hx;rw[h];exact ho
 ·rw[if_neg h]at hx;exact(hs k x hx).mono he i (hk k (hs.lt hx) h)
theorem M6{w:World}{H:Heap}{b:Nat}(hb:H.held b=true)(o:Obj):From w H (H.set b o):=fun k _ hn=>by
 have hk:k≠b:=fun e=>by rw[e,hb]at hn;cases hn
 rw[l9 (H:=H) (by unfold Heap.set;rw[if_neg hk])];exact hn
theorem N3{w:World}{H:Heap}{b:Nat}(hb:w.heap.size≤b)(o:Obj):From w H (H.set b o):=fun k hk hn=>by
 rw[l9 (H:=H) (by unfold Heap.set;rw[if_neg (by omega)])];exact hn
theorem M1(w:World)(o:Go.Obj):(w.alloc o).heap[w.heap.size]? =some o:=by
 show (w.heap.push o)[w.heap.size]? =_;simp
theorem A3M{w:World}{H:Heap}{K:D→Heap→Prop}(hs:Sat H w){cs:List D}{vs:Array Value}(T:Nat){Z:Option TypeId}(i: ∀t,Z=some t→T=t)(hr:RowR w H cs vs)(j: ∀b,H b=none→K (.box b 0) (H.set b (.box cs Z))):
  Post H w K (.pointer (some ⟨w.heap.size,0,none⟩)) (w.alloc (.cells vs T)):=by
 have he:=Ext.alloc H w (.cells vs T);have h:=N3 (H:=H) (D1b w.heap.size) (.box cs Z);refine⟨.box w.heap.size 0,H.set w.heap.size (.box cs Z),.box _ _,?_,he,h,j _ (hs.fresh (D1b _))⟩;exact hs.update he h (fun k hk _=>Go.RowKit.Below.heap_alloc _ _ _ hk) (A4F i (M1 w _) (by simp) (hr.mono he h))
theorem y8{w:World}{H:Heap}{K:D→Heap→Prop}(hs:Sat H w){sz:Nat}{es:List (List D)}{vs:Array Value}(T n cap:Nat)(hsz:0<sz)(hr:VecR w H sz es vs)(hn:n≤cap)(hc:vs.size=cap*sz)(i: ∀b,H b=none→K (.vec b sz 0 n) (H.set b (.vec sz es))):
  Post H w K (.slice (some ⟨w.heap.size,0,none⟩) n cap) (w.alloc (.cells vs T)):=by
 have he:=Ext.alloc H w (.cells vs T);have h:=N3 (H:=H) (D1b w.heap.size) (.vec sz es);refine⟨.vec w.heap.size sz 0 n,H.set w.heap.size (.vec sz es),?_,?_,he,h,i _ (hs.fresh (D1b _))⟩
 ·have:=R.vec (w:=w.alloc (.cells vs T)) (H:=H.set w.heap.size (.vec sz es)) w.heap.size sz 0 n cap T vs.size (by unfold World.shape?;rw[M1]) (by rw[hc,Nat.zero_add]) hsz hn;rwa [Nat.zero_mul]at this
 ·exact hs.update he h (fun k hk _=>Go.RowKit.Below.heap_alloc _ _ _ hk) (A0s (M1 w _) (by simp) hsz (hr.mono he h))
theorem S0(b T:Nat)(i:Nat×Nat): ∀(vs:List Value) (o:Nat) (w:World) (c:Array Value),w.heap[b]? =some (.cells c T i)→
  (w.setCells b o vs).heap[b]? =some (.cells (j8 c o vs) T i)∧(∀k,k≠b→(w.setCells b o vs).heap[k]? =w.heap[k]?)∧(w.setCells b o vs).heap.size=w.heap.size∧(w.setCells b o vs).os=w.os∧(w.setCells b o vs).tape=w.tape∧(w.setCells b o vs).output=w.output
 | [],_,_,_,h=>⟨h,fun _ _=>rfl,rfl,rfl,rfl,rfl⟩
 |v::vs,o,w,c,h=>by
  have h1:(w.setCell ⟨b,o,none⟩ v).heap[b]? =some (.cells (c.setIfInBounds o v) T i):=by
   simp only[World.setCell,Array.getElem?_modify,if_true,h,Option.map_some];rfl
  obtain⟨j,m,p,q,r,u⟩:=S0 b T i vs (o+1) (w.setCell ⟨b,o,none⟩ v) _ h1;exact⟨j,fun k hk=>(m k hk).trans (Go.RowKit.Below.heap_setCell _ _ _ _ hk),p.trans (by simp[World.setCell]),q,r,u⟩
theorem Ext.setCells{H:Heap}{w:World}{b T:Nat}{h:Nat×Nat}{c:Array Value}(hb:w.heap[b]? =some (.cells c T h))(hn:H.held b=true)(vs:List Value)(o:Nat):Ext H w (w.setCells b o vs):=by
 obtain⟨j,i,m,p,q,r⟩:=S0 b T h vs o w c hb;refine⟨p,q,r,Nat.le_of_eq m.symm,fun k _ hk=>i k (fun e=>by rw[e,hn]at hk;cases hk),fun k _=>?_⟩;unfold World.shape?;by_cases hk:k=b
 ·subst hk;rw[j,hb];simp[O0]
 ·rw[i k hk]
theorem R3{w:World}{b T:Nat}{h:Nat×Nat}{c:Array Value}(hb:w.heap[b]? =some (.cells c T h))(i:Nat):w.cell? ⟨b,i,none⟩=c[i]? :=by
 unfold World.cell?;rw[hb];rfl
theorem A4G{w:World}{b T lo j:Nat}{c:Array Value}(hb:w.heap[b]? =some (.cells c T (lo,j))){i:Nat}(h: ¬(lo≤i∧i<j)):w.frozen? ⟨b,i,none⟩=false:=by
 unfold World.frozen?;rw[hb];simp only;rw[Bool.and_eq_false_iff];by_cases h1:lo≤i
 ·right;simp;omega
 ·left;simp;omega
theorem A3N{w:World}{t:TypeId}{b o T lo m:Nat}{c vs:Array Value}{v:Value}{bb:Bool}(hv:v.cells=vs)(h:F7 P t=some (bb,vs.size))(hb:w.heap[b]? =some (.cells c T (lo,m)))(p: ∀j,j<c.size→¬(lo≤j∧j<m))(q:o+vs.size≤c.size)(h1: ∀v∈vs.toList,v.oneCell'=true):
  (storeVar t ⟨b,o,none⟩ v).run P w= .ok () (w.setCells b o vs.toList):=by
 obtain⟨_,r⟩:=y4 (P:=P) h;unfold storeVar;rw[Sem.run_bind,r w];simp only[Result.andThen_ok,hv,ne_eq,not_true_eq_false,if_false];have hl:vs.toList.length=vs.size:=by simp
 have:=run_storeCells_cells (P:=P) b o vs.toList 0 w (fun j i=>by rw[Nat.add_zero,R3 hb];rw[hl]at i;simp;omega)
  (fun j i=>by rw[Nat.add_zero];rw[hl]at i;exact A4G hb (p _ (by omega))) h1
 rwa [Nat.add_zero]at this
theorem C2s{w:World}{H:Heap}(hs:Sat H w){d:D}{cs:List D}(h:A4D H d=some cs){v:Value}(hr:R w H d v):
  ∃b o,v= .pointer (some ⟨b,o,none⟩)∧∃g:Nat→Value,(∀i,i<cs.length→w.cell? ⟨b,o+i,none⟩=some (g i))∧(∀(i:Nat) c,cs[i]? =some c→c.one=true)∧∀(i:Nat) c,cs[i]? =some c→R w H c (g i):=by
 unfold A4D at h;split at h
 ·rename_i b off;split at h
  ·rename_i y Z hb;cases h;obtain⟨c,T,lo,q,hc,z,j,_⟩:=box_inv (hs b _ hb);refine⟨b,off,hr.box_inv,fun i=>c.getD (off+i) Go.undef,fun i q=>?_,fun i d hd=>j.one (off+i) d (by rwa [List.getElem?_drop]at hd),fun i d hd=>j.rel (off+i) d (by rwa [List.getElem?_drop]at hd)⟩;rw[R3 hc];have:off+i<c.size:=by have:=j.len;simp at q;omega
   simp[this]
  ·cases h
 ·rename_i b sz i off;split at h
  ·rename_i sz' es hb;split at h
   ·rename_i hsz;subst hsz;obtain⟨e,he,rfl⟩:=D1Q.1 h;obtain⟨c,T,lo,q,hc,z,_,hv⟩:=A2K (hs b _ hb);have A:=hv.each i e he;have p:i<es.length:=(D1R.1 he).1;have r:(i+1)*sz≤es.length*sz:=D1x _ p;rw[Nat.add_mul,Nat.one_mul]at r;have x:=hv.le;refine⟨b,i*sz+off,hr.el_inv,fun k=>c.getD (i*sz+(off+k)) Go.undef,fun k hk=>?_,fun k d hd=>hv.one i e (off+k) d he (by rwa [List.getElem?_drop]at hd),fun k d hd=>hv.rel i e (off+k) d he (by rwa [List.getElem?_drop]at hd)⟩;rw[R3 hc];simp at hk;have:i*sz+off+k<c.size:=by omega
    rw[Nat.add_assoc]at this;simp[this,Nat.add_assoc]
   ·cases h
  ·cases h
 ·cases h;cases hr with
  |ro cs b off u hb hn hc h1 hr=>exact⟨b,off,rfl,u,hc,h1,hr⟩
 ·rename_i g;split at h
  ·rename_i y hb;cases h;obtain⟨c,T,G,hc,hl,m⟩:=hs g _ hb;have hv:v= .pointer (some ⟨g,0,none⟩):=by cases hr;rfl
   refine⟨g,0,hv,fun i=>c.getD i Go.undef,fun i q=>?_,fun i d hd=>(m i d hd).1,fun i d hd=>(m i d hd).2⟩;rw[R3 hc,Nat.zero_add];have:i<c.size:=by omega
   simp[this]
  ·cases h
 ·cases h
theorem A4w{w:World}{H:Heap}(hs:Sat H w){t:TypeId}{a d:D}(h:y5 P t a H=some d){v:Value}(hr:R w H a v): ∃u,(∀w':World,(∀b o,v= .pointer (some ⟨b,o,none⟩)→w'.heap[b]? =w.heap[b]?)→(Instr.loadAt t v).run P w'= .ok u w')∧R w H d u:=by
 unfold y5 at h;obtain⟨⟨bb,n⟩,r,h⟩:=D1T.1 h;obtain⟨cs,x,h⟩:=D1T.1 h;obtain⟨b,o,rfl,g,G,h1,p⟩:=C2s hs x hr;obtain⟨I,J⟩:=B2v h g h1 p;obtain⟨A,M⟩:=y4 (P:=P) r;have q: ∀w':World,(∀y o',Value.pointer (some ⟨b,o,none⟩)= .pointer (some ⟨y,o',none⟩)→w'.heap[y]? =w.heap[y]?)→∀i,i<cs.length→w'.cell? ⟨b,o+i,none⟩=some (g i):=fun w' hw i O=>by
  rw[World.cell?_of_block (w:=w) (hw b o rfl)];exact G i O
 cases bb
 ·obtain⟨T,z⟩:=J rfl;refine⟨g 0,fun w' hw=>?_,z⟩;unfold Instr.loadAt;have m:(Instr.sureAddr (.pointer (some ⟨b,o,none⟩))).run P w'= .ok ⟨b,o,none⟩ w':=rfl;rw[Sem.run_bind,m];simp only[Result.andThen_ok];unfold loadVar;rw[Sem.run_bind,A w'];simp only[Result.andThen_ok];have:=q w' hw 0 (D1R.1 T).1;rw[Nat.add_zero]at this;simp only[D1X,if_false,run_load,this]
 ·obtain⟨hn,_,z⟩:=I rfl;refine⟨_,fun w' hw=>?_,z⟩;unfold Instr.loadAt;have m:(Instr.sureAddr (.pointer (some ⟨b,o,none⟩))).run P w'= .ok ⟨b,o,none⟩ w':=rfl;rw[Sem.run_bind,m];simp only[Result.andThen_ok];unfold loadVar;rw[Sem.run_bind,A w'];simp only[Result.andThen_ok];simp only[if_true];rw[Sem.run_bind,M w'];simp only[Result.andThen_ok];rw[Sem.run_bind,run_loadCells w' ⟨b,o,none⟩ n g (fun j U=>by rw[R2];exact q w' hw j (by simp only at hn;omega))];rfl
theorem A5x{w:World}{H:Heap}(hs:Sat H w){t:TypeId}{a d:D}(h:y5 P t a H=some d){v:Value}(hr:R w H a v): ∃u,(Instr.loadAt t v).run P w= .ok u w∧R w H d u:=
 let ⟨u,h1,h2⟩:=A4w (P:=P) hs h hr;⟨u,h1 w fun _ _ _=>rfl,h2⟩
theorem A9t{w:World}{H H':Heap}(hs:Sat H w){t:TypeId}{a x:D}(h:Y3 P t a x H=some H'){va G:Value}(U:R w H a va)(Y:R w H x G):
  ∃w',(Instr.storeAt t va G).run P w= .ok () w'∧Sat H' w'∧Ext H w w'∧From w H H':=by
 unfold Y3 at h;split at h
 ·rename_i hc;obtain⟨z,h1⟩:=hc;obtain⟨⟨bb,n⟩,z,hn⟩:=D1Q.1 z;simp only at hn;subst hn;have o:=Z6 Y h1;rw[o.len]at z;split at h
  ·rename_i b off;split at h
   ·rename_i zs Z hb;split at h
    ·rename_i I;cases h;obtain rfl:=U.box_inv;obtain⟨c,T,lo,O,m,V,hr,hZ⟩:=box_inv (hs b _ hb);have A:H.held b=true:=I1 hb;have he:=Ext.setCells (H:=H) m A G.cells.toList off;have r:=M6 (w:=w) A (.box (P4 zs off x.cells) Z);refine⟨_,?_,?_,he,r⟩
     ·unfold Instr.storeAt;have u:(Instr.sureAddr (.pointer (some ⟨b,off,none⟩))).run P w= .ok ⟨b,off,none⟩ w:=rfl;rw[Sem.run_bind,u];exact A3N rfl z m V (by rw[←o.len,←hr.len];exact I) o.oneCell
     ·obtain⟨k1,k2,_⟩:=S0 b T (lo,O) G.cells.toList off w c m;exact hs.update he r (fun k _ hk=>k2 k hk) (A4F hZ k1 (by rw[O0];exact V) ((hr.put o off).mono he r))
    ·cases h
   ·cases h
  ·rename_i b sz i off;split at h
   ·rename_i sz' es hb;split at h
    ·rename_i I;obtain⟨hsz,O,I⟩:=I;subst hsz;cases h;obtain rfl:=U.el_inv;obtain⟨c,T,lo,a0,m,V,hsz,hv⟩:=A2K (hs b _ hb);have A:H.held b=true:=I1 hb;have he:=Ext.setCells (H:=H) m A G.cells.toList (i*sz+off);have r:=M6 (w:=w) A (.vec sz (es.set i (P4 (es.getD i []) off x.cells)));have M:es[i]? =some (es.getD i []):=by simp[D1Y O]
     have a6:=hv.each i _ M;have W:(i+1)*sz≤es.length*sz:=D1x _ O;rw[Nat.add_mul,Nat.one_mul]at W;have b3:=hv.le;refine⟨_,?_,?_,he,r⟩
     ·unfold Instr.storeAt;have u:(Instr.sureAddr (.pointer (some ⟨b,i*sz+off,none⟩))).run P w= .ok ⟨b,i*sz+off,none⟩ w:=rfl;rw[Sem.run_bind,u];exact A3N rfl z m V (by rw[←o.len];omega) o.oneCell
     ·obtain⟨k1,k2,_⟩:=S0 b T (lo,a0) G.cells.toList (i*sz+off) w c m;refine hs.update he r (fun k _ hk=>k2 k hk) (A0s k1 (by rw[O0];exact V) hsz (VecR.mono ?_ he r));have hlen:G.cells.toList.length=x.cells.length:=by rw[o.len];simp
      have J: ∀(q:Nat) (e:List D) (j:Nat) d,(es.set i (P4 (es.getD i []) off x.cells))[q]? =some e→e[j]? =some d→d.one=true∧R w H d ((j8 c (i*sz+off) G.cells.toList).getD (q*sz+j) Go.undef):=by
       intro q e j d p hd;have hg:(j8 c (i*sz+off) G.cells.toList).getD (q*sz+j) Go.undef=((j8 c (i*sz+off) G.cells.toList)[q*sz+j]?).getD Go.undef:=by simp
       rw[hg,A0r,hlen];by_cases y:i=q
       ·subst y;rw[List.getElem?_set_self O]at p;cases p;rw[A4B]at hd;have a9:j<sz:=by
         have:j<(es.getD i []).length:=by
          split at hd
          ·omega
          ·exact(D1R.1 hd).1
         omega
        by_cases X:off≤j∧j<off+x.cells.length∧j<(es.getD i []).length
        ·rw[if_pos X]at hd;rw[if_pos (by omega),show i*sz+j-(i*sz+off)=j-off by omega];refine⟨o.one _ _ hd,?_⟩;have:=o.rel _ _ hd;simpa using this
        ·rw[if_neg X]at hd;rw[if_neg (by omega)];refine⟨hv.one i _ j d M hd,?_⟩;have:=hv.rel i _ j d M hd;simpa using this
       ·rw[List.getElem?_set_ne y]at p;have a9:j<sz:=by
         have h1:=hv.each q e p;have h2:=(D1R.1 hd).1;omega
        have b0: ¬(i*sz+off≤q*sz+j∧q*sz+j<i*sz+off+x.cells.length∧q*sz+j<c.size):=by
         rcases Nat.lt_or_gt_of_ne y with b1|b2
         ·have:=D1x sz (show i+1≤q from b1);rw[Nat.add_mul,Nat.one_mul]at this;omega
         ·have:=D1x sz (show q+1≤i from b2);rw[Nat.add_mul,Nat.one_mul]at this;omega
        rw[if_neg b0];refine⟨hv.one q e j d p hd,?_⟩;have:=hv.rel q e j d p hd;simpa using this
      refine⟨by rw[O0,D2E];exact hv.le,fun q e p=>?_,fun q e j d a b=>(J q e j d a b).1,fun q e j d a b=>(J q e j d a b).2⟩;by_cases y:i=q
      ·subst y;rw[List.getElem?_set_self O]at p;cases p;rw[A1E];exact a6
      ·rw[List.getElem?_set_ne y]at p;exact hv.each q e p
    ·cases h
   ·cases h
  ·cases h
 ·cases h
theorem A3O{w:World}{H:Heap}{t:TypeId}{z:List D}(h:G4 P t=some z): ∃v,Runs P (zeroValue t) v∧RowR w H z v.cells:=by
 obtain⟨v,hv,he,h1⟩:=A4A h;refine⟨v,hv,?_⟩;subst he;refine⟨by simp,fun i c hc=>D1s.1 h1 c (D1o hc),fun i c hc=>?_⟩;simp only[D1e,D1Q]at hc;obtain⟨u,j,rfl⟩:=hc;have:v.cells.getD i Go.undef=u:=by
  have m:v.cells[i]? =some u:=by simpa using j
  simp[m]
 rw[this];exact A1l w H u
end
section
variable {P:Program}
theorem B2w{w:World}{H:Heap}{sz:Nat}{xs:List (List D)}(g:Nat→Value)(hl: ∀(i:Nat) e,xs[i]? =some e→e.length=sz)(h1: ∀(i:Nat) (e:List D) (j:Nat) d,xs[i]? =some e→e[j]? =some d→d.one=true)
  (hr: ∀(i:Nat) (e:List D) (j:Nat) d,xs[i]? =some e→e[j]? =some d→R w H d (g (i*sz+j))):VecR w H sz xs ((List.range (xs.length*sz)).map g).toArray:=by
 refine⟨by simp,hl,h1,fun i e j d he hd=>?_⟩;have o:=(D1R.1 he).1;have p:j<sz:=by
  have m:=(D1R.1 hd).1;rw[hl i e he]at m;exact m
 have hm:(i+1)*sz≤xs.length*sz:=D1x _ o;rw[Nat.add_mul,Nat.one_mul]at hm;have h:i*sz+j<xs.length*sz:=by omega
 have:((List.range (xs.length*sz)).map g).toArray.getD (i*sz+j) Go.undef=g (i*sz+j):=by simp[h]
 rw[this];exact hr i e j d he hd
theorem VecR.oneCell{w:World}{H:Heap}{sz:Nat}{es:List (List D)}{c:Array Value}(h:VecR w H sz es c)(hs:c.size=es.length*sz)(hsz:0<sz): ∀v∈c.toList,v.oneCell'=true:=by
 intro v hv;obtain⟨k,hk⟩:=List.getElem?_of_mem hv;have i:k<c.size:=by
  have:=(D1R.1 hk).1;simpa using this
 have j:k / sz<es.length:=by rw[hs]at i;exact Nat.div_lt_of_lt_mul (by rwa [Nat.mul_comm]at i)
 have m:k % sz<sz:=Nat.mod_lt _ hsz;have he:es[k / sz]? =some es[k / sz]:=D1Y j;have hl:=h.each _ _ he;have hd:(es[k / sz])[k % sz]? =some ((es[k / sz])[k % sz]'(by rw[hl];exact m)):=D1Y _;have e1:k / sz*sz+k % sz=k:=by rw[Nat.mul_comm];exact Nat.div_add_mod k sz
 have:=(h.rel _ _ _ _ he hd).oneCell (h.one _ _ _ _ he hd);rw[e1]at this;have e:c.getD k Go.undef=v:=by
  have o:c[k]? =some v:=by simpa using hk
  simp[o]
 rwa [e]at this
theorem A8O{w:World}{H:Heap}(hs:Sat H w){sz:Nat}(hsz:0<sz){d:D}{xs:List (List D)}(h:M7 H sz d=some xs){v:Value}(hr:R w H d v):
  ∃us:Array Value,us.size=xs.length*sz∧VecR w H sz xs us∧∀W:World,W.heap=w.heap→(Builtin.lenOf v).run P W= .ok xs.length W∧(Builtin.firstCells sz xs.length v).run P W= .ok us W:=by
 have o: ∀(W:World),W.heap=w.heap→∀a,W.cell? a=w.cell? a:=fun W r a=>by unfold World.cell?;rw[r]
 cases d<;>simp only[M7]at h<;>try(cases h;done)
 case nilsl=>
  cases h;cases hr;exact⟨#[],by simp,⟨by simp,by simp,by simp,by simp⟩,fun W _=>⟨rfl,rfl⟩⟩
 case sl sz' es=>
  split at h
  ·rename_i e;cases h;subst e;cases hr with
   |sl0 sz a cap=>
    refine⟨#[],by simp,⟨by simp,by simp,by simp,by simp⟩,fun W _=>⟨rfl,?_⟩⟩;cases a with
    |none=>rfl
    |some a=>
     show (loadCells a (0*sz)).run P W=_;rw[Nat.zero_mul];rfl
   |sl sz es b off cap u hb hn x hcap hc h1 hr=>
    refine⟨((List.range (xs.length*sz)).map fun k=>u (k / sz) (k % sz)).toArray,by simp,B2w (fun k=>u (k / sz) (k % sz)) x h1 (fun i e j d he hd=>?_),fun W r=>⟨rfl,?_⟩⟩
    ·have A:j<sz:=by
      have y:=(D1R.1 hd).1;rw[x i e he]at y;exact y
     have e1:(i*sz+j) / sz=i:=by rw[Nat.mul_comm,Nat.mul_add_div hsz,Nat.div_eq_of_lt A,Nat.add_zero]
     have e2:(i*sz+j) % sz=j:=by rw[Nat.mul_comm,Nat.mul_add_mod,D2I A]
     simp only[e1,e2];exact hr i e j d he hd
    ·show (loadCells ⟨b,off,none⟩ (xs.length*sz)).run P W=_;refine run_loadCells W _ _ _ (fun k hk=>?_);rw[R2,o W r];have M:k / sz<xs.length:=Nat.div_lt_of_lt_mul (by rwa [Nat.mul_comm]at hk);have:=hc (k / sz) (k % sz) M (Nat.mod_lt _ hsz);rw[←this];have e1:k / sz*sz+k % sz=k:=by rw[Nat.mul_comm];exact Nat.div_add_mod k sz
     rw[Nat.add_assoc,e1]
  ·cases h
 case vec b sz' lo n=>
  split at h
  ·rename_i e;subst e;split at h
   ·rename_i G es hb;split at h
    ·rename_i hc;obtain⟨e,z⟩:=hc;subst e;cases h;obtain⟨c,T,l0,O,p,hf,_,hv⟩:=A2K (hs b _ hb);have hlen:((es.drop lo).take n).length=n:=by simp;omega
     cases hr with
     |vec b sz lo n cap T' m U V I hn=>
      have q: ∀(i:Nat) e,((es.drop lo).take n)[i]? =some e→es[lo+i]? =some e:=fun i e he=>by
       rw[List.getElem?_take]at he;split at he
       ·rwa [List.getElem?_drop]at he
       ·cases he
      refine⟨((List.range (((es.drop lo).take n).length*sz)).map fun k=>c.getD (lo*sz+k) Go.undef).toArray,by simp,B2w (fun k=>c.getD (lo*sz+k) Go.undef) (fun i e he=>hv.each _ e (q i e he)) (fun i e j d he hd=>hv.one _ e j d (q i e he) hd) (fun i e j d he hd=>?_),fun W r=>⟨by rw[hlen];rfl,?_⟩⟩
      ·have:=hv.rel _ e j d (q i e he) hd;rwa [Nat.add_mul,Nat.add_assoc]at this
      ·rw[hlen];show (loadCells ⟨b,lo*sz,none⟩ (n*sz)).run P W=_;refine run_loadCells W _ _ _ (fun k hk=>?_);rw[R2,o W r,R3 p];have h1:=hv.le;have y:(lo+n)*sz≤es.length*sz:=D1x _ z;rw[Nat.add_mul]at y;have:lo*sz+k<c.size:=by omega
       simp[this]
     |vec0 b sz lo off=>
      rw[List.take_zero];exact⟨#[],by simp,⟨by simp,fun i e he=>by simp at he,fun i e j d he hd=>by simp at he,fun i e j d he hd=>by simp at he⟩,fun W _=>⟨rfl,by
       show (loadCells ⟨b,off,none⟩ (0*sz)).run P W=_;rw[Nat.zero_mul];rfl⟩⟩
    ·cases h
   ·cases h
  ·cases h
 case str s=>
  split at h
  ·rename_i e;subst e;cases h;obtain rfl:=hr.str_inv;have hl:(F1 s).length=s.size:=by simp[F1]
   refine⟨s.data.map fun b=>.int .u8 b.toNat,by simp[hl],⟨by simp[hl],fun i e he=>?_,fun i e j d he hd=>?_,fun i e j d he hd=>?_⟩,fun W _=>⟨by rw[hl];rfl,?_⟩⟩
   ·simp only[F1,D1e,D1Q]at he;obtain⟨u,_,rfl⟩:=he;rfl
   ·simp only[F1,D1e,D1Q]at he;obtain⟨u,_,rfl⟩:=he;cases j with
    |zero=>simp at hd;subst hd;rfl
    |succ j=>simp at hd
   ·simp only[F1,D1e,D1Q]at he;obtain⟨u,J,rfl⟩:=he;cases j with
    |zero=>
     simp at hd;subst hd;have X:=(D1R.1 J).1;have:(s.data.map fun b=>Value.int .u8 b.toNat).getD (i*1+0) Go.undef= .int .u8 u.toNat:=by
      have Y:s.data[i]? =some u:=by simpa using J
      simp[Y]
     rw[this];exact .int _ _
    |succ j=>simp at hd
   ·rw[hl];show (Pure.pure ((s.extract 0 s.size).data.map fun b=>Value.int .u8 b.toNat):Sem (Array Value)).run P W=_;have:s.extract 0 s.size=s:=by
     apply ByteArray.ext;simp[ByteArray.extract,ByteArray.copySlice]
    rw[this];rfl
  ·cases h
theorem VecR.take{w:World}{H:Heap}{sz:Nat}{es:List (List D)}{c:Array Value}(h:VecR w H sz es c)(n:Nat):VecR w H sz (es.take n) c:=by
 have m: ∀(i:Nat) e,(es.take n)[i]? =some e→es[i]? =some e:=fun i e he=>by
  rw[List.getElem?_take]at he;split at he
  ·exact he
  ·cases he
 refine⟨D2N (D1x _ ?_) h.le,fun i e he=>h.each i e (m i e he),fun i e j d he hd=>h.one i e j d (m i e he) hd,fun i e j d he hd=>h.rel i e j d (m i e he) hd⟩;simp;omega
theorem VecR.join{w:World}{H:Heap}{sz:Nat}{es xs:List (List D)}{c us r:Array Value}(h:VecR w H sz es c)(k:VecR w H sz xs us)
  (h1: ∀i,i<es.length*sz→r.getD i Go.undef=c.getD i Go.undef) (u: ∀i,i<xs.length*sz→r.getD (es.length*sz+i) Go.undef=us.getD i Go.undef) (hs:(es.length+xs.length)*sz≤r.size):VecR w H sz (es++xs) r:=by
 have o: ∀{l:List (List D)} {i j:Nat} {e:List D} {d:D},(∀(i:Nat) e,l[i]? =some e→e.length=sz)→l[i]? =some e→e[j]? =some d→i*sz+j<l.length*sz:=by
  intro l i j e d hl he hd;have q:=(D1R.1 he).1;have x:=(D1R.1 hd).1;rw[hl i e he]at x;have hm:(i+1)*sz≤l.length*sz:=D1x _ q;rw[Nat.add_mul,Nat.one_mul]at hm;omega
 have p: ∀(i:Nat) e,(es++xs)[i]? =some e→(i<es.length∧es[i]? =some e)∨(es.length≤i∧xs[i-es.length]? =some e):=fun i e he=>by
  by_cases q:i<es.length
  ·rw[D2B q]at he;exact .inl ⟨q,he⟩
  ·rw[D2C (by omega)]at he;exact .inr ⟨by omega,he⟩
 refine⟨by simpa using hs,fun i e he=>?_,fun i e j d he hd=>?_,fun i e j d he hd=>?_⟩
 ·rcases p i e he with⟨_,m⟩|⟨_,m⟩
  ·exact h.each _ _ m
  ·exact k.each _ _ m
 ·rcases p i e he with⟨_,m⟩|⟨_,m⟩
  ·exact h.one _ _ _ _ m hd
  ·exact k.one _ _ _ _ m hd
 ·rcases p i e he with⟨_,m⟩|⟨y,m⟩
  ·rw[h1 _ (o h.each m hd)];exact h.rel _ _ _ _ m hd
  ·have:=u _ (o k.each m hd);have e1:i*sz+j=es.length*sz+((i-es.length)*sz+j):=by
    rw[←Nat.add_assoc,←Nat.add_mul,show es.length+(i-es.length)=i by omega]
   rw[e1,this];exact k.rel _ _ _ _ m hd
theorem append_types{i:TypeId}(h:C7 P i= .slice∨C7 P i= .str):(∃e,P.underlying i=some (.slice e))∨P.underlying i=some .string:=by
 rcases h with h|h
 ·exact .inl (Y2 h)
 ·exact .inr (V2 h)
theorem A0e{w:World}{t o ty e sz p n cap m:Nat}{base:Option Addr}{x:Value}{us:Array Value}(he:G6 P t=some (e,sz,p))(q:C7 P o= .slice∨C7 P o= .str)
    (hl:(Builtin.lenOf x).run P w= .ok m w) (z:(Builtin.firstCells sz m x).run P w= .ok us w) (r:n+m≤cap):
    (Builtin.append_ #[t,o] ty #[.slice base n cap,x]).run P w=(match base with|some a=>(do storeCells (a.add (n*sz)) us.toList;pure (.slice base (n+m) cap):Sem Value)|none=>pure (.slice base (n+m) cap)).run P w:=by
  obtain⟨u,i,y,h,_⟩:=V3 he;simp only at u y h;unfold Builtin.append_;simp only[List.getElem?_toArray,List.getElem?_cons_zero,D1n];rw[Sem.run_bind,run_underlying u];simp only[Result.andThen_ok];rw[Sem.run_bind,G8 y w];simp only[Result.andThen_ok,h];rcases append_types q with⟨e',j⟩|j<;>
  ( rw[Sem.run_bind,run_underlying j]
    simp only[Result.andThen_ok];rw[Sem.run_bind];simp only[Sem.run_pure,Result.andThen_ok,D1X,if_false];rw[Sem.run_bind,hl];simp only[Result.andThen_ok,r,if_true,D2g];rw[Sem.run_bind,z];cases base<;>rfl)
theorem A1o{w:World}{t u ty e sz h n cap m:Nat}{base:Option Addr}{x z:Value}{us os:Array Value}(he:G6 P t=some (e,sz,h))(y:C7 P u= .slice∨C7 P u= .str)
    (hl:(Builtin.lenOf x).run P w= .ok m w) (M: ∀W:World,W.heap=w.heap→(Builtin.firstCells sz m x).run P W= .ok us W) (ho: ∀W:World,W.heap=w.heap→(Builtin.firstCells sz n (.slice base n cap)).run P W= .ok os W) (O:Runs P (zeroValue e) z) (A: ¬n+m≤cap)
    (G:(n+m)*h≤140737488355328) (T:n+m≤9223372036854775807): ∃nc,n+m≤nc∧
    (Builtin.append_ #[t,u] ty #[.slice base n cap,x]).run P w= .ok (.slice (some ⟨w.heap.size,0,none⟩) (n+m) nc) (({w with drawn:=w.drawn+1}:World).alloc (.cells (os++us++Builtin.zeroCells z.cells (nc-(n+m))) e)):=by
  obtain⟨J,i,j,o,p⟩:=V3 he;simp only at J j o p;refine⟨(Question.appendCap (n+m) cap e).cut (w.tape w.drawn (.appendCap (n+m) cap e)),by simp only[Question.cut];omega,?_⟩;generalize I:(Question.appendCap (n+m) cap e).cut (w.tape w.drawn (.appendCap (n+m) cap e))=nc;unfold Builtin.append_;simp only[List.getElem?_toArray,List.getElem?_cons_zero,D1n];rw[Sem.run_bind,run_underlying J];simp only[Result.andThen_ok];rw[Sem.run_bind,G8 j w];simp only[Result.andThen_ok,o];have hm:IntKind.i64.max=9223372036854775807:=by decide
  have h1: ¬(((n+m:Nat):Int) > IntKind.i64.max∧(False∨i.bytes=0)):=by rw[hm];omega
  have U: ¬(Builtin.nextslicecap (n+m) cap*i.bytes > 2 ^ 48):=by
    have:=growslice_fits (need:=n+m) (old:=cap) (bytes:=h) (by omega) G;rw[p];omega
  have q: ∀(k:Nat) (W:World),(askRoom k).run P W= .ok () W:=fun k W=>by unfold askRoom;split<;>rfl
  rcases append_types y with⟨e',r⟩|r<;>
  ( rw[Sem.run_bind,run_underlying r]
    simp only[Result.andThen_ok];rw[Sem.run_bind];simp only[Sem.run_pure,Result.andThen_ok,D1X,if_false];rw[Sem.run_bind,hl];simp only[Result.andThen_ok,A,if_false,D2g,if_true];rw[Sem.run_bind,N4 j w];simp only[Result.andThen_ok,if_neg h1];rw[Sem.run_bind,N4 j w];simp only[Result.andThen_ok,if_neg U];rw[Sem.run_bind,run_choose];simp only[Question.forced,D1X,if_false,Result.andThen_ok,I];rw[Sem.run_bind,N4 j];simp only[Result.andThen_ok];rw[Sem.run_bind,q];simp only[Result.andThen_ok];rw[Sem.run_bind,ho {w with drawn:=w.drawn+1} rfl];simp only[Result.andThen_ok];rw[Sem.run_bind,M {w with drawn:=w.drawn+1} rfl];simp only[Result.andThen_ok];rw[Sem.run_bind,O];simp only[Result.andThen_ok];rfl)
end
section
variable {P:Program}
theorem B5a{t u:TypeId}(h:A1h P t=some u):t=u:=by
 unfold A1h at h;split at h
 ·split at h
  ·cases h;rfl
  ·cases h
 ·cases h
def D.toV1:D→Value
 | .int k n=>.int k n
 | .str s=>.string s
 | .bool b=>.bool b
 |_=>Go.undef
def D.toV:D→Value
 | .agg cs=>.agg (cs.map D.toV1).toArray
 |d=>d.toV1
theorem A9u{d:D}(h:d.key=true){w:World}{H:Heap}{v:Value}(hr:R w H d v):v=d.toV1:=by
 cases d<;>simp[D.key]at h
 ·exact hr.bool_inv
 ·exact hr.int_inv
 ·exact hr.str_inv
theorem A8P{d:D}(h:d.key=true)(w:World)(H:Heap):R w H d d.toV1:=by
 cases d<;>simp[D.key]at h<;>constructor
theorem A8Q{d:D}(h:d.key=true):d.one=true:=by cases d<;>simp[D.key]at h<;>rfl
theorem A8R{d:D}(h:d.keyA=true){w:World}{H:Heap}{v:Value}(hr:R w H d v):v=d.toV:=by
 cases d
 case agg cs=>
  cases hr with
  |agg _ vs hl h1 hr=>
   simp only[D.keyA,D1s]at h;simp only[D.toV,Value.agg.injEq];apply Array.ext
   ·simpa using hl.symm
   ·intro i m o;have j:i<cs.length:=by omega
    have:=A9u (h _ (D1V j)) (hr i cs[i] (D1Y j));simp only[D1L,Array.getElem?_eq_getElem m,Option.getD_some]at this;simpa using this
 all_goals exact A9u (d:=_) (by exact h) hr
theorem B5b{d:D}(h:d.keyA=true)(w:World)(H:Heap):R w H d d.toV:=by
 cases d
 case agg cs=>
  simp only[D.keyA,D1s]at h;refine .agg cs _ (by simp) (fun i d hd=>A8Q (h d (D1o hd))) (fun i d hd=>?_);have:((cs.map D.toV1).toArray).getD i Go.undef=d.toV1:=by simp[hd]
  rw[this];exact A8P (h d (D1o hd)) w H
 all_goals exact A8P (d:=_) (by exact h) w H
theorem A7R(s t:ByteArray):(s.data.toList==t.data.toList)=true↔s=t:=by
 rw[beq_iff_eq];constructor
 ·intro h;apply ByteArray.ext;exact Array.toList_inj.1 h
 ·intro h;rw[h]
theorem A5y{b:R1}{x y:D}{c:Bool}(h:V0 b x y=some c):c=true↔x.toV1=y.toV1:=by
 unfold V0 at h;split at h
 ·split at h
  ·rename_i hk;subst hk;cases h;simp[D.toV1]
  ·cases h
 ·cases h;simp only[D.toV1,Value.string.injEq];exact A7R _ _
 ·cases h;simp[D.toV1]
 ·cases h
theorem A7S{b:R1}{xs p:List D}: ∀(j:List Nat) (c:Bool),V1 (j.map fun i=>(i,b)) xs p=some c→(c=true↔∀i∈j,(xs[i]?).map D.toV1=(p[i]?).map D.toV1)
 | [],c,h=>by simp[V1]at h;subst h;simp
 |i::j,c,h=>by
  simp only[D2Y,V1]at h;split at h
  ·rename_i x y hx q;obtain⟨c1,m,h⟩:=D1T.1 h;obtain⟨r,o,rfl⟩:=D1Q.1 h;have e1:=A5y m;have e2:=A7S j r o;simp only[D1U,e1,e2,D1j,forall_eq_or_imp,hx,q,Option.map_some,D1t]
  ·cases h
theorem A7T{o:KK}{x y:D}{c:Bool}(h:A4v o x y=some c)(hx:R9 o x=true)(A:y.keyA=true):c=true↔x.toV=y.toV:=by
 unfold A4v at h;split at h
 ·rename_i b;have e:=A5y h;have p: ∀z:D,(∀cs,z≠ .agg cs)→z.toV=z.toV1:=fun z u=>by cases z<;>first|rfl|exact absurd rfl (u _)
  rw[p x (by intro cs j;subst j;simp[R9]at hx),p y (by intro cs j;subst j;simp[V0]at h)];exact e
 ·rename_i n b xs G;split at h
  ·rename_i hl;have e:=A7S _ _ h;rw[e];simp only[D.toV,Value.agg.injEq,List.mem_range];constructor
   ·intro m;apply Array.ext
    ·simp;omega
    ·intro i h1 q;simp only[List.size_toArray,D10]at h1 q;have:=m i (by omega);rw[D1Y h1,D1Y q]at this;simpa using this
   ·intro m i I;have r:=congrArg Array.toList m;simp only at r;have:=congrArg (·[i]?) r;simpa using this
  ·cases h
 ·cases h
def R4:TypeDesc→Prop
 | .bool| .int _| .string=>True
 |_=>False
theorem A7U{t:TypeId}(h:B88 (C7 P t)=true): ∃d,P.underlying t=some d∧R4 d:=by
 unfold B88 at h;simp only[D1d]at h;unfold C7 at h;split at h<;>rename_i i<;>first|exact⟨_,i,trivial⟩|(simp at h;done)
theorem Z9{t j o:TypeId}{m:KK}(h:A3K P t=some (j,o,m)):P.underlying t=some (.map j o)∧
  ((∃d,m= .one (C7 P j)∧P.underlying j=some d∧R4 d)∨∃n e' i,m= .arr n (C7 P e')∧P.underlying j=some (.array n e')∧P.info? e'=some i∧i.size=1∧F7 P e'=some (false,1)∧∃d,P.underlying e'=some d∧R4 d):=by
 unfold A3K at h;split at h
 ·rename_i k e p;split at h
  ·rename_i n e' hk;split at h
   ·rename_i hc;cases h;obtain⟨i,q,hs⟩:=D1Q.1 hc.1;exact⟨p,.inr ⟨n,e',i,rfl,hk,q,hs,hc.2.1,A7U hc.2.2⟩⟩
   ·cases h
  ·split at h
   ·rename_i hc;cases h;obtain⟨d,hd,hp⟩:=A7U hc;exact⟨p,.inl ⟨d,rfl,hd,hp⟩⟩
   ·cases h
 ·cases h
theorem A5z{w:World}{t:TypeId}{d:TypeDesc}(hd:P.underlying t=some d)(hp:R4 d)(v:Value)(e:Bool)(n:Nat):(Instr.checkKey e (n+1) t v).run P w= .ok () w:=by
 unfold Instr.checkKey;simp only[Sem.run_bind,run_underlying hd,Result.andThen];cases d<;>first|rfl|exact hp.elim
theorem A4H{w:World}{t r G:TypeId}{x:KK}{k:D}(hm:A3K P t=some (r,G,x))(hk:R9 x k=true)(e:Bool):(Instr.checkKey e 10000 r k.toV).run P w= .ok () w:=by
 rcases(Z9 hm).2 with⟨d,rfl,hd,hp⟩|⟨n,e',i,rfl,I,z,hs,m,d,hd,hp⟩
 ·exact A5z hd hp _ _ 9999
 ·cases k with
  |agg cs=>
   simp only[R9,R9.d1,D1U,D1d,D1s]at hk;obtain⟨hl,h⟩:=hk;rw[show (10000:Nat)=9998+1+1 from rfl,Instr.checkKey];simp only[D.toV,Sem.run_bind,run_underlying I,Result.andThen_ok];simp only[Std.Legacy.Range.forIn_eq_forIn_range',Std.Legacy.Range.size,Nat.sub_zero,Nat.add_one_sub_one,Nat.div_one];have each: ∀j∈List.range' 0 n,j<n:=fun j p=>by simp at p;omega
   generalize List.range' 0 n=A at each
   induction A with
   |nil=>simp
   |cons j A J=>
    have p:j<cs.length:=by have:=each j (by simp);omega
    obtain⟨u,q,_⟩:=u8 (P:=P) m (o:=j) (cs:=cs) (vs:=(cs.map D.toV1).toArray) (d:=cs[j]) (by simp[y3,p]) (w:=w) (H:=fun _=>none) (by simp)
     (fun i d hd=>A8Q (h d (D1o hd))) (fun i d hd=>by
      have:((cs.map D.toV1).toArray).getD i Go.undef=d.toV1:=by simp[hd]
      rw[this];exact A8P (h d (D1o hd)) _ _)
    have hc:P.cellsOf e'=1:=by simp[Program.cellsOf,z,hs]
    simp only[List.forIn_cons,Sem.run_bind,run_sizeOf w z,hc,Result.andThen_ok,Nat.mul_one,q w,A5z hd hp,Sem.run_pure];exact J (fun y M=>each y (by simp[M]))
  |_=>simp[R9]at hk
structure KvR(w:World)(H:Heap)(kvs:List (D×D))(es:List MapEntry):Prop where
 len:es.length=kvs.length
 key: ∀(i:Nat) (p:D×D) (e:MapEntry),kvs[i]? =some p→es[i]? =some e→p.1.keyA=true∧e.key=p.1.toV∧R w H p.2 e.val
theorem KvR.tail{w:World}{H:Heap}{p:D×D}{kvs:List (D×D)}{e:MapEntry}{es:List MapEntry}(h:KvR w H (p::kvs) (e::es)):KvR w H kvs es:=
 ⟨by have:=h.len;simpa using this,fun i j e' hp he=>h.key (i+1) j e' (by simpa using hp) (by simpa using he)⟩
theorem B4C{b:R1}{x y:D}{c:Bool}(h:V0 b x y=some c){j:TypeId}{d:TypeDesc}(hb:b=C7 P j)(hd:P.underlying j=some d)(hp:R4 d)(m:y.keyA=true):Instr.sameNow d x.toV y.toV=some c:=by
 have i:b=(match d with| .bool=>.bool| .int _=>.int|_=>.str):=by
  subst hb;simp only[C7,hd];cases d<;>first|rfl|exact hp.elim
 unfold V0 at h;split at h
 ·split at h
  ·rename_i hk;subst hk;cases h;cases d<;>simp[R4]at hp i;simp[D.toV,D.toV1,Instr.sameNow]
  ·cases h
 ·cases h;cases d<;>simp[R4]at hp i;rename_i s t;have:(s==t)=(s.data.toList==t.data.toList):=by
   apply Bool.eq_iff_iff.2;rw[MapKept.bytes_beq,A7R]
  simp[D.toV,D.toV1,Instr.sameNow,this]
 ·cases h;cases d<;>simp[R4]at hp i;simp[D.toV,D.toV1,Instr.sameNow]
 ·cases h
def Found(w:World)(H:Heap)(kvs:List (D×D))(es:List MapEntry)(k:D)(i:Nat)(r:Option (Nat×D))(r':Option (Nat×Value)):Prop:=match r with
 |none=>r'=none∧∀x∈es,x.key≠k.toV
 |some (j,d)=>∃e p,i≤j∧es[j-i]? =some e∧kvs[j-i]? =some p∧p.2=d∧r'=some (j,e.val)∧e.key=k.toV∧R w H d e.val
theorem Found.cons{w:World}{H:Heap}{p:D×D}{kvs:List (D×D)}{e:MapEntry}{es:List MapEntry}{k:D}{i:Nat}{r:Option (Nat×D)}{o:Option (Nat×Value)}(h:Found w H kvs es k (i+1) r o)(m:e.key≠k.toV):Found w H (p::kvs) (e::es) k i r o:=by
 cases r with
 |none=>exact⟨h.1,fun x hx=>by rcases D1j.1 hx with rfl|hx;exact m;exact h.2 x hx⟩
 |some q=>
  obtain⟨j,d⟩:=q;obtain⟨e',u,y,h1,z,A,G,h5,I⟩:=h;have:j-i=(j-(i+1))+1:=by omega
  exact⟨e',u,by omega,by rw[this];simpa using h1,by rw[this];simpa using z,A,G,h5,I⟩
theorem A9v{w:World}{H:Heap}{z:TypeId}{d:TypeDesc}{k:D}(hd:P.underlying z=some d)(hp:R4 d)(hk:R9 (.one (C7 P z)) k=true): ∀(kvs:List (D×D)) (es:List MapEntry) (i:Nat) (r:Option (Nat×D)),KvR w H kvs es→
  P5 (.one (C7 P z)) k kvs i=some r→∃u,Instr.findNow d k.toV es i=some u∧Found w H kvs es k i r u
 | [],es,i,r,j,h=>by
  have:es= []:=D1f (by simpa using j.len);subst this;simp[P5]at h;subst h;exact⟨none,rfl,rfl,by simp⟩
 |p::kvs,[],i,r,j,h=>by have:=j.len;simp at this
 |p::kvs,e::es,i,r,j,h=>by
  obtain⟨q,o,I⟩:=j.key 0 p e rfl rfl;unfold P5 at h;obtain⟨c,hc,h⟩:=D1T.1 h;have m:=A7T hc hk q;have A:=B4C (P:=P) (x:=k) (y:=p.1) (by exact hc) rfl hd hp q;unfold Instr.findNow;rw[o,A];cases c
  ·simp only[D1X,if_false]at h;obtain⟨u,G,J⟩:=A9v hd hp hk kvs es (i+1) r j.tail h;refine⟨u,G,J.cons ?_⟩;rw[o];intro M;have:=m.2 M.symm;cases this
  ·simp only[if_true,D1t]at h;subst h;refine⟨_,rfl,e,p,D1b _,by simp,by simp,rfl,rfl,?_,I⟩;rw[o];exact(m.1 rfl).symm
theorem A50{w0:World}{H:Heap}{e':TypeId}{b:R1}{xs J:List D}{vs us:Array Value}(hb:b=C7 P e')(j:F7 P e'=some (false,1))(d:Nat)(hx:RowR w0 H xs vs)(m:RowR w0 H J us): ∀(o:List Nat) (c:Bool),
  V1 (o.map fun i=>(i,b)) xs J=some c→∀w,(Op.eqItems (d+1) e' 1 vs us o).run P w= .ok c w
 | [],c,h,w=>by simp[V1]at h;subst h;rfl
 |i::o,c,h,w=>by
  simp only[D2Y,V1]at h;split at h
  ·rename_i x y p q;obtain⟨c1,r,h⟩:=D1T.1 h;obtain⟨O,u,rfl⟩:=D1Q.1 h;have M: ∀(cs:List D) (z:D),cs[i]? =some z→y3 (false,1) (cs.drop i)=some z:=fun cs z T=>by
    simp only[y3,List.head?_drop];exact T
   obtain⟨a,U,A⟩:=u8 (P:=P) j (M _ _ p) hx.len hx.one hx.rel;obtain⟨V,G,I⟩:=u8 (P:=P) j (M _ _ q) m.len m.one m.rel;subst hb;have hc:=A4u (P:=P) (d:=d) r A I;unfold Op.eqItems;simp only[Sem.run_bind,Nat.mul_one,U w,Result.andThen_ok,G w,hc w];cases c1
   ·simp
   ·simp only[D2f,D1X,if_false,Bool.true_and];exact A50 rfl j d hx m o O u w
  ·cases h
theorem A9w{w:World}{H:Heap}{cs:List D}(h:cs.all D.key=true):RowR w H cs (cs.map D.toV1).toArray:=by
 have j:=D1s.1 h;refine⟨by simp,fun i d hd=>A8Q (j d (D1o hd)),fun i d hd=>?_⟩;have:((cs.map D.toV1).toArray).getD i Go.undef=d.toV1:=by simp[hd]
 rw[this];exact A8P (j d (D1o hd)) w H
theorem A9x{w:World}{H:Heap}{A e':TypeId}{n:Nat}{i:TypeInfo}{k:D}(O:P.underlying A=some (.array n e'))(I:P.info? e'=some i)(u:i.size=1)(x:F7 P e'=some (false,1))(hk:R9 (.arr n (C7 P e')) k=true):
  ∀(kvs:List (D×D)) (es:List MapEntry) (j:Nat) (r:Option (Nat×D)),KvR w H kvs es→
  P5 (.arr n (C7 P e')) k kvs j=some r→∃G,(∀w',(Instr.findAsking A k.toV es j).run P w'= .ok G w')∧Found w H kvs es k j r G
 | [],es,j,r,m,h=>by
  have:es= []:=D1f (by simpa using m.len);subst this;simp[P5]at h;subst h;exact⟨none,fun _=>rfl,rfl,by simp⟩
 |p::kvs,[],j,r,m,h=>by have:=m.len;simp at this
 |p::kvs,e::es,j,r,m,h=>by
  obtain⟨y,q,T⟩:=m.key 0 p e rfl rfl;unfold P5 at h;obtain⟨c,hc,h⟩:=D1T.1 h;have o:=A7T hc hk y;have z: ∀w',(Op.equal A k.toV e.key).run P w'= .ok c w':=by
   intro w';rw[q];obtain⟨U,X⟩:=p;cases k<;>cases U<;>simp only[A4v,reduceCtorEq]at hc;rename_i xs Y;split at hc
   ·simp only[R9,R9.d1,D1U]at hk;show (Op.equalIn (9998+1+1) A (.agg _) (.agg _)).run P w'=_;rw[run_equalIn_array _ _ _ _ O I];have J:P.cellsOf e'=1:=by simp[Program.cellsOf,I,u]
    rw[J];exact A50 (P:=P) (w0:=w) (H:=H) rfl x _ (A9w hk.2) (A9w (by simpa [D.keyA]using y)) _ _ hc w'
   ·cases hc
  cases c
  ·simp only[D1X,if_false]at h;obtain⟨G,M,V⟩:=A9x O I u x hk kvs es (j+1) r m.tail h;refine⟨G,fun w'=>?_,V.cons ?_⟩
   ·unfold Instr.findAsking;simp only[Sem.run_bind,z w',Result.andThen_ok,D1X,if_false,M w']
   ·rw[q];intro W;have:=o.2 W.symm;cases this
  ·simp only[if_true,D1t]at h;subst h;refine⟨some (j,e.val),fun w'=>?_,e,p,D1b _,by simp,by simp,rfl,rfl,?_,T⟩
   ·unfold Instr.findAsking;simp only[Sem.run_bind,z w',Result.andThen_ok,if_true,Sem.run_pure]
   ·rw[q];exact(o.1 rfl).symm
theorem A9y{w:World}{H:Heap}{t u z:TypeId}{o:KK}{k:D}(hm:A3K P t=some (u,z,o))(hk:R9 o k=true){kvs:List (D×D)}{es:List MapEntry}{r:Option (Nat×D)}(m:KvR w H kvs es)
  (h:P5 o k kvs 0=some r): ∃j,(∀w',(Instr.findKey u k.toV es).run P w'= .ok j w')∧Found w H kvs es k 0 r j:=by
 rcases(Z9 hm).2 with⟨d,rfl,hd,hp⟩|⟨n,e',i,rfl,x,A,hs,p,d,hd,hp⟩
 ·obtain⟨j,h1,q⟩:=A9v hd hp hk kvs es 0 r m h;exact⟨j,fun w'=>MapKept.run_findKey hd h1,q⟩
 ·obtain⟨j,h1,q⟩:=A9x x A hs p hk kvs es 0 r m h;refine⟨j,fun w'=>?_,q⟩;unfold Instr.findKey;simp only[Sem.run_bind,run_underlying x,Result.andThen_ok];cases es with
  |nil=>
   have:=h1 w';simp[Instr.findAsking]at this;simp[Instr.findNow,this]
  |cons e es=>
   have:Instr.findNow (.array n e') k.toV (e::es) 0=none:=by
    unfold Instr.findNow;cases y:k.toV<;>cases e.key<;>rfl
   rw[this];exact h1 w'
theorem A1H{i:KK}{k:D}(h:R9 i k=true):k.keyA=true:=by
 cases i<;>cases k<;>simp_all[R9,D.keyA,D.key,R9.d1]
theorem Z3{d:D}(h:d.key=true)(n:Nat):Instr.sameBits n d.toV1 d.toV1=true:=by
 cases d<;>simp[D.key]at h<;>simp[D.toV1,Instr.sameBits,MapKept.bytes_beq]
theorem B4D{w:World}{k:D}(h:k.keyA=true):(Instr.keyThatStays k.toV k.toV).run P w= .ok k.toV w:=by
 have:Instr.sameBits 10000 k.toV k.toV=true:=by
  cases k
  case agg cs=>
   simp only[D.keyA,D1s]at h;simp only[D.toV,Instr.sameBits,beq_self_eq_true,Bool.true_and,D1s];rintro⟨x,y⟩ j;obtain⟨i,o⟩:=List.getElem?_of_mem j;rw[List.getElem?_zip_eq_some]at o;obtain⟨h1,m⟩:=o;simp only at h1 m;rw[h1]at m;cases m;rw[D1e,D1Q]at h1;obtain⟨d,hd,rfl⟩:=h1;exact Z3 (h d (D1o hd)) _
  all_goals first|exact Z3 (d:=.int _ _) h _|exact Z3 (d:=.str _) h _|exact Z3 (d:=.bool _) h _|(exact absurd h (by simp[D.keyA,D.key]))
 simp[Instr.keyThatStays,this]
theorem B5c{w:World}{H:Heap}{kvs:List (D×D)}{es:Array MapEntry}(hl:es.size=kvs.length)(h: ∀(i:Nat) (p:D×D),kvs[i]? =some p→p.1.keyA=true∧R w H p.1 (es.getD i default).key∧R w H p.2 (es.getD i default).val):KvR w H kvs es.toList:=by
 refine⟨by simpa using hl,fun i p e hp he=>?_⟩;obtain⟨h1,m,o⟩:=h i p hp;have:es.getD i default=e:=by
  have j:es[i]? =some e:=by simpa using he
  simp[j]
 rw[this]at m o;exact⟨h1,A8R h1 m,o⟩
theorem B89{w:World}{H:Heap}{t:TypeId}{z:D}(h:A5u P t=some z): ∃v,(∀w',(zeroValue t).run P w'= .ok v w')∧R w H z v:=by
 unfold A5u at h;obtain⟨v,hv,rfl⟩:=D1Q.1 h;obtain⟨i,j,m⟩:=D1T.1 hv;refine⟨v,fun w'=>?_,A2J w H v⟩;simp only[zeroValue,Sem.run_bind,N4 j w',Result.andThen_ok,m];rfl
theorem A8S{w:World}{H:Heap}{b:Nat}{kvs:List (D×D)}(h:ObjOk w H b (.map kvs)): ∃es i,w.heap[b]? =some (.map es i)∧MapKept.Stamped es i∧KvR w H kvs es.toList:=by
 obtain⟨es,ck,h1,j,m,o⟩:=h;exact⟨es,ck,h1,j,B5c m o⟩
theorem R.fm_inv{w:World}{H:Heap}{kvs:List (D×D)}{v:Value}(h:R w H (.fm kvs) v): ∃b es ck,v= .map (some b)∧w.heap[b]? =some (.map es ck)∧H.held b=false∧MapKept.Stamped es ck∧es.size=kvs.length∧
  ∀(i:Nat) (p:D×D),kvs[i]? =some p→p.1.keyA=true∧R w H p.1 (es.getD i default).key∧R w H p.2 (es.getD i default).val:=by
 cases h with
 |fm _ b es ck hb hn hst hl hk hr hv=>exact⟨b,es,ck,rfl,hb,hn,hst,hl,fun i p hp=>⟨hk i p hp,hr i p hp,hv i p hp⟩⟩
theorem A8T{w:World}{H:Heap}(hs:Sat H w){t:TypeId}{m k d:D}{ok:Bool}(h:A1G P t m k ok H=some d){A X:Value}(hm:R w H m A)(hk:R w H k X):
  ∃v,(Instr.lookup t A X ok).run P w= .ok v w∧R w H d v:=by
 unfold A1G at h;obtain⟨⟨Y,et,kk⟩,G,I⟩:=D1T.1 h;clear h;split at I
 ·rename_i x;obtain⟨z,hz,T⟩:=D1T.1 I;clear I;obtain⟨kvs,o,h4⟩:=D1T.1 T;clear T;obtain⟨r,hr,rfl⟩:=D1Q.1 h4;clear h4;obtain⟨zv,J,M⟩:=B89 (w:=w) (H:=H) hz;have U:=A8R (A1H x) hk;subst U;simp only at J
  have u: ∀(es:Array MapEntry),KvR w H kvs es.toList→(Instr.lookup t A k.toV ok).run P w=(do
    Instr.checkKey es.isEmpty 10000 Y k.toV
    let (v,ok')←match←Instr.findKey Y k.toV es.toList with
     |some (_,v)=>pure (v,true)
     |none=>pure (←zeroValue et,false)
    pure (if ok then .tuple #[v,.bool ok']else v):Sem Value).run P w→∃v,(Instr.lookup t A k.toV ok).run P w= .ok v w∧R w H (A2s ok z r) v:=by
   intro es V O;obtain⟨r',y,hF⟩:=A9y G x V hr;rw[O];rw[Sem.run_bind,A4H G x];simp only[Result.andThen_ok];rw[Sem.run_bind,y w];simp only[Result.andThen_ok];cases r with
   |none=>
    obtain⟨rfl,_⟩:=hF;simp only;rw[Sem.run_bind,J w];simp only[Result.andThen_ok,Sem.run_pure];refine⟨_,rfl,?_⟩;cases ok
    ·exact M
    ·refine .tuple _ _ rfl fun i d hd=>?_
     match i,hd with
     |0,hd=>simp at hd;subst hd;exact M
     |1,hd=>simp at hd;subst hd;exact .bool _
     |i+2,hd=>simp at hd
   |some q=>
    obtain⟨j,d⟩:=q;obtain⟨e,p,_,_,_,_,rfl,_,hR⟩:=hF;simp only[Sem.run_pure,Result.andThen_ok];refine⟨_,rfl,?_⟩;cases ok
    ·exact hR
    ·refine .tuple _ _ rfl fun i d' hd=>?_
     match i,hd with
     |0,hd=>simp at hd;subst hd;exact hR
     |1,hd=>simp at hd;subst hd;exact .bool _
     |i+2,hd=>simp at hd
  unfold X7 at o;split at o
  ·cases o;obtain rfl:A= .map none:=by cases hm;rfl
   refine u #[] ⟨rfl,by simp⟩ ?_;unfold Instr.lookup;rw[Sem.run_bind,run_underlying (Z9 G).1];rfl
  ·rename_i b;split at o
   ·rename_i a0 hb;cases o;obtain rfl:A= .map (some b):=by cases hm;rfl
    obtain⟨es,W,h1,I,T⟩:=A8S (hs b _ hb);refine u es T ?_;unfold Instr.lookup;rw[Sem.run_bind,run_underlying (Z9 G).1];simp only[Result.andThen_ok];rw[Sem.run_bind,MapKept.run_getObj_map h1];rfl
   ·cases o
  ·cases o;obtain⟨b,es,ck,rfl,h1,_,_,h5,h6⟩:=hm.fm_inv;refine u es (B5c h5 h6) ?_;unfold Instr.lookup;rw[Sem.run_bind,run_underlying (Z9 G).1];simp only[Result.andThen_ok];rw[Sem.run_bind,MapKept.run_getObj_map h1];rfl
  ·cases o
 ·cases I
theorem A9z{es:Array MapEntry}{i j:Nat}{f:MapEntry→MapEntry}{e:MapEntry}(he:es[i]? =some e):(es.modify i f).getD j default=if i=j then f e else es.getD j default:=by
 simp only[D1L,Array.getElem?_modify];by_cases h:i=j
 ·subst h;simp[he]
 ·simp[h]
theorem Ext.map{H:Heap}{w:World}{b:Nat}{es es':Array MapEntry}{c c':Nat}(hb:w.heap[b]? =some (.map es c))(hn:H.held b=true):Ext H w {w with heap:=w.heap.setIfInBounds b (.map es' c')}:=by
 refine⟨rfl,rfl,rfl,by simp,fun k _ hk=>?_,fun k _=>?_⟩
 ·have:k≠b:=fun e=>by rw[e,hn]at hk;cases hk
  exact(MapKept.heap_set hb).2 k this
 ·unfold World.shape?;by_cases hk:k=b
  ·subst hk;rw[hb];have:=(MapKept.heap_set (o':=.map es' c') hb).1;simp only at this⊢;rw[this]
  ·rw[show ({w with heap:=w.heap.setIfInBounds b (.map es' c')}:World).heap[k]? =w.heap[k]? from(MapKept.heap_set hb).2 k hk]
theorem A8U{w:World}{H H':Heap}(hs:Sat H w){t:TypeId}{m k x:D}(h:A3L P t m k x H=some H'){vm vk O:Value}(hm:R w H m vm)(hk:R w H k vk)(hx:R w H x O):
  ∃w',(Instr.mapUpdate t vm vk O).run P w= .ok () w'∧Sat H' w'∧Ext H w w'∧From w H H':=by
 unfold A3L at h;obtain⟨⟨kt,et,kk⟩,W,M⟩:=D1T.1 h;clear h;split at M
 ·rename_i y;split at M
  ·rename_i b;split at M
   ·rename_i kvs hb;obtain⟨r,hr,rfl⟩:=D1Q.1 M;clear M;have a6:=A8R (A1H y) hk;subst a6;obtain rfl:vm= .map (some b):=by cases hm;rfl
    obtain⟨es,u,h1,h2,V⟩:=A8S (hs b _ hb);obtain⟨r',G,hF⟩:=A9y W y V hr;have I:H.held b=true:=I1 hb;have J: ∀o,From w H (H.set b o):=fun o=>M6 I o
    have entry: ∀(es':Array MapEntry) (c':Nat) (z:List (D×D)),MapKept.Stamped es' c'→es'.size=z.length→(∀(i:Nat) (p:D×D),z[i]? =some p→p.1.keyA=true∧R w H p.1 (es'.getD i default).key∧R w H p.2 (es'.getD i default).val)→
      Sat (H.set b (.map z)) {w with heap:=w.heap.setIfInBounds b (.map es' c')}∧Ext H w {w with heap:=w.heap.setIfInBounds b (.map es' c')}:=by
     intro es' c' z k1 k2 k3;have he:=Ext.map (es':=es') (c':=c') h1 I;refine⟨hs.update he (J _) (fun k _ hk=>(MapKept.heap_set h1).2 k hk) ⟨es',c',(MapKept.heap_set h1).1,k1,k2,fun i p hp=>?_⟩,he⟩;obtain⟨a1,a2,a3⟩:=k3 i p hp;exact⟨a1,a2.mono he (J _),a3.mono he (J _)⟩
    have X: ∀(i:Nat) (p:D×D),kvs[i]? =some p→p.1.keyA=true∧R w H p.1 (es.getD i default).key∧R w H p.2 (es.getD i default).val:=fun i p hp=>by
     have hi:i<es.size:=by
      have:=V.len;have:=(D1R.1 hp).1;simp at*;omega
     have he:es.toList[i]? =some es[i]:=by simp[hi]
     obtain⟨a1,a2,a3⟩:=V.key i p _ hp he;have:es.getD i default=es[i]:=by simp[hi]
     rw[this,a2];exact⟨a1,B5b a1 w H,a3⟩
    unfold Instr.mapUpdate;cases r with
    |none=>
     obtain⟨rfl,Y⟩:=hF;have:=entry (es.push {key:=k.toV,val:=O,born:=u}) (u+1) (kvs++[(k,x)]) (MapKept.stamped_push h2 Y) (by have:=V.len;simp at*;omega) (fun i p hp=>by
      have hlen:=V.len;simp only[D18]at hlen;rw[List.getElem?_append]at hp;split at hp
      ·rename_i hi;have e:(es.push {key:=k.toV,val:=O,born:=u}).getD i default=es.getD i default:=by
        simp only[D1L];rw[Array.getElem?_push_lt (by omega)];simp[show i<es.size by omega]
       rw[e];exact X i p hp
      ·rename_i hi;have a9:i=kvs.length:=by
        have:=(D1R.1 hp).1;simp at this;omega
       subst a9;simp at hp;subst hp;have e:(es.push {key:=k.toV,val:=O,born:=u}).getD kvs.length default= {key:=k.toV,val:=O,born:=u}:=by
        simp[←hlen]
       rw[e];exact⟨A1H y,B5b (A1H y) w H,hx⟩)
     refine⟨_,?_,this.1,this.2,J _⟩;rw[Sem.run_bind,run_underlying (Z9 W).1];simp only[Result.andThen_ok];rw[Sem.run_bind,MapKept.run_getObj_map h1];simp only[Result.andThen_ok];rw[Sem.run_bind,A4H W y];simp only[Result.andThen_ok];rw[Sem.run_bind,G w];simp only[Result.andThen_ok];exact MapKept.run_setObj_map _ h1
    |some q=>
     obtain⟨j,d⟩:=q;obtain⟨e,p,_,he,hp,_,rfl,a0,hR⟩:=hF;simp only[Nat.sub_zero]at he hp;have T:es[j]? =some e:=by simpa using he
     have:=entry (es.modify j fun e=>{e with key:=k.toV,val:=O}) u (kvs.set j (k,x)) (MapKept.stamped_modify h2 _ _ (fun _ _=>rfl) (fun e' _ h'=>by rw[T]at h';cases h';exact a0.symm)) (by have:=V.len;simp at*;omega) (fun i p' A=>by
      rw[A9z T];rw[List.getElem?_set]at A;split at A
      ·rename_i U;subst U;split at A
       ·cases A;rw[if_pos rfl];exact⟨A1H y,B5b (A1H y) w H,hx⟩
       ·cases A
      ·rename_i U;rw[if_neg U];exact X i p' A)
     refine⟨_,?_,this.1,this.2,J _⟩;rw[Sem.run_bind,run_underlying (Z9 W).1];simp only[Result.andThen_ok];rw[Sem.run_bind,MapKept.run_getObj_map h1];simp only[Result.andThen_ok];rw[Sem.run_bind,A4H W y];simp only[Result.andThen_ok];rw[Sem.run_bind,G w];simp only[Result.andThen_ok];rw[Sem.run_bind];have:((es[j]?).map (·.key)).getD k.toV=k.toV:=by rw[T];simpa using a0
     rw[this,B4D (A1H y)];simp only[Result.andThen_ok];exact MapKept.run_setObj_map _ h1
   ·cases M
  ·cases M
 ·cases M
theorem A90{w:World}{H:Heap}(hs:Sat H w){m:D}{kvs:List (D×D)}{j:Value}(hm:R w H m j)(h:X7 H m=some kvs){i:Array TypeId}{t u x:TypeId}(ht:i[0]? =some t)(p:P.underlying t=some (.map u x))(ty:TypeId):
  (Builtin.len_ i ty #[j]).run P w= .ok (.int .i64 kvs.length) w:=by
 unfold X7 at h;unfold Builtin.len_;rw[ht];split at h
 ·cases h;obtain rfl:j= .map none:=by cases hm;rfl
  show (do let d←underlying t;_:Sem Value).run P w=_;rw[Sem.run_bind,run_underlying p];rfl
 ·rename_i b;split at h
  ·rename_i r hb;cases h;obtain rfl:j= .map (some b):=by cases hm;rfl
   obtain⟨es,q,h1,z,y⟩:=A8S (hs b _ hb);have hl:=y.len;simp only[D18]at hl;show (do let d←underlying t;_:Sem Value).run P w=_;rw[Sem.run_bind,run_underlying p];simp only[Result.andThen_ok];show (do let o←getObj b;_:Sem Value).run P w=_;rw[Sem.run_bind,MapKept.run_getObj_map h1];simp only[Result.andThen_ok,Sem.run_pure,goInt,hl]
  ·cases h
 ·cases h;obtain⟨b,es,ck,rfl,h1,_,_,hl,_⟩:=hm.fm_inv;show (do let d←underlying t;_:Sem Value).run P w=_;rw[Sem.run_bind,run_underlying p];simp only[Result.andThen_ok];show (do let o←getObj b;_:Sem Value).run P w=_;rw[Sem.run_bind,MapKept.run_getObj_map h1];simp only[Result.andThen_ok,Sem.run_pure,goInt,hl]
 ·cases h
end
section
variable {P:Program}
theorem G3{a b:Array Value}{i:Nat}(h:i<a.size):(a++b).getD i Go.undef=a.getD i Go.undef:=by
 have j:i<a.size+b.size:=by omega
 simp[h,j]
theorem V5{a b:Array Value}{i:Nat}:(a++b).getD (a.size+i) Go.undef=b.getD i Go.undef:=by
 by_cases h:i<b.size
 ·simp[h]
 ·simp[h]
theorem From.del(w:World)(H:Heap)(b:Nat):From w H (H.del b):=fun k _ hn=>by
 by_cases hk:k=b
 ·exact G7 (by unfold Heap.del;rw[if_pos hk])
 ·rw[l9 (H:=H) (by unfold Heap.del;rw[if_neg hk])];exact hn
theorem Heap.Le.del(H:Heap)(b:Nat):(H.del b).Le H:=fun k o h=>by
 unfold Heap.del at h;split at h
 ·cases h
 ·exact h
theorem A5G{H:Heap}{w j:World}{K:D→Heap→Prop}{v:Value}{w':World}(he:Ext H w j)(h:Post H j K v w'):Post H w K v w':=
 let ⟨d,H',h1,h2,h3,h4,h5⟩:=h
 ⟨d,H',h1,h2,he.trans (D2o _ _) h3,fun i m hn=>h4 i (D2D m he.size) hn,h5⟩
theorem B1b{H j:Heap}{w:World}{K:D→Heap→Prop}{v:Value}{w':World}(hl:j.Le H)(h:Post j w K v w'):Post H w K v w':=
 let ⟨d,H',h1,h2,h3,h4,h5⟩:=h
 ⟨d,H',h1,h2,⟨h3.os,h3.tape,h3.output,h3.size,fun k hk hn=>h3.block k hk (hl.held hn),h3.shape⟩,fun i m hn=>h4 i m (hl.held hn),h5⟩
theorem Sat.same{H:Heap}{w w':World}(hs:Sat H w)(h:w'.heap=w.heap)(he:Ext H w w'):Sat H w':=fun b o hb=>(hs b o hb).mono he (D2o _ _) (by rw[h])
theorem A8V{ev:Operand→D}{ρ :Operand→Value}{H:Heap}{K:D→Heap→Prop}{w:World}{t t':TypeId}{s x:Operand}(hs:Sat H w)(b7: ∀x,R w H (ev x) (ρ x))(h:A1F P ev H K t t' s x)(ty:TypeId):
  ∃v w',(Builtin.append_ #[t,t'] ty #[ρ s,ρ x]).run P w= .ok v w'∧Post H w K v w':=by
 obtain⟨e,sz,c9,he,hsz,I,hz,xs,d0,hm⟩:=h;obtain⟨us,u,hV,p⟩:=A8O (P:=P) hs hsz d0 (b7 x);obtain⟨z,hz,d2⟩:=D1Q.1 hz;obtain⟨zv,b8,a9⟩:=A3O (w:=w) (H:=H) hz;have d3:zv.cells.size=sz:=by rw[←a9.len,d2]
 have b9: ∀n,(Builtin.zeroCells zv.cells n).size=n*sz:=fun n=>by simp[Builtin.zeroCells,d3]
 have hx:=b7 s;have J:Ext H w {w with drawn:=w.drawn+1}:=Ext.drewN H w 1;have c0:Sat H {w with drawn:=w.drawn+1}:=hs.same rfl J;split at hm
 ·rename_i b0;rw[b0]at hx;cases M: ρ s with
  |slice a n c=>
   rw[M]at hx;cases hx;obtain⟨b1,b2,c2,b3⟩:=hm;by_cases r:xs= []
   ·have o:=A0e (P:=P) (n:=0) (cap:=0) (base:=none) (ty:=ty) he I (p w rfl).1 (p w rfl).2 (by rw[r];simp);refine⟨_,_,o,?_⟩;refine⟨.nilsl,H,?_,hs,D2p _ _,D2o _ _,c2 r⟩;rw[r];exact .nilsl
   ·have f0:0<xs.length:=List.length_pos_iff.2 r;obtain⟨nc,a0,o⟩:=A1o (P:=P) (n:=0) (cap:=0) (base:=none) (ty:=ty) (os:= #[]) he I (p w rfl).1 (fun W hW=>(p W hW).2) (fun W _=>rfl) b8 (by omega) (by simpa using b1) (by simpa using b2);refine⟨_,_,o,?_⟩;simp only[Nat.zero_add]at a0;refine A5G J ?_;simp only[Nat.zero_add,Array.empty_append];refine y8 c0 e xs.length nc hsz ?_ a0 ?_ (b3 r)
    ·refine⟨by rw[Array.size_append,u];omega,hV.each,hV.one,fun i e' j d hi hd=>?_⟩;have d4:=(D1R.1 hi).1;have hj:=(D1R.1 hd).1;rw[hV.each i e' hi]at hj;have a6:(i+1)*sz≤xs.length*sz:=D1x _ d4;rw[Nat.add_mul,Nat.one_mul]at a6;rw[G3 (by rw[u];omega)];exact(hV.rel i e' j d hi hd).mono J (D2o _ _)
    ·rw[Array.size_append,u,b9,←Nat.add_mul];congr 1;omega
  |_=>rw[M]at hx;cases hx
 ·rename_i b sz' lo n b0
  obtain⟨rfl,es,hb,hn,b1,b2,hK⟩:sz'=sz∧∃es,H b=some (.vec sz es)∧lo+n≤es.length∧(n+xs.length)*c9≤140737488355328∧n+xs.length≤9223372036854775807∧
    ∀b' pre,H.del b b'=none→(lo=0→pre= [])→K (.vec b' sz pre.length (n+xs.length)) ((H.del b).set b' (.vec sz (pre++((es.drop lo).take n++xs)))):=by
   obtain⟨e,⟨rfl,es,h1,h2,h3,h4,h5⟩|⟨es,h1,h2,h3,h4,h5⟩⟩:=hm
   ·exact⟨e,es,h1,by omega,h3,h4,fun b' pre O hp=>by rw[hp rfl];simpa using h5 b' O⟩
   ·exact⟨e,es,h1,h2,h3,h4,fun b' pre O _=>h5 b' pre O⟩
  rw[b0]at hx;have d5:M7 H sz' (.vec b sz' lo n)=some ((es.drop lo).take n):=by simp[M7,hb,hn]
  obtain⟨os,y,d6,c4⟩:=A8O (P:=P) hs hsz d5 hx;have hlen:((es.drop lo).take n).length=n:=by simp;omega
  have d7:=hs.lt hb;have b4:H.held b=true:=I1 hb;obtain⟨c,T,l0,d8,q,hf,_,hv⟩:=A2K (hs b _ hb);have new: ∀(base:Option Addr) (cap:Nat),ρ s= .slice base n cap→¬n+xs.length≤cap→∃v w',(Builtin.append_ #[t,t'] ty #[ρ s,ρ x]).run P w= .ok v w'∧Post H w K v w':=by
   intro base cap hρ U;rw[hρ]at c4⊢;obtain⟨nc,a0,o⟩:=A1o (P:=P) (n:=n) (cap:=cap) (base:=base) (ty:=ty) (os:=os) he I (p w rfl).1 (fun W hW=>(p W hW).2) (fun W hW=>by have:=(c4 W hW).2;rwa [hlen]at this) b8 U b1 b2;refine⟨_,_,o,?_⟩;refine A5G J (B1b (Heap.Le.del H b) ?_);have e0:Sat (H.del b) {w with drawn:=w.drawn+1}:=c0.less (Heap.Le.del H b);rw[hlen]at y;refine y8 e0 e (n+xs.length) nc hsz ?_ a0 ?_ (fun b' O=>by simpa using hK b' [] O (fun _=>rfl))
   ·have c5:VecR w H sz' ((es.drop lo).take n++xs) (os++us++Builtin.zeroCells zv.cells (nc-(n+xs.length))):=by
     refine d6.join hV (fun i hi=>?_) (fun i hi=>?_) ?_
     ·rw[hlen]at hi;rw[G3 (by rw[Array.size_append,y];omega),G3 (by rw[y];exact hi)]
     ·rw[hlen];rw[G3 (by rw[Array.size_append,y,u];omega)];have:=V5 (a:=os) (b:=us) (i:=i);rwa [y]at this
     ·rw[hlen,Array.size_append,Array.size_append,y,u,Nat.add_mul];omega
    exact c5.mono J (From.del _ _ _)
   ·rw[Array.size_append,Array.size_append,y,u,b9,←Nat.add_mul,←Nat.add_mul];congr 1;omega
  generalize M: ρ s=v at hx;cases hx with
  |vec b sz lo n cap T' m V a6 f4 e4=>
   have e6:c.size=(lo+cap)*sz':=by
    unfold World.shape? at V;rw[q]at V;simp only[D1t,Prod.mk.injEq]at V;rw[V.2,a6]
   have b6:(es.take (lo+n)).length=lo+n:=by simp;omega
   by_cases U:n+xs.length≤cap
   ·have o:=A0e (P:=P) (n:=n) (cap:=cap) (base:=some ⟨b,lo*sz',none⟩) (ty:=ty) he I (p w rfl).1 (p w rfl).2 U;have c6:(lo+(n+xs.length))*sz'≤(lo+cap)*sz':=D1x _ (by omega);have e7:(lo+(n+xs.length))*sz'=(lo+n)*sz'+xs.length*sz':=by rw[←Nat.add_mul];congr 1;omega
    have c7:=hV.oneCell u hsz;have hst:(storeCells ((⟨b,lo*sz',none⟩:Addr).add (n*sz')) us.toList).run P w= .ok () (w.setCells b ((lo+n)*sz') us.toList):=by
     rw[R2,←Nat.add_mul];have hl:us.toList.length=us.size:=by simp
     have:=run_storeCells_cells (P:=P) b ((lo+n)*sz') us.toList 0 w (fun j hj=>by rw[Nat.add_zero,R3 q];rw[hl]at hj;simp;omega)
      (fun j hj=>by rw[Nat.add_zero];rw[hl]at hj;exact A4G q (hf _ (by omega))) c7
     rwa [Nat.add_zero]at this
    refine⟨.slice (some ⟨b,lo*sz',none⟩) (n+xs.length) cap,w.setCells b ((lo+n)*sz') us.toList,?_,?_⟩
    ·rw[o];simp only;rw[Sem.run_bind,hst];rfl
    ·have G:=Ext.setCells (H:=H) q b4 us.toList ((lo+n)*sz');have X:(H.del b).set b (.vec sz' (es.take lo++((es.drop lo).take n++xs)))=H.set b (.vec sz' (es.take (lo+n)++xs)):=by
      rw[←D15,←List.take_add]
      funext k;by_cases hk:k=b<;>simp[Heap.del,Heap.set,hk]
     have A:=M6 (w:=w) b4 (.vec sz' (es.take (lo+n)++xs));obtain⟨k1,k2,_⟩:=S0 b T (l0,d8) us.toList ((lo+n)*sz') w c q;have hl:us.toList.length=us.size:=by simp
     have c8:VecR w H sz' (es.take (lo+n)++xs) (j8 c ((lo+n)*sz') us.toList):=by
      have g: ∀i,(j8 c ((lo+n)*sz') us.toList).getD i Go.undef=((j8 c ((lo+n)*sz') us.toList)[i]?).getD Go.undef:=fun i=>by simp
      refine(hv.take (lo+n)).join hV (fun i hi=>?_) (fun i hi=>?_) ?_
      ·rw[b6]at hi;rw[g,A0r,if_neg (by omega)];simp
      ·rw[b6,g,A0r,if_pos (by rw[hl];omega),show (lo+n)*sz'+i-(lo+n)*sz'=i by omega];simp
      ·rw[b6,O0,e6,Nat.add_assoc];exact c6
     have e8:(es.take lo).length=lo:=by simp;omega
     have Y:=hK b (es.take lo) (by unfold Heap.del;rw[if_pos rfl]) (fun e=>by rw[e];rfl);rw[e8,X]at Y;refine⟨.vec b sz' lo (n+xs.length),H.set b (.vec sz' (es.take (lo+n)++xs)),?_,?_,G,A,Y⟩
     ·refine .vec b sz' lo (n+xs.length) cap T' m ?_ a6 hsz U;rw[G.shape b d7];exact V
     ·exact hs.update G A (fun k _ hk=>k2 k hk) (A0s k1 (by rw[O0];exact hf) hsz (c8.mono G A))
   ·rw[M]at new;exact new _ _ rfl U
  |vec0 b sz lo off=>
   by_cases r:xs= []
   ·subst r;have o:=A0e (P:=P) (n:=0) (cap:=0) (base:=some ⟨b,off,none⟩) (ty:=ty) he I (p w rfl).1 (p w rfl).2 (by simp);have e9:us.toList= []:=by
     have:us.size=0:=by simpa using u
     exact List.length_eq_zero_iff.1 (by simpa using this)
    refine⟨.slice (some ⟨b,off,none⟩) 0 0,w,?_,?_⟩
    ·rw[o,e9];rfl
    ·have Y:=hK b (es.take lo) (by unfold Heap.del;rw[if_pos rfl]) (fun e=>by rw[e];rfl);have X:(H.del b).set b (.vec sz' (es.take lo++((es.drop lo).take 0++[])))=H.set b (.vec sz' (es.take lo)):=by
      simp only[List.take_zero,D16]
      funext k;by_cases hk:k=b<;>simp[Heap.del,Heap.set,hk]
     rw[X]at Y;have A:=M6 (w:=w) b4 (.vec sz' (es.take lo));exact⟨_,_,.vec0 _ _ _ _,hs.update (D2p _ _) A (fun k _ hk=>rfl) (A0s q hf hsz ((hv.take lo).mono (D2p _ _) A)),D2p _ _,A,Y⟩
   ·rw[M]at new;exact new _ _ rfl (by have:=List.length_pos_iff.2 r;omega)
 ·exact hm.elim
theorem C2t{w:World}{H:Heap}{sz:Nat}: ∀{ps:List (Nat×D)} {qs:List (Nat×Value)} {es out:List (List D)} {c:Array Value},A4E es ps=some out→VecR w H sz es c→c.size=es.length*sz→
  ps.length=qs.length→(∀(i:Nat) p q,ps[i]? =some p→qs[i]? =some q→p.1=q.1∧R w H p.2 q.2)→∃c',Instr.fill (fun i=>some (i*sz,sz)) c qs=some c'∧VecR w H sz out c'∧c'.size=c.size∧out.length=es.length:=by
 intro ps
 induction ps with
 |nil=>
  intro qs es out c h hv _ hl _;cases qs with
  |nil=>simp only[A4E,D1t]at h;subst h;exact⟨c,rfl,hv,rfl,rfl⟩
  |cons=>simp at hl
 |cons p ps ih=>
  intro qs es out c h hv hc hl u;cases qs with
  |nil=>simp at hl
  |cons q qs=>
   obtain⟨i,d⟩:=p;obtain⟨j,v⟩:=q;obtain⟨A,hR⟩:=u 0 _ _ rfl rfl;simp only at A hR;subst A;simp only[A4E]at h;split at h
   ·rename_i z;obtain⟨M,hlen,h1⟩:=z;have O:es[i]? =some (es.getD i []):=by simp[D1Y M]
    have T:=hv.each i _ O;rw[T]at hlen;have r:=Z6 hR h1;have G:(i+1)*sz≤es.length*sz:=D1x _ M;rw[Nat.add_mul,Nat.one_mul]at G;have I:v.cells.toList.length=sz:=by rw[←hlen,r.len];simp
    have U:VecR w H sz (es.set i d.cells) (j8 c (i*sz) v.cells.toList):=by
     have y: ∀(m:Nat) (e:List D) (j:Nat) x,(es.set i d.cells)[m]? =some e→e[j]? =some x→x.one=true∧R w H x ((j8 c (i*sz) v.cells.toList).getD (m*sz+j) Go.undef):=by
      intro m e j x he hx;have hg:(j8 c (i*sz) v.cells.toList).getD (m*sz+j) Go.undef=((j8 c (i*sz) v.cells.toList)[m*sz+j]?).getD Go.undef:=by simp
      rw[hg,A0r,I];by_cases o:i=m
      ·subst o;rw[List.getElem?_set_self M]at he;cases he;have hj:=(D1R.1 hx).1;rw[if_pos (by omega),show i*sz+j-i*sz=j by omega];exact⟨r.one _ _ hx,by simpa using r.rel _ _ hx⟩
      ·rw[List.getElem?_set_ne o]at he;have hj:j<sz:=by
        have h1:=hv.each m e he;have h2:=(D1R.1 hx).1;omega
       have V: ¬(i*sz≤m*sz+j∧m*sz+j<i*sz+sz∧m*sz+j<c.size):=by
        rcases Nat.lt_or_gt_of_ne o with W|X
        ·have:=D1x sz (show i+1≤m from W);rw[Nat.add_mul,Nat.one_mul]at this;omega
        ·have:=D1x sz (show m+1≤i from X);rw[Nat.add_mul,Nat.one_mul]at this;omega
       rw[if_neg V];exact⟨hv.one m e j x he hx,by simpa using hv.rel m e j x he hx⟩
     refine⟨by rw[O0,D2E];exact hv.le,fun m e he=>?_,fun m e j x a b=>(y m e j x a b).1,fun m e j x a b=>(y m e j x a b).2⟩;by_cases o:i=m
     ·subst o;rw[List.getElem?_set_self M]at he;cases he;exact hlen
     ·rw[List.getElem?_set_ne o]at he;exact hv.each m e he
    obtain⟨c',Y,a0,J,a6⟩:=ih (qs:=qs) (c:=j8 c (i*sz) v.cells.toList) h U (by rw[O0,D2E];exact hc) (by simpa using hl) (fun k p q hp hq=>u (k+1) p q (by simpa using hp) (by simpa using hq));refine⟨c',?_,a0,by rw[J,O0],by rw[a6,D2E]⟩;unfold Instr.fill;have e1:v.cells.size=sz:=by rw[←I];simp
    simp only[e1];rw[if_neg (by simp;omega)];have e3:=A4C (i*sz) v.cells.toList 0 c;simp only[Nat.add_zero]at e3;rw[←Array.foldl_toList,Array.toList_zipIdx,e3];exact Y
   ·cases h
theorem B2x{w:World}{H:Heap}{z:List D}{v:Value}(hr:RowR w H z v.cells)(len:Nat):
  VecR w H z.length (List.replicate len z) ((Array.range (len*z.length)).map (v.cells[· % v.cells.size]!)):=by
 have hm: ∀(i:Nat) (e:List D) (j:Nat) (d:D),(List.replicate len z)[i]? =some e→e[j]? =some d→z[j]? =some d∧((Array.range (len*z.length)).map (v.cells[· % v.cells.size]!)).getD (i*z.length+j) Go.undef=v.cells.getD j Go.undef:=by
  intro i e j d he hd;rw[List.getElem?_replicate]at he;split at he
  ·rename_i q;cases he;have p:=(D1R.1 hd).1;have h:(i+1)*z.length≤len*z.length:=D1x _ q;rw[Nat.add_mul,Nat.one_mul]at h;have m:i*z.length+j<len*z.length:=by omega
   refine⟨hd,?_⟩;have e2:(i*z.length+j) % v.cells.size=j:=by rw[←hr.len,Nat.mul_comm,Nat.mul_add_mod,D2I p]
   have o:j<v.cells.size:=by rw[←hr.len];exact p
   simp[m,e2,o]
  ·cases he
 refine⟨by simp,fun i e he=>?_,fun i e j d he hd=>hr.one _ _ (hm i e j d he hd).1,fun i e j d he hd=>?_⟩
 ·rw[List.getElem?_replicate]at he;split at he
  ·cases he;rfl
  ·cases he
 ·obtain⟨h1,r⟩:=hm i e j d he hd;rw[r];exact hr.rel _ _ h1
structure A51(w w':World)(z:ByteArray)(cap:Nat):Prop where
 os:w'.os=w.os
 tape:w'.tape=w.tape
 output:w'.output=w.output
 size:w'.heap.size=w.heap.size+1
 old: ∀k,k<w.heap.size→w'.heap[k]? =w.heap[k]?
 new: ∃e,w'.heap[w.heap.size]? =some (.cells ((z.data.map fun b=>Value.int .u8 b.toNat)++Array.replicate (cap-z.size) (.int .u8 0)) e (cap,cap+1))
theorem A91{w:World}{s t e:TypeId}(hb:C7 P s= .str)(u:P.underlying t=some (.slice e))(z:ByteArray)(he:P.underlying e=some (.int .u8)):
    ∃w' cap,z.size≤cap∧(convert s t (.string z)).run P w= .ok (.slice (some ⟨w.heap.size,0,none⟩) z.size cap) w'∧A51 w w' z cap:=by
  generalize hcap:(Question.appendCap z.size 0 e).cut (w.tape w.drawn (.appendCap z.size 0 e))=cap;have p:z.size≤cap:=by rw[←hcap];simp only[Question.cut];omega
  let c:Array Value:=(z.data.map fun b=>Value.int .u8 b.toNat)++Array.replicate (cap-z.size) (.int .u8 0)
  let h:World:=({w with drawn:=w.drawn+1}:World).alloc (.cells c e)
  have hc:c.size=cap:=by simp[c];omega
  have i:h.heap[w.heap.size]? =some (.cells c e):=M1 {w with drawn:=w.drawn+1} (.cells c e);refine⟨h.freeze ⟨w.heap.size,cap,none⟩ 1,cap,p,?_,?_⟩
  · unfold convert
    rw[Sem.run_bind,run_underlying (V2 hb)];simp only[Result.andThen_ok];rw[Sem.run_bind,run_underlying u];simp only[Result.andThen_ok];rw[Sem.run_bind,run_underlying he];simp only[Result.andThen_ok];unfold Conv.stringToBytes;rw[Sem.run_bind,run_choose];simp only[Question.forced,D1X,if_false,Result.andThen_ok,hcap];have j:(newRow e c).run P {w with drawn:=w.drawn+1}= .ok ⟨w.heap.size,0,none⟩ h:=rfl;show (newRow e c >>=_).run P _=_;rw[Sem.run_bind,j];simp only[Result.andThen_ok]
    have hm:(markStringish ⟨w.heap.size,0,none⟩).run P h= .ok () (h.freeze ⟨w.heap.size,cap,none⟩ 1):=by
      unfold markStringish
      have:(shape w.heap.size).run P h= .ok (some (e,cap)) h:=by
        show (Result.ok (h.shape? w.heap.size) h)=_;unfold World.shape?;rw[i];show (Result.ok (some (e,c.size)) h:Result (Option (TypeId×Nat)))=_;rw[hc]
      rw[Sem.run_bind,this];rfl
    rw[Sem.run_bind,hm];rfl
  · have q:(h.freeze ⟨w.heap.size,cap,none⟩ 1).heap=h.heap.modify w.heap.size fun
        | .cells c m (lo,r)=>.cells c m (if lo==r then(cap,cap+1)else(min lo cap,max r (cap+1)))
        |o=>o:=by unfold World.freeze;rw[if_neg (by simp)];rfl
    refine⟨?_,?_,?_,?_,fun k hk=>?_,e,?_⟩
    · unfold World.freeze;rw[if_neg (by simp)];rfl
    · unfold World.freeze;rw[if_neg (by simp)];rfl
    · unfold World.freeze;rw[if_neg (by simp)];rfl
    · rw[q];simp[h]
    · rw[q,Array.getElem?_modify,if_neg (by omega)]
      exact Go.RowKit.Below.heap_alloc {w with drawn:=w.drawn+1} _ _ hk
    · rw[q,Array.getElem?_modify,if_pos rfl,i]
      rfl
theorem B1m{w w':World}{H:Heap}{K:D→Heap→Prop}{z:ByteArray}{cap:Nat}(hs:Sat H w)(hcap:z.size≤cap)(h:A51 w w' z cap)(r: ∀b,H b=none→K (.vec b 1 0 z.size) (H.set b (.vec 1 (F1 z)))):
  Post H w K (.slice (some ⟨w.heap.size,0,none⟩) z.size cap) w':=by
 obtain⟨e,hn⟩:=h.new;have he:Ext H w w':=⟨h.os,h.tape,h.output,by rw[h.size];omega,fun k hk _=>h.old k hk,fun k hk=>by unfold World.shape?;rw[h.old k hk]⟩
 have p:=N3 (H:=H) (D1b w.heap.size) (.vec 1 (F1 z));have hc:((z.data.map fun(b:UInt8)=>Value.int .u8 b.toNat)++Array.replicate (cap-z.size) (Value.int .u8 0)).size=cap:=by simp;omega
 refine⟨.vec w.heap.size 1 0 z.size,H.set w.heap.size (.vec 1 (F1 z)),?_,?_,he,p,r _ (hs.fresh (D1b _))⟩
 ·have:=R.vec (w:=w') (H:=H.set w.heap.size (.vec 1 (F1 z))) w.heap.size 1 0 z.size cap e cap (by unfold World.shape?;rw[hn];exact congrArg (fun n=>some (e,n)) hc) (by omega) (by omega) hcap;rwa [Nat.zero_mul]at this
 ·refine hs.update he p (fun k hk _=>h.old k hk) (A0s hn (by rw[hc];omega) (by omega) ?_);have hl:(F1 z).length=z.size:=by simp[F1]
  refine⟨by rw[hl,hc];omega,fun i x hx=>?_,fun i x j d hx hd=>?_,fun i x j d hx hd=>?_⟩
  ·simp only[F1,D1e,D1Q]at hx;obtain⟨u,_,rfl⟩:=hx;rfl
  ·simp only[F1,D1e,D1Q]at hx;obtain⟨u,_,rfl⟩:=hx;cases j with
   |zero=>simp at hd;subst hd;rfl
   |succ j=>simp at hd
  ·simp only[F1,D1e,D1Q]at hx;obtain⟨u,q,rfl⟩:=hx;cases j with
   |zero=>
    simp at hd;subst hd;have o:=(D1R.1 q).1;have m:i<(z.data.map fun b=>Value.int .u8 b.toNat).size:=by simpa using o
    rw[Nat.mul_one,Nat.add_zero,G3 m];have:(z.data.map fun b=>Value.int .u8 b.toNat).getD i Go.undef= .int .u8 u.toNat:=by
     have y:z.data[i]? =some u:=by simpa using q
     simp[y]
    rw[this];exact .int _ _
   |succ j=>simp at hd
theorem B5d{w:World}{H:Heap}{K:D→Heap→Prop}{t e:TypeId}{b:Nat}{z:ByteArray}{v:Value}(hs:Sat H w)(hb:H b=some (.vec 1 (F1 z)))(h0:0<z.size)(hu:P.underlying t=some (.slice e))(he:P.underlying e=some (.int .u8))
    (hx:R w H (.vec b 1 0 z.size) v) (hk:K (.sl 1 (F1 z)) (H.del b)): ∃w',(convert t t v).run P w= .ok v w'∧Post H w K v w':=by
  have M:=hs.lt hb;have hl:(F1 z).length=z.size:=by simp[F1]
  obtain⟨c,T,lo,p,h1,h2,h3,J⟩:=A2K (hs b _ hb);have O:=J.le
  have A: ∀i,i<z.size→∃u:UInt8,(F1 z)[i]? =some [.int .u8 u.toNat]∧c.getD i Go.undef= .int .u8 u.toNat:=fun i p=>by
    have hz:i<z.data.toList.length:=by simpa using p
    have e1:(F1 z)[i]? =some [.int .u8 (z.data.toList[i]).toNat]:=by simp[F1,p]
    refine⟨_,e1,?_⟩;have:=J.rel i _ 0 _ e1 rfl;rw[Nat.mul_one,Nat.add_zero]at this;exact this.int_inv
  obtain⟨n0,y⟩: ∃n0,n0=z.size:=⟨_,rfl⟩
  rw[←y]at hx;cases hx with
  |vec0 b sz lo off=>exact absurd h0 (by omega)
  |vec b sz a0 n cap T' m a6 a9 hsz U=>
  have hm:(markStringish ⟨b,0*1,none⟩).run P w= .ok () (w.freeze ⟨b,c.size,none⟩ 1):=by
    unfold markStringish
    have:(shape b).run P w= .ok (some (T,c.size)) w:=by
      show (Result.ok (w.shape? b) w)=_;unfold World.shape?;rw[h1]
    rw[Sem.run_bind,this];rfl
  have V:(w.freeze ⟨b,c.size,none⟩ 1).heap=w.heap.modify b fun
        | .cells cc G (lo,p)=>.cells cc G (if lo==p then(c.size,c.size+1)else(min lo c.size,max p (c.size+1)))
        |o=>o:=by unfold World.freeze;rw[if_neg (by simp)];rfl
  have h: ∀k,k≠b→(w.freeze ⟨b,c.size,none⟩ 1).heap[k]? =w.heap[k]? :=fun k hk=>by
    rw[V,Array.getElem?_modify,if_neg (fun g=>hk g.symm)]
  have q:(w.freeze ⟨b,c.size,none⟩ 1).heap[b]? =some (.cells c T (if lo==p then(c.size,c.size+1)else(min lo c.size,max p (c.size+1)))):=by
    rw[V,Array.getElem?_modify,if_pos rfl,h1];rfl
  have x:(w.freeze ⟨b,c.size,none⟩ 1).heap.size=w.heap.size:=by rw[V];simp
  have hE:Ext H w (w.freeze ⟨b,c.size,none⟩ 1):=by
    refine⟨?_,?_,?_,by rw[x];exact D1b _,fun k hk hn=>h k (fun e=>?_),fun k hk=>?_⟩
    · unfold World.freeze;rw[if_neg (by simp)]
    · unfold World.freeze;rw[if_neg (by simp)]
    · unfold World.freeze;rw[if_neg (by simp)]
    · rw[e,I1 hb]at hn;cases hn
    · unfold World.shape?
      by_cases e:k=b
      · rw[e,q,h1]
      · rw[h k e]
  have W:(H.del b).Le H:=fun k o hk=>by
    unfold Heap.del at hk;by_cases e:k=b
    · rw[if_pos e]at hk;cases hk
    · rw[if_neg e]at hk;exact hk
  have hF:From w H (H.del b):=fun k hk hn=>W.held hn;refine⟨w.freeze ⟨b,c.size,none⟩ 1,?_,.sl 1 (F1 z),H.del b,?_,fun k o r=>?_,hE,hF,hk⟩
  · unfold convert
    rw[Sem.run_bind,run_underlying hu];simp only[Result.andThen_ok];rw[Sem.run_bind,run_underlying hu];simp only[Result.andThen_ok];rw[Sem.run_bind,run_underlying he];simp only[Result.andThen_ok,beq_self_eq_true];rw[Sem.run_bind,hm];rfl
  · have hR:=R.sl (w:=w.freeze ⟨b,c.size,none⟩ 1) (H:=H.del b) 1 (F1 z) b (0*1) cap (fun i j=>c.getD i Go.undef) (by rw[x];exact M) (G7 (by simp[Heap.del]))
      (fun i e he=>J.each _ _ he) (by rw[hl,←y];exact U) (fun i j p hj=>?_) (fun i e j d he hd=>J.one _ _ _ _ he hd) (fun i e j d he hd=>?_)
    · rw[hl,←y]at hR;exact hR
    · have X:j=0:=by omega
      subst X;rw[hl]at p O;have h7:i<c.size:=by omega
      rw[show 0*1+i*1+0=i by omega,R3 q];simp[h7]
    · have p:i<z.size:=by rw[←hl];exact(D1R.1 he).1
      obtain⟨u,e1,e2⟩:=A i p;rw[e1]at he;cases he
      match j with
      |0=>cases hd;rw[e2];exact .int _ _
      |j+1=>cases hd
  · have I:k≠b:=fun e=>by subst e;simp[Heap.del]at r
    have Y:H k=some o:=by
      unfold Heap.del at r;rw[if_neg I]at r;exact r
    exact(hs k o Y).mono hE hF (h k I)
theorem A92: ∀(l:List UInt8) (r:ByteArray),(l.map fun c=>(c.toNat:Int)).foldl (fun(r:ByteArray) n=>r.push (UInt8.ofNat n.toNat)) r=⟨r.data++l.toArray⟩
 | [],r=>by simp
 |c::l,r=>by
  simp only[D2Y,List.foldl_cons,Int.toNat_natCast];rw[A92 l];have:UInt8.ofNat c.toNat=c:=by simp
  rw[this];simp[ByteArray.push]
theorem A8W{w:World}{H:Heap}{s t e:TypeId}{d:D}{v:Value}{z:ByteArray}{us:Array Value}(hb:C7 P t= .str)(A:P.underlying s=some (.slice e))(he:P.underlying e=some (.int .u8))(y:M7 H 1 d=some (F1 z))(hx:R w H d v)
  (j:us.size=(F1 z).length*1) (G:VecR w H 1 (F1 z) us) (hl:(Builtin.lenOf v).run P w= .ok (F1 z).length w) (q:(Builtin.firstCells 1 (F1 z).length v).run P w= .ok us w) (hd: ∀s,d≠ .str s):
  (convert s t v).run P w= .ok (.string z) w:=by
 have o:(F1 z).length=z.size:=by simp[F1]
 have r:us=((z.data.toList.map fun c=>(c.toNat:Int)).map (Value.int .u8)).toArray:=by
  apply Array.ext_getElem?;intro i;by_cases u:i<z.size
  ·have hb:(F1 z)[i]? =some [D.int .u8 (z.data.toList[i]'(by simpa using u)).toNat]:=by simp[F1,u]
   have:=(G.rel i _ 0 _ hb rfl).int_inv;rw[Nat.mul_one,Nat.add_zero]at this;have x:i<us.size:=by rw[j,o];omega
   have I:us[i]? =some (us.getD i Go.undef):=by simp[x]
   rw[I,this];simp[u]
  ·rw[Array.getElem?_eq_none (by rw[j,o];omega),Array.getElem?_eq_none (by simp;omega)]
 have p:z.size=0→z=ByteArray.empty:=fun h=>by
  apply ByteArray.ext;exact Array.eq_empty_of_size_eq_zero h
 have step: ∀(a:Option Addr) (n cap:Nat),v= .slice a n cap→(convert s t v).run P w=(Conv.bytesToString v).run P w:=by
  rintro a n cap rfl;unfold convert;rw[Sem.run_bind,run_underlying A];simp only[Result.andThen_ok];rw[Sem.run_bind,run_underlying (V2 hb)];simp only[Result.andThen_ok];rw[Sem.run_bind,run_underlying he];rfl
 have fin: ∀(a:Option Addr) (n cap:Nat),v= .slice a n cap→(convert s t v).run P w= .ok (.string z) w:=by
  rintro a n cap hv;rw[step a n cap hv,hv];rw[hv]at hl q;have hn:n=(F1 z).length:=by
   have:(Result.ok n w:Result Nat)= .ok (F1 z).length w:=hl;cases this;rfl
  cases a with
  |none=>
   have J:us= #[]:=by
    have:(Result.ok (#[]:Array Value) w)= .ok us w:=q;cases this;rfl
   have:z.size=0:=by rw[J]at j;simp at j;omega
   rw[p this];rfl
  |some a=>
   have m:(loadCells a n).run P w= .ok ((z.data.toList.map fun c=>(c.toNat:Int)).map (Value.int .u8)).toArray w:=by
    have:(loadCells a ((F1 z).length*1)).run P w= .ok us w:=q;rw[Nat.mul_one,←hn]at this;rw[this,r]
   rw[run_bytesToString w a n cap _ m,A92];simp
 cases hx<;>simp only[M7]at y<;>try(cases y;done)
 case str=>exact absurd rfl (hd _)
 all_goals exact fin _ _ _ rfl
theorem B5e{es:Array MapEntry}(hn:(es.toList.map (·.born)).Nodup){i j:Nat}(m:i<es.size)(o:j<es.size)(h:(es.getD i default).born=(es.getD j default).born):i=j:=by
 have e: ∀k (hk:k<es.size),(es.getD k default).born=(es.toList.map (·.born))[k]'(by simpa using hk):=fun k hk=>by simp[hk]
 rw[e i m,e j o]at h;have hp:=List.pairwise_iff_getElem.1 hn;rcases Nat.lt_trichotomy i j with g|g|g
 ·exact absurd h (hp i j (by simpa using m) (by simpa using o) g)
 ·exact g
 ·exact absurd h.symm (hp j i (by simpa using o) (by simpa using m) g)
theorem A52{w:World}{H:Heap}{b:Nat}{kvs:List (D×D)}{seen:List Nat}{K:D→Heap→Prop}(hs:Sat H w)(hb:H b=some (.rng kvs seen))(ty:TypeId)
  (h:(∀i p,kvs[i]? =some p→i∉seen→K (.tuple [.bool true,p.1,p.2]) (H.set b (.rng kvs (seen++[i]))))∧((∀i,i<kvs.length→i∈seen)→K (.tuple [.bool false]) H)):
  ∃v w',(Instr.next (.pointer (some ⟨b,0,none⟩)) false ty).run P w= .ok v w'∧Post H w K v w':=by
 obtain⟨m,es,ck,q,h1,V,W,X,h5,A,h7,h8⟩:=hs b _ hb;have G: ∀i,i<es.size→(q.contains (es.getD i default).born=true↔i∈seen):=fun i I=>by
  rw[Array.contains_iff_mem,←D1w,h8,D2F];constructor
  ·rintro⟨j,z,e⟩;rw[←B5e X.2.1 (by have:=h7 j z;omega) I e];exact z
  ·exact fun z=>⟨i,z,rfl⟩
 rcases run_next_at (P:=P) w ty b m ck ck q es ck h1 V X.1 (D1b _)with⟨hz,hr⟩|⟨e,he,x,r,hr⟩
 ·refine⟨_,w,hr,_,H,.tuple [.bool false] _ (by simp) (fun i d hd=>?_),hs,D2p _ _,D2o _ _,h.2 fun i I=>?_⟩
  ·match i,hd with
   |0,hd=>simp at hd;subst hd;exact .bool _
   |i+1,hd=>simp at hd
  ·have J:i<es.size:=by omega
   refine(G i J).1 ?_;have hl:leftOf es q= #[]:=Array.eq_empty_of_size_eq_zero hz;unfold leftOf at hl;rw[Array.filter_eq_empty_iff]at hl;have:=hl (es.getD i default) (by simp[J]);simpa using this
 ·have M:e∈es∧q.contains e.born=false:=by
   have:e∈leftOf es q:=by rwa [←D1w]
   unfold leftOf at this;rw[Array.mem_filter]at this;exact⟨this.1,by simpa using this.2⟩
  obtain⟨i,I,Y⟩:=Array.mem_iff_getElem.1 M.1;have U:es.getD i default=e:=by simp[I,Y]
  have a0:i∉seen:=fun hm=>by
   have:=(G i I).2 hm;rw[U,M.2]at this;cases this
  have O:i<kvs.length:=by omega
  have hp:kvs[i]? =some kvs[i]:=D1Y O;have o:x.heap=w.heap:=by rcases r with rfl|rfl<;>rfl
  have a6:=hs.lt hb;have u: ∀k,k≠b→(Go.ChangeMaps.setBlock x b (.mapIter (some m) ck (q.push e.born) ck)).heap[k]? =w.heap[k]? :=fun k hk=>by
   show (x.heap.setIfInBounds b _)[k]? =_;rw[o,D1v (Ne.symm hk)]
  have T:(Go.ChangeMaps.setBlock x b (.mapIter (some m) ck (q.push e.born) ck)).heap[b]? =some (.mapIter (some m) ck (q.push e.born) ck):=by
   show (x.heap.setIfInBounds b _)[b]? =_;rw[o];simp[a6]
  have hx:Ext H w (Go.ChangeMaps.setBlock x b (.mapIter (some m) ck (q.push e.born) ck)):=by
   refine⟨by rcases r with rfl|rfl<;>rfl,by rcases r with rfl|rfl<;>rfl,by rcases r with rfl|rfl<;>rfl,by show _≤(x.heap.setIfInBounds b _).size;rw[o];simp,fun k _ hn=>u k fun e=>?_,fun k _=>?_⟩
   ·rw[e,I1 hb]at hn;cases hn
   ·unfold World.shape?;by_cases hk:k=b
    ·subst hk;rw[T,h1]
    ·rw[u k hk]
  have y:From w H (H.set b (.rng kvs (seen++[i]))):=M6 (I1 hb) _;have a9:m≠b:=fun e=>by rw[e,I1 hb]at W;cases W
  refine⟨_,_,hr,_,_,.tuple [.bool true,kvs[i].1,kvs[i].2] _ (by simp) (fun j d hd=>?_),hs.update hx y (fun k _ hk=>u k hk) ⟨m,es,ck,q.push e.born,T,(u m a9).trans V,y m (T8 V) W,X,h5,fun j p hp=>⟨(A j p hp).1,(A j p hp).2.1.mono hx y,(A j p hp).2.2.mono hx y⟩,fun j z=>?_,?_⟩,hx,y,h.1 i _ hp a0⟩
  ·match j,hd with
   |0,hd=>simp at hd;subst hd;exact .bool _
   |1,hd=>simp at hd;subst hd;have:=(A i _ hp).2.1.mono hx y;rw[U]at this;exact this
   |2,hd=>simp at hd;subst hd;have:=(A i _ hp).2.2.mono hx y;rw[U]at this;exact this
   |j+3,hd=>simp at hd
  ·rcases D1h.1 z with g|g
   ·exact h7 j g
   ·rw[D1i.1 g];exact O
  ·rw[Array.toList_push,h8,D2H,D2Y,List.map_nil,U]
theorem A93{w:World}{H:Heap}{b:Nat}{kvs:List (D×D)}{seen:List Nat}{i:Nat}{p:D×D}(hs:Sat H w)(hb:H b=some (.rng kvs seen))(hl:seen.getLast?=some i)(hp:kvs[i]? =some p):
  ∃v,(Instr.entry (.pointer (some ⟨b,0,none⟩))).run P w= .ok v w∧R w H (.tuple [p.1,p.2]) v:=by
 obtain⟨m,es,ck,r,h1,u,A,x,h5,q,G,y⟩:=hs b _ hb;obtain⟨h,rfl⟩: ∃h,seen=h++[i]:=List.getLast?_eq_some_iff.1 hl;have z:i<es.size:=by have:=(D1R.1 hp).1;omega
 have o:r=(h.map fun i=>(es.getD i default).born).toArray.push (es.getD i default).born:=by
  apply Array.ext';rw[y];simp
 rw[o]at h1;refine⟨_,run_entry_at (P:=P) w b m ck _ es ck (es.getD i default) h1 u (by simp[z]) x.2.1,.tuple [p.1,p.2] _ (by simp) fun j d hd=>?_⟩
 match j,hd with
 |0,hd=>simp at hd;subst hd;exact(q i _ hp).2.1
 |1,hd=>simp at hd;subst hd;exact(q i _ hp).2.2
 |j+2,hd=>simp at hd
theorem B1n{w:World}{H:Heap}{b:Nat}{s:ByteArray}{pos:Nat}{K:D→Heap→Prop}(hs:Sat H w)(hb:H b=some (.iter s pos))(ty:TypeId)
  (h:(pos<s.size→K (.tuple [.bool true,.int .i64 pos,.int .i32 (Utf8.decode s pos).1]) (H.set b (.iter s (pos+(Utf8.decode s pos).2))))∧(¬pos<s.size→K (.tuple [.bool false]) H)):
  ∃v w',(Instr.next (.pointer (some ⟨b,0,none⟩)) true ty).run P w= .ok v w'∧Post H w K v w':=by
 have hw:w.heap[b]? =some (.stringIter s pos):=hs b _ hb;have m:=hs.lt hb;by_cases hp:pos<s.size
 ·refine⟨.tuple #[.bool true,.int .i64 pos,.int .i32 (Utf8.decode s pos).1],{w with heap:=w.heap.setIfInBounds b (.stringIter s (pos+(Utf8.decode s pos).2))},?_,?_⟩
  ·simp only[Instr.next,getObj,setObj,Sem.run_bind,Sem.run,hw,Result.andThen,hp,if_true];simp[goInt]
  ·have he:Ext H w {w with heap:=w.heap.setIfInBounds b (.stringIter s (pos+(Utf8.decode s pos).2))}:=by
    refine⟨rfl,rfl,rfl,by simp,fun k hk hn=>?_,fun k hk=>?_⟩
    ·have j:b≠k:=fun e=>by rw[e]at hb;rw[I1 hb]at hn;cases hn
     simp[D1v j]
    ·by_cases j:b=k
     ·subst j;unfold World.shape?;rw[hw];simp[m]
     ·unfold World.shape?;simp[D1v j]
   have o:From w H (H.set b (.iter s (pos+(Utf8.decode s pos).2))):=M6 (I1 hb) _;refine⟨_,_,.tuple _ _ (by simp) (fun i d hd=>?_),hs.update he o (fun k hk j=>by simp[D1v (Ne.symm j)]) (by show _=_;simp[m]),he,o,h.1 hp⟩
   match i,hd with
   |0,hd=>simp at hd;subst hd;exact .bool _
   |1,hd=>simp at hd;subst hd;exact .int _ _
   |2,hd=>simp at hd;subst hd;exact .int _ _
   |i+3,hd=>simp at hd
 ·refine⟨.tuple #[.bool false],w,?_,_,_,.tuple _ _ (by simp) (fun i d hd=>?_),hs,D2p _ _,D2o _ _,h.2 hp⟩
  ·simp[Instr.next,getObj,Sem.run,hw,hp]
  ·match i,hd with
   |0,hd=>simp at hd;subst hd;exact .bool _
   |i+1,hd=>simp at hd
theorem N5{o:Oper}{a:Act}{w:World}{ev:Operand→D}{H:Heap}{K:D→Heap→Prop}(hs:Sat H w)(G: ∀x,R w H (ev x) (a.eval x))(h:C9 P ev H K o.op):opSem P none o a w (Post H w K):=by
 have I:I4 P o.op= .pure→(∃d,L1 P ev o.op=some d∧K d H)→opSem P none o a w (Post H w K):=fun hc ⟨d,hd,hk⟩=>by
  obtain⟨v,hv,hR⟩:=A9s (P:=P) G hd;unfold opSem;rw[hc];exact⟨v,hv,d,H,hR,hs,D2p _ _,D2o _ _,hk⟩
 have A:I4 P o.op= .eff→∀{v:Value} {w':World},(execOp a.eval o).run P w= .ok (.value v) w'→Post H w K v w'→opSem P none o a w (Post H w K):=fun hc v w' hr hp=>by
  unfold opSem;rw[hc];show effPost P _ _;rw[hr];exact⟨trivial,hp⟩
 obtain⟨dst,op,type,pos,after,guard⟩:=o;simp only at h I A⊢;cases op
 case load t x=>
  obtain⟨d,hd,hk⟩:=h;obtain⟨u,O,hR⟩:=A5x (P:=P) hs hd (G x);unfold opSem;refine⟨u,?_,d,H,hR,hs,D2p _ _,D2o _ _,hk⟩;intro w' a0;have a0:w'=w:=a0;subst a0;simp only[execOp];rw[Sem.run_bind,O];rfl
 case store t x y=>
  obtain⟨H',hst,hk⟩:=h;obtain⟨w',hr,c8,he,U⟩:=A9t (P:=P) hs hst (G x) (G y);unfold opSem;show effPost P _ _;have:(execOp a.eval {dst,op:=.store t x y,type,pos,after,guard}).run P w= .ok .skip w':=by
   simp only[execOp];rw[Sem.run_bind,hr];rfl
  rw[this];exact⟨trivial,.undef,H',.undef _,c8,he,U,hk⟩
 case alloc t=>
  obtain⟨z,hz,hk⟩:=h;obtain⟨v,hv,T⟩:=A3O (w:=w) (H:=H) hz;refine A rfl (v:=.pointer (some ⟨w.heap.size,0,none⟩)) (w':=w.alloc (.cells v.cells t)) ?_ (A3M hs t (fun u O=>B5a O) T hk);simp only[execOp,Instr.alloc];rw[Sem.run_bind,Sem.run_bind,hv w];rfl
 case box t x=>
  obtain⟨h1,hk⟩:=h;refine A rfl (v:=.pointer (some ⟨w.heap.size,0,none⟩)) (w':=w.alloc (.cells (a.eval x).cells t)) rfl (A3M hs t (fun _ h=>by cases h) (Z6 (G x) h1) hk)
 case buildSlice t len parts=>
  obtain⟨e,sz,b8,z,es,he,hsz,d6,hz,b1,b9,hk⟩:=h;obtain⟨O,i,hi,a6,_⟩:=V3 he;simp only at O hi a6;obtain⟨v,hv,T⟩:=A3O (w:=w) (H:=H) hz;subst b1;have b2:=B2x T len;obtain⟨c',M,c9,d0,a9⟩:=C2t (qs:=parts.toList.map fun p=>(p.1,a.eval p.2)) b9 b2 (by simp) (by simp) (fun i p q hp hq=>by
   simp only[D1e,D1Q]at hp hq;obtain⟨a,ha,rfl⟩:=hp;obtain⟨b,c0,rfl⟩:=hq;rw[ha]at c0;cases c0;exact⟨rfl,G _⟩)
  refine A rfl (v:=.slice (some ⟨w.heap.size,0,none⟩) len len) (w':=w.alloc (.cells c' e)) ?_ (y8 hs e len len hsz c9 (D1b _) (by rw[d0];simp) hk);simp only[execOp,Instr.buildSlice];rw[Sem.run_bind,Sem.run_bind,run_underlying O];simp only[Result.andThen_ok];rw[Sem.run_bind,G8 hi w];simp only[Result.andThen_ok,a6];rw[if_neg (by omega)];have e2:(parts.map fun(i,x)=>(i,a.eval x)).toList=parts.toList.map fun p=>(p.1,a.eval p.2):=by simp
  by_cases h0:len*z.length=0
  ·have d7:len=0:=by rcases Nat.mul_eq_zero.1 h0 with h'|h'<;>omega
   rw[if_pos h0];rw[Sem.run_bind];simp only[Sem.run_pure,Result.andThen_ok];have e3:(Array.range (len*z.length)).map ((#[]:Array Value)[· % (#[]:Array Value).size]!)=(Array.range (len*z.length)).map (v.cells[· % v.cells.size]!):=by rw[h0];simp
   rw[e3,e2,M];rfl
  ·rw[if_neg h0];rw[Sem.run_bind,hv w];simp only[Result.andThen_ok];rw[Sem.run_bind];simp only[Sem.run_pure,Result.andThen_ok];rw[e2,M];rfl
 case makeSlice t l c=>
  obtain⟨e,sz,b8,z,k,n,k',m,he,hsz,hz,b1,hl,hc,d8,e0,e4,e6,hk⟩:=h;obtain⟨O,i,hi,a6,c2⟩:=V3 he;simp only at O hi a6 c2;obtain⟨v,hv,T⟩:=A3O (w:=w) (H:=H) hz;subst b1;have a9:=G l;have b0:=G c;rw[hl]at a9;rw[hc]at b0;have a9:=a9.int_inv;have b0:=b0.int_inv;have b2:=B2x T m.toNat;have c4:VecR w H z.length (List.replicate n.toNat z) ((Array.range (m.toNat*z.length)).map (v.cells[· % v.cells.size]!)):=by
   have:=b2.take n.toNat;rwa [List.take_replicate,Nat.min_eq_left (by omega)]at this
  refine A rfl (v:=.slice (some ⟨w.heap.size,0,none⟩) n.toNat m.toNat) (w':=w.alloc (.cells ((Array.range (m.toNat*z.length)).map (v.cells[· % v.cells.size]!)) e)) ?_ (y8 hs e n.toNat m.toNat hsz c4 (by omega) (by simp) hk);have w1:IntKind.i64.wrap n=n:=IntWalk.i64_in _ (by omega);have w2:IntKind.i64.wrap m=m:=IntWalk.i64_in _ (by omega);simp only[execOp,Instr.makeSlice,a9,b0];rw[Sem.run_bind,Sem.run_bind,run_underlying O];simp only[Result.andThen_ok];rw[Sem.run_bind];have ai: ∀(k:IntKind) (n:Int) (w:World),(asInt (.int k n)).run P w= .ok n w:=fun _ _ _=>rfl;rw[ai];simp only[Result.andThen_ok];rw[Sem.run_bind,ai];simp only[Result.andThen_ok];rw[Sem.run_bind,N4 hi w];simp only[Result.andThen_ok,w1,w2,c2];have c1: ¬((decide (m<0)||decide ((b8:Int)*m > 2 ^ 48)||decide (n<0)||decide (n > m))=true):=by
   simp only[D2e,D1d,not_or];refine⟨⟨⟨by omega,by omega⟩,by omega⟩,by omega⟩
  rw[if_neg c1];have c5: ∀(k:Nat) (W:World),(askRoom k).run P W= .ok () W:=fun k W=>by unfold askRoom;split<;>rfl
  rw[Sem.run_bind,c5];simp only[Result.andThen_ok];rw[Sem.run_bind,G8 hi w];simp only[Result.andThen_ok,a6];by_cases h0:m.toNat*z.length=0
  ·rw[if_pos h0];rw[Sem.run_bind];simp only[Sem.run_pure,Result.andThen_ok];have e3:(Array.range (m.toNat*z.length)).map ((#[]:Array Value)[· % (#[]:Array Value).size]!)=(Array.range (m.toNat*z.length)).map (v.cells[· % v.cells.size]!):=by rw[h0];simp
   rw[e3];rfl
  ·rw[if_neg h0];rw[Sem.run_bind,hv w];simp only[Result.andThen_ok];rw[Sem.run_bind];simp only[Sem.run_pure,Result.andThen_ok];rfl
 case convert s t x=>
  simp only[C9]at h;split at h
  ·rename_i hc;exact I hc h
  ·rename_i hc;have M:I4 P (.convert s t x)= .eff:=by
    have:I4 P (.convert s t x)= .pure∨I4 P (.convert s t x)= .eff:=by
     simp only[I4];split<;>simp
    exact this.resolve_left hc
   have hx:=G x;unfold A3J at h;split at h
   ·rename_i z hz;obtain⟨hb,hm,hk⟩:=h;rw[hz]at hx;have hx:=hx.str_inv;split at hm
    ·rename_i e O;obtain⟨w',cap,hcap,J,a0⟩:=A91 (P:=P) (w:=w) (s:=s) hb O z hm;have b3:(execOp a.eval {dst,op:=.convert s t x,type,pos,after,guard}).run P w= .ok (.value (.slice (some ⟨w.heap.size,0,none⟩) z.size cap)) w':=by
      simp only[execOp];rw[hx,Sem.run_bind,J];rfl
     exact A M b3 (B1m hs hcap a0 hk)
    ·exact hm.elim
   ·rename_i d2;rcases h with⟨hb,hm,z,hz,hk⟩|⟨rfl,hm,b,z,hd,h0,hb,hk⟩
    rotate_left
    ·split at hm
     ·rename_i e O;rw[hd]at hx;obtain⟨w',J,b4⟩:=B5d hs hb h0 O hm hx hk;refine A M (v:=a.eval x) (w':=w') ?_ b4;simp only[execOp];rw[Sem.run_bind,J];rfl
     ·exact hm.elim
    split at hm
    ·rename_i e O;obtain⟨us,d3,hV,J⟩:=A8O (P:=P) hs (Nat.zero_lt_one) hz hx;refine A M (v:=.string z) (w':=w) ?_ ⟨.str z,H,.str _,hs,D2p _ _,D2o _ _,hk⟩;simp only[execOp];rw[Sem.run_bind,A8W (P:=P) hb O hm hz hx d3 hV (J w rfl).1 (J w rfl).2 d2];rfl
    ·exact hm.elim
 case call c=>
  obtain⟨callee,args,V⟩:=c;cases callee with
  |value f=>
   simp only[C9]at h;split at h
   ·rename_i g first captured U
    have b6:=G f;rw[U]at b6;generalize hv:a.eval f=fv at b6;cases b6 with
    |fn _ _ _ vs us hl hm hr hq=>
     obtain⟨hb,hc⟩:=h;unfold opSem;show effPost P _ _;have J:(execOp a.eval {dst,op:=.call {callee:=.value f,args,argTypes:=V},type,pos,after,guard}).run P w= .ok (.enter g (vs++args.map a.eval++us)) w:=by
      unfold A1n at hb;split at hb
      ·rename_i fn d4;simp only[D1U,bne_iff_ne,ne_eq]at hb;have h1:(fn.name== "runtime.NumGoroutine")=false:=by simpa using hb.2
       have Y:fn.body.isNone=false:=by
        cases b7:fn.body with
        |none=>rw[b7]at hb;simp at hb
        |some _=>rfl
       simp only[execOp,resolve,hv,Deferred.ofValue];rw[Sem.run_bind];simp only[Sem.run_pure,Result.andThen_ok,invoke,callFunc];rw[Sem.run_bind];have:(program).run P w= .ok P w:=rfl;rw[this];simp only[Result.andThen_ok,d4,h1,Y,D1X,if_false];rfl
      ·cases hb
     rw[J];refine(hc w (vs++args.map a.eval++us) (by simp[hl,hm]) (fun i d hd=>?_) hs).mono fun e w' ⟨v,he,hp⟩=>⟨v,he,trivial,hp⟩
     have hsz:(args.map a.eval).size=args.size:=by simp
     by_cases h1:i<first.length
     ·rw[D15,D2B h1]at hd;have:(vs++args.map a.eval++us).getD i Go.undef=vs.getD i Go.undef:=by
       rw[Array.append_assoc,G3 (by omega)]
      rw[this];exact hr i d hd
     ·rw[D15,D2C (by omega)]at hd;obtain⟨k,rfl⟩: ∃k,i=vs.size+k:=⟨i-first.length,by omega⟩
      rw[show vs.size+k-first.length=k by omega]at hd;rw[Array.append_assoc,V5];by_cases Y:k<args.size
      ·rw[D2B (by simpa using Y)]at hd;rw[G3 (by simpa using Y)];simp only[D1e,D1Q]at hd;obtain⟨x,hx,rfl⟩:=hd;have:(args.map a.eval).getD k Go.undef=a.eval x:=by
        have h':args[k]? =some x:=by simpa using hx
        simp[h']
       rw[this];exact G x
      ·rw[D2C (by simpa using Y)]at hd;obtain⟨j,rfl⟩: ∃j,k=(args.map a.eval).size+j:=⟨k-args.size,by simp;omega⟩
       rw[V5];have:(args.map a.eval).size+j-(args.toList.map ev).length=j:=by simp
       rw[this]at hd;exact hq j d hd
   ·exact h.elim
  |invoke r m=>simp only[C9,I4]at h
  |builtin b=>
   cases b
   case append=>
    simp only[C9]at h;split at h
    ·rename_i t t' s x c6 X;obtain⟨v,w',hr,hp⟩:=A8V (P:=P) hs G h type;refine A rfl (v:=v) (w':=w') ?_ hp;have e1:V= #[t,t']:=by rw[←Array.toArray_toList (xs:=V),c6]
     have e2:args= #[s,x]:=by rw[←Array.toArray_toList (xs:=args),X]
     subst e1;subst e2;simp only[execOp,resolve];rw[Sem.run_bind];simp only[Sem.run_pure,Result.andThen_ok,invoke,builtin];rw[Sem.run_bind];have:(#[s,x].map a.eval)= #[a.eval s,a.eval x]:=by simp
     rw[this,hr];rfl
    ·exact h.elim
   case len=>
    simp only[C9]at h;split at h
    ·rename_i hc;exact I hc h
    ·rename_i hc;have M:I4 P (.call ⟨.builtin .len,args,V⟩)= .eff:=by
      have:I4 P (.call ⟨.builtin .len,args,V⟩)= .pure∨I4 P (.call ⟨.builtin .len,args,V⟩)= .eff:=by
       simp only[I4];split<;>simp
      exact this.resolve_left hc
     split at h
     ·rename_i x X;obtain⟨kvs,c7,hk⟩:=h;have e2:args= #[x]:=by rw[←Array.toArray_toList (xs:=args),X]
      subst e2;have hl: ∃t k e,V[0]? =some t∧P.underlying t=some (.map k e):=by
       unfold I4 at M;simp only at M;split at M
       ·rename_i k e hb;obtain⟨t,ht,O⟩:=D1T.1 hb;exact⟨t,k,e,ht,O⟩
       ·cases M
      obtain⟨t,kt,et,ht,O⟩:=hl;have J:=A90 (P:=P) hs (G x) c7 ht O type;refine A M (v:=.int .i64 kvs.length) (w':=w) ?_ ⟨_,H,.int _ _,hs,D2p _ _,D2o _ _,hk⟩;simp only[execOp,resolve];rw[Sem.run_bind];simp only[Sem.run_pure,Result.andThen_ok,invoke,builtin];rw[Sem.run_bind];have:(#[x].map a.eval)= #[a.eval x]:=by simp
      rw[this,J];rfl
     ·exact h.elim
   all_goals first
    |exact I rfl h
    |(simp only[C9,I4]at h;done)
 case makeMap t r=>
  cases r with
  |some r=>exact h.elim
  |none=>
   have he:=Ext.alloc H w (.map #[] 0);have U:=N3 (H:=H) (D1b w.heap.size) (.map []);refine A rfl (v:=.map (some w.heap.size)) (w':=w.alloc (.map #[] 0)) rfl ⟨_,_,.map _,?_,he,U,h _ (hs.fresh (D1b _))⟩;exact hs.update he U (fun k hk _=>Go.RowKit.Below.heap_alloc _ _ _ hk) ⟨#[],0,M1 w _,MapKept.stamped_empty 0,rfl,fun i p hp=>by simp at hp⟩
 case lookup t m k ok=>
  obtain⟨d,hd,hk⟩:=h;obtain⟨v,hv,hR⟩:=A8T (P:=P) hs hd (G m) (G k);refine A rfl (v:=v) (w':=w) ?_ ⟨d,H,hR,hs,D2p _ _,D2o _ _,hk⟩;simp only[execOp];rw[Sem.run_bind,hv];rfl
 case mapUpdate t m k x=>
  obtain⟨H',d5,hk⟩:=h;obtain⟨w',hr,h1,Y,h3⟩:=A8U (P:=P) hs d5 (G m) (G k) (G x);unfold opSem;show effPost P _ _;have:(execOp a.eval {dst,op:=.mapUpdate t m k x,type,pos,after,guard}).run P w= .ok .skip w':=by
   simp only[execOp];rw[Sem.run_bind,hr];rfl
  rw[this];exact⟨trivial,_,_,.undef _,h1,Y,h3,hk⟩
 case range t x=>
  simp only[C9]at h;split at h
  ·rename_i s hx;obtain⟨O,hk⟩:=h;have hv:=G x;rw[hx]at hv;have hv:=hv.str_inv;have hn:H w.heap.size=none:=hs.fresh (D1b _);have he:Ext H w (w.iter s 0):=Ext.alloc H w _;have U:From w H (H.set w.heap.size (.iter s 0)):=N3 (D1b _) _;refine A rfl (v:=.pointer (some ⟨w.heap.size,0,none⟩)) (w':=w.iter s 0) ?_ ⟨_,_,.box _ _,hs.update he U (fun k hk _=>Go.RowKit.Below.heap_alloc _ _ _ hk) (World.iter_heap w s 0),he,U,hk _ hn⟩;simp only[execOp];rw[Sem.run_bind,hv,run_range_string w t s O];rfl
  ·rename_i kvs hx;obtain⟨O,hk⟩:=h;have hv:=G x;rw[hx]at hv;obtain⟨m,es,ck,hv,Y,h3,h4,h5,h6⟩:=hv.fm_inv;obtain⟨⟨kt,et,kk⟩,hT⟩:=Option.isSome_iff_exists.1 O;have hn:H w.heap.size=none:=hs.fresh (D1b _);have he:Ext H w (w.alloc (.mapIter (some m) ck #[] ck)):=Ext.alloc H w _;have U:From w H (H.set w.heap.size (.rng kvs [])):=N3 (D1b _) _;refine A rfl (v:=.pointer (some ⟨w.heap.size,0,none⟩)) (w':=w.alloc (.mapIter (some m) ck #[] ck)) ?_ ⟨_,_,.box _ _,hs.update he U (fun k hk _=>Go.RowKit.Below.heap_alloc _ _ _ hk)
    ⟨m,es,ck,#[],by show (w.heap.push _)[w.heap.size]? =_;simp,(Go.RowKit.Below.heap_alloc _ _ _ (T8 Y)).trans Y,U m (T8 Y) h3,h4,h5,fun i p hp=>⟨(h6 i p hp).1,(h6 i p hp).2.1.mono he U,(h6 i p hp).2.2.mono he U⟩,by simp,rfl⟩,he,U,hk _ hn⟩
   simp only[execOp];rw[hv,Sem.run_bind];have:(Instr.range t (.map (some m))).run P w= .ok (.pointer (some ⟨w.heap.size,0,none⟩)) (w.alloc (.mapIter (some m) ck #[] ck)):=by
    unfold Instr.range;simp only[Sem.run_bind,run_underlying (Z9 hT).1,Result.andThen_ok,MapKept.run_getObj_map Y,Sem.run_pure];rfl
   rw[this];rfl
  ·exact h.elim
 case next x isString=>
  simp only[C9]at h;split at h
  ·rename_i b hx;split at h
   ·rename_i s pos hb;have hv:=G x;rw[hx]at hv;have hv:=hv.box_inv;obtain⟨v,w',hr,hp⟩:=B1n (P:=P) hs hb type h;refine A rfl (v:=v) (w':=w') ?_ hp;simp only[execOp];rw[Sem.run_bind,hv,hr];rfl
   ·exact h.elim
  ·rename_i b hx;split at h
   ·rename_i kvs seen hb;have hv:=G x;rw[hx]at hv;have hv:=hv.box_inv;obtain⟨v,w',hr,hp⟩:=A52 (P:=P) hs hb type h;refine A rfl (v:=v) (w':=w') ?_ hp;simp only[execOp];rw[Sem.run_bind,hv,hr];rfl
   ·exact h.elim
  ·exact h.elim
 case entry x=>
  simp only[C9]at h;split at h
  ·rename_i b hx;split at h
   ·rename_i kvs seen hb;obtain⟨i,p,hl,hp,hk⟩:=h;have hv:=G x;rw[hx]at hv;have hv:=hv.box_inv;obtain⟨v,hr,hR⟩:=A93 (P:=P) hs hb hl hp;refine A rfl (v:=v) (w':=w) ?_ ⟨_,H,hR,hs,D2p _ _,D2o _ _,hk⟩;simp only[execOp];rw[Sem.run_bind,hv,hr];rfl
   ·exact h.elim
  ·exact h.elim
 all_goals first
  |exact I rfl h
  |exact h.elim
theorem A53(H:Heap)(l:List Nat):(H.minus l).Le H:=fun k o h=>by
 unfold Heap.minus at h;split at h
 ·cases h
 ·exact h
theorem V6{α :Type}(s:Sem α)(g: α →Next)(i: ∀x f args,g x≠ .enter f args)(w:World)(f:FuncId)(args:Array Value)(w':World):(do let x←s;pure (g x):Sem Next).run P w≠ .ok (.enter f args) w':=by
 rw[Sem.run_bind];cases s.run P w with
 |ok x j=>intro h;simp only[Result.andThen_ok,Sem.run_pure,Result.ok.injEq]at h;exact i _ _ _ h.1
 |halt x j=>intro h;cases h
theorem A0t{o:Oper}{a:Act}{w:World}{ev:Operand→D}{H:Heap}{K:D→Heap→Prop}{sx:Bool}{l:List Nat}(hl: ∀k∈l,k<w.heap.size)(hs:Sat H w)(j: ∀x,R w H (ev x) (a.eval x))(hc:I4 P o.op= .eff)
  (p: ∀f args w',(execOp a.eval o).run P w≠ .ok (.enter f args) w') (hx:(sx=false∧A1C o.op=true)∨C9 P ev (H.minus l) (fun _ _=>True) o.op) (h:C9 P ev H K o.op):opSem P (some (sx,l)) o a w (Post H w K):=by
 have h1:=N5 (o:=o) hs j h;unfold opSem at h1⊢;rw[hc]at h1⊢;simp only at h1⊢;have m: ∀v w',((execOp a.eval o).run P w= .ok (.value v) w'∨(execOp a.eval o).run P w= .ok .skip w')→B5V (some (sx,l)) o.op w w':=by
  intro v w' hr;rcases hx with hx|hx
  ·exact .inl hx
  ·have i:=N5 (o:=o) (hs.less (A53 H l)) (fun x=>(j x).less (A53 H l)) hx;unfold opSem at i;rw[hc]at i;simp only at i;have he:Ext (H.minus l) w w':=by
    unfold effPost at i;rcases hr with hr|hr
    ·rw[hr]at i;obtain⟨_,_,_,_,_,he,_⟩:=i;exact he
    ·rw[hr]at i;obtain⟨_,_,_,_,_,he,_⟩:=i;exact he
   exact .inr fun k hk=>he.block k (hl k hk) (G7 (by simp[Heap.minus,hk]))
 unfold effPost at h1⊢;split at h1<;>try exact h1.elim
 ·rename_i hr;exact⟨m _ _ (.inl hr),h1.2⟩
 ·rename_i hr;exact⟨m undef _ (.inr hr),h1.2⟩
 ·rename_i hr;exact absurd hr (p _ _ _)
theorem A1p{o:Oper}{a:Act}{w:World}{ev:Operand→D}{H:Heap}{K:D→Heap→Prop}{sx:Bool}{l:List Nat}(hl: ∀k∈l,k<w.heap.size)(hs:Sat H w)(m: ∀x,R w H (ev x) (a.eval x))(h:B5Z P sx l ev H K o.op):
  opSem P (some (sx,l)) o a w (Post H w K):=by
 have j:I4 P o.op= .pure→C9 P ev H K o.op→opSem P (some (sx,l)) o a w (Post H w K):=fun hc h=>by
  have h1:=N5 (o:=o) hs m h;unfold opSem at h1⊢;rw[hc]at h1⊢;exact h1
 obtain⟨dst,op,type,pos,after,guard⟩:=o;simp only at h j⊢;unfold B5Z at h;split at h
 ·rename_i t x;obtain⟨hb,d,hd,hk⟩:=h;obtain⟨u,q,r⟩:=A4w (P:=P) hs hd (m x);unfold opSem;refine⟨u,fun w' p=>?_,d,H,r,hs,D2p _ _,D2o _ _,hk⟩;simp only[execOp];rw[Sem.run_bind,q w' fun b o hv=>?_];rfl;split at hb
  ·rename_i y off he;have hr:=m x;rw[he]at hr;have hr:=hr.box_inv;rw[hr]at hv;cases hv;exact p _ hb
  ·rename_i y sz i off he;have hr:=m x;rw[he]at hr;have hr:=hr.el_inv;rw[hr]at hv;cases hv;exact p _ hb
  ·exact hb.elim
 ·exact A0t hl hs m rfl (fun f args w'=>V6 _ (fun _=>Next.skip) (by simp) w f args w') (by
   cases sx
   ·exact .inl ⟨rfl,rfl⟩
   ·exact .inr (h.1 rfl)) h.2
 ·exact A0t hl hs m rfl (fun f args w'=>V6 _ Next.value (by simp) w f args w') (.inr h.1) h.2
 ·exact A0t hl hs m rfl (fun f args w'=>V6 _ Next.value (by simp) w f args w') (.inr h.1) h.2
 ·exact A0t hl hs m rfl (fun f args w'=>V6 _ Next.value (by simp) w f args w') (.inr h.1) h.2
 ·refine A0t hl hs m rfl (fun f args w'=>?_) (.inr h.1) h.2;simp only[execOp,resolve];rw[Sem.run_bind];simp only[Sem.run_pure,Result.andThen_ok,invoke];exact V6 _ Next.value (by simp) w f args w'
 ·exact j h.1 h.2
theorem A8X(H i:Heap):(H.sub i).Le H:=fun k o h=>by
 unfold Heap.sub at h;split at h
 ·cases h
 ·exact h
theorem B5f{H i:Heap}{w w':World}{K:D→Heap→Prop}{v:Value}(hs:Sat H w)(q:i.Le H)(h:Post i w (fun d _=>A7Q d=true∧K d (H.sub i)) v w'):Post H w K v w':=by
 obtain⟨d,x,hr,u,he,y,r,hk⟩:=h;have j:Ext H w w':=⟨he.os,he.tape,he.output,he.size,fun k hk hn=>he.block k hk (q.held hn),he.shape⟩
 have m:From w H (H.sub i):=fun k hk hn=>(A8X H i).held hn;refine⟨d,H.sub i,?_,fun b o hb=>?_,j,m,hk⟩
 ·cases hr<;>first|(cases r;done)|constructor
 ·have hc:i.held b=false:=by
   unfold Heap.sub at hb;split at hb
   ·cases hb
   ·rename_i h;simpa using h
  have p:=A8X H i b o hb;exact(hs b o p).mono j m (he.block b (hs.lt p) hc)
theorem A94{o:Oper}{a:Act}{w:World}{ev:Operand→D}{H:Heap}{K:D→Heap→Prop}{l:List Nat}(hl: ∀k∈l,k<w.heap.size)(hs:Sat H w)(j: ∀x,R w H (ev x) (a.eval x))(h:A5w P l ev H K o.op):
  opSem P (some (true,l)) o a w (Post H w K):=by
 have i:I4 P o.op= .pure→C9 P ev H K o.op→opSem P (some (true,l)) o a w (Post H w K):=fun hc h=>by
  have h1:=N5 (o:=o) hs j h;unfold opSem at h1⊢;rw[hc]at h1⊢;exact h1
 obtain⟨dst,op,type,pos,after,guard⟩:=o;simp only at h i⊢;unfold A5w at h;split at h
 ·exact A1p (o:=⟨dst,_,type,pos,after,guard⟩) (sx:=true) hl hs j h
 ·exact A1p (o:=⟨dst,_,type,pos,after,guard⟩) (sx:=true) hl hs j h
 ·obtain⟨q,m,p,h⟩:=h;have h1:=N5 (o:=⟨dst,_,type,pos,after,guard⟩) (hs.less m) (fun x=>(j x).less m) h;unfold opSem at h1⊢;simp only[I4]at h1⊢;refine effPost.mono h1 fun v w' hn=>⟨.inr fun k hk=>?_,B5f hs m hn.2⟩
  obtain⟨_,_,_,_,he,_⟩:=hn.2;exact he.block k (hl k hk) (p k hk)
 ·exact i h.1 h.2
end
section
variable {P:Program} {F:Option (Bool×List Nat)} {ops:Array Oper} {md:Region.Mode}
def sOp(P:Program)(F:Option (Bool×List Nat))(ops:Array Oper)(i:Nat)(K:Act→World→Prop)(a:Act)(w:World):Prop:=match ops[i]? with
 |none=>K a w
 |some o=>if Region.wanted o (yielded ops a.tmps)then opSem P F o a w fun v w'=>K (a.put o.dst v) w' else K (a.put o.dst undef) w
theorem A54{i:Nat}{K m:Act→World→Prop}{a:Act}{w:World}(j: ∀a w,K a w→m a w)(h:sOp P F ops i K a w):sOp P F ops i m a w:=by
 unfold sOp at*;split
 ·rename_i hn;simp only[hn]at h;exact j _ _ h
 ·rename_i o ho;simp only[ho]at h;split
  ·rename_i hw;rw[if_pos hw]at h;exact h.mono fun v w'=>j _ _
  ·rename_i hw;rw[if_neg hw]at h;exact j _ _ h
def wpAnyS(P:Program)(F:Option (Bool×List Nat))(md:Region.Mode)(ops:Array Oper)(K:Act→World→Prop):Nat→Array Bool→Act→World→Prop
 |0,listed,a,w=>Region.ready md ops listed= []∧K a w
 |fuel+1,listed,a,w=>
  (Region.ready md ops listed= []→K a w)∧∀i∈Region.ready md ops listed,sOp P F ops i (wpAnyS P F md ops K fuel (listed.setIfInBounds i true)) a w
theorem wpAnyS.wpAny{K:Act→World→Prop}{Q:Exit→Act→World→Prop}(m: ∀a w,K a w→Q .normal a w): ∀(fuel:Nat) (j:Array Bool) (a:Act) (w:World),
  wpAnyS P F md ops K fuel j a w→Go.wpAny P md ops Q fuel j a w
 |0,_,_,_,h=>⟨h.1,m _ _ h.2⟩
 |fuel+1,j,a,w,h=>⟨fun p=>m _ _ (h.1 p),fun i q=>by
   have h1:=h.2 i q;unfold sOp at h1;unfold Go.wpOp;split
   ·rename_i hn;simp only[hn]at h1;exact wpAnyS.wpAny m fuel _ _ _ h1
   ·rename_i o ho;simp only[ho]at h1;split
    ·rename_i hw;rw[if_pos hw]at h1;exact .inl (opSem.wp (h1.mono fun v w' hv=>wpAnyS.wpAny m fuel _ _ _ hv))
    ·rename_i hw;rw[if_neg hw]at h1;exact wpAnyS.wpAny m fuel _ _ _ h1⟩
def YieldS(P:Program)(F:Option (Bool×List Nat))(ops:Array Oper)(o:Oper)(v:Value)(a:Act)(w:World):Prop:=
 (Region.wanted o (yielded ops a.tmps)=true∧I4 P o.op= .pure∧∀w',(execOp a.eval o).run P w'= .ok (.value v) w')∨
 (Region.wanted o (yielded ops a.tmps)=true∧I4 P o.op= .load∧∀w',Keep F w w'→(execOp a.eval o).run P w'= .ok (.value v) w')∨
 (Region.wanted o (yielded ops a.tmps)=false∧v=undef)
theorem YieldS.sOp{i:Nat}{o:Oper}{v:Value}{a:Act}{w:World}{K:Act→World→Prop}(p:ops[i]? =some o)(q:YieldS P F ops o v a w)(h:K (a.put o.dst v) w):sOp P F ops i K a w:=by
 unfold Av.sOp;simp only[p];rcases q with⟨h1,j,m⟩|⟨h1,j,m⟩|⟨h1,rfl⟩
 ·rw[if_pos h1];unfold opSem;rw[j];exact⟨v,m,h⟩
 ·rw[if_pos h1];unfold opSem;rw[j];exact⟨v,m,h⟩
 ·rw[if_neg (by simp[h1])];exact h
theorem A4I{i:Nat}{o:Oper}{a:Act}{w:World}{K:Act→World→Prop}(p:ops[i]? =some o)(hc:I4 P o.op≠ .eff)(h:sOp P F ops i K a w): ∃v,YieldS P F ops o v a w∧K (a.put o.dst v) w:=by
 unfold Av.sOp at h;simp only[p]at h;by_cases hw:Region.wanted o (yielded ops a.tmps)=true
 ·rw[if_pos hw]at h;unfold opSem at h;split at h
  ·rename_i j;obtain⟨v,h1,m⟩:=h;exact⟨v,.inl ⟨hw,j,h1⟩,m⟩
  ·rename_i j;obtain⟨v,h1,m⟩:=h;exact⟨v,.inr (.inl ⟨hw,j,h1⟩),m⟩
  ·rename_i j;exact absurd j hc
 ·rw[if_neg hw]at h;exact⟨undef,.inr (.inr ⟨by simpa using hw,rfl⟩),h⟩
theorem YieldS.of_same{o:Oper}{v:Value}{a a':Act}{w w':World}(m:YieldS P F ops o v a w)(he:execOp a'.eval o=execOp a.eval o)
  (hw:Region.wanted o (yielded ops a'.tmps)=Region.wanted o (yielded ops a.tmps)) (i:I4 P o.op= .load→Keep F w w'):YieldS P F ops o v a' w':=by
 unfold YieldS at*;rw[he,hw];rcases m with h|h|h
 ·exact .inl h
 ·exact .inr (.inl ⟨h.1,h.2.1,fun j hk=>h.2.2 j ((i h.2.1).trans hk)⟩)
 ·exact .inr (.inr h)
def Y4(P:Program)(rc:Option Bool)(o:Op):Bool:=I4 P o != .eff||match rc with
 |none=>false
 |some sx=>sx|| !A1C o
theorem B9A{j:Nat}{i oj:Oper}{v:Value}(O:ops[j]? =some oj)(x:i.apart ops oj=true)
  (y: ∀cs b,i.op≠ .select cs b) (z: ∀cs b,oj.op≠ .select cs b) (A:I4 P i.op= .load→Y4 P (F.map (·.1)) oj.op=true) {K:Act→World→Prop} {a:Act} {w:World}
  (o:YieldS P F ops i v a w) (h:sOp P F ops j K (a.put i.dst v) w):
  sOp P F ops j (fun a' w'=>YieldS P F ops i v a' w'∧K (a'.put i.dst v) w') a w:=by
 obtain⟨h1,r,J⟩:=Oper.apart_spec x;have keep: ∀(a:Act) (w w':World),YieldS P F ops i v a w→(I4 P i.op= .load→Keep F w w')→∀u,YieldS P F ops i v (a.put oj.dst u) w':=fun a w w' o G u=>
  o.of_same (execOp_put i y a oj.dst u J) (wanted_put i a oj.dst u J) G
 unfold sOp at*;simp only[O]at*;rw[wanted_put oj a i.dst v h1]at h;split
 ·rename_i hw;rw[if_pos hw]at h;unfold opSem at*;rw[execOp_put oj z a i.dst v h1]at h;split at h
  ·obtain⟨u,I,hn⟩:=h;exact⟨u,I,keep a w w o (fun _=>Keep.refl F w) u,by rw[←Act.put_comm a v u r];exact hn⟩
  ·obtain⟨u,I,hn⟩:=h;exact⟨u,I,keep a w w o (fun _=>Keep.refl F w) u,by rw[←Act.put_comm a v u r];exact hn⟩
  ·rename_i q;refine h.mono fun u w' hn=>⟨hn.1,keep a w w' o (fun hl=>?_) u,by rw[←Act.put_comm a v u r];exact hn.2⟩
   have h5:=A hl;cases M:F with
   |none=>rw[M]at h5;simp[Y4,q]at h5
   |some p=>
    obtain⟨sx,l⟩:=p;have m:=hn.1;rw[M]at m h5;rcases m with m|m
    ·rw[m.1]at h5;simp[Y4,q,m.2]at h5
    ·exact m
 ·rename_i hw;rw[if_neg hw]at h;exact⟨keep a w w o (fun _=>Keep.refl F w) _,by rw[←Act.put_comm a v undef r];exact h⟩
def Closed(md:Region.Mode)(ops:Array Oper)(k:Nat)(W:Nat→Prop):Prop:=
 W k∧∀j oj,W j→j≠k→ops[j]? =some oj→∃e∈oj.after,Region.binds md e=true∧W e.on
theorem Closed.not_ready{k:Nat}{W:Nat→Prop}(u:Closed md ops k W){h:Array Bool}(m: ∀j,W j→h.getD j false=false){j:Nat}
  (x:j∈Region.ready md ops h) (o:j≠k): ¬W j:=fun p=>by
 obtain⟨_,oj,q,i⟩:=mem_ready.1 x;obtain⟨e,he,hb,r⟩:=u.2 j oj p o q;have:=i e he hb;rw[m _ r]at this;cases this
theorem F8{l:Array Bool}{j:Nat}(h:l.getD j true=false):l.getD j false=false:=by
 rcases Nat.lt_or_ge j l.size with i|i
 ·simp[i]at h⊢;exact h
 ·simp[Array.getElem?_eq_none i]at h
theorem Q3{l:Array Bool}{i j:Nat}(h:i≠j):(l.setIfInBounds i true).getD j false=l.getD j false:=getD_set_ne false h
theorem A8Y{K:Act→World→Prop}{i:Nat}{u:Oper}{v:Value}{W:Nat→Prop}(T:ops[i]? =some u)(x: ∀(j:Nat) (o:Oper) cs b,ops[j]? =some o→o.op≠ .select cs b)
  (hW:Closed md ops i W):
  ∀(fuel:Nat) (m:Array Bool) (a:Act) (w:World),(∀j,W j→m.getD j false=false)→
   (∀j oj,ops[j]? =some oj→¬W j→m.getD j true=false→u.apart ops oj=true∧(I4 P u.op= .load→Y4 P (F.map (·.1)) oj.op=true))→
   i∈Region.ready md ops m→YieldS P F ops u v a w→
   wpAnyS P F md ops K fuel (m.setIfInBounds i true) (a.put u.dst v) w→wpAnyS P F md ops K (fuel+1) m a w:=by
 intro fuel
 induction fuel with
 |zero=>
  intro m a w _ _ hr O H;refine⟨fun h=>(by rw[h]at hr;cases hr),fun j A=>?_⟩;by_cases p:j=i
  ·subst p;exact O.sOp T H
  ·have:=ready_mono A p;rw[H.1]at this;cases this
 |succ fuel ih=>
  intro m a w G q hr O H;refine⟨fun h=>(by rw[h]at hr;cases hr),fun j A=>?_⟩;by_cases p:j=i
  ·subst p;exact O.sOp T H
  ·have h1:=H.2 j (ready_mono A p);obtain⟨y,oj,z,_⟩:=mem_ready.1 A;have I:=hW.not_ready G A p;obtain⟨U,V⟩:=q j oj z I y;have h2:=B9A z U (fun cs b=>x i u cs b T) (fun cs b=>x j oj cs b z) V O h1;have J: ∀k,W k→(m.setIfInBounds j true).getD k false=false:=fun k hk=>by
    rw[Q3 (fun e:j=k=>I (by rw[e];exact hk))];exact G k hk
   have r: ∀k ok,ops[k]? =some ok→¬W k→(m.setIfInBounds j true).getD k true=false→u.apart ops ok=true∧(I4 P u.op= .load→Y4 P (F.map (·.1)) ok.op=true):=fun k ok hk X Y=>by
    refine q k ok hk X ?_;by_cases M:j=k
    ·subst M;exact y
    ·rw[getD_set_ne true M]at Y;exact Y
   refine A54 (fun a' w' h3=>ih (m.setIfInBounds j true) a' w' J r (ready_mono hr (Ne.symm p)) h3.1 ?_) h2;rw[Array.setIfInBounds_comm _ _ p];exact h3.2
def A55:Op→Bool
 | .move _| .assign _=>true
 |_=>false
def A7V(ops:Array Oper)(o:Oper)(a:Act):Value:=
 if Region.wanted o (yielded ops a.tmps)then(match o.op with| .move x| .assign x=>a.eval x|_=>undef)else undef
theorem A95{j:Nat}{oj:Oper}{K:Act→World→Prop}{a:Act}{w:World}(i:ops[j]? =some oj)(hm:A55 oj.op=true):
  sOp P F ops j K a w↔K (a.put oj.dst (A7V ops oj a)) w:=by
 unfold sOp A7V;simp only[i];split
 ·unfold opSem;obtain⟨dst,op,type,pos,after,guard⟩:=oj;cases op<;>simp[A55]at hm
  ·simp only[I4,execOp];exact⟨fun⟨v,h,hk⟩=>by have:=h w;simp[pure]at this;subst this;exact hk,fun h=>⟨_,fun _=>rfl,h⟩⟩
  ·simp only[I4,execOp];exact⟨fun⟨v,h,hk⟩=>by have:=h w;simp[pure]at this;subst this;exact hk,fun h=>⟨_,fun _=>rfl,h⟩⟩
 ·exact Iff.rfl
theorem B4E{o:Oper}{a:Act}{dst:Option Tmp}{v:Value}(h: ∀d,dst=some d→d∉o.looksAt ops):A7V ops o (a.put dst v)=A7V ops o a:=by
 unfold A7V;rw[wanted_put o a dst v h];have key: ∀x∈o.op.operands,(a.put dst v).eval x=a.eval x:=fun x hx=>Act.eval_put fun d hd i=>h d hd (by
  subst i;exact List.mem_append_left _ (List.mem_filterMap.2 ⟨.tmp d,by simpa using hx,rfl⟩))
 obtain⟨j,op,type,pos,after,guard⟩:=o;split
 ·cases op<;>simp only[]<;>exact key _ (by simp[Op.operands])
 ·rfl
theorem A3P{i:Nat}{j oj:Oper}(q:ops[i]? =some j)(o:oj.apart ops j=true)(p: ∀cs b,j.op≠ .select cs b){K:Act→World→Prop}{a:Act}{w:World}(u:Value)
  (h:sOp P F ops i (fun a' w'=>K (a'.put oj.dst u) w') a w):sOp P F ops i K (a.put oj.dst u) w:=by
 obtain⟨h1,m,r⟩:=Oper.apart_spec o;unfold sOp at*;simp only[q]at*;rw[wanted_put j a oj.dst u h1];split
 ·rename_i hw;rw[if_pos hw]at h;unfold opSem at*;rw[execOp_put j p a oj.dst u h1];split at h
  ·obtain⟨v,hv,hn⟩:=h;exact⟨v,hv,by show K _ _;rw[Act.put_comm a u v m];exact hn⟩
  ·obtain⟨v,hv,hn⟩:=h;exact⟨v,hv,by show K _ _;rw[Act.put_comm a u v m];exact hn⟩
  ·exact h.mono fun v w' hn=>⟨hn.1,by show K _ _;rw[Act.put_comm a u v m];exact hn.2⟩
 ·rename_i hw;rw[if_neg hw]at h;rw[Act.put_comm a u undef m];exact h
theorem YieldS.uniq{o:Oper}{u v:Value}{a:Act}{w:World}(h:YieldS P F ops o u a w)(g:YieldS P F ops o v a w):u=v:=by
 have val: ∀{x y:Value},(execOp a.eval o).run P w= .ok (.value x) w→(execOp a.eval o).run P w= .ok (.value y) w→x=y:=fun h1 j=>by
  rw[h1]at j;cases j;rfl
 rcases h with⟨h1,j,m⟩|⟨h1,j,m⟩|⟨h1,j⟩<;>rcases g with⟨i,q,p⟩|⟨i,q,p⟩|⟨i,q⟩
 ·exact val (m w) (p w)
 ·exact val (m w) (p w (Keep.refl F w))
 ·rw[h1]at i;cases i
 ·exact val (m w (Keep.refl F w)) (p w)
 ·exact val (m w (Keep.refl F w)) (p w (Keep.refl F w))
 ·rw[h1]at i;cases i
 ·rw[h1]at i;cases i
 ·rw[h1]at i;cases i
 ·rw[j,q]
theorem A68{o:Op}{w w':World}(hb:Y4 P (F.map (·.1)) o=true)(hc:I4 P o= .eff)(h:B5V F o w w'):Keep F w w':=by
 cases F with
 |none=>simp[Y4,hc]at hb
 |some p=>
  obtain⟨sx,l⟩:=p;rcases h with h|h
  ·simp[Y4,hc,h.1,h.2]at hb
  ·exact h
theorem Keep.symm{w w':World}(h:Keep F w w'):Keep F w' w:=by
 unfold Keep at*;split
 ·simp only at h;exact h.symm
 ·simp only at h;exact fun k hk=>(h k hk).symm
theorem B5g{i:Nat}{j:Oper}(m:ops[i]? =some j)(hc:I4 P j.op= .eff)(hb:Y4 P (F.map (·.1)) j.op=true){K:Act→World→Prop}{a:Act}{w:World}(h:sOp P F ops i K a w):
  sOp P F ops i (fun a' w'=>Keep F w w'∧K a' w') a w:=by
 unfold sOp at*;simp only[m]at*;split
 ·rename_i hw;rw[if_pos hw]at h;unfold opSem at*;rw[hc]at h⊢;exact h.mono fun v w' hn=>⟨hn.1,A68 hb hc hn.1,hn.2⟩
 ·rename_i hw;rw[if_neg hw]at h;exact⟨Keep.refl F w,h⟩
theorem B5h{i:Nat}{j:Oper}(m:ops[i]? =some j){K:Act→World→Prop}{a:Act}{w:World}(h:sOp P F ops i K a w): ∃v w',K (a.put j.dst v) w':=by
 unfold sOp at h;simp only[m]at h;split at h
 ·unfold opSem at h;split at h
  ·obtain⟨v,_,h⟩:=h;exact⟨v,w,h⟩
  ·obtain⟨v,_,h⟩:=h;exact⟨v,w,h⟩
  ·unfold effPost at h;split at h<;>try exact h.elim
   ·exact⟨_,_,h.2⟩
   ·exact⟨_,_,h.2⟩
   ·obtain⟨e,w',p,⟨v,_,_,o⟩,_⟩:=h [];exact⟨v,w',o⟩
 ·exact⟨_,_,h⟩
theorem A4J{K:Act→World→Prop}{i:Nat}{q:Oper}{W:Nat→Prop}(J:ops[i]? =some q)(b1:I4 P q.op= .eff)(A: ∀(j:Nat) (o:Oper) cs b,ops[j]? =some o→o.op≠ .select cs b)
  (hW:Closed md ops i W):
  ∀(fuel:Nat) (m:Array Bool) (a:Act) (w:World),(∀j,W j→m.getD j false=false)→
   (∀j oj,ops[j]? =some oj→¬W j→m.getD j true=false→oj.apart ops q=true∧q.apart ops oj=true∧(A55 oj.op=true∨(I4 P oj.op= .load∧Y4 P (F.map (·.1)) q.op=true)))→
   i∈Region.ready md ops m→sOp P F ops i (wpAnyS P F md ops K fuel (m.setIfInBounds i true)) a w→wpAnyS P F md ops K (fuel+1) m a w:=by
 intro fuel
 induction fuel with
 |zero=>
  intro m a w V r hr H;refine⟨fun h=>(by rw[h]at hr;cases hr),fun j X=>?_⟩;by_cases p:j=i
  ·subst p;exact H
  ·exfalso;have h1: ∀a w,wpAnyS P F md ops K 0 (m.setIfInBounds i true) a w→False:=fun a w h=>by
    have:=ready_mono X p;rw[h.1]at this;cases this
   have z:=A54 h1 H;unfold sOp at z;simp only[J]at z;split at z
   ·unfold opSem at z;split at z
    ·obtain⟨_,_,h⟩:=z;exact h
    ·obtain⟨_,_,h⟩:=z;exact h
    ·unfold effPost at z;split at z<;>try exact z.elim
     all_goals first
      |exact z.2
      |(obtain⟨e,w',fr,⟨v,_,_,hf⟩,_⟩:=z [];exact hf)
   ·exact z
 |succ fuel ih=>
  intro m a w V r hr H;refine⟨fun h=>(by rw[h]at hr;cases hr),fun j X=>?_⟩;by_cases p:j=i
  ·subst p;exact H
  ·obtain⟨M,oj,x,_⟩:=mem_ready.1 X;have a0:=hW.not_ready V X p;obtain⟨a6,O,hm⟩:=r j oj x a0 M;have T: ∀k,W k→(m.setIfInBounds j true).getD k false=false:=fun k hk=>by
    rw[Q3 (fun e:j=k=>a0 (by rw[e];exact hk))];exact V k hk
   have y: ∀k ok,ops[k]? =some ok→¬W k→(m.setIfInBounds j true).getD k true=false→ok.apart ops q=true∧q.apart ops ok=true∧(A55 ok.op=true∨(I4 P ok.op= .load∧Y4 P (F.map (·.1)) q.op=true)):=fun k ok hk b2 hu=>by
    refine r k ok hk b2 ?_;by_cases a9:j=k
    ·subst a9;exact M
    ·rw[getD_set_ne true a9]at hu;exact hu
   rcases hm with hm|⟨b3,hb⟩
   case inr=>
    have Y:=B5g J b1 hb H;have G:I4 P oj.op≠ .eff:=by rw[b3];exact fun e=>by cases e
    have h1:=(Oper.apart_spec O).1;have U: ∀v w' u,Keep F w w'→YieldS P F ops oj u (a.put q.dst v) w'→YieldS P F ops oj u a w:=fun v w' u hk hy=>
     hy.of_same (execOp_put oj (fun cs b=>A j oj cs b x) a q.dst v h1).symm (wanted_put oj a q.dst v h1).symm (fun _=>hk.symm)
    obtain⟨v,w',hk,b4⟩:=B5h J Y;obtain⟨u,hy,_⟩:=A4I x G (b4.2 j (ready_mono X p));have b0:=U v w' u hk hy;refine b0.sOp x ?_;refine ih (m.setIfInBounds j true) _ w T y (ready_mono hr (Ne.symm p)) ?_;refine A3P J a6 (fun cs b=>A i q cs b J) u ?_
    have step: ∀v' I,(Keep F w I∧wpAnyS P F md ops K (fuel+1) (m.setIfInBounds i true) (a.put q.dst v') I)→
      wpAnyS P F md ops K fuel ((m.setIfInBounds j true).setIfInBounds i true) ((a.put q.dst v').put oj.dst u) I:=fun v' I ⟨b6,b7⟩=>by
     obtain⟨u',b8,h4⟩:=A4I x G (b7.2 j (ready_mono X p));have hu:u'=u:=(U v' I u' b6 b8).uniq b0;subst hu;rw[Array.setIfInBounds_comm _ _ p];exact h4
    unfold sOp at Y⊢;simp only[J]at Y⊢;split
    ·rename_i hw;rw[if_pos hw]at Y;exact Y.mono fun v w' h=>step v w' h
    ·rename_i hw;rw[if_neg hw]at Y;exact step _ _ Y
   rw[A95 x hm];refine ih (m.setIfInBounds j true) _ w T y (ready_mono hr (Ne.symm p)) ?_;refine A3P J a6 (fun cs b=>A i q cs b J) _ ?_
   have step: ∀v w',wpAnyS P F md ops K (fuel+1) (m.setIfInBounds i true) (a.put q.dst v) w'→
     wpAnyS P F md ops K fuel ((m.setIfInBounds j true).setIfInBounds i true) ((a.put q.dst v).put oj.dst (A7V ops oj a)) w':=fun v w' h=>by
    have:=h.2 j (ready_mono X p);rw[A95 x hm,B4E (Oper.apart_spec O).1]at this;rw[Array.setIfInBounds_comm _ _ p];exact this
   unfold sOp at H⊢;simp only[J]at H⊢;split
   ·rename_i hw;rw[if_pos hw]at H;exact H.mono fun v w' h=>step v w' h
   ·rename_i hw;rw[if_neg hw]at H;exact step _ _ H
def m0(o:Oper)(k:Nat)(W:List Bool):Bool:=o.after.any fun e=>Region.binds .any e&&(e.on==k||(k<e.on&&W.getD (e.on-(k+1)) false))
def X8(k:Nat):List Oper→List Bool→List Bool
 | [],W=>W
 |o::l,W=>X8 k l (W++[m0 o k W])
def A56(P:Program)(rc:Option Bool)(ops:Array Oper)(oi oj:Oper):Bool:=match I4 P oi.op with
 | .pure=>oi.apart ops oj
 | .load=>oi.apart ops oj&&Y4 P rc oj.op
 | .eff=>oj.apart ops oi&&oi.apart ops oj&&(A55 oj.op||(I4 P oj.op== .load&&Y4 P rc oi.op))
def A4K(P:Program)(rc:Option Bool)(ops:Array Oper)(oi:Oper):List Oper→List Bool→Bool
 | [],_=>true
 |o::l,b::W=>(b||A56 P rc ops oi o)&&A4K P rc ops oi l W
 |_::_,[]=>false
def A8Z(P:Program)(rc:Option Bool)(ops:Array Oper):Nat→List Oper→Bool
 |_,[]=>true
 |k,o::l=>(o.after.all fun e=> !Region.binds .any e||e.on<k)&&A4K P rc ops o l (X8 k l [])&&A8Z P rc ops (k+1) l
def B2y(ops:Array Oper):Bool:=ops.all fun o=>match o.op with| .select .. =>false|_=>true
def A4L(P:Program)(rc:Option Bool)(ops:Array Oper):Bool:=B2y ops&&A8Z P rc ops 0 ops.toList
theorem A1I(k:Nat): ∀(l:List Oper) (W:List Bool) (i:Nat),i<W.length→(X8 k l W)[i]? =W[i]?
 | [],W,i,_=>rfl
 |o::l,W,i,h=>by
  rw[X8,A1I k l _ i (by simp;omega),D2B h]
theorem A3Q(k:Nat): ∀(l:List Oper) (W:List Bool) (i:Nat) (o:Oper),l[i]? =some o→
  (X8 k l W)[W.length+i]? =some (m0 o k ((X8 k l W).take (W.length+i)))
 | [],_,_,_,h=>by simp at h
 |o'::l,W,0,o,h=>by
  simp at h;subst h;have e:=A1I k l (W++[m0 o' k W]) W.length (by simp);simp only[X8,Nat.add_zero];rw[e];have t:(X8 k l (W++[m0 o' k W])).take W.length=W:=by
   apply List.ext_getElem?;intro i;rw[List.getElem?_take];by_cases j:i<W.length
   ·rw[if_pos j,A1I k l _ i (by simp;omega),D2B j]
   ·rw[if_neg j,List.getElem?_eq_none (by omega)]
  rw[t];simp
 |o'::l,W,i+1,o,h=>by
  have:=A3Q k l (W++[m0 o' k W]) i o (by simpa using h);simp only[D1N,D1M,D1O]at this;simp only[X8];have e:W.length+(i+1)=W.length+(0+1)+i:=by omega
  rw[e];exact this
theorem okRest_at{m:Option Bool}{p:Oper}: ∀(l:List Oper) (W:List Bool),A4K P m ops p l W=true→∀(i:Nat) (o:Oper),l[i]? =some o→W[i]? =some true∨A56 P m ops p o=true
 | [],_,_,i,o,h=>by simp at h
 |o'::l,[],h,_,_,_=>by simp[A4K]at h
 |o'::l,b::W,h,0,o,j=>by
  simp[A4K]at h j;subst j;rcases h.1 with h|h
  ·exact .inl (by simp[h])
  ·exact .inr h
 |o'::l,b::W,h,i+1,o,j=>by
  simp[A4K]at h j;simpa using okRest_at l W h.2 i o j
theorem A57(h:B2y ops=true): ∀(j:Nat) (o:Oper) cs b,ops[j]? =some o→o.op≠ .select cs b:=by
 intro j o cs b ho he;unfold B2y at h;rw[Array.all_eq_true_iff_forall_mem]at h;have:=h o (Array.mem_of_getElem? ho);rw[he]at this;simp at this
theorem B1o(hs:B2y ops=true){K:Act→World→Prop}: ∀(l:List Oper) (k:Nat) (i:Array Bool),(∀j,l[j]? =ops[k+j]?)→(∀j,i.getD j false=decide (j<k))→(i.size=ops.size)→
  A8Z P (F.map (·.1)) ops k l=true→∀a w,wpA P F ops K l a w→wpAnyS P F .any ops K l.length i a w:=by
 intro l
 induction l with
 |nil=>
  intro k i hl G hsz _ a w h;refine⟨?_,h⟩;cases hr:Region.ready .any ops i with
  |nil=>rfl
  |cons x xs=>
   exfalso;have hx:x∈Region.ready .any ops i:=by rw[hr];simp
   obtain⟨z,o,ho,_⟩:=mem_ready.1 hx;have:=G x;rw[F8 z]at this;have hk:k≤x:=by simpa using this
   have:=hl (x-k);rw[show k+(x-k)=x from by omega,ho]at this;simp at this
 |cons o l ih=>
  intro k i hl G hsz Y a w h;have z:ops[k]? =some o:=by simpa using(hl 0).symm
  have b4:k<ops.size:=(D1g.1 z).1;simp only[A8Z,D1U]at Y;obtain⟨⟨he,hr⟩,I⟩:=Y;have J: ∀j,l[j]? =ops[k+1+j]? :=fun j=>by have:=hl (j+1);simpa [Nat.add_assoc,Nat.add_comm 1 j]using this
  have q:k∈Region.ready .any ops i:=by
   rw[mem_ready];refine⟨?_,o,z,fun e M hb=>?_⟩
   ·have:=G k;simp at this;have O:k<i.size:=by omega
    simp[O]at this⊢;exact this
   ·rw[G];rw[Array.all_eq_true_iff_forall_mem]at he;have:=he e M;simp[hb]at this;simpa using this
  have b1: ∀j,(i.setIfInBounds k true).getD j false=decide (j<k+1):=fun j=>by
   by_cases T:k=j
   ·subst T;have O:k<i.size:=by omega
    simp[O]
   ·rw[getD_set_ne false T,G];apply D1u.2;omega
  have a0:(i.setIfInBounds k true).size=ops.size:=by simpa using hsz
  let W:Nat→Prop:=fun j=>j=k∨(k<j∧(X8 k l [])[j-(k+1)]? =some true)
  have a6:Closed .any ops k W:=by
   refine⟨.inl rfl,fun j oj U a9 m=>?_⟩;rcases U with U|⟨b2,U⟩
   ·exact absurd U a9
   ·have V:l[j-(k+1)]? =some oj:=by rw[J];rw[show k+1+(j-(k+1))=j from by omega];exact m
    have X:=A3Q k l [] (j-(k+1)) oj V;simp only[D1O,Nat.zero_add]at X;rw[U]at X;have hw:m0 oj k ((X8 k l []).take (j-(k+1)))=true:=by simpa using X.symm
    unfold m0 at hw;obtain⟨e,M,p⟩:=Array.any_eq_true'.1 hw;simp only[D1U,D2e,beq_iff_eq,D1d]at p;refine⟨e,M,p.1,?_⟩;rcases p.2 with h1|⟨h1,y⟩
    ·exact .inl h1
    ·refine .inr ⟨h1,?_⟩;rw[List.getD_eq_getElem?_getD]at y;cases ht:((X8 k l []).take (j-(k+1)))[e.on-(k+1)]? with
     |none=>rw[ht]at y;simp at y
     |some b=>
      rw[ht]at y;simp at y;subst y;rw[List.getElem?_take]at ht;split at ht
      ·exact ht
      ·cases ht
  have b0: ∀j,W j→i.getD j false=false:=fun j U=>by
   rw[G];rcases U with rfl|⟨b2,_⟩<;>simp;omega
  have u: ∀j oj,ops[j]? =some oj→¬W j→i.getD j true=false→A56 P (F.map (·.1)) ops o oj=true:=fun j oj m r hu=>by
   have h1:=G j;rw[F8 hu]at h1;have T:k≤j:=by simpa using h1
   have a9:j≠k:=fun e=>r (.inl e);have V:l[j-(k+1)]? =some oj:=by rw[J];rw[show k+1+(j-(k+1))=j from by omega];exact m
   rcases okRest_at l _ hr _ _ V with y|y
   ·exact absurd (.inr ⟨by omega,y⟩) r
   ·exact y
  have hst:sOp P F ops k (wpA P F ops K l) a w:=by unfold sOp;simp only[z];exact h
  have A:sOp P F ops k (wpAnyS P F .any ops K l.length (i.setIfInBounds k true)) a w:=
   A54 (fun a' w' h'=>ih (k+1) _ J b1 a0 I a' w' h') hst
  by_cases hc:I4 P o.op= .eff
  ·refine A4J z hc (A57 hs) a6 l.length i a w b0 (fun j oj m r hu=>?_) q A;have:=u j oj m r hu;unfold A56 at this;rw[hc]at this;simp only[D1U,D2e,beq_iff_eq]at this;exact⟨this.1.1,this.1.2,this.2⟩
  ·obtain⟨v,hy,hK⟩:=A4I z hc A;refine A8Y z (A57 hs) a6 l.length i a w b0 (fun j oj m r hu=>?_) q hy hK;have:=u j oj m r hu;unfold A56 at this;split at this
   ·rename_i hp;exact⟨this,fun hl=>by rw[hp]at hl;cases hl⟩
   ·simp only[D1U]at this;exact⟨this.1,fun _=>this.2⟩
   ·rename_i b3;exact absurd b3 hc
theorem A3R{id:Nat}{K:Act→World→Prop}{Q:Exit→Act→World→Prop}{a:Act}{w:World}(hm:P.follows .mixedOrders=true)(i:A4L P (F.map (·.1)) ops=true)
  (m: ∀a w,K a w→Q .normal a w) (h:wpA P F ops K ops.toList a {w with drawn:=w.drawn+1}):(Code.region id ops true).wp P Q a w:=by
 simp only[A4L,D1U]at i;refine wp_region_any hm (wpAnyS.wpAny (F:=F) m _ _ _ _ ?_);have:=B1o i.1 ops.toList 0 (Array.replicate ops.size false) (by simp) (by intro j;simp[Array.getElem?_replicate];split<;>rfl) (by simp) i.2 a _ h;simpa using this
end
end Go.Av
