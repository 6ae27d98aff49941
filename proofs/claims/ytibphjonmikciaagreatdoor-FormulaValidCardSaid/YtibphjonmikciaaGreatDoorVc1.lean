/- Part of the proof: what the last text builds on. No condition stands here. -/
import Derived.WalkKit
import Derived.Below
import Derived.MapKept
import Derived.Laws.StructEq
import Derived.Laws.IdiomCopy
import Derived.Laws.Append
import Derived.Laws.RangeString
import Derived.ChangeKeysEq
import Derived.Maps.RangeRun
import Derived.IntWalk
import Derived.Laws.BytesString
import Derived.Orders
import Derived.Scope
import Derived.Test.YtibphjonmikciaaGreatDoorProg
import Derived.KernelRfl
import Derived.Lib.AtoiAll
import Derived.Lib.ItoaNum
import Derived.Lib.Strings
import Derived.Lib.IndexMore
import Derived.Lib.ConvBytes
import Derived.Lib.LaidTab
import Derived.Sort.Grow
import Derived.Deep.Draws
import Derived.Lib.AppendZeros
import Derived.Shelf.RegionOpenPlain
import Derived.Lib.Walk
import Derived.Shelf.SlIter.Nil
import Derived.Shelf.SortM.Plain
import Derived.Shelf.SortM.SortNone
import Derived.Ground.GgzProg
import Derived.Ground.SlgmProg
import Derived.StringKeys
import Derived.Shelf.Strings.Builder1
import Derived.Shelf.Small.Utf8
import Derived.Shelf.Small.Bits
import Derived.Shelf.Small.Strs
import Derived.Shelf.Small.Wraps
import Derived.Shelf.Strconv.Atoi
import Derived.Shelf.Strconv.Itoa0
import Derived.Shelf.Strconv.Itoa1
import Derived.Shelf.LaysM
import Derived.Shelf.Strconv.Itoa2
import Derived.Shelf.Strconv.Itoa3
import Derived.Shelf.Strconv.AtoiErrFast
import Derived.Shelf.Strconv.ParseIntEmpty
import Derived.Shelf.Strconv.AtoiFail
import Derived.Shelf.Strconv.Clone
import Derived.Shelf.Strconv.SyntaxError
import Derived.Shelf.LaysC
import Derived.Shelf.Strconv.ToError
import Derived.Shelf.Strconv.Lower
import Derived.Shelf.Strconv.ParseUint10
import Derived.Shelf.Strconv.ParseUint10Empty
import Derived.Shelf.Strconv.ParseUint10Any
import Derived.Shelf.Strconv.ParseInt10
import Derived.Shelf.Strconv.AtoiLong
import Derived.Shelf.Strconv.AtoiInnerAll
import Derived.Shelf.Strconv.RangeError
import Derived.Shelf.Strconv.ToErrorRange
import Derived.Shelf.Strconv.AtoiAll
import Derived.Shelf.Strconv.ErrVarAll
import Derived.Shelf.Strings.Search1
import Derived.Shelf.Strings.Search2
import Derived.Shelf.Strings.Cut
import Derived.Shelf.Strings.Shaped
import Derived.Shelf.Strings.Prefix
import Derived.Shelf.Strings.Runes
import Derived.Shelf.Strings.IndexAny
import Derived.Shelf.Strings.AsciiSet
import Derived.Shelf.Strings.IndexAnyAll
import Derived.Lib.Bytealg
import Derived.Lib.Atoi
import Derived.Laws.RangeAny
import Derived.Shelf.SlMaps.Clone
import Derived.Laws.Cover3
import Derived.Lib.BufferMore
import Derived.ChangeArms
import Derived.ChangeMaps5
import Derived.DataReads
import Derived.Carry
import Derived.WideShapes
import GoSem.ClaimJoined
import Derived.Handed
import Derived.ProofKit
import Derived.LaidMore
import Derived.Test.YtibphjonmikciaaGreatDoorRows
import Derived.Lay
import Derived.Stop.Joined
import Derived.Test.YtibphjonmikciaaGreatDoorCards
import Derived.Test.YtibphjonmikciaaGreatDoorTie
set_option linter.unusedSimpArgs false
set_option linter.unusedVariables false
theorem D0w:type_of% @And.intro:=@And.intro
theorem D0x:type_of% @of_decide_eq_true:=@of_decide_eq_true
theorem D0y:type_of% @decide_eq_true:=@decide_eq_true
theorem D0z:type_of% @decide_eq_false:=@decide_eq_false
theorem D00:type_of% @Array.getD_eq_getD_getElem?:=@Array.getD_eq_getD_getElem?
theorem D01:type_of% @List.length_cons:=@List.length_cons
theorem D02:type_of% @List.length_append:=@List.length_append
theorem D03:type_of% @List.length_nil:=@List.length_nil
theorem D04:type_of% @List.length_singleton:=@List.length_singleton
theorem D05:type_of% @Option.map_eq_some_iff:=@Option.map_eq_some_iff
theorem D06:type_of% @List.getElem?_eq_some_iff:=@List.getElem?_eq_some_iff
theorem D07:type_of% @List.mem_cons_self:=@List.mem_cons_self
theorem D08:type_of% @Option.bind_eq_some_iff:=@Option.bind_eq_some_iff
theorem D09:type_of% @Bool.and_eq_true:=@Bool.and_eq_true
theorem D1A:type_of% @List.getElem_mem:=@List.getElem_mem
theorem D1B:type_of% @List.take_of_length_le:=@List.take_of_length_le
theorem D1C:type_of% @Bool.false_eq_true:=@Bool.false_eq_true
theorem D1D:type_of% @List.getElem?_eq_getElem:=@List.getElem?_eq_getElem
theorem D1E:type_of% @List.mem_cons_of_mem:=@List.mem_cons_of_mem
theorem D1F:type_of% @List.take_succ_eq_append_getElem:=@List.take_succ_eq_append_getElem
theorem D1G:type_of% @Nat.le_refl:=@Nat.le_refl
theorem D1H:type_of% @Nat.zero_le:=@Nat.zero_le
theorem D1I:type_of% @decide_eq_true_eq:=@decide_eq_true_eq
theorem D1J:type_of% @List.getElem?_map:=@List.getElem?_map
theorem D1K:type_of% @List.eq_nil_of_length_eq_zero:=@List.eq_nil_of_length_eq_zero
theorem D1L:type_of% @Array.getElem?_eq_some_iff:=@Array.getElem?_eq_some_iff
theorem D1M:type_of% @List.mem_append:=@List.mem_append
theorem D1N:type_of% @List.mem_singleton:=@List.mem_singleton
theorem D1O:type_of% @List.mem_cons:=@List.mem_cons
theorem D1P:type_of% @List.not_mem_nil:=@List.not_mem_nil
theorem D1Q:type_of% @Option.bind_some:=@Option.bind_some
theorem D1R:type_of% @List.drop_eq_getElem_cons:=@List.drop_eq_getElem_cons
theorem D1S:type_of% @List.getElem?_cons_succ:=@List.getElem?_cons_succ
theorem D1T:type_of% @List.mem_of_getElem?:=@List.mem_of_getElem?
theorem D1U:type_of% @List.length_drop:=@List.length_drop
theorem D1V:type_of% @List.getD_cons_zero:=@List.getD_cons_zero
theorem D1W:type_of% @List.getD_cons_succ:=@List.getD_cons_succ
theorem D1X:type_of% @List.all_eq_true:=@List.all_eq_true
theorem D1Y:type_of% @Option.some.injEq:=@Option.some.injEq
theorem D1Z:type_of% @decide_eq_decide:=@decide_eq_decide
theorem D1a:type_of% @Array.getElem?_setIfInBounds_ne:=@Array.getElem?_setIfInBounds_ne
theorem D1b:type_of% @Array.mem_toList_iff:=@Array.mem_toList_iff
theorem D1c:type_of% @Nat.mul_le_mul_right:=@Nat.mul_le_mul_right
theorem D1e:type_of% @List.length_take:=@List.length_take
theorem D1f:type_of% @List.length_map:=@List.length_map
theorem D1h:type_of% @List.take_append_drop:=@List.take_append_drop
theorem D1k:type_of% @List.append_assoc:=@List.append_assoc
theorem D1l:type_of% @List.append_nil:=@List.append_nil
theorem D1m:type_of% @List.getElem_map:=@List.getElem_map
theorem D1n:type_of% @Array.length_toList:=@Array.length_toList
theorem D1o:type_of% @List.foldl_append:=@List.foldl_append
theorem D1q:type_of% @List.getElem?_append_left:=@List.getElem?_append_left
theorem D1r:type_of% @List.getElem?_append_right:=@List.getElem?_append_right
theorem D1s:type_of% @Nat.lt_of_lt_of_le:=@Nat.lt_of_lt_of_le
theorem D1t:type_of% @List.length_set:=@List.length_set
theorem D1u:type_of% @List.mem_map:=@List.mem_map
theorem D1w:type_of% @List.map_append:=@List.map_append
theorem D1x:type_of% @Nat.mod_eq_of_lt:=@Nat.mod_eq_of_lt
theorem D1z:type_of% @List.all_cons:=@List.all_cons
theorem D10:type_of% @List.all_append:=@List.all_append
theorem D11:type_of% @List.any_cons:=@List.any_cons
theorem D12:type_of% @Nat.le_trans:=@Nat.le_trans
theorem D16:type_of% @List.drop_drop:=@List.drop_drop
theorem D17:type_of% @List.cons_append:=@List.cons_append
theorem D18:type_of% @List.nil_append:=@List.nil_append
theorem D2C:type_of% @Nat.not_lt_zero:=@Nat.not_lt_zero
theorem D2D:type_of% @List.map_cons:=@List.map_cons
theorem D2F:type_of% @List.getElem_cons_zero:=@List.getElem_cons_zero
theorem D2H:type_of% @List.ext_getElem:=@List.ext_getElem
theorem D2I:type_of% @Bool.not_eq_true:=@Bool.not_eq_true
theorem D2J:type_of% @Bool.or_eq_true:=@Bool.or_eq_true
theorem D2K:type_of% @Bool.not_true:=@Bool.not_true
theorem D2L:type_of% @Bool.not_false:=@Bool.not_false
namespace Go.Av
inductive D where
 |undef
 |bool (b:Bool)
 |int (k:IntKind) (n:Int)
 |str (s:ByteArray)
 |nilp
 |box (b off:Nat)
 |el (b sz i off:Nat)
 |ro (cs:List D)
 |nilsl
 |sl (sz:Nat) (es:List (List D))
 |vec (b sz lo n:Nat)
 |agg (cs:List D)
 |tuple (ds:List D)
 |fn (f:Fn) (first captured:List D)
 |nilfn
 |iface (t:TypeId) (d:D)
 |nilif
 |glob (g:Nat)
 |map (b:Nat)
 |nilmap
 |fm (kvs:List (D×D))
 deriving Inhabited
def D.one:D→Bool
 | .undef| .agg _| .tuple _=>false
 |_=>true
def D.cells:D→List D
 | .agg cs=>cs
 |d=>[d]
inductive Obj where
 |box (cs:List D) (T:Option TypeId:=none)
 |vec (sz:Nat) (es:List (List D))
 |ro (cs:List D)
 |iter (s:ByteArray) (pos:Nat)
 |map (kvs:List (D×D))
 |rng (kvs:List (D×D)) (seen:List Nat)
 |buf (T:TypeId) (bs:List UInt8)
def D.key:D→Bool
 | .int _ _| .str _| .bool _=>true
 |_=>false
def D.keyA:D→Bool
 | .agg cs=>cs.all D.key
 |d=>d.key
abbrev Heap:=Nat→Option Obj
def Heap.set(H:Heap)(b:Nat)(o:Obj):Heap:=fun k=>if k=b then some o else H k
def Heap.del(H:Heap)(b:Nat):Heap:=fun k=>if k=b then none else H k
def Heap.Le(H H':Heap):Prop:=∀b o,H b=some o→H' b=some o
theorem E3(H H':Heap):H.Le H'= ∀b o,H b=some o→H' b=some o:=rfl
theorem D1(H:Heap)(b:Nat)(o:Obj)(k:Nat):H.set b o k=if k=b then some o else H k:=rfl
theorem D2(H:Heap)(b:Nat)(k:Nat):H.del b k=if k=b then none else H k:=rfl
def Obj.rw:Obj→Bool
 | .ro _=>false
 |_=>true
def Heap.held(H:Heap)(k:Nat):Bool:=match H k with
 |some o=>o.rw
 |none=>false
theorem I1{H:Heap}{k:Nat}(h:H k=none):H.held k=false:=by unfold Heap.held;rw[h]
theorem J5{H:Heap}{k:Nat}{o:Obj}(h:H k=some o):H.held k=o.rw:=by unfold Heap.held;rw[h]
theorem A0Z{H H':Heap}{k:Nat}(h:H' k=H k):H'.held k=H.held k:=by unfold Heap.held;rw[h]
inductive R(w:World)(H:Heap):D→Value→Prop
 |undef (v:Value):R w H .undef v
 |bool (b:Bool):R w H (.bool b) (.bool b)
 |int (k:IntKind) (n:Int):R w H (.int k n) (.int k n)
 |str (s:ByteArray):R w H (.str s) (.string s)
 |nilp:R w H .nilp (.pointer none)
 |box (b off:Nat):R w H (.box b off) (.pointer (some ⟨b,off,none⟩))
 |el (b sz i off:Nat):R w H (.el b sz i off) (.pointer (some ⟨b,i*sz+off,none⟩))
 |ro (cs:List D) (b off:Nat) (u:Nat→Value) (hb:b<w.heap.size) (hn:H.held b=false)
   (hc: ∀j,j<cs.length→w.cell? ⟨b,off+j,none⟩=some (u j)) (h1: ∀(j:Nat) (d:D),cs[j]? =some d→d.one=true)
   (hr: ∀(j:Nat) (d:D),cs[j]? =some d→R w H d (u j)):R w H (.ro cs) (.pointer (some ⟨b,off,none⟩))
 |nilsl:R w H .nilsl (.slice none 0 0)
 |sl0 (sz:Nat) (a:Option Addr) (cap:Nat):R w H (.sl sz []) (.slice a 0 cap)
 |sl (sz:Nat) (es:List (List D)) (b off cap:Nat) (u:Nat→Nat→Value) (hb:b<w.heap.size) (hn:H.held b=false)
   (hlen: ∀(i:Nat) (e:List D),es[i]? =some e→e.length=sz) (hcap:es.length≤cap)
   (hc: ∀i j,i<es.length→j<sz→w.cell? ⟨b,off+i*sz+j,none⟩=some (u i j))
   (h1: ∀(i:Nat) (e:List D) (j:Nat) (d:D),es[i]? =some e→e[j]? =some d→d.one=true)
   (hr: ∀(i:Nat) (e:List D) (j:Nat) (d:D),es[i]? =some e→e[j]? =some d→R w H d (u i j)):R w H (.sl sz es) (.slice (some ⟨b,off,none⟩) es.length cap)
 |vec (b sz lo n cap:Nat) (T:TypeId) (m:Nat) (hb:w.shape? b=some (T,m)) (hs:m=(lo+cap)*sz) (hsz:0<sz) (hn:n≤cap):
   R w H (.vec b sz lo n) (.slice (some ⟨b,lo*sz,none⟩) n cap)
 |vec0 (b sz lo off:Nat):R w H (.vec b sz lo 0) (.slice (some ⟨b,off,none⟩) 0 0)
 |agg (cs:List D) (vs:Array Value) (hl:cs.length=vs.size) (h1: ∀(i:Nat) (d:D),cs[i]? =some d→d.one=true) (hr: ∀(i:Nat) (d:D),cs[i]? =some d→R w H d (vs.getD i Go.undef)):
   R w H (.agg cs) (.agg vs)
 |tuple (ds:List D) (vs:Array Value) (hl:ds.length=vs.size) (hr: ∀(i:Nat) (d:D),ds[i]? =some d→R w H d (vs.getD i Go.undef)):R w H (.tuple ds) (.tuple vs)
 |fn (f:Fn) (ds es:List D) (vs us:Array Value) (hl:ds.length=vs.size) (hm:es.length=us.size)
   (hr: ∀(i:Nat) (d:D),ds[i]? =some d→R w H d (vs.getD i Go.undef)) (hq: ∀(i:Nat) (d:D),es[i]? =some d→R w H d (us.getD i Go.undef)):R w H (.fn f ds es) (.func f vs us)
 |nilfn:R w H .nilfn .nilFunc
 |iface (t:TypeId) (d:D) (v:Value) (hr:R w H d v):R w H (.iface t d) (.iface t v)
 |nilif:R w H .nilif .nilIface
 |glob (g:Nat):R w H (.glob g) (.pointer (some ⟨g,0,none⟩))
 |map (b:Nat):R w H (.map b) (.map (some b))
 |nilmap:R w H .nilmap (.map none)
 |fm (kvs:List (D×D)) (b:Nat) (es:Array MapEntry) (ck:Nat) (hb:w.heap[b]? =some (.map es ck)) (hn:H.held b=false) (hst:MapKept.Stamped es ck) (hl:es.size=kvs.length)
   (hk: ∀(i:Nat) (p:D×D),kvs[i]? =some p→p.1.keyA=true) (hr: ∀(i:Nat) (p:D×D),kvs[i]? =some p→R w H p.1 (es.getD i default).key)
   (hv: ∀(i:Nat) (p:D×D),kvs[i]? =some p→R w H p.2 (es.getD i default).val):R w H (.fm kvs) (.map (some b))
structure Ext(H:Heap)(w w':World):Prop where
 os:w'.os=w.os
 tape:w'.tape=w.tape
 output:w'.output=w.output
 size:w.heap.size≤w'.heap.size
 block: ∀k,k<w.heap.size→H.held k=false→w'.heap[k]? =w.heap[k]?
 shape: ∀k,k<w.heap.size→w'.shape? k=w.shape? k
def From(w:World)(H H':Heap):Prop:=∀k,k<w.heap.size→H.held k=false→H'.held k=false
theorem B5V{w:World}{b:Nat}{x:TypeId×Nat}(h:w.shape? b=some x):b<w.heap.size:=by
 unfold World.shape? at h;by_cases hb:b<w.heap.size
 ·exact hb
 ·simp[Array.getElem?_eq_none (Nat.le_of_not_lt hb)]at h
theorem Ext.cell{H:Heap}{w w':World}(h:Ext H w w'){b off:Nat}(hb:b<w.heap.size)(hn:H.held b=false):
  w'.cell? ⟨b,off,none⟩=w.cell? ⟨b,off,none⟩:=World.cell?_of_block (w:=w) (h.block b hb hn)
theorem U2{w:World}{b:Nat}{o:Go.Obj}(h:w.heap[b]? =some o):b<w.heap.size:=(D1L.1 h).1
theorem R.mono{w w':World}{H H':Heap}{d:D}{v:Value}(h:R w H d v)(he:Ext H w w')(o:From w H H'):R w' H' d v:=by
 induction h with
 |ro cs b off u hb hn hc h1 _ e=>exact .ro cs b off u (D1s hb he.size) (o b hb hn) (fun j p=>by rw[he.cell hb hn];exact hc j p) h1 e
 |sl sz es b off cap u hb hn hlen hcap hc h1 _ e=>
  exact .sl sz es b off cap u (D1s hb he.size) (o b hb hn) hlen hcap (fun i j q p=>by rw[he.cell hb hn];exact hc i j q p) h1 e
 |vec b sz lo n cap T m hb hs hsz hn=>exact .vec b sz lo n cap T m (by rw[he.shape b (B5V hb)];exact hb) hs hsz hn
 |vec0 b sz lo off=>exact .vec0 b sz lo off
 |agg cs vs hl h1 _ e=>exact .agg cs vs hl h1 e
 |tuple ds vs hl _ e=>exact .tuple ds vs hl e
 |fn f ds es vs us hl hm _ _ e g=>exact .fn f ds es vs us hl hm e g
 |iface t d v _ e=>exact .iface t d v e
 |fm kvs b es ck hb hn hst hl hk _ _ e g=>exact .fm kvs b es ck (by rw[he.block b (U2 hb) hn];exact hb) (o b (U2 hb) hn) hst hl hk e g
 |_=>constructor
theorem Ext.refl(H:Heap)(w:World):Ext H w w:=⟨rfl,rfl,rfl,D1G _,fun _ _ _=>rfl,fun _ _=>rfl⟩
theorem D2U:type_of% @Ext.refl:=@Ext.refl
theorem From.refl(w:World)(H:Heap):From w H H:=fun _ _ h=>h
theorem D2T:type_of% @From.refl:=@From.refl
theorem Ext.trans{H H':Heap}{a b c:World}(h:Ext H a b)(e:From a H H')(k:Ext H' b c):Ext H a c:=
  ⟨k.os.trans h.os,k.tape.trans h.tape,k.output.trans h.output,D12 h.size k.size,
   fun i d hn=>(k.block i (D1s d h.size) (e i d hn)).trans (h.block i d hn),
   fun i d=>(k.shape i (D1s d h.size)).trans (h.shape i d)⟩
theorem From.trans{H H' d:Heap}{a b:World}(h:From a H H')(hs:a.heap.size≤b.heap.size)(k:From b H' d):From a H d:=
 fun i e hn=>k i (D1s e hs) (h i e hn)
theorem Heap.Le.refl(H:Heap):H.Le H:=fun _ _ h=>h
theorem D2N:type_of% @Heap.Le.refl:=@Heap.Le.refl
theorem Heap.Le.trans{A B C:Heap}(h:A.Le B)(k:B.Le C):A.Le C:=fun b o x=>k b o (h b o x)
theorem Heap.Le.held{A B:Heap}(h:A.Le B){b:Nat}(hb:B.held b=false):A.held b=false:=by
 cases d:A b with
 |none=>exact I1 d
 |some o=>rw[J5 d,←J5 (h b o d)];exact hb
theorem Heap.Le.none{A B:Heap}(h:A.Le B){b:Nat}(hb:B b=none):A b=none:=by
 cases d:A b with
 |none=>rfl
 |some o=>rw[h b o d]at hb;cases hb
theorem R.less{w:World}{H H':Heap}{d:D}{v:Value}(h:R w H d v)(hl:H'.Le H):R w H' d v:=
 h.mono (D2U H w) fun _ _ hn=>hl.held hn
def ObjOk(w:World)(H:Heap)(b:Nat):Obj→Prop
 | .box cs Z=>∃c T lo hi,w.heap[b]? =some (.cells c T (lo,hi))∧(∀j,j<c.size→¬(lo≤j∧j<hi))∧c.size=cs.length∧(∀(j:Nat) (d:D),cs[j]? =some d→d.one=true∧R w H d (c.getD j Go.undef))∧∀t,Z=some t→T=t
 | .vec sz es=>∃c T lo hi,w.heap[b]? =some (.cells c T (lo,hi))∧(∀j,j<c.size→¬(lo≤j∧j<hi))∧0<sz∧es.length*sz≤c.size∧(∀(i:Nat) (e:List D),es[i]? =some e→e.length=sz)∧
   ∀(i:Nat) (e:List D) (j:Nat) (d:D),es[i]? =some e→e[j]? =some d→d.one=true∧R w H d (c.getD (i*sz+j) Go.undef)
 | .ro cs=>∃c T fz,w.heap[b]? =some (.cells c T fz)∧c.size=cs.length∧∀(j:Nat) (d:D),cs[j]? =some d→d.one=true∧R w H d (c.getD j Go.undef)
 | .iter s pos=>w.heap[b]? =some (.stringIter s pos)
 | .buf T bs=>∃c,w.heap[b]? =some (.cells c T (0,0))∧bs.length≤c.size∧c.size≤9223372036854775807∧c.toList.take bs.length=bs.map fun x=>Value.int .u8 x.toNat
 | .rng kvs seen=>∃m es ck sn,w.heap[b]? =some (.mapIter (some m) ck sn ck)∧w.heap[m]? =some (.map es ck)∧H.held m=false∧MapKept.Stamped es ck∧es.size=kvs.length∧
   (∀(i:Nat) (p:D×D),kvs[i]? =some p→p.1.keyA=true∧R w H p.1 (es.getD i default).key∧R w H p.2 (es.getD i default).val)∧(∀i∈seen,i<kvs.length)∧sn.toList=seen.map fun i=>(es.getD i default).born
 | .map kvs=>∃es clock,w.heap[b]? =some (.map es clock)∧MapKept.Stamped es clock∧es.size=kvs.length∧
   ∀(i:Nat) (p:D×D),kvs[i]? =some p→p.1.keyA=true∧R w H p.1 (es.getD i default).key∧R w H p.2 (es.getD i default).val
def Sat(H:Heap)(w:World):Prop:=∀b o,H b=some o→ObjOk w H b o
theorem ObjOk.mono{w w':World}{H H':Heap}{b:Nat}{o:Obj}(h:ObjOk w H b o)(he:Ext H w w')(u:From w H H')(hb:w'.heap[b]? =w.heap[b]?):ObjOk w' H' b o:=by
 cases o with
 |box cs Z=>obtain⟨c,T,lo,z,h1,A,g,q,r⟩:=h;exact⟨c,T,lo,z,hb.trans h1,A,g,fun j d x=>⟨(q j d x).1,(q j d x).2.mono he u⟩,r⟩
 |vec sz es=>obtain⟨c,T,lo,z,h1,A,g,q,r,h5⟩:=h;exact⟨c,T,lo,z,hb.trans h1,A,g,q,r,fun i e j d y x=>⟨(h5 i e j d y x).1,(h5 i e j d y x).2.mono he u⟩⟩
 |ro cs=>obtain⟨c,T,G,h1,g,q⟩:=h;exact⟨c,T,G,hb.trans h1,g,fun j d x=>⟨(q j d x).1,(q j d x).2.mono he u⟩⟩
 |iter s pos=>exact hb.trans h
 |buf T bs=>obtain⟨c,h1,g⟩:=h;exact⟨c,hb.trans h1,g⟩
 |rng kvs seen=>obtain⟨m,es,ck,I,h1,g,q,r,h5,C,J,L⟩:=h;exact⟨m,es,ck,I,hb.trans h1,by rw[he.block m (U2 g) q];exact g,u m (U2 g) q,r,h5,fun i p hp=>⟨(C i p hp).1,(C i p hp).2.1.mono he u,(C i p hp).2.2.mono he u⟩,J,L⟩
 |map kvs=>obtain⟨es,ck,h1,g,q,r⟩:=h;exact⟨es,ck,hb.trans h1,g,q,fun i p hp=>⟨(r i p hp).1,(r i p hp).2.1.mono he u,(r i p hp).2.2.mono he u⟩⟩
theorem Sat.less{w:World}{H H':Heap}(h:Sat H w)(hl:H'.Le H):Sat H' w:=
 fun b o hb=>(h b o (hl b o hb)).mono (D2U H w) (fun _ _ hn=>hl.held hn) rfl
theorem From.less{w:World}{H H' d:Heap}(h:From w H H')(hl:d.Le H'):From w H d:=fun k hk hn=>hl.held (h k hk hn)
theorem Sat.lt{w:World}{H:Heap}(h:Sat H w){b:Nat}{o:Obj}(hb:H b=some o):b<w.heap.size:=by
 have:=h b o hb;by_cases d:b<w.heap.size
 ·exact d
 ·have hn:=Array.getElem?_eq_none (Nat.le_of_not_lt d);cases o with
  |ro cs=>obtain⟨c,T,e,h1,_⟩:=this;rw[hn]at h1;cases h1
  |iter s pos=>rw[show w.heap[b]? =some (.stringIter s pos)from this]at hn;cases hn
  |buf T bs=>obtain⟨c,h1,_⟩:=this;rw[hn]at h1;cases h1
  |map kvs=>obtain⟨es,ck,h1,_⟩:=this;rw[hn]at h1;cases h1
  |rng kvs seen=>obtain⟨m,es,ck,g,h1,_⟩:=this;rw[hn]at h1;cases h1
  |_=>obtain⟨c,T,lo,i,h1,_⟩:=this;rw[hn]at h1;cases h1
theorem Sat.fresh{w:World}{H:Heap}(h:Sat H w){b:Nat}(hb:w.heap.size≤b):H b=none:=by
 cases ho:H b with
 |none=>rfl
 |some o=>exact absurd (h.lt ho) (by omega)
theorem Ext.alloc(H:Heap)(w:World)(o:Go.Obj):Ext H w (w.alloc o):=by
 refine⟨rfl,rfl,rfl,by simp,fun k hk _=>Go.RowKit.Below.heap_alloc _ _ _ hk,fun k hk=>?_⟩;unfold World.shape?;rw[Go.RowKit.Below.heap_alloc _ _ _ hk]
theorem Ext.drewN(H:Heap)(w:World)(n:Nat):Ext H w {w with drawn:=w.drawn+n}:=⟨rfl,rfl,rfl,D1G _,fun _ _ _=>rfl,fun _ _=>rfl⟩
inductive Cls where
 |pure|load|eff
 deriving DecidableEq
def J0(P:Program):Op→Cls
 | .move _| .assign _| .pick .. | .build .. | .nilCheck _| .binOp .. | .unOp .. | .fieldAddr .. | .field .. | .indexAddr .. | .index .. | .slice .. | .extract .. | .makeInterface .. | .makeFunc .. =>.pure
 | .convert s d _=>match P.underlying s,P.underlying d with
  |some (.int _),some (.int _)=>.pure
  |some .string,some .string=>.pure
  |some (.int _),some .string=>.pure
  |_,_=>.eff
 | .call c=>match c.callee with
  | .builtin .len=>match (c.argTypes[0]?).bind P.underlying with
   |some (.map ..)=>.eff
   |_=>.pure
  | .builtin .cap| .builtin .min| .builtin .max=>.pure
  |_=>.eff
 | .load .. =>.load
 |_=>.eff
def effPost(P:Program)(next:Value→World→Prop):Result Next→Prop
 | .ok (.value v) w'=>next v w'
 | .ok .skip w'=>next undef w'
 | .ok (.enter f args) w'=>Calls P f args w' fun e w''=>∃v,e= .returned v∧next v w''
 |_=>False
def Keep(F:Option (Bool×List Nat))(w w':World):Prop:=match F with
 |none=>w'=w
 |some (_,l)=>∀k∈l,w'.heap[k]? =w.heap[k]?
def A1O:Op→Bool
 | .store .. =>true
 |_=>false
def B5W(F:Option (Bool×List Nat))(o:Op)(w w':World):Prop:=match F with
 |none=>True
 |some (sx,l)=>(sx=false∧A1O o=true)∨∀k∈l,w'.heap[k]? =w.heap[k]?
theorem Keep.refl(F:Option (Bool×List Nat))(w:World):Keep F w w:=by
 unfold Keep;split
 ·rfl
 ·exact fun _ _=>rfl
theorem Keep.trans{F:Option (Bool×List Nat)}{a b c:World}(h:Keep F a b)(k:Keep F b c):Keep F a c:=by
 unfold Keep at*;split
 ·simp only at h k;rw[k,h]
 ·simp only at h k;exact fun i d=>(k i d).trans (h i d)
def opSem(P:Program)(F:Option (Bool×List Nat))(o:Oper)(a:Act)(w:World)(next:Value→World→Prop):Prop:=
 match J0 P o.op with
 | .pure=>∃v,(∀w',(execOp a.eval o).run P w'= .ok (.value v) w')∧next v w
 | .load=>∃v,(∀w',Keep F w w'→(execOp a.eval o).run P w'= .ok (.value v) w')∧next v w
 | .eff=>effPost P (fun v w'=>B5W F o.op w w'∧next v w') ((execOp a.eval o).run P w)
theorem effPost.mono{P:Program}{next d:Value→World→Prop}{r:Result Next}(h:effPost P next r)(hn: ∀v w,next v w→d v w):effPost P d r:=by
 unfold effPost at*;split at h<;>try exact h.elim
 ·exact hn _ _ h
 ·exact hn _ _ h
 ·exact h.mono fun e g ⟨v,he,hv⟩=>⟨v,he,hn _ _ hv⟩
theorem opSem.mono{P:Program}{F:Option (Bool×List Nat)}{o:Oper}{a:Act}{w:World}{next d:Value→World→Prop}(h:opSem P F o a w next)(hn: ∀v w,next v w→d v w):opSem P F o a w d:=by
 unfold opSem at*;split at h
 ·obtain⟨v,hr,hv⟩:=h;exact⟨v,hr,hn _ _ hv⟩
 ·obtain⟨v,hr,hv⟩:=h;exact⟨v,hr,hn _ _ hv⟩
 ·exact h.mono fun v w' e=>⟨e.1,hn _ _ e.2⟩
theorem opSem.wp{P:Program}{F:Option (Bool×List Nat)}{o:Oper}{a:Act}{w:World}{K:Act→World→Prop}{Q:Exit→Act→World→Prop}
  (h:opSem P F o a w fun v w'=>K (a.put o.dst v) w'):o.wp P a w K Q:=by
 unfold Oper.wp;unfold opSem at h;split at h
 ·obtain⟨v,hr,hv⟩:=h;rw[hr w];exact hv
 ·obtain⟨v,hr,hv⟩:=h;rw[hr w (Keep.refl F w)];exact hv
 ·unfold effPost at h;split at h<;>try exact h.elim
  ·rename_i hr;rw[hr];exact h.2
  ·rename_i hr;rw[hr];exact h.2
  ·rename_i hr;rw[hr];refine h.mono fun e d ⟨v,he,_,hv⟩=>?_;subst he;exact hv
def wpA(P:Program)(F:Option (Bool×List Nat))(ops:Array Oper)(K:Act→World→Prop):List Oper→Act→World→Prop
 | [],a,w=>K a w
 |o::l,a,w=>
  if Region.wanted o (yielded ops a.tmps)then opSem P F o a w fun v w'=>wpA P F ops K l (a.put o.dst v) w' else wpA P F ops K l (a.put o.dst undef) w
def wpI(P:Program)(F:Option (Bool×List Nat))(ops:Array Oper)(K:Act→World→Prop):List Nat→Act→World→Prop
 | [],a,w=>K a w
 |i::l,a,w=>match ops[i]? with
  |none=>wpI P F ops K l a w
  |some o=>if Region.wanted o (yielded ops a.tmps)then opSem P F o a w fun v w'=>wpI P F ops K l (a.put o.dst v) w' else wpI P F ops K l (a.put o.dst undef) w
theorem B39{P:Program}{F:Option (Bool×List Nat)}{ops:Array Oper}{K:Act→World→Prop}{Q:Exit→Act→World→Prop}(e: ∀a w,K a w→Q .normal a w):
  ∀(l:List Nat) (a:Act) (w:World),wpI P F ops K l a w→wpOps P ops Q l a w:=by
 intro l
 induction l with
 |nil=>exact fun a w h=>e a w h
 |cons i l d=>
  intro a w h;unfold wpI at h;unfold wpOps;split at h
  ·rename_i hn;simp only[hn];exact d _ _ h
  ·rename_i o ho;simp only[ho];split at h
   ·rename_i hw;rw[if_pos hw];exact .inl (opSem.wp (h.mono fun v w' hv=>d _ _ hv))
   ·rename_i hw;rw[if_neg hw];exact d _ _ h
theorem B83{P:Program}{F:Option (Bool×List Nat)}{ops:Array Oper}{K:Act→World→Prop}: ∀(l:List Oper) (k:Nat),(∀j,l[j]? =ops[k+j]?)→
  wpA P F ops K l=wpI P F ops K (List.range' k l.length):=by
 intro l
 induction l with
 |nil=>intro k _;funext a w;simp[wpA,wpI]
 |cons o l e=>
  intro k h;have g:ops[k]? =some o:=by simpa using(h 0).symm
  have d:=e (k+1) (fun j=>by have:=h (j+1);simpa [Nat.add_assoc,Nat.add_comm 1 j]using this)
  funext a w
  simp only[D01,List.range'_succ,wpA,wpI,g,d]
theorem B84{P:Program}{F:Option (Bool×List Nat)}{ops:Array Oper}{K:Act→World→Prop}:wpA P F ops K ops.toList=wpI P F ops K (List.range ops.size):=by
 rw[B83 ops.toList 0 (by simp),List.range_eq_range',D1n]
theorem z7{P:Program}{F:Option (Bool×List Nat)}{id:Nat}{ops:Array Oper}{K:Act→World→Prop}{Q:Exit→Act→World→Prop}{a:Act}{w:World}
  (d: ∀a w,K a w→Q .normal a w) (h:wpA P F ops K ops.toList a w):(Code.region id ops false).wp P Q a w:=by
 rw[B84]at h;exact wp_region (B39 d _ _ _ h)
inductive R7 where
 |bool|int|str|ptr|slice|iface|func|map|struct|other
 deriving DecidableEq
def C9(P:Program)(t:TypeId):R7:=match P.underlying t with
 |some .bool=>.bool|some (.int _)=>.int|some .string=>.str|some (.pointer _)=>.ptr|some (.slice _)=>.slice
 |some (.interface _)=>.iface|some (.func ..)=>.func|some (.map ..)=>.map|some (.struct _)=>.struct|_=>.other
def H6(P:Program)(t:TypeId):Option (Nat×Nat×Nat):=match P.underlying t with
 |some (.slice e)=>(P.info? e).map fun i=>(e,i.size,i.bytes)
 |_=>none
def B1e(P:Program)(t:TypeId):Option (Nat×Nat):=match P.underlying t with
 |some (.array n e)=>(P.info? e).map fun i=>(n,i.size)
 |_=>none
def F9(P:Program)(t:TypeId):Option (Bool×Nat):=match P.underlying t,P.info? t with
 |some (.struct _),some i=>some (true,i.size)
 |some (.array ..),some i=>some (true,i.size)
 |some _,some i=>some (false,i.size)
 |_,_=>none
def M1(P:Program)(t:TypeId):Option (List (Nat×Bool×Nat)):=match P.underlying t with
 |some (.struct fs)=>fs.toList.mapM fun f=>(F9 P f.type).map fun s=>(f.offset,s.1,s.2)
 |_=>none
def D.ofCell:Value→D
 | .bool b=>.bool b
 | .int k n=>.int k n
 | .string s=>.str s
 | .pointer none=>.nilp
 | .slice none 0 0=>.nilsl
 | .nilIface=>.nilif
 | .nilFunc=>.nilfn
 | .map none=>.nilmap
 |_=>.undef
def D.ofValue:Value→D
 | .agg vs=>if(vs.toList.map D.ofCell).all D.one then .agg (vs.toList.map D.ofCell)else .undef
 |v=>D.ofCell v
theorem A1w(w:World)(H:Heap)(v:Value):R w H (D.ofCell v) v:=by
 cases v with
 |pointer a=>cases a<;>constructor
 |map a=>cases a<;>constructor
 |slice a n c=>
  unfold D.ofCell;split<;>rename_i h<;>first|(cases h<;>constructor)|constructor
 |_=>constructor
theorem A2W(w:World)(H:Heap)(v:Value):R w H (D.ofValue v) v:=by
 unfold D.ofValue;split
 ·rename_i vs;split
  ·rename_i e;refine .agg _ _ (by simp) (fun i d g=>?_) (fun i d g=>?_)
   ·exact D1X.1 e d (D1T g)
   ·simp only[D1J,D05]at g;obtain⟨u,h,rfl⟩:=g;have:vs.getD i Go.undef=u:=by
     have j:vs[i]? =some u:=by simpa using h
     simp[j]
    rw[this];exact A1w w H u
  ·constructor
 ·exact A1w w H v
abbrev Env:=List (Nat×D)
def Env.get:Env→Nat→D
 | [],_=>.undef
 |(i,d)::E,j=>if i=j then d else Env.get E j
def Env.put(E:Env):Option Nat→D→Env
 |some i,d=>(i,d)::E
 |none,_=>E
def Env.ev(E:Env):Operand→D
 | .tmp t=>E.get t
 | .const v=>D.ofValue v
 | .global g=>.glob g
 | .func f=>.fn (.func f) [] []
def S3(s:ByteArray)(i:Int):Int:=((s.data.toList.getD i.toNat 0).toNat:Int)
def A3S(op:BinOp)(k:IntKind)(a b:Int):Option D:=match op with
 | .add=>some (.int k (k.wrap (a+b)))
 | .sub=>some (.int k (k.wrap (a-b)))
 | .mul=>some (.int k (k.wrap (a*b)))
 | .quo=>if b=0 then none else some (.int k (k.wrap (a.tdiv b)))
 | .rem=>if b=0 then none else some (.int k (a.tmod b))
 | .and=>some (.int k (k.wrap (BitVec.ofInt k.bits a&&&BitVec.ofInt k.bits b).toNat))
 | .or=>some (.int k (k.wrap (BitVec.ofInt k.bits a|||BitVec.ofInt k.bits b).toNat))
 | .xor=>some (.int k (k.wrap (BitVec.ofInt k.bits a ^^^ BitVec.ofInt k.bits b).toNat))
 | .andNot=>some (.int k (k.wrap (BitVec.ofInt k.bits a&&& ~~~ BitVec.ofInt k.bits b).toNat))
 | .eql=>some (.bool (a==b))
 | .neq=>some (.bool (a != b))
 | .lss=>some (.bool (decide (a<b)))
 | .leq=>some (.bool (decide (a≤b)))
 | .gtr=>some (.bool (decide (b<a)))
 | .geq=>some (.bool (decide (b≤a)))
 |_=>none
def C2j(op:BinOp)(x y:ByteArray):Option D:=match op with
 | .add=>if x.size+y.size≤9223372036854775807 then some (.str (x++y))else none
 | .eql=>some (.bool (x.data.toList==y.data.toList))
 | .neq=>some (.bool (!(x.data.toList==y.data.toList)))
 | .lss=>some (.bool (Op.bytesLess x.data.toList y.data.toList))
 | .leq=>some (.bool (Op.bytesLess x.data.toList y.data.toList||x.data.toList==y.data.toList))
 | .gtr=>some (.bool (!(Op.bytesLess x.data.toList y.data.toList||x.data.toList==y.data.toList)))
 | .geq=>some (.bool (!(Op.bytesLess x.data.toList y.data.toList)))
 |_=>none
def A9e(b:R7):D→Option Bool
 | .nilp=>if b= .ptr then some true else none
 | .box .. | .el .. | .ro _| .glob _=>if b= .ptr then some false else none
 | .nilsl=>if b= .slice then some true else none
 | .vec .. =>if b= .slice then some false else none
 | .sl _ (_::_)=>if b= .slice then some false else none
 | .nilfn=>if b= .func then some true else none
 | .fn .. =>if b= .func then some false else none
 | .nilif=>if b= .iface then some true else none
 | .iface .. =>if b= .iface then some false else none
 |_=>none
def A5r(b:R7)(x y:D):Option Bool:=match A9e b x,A9e b y with
 |some true,some c=>some c
 |some c,some true=>some c
 |_,_=>none
def L2:Operand→Bool
 | .const _=>true
 |_=>false
def L3(P:Program)(op:BinOp)(t:TypeId)(cst:Bool)(x y:D):Option D:=match op,x,y with
 | .shl,.int k a,.int _ b=>if b<0 then none else some (.int k (k.wrap (a*2 ^ (min b.toNat k.bits))))
 | .shr,.int k a,.int _ b=>if b<0 then none else some (.int k (a.fdiv (2 ^ (min b.toNat k.bits))))
 |op,.int k a,.int k' b=>if k=k' then A3S op k a b else none
 |op,.str a,.str b=>C2j op a b
 | .eql,.bool a,.bool b=>if C9 P t= .bool then some (.bool (a==b))else none
 | .neq,.bool a,.bool b=>if C9 P t= .bool then some (.bool (!(a==b)))else none
 | .eql,x,y=>if cst then(A5r (C9 P t) x y).map .bool else none
 | .neq,x,y=>if cst then(A5r (C9 P t) x y).map fun b=>.bool (!b)else none
 |_,_,_=>none
def A1P(P:Program)(t:TypeId):Option (List (Nat×R7)):=if P.eqGuardType P.depth t=false∧P.stoodInHeld t=false then match P.underlying t with
 |some (.struct fs)=>fs.toList.mapM fun f=>if f.name≠ "_" ∧F9 P f.type=some (false,1)∧(C9 P f.type= .bool∨C9 P f.type= .int∨C9 P f.type= .str)then some (f.offset,C9 P f.type)else none
 |_=>none else none
def V6:R7→D→D→Option Bool
 | .int,.int k a,.int k' b=>if k=k' then some (a==b)else none
 | .str,.str a,.str b=>some (a.data.toList==b.data.toList)
 | .bool,.bool a,.bool b=>some (a==b)
 |_,_,_=>none
def V7:List (Nat×R7)→List D→List D→Option Bool
 | [],_,_=>some true
 |(o,bs)::fs,xs,ys=>match xs[o]?,ys[o]? with
  |some x,some y=>(V6 bs x y).bind fun c=>(V7 fs xs ys).map (c&& ·)
  |_,_=>none
def A1x(P:Program)(op:BinOp)(t:TypeId)(cst:Bool)(x y:D):Option D:=match op,x,y with
 | .eql,.agg xs,.agg ys=>(A1P P t).bind fun fs=>(V7 fs xs ys).map .bool
 | .neq,.agg xs,.agg ys=>(A1P P t).bind fun fs=>(V7 fs xs ys).map fun b=>.bool (!b)
 |op,x,y=>L3 P op t cst x y
def z8(s:Bool×Nat)(cs:List D):Option D:=match s with
 |(true,n)=>if n≤cs.length then some (.agg (cs.take n))else none
 |(false,_)=>cs.head?
def P9:List D→Nat→List D→List D
 |cs,_,[]=>cs
 |cs,i,x::xs=>P9 (cs.set i x) (i+1) xs
def s8(place:Nat→Option (Nat×Nat))(cells:List D):List (Nat×D)→Option (List D)
 | []=>some cells
 |(i,d)::rest=>match place i with
  |none=>none
  |some (off,size)=>if d.cells.length=size∧off+size≤cells.length∧d.cells.all D.one=true then s8 place (P9 cells off d.cells) rest else none
def G2(P:Program)(t:TypeId):Option (List D):=((P.info? t).bind (·.zero)).bind fun v=>
 if(v.cells.toList.map D.ofCell).all D.one then some (v.cells.toList.map D.ofCell)else none
def boundsD(len:Nat)(lo hi:Option D):Option (Nat×Nat):=match lo,hi with
 |none,none=>some (0,len)
 |some (.int _ l),none=>if 0≤l∧l≤len then some (l.toNat,len)else none
 |none,some (.int _ h)=>if 0≤h∧h≤len then some (0,h.toNat)else none
 |some (.int _ l),some (.int _ h)=>if 0≤l∧l≤h∧h≤len then some (l.toNat,h.toNat)else none
 |_,_=>none
def U3(P:Program)(t:TypeId)(x:D)(lo hi:Option D):Option D:=match x with
 | .str s=>if C9 P t= .str then(boundsD s.size lo hi).map fun b=>.str (s.extract b.1 b.2)else none
 | .nilsl=>if(H6 P t).isSome then(boundsD 0 lo hi).map fun _=>.nilsl else none
 | .sl sz es=>if(H6 P t).map (·.2.1)=some sz then(boundsD es.length lo hi).map fun b=>.sl sz ((es.take b.2).drop b.1)else none
 | .vec b sz l n=>if(H6 P t).map (·.2.1)=some sz then(boundsD n lo hi).map fun p=>if p.1=0 then .vec b sz l p.2 else .vec b sz (l+p.1) (p.2-p.1)else none
 |_=>none
def A5s(P:Program)(t:TypeId):D→Option D
 | .str s=>if C9 P t= .str then some (.int .i64 s.size)else none
 | .nilsl=>if C9 P t= .slice then some (.int .i64 0)else none
 | .sl _ es=>if C9 P t= .slice then some (.int .i64 es.length)else none
 | .vec _ _ _ n=>if C9 P t= .slice then some (.int .i64 n)else none
 |_=>none
def Q8(P:Program)(t:TypeId)(x i:D):Option D:=match x,i with
 | .sl sz es,.int _ n=>if(H6 P t).map (·.2.1)=some sz∧0≤n∧n<es.length then some (.ro (es.getD n.toNat []))else none
 | .vec b sz l m,.int _ n=>if(H6 P t).map (·.2.1)=some sz∧0≤n∧n<m then some (.el b sz (l+n.toNat) 0)else none
 | .box b off,.int _ n=>match B1e P t with
  |some (len,sz)=>if 0≤n∧n<len then some (.box b (off+n.toNat*sz))else none
  |none=>none
 |_,_=>none
def Y8(P:Program)(t:TypeId)(x:D)(f:Nat):Option D:=match (M1 P t).bind (·[f]?)with
 |some (o,_,n)=>if n=0 then none else match x with
  | .box b off=>some (.box b (off+o))
  | .el b sz i off=>some (.el b sz i (off+o))
  | .ro cs=>some (.ro (cs.drop o))
  |_=>none
 |none=>none
def B1f(P:Program)(t:TypeId)(x:D)(f:Nat):Option D:=match (M1 P t).bind (·[f]?),x with
 |some (o,s),.agg cs=>z8 s (cs.drop o)
 |_,_=>none
def A5t(P:Program)(t:TypeId)(x i:D):Option D:=match x,i with
 | .str s,.int _ n=>if C9 P t= .str∧0≤n∧n<s.size then some (.int .u8 (S3 s n))else none
 |_,_=>none
def B2q:D→D→Option D
 | .int k a,.int _ b=>some (.int k (if b<a then b else a))
 |_,_=>none
def A7E:D→D→Option D
 | .int k a,.int _ b=>some (.int k (if a<b then b else a))
 |_,_=>none
def unD:UnOp→D→Option D
 | .neg,.int k n=>some (.int k (k.wrap (0-n)))
 | .xor,.int k n=>some (.int k (k.wrap (BitVec.ofInt k.bits (if k.signed then-1 else k.max) ^^^ BitVec.ofInt k.bits n).toNat))
 | .not,.bool b=>some (.bool (!b))
 |_,_=>none
def B2r(P:Program)(s t:TypeId):D→Option D
 | .int _ n=>match P.underlying s,P.underlying t with
  |some (.int _),some (.int k)=>some (.int k (k.wrap n))
  |some (.int _),some .string=>some (.str (Utf8.encode n))
  |_,_=>none
 | .str x=>if C9 P s= .str∧C9 P t= .str then some (.str x)else none
 |_=>none
def A7F(f:D→D→Option D):List D→Option D
 | []=>none
 |x::l=>l.foldlM f x
def L5(P:Program)(ev:Operand→D):Op→Option D
 | .move x| .assign x=>some (ev x)
 | .pick c a b=>match ev c with
  | .bool t=>some (if t then ev a else ev b)
  |_=>none
 | .build t parts=>match C9 P t with
  | .struct=>(G2 P t).bind fun z=>(M1 P t).bind fun fs=>(s8 (fun i=>(fs[i]?).map fun f=>(f.1,f.2.2)) z (parts.toList.map fun p=>(p.1,ev p.2))).map .agg
  | .other=>(G2 P t).bind fun z=>(B1e P t).bind fun s=>(s8 (fun i=>some (i*s.2,s.2)) z (parts.toList.map fun p=>(p.1,ev p.2))).map .agg
  |_=>none
 | .nilCheck x=>match ev x with
  | .box b off=>some (.box b off)
  | .el b sz i off=>some (.el b sz i off)
  | .ro cs=>some (.ro cs)
  | .fn (.func f) a b=>some (.fn (.func f) a b)
  |_=>none
 | .binOp op t x y _=>A1x P op t (L2 x||L2 y) (ev x) (ev y)
 | .unOp op _ x=>unD op (ev x)
 | .convert s t x=>B2r P s t (ev x)
 | .fieldAddr s x f=>Y8 P s (ev x) f
 | .field t x f=>B1f P t (ev x) f
 | .indexAddr t x i=>Q8 P t (ev x) (ev i)
 | .index t x i=>A5t P t (ev x) (ev i)
 | .slice t x lo hi none=>U3 P t (ev x) (lo.map ev) (hi.map ev)
 | .extract x i=>match ev x with
  | .tuple ds=>ds[i]?
  |_=>none
 | .makeInterface t x=>if C9 P t= .iface∨(P.underlying t).isNone then none else some (.iface t (ev x))
 | .makeFunc fn first captured=>some (.fn fn (first.toList.map ev) (captured.toList.map ev))
 | .call c=>match c.callee with
  | .builtin .len=>match c.argTypes[0]?,c.args[0]? with
   |some t,some x=>A5s P t (ev x)
   |_,_=>none
  | .builtin .cap=>match c.argTypes[0]?,(c.args[0]?).map ev with
   |some t,some .nilsl=>if C9 P t= .slice then some (.int .i64 0)else none
   |_,_=>none
  | .builtin .min=>A7F B2q (c.args.toList.map ev)
  | .builtin .max=>A7F A7E (c.args.toList.map ev)
  |_=>none
 |_=>none
section
variable {P:Program}
def Runs{α :Type}(P:Program)(s:Sem α)(v: α):Prop:=∀w,s.run P w= .ok v w
theorem Runs.pure{α :Type}(v: α):Runs P (Pure.pure v:Sem α) v:=fun _=>rfl
theorem D2V:type_of% @Runs.pure:=@Runs.pure
theorem Runs.bind{α β :Type}{s:Sem α}{f: α →Sem β}{v: α}{u: β}(h:Runs P s v)(k:Runs P (f v) u):Runs P (s >>=f) u:=fun w=>by
 rw[Sem.run_bind,h w];exact k w
theorem C0{t:TypeId}{d:TypeDesc}(h:P.underlying t=some d):Runs P (underlying t) d:=fun w=>run_underlying h w
theorem N9{t:TypeId}{i:TypeInfo}(h:P.info? t=some i):Runs P (typeInfo t) i:=fun w=>by
 unfold typeInfo;rw[Sem.run_bind];simp[program,Sem.run,Result.andThen,h]
theorem H8{t:TypeId}{i:TypeInfo}(h:P.info? t=some i):Runs P (sizeOf t) i.size:=(N9 h).bind (.pure _)
theorem A0A{t:TypeId}{b:Bool}{n:Nat}(h:F9 P t=some (b,n)):Runs P (isAgg t) b∧Runs P (sizeOf t) n:=by
 unfold F9 at h;split at h
 ·rename_i e g;cases h;exact⟨(C0 e).bind (.pure _),H8 g⟩
 ·rename_i e g;cases h;exact⟨(C0 e).bind (.pure _),H8 g⟩
 ·rename_i d i h1 j e g;cases h;refine⟨(C0 e).bind ?_,H8 g⟩;cases d<;>first|exact .pure _|exact absurd rfl (h1 _)|exact absurd rfl (j _ _)
 ·cases h
theorem A4D{t:TypeId}{z:List D}(h:G2 P t=some z): ∃v,Runs P (zeroValue t) v∧z=v.cells.toList.map D.ofCell∧z.all D.one=true:=by
 unfold G2 at h;obtain⟨v,hv,h⟩:=D08.1 h;obtain⟨i,e,g⟩:=D08.1 hv;split at h
 ·rename_i d;cases h;refine⟨v,?_,rfl,d⟩;unfold zeroValue;refine(N9 e).bind ?_;rw[g];exact .pure _
 ·cases h
section
variable {w:World} {H:Heap} {v:Value}
theorem R.bool_inv{b:Bool}(h:R w H (.bool b) v):v= .bool b:=by cases h;rfl
theorem R.int_inv{k:IntKind}{n:Int}(h:R w H (.int k n) v):v= .int k n:=by cases h;rfl
theorem R.str_inv{s:ByteArray}(h:R w H (.str s) v):v= .string s:=by cases h;rfl
theorem R.box_inv{b off:Nat}(h:R w H (.box b off) v):v= .pointer (some ⟨b,off,none⟩):=by cases h;rfl
theorem R.el_inv{b sz i off:Nat}(h:R w H (.el b sz i off) v):v= .pointer (some ⟨b,i*sz+off,none⟩):=by cases h;rfl
theorem R.ro_inv{cs:List D}(h:R w H (.ro cs) v): ∃b off,v= .pointer (some ⟨b,off,none⟩):=by cases h;exact⟨_,_,rfl⟩
theorem R.agg_inv{cs:List D}(h:R w H (.agg cs) v): ∃vs,v= .agg vs∧cs.length=vs.size∧(∀(i:Nat) d,cs[i]? =some d→d.one=true)∧∀(i:Nat) d,cs[i]? =some d→R w H d (vs.getD i Go.undef):=by
 cases h;exact⟨_,rfl,by assumption,by assumption,by assumption⟩
theorem R.tuple_inv{cs:List D}(h:R w H (.tuple cs) v): ∃vs,v= .tuple vs∧cs.length=vs.size∧∀(i:Nat) d,cs[i]? =some d→R w H d (vs.getD i Go.undef):=by
 cases h;exact⟨_,rfl,by assumption,by assumption⟩
theorem R.oneCell{d:D}(h:R w H d v)(h1:d.one=true):v.oneCell'=true:=by cases h<;>first|rfl|(simp[D.one]at h1)
theorem R.cells{d:D}(h:R w H d v)(h1:d.cells.all D.one=true):d.cells.length=v.cells.size∧∀(i:Nat) c,d.cells[i]? =some c→R w H c (v.cells.getD i Go.undef):=by
 cases d with
 |agg cs=>
  obtain⟨vs,rfl,hl,_,hr⟩:=h.agg_inv;exact⟨hl,hr⟩
 |_=>
  have e:=h.oneCell (by simpa [D.cells]using h1);have hc:v.cells= #[v]:=by cases v<;>first|rfl|(simp[Value.oneCell']at e)
  rw[hc];refine⟨by simp[D.cells],fun i c hc=>?_⟩;simp only[D.cells]at hc;cases i with
  |zero=>simp at hc;subst hc;simpa using h
  |succ i=>simp at hc
end
theorem A5u{s:Sem Value}{v:Value}(h:Runs P s v):Runs P (do pure (Next.value (←s))) (Next.value v):=h.bind (.pure _)
theorem B4A{op:BinOp}{k:IntKind}{a b:Int}{d:D}(h:A3S op k a b=some d)(h1:op≠ .shl)(e:op≠ .shr)(t:TypeId):
  ∃v,Runs P (binOp op t (.int k a) (.int k b)) v∧∀w H,R w H d v:=by
 have key: ∀{d':D} {v:Value},some d'=some d→Runs P (binOp op t (.int k a) (.int k b)) v→(∀w H,R w H d' v)→∃v,Runs P (binOp op t (.int k a) (.int k b)) v∧∀w H,R w H d v:=
  fun he hr g=>by cases he;exact⟨_,hr,g⟩
 cases op<;>simp only[A3S]at h
 case shl=>exact absurd rfl h1
 case shr=>exact absurd rfl e
 case add=>exact key (v:=.int k (k.wrap (a+b))) h (fun w=>by simp[binOp,Op.intArith]) fun _ _=>.int _ _
 case sub=>exact key (v:=.int k (k.wrap (a-b))) h (fun w=>by simp[binOp,Op.intArith]) fun _ _=>.int _ _
 case mul=>exact key (v:=.int k (k.wrap (a*b))) h (fun w=>by simp[binOp,Op.intArith]) fun _ _=>.int _ _
 case quo=>split at h;(· cases h);rename_i hb;exact key (v:=.int k (k.wrap (a.tdiv b))) h (fun w=>by simp[binOp,Op.intDiv,hb]) fun _ _=>.int _ _
 case rem=>split at h;(· cases h);rename_i hb;exact key (v:=.int k (a.tmod b)) h (fun w=>by simp[binOp,Op.intDiv,hb]) fun _ _=>.int _ _
 case and=>exact key h (fun w=>by simp only[binOp,Op.intBits,ne_eq,not_true_eq_false,if_false];rfl) fun _ _=>.int _ _
 case or=>exact key h (fun w=>by simp only[binOp,Op.intBits,ne_eq,not_true_eq_false,if_false];rfl) fun _ _=>.int _ _
 case xor=>exact key h (fun w=>by simp only[binOp,Op.intBits,ne_eq,not_true_eq_false,if_false];rfl) fun _ _=>.int _ _
 case andNot=>exact key h (fun w=>by simp only[binOp,Op.intBits,ne_eq,not_true_eq_false,if_false];rfl) fun _ _=>.int _ _
 case eql=>exact key (v:=.bool (a==b)) h (fun w=>by simp[binOp,Op.intCmp]) fun _ _=>.bool _
 case neq=>exact key (v:=.bool (a != b)) h (fun w=>by simp[binOp,Op.intCmp]) fun _ _=>.bool _
 case lss=>exact key (v:=.bool (decide (a<b))) h (fun w=>by simp[binOp,Op.intCmp]) fun _ _=>.bool _
 case leq=>exact key (v:=.bool (decide (a≤b))) h (fun w=>by simp[binOp,Op.intCmp]) fun _ _=>.bool _
 case gtr=>exact key (v:=.bool (decide (b<a))) h (fun w=>by simp[binOp,Op.intCmp]) fun _ _=>.bool _
 case geq=>exact key (v:=.bool (decide (b≤a))) h (fun w=>by simp[binOp,Op.intCmp]) fun _ _=>.bool _
 all_goals cases h
theorem B4B{op:BinOp}{x y:ByteArray}{d:D}(h:C2j op x y=some d)(t:TypeId):
    ∃v,Runs P (binOp op t (.string x) (.string y)) v∧∀w H,R w H d v:=by
  cases op<;>simp only[C2j]at h<;>first
    | (split at h
       · rename_i hs
         cases h;refine⟨.string (x++y),fun w=>?_,fun _ _=>.str _⟩
         have: ¬(((x.size+y.size:Nat):Int) > IntKind.i64.max):=by
           have hm:IntKind.i64.max=9223372036854775807:=by decide
           rw[hm];omega
         simp only[binOp,Op.stringOp,if_neg this];rfl
       · cases h)
    |(cases h;refine⟨_,fun w=>?_,fun _ _=>.bool _⟩;simp only[binOp,Op.stringOp,ByteArray.toList_eq];rfl)
    |cases h
end
section
variable {P:Program}
theorem A7G{t:TypeId}(h:C9 P t= .bool):P.underlying t=some .bool:=by unfold C9 at h;split at h<;>first|assumption|cases h
theorem V8{t:TypeId}(h:C9 P t= .str):P.underlying t=some .string:=by unfold C9 at h;split at h<;>first|assumption|cases h
theorem B5X{t:TypeId}(h:C9 P t= .ptr): ∃e,P.underlying t=some (.pointer e):=by unfold C9 at h;split at h<;>first|exact⟨_,by assumption⟩|cases h
theorem Y9{t:TypeId}(h:C9 P t= .slice): ∃e,P.underlying t=some (.slice e):=by unfold C9 at h;split at h<;>first|exact⟨_,by assumption⟩|cases h
theorem B1g{t:TypeId}(h:C9 P t= .iface): ∃e,P.underlying t=some (.interface e):=by unfold C9 at h;split at h<;>first|exact⟨_,by assumption⟩|cases h
theorem B4C{t:TypeId}(h:C9 P t= .func): ∃a b c,P.underlying t=some (.func a b c):=by unfold C9 at h;split at h<;>first|exact⟨_,_,_,by assumption⟩|cases h
theorem A9f{t:TypeId}(h:C9 P t= .struct): ∃e,P.underlying t=some (.struct e):=by unfold C9 at h;split at h<;>first|exact⟨_,by assumption⟩|cases h
theorem V9{t:TypeId}{x:Nat×Nat×Nat}(h:H6 P t=some x):P.underlying t=some (.slice x.1)∧∃i,P.info? x.1=some i∧i.size=x.2.1∧i.bytes=x.2.2:=by
 unfold H6 at h;split at h
 ·rename_i e d;obtain⟨i,g,rfl⟩:=D05.1 h;exact⟨d,i,g,rfl,rfl⟩
 ·cases h
def IsNil(b:R7)(c:Bool)(v:Value):Prop:=match b,c with
 | .ptr,true=>v= .pointer none
 | .ptr,false=>∃a,v= .pointer (some a)
 | .slice,true=>v= .slice none 0 0
 | .slice,false=>∃a n k,v= .slice (some a) n k
 | .func,true=>v= .nilFunc
 | .func,false=>∃f a b,v= .func f a b
 | .iface,true=>v= .nilIface
 | .iface,false=>∃t u,v= .iface t u
 |_,_=>False
theorem j8{b:R7}{d:D}{c:Bool}(h:A9e b d=some c){w:World}{H:Heap}{v:Value}(hr:R w H d v):IsNil b c v:=by
  by_cases g: ∃sz e es,d= .sl sz (e::es)
  · obtain⟨sz,e,es,rfl⟩:=g
    simp only[A9e]at h;split at h
    · rename_i hb;subst hb;cases h;cases hr;exact⟨_,_,_,rfl⟩
    · cases h
  cases d
  case sl sz es=>
    cases es with
    |nil=>cases h
    |cons e es=>exact absurd ⟨_,_,_,rfl⟩ g
  all_goals simp only[A9e]at h
  all_goals first
    |cases h
    | (split at h
       · rename_i hb;subst hb;cases h;cases hr<;>first|rfl|exact⟨_,rfl⟩|exact⟨_,_,rfl⟩|exact⟨_,_,_,rfl⟩
       · cases h)
theorem W0{t:TypeId}{x y:Value}{c:Bool}(hx:IsNil (C9 P t) true x)(g:IsNil (C9 P t) c y):Runs P (Op.equal t x y) c∧Runs P (Op.equal t y x) c:=by
 have h:Op.maxDepth=9999+1:=rfl;cases hb:C9 P t<;>rw[hb]at hx g<;>first|(exfalso;simp only[IsNil]at hx;done)|skip
 case ptr=>
  obtain⟨e,d⟩:=B5X hb;cases c
  ·obtain⟨a,rfl⟩:=g;simp only[IsNil]at hx;subst hx;unfold Op.equal;rw[h];exact⟨(C0 d).bind (.pure _),(C0 d).bind (.pure _)⟩
  ·simp only[IsNil]at hx g;subst hx;subst g;unfold Op.equal;rw[h];exact⟨(C0 d).bind (.pure _),(C0 d).bind (.pure _)⟩
 case slice=>
  obtain⟨e,d⟩:=Y9 hb;cases c
  ·obtain⟨a,n,k,rfl⟩:=g;simp only[IsNil]at hx;subst hx;unfold Op.equal;rw[h];exact⟨(C0 d).bind (.pure _),(C0 d).bind (.pure _)⟩
  ·simp only[IsNil]at hx g;subst hx;subst g;unfold Op.equal;rw[h];exact⟨(C0 d).bind (.pure _),(C0 d).bind (.pure _)⟩
 case func=>
  obtain⟨_,_,_,d⟩:=B4C hb;cases c
  ·obtain⟨a,n,k,rfl⟩:=g;simp only[IsNil]at hx;subst hx;unfold Op.equal;rw[h];exact⟨(C0 d).bind (.pure _),(C0 d).bind (.pure _)⟩
  ·simp only[IsNil]at hx g;subst hx;subst g;unfold Op.equal;rw[h];exact⟨(C0 d).bind (.pure _),(C0 d).bind (.pure _)⟩
 case iface=>
  obtain⟨e,d⟩:=B1g hb;cases c
  ·obtain⟨a,k,rfl⟩:=g;simp only[IsNil]at hx;subst hx;unfold Op.equal;rw[h];exact⟨(C0 d).bind (.pure _),(C0 d).bind (.pure _)⟩
  ·simp only[IsNil]at hx g;subst hx;subst g;unfold Op.equal;rw[h];exact⟨(C0 d).bind (.pure _),(C0 d).bind (.pure _)⟩
theorem J6{op:BinOp}{t:TypeId}{x y:Operand}{a b:Value}(h:(∀vs us,¬(a= .agg vs∧b= .agg us))∧(a= .nilIface→b= .nilIface→(L2 x||L2 y)=true)):
  Runs P (eqGuard op t x y a b) ():=by
 unfold eqGuard;cases op<;>first|exact D2V _|skip
 all_goals
  simp only[D2K,D1C,if_false];split
  ·have d:=h.2 rfl rfl;cases x<;>cases y<;>first|exact D2V _|(simp[L2]at d;done)
  ·exact absurd ⟨rfl,rfl⟩ (h.1 _ _)
  ·exact .pure _
theorem IsNil.no_agg{b:R7}{c:Bool}{v:Value}(h:IsNil b c v)(vs:Array Value):v≠ .agg vs:=by
 rintro rfl;cases b<;>cases c<;>simp[IsNil]at h
theorem A02{t:TypeId}{x y:Value}{b:Bool}(h:Runs P (Op.equal t x y) b)(hx: ∀k n,x≠ .int k n)(hs: ∀s,x≠ .string s)(d: ∀k n,x≠ .float k n)(hc: ∀k n m,x≠ .complex k n m):
  Runs P (binOp .eql t x y) (.bool b)∧Runs P (binOp .neq t x y) (.bool (!b)):=by
 constructor
 ·have e:binOp .eql t x y=(do pure (.bool (←Op.equal t x y))):=by
   cases x<;>first|rfl|exact absurd rfl (hx _ _)|exact absurd rfl (hs _)|exact absurd rfl (d _ _)|exact absurd rfl (hc _ _ _)
  rw[e];exact h.bind (.pure _)
 ·have e:binOp .neq t x y=(do pure (.bool (!(←Op.equal t x y)))):=by
   cases x<;>first|rfl|exact absurd rfl (hx _ _)|exact absurd rfl (hs _)|exact absurd rfl (d _ _)|exact absurd rfl (hc _ _ _)
  rw[e];exact h.bind (.pure _)
theorem IsNil.plain{b:R7}{c:Bool}{v:Value}(h:IsNil b c v):(∀k n,v≠ .int k n)∧(∀s,v≠ .string s)∧(∀k n,v≠ .float k n)∧∀k n m,v≠ .complex k n m:=by
 refine⟨?_,?_,?_,?_⟩<;>(intros;rintro rfl;cases b<;>cases c<;>simp[IsNil]at h)
theorem B4D{op:BinOp}{t:TypeId}{x y:Operand}{z A d:D}(h:L3 P op t (L2 x||L2 y) z A=some d){w:World}{H:Heap}{a b:Value}(hx:R w H z a)(o:R w H A b):
  ∃v,Runs P (do eqGuard op t x y a b;binOp op t a b) v∧R w H d v:=by
 have e: ∀{v:Value},Runs P (eqGuard op t x y a b) ()→Runs P (binOp op t a b) v→Runs P (do eqGuard op t x y a b;binOp op t a b) v:=fun h1 j=>h1.bind j;unfold L3 at h;split at h
 ·rename_i k m C n;have e1:=hx.int_inv;have e2:=o.int_inv;subst e1;subst e2;split at h
  ·cases h
  ·rename_i hb;cases h;refine⟨.int k (k.wrap (m*2 ^ (min n.toNat k.bits))),e (J6 ⟨by simp,by simp⟩) (fun w=>?_),.int _ _⟩;simp[binOp,Op.shift,hb]
 ·rename_i k m C n;have e1:=hx.int_inv;have e2:=o.int_inv;subst e1;subst e2;split at h
  ·cases h
  ·rename_i hb;cases h;refine⟨.int k (m.fdiv (2 ^ (min n.toNat k.bits))),e (J6 ⟨by simp,by simp⟩) (fun w=>?_),.int _ _⟩;simp[binOp,Op.shift,hb]
 ·rename_i k m C n h1 j;have e1:=hx.int_inv;have e2:=o.int_inv;subst e1;subst e2;split at h
  ·rename_i hk;subst hk;obtain⟨v,hv,r⟩:=B4A (P:=P) h h1 j t;exact⟨v,e (J6 ⟨by simp,by simp⟩) hv,r _ _⟩
  ·cases h
 ·have e1:=hx.str_inv;have e2:=o.str_inv;subst e1;subst e2;obtain⟨v,hv,r⟩:=B4B (P:=P) h t;exact⟨v,e (J6 ⟨by simp,by simp⟩) hv,r _ _⟩
 ·rename_i m n;have e1:=hx.bool_inv;have e2:=o.bool_inv;subst e1;subst e2;split at h
  ·rename_i hb;cases h;have u:Op.maxDepth=9999+1:=rfl;have he:Runs P (Op.equal t (.bool m) (.bool n)) (m==n):=by unfold Op.equal;rw[u];exact(C0 (A7G hb)).bind (.pure _)
   exact⟨_,e (J6 ⟨by simp,by simp⟩) (A02 he (by simp) (by simp) (by simp) (by simp)).1,.bool _⟩
  ·cases h
 ·rename_i m n;have e1:=hx.bool_inv;have e2:=o.bool_inv;subst e1;subst e2;split at h
  ·rename_i hb;cases h;have u:Op.maxDepth=9999+1:=rfl;have he:Runs P (Op.equal t (.bool m) (.bool n)) (m==n):=by unfold Op.equal;rw[u];exact(C0 (A7G hb)).bind (.pure _)
   exact⟨_,e (J6 ⟨by simp,by simp⟩) (A02 he (by simp) (by simp) (by simp) (by simp)).2,.bool _⟩
  ·cases h
 ·split at h
  ·rename_i hc;obtain⟨c,i,rfl⟩:=D05.1 h;unfold A5r at i;split at i
   ·rename_i h1 j;cases i;have g:=j8 h1 hx;have p:=j8 j o;exact⟨_,e (J6 ⟨fun vs us q=>g.no_agg vs q.1,fun _ _=>hc⟩) (A02 (W0 g p).1 g.plain.1 g.plain.2.1 g.plain.2.2.1 g.plain.2.2.2).1,.bool _⟩
   ·rename_i _ h1 j;cases i;have g:=j8 h1 hx;have p:=j8 j o;exact⟨_,e (J6 ⟨fun vs us q=>g.no_agg vs q.1,fun _ _=>hc⟩) (A02 (W0 p g).2 g.plain.1 g.plain.2.1 g.plain.2.2.1 g.plain.2.2.2).1,.bool _⟩
   ·cases i
  ·cases h
 ·split at h
  ·rename_i hc;obtain⟨c,i,rfl⟩:=D05.1 h;unfold A5r at i;split at i
   ·rename_i h1 j;cases i;have g:=j8 h1 hx;have p:=j8 j o;exact⟨_,e (J6 ⟨fun vs us q=>g.no_agg vs q.1,fun _ _=>hc⟩) (A02 (W0 g p).1 g.plain.1 g.plain.2.1 g.plain.2.2.1 g.plain.2.2.2).2,.bool _⟩
   ·rename_i _ h1 j;cases i;have g:=j8 h1 hx;have p:=j8 j o;exact⟨_,e (J6 ⟨fun vs us q=>g.no_agg vs q.1,fun _ _=>hc⟩) (A02 (W0 p g).2 g.plain.1 g.plain.2.1 g.plain.2.2.1 g.plain.2.2.2).2,.bool _⟩
   ·cases i
  ·cases h
 ·cases h
end
section
variable {P:Program}
theorem R8(b off n:Nat):(⟨b,off,none⟩:Addr).add n=⟨b,off+n,none⟩:=by unfold Addr.add;split<;>simp_all
def A8D(d:Option D)(v:Option Value):Prop:=match d,v with
 |none,none=>True
 |some d,some v=>∀k n,d= .int k n→v= .int k n
 |_,_=>False
theorem T9{k:IntKind}{n:Int}{y:Nat}{c:BoundsCode}(h:0≤n∧n≤y):Runs P (Instr.sliceBound (.int k n) y c) n.toNat:=by
 intro w;simp[Instr.sliceBound,asIntOf,h.1,h.2]
theorem j9{isS:Bool}{len cap:Nat}{lo i:Option D}{l h:Nat}(hb:boundsD len lo i=some (l,h)){d e:Option Value}(h1:A8D lo d)(g:A8D i e)(hc:len≤cap):
  Runs P (Instr.sliceBounds isS len cap d e none) (l,h,cap)∧l≤h∧h≤len:=by
 unfold boundsD at hb;split at hb
 ·cases hb;cases d<;>cases e<;>simp only[A8D]at h1 g;exact⟨fun w=>rfl,D1H _,D1G _⟩
 ·rename_i k n;split at hb
  ·rename_i hn;cases hb;cases d<;>cases e<;>simp only[A8D]at h1 g;rename_i v;obtain rfl:=h1 _ _ rfl;exact⟨(D2V cap).bind ((D2V len).bind ((T9 ⟨hn.1,hn.2⟩).bind (.pure _))),by omega,D1G _⟩
  ·cases hb
 ·rename_i k n;split at hb
  ·rename_i hn;cases hb;cases d<;>cases e<;>simp only[A8D]at h1 g;rename_i v;obtain rfl:=g _ _ rfl;exact⟨(D2V cap).bind ((T9 ⟨hn.1,by omega⟩).bind ((D2V 0).bind (.pure _))),D1H _,by omega⟩
  ·cases hb
 ·rename_i k n j m;split at hb
  ·rename_i hn;cases hb;cases d<;>cases e<;>simp only[A8D]at h1 g;rename_i v u;obtain rfl:=h1 _ _ rfl;obtain rfl:=g _ _ rfl;exact⟨(D2V cap).bind ((T9 ⟨by omega,by omega⟩).bind ((T9 ⟨hn.1,by omega⟩).bind (.pure _))),by omega,by omega⟩
  ·cases hb
 ·cases hb
theorem A9g{t:TypeId}{x d:D}{lo p:Option D}(h:U3 P t x lo p=some d){w:World}{H:Heap}{v:Value}(hx:R w H x v){y z:Option Value}(h1:A8D lo y)(C:A8D p z):
  ∃u,Runs P (Instr.sliceAt t v y z none) u∧R w H d u:=by
 unfold U3 at h;split at h
 ·rename_i s;obtain rfl:=hx.str_inv;split at h
  ·rename_i hb;obtain⟨⟨l,k⟩,g,rfl⟩:=D05.1 h;obtain⟨hr,hl,hk⟩:=j9 (P:=P) (isS:=false) (cap:=s.size) g h1 C (D1G _);refine⟨.string (s.extract l k),?_,.str _⟩;refine(C0 (V8 hb)).bind ?_;unfold Instr.slice;refine(C0 (V8 hb)).bind ?_;exact hr.bind (.pure _)
  ·cases h
 ·cases hx;split at h
  ·rename_i hb;obtain⟨⟨e,sz,G⟩,he⟩:=Option.isSome_iff_exists.1 hb;obtain⟨⟨l,k⟩,g,rfl⟩:=D05.1 h;obtain⟨hr,hl,hk⟩:=j9 (P:=P) (isS:=true) (cap:=0) g h1 C (D1G _);obtain⟨r,i,p,_,_⟩:=V9 he;have:l=0:=by omega
   have:k=0:=by omega
   subst l;subst k;refine⟨.slice none 0 0,?_,.nilsl⟩;refine(C0 r).bind ?_;unfold Instr.slice;refine(C0 r).bind ?_;refine hr.bind ?_;exact(H8 p).bind (.pure _)
  ·cases h
 ·rename_i sz es;split at h
  ·rename_i hb;obtain⟨⟨e,sz',G⟩,he,hsz⟩:=D05.1 hb;simp only at hsz;subst hsz;obtain⟨⟨l,k⟩,g,rfl⟩:=D05.1 h;obtain⟨r,i,p,q,_⟩:=V9 he;simp only at r p q;have Y: ∀(a:Option Addr) (cap:Nat),es.length≤cap→v= .slice a es.length cap→Runs P (Instr.sliceAt t v y z none) (.slice (if cap=l then a else a.map (·.add (l*sz'))) (k-l) (cap-l))∧l≤k∧k≤es.length:=by
    rintro a cap hcap rfl;obtain⟨hr,hl,hk⟩:=j9 (P:=P) (isS:=true) (cap:=cap) g h1 C hcap;refine⟨?_,hl,hk⟩;refine(C0 r).bind ?_;unfold Instr.slice;refine(C0 r).bind ?_;refine hr.bind ?_;rw[←q];exact(H8 p).bind (.pure _)
   have hlen:k≤es.length→((es.take k).drop l).length=k-l:=fun hk=>by simp[Nat.min_eq_left hk]
   cases hx with
   |sl0 sz a cap=>
    obtain⟨hr,hl,hk⟩:=Y a cap (D1H _) rfl;refine⟨_,hr,?_⟩;have e:(([]:List (List D)).take k).drop l= []:=by simp
    rw[e];have:k-l=0:=by simp at hk;omega
    rw[this];exact .sl0 _ _ _
   |sl sz es b off cap u M hn O hcap hc U V=>
    obtain⟨hr,hl,hk⟩:=Y _ cap hcap rfl;refine⟨_,hr,?_⟩;by_cases a0:l=k
    ·have e:(es.take k).drop l= []:=by rw[List.drop_eq_nil_iff];simp;omega
     rw[e,show k-l=0 by omega];exact .sl0 _ _ _
    ·have W: ¬cap=l:=by omega
     rw[if_neg W];simp only[Option.map_some,R8];rw[←hlen hk];have A: ∀i e,((es.take k).drop l)[i]? =some e→es[l+i]? =some e:=fun i e he=>by
      rw[List.getElem?_drop,List.getElem?_take]at he;split at he
      ·exact he
      ·cases he
     refine .sl sz' _ b (off+l*sz') (cap-l) (fun i j=>u (l+i) j) M hn (fun i e he=>O _ e (A i e he)) (by rw[hlen hk];omega) (fun i j p hj=>?_) (fun i e j d he X=>U _ e j d (A i e he) X) (fun i e j d he X=>V _ e j d (A i e he) X);rw[hlen hk]at p;have:=hc (l+i) j (by omega) hj;rw[←this,Nat.add_mul]
     congr 2;omega
  ·cases h
 ·rename_i b sz o n;split at h
  ·rename_i hb;obtain⟨⟨e,sz',G⟩,he,hsz⟩:=D05.1 hb;simp only at hsz;subst hsz;obtain⟨⟨l,k⟩,g,rfl⟩:=D05.1 h;obtain⟨r,i,p,q,_⟩:=V9 he;simp only at r p q;cases hx with
   |vec b sz lo n cap T m I hs hsz hn=>
    obtain⟨hr,hl,hk⟩:=j9 (P:=P) (isS:=true) (cap:=cap) g h1 C hn;refine⟨.slice (if cap=l then some ⟨b,o*sz',none⟩else(some (⟨b,o*sz',none⟩:Addr)).map (·.add (l*sz'))) (k-l) (cap-l),?_,?_⟩
    ·refine(C0 r).bind ?_;unfold Instr.slice;refine(C0 r).bind ?_;refine hr.bind ?_;rw[←q];exact(H8 p).bind (.pure _)
    ·simp only;split
     ·rename_i J;subst J;have e:(if cap=0 then some ⟨b,o*sz',none⟩else(some (⟨b,o*sz',none⟩:Addr)).map (·.add (0*sz')))=some (⟨b,o*sz',none⟩:Addr):=by split<;>simp[R8]
      rw[e];simp only[Nat.sub_zero];exact .vec b sz' o k cap T m I hs hsz (by omega)
     ·rename_i J;by_cases L:cap=l
      ·rw[if_pos L,show k-l=0 by omega,show cap-l=0 by omega];exact .vec0 _ _ _ _
      ·rw[if_neg L];simp only[Option.map_some,R8];rw[←Nat.add_mul];exact .vec b sz' (o+l) (k-l) (cap-l) T m I (by rw[hs];congr 1;omega) hsz (by omega)
   |vec0 b sz lo off=>
    obtain⟨hr,hl,hk⟩:=j9 (P:=P) (isS:=true) (cap:=0) g h1 C (D1G 0);refine⟨.slice (if 0=l then some ⟨b,off,none⟩else(some (⟨b,off,none⟩:Addr)).map (·.add (l*sz'))) (k-l) (0-l),?_,?_⟩
    ·refine(C0 r).bind ?_;unfold Instr.slice;refine(C0 r).bind ?_;refine hr.bind ?_;rw[←q];exact(H8 p).bind (.pure _)
    ·obtain rfl:k=0:=by omega
     obtain rfl:l=0:=by omega
     exact .vec0 _ _ _ _
  ·cases h
 ·cases h
theorem B4E{t:TypeId}{x d:D}(h:A5s P t x=some d){w:World}{H:Heap}{v:Value}(hx:R w H x v)(ty:TypeId)(i:Array TypeId)(j:i[0]? =some t)(vs:Array Value)(hv:vs[0]? =some v):
  ∃u,Runs P (Builtin.len_ i ty vs) u∧R w H d u:=by
 have m: ∀{s:Sem Value} {u:Value},s=Builtin.len_ i ty vs→Runs P s u→Runs P (Builtin.len_ i ty vs) u:=fun e h=>e ▸ h;unfold Builtin.len_;rw[j,hv];cases x<;>simp only[A5s]at h<;>try(cases h;done)
 case str s=>
  split at h
  ·rename_i hb;cases h;obtain rfl:=hx.str_inv;exact⟨_,(C0 (V8 hb)).bind (.pure _),.int _ _⟩
  ·cases h
 case nilsl=>
  split at h
  ·rename_i hb;cases h;cases hx;obtain⟨e,g⟩:=Y9 hb;exact⟨_,(C0 g).bind (.pure _),.int _ _⟩
  ·cases h
 case sl sz es=>
  split at h
  ·rename_i hb;cases h;obtain⟨e,g⟩:=Y9 hb;cases hx
   ·exact⟨_,(C0 g).bind (.pure _),.int _ _⟩
   ·exact⟨_,(C0 g).bind (.pure _),.int _ _⟩
  ·cases h
 case vec b sz lo n=>
  split at h
  ·rename_i hb;cases h;obtain⟨e,g⟩:=Y9 hb;cases hx<;>exact⟨_,(C0 g).bind (.pure _),.int _ _⟩
  ·cases h
theorem A5K{t:TypeId}{x i d:D}(h:Q8 P t x i=some d){w:World}{H:Heap}{v V:Value}(hx:R w H x v)(g:R w H i V):
  ∃u,Runs P (Instr.indexAt t v V) u∧R w H d u:=by
 unfold Q8 at h;split at h
 ·rename_i sz es k n;obtain rfl:=g.int_inv;split at h
  ·rename_i hc;obtain⟨hb,z,q⟩:=hc;cases h;obtain⟨⟨e,sz',A⟩,he,hsz⟩:=D05.1 hb;simp only at hsz;subst hsz;obtain⟨p,i,g,o,_⟩:=V9 he;simp only at p g o;cases hx with
   |sl0=>simp at q;omega
   |sl sz es b off cap u C hn G hcap I J L=>
    refine⟨.pointer (some ⟨b,off+n.toNat*sz',none⟩),?_,?_⟩
    ·unfold Instr.indexAt;refine(D2V (P:=P) (k,n)).bind ?_;refine(C0 p).bind ?_;refine(D2V (P:=P) (some (⟨b,off,none⟩:Addr),es.length,e)).bind ?_;refine(C0 p).bind ?_;simp only[z,q,and_self,if_true];rw[←o];exact(H8 g).bind (by rw[R8];exact .pure _)
    ·have r:n.toNat<es.length:=by omega
     have M:es[n.toNat]? =some (es.getD n.toNat []):=by simp[D1D r]
     have hl:=G _ _ M;exact .ro _ b (off+n.toNat*sz') (fun j=>u n.toNat j) C hn (fun j W=>by rw[hl]at W;exact I _ _ r W) (fun j d O=>J _ _ j d M O) (fun j d O=>L _ _ j d M O)
  ·cases h
 ·rename_i b sz l m k n;obtain rfl:=g.int_inv;split at h
  ·rename_i hc;obtain⟨hb,z,q⟩:=hc;cases h;obtain⟨⟨e,sz',A⟩,he,hsz⟩:=D05.1 hb;simp only at hsz;subst hsz;obtain⟨p,i,g,o,_⟩:=V9 he;simp only at p g o;cases hx with
   |vec b sz lo X cap T m' Y hs hsz hn=>
    refine⟨.pointer (some ⟨b,(l+n.toNat)*sz'+0,none⟩),?_,.el _ _ _ _⟩;unfold Instr.indexAt;refine(D2V (P:=P) (k,n)).bind ?_;refine(C0 p).bind ?_;refine(D2V (P:=P) (some (⟨b,l*sz',none⟩:Addr),m,e)).bind ?_;refine(C0 p).bind ?_;simp only[z,q,and_self,if_true];rw[←o];exact(H8 g).bind (by rw[R8,Nat.add_zero,Nat.add_mul];exact .pure _)
   |vec0 b sz lo off=>omega
  ·cases h
 ·rename_i b off k n;obtain rfl:=g.int_inv;obtain rfl:=hx.box_inv;split at h
  ·rename_i len sz y;split at h
   ·rename_i hc;cases h;unfold B1e at y;split at y
    ·rename_i X e p;obtain⟨i,g,U⟩:=D05.1 y;cases U;refine⟨.pointer (some ⟨b,off+n.toNat*i.size,none⟩),?_,.box _ _⟩;unfold Instr.indexAt;refine(D2V (P:=P) (k,n)).bind ?_;refine(C0 p).bind ?_;refine(D2V (P:=P) (⟨b,off,none⟩:Addr)).bind ?_;refine(D2V (P:=P) (some (⟨b,off,none⟩:Addr),len,e)).bind ?_;refine(C0 p).bind ?_;simp only[hc.1,hc.2,and_self,if_true];exact(H8 g).bind (by rw[R8];exact .pure _)
    ·cases y
   ·cases h
  ·cases h
 ·cases h
theorem A9h{α β :Type}{f: α →Option β}: ∀{l:List α} {r:List β},l.mapM f=some r→∀(i:Nat) (b: β),r[i]? =some b→∃a,l[i]? =some a∧f a=some b
 | [],r,h,i,b,hb=>by simp at h;subst h;simp at hb
 |a::l,r,h,i,b,hb=>by
  simp only[List.mapM_cons,Option.bind_eq_bind,D08,Option.pure_def]at h;obtain⟨g,d,j,h1,e⟩:=h;cases e;cases i with
  |zero=>simp at hb;subst hb;exact⟨a,by simp,d⟩
  |succ i=>simp at hb⊢;exact A9h h1 i b hb
theorem A5v{t:TypeId}{f:Nat}{o:Nat}{b:Bool}{n:Nat}(h:(M1 P t).bind (·[f]?)=some (o,b,n)):
  ∃fs d,P.underlying t=some (.struct fs)∧fs[f]? =some d∧d.offset=o∧F9 P d.type=some (b,n):=by
 obtain⟨l,hl,i⟩:=D08.1 h;unfold M1 at hl;split at hl
 ·rename_i fs j;obtain⟨d,e,hs⟩:=A9h hl f _ i;obtain⟨s,g,he⟩:=D05.1 hs;cases he;exact⟨fs,d,j,by simpa using e,rfl,g⟩
 ·cases hl
theorem A5L{t:TypeId}{x d:D}{f:Nat}(h:Y8 P t x f=some d){w:World}{H:Heap}{v:Value}(hx:R w H x v):
  ∃u,Runs P (Instr.fieldAt t v f) u∧R w H d u:=by
 unfold Y8 at h;split at h
 ·rename_i o bb n q;split at h
  ·cases h
  ·rename_i e;obtain⟨fs,z,r,g,ho,i⟩:=A5v q;obtain⟨_,hsz⟩:=A0A (P:=P) i;have m: ∀(a:Addr),v= .pointer (some a)→Runs P (Instr.fieldAt t v f) (.pointer (some (a.add o))):=by
    rintro a rfl;unfold Instr.fieldAt;refine(C0 r).bind ?_;simp only[g];refine(D2V (P:=P) a).bind ?_;unfold fieldPlace;refine Runs.bind (v:=a.add o) (hsz.bind ?_) (.pure _);rw[if_neg e,ho];exact .pure _
   split at h
   ·cases h;obtain rfl:=hx.box_inv;exact⟨_,m _ rfl,by rw[R8];exact .box _ _⟩
   ·cases h;obtain rfl:=hx.el_inv;exact⟨_,m _ rfl,by rw[R8,Nat.add_assoc];exact .el _ _ _ _⟩
   ·cases h;cases hx with
    |ro cs b off u hb hn hc h1 hr=>
     refine⟨_,m _ rfl,?_⟩;rw[R8];refine .ro _ b (off+o) (fun j=>u (o+j)) hb hn (fun j y=>?_) (fun j d p=>h1 (o+j) d (by rwa [List.getElem?_drop]at p)) (fun j d p=>hr (o+j) d (by rwa [List.getElem?_drop]at p));have:=hc (o+j) (by simp at y;omega);rw[←this,Nat.add_assoc]
   ·cases h
 ·cases h
theorem B2s{s:Bool×Nat}{cs:List D}{d:D}(h:z8 s cs=some d){w:World}{H:Heap}(g:Nat→Value)(h1: ∀(i:Nat) c,cs[i]? =some c→c.one=true)(hr: ∀(i:Nat) c,cs[i]? =some c→R w H c (g i)):
  (s.1=true→s.2≤cs.length∧d= .agg (cs.take s.2)∧R w H d (.agg ((List.range s.2).map g).toArray))∧(s.1=false→cs[0]? =some d∧R w H d (g 0)):=by
 obtain⟨b,n⟩:=s;cases b
 ·refine⟨by simp,fun _=>?_⟩;simp only[z8]at h;have j:cs[0]? =some d:=by cases cs<;>simp_all
  exact⟨j,hr 0 d j⟩
 ·refine⟨fun _=>?_,by simp⟩;simp only[z8]at h;split at h
  ·rename_i hn;cases h;refine⟨hn,rfl,.agg _ _ (by simp[hn]) (fun i d e=>?_) (fun i d e=>?_)⟩
   ·rw[List.getElem?_take]at e;split at e<;>first|exact h1 i d e|cases e
   ·rw[List.getElem?_take]at e;split at e
    ·rename_i m;have:((List.range n).map g).toArray.getD i Go.undef=g i:=by simp[m]
     rw[this];exact hr i d e
    ·cases e
  ·cases h
theorem y4{t:TypeId}{s:Bool×Nat}(hs:F9 P t=some s){cs:List D}{vs:Array Value}{o:Nat}{d:D}(h:z8 s (cs.drop o)=some d){w:World}{H:Heap}
  (hl:cs.length=vs.size) (h1: ∀(i:Nat) c,cs[i]? =some c→c.one=true) (hr: ∀(i:Nat) c,cs[i]? =some c→R w H c (vs.getD i Go.undef)):
  ∃u,Runs P (part t vs o) u∧R w H d u:=by
 obtain⟨b,n⟩:=s;obtain⟨q,x⟩:=A0A (P:=P) hs;obtain⟨y,z⟩:=B2s h (w:=w) (H:=H) (fun i=>vs.getD (o+i) Go.undef) (fun i c hc=>h1 (o+i) c (by rwa [List.getElem?_drop]at hc)) (fun i c hc=>hr (o+i) c (by rwa [List.getElem?_drop]at hc));unfold part;cases b
 ·obtain⟨r,g⟩:=z rfl;refine⟨_,q.bind ?_,g⟩;rw[List.getElem?_drop]at r;have j:o<vs.size:=by
   have:=(D06.1 r).1;omega
  have hv:vs[o]? =some (vs.getD o Go.undef):=by simp[j]
  simp only[D1C,if_false,Nat.add_zero];rw[hv];exact .pure _
 ·obtain⟨hn,_,g⟩:=y rfl;refine⟨_,q.bind ?_,g⟩;simp only[if_true];refine x.bind ?_;have e:vs.extract o (o+n)=((List.range n).map fun i=>vs.getD (o+i) Go.undef).toArray:=by
   simp at hn;apply Array.ext
   ·simp;omega
   ·intro i m p;simp at m p⊢;have:o+i<vs.size:=by omega
    simp[this]
  rw[e];exact .pure _
theorem A9i{t:TypeId}{x d:D}{f:Nat}(h:B1f P t x f=some d){w:World}{H:Heap}{v:Value}(hx:R w H x v):
  ∃u,Runs P (Instr.field t v f) u∧R w H d u:=by
 unfold B1f at h;split at h
 ·rename_i o s cs i;obtain⟨b,n⟩:=s;obtain⟨fs,p,j,e,ho,g⟩:=A5v i;obtain⟨vs,rfl,hl,h1,hr⟩:=hx.agg_inv;obtain⟨u,hp,m⟩:=y4 (P:=P) g h hl h1 hr;refine⟨u,?_,m⟩;unfold Instr.field;refine(C0 j).bind ?_;simp only[e];refine(D2V (P:=P) vs).bind ?_;rw[ho];exact hp
 ·cases h
theorem A9j{t:TypeId}{x i d:D}(h:A5t P t x i=some d){w:World}{H:Heap}{v g:Value}(hx:R w H x v)(j:R w H i g):
  ∃u,Runs P (Instr.index t v g) u∧R w H d u:=by
 unfold A5t at h;split at h
 ·rename_i s k n;obtain rfl:=hx.str_inv;obtain rfl:=j.int_inv;split at h
  ·rename_i hc;obtain⟨hb,m,o⟩:=hc;cases h;refine⟨.int .u8 (S3 s n),?_,.int _ _⟩;unfold Instr.index;refine(D2V (P:=P) (k,n)).bind ?_;refine(C0 (V8 hb)).bind ?_;have hl:n.toNat<s.size:=by omega
   have e:(if 0≤n then s[n.toNat]? else none)=some (s.data.toList.getD n.toNat 0):=by
    rw[if_pos m];rw[getElem?_pos s n.toNat hl];have:n.toNat<s.data.toList.length:=by simpa using hl
    simp[List.getD,D1D this];rfl
   dsimp only;rw[e];exact .pure _
  ·cases h
 ·cases h
theorem B5Y{op:UnOp}{x d:D}(h:unD op x=some d){w:World}{H:Heap}{v:Value}(hx:R w H x v): ∃u,Runs P (Op.unary op v) u∧R w H d u:=by
 unfold unD at h;split at h
 ·cases h;obtain rfl:=hx.int_inv;exact⟨_,.pure _,.int _ _⟩
 ·cases h;obtain rfl:=hx.int_inv;exact⟨_,.pure _,.int _ _⟩
 ·cases h;obtain rfl:=hx.bool_inv;exact⟨_,.pure _,.bool _⟩
 ·cases h
theorem B1h{s t:TypeId}{x d:D}(h:B2r P s t x=some d){w:World}{H:Heap}{v:Value}(hx:R w H x v): ∃u,Runs P (convert s t v) u∧R w H d u:=by
 unfold B2r at h;split at h
 ·split at h
  ·rename_i hs e;cases h;obtain rfl:=hx.int_inv;exact⟨_,(C0 hs).bind ((C0 e).bind (.pure _)),.int _ _⟩
  ·rename_i hs e;cases h;obtain rfl:=hx.int_inv;exact⟨_,(C0 hs).bind ((C0 e).bind (.pure _)),.str _⟩
  ·cases h
 ·split at h
  ·rename_i hb;cases h;obtain rfl:=hx.str_inv;exact⟨_,(C0 (V8 hb.1)).bind ((C0 (V8 hb.2)).bind (.pure _)),.str _⟩
  ·cases h
 ·cases h
end
section
variable {P:Program}
theorem A4v{d:Nat}{t:TypeId}{x y:D}{c:Bool}(h:V6 (C9 P t) x y=some c){w:World}{H:Heap}{a b:Value}(hx:R w H x a)(j:R w H y b):
  Runs P (Op.equalIn (d+1) t a b) c:=by
 unfold V6 at h;split at h
 ·rename_i k m i n e;have e1:=hx.int_inv;have e2:=j.int_inv;subst e1;subst e2;split at h
  ·rename_i hk;subst hk;cases h;obtain⟨i,g⟩: ∃i,P.underlying t=some (.int i):=by
    unfold C9 at e;split at e<;>simp_all
   exact fun w=>run_equalIn_int w d t k i m n g
  ·cases h
 ·rename_i m n e;have e1:=hx.str_inv;have e2:=j.str_inv;subst e1;subst e2;cases h;have g:P.underlying t=some .string:=by
   unfold C9 at e;split at e<;>simp_all
  intro w;rw[run_equalIn_string w d t m n g,ByteArray.toList_eq,ByteArray.toList_eq]
 ·rename_i m n e;have e1:=hx.bool_inv;have e2:=j.bool_inv;subst e1;subst e2;cases h;have g:P.underlying t=some .bool:=by
   unfold C9 at e;split at e<;>simp_all
  exact fun w=>run_equalIn_bool' w d t m n g
 ·cases h
theorem A63{α β :Type}{f: α →Option β}{x: α}{xs:List α}{d:List β}(h:(x::xs).mapM f=some d): ∃y r,f x=some y∧xs.mapM f=some r∧d=y::r:=by
 simp only[List.mapM_cons,Option.bind_eq_bind,D08,Option.pure_def,D1Y]at h;obtain⟨y,e,r,hr,rfl⟩:=h;exact⟨y,r,e,hr,rfl⟩
theorem B1i{d:Nat}{w0:World}{H:Heap}{xs e:List D}{vs us:Array Value}(hl:xs.length=vs.size)(h1: ∀(i:Nat) c,xs[i]? =some c→c.one=true)(hr: ∀(i:Nat) c,xs[i]? =some c→R w0 H c (vs.getD i Go.undef))
  (g:e.length=us.size) (j: ∀(i:Nat) c,e[i]? =some c→c.one=true) (m: ∀(i:Nat) c,e[i]? =some c→R w0 H c (us.getD i Go.undef)):
  ∀(fs:List Field) (l:List (Nat×R7)) (c:Bool),(fs.mapM fun f=>if f.name≠ "_" ∧F9 P f.type=some (false,1)∧(C9 P f.type= .bool∨C9 P f.type= .int∨C9 P f.type= .str)then some (f.offset,C9 P f.type)else none)=some l→
   V7 l xs e=some c→Runs P (Op.eqFields (d+1) vs us fs) c:=by
 intro fs
 induction fs with
 |nil=>intro l c hm h;simp at hm;subst hm;simp[V7]at h;subst h;exact .pure _
 |cons f fs J=>
  intro l c hm h;obtain⟨p,r,hp,o,rfl⟩:=A63 hm;split at hp
  ·rename_i hc;cases hp;obtain⟨hn,hs,_⟩:=hc;unfold V7 at h;split at h
   ·rename_i x y hx L;obtain⟨M,q,O⟩:=D08.1 h;obtain⟨V,u,rfl⟩:=D05.1 O;have I: ∀(cs:List D) (z:D),cs[f.offset]? =some z→z8 (false,1) (cs.drop f.offset)=some z:=fun cs z T=>by
     simp only[z8,List.head?_drop];exact T
    obtain⟨a,U,A⟩:=y4 (P:=P) hs (I _ _ hx) hl h1 hr;obtain⟨b,C,G⟩:=y4 (P:=P) hs (I _ _ L) g j m;unfold Op.eqFields;rw[if_pos hn];refine U.bind (C.bind ((A4v q A G).bind ?_));cases M
    ·simp only[D2L,if_true,Bool.false_and];exact .pure _
    ·simp only[D2K,D1C,if_false,Bool.true_and];exact J _ _ o u
   ·cases h
  ·cases hp
theorem B1j{op:BinOp}{t:TypeId}{x y:Operand}{C G d:D}(h:A1x P op t (L2 x||L2 y) C G=some d){w:World}{H:Heap}{a b:Value}(hx:R w H C a)(g:R w H G b):
  ∃v,Runs P (do eqGuard op t x y a b;binOp op t a b) v∧R w H d v:=by
 have key: ∀{xs m:List D} {fs:List (Nat×R7)} {c:Bool},R w H (.agg xs) a→R w H (.agg m) b→A1P P t=some fs→V7 fs xs m=some c→
   ∃vs us,a= .agg vs∧b= .agg us∧(∀op,Runs P (eqGuard op t x y (.agg vs) (.agg us)) ())∧Runs P (Op.equalIn 10000 t (.agg vs) (.agg us)) c:=by
  intro xs m fs c hx g e o;obtain⟨vs,rfl,hl,h1,hr⟩:=hx.agg_inv;obtain⟨us,rfl,p,q,r⟩:=g.agg_inv;unfold A1P at e;split at e
  ·rename_i hc;split at e
   ·rename_i i I;refine⟨vs,us,rfl,rfl,fun op w=>run_eqGuard_agg w op t x y vs us hc.1,fun w=>?_⟩;have j:P.fieldsOf t=i:=by unfold Program.fieldsOf;rw[I]
    rw[run_equalIn_agg w 9999 t vs us (by rw[j];exact I) hc.2,j];exact B1i (P:=P) (d:=9998) hl h1 hr p q r i.toList fs c e o w
   ·cases e
  ·cases e
 unfold A1x at h;split at h
 ·obtain⟨fs,u,z⟩:=D08.1 h;obtain⟨c,hc,rfl⟩:=D05.1 z;obtain⟨vs,us,rfl,rfl,A,he⟩:=key hx g u hc;exact⟨.bool c,(A _).bind (fun w=>by rw[run_eql_struct,he w];rfl),.bool _⟩
 ·obtain⟨fs,u,z⟩:=D08.1 h;obtain⟨c,hc,rfl⟩:=D05.1 z;obtain⟨vs,us,rfl,rfl,A,he⟩:=key hx g u hc;exact⟨.bool (!c),(A _).bind (fun w=>by rw[run_neq_struct,he w];rfl),.bool _⟩
 ·exact B4D h hx g
theorem A1Q: ∀(xs:List D) (cs:List D) (i:Nat),(P9 cs i xs).length=cs.length
 | [],_,_=>rfl
 |x::xs,cs,i=>by rw[P9,A1Q xs];simp
theorem A4E: ∀(xs:List D) (cs:List D) (i j:Nat),(P9 cs i xs)[j]? =if i≤j∧j<i+xs.length∧j<cs.length then xs[j-i]? else cs[j]?
 | [],cs,i,j=>by rw[P9,if_neg (by simp;omega)]
 |x::xs,cs,i,j=>by
  rw[P9,A4E xs];simp only[D1t,D01];by_cases d:i=j
  ·subst d;rw[if_neg (by omega)];by_cases hl:i<cs.length
   ·rw[if_pos (by omega)];simp[hl]
   ·rw[if_neg (by omega)];simp[hl]
  ·by_cases h1:i+1≤j∧j<i+1+xs.length∧j<cs.length
   ·rw[if_pos h1,if_pos (by omega)];rw[show j-i=(j-(i+1))+1 by omega,D1S]
   ·rw[if_neg h1,if_neg (by omega),List.getElem?_set_ne d]
def q9:Array Value→Nat→List Value→Array Value
 |c,_,[]=>c
 |c,i,v::vs=>q9 (c.setIfInBounds i v) (i+1) vs
theorem O8: ∀(vs:List Value) (c:Array Value) (i:Nat),(q9 c i vs).size=c.size
 | [],_,_=>rfl
 |v::vs,c,i=>by rw[q9,O8 vs];simp
theorem A03: ∀(vs:List Value) (c:Array Value) (i j:Nat),(q9 c i vs)[j]? =if i≤j∧j<i+vs.length∧j<c.size then vs[j-i]? else c[j]?
 | [],c,i,j=>by rw[q9,if_neg (by simp;omega)]
 |v::vs,c,i,j=>by
  rw[q9,A03 vs];simp only[Array.size_setIfInBounds,D01];by_cases d:i=j
  ·subst d;rw[if_neg (by omega)];by_cases hl:i<c.size
   ·rw[if_pos (by omega)];simp[hl]
   ·rw[if_neg (by omega)];simp[hl]
  ·by_cases h1:i+1≤j∧j<i+1+vs.length∧j<c.size
   ·rw[if_pos h1,if_pos (by omega)];rw[show j-i=(j-(i+1))+1 by omega,D1S]
   ·rw[if_neg h1,if_neg (by omega),D1a d]
structure RowR(w:World)(H:Heap)(cs:List D)(vs:Array Value):Prop where
 len:cs.length=vs.size
 one: ∀(i:Nat) c,cs[i]? =some c→c.one=true
 rel: ∀(i:Nat) c,cs[i]? =some c→R w H c (vs.getD i Go.undef)
theorem RowR.agg{w:World}{H:Heap}{cs:List D}{vs:Array Value}(h:RowR w H cs vs):R w H (.agg cs) (.agg vs):=.agg cs vs h.len h.one h.rel
theorem j7{w:World}{H:Heap}{d:D}{v:Value}(h:R w H d v)(h1:d.cells.all D.one=true):RowR w H d.cells v.cells:=
 ⟨(h.cells h1).1,fun _ c hc=>D1X.1 h1 c (D1T hc),(h.cells h1).2⟩
theorem RowR.put{w:World}{H:Heap}{cs ds:List D}{vs us:Array Value}(h:RowR w H cs vs)(k:RowR w H ds us)(o:Nat):RowR w H (P9 cs o ds) (q9 vs o us.toList):=by
 have hl:us.toList.length=us.size:=by simp
 have e: ∀(i:Nat) c,(P9 cs o ds)[i]? =some c→c.one=true∧R w H c ((q9 vs o us.toList).getD i Go.undef):=fun i c hc=>by
  rw[A4E]at hc;have g:(q9 vs o us.toList).getD i Go.undef=((q9 vs o us.toList)[i]?).getD Go.undef:=by simp
  rw[g,A03,hl,←k.len,←h.len];split at hc
  ·rename_i d;rw[if_pos d];have:=k.rel _ _ hc;exact⟨k.one _ _ hc,by simpa using this⟩
  ·rename_i d;rw[if_neg d];have:=h.rel _ _ hc;exact⟨h.one _ _ hc,by simpa using this⟩
 exact⟨by rw[A1Q,O8,h.len],fun i c hc=>(e i c hc).1,fun i c hc=>(e i c hc).2⟩
theorem A4F(off:Nat): ∀(l:List Value) (k:Nat) (c:Array Value),(l.zipIdx k).foldl (fun cs (x:Value×Nat)=>cs.setIfInBounds (off+x.2) x.1) c=q9 c (off+k) l
 | [],_,_=>rfl
 |v::l,k,c=>by
  simp only[List.zipIdx_cons,List.foldl_cons,q9];exact A4F off l (k+1) _
theorem B5Z{w:World}{H:Heap}{place:Nat→Option (Nat×Nat)}: ∀{ps:List (Nat×D)} {qs:List (Nat×Value)} {cs out:List D} {vs:Array Value},s8 place cs ps=some out→RowR w H cs vs→
  (ps.length=qs.length)→(∀(i:Nat) p q,ps[i]? =some p→qs[i]? =some q→p.1=q.1∧R w H p.2 q.2)→∃us,Instr.fill place vs qs=some us∧RowR w H out us:=by
 intro ps
 induction ps with
 |nil=>
  intro qs cs out vs h hr hl _;cases qs with
  |nil=>simp only[s8,D1Y]at h;subst h;exact⟨vs,rfl,hr⟩
  |cons=>simp at hl
 |cons p ps x=>
  intro qs cs out vs h hr hl g;cases qs with
  |nil=>simp at hl
  |cons q qs=>
   obtain⟨i,d⟩:=p;obtain⟨j,v⟩:=q;obtain⟨m,u⟩:=g 0 _ _ rfl rfl;simp only at m u;subst m;simp only[s8]at h;unfold Instr.fill;split at h
   ·cases h
   ·rename_i off size hp;split at h
    ·rename_i hc;obtain⟨h1,z,y⟩:=hc;have e:=j7 u y;obtain⟨us,o,r⟩:=x (qs:=qs) (vs:=q9 vs off v.cells.toList) h (hr.put e off) (by simpa using hl) (fun k p q hp hq=>g (k+1) p q (by simpa using hp) (by simpa using hq));refine⟨us,?_,r⟩;rw[hp];have e1:v.cells.size=size:=by rw[←e.len,h1]
     have e2:vs.size=cs.length:=hr.len.symm;simp only[e1,e2];rw[if_neg (by simp;omega)];have e3:=A4F off v.cells.toList 0 vs;simp only[Nat.add_zero]at e3;rw[←Array.foldl_toList,Array.toList_zipIdx,e3];exact o
    ·cases h
theorem A9k{t:TypeId}{fs:Array Field}(d:P.underlying t=some (.struct fs)){l:List (Nat×Bool×Nat)}(h:M1 P t=some l):
  Runs P (fs.mapM fun f=>do pure (f.offset,←sizeOf f.type)) ((l.map fun x=>(x.1,x.2.2)).toArray):=by
 unfold M1 at h;rw[d]at h;simp only at h;intro w;rw[Array.mapM_eq_mapM_toList];generalize fs.toList=m at h
 have key: ∀(m:List Field) (l:List (Nat×Bool×Nat)),m.mapM (fun f=>(F9 P f.type).map fun s=>(f.offset,s.1,s.2))=some l→
   Runs P (m.mapM fun f=>do pure (f.offset,←sizeOf f.type)) (l.map fun x=>(x.1,x.2.2)):=by
  intro m
  induction m with
  |nil=>intro l h;simp at h;subst h;exact .pure _
  |cons f m e=>
   intro l h;simp only[List.mapM_cons,Option.bind_eq_bind,D08,Option.pure_def]at h;obtain⟨o,g,i,h1,j⟩:=h;cases j;obtain⟨s,hs,he⟩:=D05.1 g;cases he;rw[List.mapM_cons];refine Runs.bind (v:=(f.offset,s.2)) (((A0A (P:=P) (b:=s.1) (n:=s.2) hs).2).bind (.pure _)) ?_;exact(e i h1).bind (.pure _)
 have:=key m l h w;simp only[Functor.map];rw[Sem.run_bind',this];rfl
theorem A7H{f:D→D→Option D}{g:Value→Value→Sem Value}(m: ∀a b c,f a b=some c→∀w H u v,R w H a u→R w H b v→∃r,Runs P (g u v) r∧R w H c r){w:World}{H:Heap}:
  ∀(l:List D) (us:List Value) (x d:D) (u:Value),l.foldlM f x=some d→R w H x u→l.length=us.length→(∀(i:Nat) c,l[i]? =some c→R w H c (us.getD i Go.undef))→∃r,Runs P (us.foldlM g u) r∧R w H d r
 | [],us,x,d,u,h,hx,hl,_=>by
  cases us with
  |nil=>simp at h;subst h;exact⟨u,.pure _,hx⟩
  |cons=>simp at hl
 |y::l,us,x,d,u,h,hx,hl,hr=>by
  cases us with
  |nil=>simp at hl
  |cons v us=>
   simp only[List.foldlM_cons,Option.bind_eq_bind,D08]at h;obtain⟨c,hc,h⟩:=h;obtain⟨r,e,j⟩:=m _ _ _ hc w H u v hx (by simpa using hr 0 y rfl);obtain⟨o,h1,p⟩:=A7H m l us c d r h j (by simpa using hl) (fun i c hc=>by simpa using hr (i+1) c (by simpa using hc));exact⟨o,by rw[List.foldlM_cons];exact e.bind h1,p⟩
theorem B85: ∀a b c,B2q a b=some c→∀w H u v,R w H a u→R w H b v→∃r,Runs P (Builtin.min2 u v) r∧R w H c r:=by
 intro a b c h w H u v d hb;unfold B2q at h;split at h
 ·cases h;obtain rfl:=d.int_inv;obtain rfl:=hb.int_inv;exact⟨_,.pure _,.int _ _⟩
 ·cases h
theorem B86: ∀a b c,A7E a b=some c→∀w H u v,R w H a u→R w H b v→∃r,Runs P (Builtin.max2 u v) r∧R w H c r:=by
 intro a b c h w H u v d hb;unfold A7E at h;split at h
 ·cases h;obtain rfl:=d.int_inv;obtain rfl:=hb.int_inv;exact⟨_,.pure _,.int _ _⟩
 ·cases h
theorem A9l{o:Oper}{ρ :Operand→Value}{ev:Operand→D}{w:World}{H:Heap}{d:D}(j: ∀x,R w H (ev x) (ρ x))(h:L5 P ev o.op=some d):
  ∃v,(∀w',(execOp ρ o).run P w'= .ok (.value v) w')∧R w H d v:=by
 obtain⟨dst,op,type,pos,after,guard⟩:=o;simp only at h;have lift: ∀{s:Sem Value},(∃v,Runs P s v∧R w H d v)→∃v,Runs P (do pure (Next.value (←s))) (Next.value v)∧R w H d v:=fun⟨v,h1,h2⟩=>⟨v,A5u h1,h2⟩
 have a4: ∀(x:Option Operand),A8D (x.map ev) (x.map ρ):=fun x=>by
  cases x with
  |none=>trivial
  |some x=>intro k n e;have:=j x;rw[e]at this;exact this.int_inv
 show∃v,Runs P (execOp ρ _) (Next.value v)∧R w H d v;cases op<;>simp only[L5]at h<;>try(cases h;done)
 case move x=>cases h;exact⟨ρ x,.pure _,j x⟩
 case assign x=>cases h;exact⟨ρ x,.pure _,j x⟩
 case pick c a b=>
  split at h
  ·rename_i t hc;cases h;have hb:=j c;rw[hc]at hb;refine⟨if t then ρ a else ρ b,?_,?_⟩
   ·simp only[execOp];rw[hb.bool_inv];exact(D2V (P:=P) t).bind (.pure _)
   ·cases t
    ·exact j b
    ·exact j a
  ·cases h
 case build t parts=>
  split at h
  ·rename_i hb;obtain⟨z,hz,h⟩:=D08.1 h;obtain⟨fs,a5,h⟩:=D08.1 h;obtain⟨out,ho,rfl⟩:=D05.1 h;obtain⟨M,O,T,U⟩:=A4D hz;obtain⟨a9,C⟩:=A9f hb;have G:RowR w H z M.cells:=by
    subst T;refine⟨by simp,fun i c hc=>D1X.1 U c (D1T hc),fun i c hc=>?_⟩;simp only[D1J,D05]at hc;obtain⟨u,V,rfl⟩:=hc;have:M.cells.getD i Go.undef=u:=by
     have W:M.cells[i]? =some u:=by simpa using V
     simp[W]
    rw[this];exact A1w w H u
   obtain⟨us,X,Y⟩:=B5Z (qs:=parts.toList.map fun p=>(p.1,ρ p.2)) ho G (by simp) (fun i p q hp hq=>by
    simp only[D1J,D05]at hp hq;obtain⟨a,ha,rfl⟩:=hp;obtain⟨b,I,rfl⟩:=hq;rw[ha]at I;cases I;exact⟨rfl,j _⟩)
   refine lift ⟨.agg us,?_,Y.agg⟩;unfold Instr.build;refine O.bind ?_;refine(C0 C).bind ?_;refine(A9k C a5).bind ?_;have e1:(fun i:Nat=>((fs.map fun x=>(x.1,x.2.2)).toArray)[i]?)=fun i:Nat=>(fs[i]?).map fun(f:Nat×Bool×Nat)=>(f.1,f.2.2):=by funext i;simp
   have e2:(parts.map fun(i,x)=>(i,ρ x)).toList=parts.toList.map fun p=>(p.1,ρ p.2):=by simp
   rw[e1,e2,X];exact .pure _
  ·rename_i hb;obtain⟨z,hz,h⟩:=D08.1 h;obtain⟨s,hs,h⟩:=D08.1 h;obtain⟨out,ho,rfl⟩:=D05.1 h;obtain⟨M,O,T,U⟩:=A4D hz;obtain⟨n0,e0,i0,C,a0,hsz⟩: ∃n0 e0 i0,P.underlying t=some (.array n0 e0)∧P.info? e0=some i0∧s.2=i0.size:=by
    unfold B1e at hs;split at hs
    ·rename_i n0 e0 C;obtain⟨i0,a0,he⟩:=D05.1 hs;subst he;exact⟨n0,e0,i0,C,a0,rfl⟩
    ·cases hs
   rw[hsz]at ho;have G:RowR w H z M.cells:=by
    subst T;refine⟨by simp,fun i c hc=>D1X.1 U c (D1T hc),fun i c hc=>?_⟩;simp only[D1J,D05]at hc;obtain⟨u,V,rfl⟩:=hc;have:M.cells.getD i Go.undef=u:=by
     have W:M.cells[i]? =some u:=by simpa using V
     simp[W]
    rw[this];exact A1w w H u
   obtain⟨us,X,Y⟩:=B5Z (qs:=parts.toList.map fun p=>(p.1,ρ p.2)) ho G (by simp) (fun i p q hp hq=>by
    simp only[D1J,D05]at hp hq;obtain⟨a,ha,rfl⟩:=hp;obtain⟨b,I,rfl⟩:=hq;rw[ha]at I;cases I;exact⟨rfl,j _⟩)
   refine lift ⟨.agg us,?_,Y.agg⟩;unfold Instr.build;refine O.bind ?_;refine(C0 C).bind ?_;refine(H8 a0).bind ?_;have e2:(parts.map fun(i,x)=>(i,ρ x)).toList=parts.toList.map fun p=>(p.1,ρ p.2):=by simp
   rw[e2,X];exact .pure _
  ·cases h
 case nilCheck x=>
  have hx:=j x;split at h
  ·rename_i e;cases h;rw[e]at hx;refine⟨_,?_,hx⟩;simp only[execOp,hx.box_inv];exact .pure _
  ·rename_i e;cases h;rw[e]at hx;refine⟨_,?_,hx⟩;simp only[execOp,hx.el_inv];exact .pure _
  ·rename_i e;cases h;rw[e]at hx;obtain⟨b,off,hv⟩:=hx.ro_inv;refine⟨_,?_,hx⟩;simp only[execOp,hv];exact .pure _
  ·rename_i e;cases h;rw[e]at hx;generalize hv: ρ x=v at hx;cases hx with
   |fn f ds es vs us hl hm hr hq=>refine⟨_,?_,.fn _ _ _ vs us hl hm hr hq⟩;simp only[execOp,hv];exact .pure _
  ·cases h
 case binOp bop t x y yt=>exact lift (B1j h (j x) (j y))
 case unOp uop t x=>exact lift (B5Y h (j x))
 case convert s t x=>exact lift (B1h h (j x))
 case fieldAddr s x f=>exact lift (A5L h (j x))
 case field t x f=>exact lift (A9i h (j x))
 case indexAddr t x i=>exact lift (A5K h (j x) (j i))
 case index t x i=>exact lift (A9j h (j x) (j i))
 case slice t x lo hi mx=>
  cases mx with
  |some m=>simp at h
  |none=>simp only at h;exact lift (A9g h (j x) (a4 lo) (a4 hi))
 case extract x i=>
  split at h
  ·rename_i ds e;have hx:=j x;rw[e]at hx;obtain⟨vs,hv,hl,hr⟩:=hx.tuple_inv;refine lift ⟨_,?_,hr i d h⟩;rw[hv];have a6:i<vs.size:=by rw[←hl];exact(D06.1 h).1
   have:vs[i]? =some (vs.getD i Go.undef):=by simp[a6]
   unfold Instr.extract;dsimp only;rw[this];exact .pure _
  ·cases h
 case makeInterface t x=>
  split at h
  ·cases h
  ·rename_i hn;cases h;refine lift ⟨_,?_,.iface t _ _ (j x)⟩;simp only[not_or]at hn;obtain⟨u,C⟩: ∃u,P.underlying t=some u:=by
    cases e:P.underlying t with
    |none=>exact absurd (by rw[e];rfl) hn.2
    |some u=>exact⟨u,rfl⟩
   unfold Instr.makeInterface;refine(C0 C).bind ?_;cases u<;>first|exact .pure _|(exfalso;apply hn.1;simp[C9,C];done)
 case makeFunc fn first captured=>
  cases h;refine lift ⟨_,.pure _,.fn fn _ _ _ _ (by simp) (by simp) (fun i d A=>?_) (fun i d A=>?_)⟩
  ·simp only[D1J,D05]at A;obtain⟨x,hx,rfl⟩:=A;have:(first.map ρ).getD i Go.undef= ρ x:=by
    have W:first[i]? =some x:=by simpa using hx
    simp[W]
   rw[this];exact j x
  ·simp only[D1J,D05]at A;obtain⟨x,hx,rfl⟩:=A;have:(captured.map ρ).getD i Go.undef= ρ x:=by
    have W:captured[i]? =some x:=by simpa using hx
    simp[W]
   rw[this];exact j x
 case call c=>
  obtain⟨callee,args,a7⟩:=c
  have J: ∀{f:D→D→Option D} {g:Value→Value→Sem Value},(∀a b c,f a b=some c→∀w H u v,R w H a u→R w H b v→∃r,Runs P (g u v) r∧R w H c r)→A7F f (args.toList.map ev)=some d→
    ∃x l,(args.map ρ).toList=x::l∧∃r,Runs P (l.foldlM g x) r∧R w H d r:=by
   intro f g hf A;unfold A7F at A;cases hl:args.toList with
   |nil=>rw[hl]at A;simp at A
   |cons a L=>
    rw[hl]at A;simp only[D2D]at A;refine⟨ρ a,L.map ρ,by simp[hl],?_⟩;refine A7H hf (L.map ev) (L.map ρ) (ev a) d (ρ a) A (j a) (by simp) (fun i c hc=>?_);simp only[D1J,D05]at hc;obtain⟨x,hx,rfl⟩:=hc;have:(L.map ρ).getD i Go.undef= ρ x:=by simp[List.getD,hx]
    rw[this];exact j x
  cases callee with
  |value=>simp at h
  |invoke=>simp at h
  |builtin b=>
   cases b<;>simp only at h<;>try(cases h;done)
   case len=>
    split at h
    ·rename_i t x ht hx;obtain⟨u,hr,hR⟩:=B4E h (j x) type a7 ht (args.map ρ) (by simp[hx]);refine⟨u,?_,hR⟩;simp only[execOp,resolve,invoke,builtin];exact(D2V (P:=P) _).bind (A5u hr)
    ·cases h
   case cap=>
    split at h
    ·rename_i t ht hx;obtain⟨x,hx,he⟩:=D05.1 hx;split at h
     ·rename_i hb;cases h;obtain⟨e,C⟩:=Y9 hb;have hr:=j x;rw[he]at hr;generalize hv: ρ x=v at hr;cases hr;refine⟨.int .i64 0,?_,.int _ _⟩;simp only[execOp,resolve,invoke,builtin];refine(D2V (P:=P) _).bind (A5u ?_);unfold Builtin.cap_;rw[ht,show (args.map ρ)[0]? =some (.slice none 0 0)by simp[hx,hv]];exact(C0 C).bind (.pure _)
     ·cases h
    ·cases h
   case min=>
    obtain⟨x,l,hl,r,hr,hR⟩:=J B85 h;refine⟨r,?_,hR⟩;simp only[execOp,resolve,invoke,builtin];refine(D2V (P:=P) _).bind (A5u ?_);unfold Builtin.min_;rw[hl];exact hr
   case max=>
    obtain⟨x,l,hl,r,hr,hR⟩:=J B86 h;refine⟨r,?_,hR⟩;simp only[execOp,resolve,invoke,builtin];refine(D2V (P:=P) _).bind (A5u ?_);unfold Builtin.max_;rw[hl];exact hr
end
def Post(H:Heap)(w:World)(K:D→Heap→Prop)(v:Value)(w':World):Prop:=
 ∃d H',R w' H' d v∧Sat H' w'∧Ext H w w'∧From w H H'∧K d H'
theorem Post.mono{H:Heap}{w:World}{K e:D→Heap→Prop}{v:Value}{w':World}(h:Post H w K v w')(g: ∀d H',K d H'→e d H'):Post H w e v w':=
 let ⟨d,H',h1,h2,h3,h4,h5⟩:=h;⟨d,H',h1,h2,h3,h4,g _ _ h5⟩
def A1y(P:Program)(f:Nat):Bool:=match P.funcs[f]? with
 |some fn=>fn.body.isSome&&fn.name != "runtime.NumGoroutine"
 |none=>false
def ACalls(P:Program)(f:Nat)(args:List D)(H:Heap)(Q:D→Heap→Prop):Prop:=
 A1y P f=true∧∀w (vs:Array Value),args.length=vs.size→(∀(i:Nat) d,args[i]? =some d→R w H d (vs.getD i Go.undef))→Sat H w→
  Calls P f vs w fun e w'=>∃v,e= .returned v∧Post H w Q v w'
theorem ACalls.mono{P:Program}{f:Nat}{args:List D}{H:Heap}{Q e:D→Heap→Prop}(h:ACalls P f args H Q)(hq: ∀d H',Q d H'→e d H'):ACalls P f args H e:=
 ⟨h.1,fun w vs h1 g i=>(h.2 w vs h1 g i).mono fun _ _ ⟨v,he,hp⟩=>⟨v,he,hp.mono hq⟩⟩
def A4G(H:Heap):D→Option (List D)
 | .box b off=>match H b with
  |some (.box cs _)=>some (cs.drop off)
  |_=>none
 | .el b sz i off=>match H b with
  |some (.vec sz' es)=>if sz=sz' then(es[i]?).map (·.drop off)else none
  |_=>none
 | .ro cs=>some cs
 | .glob g=>match H g with
  |some (.ro cs)=>some cs
  |_=>none
 |_=>none
def A0B(P:Program)(t:TypeId)(a:D)(H:Heap):Option D:=(F9 P t).bind fun s=>(A4G H a).bind (z8 s)
def Z0(P:Program)(t:TypeId)(a x:D)(H:Heap):Option Heap:=
 if(F9 P t).map (·.2)=some x.cells.length∧x.cells.all D.one=true then match a with
  | .box b off=>match H b with
   |some (.box cs Z)=>if off+x.cells.length≤cs.length then some (H.set b (.box (P9 cs off x.cells) Z))else none
   |_=>none
  | .el b sz i off=>match H b with
   |some (.vec sz' es)=>if sz=sz'∧i<es.length∧off+x.cells.length≤sz then some (H.set b (.vec sz (es.set i (P9 (es.getD i []) off x.cells))))else none
   |_=>none
  |_=>none
 else none
def F1(s:ByteArray):List (List D):=s.data.toList.map fun c=>[D.int .u8 c.toNat]
def M7(H:Heap)(sz:Nat):D→Option (List (List D))
 | .nilsl=>some []
 | .sl sz' es=>if sz=sz' then some es else none
 | .vec b sz' lo n=>if sz=sz' then match H b with
  |some (.vec sz'' es)=>if sz=sz''∧lo+n≤es.length then some ((es.drop lo).take n)else none
  |_=>none else none
 | .str s=>if sz=1 then some (F1 s)else none
 |_=>none
def A4H:List (List D)→List (Nat×D)→Option (List (List D))
 |es,[]=>some es
 |es,(i,d)::ps=>if i<es.length∧d.cells.length=(es.getD i []).length∧d.cells.all D.one=true then A4H (es.set i d.cells) ps else none
def A1R(P:Program)(ev:Operand→D)(H:Heap)(K:D→Heap→Prop)(t t':TypeId)(s x:Operand):Prop:=
 ∃e sz by_,H6 P t=some (e,sz,by_)∧0<sz∧(C9 P t'= .slice∨C9 P t'= .str)∧(G2 P e).map (·.length)=some sz∧∃xs,M7 H sz (ev x)=some xs∧match ev s with
  | .nilsl=>xs.length*by_≤140737488355328∧xs.length≤9223372036854775807∧(xs= []→K .nilsl H)∧(xs≠[]→∀b,H b=none→K (.vec b sz 0 xs.length) (H.set b (.vec sz xs)))
  | .vec b sz' lo n=>sz'=sz∧((lo=0∧∃es,H b=some (.vec sz es)∧n≤es.length∧(n+xs.length)*by_≤140737488355328∧n+xs.length≤9223372036854775807∧
    ∀b',H.del b b'=none→K (.vec b' sz 0 (n+xs.length)) ((H.del b).set b' (.vec sz (es.take n++xs))))∨
   ∃es,H b=some (.vec sz es)∧lo+n≤es.length∧(n+xs.length)*by_≤140737488355328∧n+xs.length≤9223372036854775807∧
    ∀b' pre,H.del b b'=none→K (.vec b' sz pre.length (n+xs.length)) ((H.del b).set b' (.vec sz (pre++((es.drop lo).take n++xs)))))
  |_=>False
def A2w(P:Program)(ev:Operand→D)(H:Heap)(K:D→Heap→Prop)(s t:TypeId)(x:Operand):Prop:=match ev x with
 | .str z=>C9 P s= .str∧(match P.underlying t with|some (.slice e)=>P.underlying e=some (.int .u8)|_=>False)∧∀b,H b=none→K (.vec b 1 0 z.size) (H.set b (.vec 1 (F1 z)))
 |d=>(C9 P t= .str∧(match P.underlying s with|some (.slice e)=>P.underlying e=some (.int .u8)|_=>False)∧∃z,M7 H 1 d=some (F1 z)∧K (.str z) H)∨
  (s=t∧(match P.underlying s with|some (.slice e)=>P.underlying e=some (.int .u8)|_=>False)∧∃b z,d= .vec b 1 0 z.size∧0<z.size∧H b=some (.vec 1 (F1 z))∧K (.sl 1 (F1 z)) (H.del b))
inductive KK where
 |one (b:R7)
 |arr (n:Nat) (b:R7)
def B87(b:R7):Bool:=b= .int∨b= .str∨b= .bool
def A3T(P:Program)(t:TypeId):Option (TypeId×TypeId×KK):=match P.underlying t with
 |some (.map k e)=>match P.underlying k with
  |some (.array n e')=>if(P.info? e').map (·.size)=some 1∧F9 P e'=some (false,1)∧B87 (C9 P e')=true then some (k,e,.arr n (C9 P e'))else none
  |_=>if B87 (C9 P k)=true then some (k,e,.one (C9 P k))else none
 |_=>none
def A4w:KK→D→D→Option Bool
 | .one b,x,y=>V6 b x y
 | .arr n b,.agg xs,.agg ys=>if xs.length=n∧ys.length=n then V7 ((List.range n).map fun i=>(i,b)) xs ys else none
 | .arr _ _,_,_=>none
def Q0(kk:KK)(k:D):List (D×D)→Nat→Option (Option (Nat×D))
 | [],_=>some none
 |p::l,i=>(A4w kk k p.1).bind fun c=>if c=true then some (some (i,p.2))else Q0 kk k l (i+1)
def S7:KK→D→Bool
 | .one _,.agg _=>false
 | .one _,d=>d.key
 | .arr n _,.agg cs=>decide (cs.length=n)&&d1 cs
 | .arr _ _,_=>false
where d1 (cs:List D):Bool:=cs.all D.key
def A5w(P:Program)(t:TypeId):Option D:=((P.info? t).bind (·.zero)).map D.ofValue
def A23(ok:Bool)(z:D):Option (Nat×D)→D
 |some (_,d)=>if ok=true then .tuple [d,.bool true]else d
 |none=>if ok=true then .tuple [z,.bool false]else z
def Y3(H:Heap):D→Option (List (D×D))
 | .nilmap=>some []
 | .map b=>match H b with
  |some (.map kvs)=>some kvs
  |_=>none
 | .fm kvs=>some kvs
 |_=>none
def A1S(P:Program)(t:TypeId)(m k:D)(ok:Bool)(H:Heap):Option D:=(A3T P t).bind fun T=>if S7 T.2.2 k=true then(A5w P T.2.1).bind fun z=>(Y3 H m).bind fun kvs=>(Q0 T.2.2 k kvs 0).map (A23 ok z)else none
def A5x(kvs:List (D×D))(k x:D):Option (Nat×D)→List (D×D)
 |some (i,_)=>kvs.set i (k,x)
 |none=>kvs++[(k,x)]
def A3U(P:Program)(t:TypeId)(m k x:D)(H:Heap):Option Heap:=(A3T P t).bind fun T=>if S7 T.2.2 k=true then match m with
 | .map b=>match H b with
  |some (.map kvs)=>(Q0 T.2.2 k kvs 0).map fun r=>H.set b (.map (A5x kvs k x r))
  |_=>none
 |_=>none else none
def A1t(P:Program)(t:TypeId):Option TypeId:=match P.info? t with
 |some i=>match i.desc with
  | .named "strings.Builder" _=>some t
  |_=>none
 |none=>none
def D3(P:Program)(ev:Operand→D)(H:Heap)(K:D→Heap→Prop)(op:Op):Prop:=match op with
 | .load t x=>∃d,A0B P t (ev x) H=some d∧K d H
 | .store t a x=>∃H',Z0 P t (ev a) (ev x) H=some H'∧K .undef H'
 | .alloc t=>∃z,G2 P t=some z∧∀b,H b=none→K (.box b 0) (H.set b (.box z (A1t P t)))
 | .box _ x=>(ev x).cells.all D.one=true∧∀b,H b=none→K (.box b 0) (H.set b (.box (ev x).cells))
 | .buildSlice t len parts=>∃e sz by_ z es,H6 P t=some (e,sz,by_)∧0<sz∧len*sz≤16777216∧G2 P e=some z∧z.length=sz∧A4H (List.replicate len z) (parts.toList.map fun p=>(p.1,ev p.2))=some es∧
   ∀b,H b=none→K (.vec b sz 0 len) (H.set b (.vec sz es))
 | .makeSlice t l c=>∃e sz by_ z k n k' m,H6 P t=some (e,sz,by_)∧0<sz∧G2 P e=some z∧z.length=sz∧ev l= .int k n∧ev c= .int k' m∧0≤n∧n≤m∧by_*m≤281474976710656∧m<9223372036854775808∧
   ∀b,H b=none→K (.vec b sz 0 n.toNat) (H.set b (.vec sz (List.replicate n.toNat z)))
 | .convert s t x=>match J0 P (.convert s t x)with
  | .pure=>∃d,L5 P ev (.convert s t x)=some d∧K d H
  |_=>A2w P ev H K s t x
 | .call c=>match c.callee with
  | .value f=>match ev f with
   | .fn (.func g) first captured=>ACalls P g (first++c.args.toList.map ev++captured) H K
   |_=>False
  | .builtin .len=>match J0 P (.call c)with
   | .pure=>∃d,L5 P ev (.call c)=some d∧K d H
   |_=>match c.args.toList with
    | [x]=>∃kvs,Y3 H (ev x)=some kvs∧K (.int .i64 kvs.length) H
    |_=>False
  | .builtin .append=>match c.argTypes.toList,c.args.toList with
   | [t,t'],[s,x]=>A1R P ev H K t t' s x
   |_,_=>False
  |_=>match J0 P (.call c)with
   | .pure=>∃d,L5 P ev (.call c)=some d∧K d H
   |_=>False
 | .range t x=>match ev x with
  | .str s=>P.underlying t=some .string∧∀b,H b=none→K (.box b 0) (H.set b (.iter s 0))
  | .fm kvs=>(A3T P t).isSome=true∧∀b,H b=none→K (.box b 0) (H.set b (.rng kvs []))
  |_=>False
 | .next x isString=>match ev x,isString with
  | .box b 0,true=>match H b with
   |some (.iter s pos)=>(pos<s.size→K (.tuple [.bool true,.int .i64 pos,.int .i32 (Utf8.decode s pos).1]) (H.set b (.iter s (pos+(Utf8.decode s pos).2))))∧(¬pos<s.size→K (.tuple [.bool false]) H)
   |_=>False
  | .box b 0,false=>match H b with
   |some (.rng kvs seen)=>(∀i p,kvs[i]? =some p→i∉seen→K (.tuple [.bool true,p.1,p.2]) (H.set b (.rng kvs (seen++[i]))))∧((∀i,i<kvs.length→i∈seen)→K (.tuple [.bool false]) H)
   |_=>False
  |_,_=>False
 | .entry x=>match ev x with
  | .box b 0=>match H b with
   |some (.rng kvs seen)=>∃i p,seen.getLast?=some i∧kvs[i]? =some p∧K (.tuple [p.1,p.2]) H
   |_=>False
  |_=>False
 | .makeMap _ none=>∀b,H b=none→K (.map b) (H.set b (.map []))
 | .lookup t m k ok=>∃d,A1S P t (ev m) (ev k) ok H=some d∧K d H
 | .mapUpdate t m k x=>∃H',A3U P t (ev m) (ev k) (ev x) H=some H'∧K .undef H'
 |op=>match J0 P op with
  | .pure=>∃d,L5 P ev op=some d∧K d H
  |_=>False
def Heap.minus(H:Heap)(l:List Nat):Heap:=fun k=>if k∈l then none else H k
def B5a(P:Program)(sx:Bool)(l:List Nat)(ev:Operand→D)(H:Heap)(K:D→Heap→Prop)(op:Op):Prop:=match op with
 | .load t x=>(match ev x with| .box b _=>b∈l| .el b _ _ _=>b∈l|_=>False)∧D3 P ev H K (.load t x)
 | .store t a x=>(sx=true→D3 P ev (H.minus l) (fun _ _=>True) (.store t a x))∧D3 P ev H K (.store t a x)
 | .alloc t=>D3 P ev (H.minus l) (fun _ _=>True) (.alloc t)∧D3 P ev H K (.alloc t)
 | .box t x=>D3 P ev (H.minus l) (fun _ _=>True) (.box t x)∧D3 P ev H K (.box t x)
 | .buildSlice t n ps=>D3 P ev (H.minus l) (fun _ _=>True) (.buildSlice t n ps)∧D3 P ev H K (.buildSlice t n ps)
 | .call ⟨.builtin .append,as_,ts⟩=>D3 P ev (H.minus l) (fun _ _=>True) (.call ⟨.builtin .append,as_,ts⟩)∧D3 P ev H K (.call ⟨.builtin .append,as_,ts⟩)
 |op=>J0 P op= .pure∧D3 P ev H K op
def A9m:D→Bool
 | .bool _| .int _ _| .str _=>true
 |_=>false
def Heap.sub(H Hc:Heap):Heap:=fun k=>if Hc.held k=true then none else H k
def A5y(P:Program)(l:List Nat)(ev:Operand→D)(H:Heap)(K:D→Heap→Prop)(op:Op):Prop:=match op with
 | .load t x=>(match ev x with| .box b _=>b∈l| .el b _ _ _=>b∈l|_=>False)∧D3 P ev H K (.load t x)
 | .buildSlice t n ps=>D3 P ev (H.minus l) (fun _ _=>True) (.buildSlice t n ps)∧D3 P ev H K (.buildSlice t n ps)
 | .call ⟨.value f,as_,ts⟩=>∃Hc:Heap,Hc.Le H∧(∀k∈l,Hc.held k=false)∧D3 P ev Hc (fun d _=>A9m d=true∧K d (H.sub Hc)) (.call ⟨.value f,as_,ts⟩)
 |op=>J0 P op= .pure∧D3 P ev H K op
section
variable {P:Program}
theorem RowR.mono{w w':World}{H H':Heap}{cs:List D}{vs:Array Value}(h:RowR w H cs vs)(he:Ext H w w')(d:From w H H'):RowR w' H' cs vs:=
 ⟨h.len,h.one,fun i c hc=>(h.rel i c hc).mono he d⟩
theorem RowR.oneCell{w:World}{H:Heap}{cs:List D}{vs:Array Value}(h:RowR w H cs vs): ∀v∈vs.toList,v.oneCell'=true:=by
 intro v hv;obtain⟨i,j⟩:=List.getElem?_of_mem hv;have g:i<vs.size:=by
  have:=(D06.1 j).1;simpa using this
 have d:i<cs.length:=by rw[h.len];exact g
 have hc:cs[i]? =some cs[i]:=D1D d;have:=(h.rel i _ hc).oneCell (h.one i _ hc);have e:vs.getD i Go.undef=v:=by
  have m:vs[i]? =some v:=by simpa using j
  simp[m]
 rwa [e]at this
theorem A4I{w:World}{H:Heap}{b:Nat}{cs:List D}{c:Array Value}{T lo e:Nat}{Z:Option TypeId}(i: ∀t,Z=some t→T=t)(hb:w.heap[b]? =some (.cells c T (lo,e)))(m: ∀j,j<c.size→¬(lo≤j∧j<e))(h:RowR w H cs c):ObjOk w H b (.box cs Z):=
 ⟨c,T,lo,e,hb,m,h.len.symm,fun j d g=>⟨h.one j d g,h.rel j d g⟩,i⟩
theorem box_inv{w:World}{H:Heap}{b:Nat}{cs:List D}{Z:Option TypeId}(h:ObjOk w H b (.box cs Z)): ∃c T lo e,w.heap[b]? =some (.cells c T (lo,e))∧(∀j,j<c.size→¬(lo≤j∧j<e))∧RowR w H cs c∧∀t,Z=some t→T=t:=by
 obtain⟨c,T,lo,e,h1,o,p,m,h5⟩:=h;exact⟨c,T,lo,e,h1,o,⟨p.symm,fun i d g=>(m i d g).1,fun i d g=>(m i d g).2⟩,h5⟩
structure VecR(w:World)(H:Heap)(sz:Nat)(es:List (List D))(c:Array Value):Prop where
 le:es.length*sz≤c.size
 each: ∀(i:Nat) e,es[i]? =some e→e.length=sz
 one: ∀(i:Nat) (e:List D) (j:Nat) d,es[i]? =some e→e[j]? =some d→d.one=true
 rel: ∀(i:Nat) (e:List D) (j:Nat) d,es[i]? =some e→e[j]? =some d→R w H d (c.getD (i*sz+j) Go.undef)
theorem VecR.mono{w w':World}{H H':Heap}{sz:Nat}{es:List (List D)}{c:Array Value}(h:VecR w H sz es c)(he:Ext H w w')(g:From w H H'):VecR w' H' sz es c:=
 ⟨h.le,h.each,h.one,fun i e j d h1 m=>(h.rel i e j d h1 m).mono he g⟩
theorem A04{w:World}{H:Heap}{b sz:Nat}{es:List (List D)}{c:Array Value}{T lo g:Nat}(hb:w.heap[b]? =some (.cells c T (lo,g)))(o: ∀j,j<c.size→¬(lo≤j∧j<g))(hsz:0<sz)(h:VecR w H sz es c):ObjOk w H b (.vec sz es):=
 ⟨c,T,lo,g,hb,o,hsz,h.le,h.each,fun i e j d h1 m=>⟨h.one i e j d h1 m,h.rel i e j d h1 m⟩⟩
theorem A2X{w:World}{H:Heap}{b sz:Nat}{es:List (List D)}(h:ObjOk w H b (.vec sz es)): ∃c T lo g,w.heap[b]? =some (.cells c T (lo,g))∧(∀j,j<c.size→¬(lo≤j∧j<g))∧0<sz∧VecR w H sz es c:=by
 obtain⟨c,T,lo,g,h1,o,p,q,h5,m⟩:=h;exact⟨c,T,lo,g,h1,o,p,⟨q,h5,fun i e j d a b=>(m i e j d a b).1,fun i e j d a b=>(m i e j d a b).2⟩⟩
theorem Sat.update{w w':World}{H:Heap}{b:Nat}{o:Obj}(hs:Sat H w)(he:Ext H w w')(e:From w H (H.set b o))(hk: ∀k,k<w.heap.size→k≠b→w'.heap[k]? =w.heap[k]?)(ho:ObjOk w' (H.set b o) b o):Sat (H.set b o) w':=by
 intro k x hx;unfold Heap.set at hx;by_cases d:k=b
 ·rw[if_pos d]at hx;cases hx;rw[d];exact ho
 ·rw[if_neg d]at hx;exact(hs k x hx).mono he e (hk k (hs.lt hx) d)
theorem N2{w:World}{H:Heap}{b:Nat}(hb:H.held b=true)(o:Obj):From w H (H.set b o):=fun k _ hn=>by
 have hk:k≠b:=fun e=>by rw[e,hb]at hn;cases hn
 rw[A0Z (H:=H) (by unfold Heap.set;rw[if_neg hk])];exact hn
theorem N8{w:World}{H:Heap}{b:Nat}(hb:w.heap.size≤b)(o:Obj):From w H (H.set b o):=fun k hk hn=>by
 rw[A0Z (H:=H) (by unfold Heap.set;rw[if_neg (by omega)])];exact hn
theorem M8(w:World)(o:Go.Obj):(w.alloc o).heap[w.heap.size]? =some o:=by
 show (w.heap.push o)[w.heap.size]? =_;simp
theorem A3V{w:World}{H:Heap}{K:D→Heap→Prop}(hs:Sat H w){cs:List D}{vs:Array Value}(T:Nat){Z:Option TypeId}(e: ∀t,Z=some t→T=t)(hr:RowR w H cs vs)(g: ∀b,H b=none→K (.box b 0) (H.set b (.box cs Z))):
  Post H w K (.pointer (some ⟨w.heap.size,0,none⟩)) (w.alloc (.cells vs T)):=by
 have he:=Ext.alloc H w (.cells vs T);have d:=N8 (H:=H) (D1G w.heap.size) (.box cs Z);refine⟨.box w.heap.size 0,H.set w.heap.size (.box cs Z),.box _ _,?_,he,d,g _ (hs.fresh (D1G _))⟩;exact hs.update he d (fun k hk _=>Go.RowKit.Below.heap_alloc _ _ _ hk) (A4I e (M8 w _) (by simp) (hr.mono he d))
theorem A0C{w:World}{H:Heap}{K:D→Heap→Prop}(hs:Sat H w){sz:Nat}{es:List (List D)}{vs:Array Value}(T n cap:Nat)(hsz:0<sz)(hr:VecR w H sz es vs)(hn:n≤cap)(hc:vs.size=cap*sz)(e: ∀b,H b=none→K (.vec b sz 0 n) (H.set b (.vec sz es))):
  Post H w K (.slice (some ⟨w.heap.size,0,none⟩) n cap) (w.alloc (.cells vs T)):=by
 have he:=Ext.alloc H w (.cells vs T);have d:=N8 (H:=H) (D1G w.heap.size) (.vec sz es);refine⟨.vec w.heap.size sz 0 n,H.set w.heap.size (.vec sz es),?_,?_,he,d,e _ (hs.fresh (D1G _))⟩
 ·have:=R.vec (w:=w.alloc (.cells vs T)) (H:=H.set w.heap.size (.vec sz es)) w.heap.size sz 0 n cap T vs.size (by unfold World.shape?;rw[M8]) (by rw[hc,Nat.zero_add]) hsz hn;rwa [Nat.zero_mul]at this
 ·exact hs.update he d (fun k hk _=>Go.RowKit.Below.heap_alloc _ _ _ hk) (A04 (M8 w _) (by simp) hsz (hr.mono he d))
theorem S8(b T:Nat)(d:Nat×Nat): ∀(vs:List Value) (o:Nat) (w:World) (c:Array Value),w.heap[b]? =some (.cells c T d)→
  (w.setCells b o vs).heap[b]? =some (.cells (q9 c o vs) T d)∧(∀k,k≠b→(w.setCells b o vs).heap[k]? =w.heap[k]?)∧(w.setCells b o vs).heap.size=w.heap.size∧(w.setCells b o vs).os=w.os∧(w.setCells b o vs).tape=w.tape∧(w.setCells b o vs).output=w.output
 | [],_,_,_,h=>⟨h,fun _ _=>rfl,rfl,rfl,rfl,rfl⟩
 |v::vs,o,w,c,h=>by
  have h1:(w.setCell ⟨b,o,none⟩ v).heap[b]? =some (.cells (c.setIfInBounds o v) T d):=by
   simp only[World.setCell,Array.getElem?_modify,if_true,h,Option.map_some];rfl
  obtain⟨e,g,i,j,m,p⟩:=S8 b T d vs (o+1) (w.setCell ⟨b,o,none⟩ v) _ h1;exact⟨e,fun k hk=>(g k hk).trans (Go.RowKit.Below.heap_setCell _ _ _ _ hk),i.trans (by simp[World.setCell]),j,m,p⟩
theorem Ext.setCells{H:Heap}{w:World}{b T:Nat}{d:Nat×Nat}{c:Array Value}(hb:w.heap[b]? =some (.cells c T d))(hn:H.held b=true)(vs:List Value)(o:Nat):Ext H w (w.setCells b o vs):=by
 obtain⟨h,g,i,j,m,p⟩:=S8 b T d vs o w c hb;refine⟨j,m,p,Nat.le_of_eq i.symm,fun k _ hk=>g k (fun e=>by rw[e,hn]at hk;cases hk),fun k _=>?_⟩;unfold World.shape?;by_cases hk:k=b
 ·subst hk;rw[h,hb];simp[O8]
 ·rw[g k hk]
theorem U0{w:World}{b T:Nat}{d:Nat×Nat}{c:Array Value}(hb:w.heap[b]? =some (.cells c T d))(i:Nat):w.cell? ⟨b,i,none⟩=c[i]? :=by
 unfold World.cell?;rw[hb];rfl
theorem A4J{w:World}{b T lo d:Nat}{c:Array Value}(hb:w.heap[b]? =some (.cells c T (lo,d))){i:Nat}(h: ¬(lo≤i∧i<d)):w.frozen? ⟨b,i,none⟩=false:=by
 unfold World.frozen?;rw[hb];simp only;rw[Bool.and_eq_false_iff];by_cases h1:lo≤i
 ·right;simp;omega
 ·left;simp;omega
theorem A3W{w:World}{t:TypeId}{b o T lo g:Nat}{c vs:Array Value}{v:Value}{bb:Bool}(hv:v.cells=vs)(d:F9 P t=some (bb,vs.size))(hb:w.heap[b]? =some (.cells c T (lo,g)))(h: ∀j,j<c.size→¬(lo≤j∧j<g))(i:o+vs.size≤c.size)(h1: ∀v∈vs.toList,v.oneCell'=true):
  (storeVar t ⟨b,o,none⟩ v).run P w= .ok () (w.setCells b o vs.toList):=by
 obtain⟨_,m⟩:=A0A (P:=P) d;unfold storeVar;rw[Sem.run_bind,m w];simp only[Result.andThen_ok,hv,ne_eq,not_true_eq_false,if_false];have hl:vs.toList.length=vs.size:=by simp
 have:=run_storeCells_cells (P:=P) b o vs.toList 0 w (fun j e=>by rw[Nat.add_zero,U0 hb];rw[hl]at e;simp;omega)
  (fun j e=>by rw[Nat.add_zero];rw[hl]at e;exact A4J hb (h _ (by omega))) h1
 rwa [Nat.add_zero]at this
theorem C2k{w:World}{H:Heap}(hs:Sat H w){d:D}{cs:List D}(h:A4G H d=some cs){v:Value}(hr:R w H d v):
  ∃b o,v= .pointer (some ⟨b,o,none⟩)∧∃g:Nat→Value,(∀i,i<cs.length→w.cell? ⟨b,o+i,none⟩=some (g i))∧(∀(i:Nat) c,cs[i]? =some c→c.one=true)∧∀(i:Nat) c,cs[i]? =some c→R w H c (g i):=by
 unfold A4G at h;split at h
 ·rename_i b off;split at h
  ·rename_i z Z hb;cases h;obtain⟨c,T,lo,r,hc,A,j,_⟩:=box_inv (hs b _ hb);refine⟨b,off,hr.box_inv,fun i=>c.getD (off+i) Go.undef,fun i r=>?_,fun i d m=>j.one (off+i) d (by rwa [List.getElem?_drop]at m),fun i d m=>j.rel (off+i) d (by rwa [List.getElem?_drop]at m)⟩;rw[U0 hc];have:off+i<c.size:=by have:=j.len;simp at r;omega
   simp[this]
  ·cases h
 ·rename_i b sz i off;split at h
  ·rename_i sz' es hb;split at h
   ·rename_i hsz;subst hsz;obtain⟨e,he,rfl⟩:=D05.1 h;obtain⟨c,T,lo,r,hc,A,_,hv⟩:=A2X (hs b _ hb);have C:=hv.each i e he;have q:i<es.length:=(D06.1 he).1;have x:(i+1)*sz≤es.length*sz:=D1c _ q;rw[Nat.add_mul,Nat.one_mul]at x;have y:=hv.le;refine⟨b,i*sz+off,hr.el_inv,fun k=>c.getD (i*sz+(off+k)) Go.undef,fun k hk=>?_,fun k d m=>hv.one i e (off+k) d he (by rwa [List.getElem?_drop]at m),fun k d m=>hv.rel i e (off+k) d he (by rwa [List.getElem?_drop]at m)⟩;rw[U0 hc];simp at hk;have:i*sz+off+k<c.size:=by omega
    rw[Nat.add_assoc]at this;simp[this,Nat.add_assoc]
   ·cases h
  ·cases h
 ·cases h;cases hr with
  |ro cs b off u hb hn hc h1 hr=>exact⟨b,off,rfl,u,hc,h1,hr⟩
 ·rename_i g;split at h
  ·rename_i z hb;cases h;obtain⟨c,T,G,hc,hl,p⟩:=hs g _ hb;have hv:v= .pointer (some ⟨g,0,none⟩):=by cases hr;rfl
   refine⟨g,0,hv,fun i=>c.getD i Go.undef,fun i r=>?_,fun i d m=>(p i d m).1,fun i d m=>(p i d m).2⟩;rw[U0 hc,Nat.zero_add];have:i<c.size:=by omega
   simp[this]
  ·cases h
 ·cases h
theorem A4x{w:World}{H:Heap}(hs:Sat H w){t:TypeId}{a d:D}(h:A0B P t a H=some d){v:Value}(hr:R w H a v): ∃u,(∀w':World,(∀b o,v= .pointer (some ⟨b,o,none⟩)→w'.heap[b]? =w.heap[b]?)→(Instr.loadAt t v).run P w'= .ok u w')∧R w H d u:=by
 unfold A0B at h;obtain⟨⟨bb,n⟩,q,h⟩:=D08.1 h;obtain⟨cs,r,h⟩:=D08.1 h;obtain⟨b,o,rfl,g,A,h1,m⟩:=C2k hs r hr;obtain⟨C,G⟩:=B2s h g h1 m;obtain⟨z,I⟩:=A0A (P:=P) q;have p: ∀w':World,(∀x o',Value.pointer (some ⟨b,o,none⟩)= .pointer (some ⟨x,o',none⟩)→w'.heap[x]? =w.heap[x]?)→∀i,i<cs.length→w'.cell? ⟨b,o+i,none⟩=some (g i):=fun w' hw i J=>by
  rw[World.cell?_of_block (w:=w) (hw b o rfl)];exact A i J
 cases bb
 ·obtain⟨L,y⟩:=G rfl;refine⟨g 0,fun w' hw=>?_,y⟩;unfold Instr.loadAt;have e:(Instr.sureAddr (.pointer (some ⟨b,o,none⟩))).run P w'= .ok ⟨b,o,none⟩ w':=rfl;rw[Sem.run_bind,e];simp only[Result.andThen_ok];unfold loadVar;rw[Sem.run_bind,z w'];simp only[Result.andThen_ok];have:=p w' hw 0 (D06.1 L).1;rw[Nat.add_zero]at this;simp only[D1C,if_false,run_load,this]
 ·obtain⟨hn,_,y⟩:=C rfl;refine⟨_,fun w' hw=>?_,y⟩;unfold Instr.loadAt;have e:(Instr.sureAddr (.pointer (some ⟨b,o,none⟩))).run P w'= .ok ⟨b,o,none⟩ w':=rfl;rw[Sem.run_bind,e];simp only[Result.andThen_ok];unfold loadVar;rw[Sem.run_bind,z w'];simp only[Result.andThen_ok];simp only[if_true];rw[Sem.run_bind,I w'];simp only[Result.andThen_ok];rw[Sem.run_bind,run_loadCells w' ⟨b,o,none⟩ n g (fun j M=>by rw[R8];exact p w' hw j (by simp only at hn;omega))];rfl
theorem A5z{w:World}{H:Heap}(hs:Sat H w){t:TypeId}{a d:D}(h:A0B P t a H=some d){v:Value}(hr:R w H a v): ∃u,(Instr.loadAt t v).run P w= .ok u w∧R w H d u:=
 let ⟨u,h1,h2⟩:=A4x (P:=P) hs h hr;⟨u,h1 w fun _ _ _=>rfl,h2⟩
theorem A9n{w:World}{H H':Heap}(hs:Sat H w){t:TypeId}{a x:D}(h:Z0 P t a x H=some H'){va C:Value}(M:R w H a va)(W:R w H x C):
  ∃w',(Instr.storeAt t va C).run P w= .ok () w'∧Sat H' w'∧Ext H w w'∧From w H H':=by
 unfold Z0 at h;split at h
 ·rename_i hc;obtain⟨z,h1⟩:=hc;obtain⟨⟨bb,n⟩,z,hn⟩:=D05.1 z;simp only at hn;subst hn;have m:=j7 W h1;rw[m.len]at z;split at h
  ·rename_i b off;split at h
   ·rename_i zs Z hb;split at h
    ·rename_i G;cases h;obtain rfl:=M.box_inv;obtain⟨c,T,lo,L,g,O,hr,hZ⟩:=box_inv (hs b _ hb);have A:H.held b=true:=J5 hb;have he:=Ext.setCells (H:=H) g A C.cells.toList off;have q:=N2 (w:=w) A (.box (P9 zs off x.cells) Z);refine⟨_,?_,?_,he,q⟩
     ·unfold Instr.storeAt;have r:(Instr.sureAddr (.pointer (some ⟨b,off,none⟩))).run P w= .ok ⟨b,off,none⟩ w:=rfl;rw[Sem.run_bind,r];exact A3W rfl z g O (by rw[←m.len,←hr.len];exact G) m.oneCell
     ·obtain⟨X,Y,_⟩:=S8 b T (lo,L) C.cells.toList off w c g;exact hs.update he q (fun k _ hk=>Y k hk) (A4I hZ X (by rw[O8];exact O) ((hr.put m off).mono he q))
    ·cases h
   ·cases h
  ·rename_i b sz i off;split at h
   ·rename_i sz' es hb;split at h
    ·rename_i G;obtain⟨hsz,L,G⟩:=G;subst hsz;cases h;obtain rfl:=M.el_inv;obtain⟨c,T,lo,a0,g,O,hsz,hv⟩:=A2X (hs b _ hb);have A:H.held b=true:=J5 hb;have he:=Ext.setCells (H:=H) g A C.cells.toList (i*sz+off);have q:=N2 (w:=w) A (.vec sz (es.set i (P9 (es.getD i []) off x.cells)));have J:es[i]? =some (es.getD i []):=by simp[D1D L]
     have a4:=hv.each i _ J;have U:(i+1)*sz≤es.length*sz:=D1c _ L;rw[Nat.add_mul,Nat.one_mul]at U;have b0:=hv.le;refine⟨_,?_,?_,he,q⟩
     ·unfold Instr.storeAt;have r:(Instr.sureAddr (.pointer (some ⟨b,i*sz+off,none⟩))).run P w= .ok ⟨b,i*sz+off,none⟩ w:=rfl;rw[Sem.run_bind,r];exact A3W rfl z g O (by rw[←m.len];omega) m.oneCell
     ·obtain⟨X,Y,_⟩:=S8 b T (lo,a0) C.cells.toList (i*sz+off) w c g;refine hs.update he q (fun k _ hk=>Y k hk) (A04 X (by rw[O8];exact O) hsz (VecR.mono ?_ he q));have hlen:C.cells.toList.length=x.cells.length:=by rw[m.len];simp
      have I: ∀(p:Nat) (e:List D) (j:Nat) d,(es.set i (P9 (es.getD i []) off x.cells))[p]? =some e→e[j]? =some d→d.one=true∧R w H d ((q9 c (i*sz+off) C.cells.toList).getD (p*sz+j) Go.undef):=by
       intro p e j d o y;have hg:(q9 c (i*sz+off) C.cells.toList).getD (p*sz+j) Go.undef=((q9 c (i*sz+off) C.cells.toList)[p*sz+j]?).getD Go.undef:=by simp
       rw[hg,A03,hlen];by_cases u:i=p
       ·subst u;rw[List.getElem?_set_self L]at o;cases o;rw[A4E]at y;have a5:j<sz:=by
         have:j<(es.getD i []).length:=by
          split at y
          ·omega
          ·exact(D06.1 y).1
         omega
        by_cases V:off≤j∧j<off+x.cells.length∧j<(es.getD i []).length
        ·rw[if_pos V]at y;rw[if_pos (by omega),show i*sz+j-(i*sz+off)=j-off by omega];refine⟨m.one _ _ y,?_⟩;have:=m.rel _ _ y;simpa using this
        ·rw[if_neg V]at y;rw[if_neg (by omega)];refine⟨hv.one i _ j d J y,?_⟩;have:=hv.rel i _ j d J y;simpa using this
       ·rw[List.getElem?_set_ne u]at o;have a5:j<sz:=by
         have h1:=hv.each p e o;have h2:=(D06.1 y).1;omega
        have a6: ¬(i*sz+off≤p*sz+j∧p*sz+j<i*sz+off+x.cells.length∧p*sz+j<c.size):=by
         rcases Nat.lt_or_gt_of_ne u with a7|a9
         ·have:=D1c sz (show i+1≤p from a7);rw[Nat.add_mul,Nat.one_mul]at this;omega
         ·have:=D1c sz (show p+1≤i from a9);rw[Nat.add_mul,Nat.one_mul]at this;omega
        rw[if_neg a6];refine⟨hv.one p e j d o y,?_⟩;have:=hv.rel p e j d o y;simpa using this
      refine⟨by rw[O8,D1t];exact hv.le,fun p e o=>?_,fun p e j d a b=>(I p e j d a b).1,fun p e j d a b=>(I p e j d a b).2⟩;by_cases u:i=p
      ·subst u;rw[List.getElem?_set_self L]at o;cases o;rw[A1Q];exact a4
      ·rw[List.getElem?_set_ne u]at o;exact hv.each p e o
    ·cases h
   ·cases h
  ·cases h
 ·cases h
theorem A3X{w:World}{H:Heap}{t:TypeId}{z:List D}(h:G2 P t=some z): ∃v,Runs P (zeroValue t) v∧RowR w H z v.cells:=by
 obtain⟨v,hv,he,h1⟩:=A4D h;refine⟨v,hv,?_⟩;subst he;refine⟨by simp,fun i c hc=>D1X.1 h1 c (D1T hc),fun i c hc=>?_⟩;simp only[D1J,D05]at hc;obtain⟨u,d,rfl⟩:=hc;have:v.cells.getD i Go.undef=u:=by
  have e:v.cells[i]? =some u:=by simpa using d
  simp[e]
 rw[this];exact A1w w H u
end
section
variable {P:Program}
theorem B2t{w:World}{H:Heap}{sz:Nat}{xs:List (List D)}(g:Nat→Value)(hl: ∀(i:Nat) e,xs[i]? =some e→e.length=sz)(h1: ∀(i:Nat) (e:List D) (j:Nat) d,xs[i]? =some e→e[j]? =some d→d.one=true)
  (hr: ∀(i:Nat) (e:List D) (j:Nat) d,xs[i]? =some e→e[j]? =some d→R w H d (g (i*sz+j))):VecR w H sz xs ((List.range (xs.length*sz)).map g).toArray:=by
 refine⟨by simp,hl,h1,fun i e j d he m=>?_⟩;have p:=(D06.1 he).1;have q:j<sz:=by
  have o:=(D06.1 m).1;rw[hl i e he]at o;exact o
 have hm:(i+1)*sz≤xs.length*sz:=D1c _ p;rw[Nat.add_mul,Nat.one_mul]at hm;have h:i*sz+j<xs.length*sz:=by omega
 have:((List.range (xs.length*sz)).map g).toArray.getD (i*sz+j) Go.undef=g (i*sz+j):=by simp[h]
 rw[this];exact hr i e j d he m
theorem VecR.oneCell{w:World}{H:Heap}{sz:Nat}{es:List (List D)}{c:Array Value}(h:VecR w H sz es c)(hs:c.size=es.length*sz)(hsz:0<sz): ∀v∈c.toList,v.oneCell'=true:=by
 intro v hv;obtain⟨k,hk⟩:=List.getElem?_of_mem hv;have d:k<c.size:=by
  have:=(D06.1 hk).1;simpa using this
 have i:k / sz<es.length:=by rw[hs]at d;exact Nat.div_lt_of_lt_mul (by rwa [Nat.mul_comm]at d)
 have j:k % sz<sz:=Nat.mod_lt _ hsz;have he:es[k / sz]? =some es[k / sz]:=D1D i;have hl:=h.each _ _ he;have g:(es[k / sz])[k % sz]? =some ((es[k / sz])[k % sz]'(by rw[hl];exact j)):=D1D _;have e1:k / sz*sz+k % sz=k:=by rw[Nat.mul_comm];exact Nat.div_add_mod k sz
 have:=(h.rel _ _ _ _ he g).oneCell (h.one _ _ _ _ he g);rw[e1]at this;have e:c.getD k Go.undef=v:=by
  have m:c[k]? =some v:=by simpa using hk
  simp[m]
 rwa [e]at this
theorem A8E{w:World}{H:Heap}(hs:Sat H w){sz:Nat}(hsz:0<sz){d:D}{xs:List (List D)}(h:M7 H sz d=some xs){v:Value}(hr:R w H d v):
  ∃us:Array Value,us.size=xs.length*sz∧VecR w H sz xs us∧∀W:World,W.heap=w.heap→(Builtin.lenOf v).run P W= .ok xs.length W∧(Builtin.firstCells sz xs.length v).run P W= .ok us W:=by
 have o: ∀(W:World),W.heap=w.heap→∀a,W.cell? a=w.cell? a:=fun W r a=>by unfold World.cell?;rw[r]
 cases d<;>simp only[M7]at h<;>try(cases h;done)
 case nilsl=>
  cases h;cases hr;exact⟨#[],by simp,⟨by simp,by simp,by simp,by simp⟩,fun W _=>⟨rfl,rfl⟩⟩
 case sl sz' es=>
  split at h
  ·rename_i e;cases h;subst e;cases hr with
   |sl0 sz a cap=>
    refine⟨#[],by simp,⟨by simp,by simp,by simp,by simp⟩,fun W _=>⟨rfl,?_⟩⟩;cases a with
    |none=>rfl
    |some a=>
     show (loadCells a (0*sz)).run P W=_;rw[Nat.zero_mul];rfl
   |sl sz es b off cap u hb hn x hcap hc h1 hr=>
    refine⟨((List.range (xs.length*sz)).map fun k=>u (k / sz) (k % sz)).toArray,by simp,B2t (fun k=>u (k / sz) (k % sz)) x h1 (fun i e j d he g=>?_),fun W r=>⟨rfl,?_⟩⟩
    ·have A:j<sz:=by
      have y:=(D06.1 g).1;rw[x i e he]at y;exact y
     have e1:(i*sz+j) / sz=i:=by rw[Nat.mul_comm,Nat.mul_add_div hsz,Nat.div_eq_of_lt A,Nat.add_zero]
     have e2:(i*sz+j) % sz=j:=by rw[Nat.mul_comm,Nat.mul_add_mod,D1x A]
     simp only[e1,e2];exact hr i e j d he g
    ·show (loadCells ⟨b,off,none⟩ (xs.length*sz)).run P W=_;refine run_loadCells W _ _ _ (fun k hk=>?_);rw[R8,o W r];have J:k / sz<xs.length:=Nat.div_lt_of_lt_mul (by rwa [Nat.mul_comm]at hk);have:=hc (k / sz) (k % sz) J (Nat.mod_lt _ hsz);rw[←this];have e1:k / sz*sz+k % sz=k:=by rw[Nat.mul_comm];exact Nat.div_add_mod k sz
     rw[Nat.add_assoc,e1]
  ·cases h
 case vec b sz' lo n=>
  split at h
  ·rename_i e;subst e;split at h
   ·rename_i C es hb;split at h
    ·rename_i hc;obtain⟨e,z⟩:=hc;subst e;cases h;obtain⟨c,T,X,L,p,Y,_,hv⟩:=A2X (hs b _ hb);have hlen:((es.drop lo).take n).length=n:=by simp;omega
     cases hr with
     |vec b sz lo n cap T' m M O G hn=>
      have q: ∀(i:Nat) e,((es.drop lo).take n)[i]? =some e→es[lo+i]? =some e:=fun i e he=>by
       rw[List.getElem?_take]at he;split at he
       ·rwa [List.getElem?_drop]at he
       ·cases he
      refine⟨((List.range (((es.drop lo).take n).length*sz)).map fun k=>c.getD (lo*sz+k) Go.undef).toArray,by simp,B2t (fun k=>c.getD (lo*sz+k) Go.undef) (fun i e he=>hv.each _ e (q i e he)) (fun i e j d he g=>hv.one _ e j d (q i e he) g) (fun i e j d he g=>?_),fun W r=>⟨by rw[hlen];rfl,?_⟩⟩
      ·have:=hv.rel _ e j d (q i e he) g;rwa [Nat.add_mul,Nat.add_assoc]at this
      ·rw[hlen];show (loadCells ⟨b,lo*sz,none⟩ (n*sz)).run P W=_;refine run_loadCells W _ _ _ (fun k hk=>?_);rw[R8,o W r,U0 p];have h1:=hv.le;have y:(lo+n)*sz≤es.length*sz:=D1c _ z;rw[Nat.add_mul]at y;have:lo*sz+k<c.size:=by omega
       simp[this]
     |vec0 b sz lo off=>
      rw[List.take_zero];exact⟨#[],by simp,⟨by simp,fun i e he=>by simp at he,fun i e j d he g=>by simp at he,fun i e j d he g=>by simp at he⟩,fun W _=>⟨rfl,by
       show (loadCells ⟨b,off,none⟩ (0*sz)).run P W=_;rw[Nat.zero_mul];rfl⟩⟩
    ·cases h
   ·cases h
  ·cases h
 case str s=>
  split at h
  ·rename_i e;subst e;cases h;obtain rfl:=hr.str_inv;have hl:(F1 s).length=s.size:=by simp[F1]
   refine⟨s.data.map fun b=>.int .u8 b.toNat,by simp[hl],⟨by simp[hl],fun i e he=>?_,fun i e j d he g=>?_,fun i e j d he g=>?_⟩,fun W _=>⟨by rw[hl];rfl,?_⟩⟩
   ·simp only[F1,D1J,D05]at he;obtain⟨u,_,rfl⟩:=he;rfl
   ·simp only[F1,D1J,D05]at he;obtain⟨u,_,rfl⟩:=he;cases j with
    |zero=>simp at g;subst g;rfl
    |succ j=>simp at g
   ·simp only[F1,D1J,D05]at he;obtain⟨u,I,rfl⟩:=he;cases j with
    |zero=>
     simp at g;subst g;have U:=(D06.1 I).1;have:(s.data.map fun b=>Value.int .u8 b.toNat).getD (i*1+0) Go.undef= .int .u8 u.toNat:=by
      have V:s.data[i]? =some u:=by simpa using I
      simp[V]
     rw[this];exact .int _ _
    |succ j=>simp at g
   ·rw[hl];show (Pure.pure ((s.extract 0 s.size).data.map fun b=>Value.int .u8 b.toNat):Sem (Array Value)).run P W=_;have:s.extract 0 s.size=s:=by
     apply ByteArray.ext;simp[ByteArray.extract,ByteArray.copySlice]
    rw[this];rfl
  ·cases h
theorem VecR.take{w:World}{H:Heap}{sz:Nat}{es:List (List D)}{c:Array Value}(h:VecR w H sz es c)(n:Nat):VecR w H sz (es.take n) c:=by
 have g: ∀(i:Nat) e,(es.take n)[i]? =some e→es[i]? =some e:=fun i e he=>by
  rw[List.getElem?_take]at he;split at he
  ·exact he
  ·cases he
 refine⟨D12 (D1c _ ?_) h.le,fun i e he=>h.each i e (g i e he),fun i e j d he m=>h.one i e j d (g i e he) m,fun i e j d he m=>h.rel i e j d (g i e he) m⟩;simp;omega
theorem VecR.join{w:World}{H:Heap}{sz:Nat}{es xs:List (List D)}{c us r:Array Value}(h:VecR w H sz es c)(k:VecR w H sz xs us)
  (h1: ∀i,i<es.length*sz→r.getD i Go.undef=c.getD i Go.undef) (u: ∀i,i<xs.length*sz→r.getD (es.length*sz+i) Go.undef=us.getD i Go.undef) (hs:(es.length+xs.length)*sz≤r.size):VecR w H sz (es++xs) r:=by
 have m: ∀{l:List (List D)} {i j:Nat} {e:List D} {d:D},(∀(i:Nat) e,l[i]? =some e→e.length=sz)→l[i]? =some e→e[j]? =some d→i*sz+j<l.length*sz:=by
  intro l i j e d hl he p;have q:=(D06.1 he).1;have x:=(D06.1 p).1;rw[hl i e he]at x;have hm:(i+1)*sz≤l.length*sz:=D1c _ q;rw[Nat.add_mul,Nat.one_mul]at hm;omega
 have o: ∀(i:Nat) e,(es++xs)[i]? =some e→(i<es.length∧es[i]? =some e)∨(es.length≤i∧xs[i-es.length]? =some e):=fun i e he=>by
  by_cases q:i<es.length
  ·rw[D1q q]at he;exact .inl ⟨q,he⟩
  ·rw[D1r (by omega)]at he;exact .inr ⟨by omega,he⟩
 refine⟨by simpa using hs,fun i e he=>?_,fun i e j d he p=>?_,fun i e j d he p=>?_⟩
 ·rcases o i e he with⟨_,g⟩|⟨_,g⟩
  ·exact h.each _ _ g
  ·exact k.each _ _ g
 ·rcases o i e he with⟨_,g⟩|⟨_,g⟩
  ·exact h.one _ _ _ _ g p
  ·exact k.one _ _ _ _ g p
 ·rcases o i e he with⟨_,g⟩|⟨y,g⟩
  ·rw[h1 _ (m h.each g p)];exact h.rel _ _ _ _ g p
  ·have:=u _ (m k.each g p);have e1:i*sz+j=es.length*sz+((i-es.length)*sz+j):=by
    rw[←Nat.add_assoc,←Nat.add_mul,show es.length+(i-es.length)=i by omega]
   rw[e1,this];exact k.rel _ _ _ _ g p
theorem append_types{d:TypeId}(h:C9 P d= .slice∨C9 P d= .str):(∃e,P.underlying d=some (.slice e))∨P.underlying d=some .string:=by
 rcases h with h|h
 ·exact .inl (Y9 h)
 ·exact .inr (V8 h)
theorem A0s{w:World}{t h ty e sz j n cap m:Nat}{base:Option Addr}{x:Value}{us:Array Value}(he:H6 P t=some (e,sz,j))(o:C9 P h= .slice∨C9 P h= .str)
    (hl:(Builtin.lenOf x).run P w= .ok m w) (u:(Builtin.firstCells sz m x).run P w= .ok us w) (p:n+m≤cap):
    (Builtin.append_ #[t,h] ty #[.slice base n cap,x]).run P w=(match base with|some a=>(do storeCells (a.add (n*sz)) us.toList;pure (.slice base (n+m) cap):Sem Value)|none=>pure (.slice base (n+m) cap)).run P w:=by
  obtain⟨q,i,r,d,_⟩:=V9 he;simp only at q r d;unfold Builtin.append_;simp only[List.getElem?_toArray,List.getElem?_cons_zero,D1S];rw[Sem.run_bind,run_underlying q];simp only[Result.andThen_ok];rw[Sem.run_bind,H8 r w];simp only[Result.andThen_ok,d];rcases append_types o with⟨e',g⟩|g<;>
  ( rw[Sem.run_bind,run_underlying g]
    simp only[Result.andThen_ok];rw[Sem.run_bind];simp only[Sem.run_pure,Result.andThen_ok,D1C,if_false];rw[Sem.run_bind,hl];simp only[Result.andThen_ok,p,if_true,D2L];rw[Sem.run_bind,u];cases base<;>rfl)
theorem A1z{w:World}{t r ty e sz d n cap m:Nat}{base:Option Addr}{x z:Value}{us os:Array Value}(he:H6 P t=some (e,sz,d))(u:C9 P r= .slice∨C9 P r= .str)
    (hl:(Builtin.lenOf x).run P w= .ok m w) (I: ∀W:World,W.heap=w.heap→(Builtin.firstCells sz m x).run P W= .ok us W) (ho: ∀W:World,W.heap=w.heap→(Builtin.firstCells sz n (.slice base n cap)).run P W= .ok os W) (J:Runs P (zeroValue e) z) (y: ¬n+m≤cap)
    (A:(n+m)*d≤140737488355328) (L:n+m≤9223372036854775807): ∃q,n+m≤q∧
    (Builtin.append_ #[t,r] ty #[.slice base n cap,x]).run P w= .ok (.slice (some ⟨w.heap.size,0,none⟩) (n+m) q) (({w with drawn:=w.drawn+1}:World).alloc (.cells (os++us++Builtin.zeroCells z.cells (q-(n+m))) e)):=by
  obtain⟨G,i,g,h,j⟩:=V9 he;simp only at G g h j;refine⟨(Question.appendCap (n+m) cap e).cut (w.tape w.drawn (.appendCap (n+m) cap e)),by simp only[Question.cut];omega,?_⟩;generalize C:(Question.appendCap (n+m) cap e).cut (w.tape w.drawn (.appendCap (n+m) cap e))=q;unfold Builtin.append_;simp only[List.getElem?_toArray,List.getElem?_cons_zero,D1S];rw[Sem.run_bind,run_underlying G];simp only[Result.andThen_ok];rw[Sem.run_bind,H8 g w];simp only[Result.andThen_ok,h];have hm:IntKind.i64.max=9223372036854775807:=by decide
  have h1: ¬(((n+m:Nat):Int) > IntKind.i64.max∧(False∨i.bytes=0)):=by rw[hm];omega
  have M: ¬(Builtin.nextslicecap (n+m) cap*i.bytes > 2 ^ 48):=by
    have:=growslice_fits (need:=n+m) (old:=cap) (bytes:=d) (by omega) A;rw[j];omega
  have o: ∀(k:Nat) (W:World),(askRoom k).run P W= .ok () W:=fun k W=>by unfold askRoom;split<;>rfl
  rcases append_types u with⟨e',p⟩|p<;>
  ( rw[Sem.run_bind,run_underlying p]
    simp only[Result.andThen_ok];rw[Sem.run_bind];simp only[Sem.run_pure,Result.andThen_ok,D1C,if_false];rw[Sem.run_bind,hl];simp only[Result.andThen_ok,y,if_false,D2L,if_true];rw[Sem.run_bind,N9 g w];simp only[Result.andThen_ok,if_neg h1];rw[Sem.run_bind,N9 g w];simp only[Result.andThen_ok,if_neg M];rw[Sem.run_bind,run_choose];simp only[Question.forced,D1C,if_false,Result.andThen_ok,C];rw[Sem.run_bind,N9 g];simp only[Result.andThen_ok];rw[Sem.run_bind,o];simp only[Result.andThen_ok];rw[Sem.run_bind,ho {w with drawn:=w.drawn+1} rfl];simp only[Result.andThen_ok];rw[Sem.run_bind,I {w with drawn:=w.drawn+1} rfl];simp only[Result.andThen_ok];rw[Sem.run_bind,J];simp only[Result.andThen_ok];rfl)
end
section
variable {P:Program}
theorem B5b{t u:TypeId}(h:A1t P t=some u):t=u:=by
 unfold A1t at h;split at h
 ·split at h
  ·cases h;rfl
  ·cases h
 ·cases h
def D.toV1:D→Value
 | .int k n=>.int k n
 | .str s=>.string s
 | .bool b=>.bool b
 |_=>Go.undef
def D.toV:D→Value
 | .agg cs=>.agg (cs.map D.toV1).toArray
 |d=>d.toV1
theorem A9o{d:D}(h:d.key=true){w:World}{H:Heap}{v:Value}(hr:R w H d v):v=d.toV1:=by
 cases d<;>simp[D.key]at h
 ·exact hr.bool_inv
 ·exact hr.int_inv
 ·exact hr.str_inv
theorem A8F{d:D}(h:d.key=true)(w:World)(H:Heap):R w H d d.toV1:=by
 cases d<;>simp[D.key]at h<;>constructor
theorem A8G{d:D}(h:d.key=true):d.one=true:=by cases d<;>simp[D.key]at h<;>rfl
theorem A8H{d:D}(h:d.keyA=true){w:World}{H:Heap}{v:Value}(hr:R w H d v):v=d.toV:=by
 cases d
 case agg cs=>
  cases hr with
  |agg _ vs hl h1 hr=>
   simp only[D.keyA,D1X]at h;simp only[D.toV,Value.agg.injEq];apply Array.ext
   ·simpa using hl.symm
   ·intro i g j;have e:i<cs.length:=by omega
    have:=A9o (h _ (D1A e)) (hr i cs[i] (D1D e));simp only[D00,Array.getElem?_eq_getElem g,Option.getD_some]at this;simpa using this
 all_goals exact A9o (d:=_) (by exact h) hr
theorem B5c{d:D}(h:d.keyA=true)(w:World)(H:Heap):R w H d d.toV:=by
 cases d
 case agg cs=>
  simp only[D.keyA,D1X]at h;refine .agg cs _ (by simp) (fun i d e=>A8G (h d (D1T e))) (fun i d e=>?_);have:((cs.map D.toV1).toArray).getD i Go.undef=d.toV1:=by simp[e]
  rw[this];exact A8F (h d (D1T e)) w H
 all_goals exact A8F (d:=_) (by exact h) w H
theorem A7I(s t:ByteArray):(s.data.toList==t.data.toList)=true↔s=t:=by
 rw[beq_iff_eq];constructor
 ·intro h;apply ByteArray.ext;exact Array.toList_inj.1 h
 ·intro h;rw[h]
theorem A50{b:R7}{x y:D}{c:Bool}(h:V6 b x y=some c):c=true↔x.toV1=y.toV1:=by
 unfold V6 at h;split at h
 ·split at h
  ·rename_i hk;subst hk;cases h;simp[D.toV1]
  ·cases h
 ·cases h;simp only[D.toV1,Value.string.injEq];exact A7I _ _
 ·cases h;simp[D.toV1]
 ·cases h
theorem A7J{b:R7}{xs j:List D}: ∀(d:List Nat) (c:Bool),V7 (d.map fun i=>(i,b)) xs j=some c→(c=true↔∀i∈d,(xs[i]?).map D.toV1=(j[i]?).map D.toV1)
 | [],c,h=>by simp[V7]at h;subst h;simp
 |i::d,c,h=>by
  simp only[D2D,V7]at h;split at h
  ·rename_i x y hx m;obtain⟨p,e,h⟩:=D08.1 h;obtain⟨o,g,rfl⟩:=D05.1 h;have e1:=A50 e;have e2:=A7J d o g;simp only[D09,e1,e2,D1O,forall_eq_or_imp,hx,m,Option.map_some,D1Y]
  ·cases h
theorem A7K{j:KK}{x y:D}{c:Bool}(h:A4w j x y=some c)(hx:S7 j x=true)(r:y.keyA=true):c=true↔x.toV=y.toV:=by
 unfold A4w at h;split at h
 ·rename_i b;have e:=A50 h;have m: ∀z:D,(∀cs,z≠ .agg cs)→z.toV=z.toV1:=fun z q=>by cases z<;>first|rfl|exact absurd rfl (q _)
  rw[m x (by intro cs d;subst d;simp[S7]at hx),m y (by intro cs d;subst d;simp[V6]at h)];exact e
 ·rename_i n b xs u;split at h
  ·rename_i hl;have e:=A7J _ _ h;rw[e];simp only[D.toV,Value.agg.injEq,List.mem_range];constructor
   ·intro g;apply Array.ext
    ·simp;omega
    ·intro i h1 o;simp only[List.size_toArray,D1f]at h1 o;have:=g i (by omega);rw[D1D h1,D1D o]at this;simpa using this
   ·intro g i A;have p:=congrArg Array.toList g;simp only at p;have:=congrArg (·[i]?) p;simpa using this
  ·cases h
 ·cases h
def R9:TypeDesc→Prop
 | .bool| .int _| .string=>True
 |_=>False
theorem A7L{t:TypeId}(h:B87 (C9 P t)=true): ∃d,P.underlying t=some d∧R9 d:=by
 unfold B87 at h;simp only[D1I]at h;unfold C9 at h;split at h<;>rename_i e<;>first|exact⟨_,e,trivial⟩|(simp at h;done)
theorem l4{t g m:TypeId}{j:KK}(h:A3T P t=some (g,m,j)):P.underlying t=some (.map g m)∧
  ((∃d,j= .one (C9 P g)∧P.underlying g=some d∧R9 d)∨∃n e' i,j= .arr n (C9 P e')∧P.underlying g=some (.array n e')∧P.info? e'=some i∧i.size=1∧F9 P e'=some (false,1)∧∃d,P.underlying e'=some d∧R9 d):=by
 unfold A3T at h;split at h
 ·rename_i k e o;split at h
  ·rename_i n e' hk;split at h
   ·rename_i hc;cases h;obtain⟨i,p,hs⟩:=D05.1 hc.1;exact⟨o,.inr ⟨n,e',i,rfl,hk,p,hs,hc.2.1,A7L hc.2.2⟩⟩
   ·cases h
  ·split at h
   ·rename_i hc;cases h;obtain⟨d,q,hp⟩:=A7L hc;exact⟨o,.inl ⟨d,rfl,q,hp⟩⟩
   ·cases h
 ·cases h
theorem A51{w:World}{t:TypeId}{d:TypeDesc}(g:P.underlying t=some d)(hp:R9 d)(v:Value)(e:Bool)(n:Nat):(Instr.checkKey e (n+1) t v).run P w= .ok () w:=by
 unfold Instr.checkKey;simp only[Sem.run_bind,run_underlying g,Result.andThen];cases d<;>first|rfl|exact hp.elim
theorem A4K{w:World}{t r C:TypeId}{x:KK}{k:D}(hm:A3T P t=some (r,C,x))(hk:S7 x k=true)(e:Bool):(Instr.checkKey e 10000 r k.toV).run P w= .ok () w:=by
 rcases(l4 hm).2 with⟨d,rfl,g,hp⟩|⟨n,e',i,rfl,G,z,hs,m,d,g,hp⟩
 ·exact A51 g hp _ _ 9999
 ·cases k with
  |agg cs=>
   simp only[S7,S7.d1,D09,D1I,D1X]at hk;obtain⟨hl,h⟩:=hk;rw[show (10000:Nat)=9998+1+1 from rfl,Instr.checkKey];simp only[D.toV,Sem.run_bind,run_underlying G,Result.andThen_ok];simp only[Std.Legacy.Range.forIn_eq_forIn_range',Std.Legacy.Range.size,Nat.sub_zero,Nat.add_one_sub_one,Nat.div_one];have each: ∀j∈List.range' 0 n,j<n:=fun j p=>by simp at p;omega
   generalize List.range' 0 n=A at each
   induction A with
   |nil=>simp
   |cons j A I=>
    have p:j<cs.length:=by have:=each j (by simp);omega
    obtain⟨u,q,_⟩:=y4 (P:=P) m (o:=j) (cs:=cs) (vs:=(cs.map D.toV1).toArray) (d:=cs[j]) (by simp[z8,p]) (w:=w) (H:=fun _=>none) (by simp)
     (fun i d g=>A8G (h d (D1T g))) (fun i d g=>by
      have:((cs.map D.toV1).toArray).getD i Go.undef=d.toV1:=by simp[g]
      rw[this];exact A8F (h d (D1T g)) _ _)
    have hc:P.cellsOf e'=1:=by simp[Program.cellsOf,z,hs]
    simp only[List.forIn_cons,Sem.run_bind,run_sizeOf w z,hc,Result.andThen_ok,Nat.mul_one,q w,A51 g hp,Sem.run_pure];exact I (fun y J=>each y (by simp[J]))
  |_=>simp[S7]at hk
structure KvR(w:World)(H:Heap)(kvs:List (D×D))(es:List MapEntry):Prop where
 len:es.length=kvs.length
 key: ∀(i:Nat) (p:D×D) (e:MapEntry),kvs[i]? =some p→es[i]? =some e→p.1.keyA=true∧e.key=p.1.toV∧R w H p.2 e.val
theorem KvR.tail{w:World}{H:Heap}{p:D×D}{kvs:List (D×D)}{e:MapEntry}{es:List MapEntry}(h:KvR w H (p::kvs) (e::es)):KvR w H kvs es:=
 ⟨by have:=h.len;simpa using this,fun i d e' hp he=>h.key (i+1) d e' (by simpa using hp) (by simpa using he)⟩
theorem B4F{b:R7}{x y:D}{c:Bool}(h:V6 b x y=some c){g:TypeId}{d:TypeDesc}(hb:b=C9 P g)(i:P.underlying g=some d)(hp:R9 d)(j:y.keyA=true):Instr.sameNow d x.toV y.toV=some c:=by
 have e:b=(match d with| .bool=>.bool| .int _=>.int|_=>.str):=by
  subst hb;simp only[C9,i];cases d<;>first|rfl|exact hp.elim
 unfold V6 at h;split at h
 ·split at h
  ·rename_i hk;subst hk;cases h;cases d<;>simp[R9]at hp e;simp[D.toV,D.toV1,Instr.sameNow]
  ·cases h
 ·cases h;cases d<;>simp[R9]at hp e;rename_i s t;have:(s==t)=(s.data.toList==t.data.toList):=by
   apply Bool.eq_iff_iff.2;rw[MapKept.bytes_beq,A7I]
  simp[D.toV,D.toV1,Instr.sameNow,this]
 ·cases h;cases d<;>simp[R9]at hp e;simp[D.toV,D.toV1,Instr.sameNow]
 ·cases h
def Found(w:World)(H:Heap)(kvs:List (D×D))(es:List MapEntry)(k:D)(i:Nat)(r:Option (Nat×D))(r':Option (Nat×Value)):Prop:=match r with
 |none=>r'=none∧∀x∈es,x.key≠k.toV
 |some (j,d)=>∃e p,i≤j∧es[j-i]? =some e∧kvs[j-i]? =some p∧p.2=d∧r'=some (j,e.val)∧e.key=k.toV∧R w H d e.val
theorem Found.cons{w:World}{H:Heap}{p:D×D}{kvs:List (D×D)}{e:MapEntry}{es:List MapEntry}{k:D}{i:Nat}{r:Option (Nat×D)}{m:Option (Nat×Value)}(h:Found w H kvs es k (i+1) r m)(g:e.key≠k.toV):Found w H (p::kvs) (e::es) k i r m:=by
 cases r with
 |none=>exact⟨h.1,fun x hx=>by rcases D1O.1 hx with rfl|hx;exact g;exact h.2 x hx⟩
 |some q=>
  obtain⟨j,d⟩:=q;obtain⟨e',o,u,h1,y,z,A,h5,C⟩:=h;have:j-i=(j-(i+1))+1:=by omega
  exact⟨e',o,by omega,by rw[this];simpa using h1,by rw[this];simpa using y,z,A,h5,C⟩
theorem A9p{w:World}{H:Heap}{u:TypeId}{d:TypeDesc}{k:D}(C:P.underlying u=some d)(hp:R9 d)(hk:S7 (.one (C9 P u)) k=true): ∀(kvs:List (D×D)) (es:List MapEntry) (i:Nat) (r:Option (Nat×D)),KvR w H kvs es→
  Q0 (.one (C9 P u)) k kvs i=some r→∃q,Instr.findNow d k.toV es i=some q∧Found w H kvs es k i r q
 | [],es,i,r,g,h=>by
  have:es= []:=D1K (by simpa using g.len);subst this;simp[Q0]at h;subst h;exact⟨none,rfl,rfl,by simp⟩
 |p::kvs,[],i,r,g,h=>by have:=g.len;simp at this
 |p::kvs,e::es,i,r,g,h=>by
  obtain⟨o,m,G⟩:=g.key 0 p e rfl rfl;unfold Q0 at h;obtain⟨c,hc,h⟩:=D08.1 h;have j:=A7K hc hk o;have z:=B4F (P:=P) (x:=k) (y:=p.1) (by exact hc) rfl C hp o;unfold Instr.findNow;rw[m,z];cases c
  ·simp only[D1C,if_false]at h;obtain⟨q,A,I⟩:=A9p C hp hk kvs es (i+1) r g.tail h;refine⟨q,A,I.cons ?_⟩;rw[m];intro J;have:=j.2 J.symm;cases this
  ·simp only[if_true,D1Y]at h;subst h;refine⟨_,rfl,e,p,D1G _,by simp,by simp,rfl,rfl,?_,G⟩;rw[m];exact(j.1 rfl).symm
theorem A52{w0:World}{H:Heap}{e':TypeId}{b:R7}{xs C:List D}{vs us:Array Value}(hb:b=C9 P e')(e:F9 P e'=some (false,1))(d:Nat)(hx:RowR w0 H xs vs)(g:RowR w0 H C us): ∀(j:List Nat) (c:Bool),
  V7 (j.map fun i=>(i,b)) xs C=some c→∀w,(Op.eqItems (d+1) e' 1 vs us j).run P w= .ok c w
 | [],c,h,w=>by simp[V7]at h;subst h;rfl
 |i::j,c,h,w=>by
  simp only[D2D,V7]at h;split at h
  ·rename_i x y m o;obtain⟨I,p,h⟩:=D08.1 h;obtain⟨J,q,rfl⟩:=D05.1 h;have G: ∀(cs:List D) (z:D),cs[i]? =some z→z8 (false,1) (cs.drop i)=some z:=fun cs z L=>by
    simp only[z8,List.head?_drop];exact L
   obtain⟨a,M,r⟩:=y4 (P:=P) e (G _ _ m) hx.len hx.one hx.rel;obtain⟨O,u,A⟩:=y4 (P:=P) e (G _ _ o) g.len g.one g.rel;subst hb;have hc:=A4v (P:=P) (d:=d) p r A;unfold Op.eqItems;simp only[Sem.run_bind,Nat.mul_one,M w,Result.andThen_ok,u w,hc w];cases I
   ·simp
   ·simp only[D2K,D1C,if_false,Bool.true_and];exact A52 rfl e d hx g j J q w
  ·cases h
theorem A9q{w:World}{H:Heap}{cs:List D}(h:cs.all D.key=true):RowR w H cs (cs.map D.toV1).toArray:=by
 have g:=D1X.1 h;refine⟨by simp,fun i d e=>A8G (g d (D1T e)),fun i d e=>?_⟩;have:((cs.map D.toV1).toArray).getD i Go.undef=d.toV1:=by simp[e]
 rw[this];exact A8F (g d (D1T e)) w H
theorem A9r{w:World}{H:Heap}{y e':TypeId}{n:Nat}{i:TypeInfo}{k:D}(I:P.underlying y=some (.array n e'))(A:P.info? e'=some i)(o:i.size=1)(q:F9 P e'=some (false,1))(hk:S7 (.arr n (C9 P e')) k=true):
  ∀(kvs:List (D×D)) (es:List MapEntry) (j:Nat) (r:Option (Nat×D)),KvR w H kvs es→
  Q0 (.arr n (C9 P e')) k kvs j=some r→∃z,(∀w',(Instr.findAsking y k.toV es j).run P w'= .ok z w')∧Found w H kvs es k j r z
 | [],es,j,r,d,h=>by
  have:es= []:=D1K (by simpa using d.len);subst this;simp[Q0]at h;subst h;exact⟨none,fun _=>rfl,rfl,by simp⟩
 |p::kvs,[],j,r,d,h=>by have:=d.len;simp at this
 |p::kvs,e::es,j,r,d,h=>by
  obtain⟨u,m,J⟩:=d.key 0 p e rfl rfl;unfold Q0 at h;obtain⟨c,hc,h⟩:=D08.1 h;have g:=A7K hc hk u;have x: ∀w',(Op.equal y k.toV e.key).run P w'= .ok c w':=by
   intro w';rw[m];obtain⟨L,T⟩:=p;cases k<;>cases L<;>simp only[A4w,reduceCtorEq]at hc;rename_i xs U;split at hc
   ·simp only[S7,S7.d1,D09]at hk;show (Op.equalIn (9998+1+1) y (.agg _) (.agg _)).run P w'=_;rw[run_equalIn_array _ _ _ _ I A];have C:P.cellsOf e'=1:=by simp[Program.cellsOf,A,o]
    rw[C];exact A52 (P:=P) (w0:=w) (H:=H) rfl q _ (A9q hk.2) (A9q (by simpa [D.keyA]using u)) _ _ hc w'
   ·cases hc
  cases c
  ·simp only[D1C,if_false]at h;obtain⟨z,G,M⟩:=A9r I A o q hk kvs es (j+1) r d.tail h;refine⟨z,fun w'=>?_,M.cons ?_⟩
   ·unfold Instr.findAsking;simp only[Sem.run_bind,x w',Result.andThen_ok,D1C,if_false,G w']
   ·rw[m];intro O;have:=g.2 O.symm;cases this
  ·simp only[if_true,D1Y]at h;subst h;refine⟨some (j,e.val),fun w'=>?_,e,p,D1G _,by simp,by simp,rfl,rfl,?_,J⟩
   ·unfold Instr.findAsking;simp only[Sem.run_bind,x w',Result.andThen_ok,if_true,Sem.run_pure]
   ·rw[m];exact(g.1 rfl).symm
theorem A9s{w:World}{H:Heap}{t u z:TypeId}{m:KK}{k:D}(hm:A3T P t=some (u,z,m))(hk:S7 m k=true){kvs:List (D×D)}{es:List MapEntry}{r:Option (Nat×D)}(j:KvR w H kvs es)
  (h:Q0 m k kvs 0=some r): ∃g,(∀w',(Instr.findKey u k.toV es).run P w'= .ok g w')∧Found w H kvs es k 0 r g:=by
 rcases(l4 hm).2 with⟨d,rfl,o,hp⟩|⟨n,e',i,rfl,x,A,hs,p,d,o,hp⟩
 ·obtain⟨g,h1,q⟩:=A9p o hp hk kvs es 0 r j h;exact⟨g,fun w'=>MapKept.run_findKey o h1,q⟩
 ·obtain⟨g,h1,q⟩:=A9r x A hs p hk kvs es 0 r j h;refine⟨g,fun w'=>?_,q⟩;unfold Instr.findKey;simp only[Sem.run_bind,run_underlying x,Result.andThen_ok];cases es with
  |nil=>
   have:=h1 w';simp[Instr.findAsking]at this;simp[Instr.findNow,this]
  |cons e es=>
   have:Instr.findNow (.array n e') k.toV (e::es) 0=none:=by
    unfold Instr.findNow;cases y:k.toV<;>cases e.key<;>rfl
   rw[this];exact h1 w'
theorem A1T{d:KK}{k:D}(h:S7 d k=true):k.keyA=true:=by
 cases d<;>cases k<;>simp_all[S7,D.keyA,D.key,S7.d1]
theorem i8{d:D}(h:d.key=true)(n:Nat):Instr.sameBits n d.toV1 d.toV1=true:=by
 cases d<;>simp[D.key]at h<;>simp[D.toV1,Instr.sameBits,MapKept.bytes_beq]
theorem B4G{w:World}{k:D}(h:k.keyA=true):(Instr.keyThatStays k.toV k.toV).run P w= .ok k.toV w:=by
 have:Instr.sameBits 10000 k.toV k.toV=true:=by
  cases k
  case agg cs=>
   simp only[D.keyA,D1X]at h;simp only[D.toV,Instr.sameBits,beq_self_eq_true,Bool.true_and,D1X];rintro⟨x,y⟩ e;obtain⟨i,j⟩:=List.getElem?_of_mem e;rw[List.getElem?_zip_eq_some]at j;obtain⟨h1,g⟩:=j;simp only at h1 g;rw[h1]at g;cases g;rw[D1J,D05]at h1;obtain⟨d,m,rfl⟩:=h1;exact i8 (h d (D1T m)) _
  all_goals first|exact i8 (d:=.int _ _) h _|exact i8 (d:=.str _) h _|exact i8 (d:=.bool _) h _|(exact absurd h (by simp[D.keyA,D.key]))
 simp[Instr.keyThatStays,this]
theorem B5d{w:World}{H:Heap}{kvs:List (D×D)}{es:Array MapEntry}(hl:es.size=kvs.length)(h: ∀(i:Nat) (p:D×D),kvs[i]? =some p→p.1.keyA=true∧R w H p.1 (es.getD i default).key∧R w H p.2 (es.getD i default).val):KvR w H kvs es.toList:=by
 refine⟨by simpa using hl,fun i p e hp he=>?_⟩;obtain⟨h1,g,j⟩:=h i p hp;have:es.getD i default=e:=by
  have d:es[i]? =some e:=by simpa using he
  simp[d]
 rw[this]at g j;exact⟨h1,A8H h1 g,j⟩
theorem B88{w:World}{H:Heap}{t:TypeId}{z:D}(h:A5w P t=some z): ∃v,(∀w',(zeroValue t).run P w'= .ok v w')∧R w H z v:=by
 unfold A5w at h;obtain⟨v,hv,rfl⟩:=D05.1 h;obtain⟨i,d,e⟩:=D08.1 hv;refine⟨v,fun w'=>?_,A2W w H v⟩;simp only[zeroValue,Sem.run_bind,N9 d w',Result.andThen_ok,e];rfl
theorem A8I{w:World}{H:Heap}{b:Nat}{kvs:List (D×D)}(h:ObjOk w H b (.map kvs)): ∃es d,w.heap[b]? =some (.map es d)∧MapKept.Stamped es d∧KvR w H kvs es.toList:=by
 obtain⟨es,ck,h1,e,g,i⟩:=h;exact⟨es,ck,h1,e,B5d g i⟩
theorem R.fm_inv{w:World}{H:Heap}{kvs:List (D×D)}{v:Value}(h:R w H (.fm kvs) v): ∃b es ck,v= .map (some b)∧w.heap[b]? =some (.map es ck)∧H.held b=false∧MapKept.Stamped es ck∧es.size=kvs.length∧
  ∀(i:Nat) (p:D×D),kvs[i]? =some p→p.1.keyA=true∧R w H p.1 (es.getD i default).key∧R w H p.2 (es.getD i default).val:=by
 cases h with
 |fm _ b es ck hb hn hst hl hk hr hv=>exact⟨b,es,ck,rfl,hb,hn,hst,hl,fun i p hp=>⟨hk i p hp,hr i p hp,hv i p hp⟩⟩
theorem A8J{w:World}{H:Heap}(hs:Sat H w){t:TypeId}{m k d:D}{ok:Bool}(h:A1S P t m k ok H=some d){A V:Value}(hm:R w H m A)(hk:R w H k V):
  ∃v,(Instr.lookup t A V ok).run P w= .ok v w∧R w H d v:=by
 unfold A1S at h;obtain⟨⟨W,et,kk⟩,C,G⟩:=D08.1 h;clear h;split at G
 ·rename_i x;obtain⟨z,hz,M⟩:=D08.1 G;clear G;obtain⟨kvs,g,X⟩:=D08.1 M;clear M;obtain⟨r,hr,rfl⟩:=D05.1 X;clear X;obtain⟨zv,I,J⟩:=B88 (w:=w) (H:=H) hz;have O:=A8H (A1T x) hk;subst O;simp only at I
  have u: ∀(es:Array MapEntry),KvR w H kvs es.toList→(Instr.lookup t A k.toV ok).run P w=(do
    Instr.checkKey es.isEmpty 10000 W k.toV
    let (v,ok')←match←Instr.findKey W k.toV es.toList with
     |some (_,v)=>pure (v,true)
     |none=>pure (←zeroValue et,false)
    pure (if ok then .tuple #[v,.bool ok']else v):Sem Value).run P w→∃v,(Instr.lookup t A k.toV ok).run P w= .ok v w∧R w H (A23 ok z r) v:=by
   intro es T L;obtain⟨r',y,Y⟩:=A9s C x T hr;rw[L];rw[Sem.run_bind,A4K C x];simp only[Result.andThen_ok];rw[Sem.run_bind,y w];simp only[Result.andThen_ok];cases r with
   |none=>
    obtain⟨rfl,_⟩:=Y;simp only;rw[Sem.run_bind,I w];simp only[Result.andThen_ok,Sem.run_pure];refine⟨_,rfl,?_⟩;cases ok
    ·exact J
    ·refine .tuple _ _ rfl fun i d o=>?_
     match i,o with
     |0,o=>simp at o;subst o;exact J
     |1,o=>simp at o;subst o;exact .bool _
     |i+2,o=>simp at o
   |some q=>
    obtain⟨j,d⟩:=q;obtain⟨e,p,_,_,_,_,rfl,_,hR⟩:=Y;simp only[Sem.run_pure,Result.andThen_ok];refine⟨_,rfl,?_⟩;cases ok
    ·exact hR
    ·refine .tuple _ _ rfl fun i d' o=>?_
     match i,o with
     |0,o=>simp at o;subst o;exact hR
     |1,o=>simp at o;subst o;exact .bool _
     |i+2,o=>simp at o
  unfold Y3 at g;split at g
  ·cases g;obtain rfl:A= .map none:=by cases hm;rfl
   refine u #[] ⟨rfl,by simp⟩ ?_;unfold Instr.lookup;rw[Sem.run_bind,run_underlying (l4 C).1];rfl
  ·rename_i b;split at g
   ·rename_i a0 hb;cases g;obtain rfl:A= .map (some b):=by cases hm;rfl
    obtain⟨es,U,h1,G,M⟩:=A8I (hs b _ hb);refine u es M ?_;unfold Instr.lookup;rw[Sem.run_bind,run_underlying (l4 C).1];simp only[Result.andThen_ok];rw[Sem.run_bind,MapKept.run_getObj_map h1];rfl
   ·cases g
  ·cases g;obtain⟨b,es,ck,rfl,h1,_,_,h5,h6⟩:=hm.fm_inv;refine u es (B5d h5 h6) ?_;unfold Instr.lookup;rw[Sem.run_bind,run_underlying (l4 C).1];simp only[Result.andThen_ok];rw[Sem.run_bind,MapKept.run_getObj_map h1];rfl
  ·cases g
 ·cases G
theorem A9t{es:Array MapEntry}{i j:Nat}{f:MapEntry→MapEntry}{e:MapEntry}(he:es[i]? =some e):(es.modify i f).getD j default=if i=j then f e else es.getD j default:=by
 simp only[D00,Array.getElem?_modify];by_cases h:i=j
 ·subst h;simp[he]
 ·simp[h]
theorem Ext.map{H:Heap}{w:World}{b:Nat}{es es':Array MapEntry}{c c':Nat}(hb:w.heap[b]? =some (.map es c))(hn:H.held b=true):Ext H w {w with heap:=w.heap.setIfInBounds b (.map es' c')}:=by
 refine⟨rfl,rfl,rfl,by simp,fun k _ hk=>?_,fun k _=>?_⟩
 ·have:k≠b:=fun e=>by rw[e,hn]at hk;cases hk
  exact(MapKept.heap_set hb).2 k this
 ·unfold World.shape?;by_cases hk:k=b
  ·subst hk;rw[hb];have:=(MapKept.heap_set (o':=.map es' c') hb).1;simp only at this⊢;rw[this]
  ·rw[show ({w with heap:=w.heap.setIfInBounds b (.map es' c')}:World).heap[k]? =w.heap[k]? from(MapKept.heap_set hb).2 k hk]
theorem A8K{w:World}{H H':Heap}(hs:Sat H w){t:TypeId}{m k x:D}(h:A3U P t m k x H=some H'){Y vk J:Value}(hm:R w H m Y)(hk:R w H k vk)(hx:R w H x J):
  ∃w',(Instr.mapUpdate t Y vk J).run P w= .ok () w'∧Sat H' w'∧Ext H w w'∧From w H H':=by
 unfold A3U at h;obtain⟨⟨kt,et,kk⟩,T,I⟩:=D08.1 h;clear h;split at I
 ·rename_i u;split at I
  ·rename_i b;split at I
   ·rename_i kvs hb;obtain⟨r,hr,rfl⟩:=D05.1 I;clear I;have a0:=A8H (A1T u) hk;subst a0;obtain rfl:Y= .map (some b):=by cases hm;rfl
    obtain⟨es,g,h1,h2,O⟩:=A8I (hs b _ hb);obtain⟨r',A,hF⟩:=A9s T u O hr;have C:H.held b=true:=J5 hb;have G: ∀o,From w H (H.set b o):=fun o=>N2 C o
    have entry: ∀(es':Array MapEntry) (c':Nat) (y:List (D×D)),MapKept.Stamped es' c'→es'.size=y.length→(∀(i:Nat) (p:D×D),y[i]? =some p→p.1.keyA=true∧R w H p.1 (es'.getD i default).key∧R w H p.2 (es'.getD i default).val)→
      Sat (H.set b (.map y)) {w with heap:=w.heap.setIfInBounds b (.map es' c')}∧Ext H w {w with heap:=w.heap.setIfInBounds b (.map es' c')}:=by
     intro es' c' y k1 k2 k3;have he:=Ext.map (es':=es') (c':=c') h1 C;refine⟨hs.update he (G _) (fun k _ hk=>(MapKept.heap_set h1).2 k hk) ⟨es',c',(MapKept.heap_set h1).1,k1,k2,fun i p hp=>?_⟩,he⟩;obtain⟨a1,a2,a3⟩:=k3 i p hp;exact⟨a1,a2.mono he (G _),a3.mono he (G _)⟩
    have U: ∀(i:Nat) (p:D×D),kvs[i]? =some p→p.1.keyA=true∧R w H p.1 (es.getD i default).key∧R w H p.2 (es.getD i default).val:=fun i p hp=>by
     have X:i<es.size:=by
      have:=O.len;have:=(D06.1 hp).1;simp at*;omega
     have he:es.toList[i]? =some es[i]:=by simp[X]
     obtain⟨a1,a2,a3⟩:=O.key i p _ hp he;have:es.getD i default=es[i]:=by simp[X]
     rw[this,a2];exact⟨a1,B5c a1 w H,a3⟩
    unfold Instr.mapUpdate;cases r with
    |none=>
     obtain⟨rfl,V⟩:=hF;have:=entry (es.push {key:=k.toV,val:=J,born:=g}) (g+1) (kvs++[(k,x)]) (MapKept.stamped_push h2 V) (by have:=O.len;simp at*;omega) (fun i p hp=>by
      have hlen:=O.len;simp only[D1n]at hlen;rw[List.getElem?_append]at hp;split at hp
      ·rename_i X;have e:(es.push {key:=k.toV,val:=J,born:=g}).getD i default=es.getD i default:=by
        simp only[D00];rw[Array.getElem?_push_lt (by omega)];simp[show i<es.size by omega]
       rw[e];exact U i p hp
      ·rename_i X;have a4:i=kvs.length:=by
        have:=(D06.1 hp).1;simp at this;omega
       subst a4;simp at hp;subst hp;have e:(es.push {key:=k.toV,val:=J,born:=g}).getD kvs.length default= {key:=k.toV,val:=J,born:=g}:=by
        simp[←hlen]
       rw[e];exact⟨A1T u,B5c (A1T u) w H,hx⟩)
     refine⟨_,?_,this.1,this.2,G _⟩;rw[Sem.run_bind,run_underlying (l4 T).1];simp only[Result.andThen_ok];rw[Sem.run_bind,MapKept.run_getObj_map h1];simp only[Result.andThen_ok];rw[Sem.run_bind,A4K T u];simp only[Result.andThen_ok];rw[Sem.run_bind,A w];simp only[Result.andThen_ok];exact MapKept.run_setObj_map _ h1
    |some q=>
     obtain⟨j,d⟩:=q;obtain⟨e,p,_,he,hp,_,rfl,W,hR⟩:=hF;simp only[Nat.sub_zero]at he hp;have L:es[j]? =some e:=by simpa using he
     have:=entry (es.modify j fun e=>{e with key:=k.toV,val:=J}) g (kvs.set j (k,x)) (MapKept.stamped_modify h2 _ _ (fun _ _=>rfl) (fun e' _ h'=>by rw[L]at h';cases h';exact W.symm)) (by have:=O.len;simp at*;omega) (fun i p' z=>by
      rw[A9t L];rw[List.getElem?_set]at z;split at z
      ·rename_i M;subst M;split at z
       ·cases z;rw[if_pos rfl];exact⟨A1T u,B5c (A1T u) w H,hx⟩
       ·cases z
      ·rename_i M;rw[if_neg M];exact U i p' z)
     refine⟨_,?_,this.1,this.2,G _⟩;rw[Sem.run_bind,run_underlying (l4 T).1];simp only[Result.andThen_ok];rw[Sem.run_bind,MapKept.run_getObj_map h1];simp only[Result.andThen_ok];rw[Sem.run_bind,A4K T u];simp only[Result.andThen_ok];rw[Sem.run_bind,A w];simp only[Result.andThen_ok];rw[Sem.run_bind];have:((es[j]?).map (·.key)).getD k.toV=k.toV:=by rw[L];simpa using W
     rw[this,B4G (A1T u)];simp only[Result.andThen_ok];exact MapKept.run_setObj_map _ h1
   ·cases I
  ·cases I
 ·cases I
theorem A9u{w:World}{H:Heap}(hs:Sat H w){m:D}{kvs:List (D×D)}{g:Value}(hm:R w H m g)(h:Y3 H m=some kvs){e:Array TypeId}{t q r:TypeId}(u:e[0]? =some t)(i:P.underlying t=some (.map q r))(ty:TypeId):
  (Builtin.len_ e ty #[g]).run P w= .ok (.int .i64 kvs.length) w:=by
 unfold Y3 at h;unfold Builtin.len_;rw[u];split at h
 ·cases h;obtain rfl:g= .map none:=by cases hm;rfl
  show (do let d←underlying t;_:Sem Value).run P w=_;rw[Sem.run_bind,run_underlying i];rfl
 ·rename_i b;split at h
  ·rename_i p hb;cases h;obtain rfl:g= .map (some b):=by cases hm;rfl
   obtain⟨es,j,h1,y,x⟩:=A8I (hs b _ hb);have hl:=x.len;simp only[D1n]at hl;show (do let d←underlying t;_:Sem Value).run P w=_;rw[Sem.run_bind,run_underlying i];simp only[Result.andThen_ok];show (do let o←getObj b;_:Sem Value).run P w=_;rw[Sem.run_bind,MapKept.run_getObj_map h1];simp only[Result.andThen_ok,Sem.run_pure,goInt,hl]
  ·cases h
 ·cases h;obtain⟨b,es,ck,rfl,h1,_,_,hl,_⟩:=hm.fm_inv;show (do let d←underlying t;_:Sem Value).run P w=_;rw[Sem.run_bind,run_underlying i];simp only[Result.andThen_ok];show (do let o←getObj b;_:Sem Value).run P w=_;rw[Sem.run_bind,MapKept.run_getObj_map h1];simp only[Result.andThen_ok,Sem.run_pure,goInt,hl]
 ·cases h
end
section
variable {P:Program}
theorem G3{a b:Array Value}{i:Nat}(h:i<a.size):(a++b).getD i Go.undef=a.getD i Go.undef:=by
 have d:i<a.size+b.size:=by omega
 simp[h,d]
theorem W3{a b:Array Value}{i:Nat}:(a++b).getD (a.size+i) Go.undef=b.getD i Go.undef:=by
 by_cases h:i<b.size
 ·simp[h]
 ·simp[h]
theorem From.del(w:World)(H:Heap)(b:Nat):From w H (H.del b):=fun k _ hn=>by
 by_cases hk:k=b
 ·exact I1 (by unfold Heap.del;rw[if_pos hk])
 ·rw[A0Z (H:=H) (by unfold Heap.del;rw[if_neg hk])];exact hn
theorem Heap.Le.del(H:Heap)(b:Nat):(H.del b).Le H:=fun k o h=>by
 unfold Heap.del at h;split at h
 ·cases h
 ·exact h
theorem A5I{H:Heap}{w e:World}{K:D→Heap→Prop}{v:Value}{w':World}(he:Ext H w e)(h:Post H e K v w'):Post H w K v w':=
 let ⟨d,H',h1,h2,h3,h4,h5⟩:=h
 ⟨d,H',h1,h2,he.trans (D2T _ _) h3,fun i g hn=>h4 i (D1s g he.size) hn,h5⟩
theorem B1Z{H e:Heap}{w:World}{K:D→Heap→Prop}{v:Value}{w':World}(hl:e.Le H)(h:Post e w K v w'):Post H w K v w':=
 let ⟨d,H',h1,h2,h3,h4,h5⟩:=h
 ⟨d,H',h1,h2,⟨h3.os,h3.tape,h3.output,h3.size,fun k hk hn=>h3.block k hk (hl.held hn),h3.shape⟩,fun i g hn=>h4 i g (hl.held hn),h5⟩
theorem Sat.same{H:Heap}{w w':World}(hs:Sat H w)(h:w'.heap=w.heap)(he:Ext H w w'):Sat H w':=fun b o hb=>(hs b o hb).mono he (D2T _ _) (by rw[h])
theorem A8L{ev:Operand→D}{ρ :Operand→Value}{H:Heap}{K:D→Heap→Prop}{w:World}{t t':TypeId}{s x:Operand}(hs:Sat H w)(b2: ∀x,R w H (ev x) (ρ x))(h:A1R P ev H K t t' s x)(ty:TypeId):
  ∃v w',(Builtin.append_ #[t,t'] ty #[ρ s,ρ x]).run P w= .ok v w'∧Post H w K v w':=by
 obtain⟨e,sz,c3,he,hsz,G,hz,xs,c4,hm⟩:=h;obtain⟨us,u,hV,p⟩:=A8E (P:=P) hs hsz c4 (b2 x);obtain⟨z,hz,c5⟩:=D05.1 hz;obtain⟨zv,b3,a4⟩:=A3X (w:=w) (H:=H) hz;have c6:zv.cells.size=sz:=by rw[←a4.len,c5]
 have b4: ∀n,(Builtin.zeroCells zv.cells n).size=n*sz:=fun n=>by simp[Builtin.zeroCells,c6]
 have hx:=b2 s;have I:Ext H w {w with drawn:=w.drawn+1}:=Ext.drewN H w 1;have b6:Sat H {w with drawn:=w.drawn+1}:=hs.same rfl I;split at hm
 ·rename_i a5;rw[a5]at hx;cases J: ρ s with
  |slice a n c=>
   rw[J]at hx;cases hx;obtain⟨a6,a7,b7,a9⟩:=hm;by_cases r:xs= []
   ·have o:=A0s (P:=P) (n:=0) (cap:=0) (base:=none) (ty:=ty) he G (p w rfl).1 (p w rfl).2 (by rw[r];simp);refine⟨_,_,o,?_⟩;refine⟨.nilsl,H,?_,hs,D2U _ _,D2T _ _,b7 r⟩;rw[r];exact .nilsl
   ·have d9:0<xs.length:=List.length_pos_iff.2 r;obtain⟨nc,Y,o⟩:=A1z (P:=P) (n:=0) (cap:=0) (base:=none) (ty:=ty) (os:= #[]) he G (p w rfl).1 (fun W hW=>(p W hW).2) (fun W _=>rfl) b3 (by omega) (by simpa using a6) (by simpa using a7);refine⟨_,_,o,?_⟩;simp only[Nat.zero_add]at Y;refine A5I I ?_;simp only[Nat.zero_add,Array.empty_append];refine A0C b6 e xs.length nc hsz ?_ Y ?_ (a9 r)
    ·refine⟨by rw[Array.size_append,u];omega,hV.each,hV.one,fun i e' j d X hd=>?_⟩;have c7:=(D06.1 X).1;have hj:=(D06.1 hd).1;rw[hV.each i e' X]at hj;have a0:(i+1)*sz≤xs.length*sz:=D1c _ c7;rw[Nat.add_mul,Nat.one_mul]at a0;rw[G3 (by rw[u];omega)];exact(hV.rel i e' j d X hd).mono I (D2T _ _)
    ·rw[Array.size_append,u,b4,←Nat.add_mul];congr 1;omega
  |_=>rw[J]at hx;cases hx
 ·rename_i b sz' lo n a5
  obtain⟨rfl,es,hb,hn,a6,a7,hK⟩:sz'=sz∧∃es,H b=some (.vec sz es)∧lo+n≤es.length∧(n+xs.length)*c3≤140737488355328∧n+xs.length≤9223372036854775807∧
    ∀b' pre,H.del b b'=none→(lo=0→pre= [])→K (.vec b' sz pre.length (n+xs.length)) ((H.del b).set b' (.vec sz (pre++((es.drop lo).take n++xs)))):=by
   obtain⟨e,⟨rfl,es,h1,h2,h3,h4,h5⟩|⟨es,h1,h2,h3,h4,h5⟩⟩:=hm
   ·exact⟨e,es,h1,by omega,h3,h4,fun b' pre L hp=>by rw[hp rfl];simpa using h5 b' L⟩
   ·exact⟨e,es,h1,h2,h3,h4,fun b' pre L _=>h5 b' pre L⟩
  rw[a5]at hx;have c8:M7 H sz' (.vec b sz' lo n)=some ((es.drop lo).take n):=by simp[M7,hb,hn]
  obtain⟨os,y,c9,b8⟩:=A8E (P:=P) hs hsz c8 hx;have hlen:((es.drop lo).take n).length=n:=by simp;omega
  have d0:=hs.lt hb;have b0:H.held b=true:=J5 hb;obtain⟨c,T,l0,d2,q,hf,_,hv⟩:=A2X (hs b _ hb);have new: ∀(base:Option Addr) (cap:Nat),ρ s= .slice base n cap→¬n+xs.length≤cap→∃v w',(Builtin.append_ #[t,t'] ty #[ρ s,ρ x]).run P w= .ok v w'∧Post H w K v w':=by
   intro base cap hρ M;rw[hρ]at b8⊢;obtain⟨nc,Y,o⟩:=A1z (P:=P) (n:=n) (cap:=cap) (base:=base) (ty:=ty) (os:=os) he G (p w rfl).1 (fun W hW=>(p W hW).2) (fun W hW=>by have:=(b8 W hW).2;rwa [hlen]at this) b3 M a6 a7;refine⟨_,_,o,?_⟩;refine A5I I (B1Z (Heap.Le.del H b) ?_);have d3:Sat (H.del b) {w with drawn:=w.drawn+1}:=b6.less (Heap.Le.del H b);rw[hlen]at y;refine A0C d3 e (n+xs.length) nc hsz ?_ Y ?_ (fun b' L=>by simpa using hK b' [] L (fun _=>rfl))
   ·have b9:VecR w H sz' ((es.drop lo).take n++xs) (os++us++Builtin.zeroCells zv.cells (nc-(n+xs.length))):=by
     refine c9.join hV (fun i X=>?_) (fun i X=>?_) ?_
     ·rw[hlen]at X;rw[G3 (by rw[Array.size_append,y];omega),G3 (by rw[y];exact X)]
     ·rw[hlen];rw[G3 (by rw[Array.size_append,y,u];omega)];have:=W3 (a:=os) (b:=us) (i:=i);rwa [y]at this
     ·rw[hlen,Array.size_append,Array.size_append,y,u,Nat.add_mul];omega
    exact b9.mono I (From.del _ _ _)
   ·rw[Array.size_append,Array.size_append,y,u,b4,←Nat.add_mul,←Nat.add_mul];congr 1;omega
  generalize J: ρ s=v at hx;cases hx with
  |vec b sz lo n cap T' m O a0 e0 d4=>
   have d5:c.size=(lo+cap)*sz':=by
    unfold World.shape? at O;rw[q]at O;simp only[D1Y,Prod.mk.injEq]at O;rw[O.2,a0]
   have b1:(es.take (lo+n)).length=lo+n:=by simp;omega
   by_cases M:n+xs.length≤cap
   ·have o:=A0s (P:=P) (n:=n) (cap:=cap) (base:=some ⟨b,lo*sz',none⟩) (ty:=ty) he G (p w rfl).1 (p w rfl).2 M;have c0:(lo+(n+xs.length))*sz'≤(lo+cap)*sz':=D1c _ (by omega);have d6:(lo+(n+xs.length))*sz'=(lo+n)*sz'+xs.length*sz':=by rw[←Nat.add_mul];congr 1;omega
    have c1:=hV.oneCell u hsz;have hst:(storeCells ((⟨b,lo*sz',none⟩:Addr).add (n*sz')) us.toList).run P w= .ok () (w.setCells b ((lo+n)*sz') us.toList):=by
     rw[R8,←Nat.add_mul];have hl:us.toList.length=us.size:=by simp
     have:=run_storeCells_cells (P:=P) b ((lo+n)*sz') us.toList 0 w (fun j hj=>by rw[Nat.add_zero,U0 q];rw[hl]at hj;simp;omega)
      (fun j hj=>by rw[Nat.add_zero];rw[hl]at hj;exact A4J q (hf _ (by omega))) c1
     rwa [Nat.add_zero]at this
    refine⟨.slice (some ⟨b,lo*sz',none⟩) (n+xs.length) cap,w.setCells b ((lo+n)*sz') us.toList,?_,?_⟩
    ·rw[o];simp only;rw[Sem.run_bind,hst];rfl
    ·have C:=Ext.setCells (H:=H) q b0 us.toList ((lo+n)*sz');have U:(H.del b).set b (.vec sz' (es.take lo++((es.drop lo).take n++xs)))=H.set b (.vec sz' (es.take (lo+n)++xs)):=by
      rw[←D1k,←List.take_add]
      funext k;by_cases hk:k=b<;>simp[Heap.del,Heap.set,hk]
     have A:=N2 (w:=w) b0 (.vec sz' (es.take (lo+n)++xs));obtain⟨k1,k2,_⟩:=S8 b T (l0,d2) us.toList ((lo+n)*sz') w c q;have hl:us.toList.length=us.size:=by simp
     have c2:VecR w H sz' (es.take (lo+n)++xs) (q9 c ((lo+n)*sz') us.toList):=by
      have g: ∀i,(q9 c ((lo+n)*sz') us.toList).getD i Go.undef=((q9 c ((lo+n)*sz') us.toList)[i]?).getD Go.undef:=fun i=>by simp
      refine(hv.take (lo+n)).join hV (fun i X=>?_) (fun i X=>?_) ?_
      ·rw[b1]at X;rw[g,A03,if_neg (by omega)];simp
      ·rw[b1,g,A03,if_pos (by rw[hl];omega),show (lo+n)*sz'+i-(lo+n)*sz'=i by omega];simp
      ·rw[b1,O8,d5,Nat.add_assoc];exact c0
     have d7:(es.take lo).length=lo:=by simp;omega
     have V:=hK b (es.take lo) (by unfold Heap.del;rw[if_pos rfl]) (fun e=>by rw[e];rfl);rw[d7,U]at V;refine⟨.vec b sz' lo (n+xs.length),H.set b (.vec sz' (es.take (lo+n)++xs)),?_,?_,C,A,V⟩
     ·refine .vec b sz' lo (n+xs.length) cap T' m ?_ a0 hsz M;rw[C.shape b d0];exact O
     ·exact hs.update C A (fun k _ hk=>k2 k hk) (A04 k1 (by rw[O8];exact hf) hsz (c2.mono C A))
   ·rw[J]at new;exact new _ _ rfl M
  |vec0 b sz lo off=>
   by_cases r:xs= []
   ·subst r;have o:=A0s (P:=P) (n:=0) (cap:=0) (base:=some ⟨b,off,none⟩) (ty:=ty) he G (p w rfl).1 (p w rfl).2 (by simp);have d8:us.toList= []:=by
     have:us.size=0:=by simpa using u
     exact List.length_eq_zero_iff.1 (by simpa using this)
    refine⟨.slice (some ⟨b,off,none⟩) 0 0,w,?_,?_⟩
    ·rw[o,d8];rfl
    ·have V:=hK b (es.take lo) (by unfold Heap.del;rw[if_pos rfl]) (fun e=>by rw[e];rfl);have U:(H.del b).set b (.vec sz' (es.take lo++((es.drop lo).take 0++[])))=H.set b (.vec sz' (es.take lo)):=by
      simp only[List.take_zero,D1l]
      funext k;by_cases hk:k=b<;>simp[Heap.del,Heap.set,hk]
     rw[U]at V;have A:=N2 (w:=w) b0 (.vec sz' (es.take lo));exact⟨_,_,.vec0 _ _ _ _,hs.update (D2U _ _) A (fun k _ hk=>rfl) (A04 q hf hsz ((hv.take lo).mono (D2U _ _) A)),D2U _ _,A,V⟩
   ·rw[J]at new;exact new _ _ rfl (by have:=List.length_pos_iff.2 r;omega)
 ·exact hm.elim
theorem C2l{w:World}{H:Heap}{sz:Nat}: ∀{ps:List (Nat×D)} {qs:List (Nat×Value)} {es out:List (List D)} {c:Array Value},A4H es ps=some out→VecR w H sz es c→c.size=es.length*sz→
  ps.length=qs.length→(∀(i:Nat) p q,ps[i]? =some p→qs[i]? =some q→p.1=q.1∧R w H p.2 q.2)→∃c',Instr.fill (fun i=>some (i*sz,sz)) c qs=some c'∧VecR w H sz out c'∧c'.size=c.size∧out.length=es.length:=by
 intro ps
 induction ps with
 |nil=>
  intro qs es out c h hv _ hl _;cases qs with
  |nil=>simp only[A4H,D1Y]at h;subst h;exact⟨c,rfl,hv,rfl,rfl⟩
  |cons=>simp at hl
 |cons p ps ih=>
  intro qs es out c h hv hc hl r;cases qs with
  |nil=>simp at hl
  |cons q qs=>
   obtain⟨i,d⟩:=p;obtain⟨j,v⟩:=q;obtain⟨z,Y⟩:=r 0 _ _ rfl rfl;simp only at z Y;subst z;simp only[A4H]at h;split at h
   ·rename_i y;obtain⟨I,hlen,h1⟩:=y;have J:es[i]? =some (es.getD i []):=by simp[D1D I]
    have L:=hv.each i _ J;rw[L]at hlen;have o:=j7 Y h1;have A:(i+1)*sz≤es.length*sz:=D1c _ I;rw[Nat.add_mul,Nat.one_mul]at A;have C:v.cells.toList.length=sz:=by rw[←hlen,o.len];simp
    have M:VecR w H sz (es.set i d.cells) (q9 c (i*sz) v.cells.toList):=by
     have u: ∀(g:Nat) (e:List D) (j:Nat) x,(es.set i d.cells)[g]? =some e→e[j]? =some x→x.one=true∧R w H x ((q9 c (i*sz) v.cells.toList).getD (g*sz+j) Go.undef):=by
      intro g e j x he hx;have hg:(q9 c (i*sz) v.cells.toList).getD (g*sz+j) Go.undef=((q9 c (i*sz) v.cells.toList)[g*sz+j]?).getD Go.undef:=by simp
      rw[hg,A03,C];by_cases m:i=g
      ·subst m;rw[List.getElem?_set_self I]at he;cases he;have hj:=(D06.1 hx).1;rw[if_pos (by omega),show i*sz+j-i*sz=j by omega];exact⟨o.one _ _ hx,by simpa using o.rel _ _ hx⟩
      ·rw[List.getElem?_set_ne m]at he;have hj:j<sz:=by
        have h1:=hv.each g e he;have h2:=(D06.1 hx).1;omega
       have O: ¬(i*sz≤g*sz+j∧g*sz+j<i*sz+sz∧g*sz+j<c.size):=by
        rcases Nat.lt_or_gt_of_ne m with T|U
        ·have:=D1c sz (show i+1≤g from T);rw[Nat.add_mul,Nat.one_mul]at this;omega
        ·have:=D1c sz (show g+1≤i from U);rw[Nat.add_mul,Nat.one_mul]at this;omega
       rw[if_neg O];exact⟨hv.one g e j x he hx,by simpa using hv.rel g e j x he hx⟩
     refine⟨by rw[O8,D1t];exact hv.le,fun g e he=>?_,fun g e j x a b=>(u g e j x a b).1,fun g e j x a b=>(u g e j x a b).2⟩;by_cases m:i=g
     ·subst m;rw[List.getElem?_set_self I]at he;cases he;exact hlen
     ·rw[List.getElem?_set_ne m]at he;exact hv.each g e he
    obtain⟨c',V,W,G,X⟩:=ih (qs:=qs) (c:=q9 c (i*sz) v.cells.toList) h M (by rw[O8,D1t];exact hc) (by simpa using hl) (fun k p q hp hq=>r (k+1) p q (by simpa using hp) (by simpa using hq));refine⟨c',?_,W,by rw[G,O8],by rw[X,D1t]⟩;unfold Instr.fill;have e1:v.cells.size=sz:=by rw[←C];simp
    simp only[e1];rw[if_neg (by simp;omega)];have e3:=A4F (i*sz) v.cells.toList 0 c;simp only[Nat.add_zero]at e3;rw[←Array.foldl_toList,Array.toList_zipIdx,e3];exact V
   ·cases h
theorem B2u{w:World}{H:Heap}{z:List D}{v:Value}(hr:RowR w H z v.cells)(len:Nat):
  VecR w H z.length (List.replicate len z) ((Array.range (len*z.length)).map (v.cells[· % v.cells.size]!)):=by
 have hm: ∀(i:Nat) (e:List D) (j:Nat) (d:D),(List.replicate len z)[i]? =some e→e[j]? =some d→z[j]? =some d∧((Array.range (len*z.length)).map (v.cells[· % v.cells.size]!)).getD (i*z.length+j) Go.undef=v.cells.getD j Go.undef:=by
  intro i e j d he g;rw[List.getElem?_replicate]at he;split at he
  ·rename_i q;cases he;have p:=(D06.1 g).1;have h:(i+1)*z.length≤len*z.length:=D1c _ q;rw[Nat.add_mul,Nat.one_mul]at h;have m:i*z.length+j<len*z.length:=by omega
   refine⟨g,?_⟩;have e2:(i*z.length+j) % v.cells.size=j:=by rw[←hr.len,Nat.mul_comm,Nat.mul_add_mod,D1x p]
   have o:j<v.cells.size:=by rw[←hr.len];exact p
   simp[m,e2,o]
  ·cases he
 refine⟨by simp,fun i e he=>?_,fun i e j d he g=>hr.one _ _ (hm i e j d he g).1,fun i e j d he g=>?_⟩
 ·rw[List.getElem?_replicate]at he;split at he
  ·cases he;rfl
  ·cases he
 ·obtain⟨h1,r⟩:=hm i e j d he g;rw[r];exact hr.rel _ _ h1
structure A53(w w':World)(z:ByteArray)(cap:Nat):Prop where
 os:w'.os=w.os
 tape:w'.tape=w.tape
 output:w'.output=w.output
 size:w'.heap.size=w.heap.size+1
 old: ∀k,k<w.heap.size→w'.heap[k]? =w.heap[k]?
 new: ∃e,w'.heap[w.heap.size]? =some (.cells ((z.data.map fun b=>Value.int .u8 b.toNat)++Array.replicate (cap-z.size) (.int .u8 0)) e (cap,cap+1))
theorem A9v{w:World}{s t e:TypeId}(hb:C9 P s= .str)(q:P.underlying t=some (.slice e))(z:ByteArray)(he:P.underlying e=some (.int .u8)):
    ∃w' cap,z.size≤cap∧(convert s t (.string z)).run P w= .ok (.slice (some ⟨w.heap.size,0,none⟩) z.size cap) w'∧A53 w w' z cap:=by
  generalize hcap:(Question.appendCap z.size 0 e).cut (w.tape w.drawn (.appendCap z.size 0 e))=cap;have j:z.size≤cap:=by rw[←hcap];simp only[Question.cut];omega
  let c:Array Value:=(z.data.map fun b=>Value.int .u8 b.toNat)++Array.replicate (cap-z.size) (.int .u8 0)
  let d:World:=({w with drawn:=w.drawn+1}:World).alloc (.cells c e)
  have hc:c.size=cap:=by simp[c];omega
  have g:d.heap[w.heap.size]? =some (.cells c e):=M8 {w with drawn:=w.drawn+1} (.cells c e);refine⟨d.freeze ⟨w.heap.size,cap,none⟩ 1,cap,j,?_,?_⟩
  · unfold convert
    rw[Sem.run_bind,run_underlying (V8 hb)];simp only[Result.andThen_ok];rw[Sem.run_bind,run_underlying q];simp only[Result.andThen_ok];rw[Sem.run_bind,run_underlying he];simp only[Result.andThen_ok];unfold Conv.stringToBytes;rw[Sem.run_bind,run_choose];simp only[Question.forced,D1C,if_false,Result.andThen_ok,hcap];have h:(newRow e c).run P {w with drawn:=w.drawn+1}= .ok ⟨w.heap.size,0,none⟩ d:=rfl;show (newRow e c >>=_).run P _=_;rw[Sem.run_bind,h];simp only[Result.andThen_ok]
    have hm:(markStringish ⟨w.heap.size,0,none⟩).run P d= .ok () (d.freeze ⟨w.heap.size,cap,none⟩ 1):=by
      unfold markStringish
      have:(shape w.heap.size).run P d= .ok (some (e,cap)) d:=by
        show (Result.ok (d.shape? w.heap.size) d)=_;unfold World.shape?;rw[g];show (Result.ok (some (e,c.size)) d:Result (Option (TypeId×Nat)))=_;rw[hc]
      rw[Sem.run_bind,this];rfl
    rw[Sem.run_bind,hm];rfl
  · have m:(d.freeze ⟨w.heap.size,cap,none⟩ 1).heap=d.heap.modify w.heap.size fun
        | .cells c i (lo,p)=>.cells c i (if lo==p then(cap,cap+1)else(min lo cap,max p (cap+1)))
        |o=>o:=by unfold World.freeze;rw[if_neg (by simp)];rfl
    refine⟨?_,?_,?_,?_,fun k hk=>?_,e,?_⟩
    · unfold World.freeze;rw[if_neg (by simp)];rfl
    · unfold World.freeze;rw[if_neg (by simp)];rfl
    · unfold World.freeze;rw[if_neg (by simp)];rfl
    · rw[m];simp[d]
    · rw[m,Array.getElem?_modify,if_neg (by omega)]
      exact Go.RowKit.Below.heap_alloc {w with drawn:=w.drawn+1} _ _ hk
    · rw[m,Array.getElem?_modify,if_pos rfl,g]
      rfl
theorem B1k{w w':World}{H:Heap}{K:D→Heap→Prop}{z:ByteArray}{cap:Nat}(hs:Sat H w)(hcap:z.size≤cap)(h:A53 w w' z cap)(r: ∀b,H b=none→K (.vec b 1 0 z.size) (H.set b (.vec 1 (F1 z)))):
  Post H w K (.slice (some ⟨w.heap.size,0,none⟩) z.size cap) w':=by
 obtain⟨e,hn⟩:=h.new;have he:Ext H w w':=⟨h.os,h.tape,h.output,by rw[h.size];omega,fun k hk _=>h.old k hk,fun k hk=>by unfold World.shape?;rw[h.old k hk]⟩
 have p:=N8 (H:=H) (D1G w.heap.size) (.vec 1 (F1 z));have hc:((z.data.map fun(b:UInt8)=>Value.int .u8 b.toNat)++Array.replicate (cap-z.size) (Value.int .u8 0)).size=cap:=by simp;omega
 refine⟨.vec w.heap.size 1 0 z.size,H.set w.heap.size (.vec 1 (F1 z)),?_,?_,he,p,r _ (hs.fresh (D1G _))⟩
 ·have:=R.vec (w:=w') (H:=H.set w.heap.size (.vec 1 (F1 z))) w.heap.size 1 0 z.size cap e cap (by unfold World.shape?;rw[hn];exact congrArg (fun n=>some (e,n)) hc) (by omega) (by omega) hcap;rwa [Nat.zero_mul]at this
 ·refine hs.update he p (fun k hk _=>h.old k hk) (A04 hn (by rw[hc];omega) (by omega) ?_);have hl:(F1 z).length=z.size:=by simp[F1]
  refine⟨by rw[hl,hc];omega,fun i x hx=>?_,fun i x j d hx g=>?_,fun i x j d hx g=>?_⟩
  ·simp only[F1,D1J,D05]at hx;obtain⟨u,_,rfl⟩:=hx;rfl
  ·simp only[F1,D1J,D05]at hx;obtain⟨u,_,rfl⟩:=hx;cases j with
   |zero=>simp at g;subst g;rfl
   |succ j=>simp at g
  ·simp only[F1,D1J,D05]at hx;obtain⟨u,q,rfl⟩:=hx;cases j with
   |zero=>
    simp at g;subst g;have o:=(D06.1 q).1;have m:i<(z.data.map fun b=>Value.int .u8 b.toNat).size:=by simpa using o
    rw[Nat.mul_one,Nat.add_zero,G3 m];have:(z.data.map fun b=>Value.int .u8 b.toNat).getD i Go.undef= .int .u8 u.toNat:=by
     have y:z.data[i]? =some u:=by simpa using q
     simp[y]
    rw[this];exact .int _ _
   |succ j=>simp at g
theorem B5e{w:World}{H:Heap}{K:D→Heap→Prop}{t e:TypeId}{b:Nat}{z:ByteArray}{v:Value}(hs:Sat H w)(hb:H b=some (.vec 1 (F1 z)))(h0:0<z.size)(Y:P.underlying t=some (.slice e))(he:P.underlying e=some (.int .u8))
    (hx:R w H (.vec b 1 0 z.size) v) (hk:K (.sl 1 (F1 z)) (H.del b)): ∃w',(convert t t v).run P w= .ok v w'∧Post H w K v w':=by
  have L:=hs.lt hb;have hl:(F1 z).length=z.size:=by simp[F1]
  obtain⟨c,T,lo,p,h1,h2,h3,I⟩:=A2X (hs b _ hb);have M:=I.le
  have A: ∀i,i<z.size→∃u:UInt8,(F1 z)[i]? =some [.int .u8 u.toNat]∧c.getD i Go.undef= .int .u8 u.toNat:=fun i p=>by
    have hz:i<z.data.toList.length:=by simpa using p
    have e1:(F1 z)[i]? =some [.int .u8 (z.data.toList[i]).toNat]:=by simp[F1,p]
    refine⟨_,e1,?_⟩;have:=I.rel i _ 0 _ e1 rfl;rw[Nat.mul_one,Nat.add_zero]at this;exact this.int_inv
  obtain⟨n0,y⟩: ∃n0,n0=z.size:=⟨_,rfl⟩
  rw[←y]at hx;cases hx with
  |vec0 b sz lo off=>exact absurd h0 (by omega)
  |vec b sz a0 n cap T' m a4 a5 hsz O=>
  have hm:(markStringish ⟨b,0*1,none⟩).run P w= .ok () (w.freeze ⟨b,c.size,none⟩ 1):=by
    unfold markStringish
    have:(shape b).run P w= .ok (some (T,c.size)) w:=by
      show (Result.ok (w.shape? b) w)=_;unfold World.shape?;rw[h1]
    rw[Sem.run_bind,this];rfl
  have U:(w.freeze ⟨b,c.size,none⟩ 1).heap=w.heap.modify b fun
        | .cells cc C (lo,p)=>.cells cc C (if lo==p then(c.size,c.size+1)else(min lo c.size,max p (c.size+1)))
        |o=>o:=by unfold World.freeze;rw[if_neg (by simp)];rfl
  have h: ∀k,k≠b→(w.freeze ⟨b,c.size,none⟩ 1).heap[k]? =w.heap[k]? :=fun k hk=>by
    rw[U,Array.getElem?_modify,if_neg (fun g=>hk g.symm)]
  have q:(w.freeze ⟨b,c.size,none⟩ 1).heap[b]? =some (.cells c T (if lo==p then(c.size,c.size+1)else(min lo c.size,max p (c.size+1)))):=by
    rw[U,Array.getElem?_modify,if_pos rfl,h1];rfl
  have x:(w.freeze ⟨b,c.size,none⟩ 1).heap.size=w.heap.size:=by rw[U];simp
  have hE:Ext H w (w.freeze ⟨b,c.size,none⟩ 1):=by
    refine⟨?_,?_,?_,by rw[x];exact D1G _,fun k hk hn=>h k (fun e=>?_),fun k hk=>?_⟩
    · unfold World.freeze;rw[if_neg (by simp)]
    · unfold World.freeze;rw[if_neg (by simp)]
    · unfold World.freeze;rw[if_neg (by simp)]
    · rw[e,J5 hb]at hn;cases hn
    · unfold World.shape?
      by_cases e:k=b
      · rw[e,q,h1]
      · rw[h k e]
  have V:(H.del b).Le H:=fun k o hk=>by
    unfold Heap.del at hk;by_cases e:k=b
    · rw[if_pos e]at hk;cases hk
    · rw[if_neg e]at hk;exact hk
  have hF:From w H (H.del b):=fun k hk hn=>V.held hn;refine⟨w.freeze ⟨b,c.size,none⟩ 1,?_,.sl 1 (F1 z),H.del b,?_,fun k o r=>?_,hE,hF,hk⟩
  · unfold convert
    rw[Sem.run_bind,run_underlying Y];simp only[Result.andThen_ok];rw[Sem.run_bind,run_underlying Y];simp only[Result.andThen_ok];rw[Sem.run_bind,run_underlying he];simp only[Result.andThen_ok,beq_self_eq_true];rw[Sem.run_bind,hm];rfl
  · have hR:=R.sl (w:=w.freeze ⟨b,c.size,none⟩ 1) (H:=H.del b) 1 (F1 z) b (0*1) cap (fun i j=>c.getD i Go.undef) (by rw[x];exact L) (I1 (by simp[Heap.del]))
      (fun i e he=>I.each _ _ he) (by rw[hl,←y];exact O) (fun i j p hj=>?_) (fun i e j d he J=>I.one _ _ _ _ he J) (fun i e j d he J=>?_)
    · rw[hl,←y]at hR;exact hR
    · have W:j=0:=by omega
      subst W;rw[hl]at p M;have h7:i<c.size:=by omega
      rw[show 0*1+i*1+0=i by omega,U0 q];simp[h7]
    · have p:i<z.size:=by rw[←hl];exact(D06.1 he).1
      obtain⟨u,e1,e2⟩:=A i p;rw[e1]at he;cases he
      match j with
      |0=>cases J;rw[e2];exact .int _ _
      |j+1=>cases J
  · have G:k≠b:=fun e=>by subst e;simp[Heap.del]at r
    have X:H k=some o:=by
      unfold Heap.del at r;rw[if_neg G]at r;exact r
    exact(hs k o X).mono hE hF (h k G)
theorem A9w: ∀(l:List UInt8) (r:ByteArray),(l.map fun c=>(c.toNat:Int)).foldl (fun(r:ByteArray) n=>r.push (UInt8.ofNat n.toNat)) r=⟨r.data++l.toArray⟩
 | [],r=>by simp
 |c::l,r=>by
  simp only[D2D,List.foldl_cons,Int.toNat_natCast];rw[A9w l];have:UInt8.ofNat c.toNat=c:=by simp
  rw[this];simp[ByteArray.push]
theorem A8M{w:World}{H:Heap}{s t e:TypeId}{d:D}{v:Value}{z:ByteArray}{us:Array Value}(hb:C9 P t= .str)(y:P.underlying s=some (.slice e))(he:P.underlying e=some (.int .u8))(x:M7 H 1 d=some (F1 z))(hx:R w H d v)
  (g:us.size=(F1 z).length*1) (A:VecR w H 1 (F1 z) us) (hl:(Builtin.lenOf v).run P w= .ok (F1 z).length w) (p:(Builtin.firstCells 1 (F1 z).length v).run P w= .ok us w) (C: ∀s,d≠ .str s):
  (convert s t v).run P w= .ok (.string z) w:=by
 have m:(F1 z).length=z.size:=by simp[F1]
 have q:us=((z.data.toList.map fun c=>(c.toNat:Int)).map (Value.int .u8)).toArray:=by
  apply Array.ext_getElem?;intro i;by_cases r:i<z.size
  ·have hb:(F1 z)[i]? =some [D.int .u8 (z.data.toList[i]'(by simpa using r)).toNat]:=by simp[F1,r]
   have:=(A.rel i _ 0 _ hb rfl).int_inv;rw[Nat.mul_one,Nat.add_zero]at this;have u:i<us.size:=by rw[g,m];omega
   have G:us[i]? =some (us.getD i Go.undef):=by simp[u]
   rw[G,this];simp[r]
  ·rw[Array.getElem?_eq_none (by rw[g,m];omega),Array.getElem?_eq_none (by simp;omega)]
 have o:z.size=0→z=ByteArray.empty:=fun h=>by
  apply ByteArray.ext;exact Array.eq_empty_of_size_eq_zero h
 have step: ∀(a:Option Addr) (n cap:Nat),v= .slice a n cap→(convert s t v).run P w=(Conv.bytesToString v).run P w:=by
  rintro a n cap rfl;unfold convert;rw[Sem.run_bind,run_underlying y];simp only[Result.andThen_ok];rw[Sem.run_bind,run_underlying (V8 hb)];simp only[Result.andThen_ok];rw[Sem.run_bind,run_underlying he];rfl
 have fin: ∀(a:Option Addr) (n cap:Nat),v= .slice a n cap→(convert s t v).run P w= .ok (.string z) w:=by
  rintro a n cap hv;rw[step a n cap hv,hv];rw[hv]at hl p;have hn:n=(F1 z).length:=by
   have:(Result.ok n w:Result Nat)= .ok (F1 z).length w:=hl;cases this;rfl
  cases a with
  |none=>
   have I:us= #[]:=by
    have:(Result.ok (#[]:Array Value) w)= .ok us w:=p;cases this;rfl
   have:z.size=0:=by rw[I]at g;simp at g;omega
   rw[o this];rfl
  |some a=>
   have j:(loadCells a n).run P w= .ok ((z.data.toList.map fun c=>(c.toNat:Int)).map (Value.int .u8)).toArray w:=by
    have:(loadCells a ((F1 z).length*1)).run P w= .ok us w:=p;rw[Nat.mul_one,←hn]at this;rw[this,q]
   rw[run_bytesToString w a n cap _ j,A9w];simp
 cases hx<;>simp only[M7]at x<;>try(cases x;done)
 case str=>exact absurd rfl (C _)
 all_goals exact fin _ _ _ rfl
theorem B5f{es:Array MapEntry}(hn:(es.toList.map (·.born)).Nodup){i j:Nat}(d:i<es.size)(m:j<es.size)(h:(es.getD i default).born=(es.getD j default).born):i=j:=by
 have e: ∀k (hk:k<es.size),(es.getD k default).born=(es.toList.map (·.born))[k]'(by simpa using hk):=fun k hk=>by simp[hk]
 rw[e i d,e j m]at h;have hp:=List.pairwise_iff_getElem.1 hn;rcases Nat.lt_trichotomy i j with g|g|g
 ·exact absurd h (hp i j (by simpa using d) (by simpa using m) g)
 ·exact g
 ·exact absurd h.symm (hp j i (by simpa using m) (by simpa using d) g)
theorem A54{w:World}{H:Heap}{b:Nat}{kvs:List (D×D)}{seen:List Nat}{K:D→Heap→Prop}(hs:Sat H w)(hb:H b=some (.rng kvs seen))(ty:TypeId)
  (h:(∀i p,kvs[i]? =some p→i∉seen→K (.tuple [.bool true,p.1,p.2]) (H.set b (.rng kvs (seen++[i]))))∧((∀i,i<kvs.length→i∈seen)→K (.tuple [.bool false]) H)):
  ∃v w',(Instr.next (.pointer (some ⟨b,0,none⟩)) false ty).run P w= .ok v w'∧Post H w K v w':=by
 obtain⟨m,es,ck,r,h1,U,V,W,h5,C,h7,h8⟩:=hs b _ hb;have G: ∀i,i<es.size→(r.contains (es.getD i default).born=true↔i∈seen):=fun i I=>by
  rw[Array.contains_iff_mem,←D1b,h8,D1u];constructor
  ·rintro⟨j,A,e⟩;rw[←B5f W.2.1 (by have:=h7 j A;omega) I e];exact A
  ·exact fun A=>⟨i,A,rfl⟩
 rcases run_next_at (P:=P) w ty b m ck ck r es ck h1 U W.1 (D1G _)with⟨hz,hr⟩|⟨e,he,y,u,hr⟩
 ·refine⟨_,w,hr,_,H,.tuple [.bool false] _ (by simp) (fun i d o=>?_),hs,D2U _ _,D2T _ _,h.2 fun i I=>?_⟩
  ·match i,o with
   |0,o=>simp at o;subst o;exact .bool _
   |i+1,o=>simp at o
  ·have J:i<es.size:=by omega
   refine(G i J).1 ?_;have hl:leftOf es r= #[]:=Array.eq_empty_of_size_eq_zero hz;unfold leftOf at hl;rw[Array.filter_eq_empty_iff]at hl;have:=hl (es.getD i default) (by simp[J]);simpa using this
 ·have L:e∈es∧r.contains e.born=false:=by
   have:e∈leftOf es r:=by rwa [←D1b]
   unfold leftOf at this;rw[Array.mem_filter]at this;exact⟨this.1,by simpa using this.2⟩
  obtain⟨i,I,X⟩:=Array.mem_iff_getElem.1 L.1;have T:es.getD i default=e:=by simp[I,X]
  have Y:i∉seen:=fun hm=>by
   have:=(G i I).2 hm;rw[T,L.2]at this;cases this
  have M:i<kvs.length:=by omega
  have hp:kvs[i]? =some kvs[i]:=D1D M;have q:y.heap=w.heap:=by rcases u with rfl|rfl<;>rfl
  have a0:=hs.lt hb;have x: ∀k,k≠b→(Go.ChangeMaps.setBlock y b (.mapIter (some m) ck (r.push e.born) ck)).heap[k]? =w.heap[k]? :=fun k hk=>by
   show (y.heap.setIfInBounds b _)[k]? =_;rw[q,D1a (Ne.symm hk)]
  have O:(Go.ChangeMaps.setBlock y b (.mapIter (some m) ck (r.push e.born) ck)).heap[b]? =some (.mapIter (some m) ck (r.push e.born) ck):=by
   show (y.heap.setIfInBounds b _)[b]? =_;rw[q];simp[a0]
  have hx:Ext H w (Go.ChangeMaps.setBlock y b (.mapIter (some m) ck (r.push e.born) ck)):=by
   refine⟨by rcases u with rfl|rfl<;>rfl,by rcases u with rfl|rfl<;>rfl,by rcases u with rfl|rfl<;>rfl,by show _≤(y.heap.setIfInBounds b _).size;rw[q];simp,fun k _ hn=>x k fun e=>?_,fun k _=>?_⟩
   ·rw[e,J5 hb]at hn;cases hn
   ·unfold World.shape?;by_cases hk:k=b
    ·subst hk;rw[O,h1]
    ·rw[x k hk]
  have z:From w H (H.set b (.rng kvs (seen++[i]))):=N2 (J5 hb) _;have a4:m≠b:=fun e=>by rw[e,J5 hb]at V;cases V
  refine⟨_,_,hr,_,_,.tuple [.bool true,kvs[i].1,kvs[i].2] _ (by simp) (fun j d o=>?_),hs.update hx z (fun k _ hk=>x k hk) ⟨m,es,ck,r.push e.born,O,(x m a4).trans U,z m (U2 U) V,W,h5,fun j p hp=>⟨(C j p hp).1,(C j p hp).2.1.mono hx z,(C j p hp).2.2.mono hx z⟩,fun j A=>?_,?_⟩,hx,z,h.1 i _ hp Y⟩
  ·match j,o with
   |0,o=>simp at o;subst o;exact .bool _
   |1,o=>simp at o;subst o;have:=(C i _ hp).2.1.mono hx z;rw[T]at this;exact this
   |2,o=>simp at o;subst o;have:=(C i _ hp).2.2.mono hx z;rw[T]at this;exact this
   |j+3,o=>simp at o
  ·rcases D1M.1 A with g|g
   ·exact h7 j g
   ·rw[D1N.1 g];exact M
  ·rw[Array.toList_push,h8,D1w,D2D,List.map_nil,T]
theorem A9x{w:World}{H:Heap}{b:Nat}{kvs:List (D×D)}{seen:List Nat}{i:Nat}{p:D×D}(hs:Sat H w)(hb:H b=some (.rng kvs seen))(hl:seen.getLast?=some i)(hp:kvs[i]? =some p):
  ∃v,(Instr.entry (.pointer (some ⟨b,0,none⟩))).run P w= .ok v w∧R w H (.tuple [p.1,p.2]) v:=by
 obtain⟨m,es,ck,q,h1,r,z,u,h5,o,A,x⟩:=hs b _ hb;obtain⟨g,rfl⟩: ∃g,seen=g++[i]:=List.getLast?_eq_some_iff.1 hl;have y:i<es.size:=by have:=(D06.1 hp).1;omega
 have h:q=(g.map fun i=>(es.getD i default).born).toArray.push (es.getD i default).born:=by
  apply Array.ext';rw[x];simp
 rw[h]at h1;refine⟨_,run_entry_at (P:=P) w b m ck _ es ck (es.getD i default) h1 r (by simp[y]) u.2.1,.tuple [p.1,p.2] _ (by simp) fun j d e=>?_⟩
 match j,e with
 |0,e=>simp at e;subst e;exact(o i _ hp).2.1
 |1,e=>simp at e;subst e;exact(o i _ hp).2.2
 |j+2,e=>simp at e
theorem B1l{w:World}{H:Heap}{b:Nat}{s:ByteArray}{pos:Nat}{K:D→Heap→Prop}(hs:Sat H w)(hb:H b=some (.iter s pos))(ty:TypeId)
  (h:(pos<s.size→K (.tuple [.bool true,.int .i64 pos,.int .i32 (Utf8.decode s pos).1]) (H.set b (.iter s (pos+(Utf8.decode s pos).2))))∧(¬pos<s.size→K (.tuple [.bool false]) H)):
  ∃v w',(Instr.next (.pointer (some ⟨b,0,none⟩)) true ty).run P w= .ok v w'∧Post H w K v w':=by
 have hw:w.heap[b]? =some (.stringIter s pos):=hs b _ hb;have m:=hs.lt hb;by_cases hp:pos<s.size
 ·refine⟨.tuple #[.bool true,.int .i64 pos,.int .i32 (Utf8.decode s pos).1],{w with heap:=w.heap.setIfInBounds b (.stringIter s (pos+(Utf8.decode s pos).2))},?_,?_⟩
  ·simp only[Instr.next,getObj,setObj,Sem.run_bind,Sem.run,hw,Result.andThen,hp,if_true];simp[goInt]
  ·have he:Ext H w {w with heap:=w.heap.setIfInBounds b (.stringIter s (pos+(Utf8.decode s pos).2))}:=by
    refine⟨rfl,rfl,rfl,by simp,fun k hk hn=>?_,fun k hk=>?_⟩
    ·have j:b≠k:=fun e=>by rw[e]at hb;rw[J5 hb]at hn;cases hn
     simp[D1a j]
    ·by_cases j:b=k
     ·subst j;unfold World.shape?;rw[hw];simp[m]
     ·unfold World.shape?;simp[D1a j]
   have o:From w H (H.set b (.iter s (pos+(Utf8.decode s pos).2))):=N2 (J5 hb) _;refine⟨_,_,.tuple _ _ (by simp) (fun i d g=>?_),hs.update he o (fun k hk j=>by simp[D1a (Ne.symm j)]) (by show _=_;simp[m]),he,o,h.1 hp⟩
   match i,g with
   |0,g=>simp at g;subst g;exact .bool _
   |1,g=>simp at g;subst g;exact .int _ _
   |2,g=>simp at g;subst g;exact .int _ _
   |i+3,g=>simp at g
 ·refine⟨.tuple #[.bool false],w,?_,_,_,.tuple _ _ (by simp) (fun i d g=>?_),hs,D2U _ _,D2T _ _,h.2 hp⟩
  ·simp[Instr.next,getObj,Sem.run,hw,hp]
  ·match i,g with
   |0,g=>simp at g;subst g;exact .bool _
   |i+1,g=>simp at g
theorem O0{o:Oper}{a:Act}{w:World}{ev:Operand→D}{H:Heap}{K:D→Heap→Prop}(hs:Sat H w)(C: ∀x,R w H (ev x) (a.eval x))(h:D3 P ev H K o.op):opSem P none o a w (Post H w K):=by
 have G:J0 P o.op= .pure→(∃d,L5 P ev o.op=some d∧K d H)→opSem P none o a w (Post H w K):=fun hc ⟨d,M,hk⟩=>by
  obtain⟨v,hv,hR⟩:=A9l (P:=P) C M;unfold opSem;rw[hc];exact⟨v,hv,d,H,hR,hs,D2U _ _,D2T _ _,hk⟩
 have A:J0 P o.op= .eff→∀{v:Value} {w':World},(execOp a.eval o).run P w= .ok (.value v) w'→Post H w K v w'→opSem P none o a w (Post H w K):=fun hc v w' hr hp=>by
  unfold opSem;rw[hc];show effPost P _ _;rw[hr];exact⟨trivial,hp⟩
 obtain⟨dst,op,type,pos,after,guard⟩:=o;simp only at h G A⊢;cases op
 case load t x=>
  obtain⟨d,M,hk⟩:=h;obtain⟨u,L,hR⟩:=A5z (P:=P) hs M (C x);unfold opSem;refine⟨u,?_,d,H,hR,hs,D2U _ _,D2T _ _,hk⟩;intro w' Y;have Y:w'=w:=Y;subst Y;simp only[execOp];rw[Sem.run_bind,L];rfl
 case store t x y=>
  obtain⟨H',hst,hk⟩:=h;obtain⟨w',hr,c3,he,T⟩:=A9n (P:=P) hs hst (C x) (C y);unfold opSem;show effPost P _ _;have:(execOp a.eval {dst,op:=.store t x y,type,pos,after,guard}).run P w= .ok .skip w':=by
   simp only[execOp];rw[Sem.run_bind,hr];rfl
  rw[this];exact⟨trivial,.undef,H',.undef _,c3,he,T,hk⟩
 case alloc t=>
  obtain⟨z,hz,hk⟩:=h;obtain⟨v,hv,O⟩:=A3X (w:=w) (H:=H) hz;refine A rfl (v:=.pointer (some ⟨w.heap.size,0,none⟩)) (w':=w.alloc (.cells v.cells t)) ?_ (A3V hs t (fun u L=>B5b L) O hk);simp only[execOp,Instr.alloc];rw[Sem.run_bind,Sem.run_bind,hv w];rfl
 case box t x=>
  obtain⟨h1,hk⟩:=h;refine A rfl (v:=.pointer (some ⟨w.heap.size,0,none⟩)) (w':=w.alloc (.cells (a.eval x).cells t)) rfl (A3V hs t (fun _ h=>by cases h) (j7 (C x) h1) hk)
 case buildSlice t len parts=>
  obtain⟨e,sz,b3,z,es,he,hsz,d0,hz,a6,b4,hk⟩:=h;obtain⟨L,i,hi,a0,_⟩:=V9 he;simp only at L hi a0;obtain⟨v,hv,O⟩:=A3X (w:=w) (H:=H) hz;subst a6;have a7:=B2u O len;obtain⟨c',J,c4,c5,a4⟩:=C2l (qs:=parts.toList.map fun p=>(p.1,a.eval p.2)) b4 a7 (by simp) (by simp) (fun i p q hp hq=>by
   simp only[D1J,D05]at hp hq;obtain⟨a,ha,rfl⟩:=hp;obtain⟨b,b6,rfl⟩:=hq;rw[ha]at b6;cases b6;exact⟨rfl,C _⟩)
  refine A rfl (v:=.slice (some ⟨w.heap.size,0,none⟩) len len) (w':=w.alloc (.cells c' e)) ?_ (A0C hs e len len hsz c4 (D1G _) (by rw[c5];simp) hk);simp only[execOp,Instr.buildSlice];rw[Sem.run_bind,Sem.run_bind,run_underlying L];simp only[Result.andThen_ok];rw[Sem.run_bind,H8 hi w];simp only[Result.andThen_ok,a0];rw[if_neg (by omega)];have e2:(parts.map fun(i,x)=>(i,a.eval x)).toList=parts.toList.map fun p=>(p.1,a.eval p.2):=by simp
  by_cases h0:len*z.length=0
  ·have d2:len=0:=by rcases Nat.mul_eq_zero.1 h0 with h'|h'<;>omega
   rw[if_pos h0];rw[Sem.run_bind];simp only[Sem.run_pure,Result.andThen_ok];have e3:(Array.range (len*z.length)).map ((#[]:Array Value)[· % (#[]:Array Value).size]!)=(Array.range (len*z.length)).map (v.cells[· % v.cells.size]!):=by rw[h0];simp
   rw[e3,e2,J];rfl
  ·rw[if_neg h0];rw[Sem.run_bind,hv w];simp only[Result.andThen_ok];rw[Sem.run_bind];simp only[Sem.run_pure,Result.andThen_ok];rw[e2,J];rfl
 case makeSlice t l c=>
  obtain⟨e,sz,b3,z,k,n,k',m,he,hsz,hz,a6,hl,hc,d3,d4,d5,d6,hk⟩:=h;obtain⟨L,i,hi,a0,b7⟩:=V9 he;simp only at L hi a0 b7;obtain⟨v,hv,O⟩:=A3X (w:=w) (H:=H) hz;subst a6;have a4:=C l;have a5:=C c;rw[hl]at a4;rw[hc]at a5;have a4:=a4.int_inv;have a5:=a5.int_inv;have a7:=B2u O m.toNat;have b8:VecR w H z.length (List.replicate n.toNat z) ((Array.range (m.toNat*z.length)).map (v.cells[· % v.cells.size]!)):=by
   have:=a7.take n.toNat;rwa [List.take_replicate,Nat.min_eq_left (by omega)]at this
  refine A rfl (v:=.slice (some ⟨w.heap.size,0,none⟩) n.toNat m.toNat) (w':=w.alloc (.cells ((Array.range (m.toNat*z.length)).map (v.cells[· % v.cells.size]!)) e)) ?_ (A0C hs e n.toNat m.toNat hsz b8 (by omega) (by simp) hk);have w1:IntKind.i64.wrap n=n:=IntWalk.i64_in _ (by omega);have w2:IntKind.i64.wrap m=m:=IntWalk.i64_in _ (by omega);simp only[execOp,Instr.makeSlice,a4,a5];rw[Sem.run_bind,Sem.run_bind,run_underlying L];simp only[Result.andThen_ok];rw[Sem.run_bind];have ai: ∀(k:IntKind) (n:Int) (w:World),(asInt (.int k n)).run P w= .ok n w:=fun _ _ _=>rfl;rw[ai];simp only[Result.andThen_ok];rw[Sem.run_bind,ai];simp only[Result.andThen_ok];rw[Sem.run_bind,N9 hi w];simp only[Result.andThen_ok,w1,w2,b7];have c1: ¬((decide (m<0)||decide ((b3:Int)*m > 2 ^ 48)||decide (n<0)||decide (n > m))=true):=by
   simp only[D2J,D1I,not_or];refine⟨⟨⟨by omega,by omega⟩,by omega⟩,by omega⟩
  rw[if_neg c1];have b9: ∀(k:Nat) (W:World),(askRoom k).run P W= .ok () W:=fun k W=>by unfold askRoom;split<;>rfl
  rw[Sem.run_bind,b9];simp only[Result.andThen_ok];rw[Sem.run_bind,H8 hi w];simp only[Result.andThen_ok,a0];by_cases h0:m.toNat*z.length=0
  ·rw[if_pos h0];rw[Sem.run_bind];simp only[Sem.run_pure,Result.andThen_ok];have e3:(Array.range (m.toNat*z.length)).map ((#[]:Array Value)[· % (#[]:Array Value).size]!)=(Array.range (m.toNat*z.length)).map (v.cells[· % v.cells.size]!):=by rw[h0];simp
   rw[e3];rfl
  ·rw[if_neg h0];rw[Sem.run_bind,hv w];simp only[Result.andThen_ok];rw[Sem.run_bind];simp only[Sem.run_pure,Result.andThen_ok];rfl
 case convert s t x=>
  simp only[D3]at h;split at h
  ·rename_i hc;exact G hc h
  ·rename_i hc;have J:J0 P (.convert s t x)= .eff:=by
    have:J0 P (.convert s t x)= .pure∨J0 P (.convert s t x)= .eff:=by
     simp only[J0];split<;>simp
    exact this.resolve_left hc
   have hx:=C x;unfold A2w at h;split at h
   ·rename_i z hz;obtain⟨hb,hm,hk⟩:=h;rw[hz]at hx;have hx:=hx.str_inv;split at hm
    ·rename_i e L;obtain⟨w',cap,hcap,I,Y⟩:=A9v (P:=P) (w:=w) (s:=s) hb L z hm;have a9:(execOp a.eval {dst,op:=.convert s t x,type,pos,after,guard}).run P w= .ok (.value (.slice (some ⟨w.heap.size,0,none⟩) z.size cap)) w':=by
      simp only[execOp];rw[hx,Sem.run_bind,I];rfl
     exact A J a9 (B1k hs hcap Y hk)
    ·exact hm.elim
   ·rename_i c6;rcases h with⟨hb,hm,z,hz,hk⟩|⟨rfl,hm,b,z,M,h0,hb,hk⟩
    rotate_left
    ·split at hm
     ·rename_i e L;rw[M]at hx;obtain⟨w',I,b0⟩:=B5e hs hb h0 L hm hx hk;refine A J (v:=a.eval x) (w':=w') ?_ b0;simp only[execOp];rw[Sem.run_bind,I];rfl
     ·exact hm.elim
    split at hm
    ·rename_i e L;obtain⟨us,c7,hV,I⟩:=A8E (P:=P) hs (Nat.zero_lt_one) hz hx;refine A J (v:=.string z) (w':=w) ?_ ⟨.str z,H,.str _,hs,D2U _ _,D2T _ _,hk⟩;simp only[execOp];rw[Sem.run_bind,A8M (P:=P) hb L hm hz hx c7 hV (I w rfl).1 (I w rfl).2 c6];rfl
    ·exact hm.elim
 case call c=>
  obtain⟨callee,args,U⟩:=c;cases callee with
  |value f=>
   simp only[D3]at h;split at h
   ·rename_i g first captured T
    have b1:=C f;rw[T]at b1;generalize hv:a.eval f=fv at b1;cases b1 with
    |fn _ _ _ vs us hl hm hr hq=>
     obtain⟨hb,hc⟩:=h;unfold opSem;show effPost P _ _;have I:(execOp a.eval {dst,op:=.call {callee:=.value f,args,argTypes:=U},type,pos,after,guard}).run P w= .ok (.enter g (vs++args.map a.eval++us)) w:=by
      unfold A1y at hb;split at hb
      ·rename_i fn c8;simp only[D09,bne_iff_ne,ne_eq]at hb;have h1:(fn.name== "runtime.NumGoroutine")=false:=by simpa using hb.2
       have X:fn.body.isNone=false:=by
        cases b2:fn.body with
        |none=>rw[b2]at hb;simp at hb
        |some _=>rfl
       simp only[execOp,resolve,hv,Deferred.ofValue];rw[Sem.run_bind];simp only[Sem.run_pure,Result.andThen_ok,invoke,callFunc];rw[Sem.run_bind];have:(program).run P w= .ok P w:=rfl;rw[this];simp only[Result.andThen_ok,c8,h1,X,D1C,if_false];rfl
      ·cases hb
     rw[I];refine(hc w (vs++args.map a.eval++us) (by simp[hl,hm]) (fun i d M=>?_) hs).mono fun e w' ⟨v,he,hp⟩=>⟨v,he,trivial,hp⟩
     have hsz:(args.map a.eval).size=args.size:=by simp
     by_cases h1:i<first.length
     ·rw[D1k,D1q h1]at M;have:(vs++args.map a.eval++us).getD i Go.undef=vs.getD i Go.undef:=by
       rw[Array.append_assoc,G3 (by omega)]
      rw[this];exact hr i d M
     ·rw[D1k,D1r (by omega)]at M;obtain⟨k,rfl⟩: ∃k,i=vs.size+k:=⟨i-first.length,by omega⟩
      rw[show vs.size+k-first.length=k by omega]at M;rw[Array.append_assoc,W3];by_cases X:k<args.size
      ·rw[D1q (by simpa using X)]at M;rw[G3 (by simpa using X)];simp only[D1J,D05]at M;obtain⟨x,hx,rfl⟩:=M;have:(args.map a.eval).getD k Go.undef=a.eval x:=by
        have h':args[k]? =some x:=by simpa using hx
        simp[h']
       rw[this];exact C x
      ·rw[D1r (by simpa using X)]at M;obtain⟨j,rfl⟩: ∃j,k=(args.map a.eval).size+j:=⟨k-args.size,by simp;omega⟩
       rw[W3];have:(args.map a.eval).size+j-(args.toList.map ev).length=j:=by simp
       rw[this]at M;exact hq j d M
   ·exact h.elim
  |invoke r m=>simp only[D3,J0]at h
  |builtin b=>
   cases b
   case append=>
    simp only[D3]at h;split at h
    ·rename_i t t' s x c0 V;obtain⟨v,w',hr,hp⟩:=A8L (P:=P) hs C h type;refine A rfl (v:=v) (w':=w') ?_ hp;have e1:U= #[t,t']:=by rw[←Array.toArray_toList (xs:=U),c0]
     have e2:args= #[s,x]:=by rw[←Array.toArray_toList (xs:=args),V]
     subst e1;subst e2;simp only[execOp,resolve];rw[Sem.run_bind];simp only[Sem.run_pure,Result.andThen_ok,invoke,builtin];rw[Sem.run_bind];have:(#[s,x].map a.eval)= #[a.eval s,a.eval x]:=by simp
     rw[this,hr];rfl
    ·exact h.elim
   case len=>
    simp only[D3]at h;split at h
    ·rename_i hc;exact G hc h
    ·rename_i hc;have J:J0 P (.call ⟨.builtin .len,args,U⟩)= .eff:=by
      have:J0 P (.call ⟨.builtin .len,args,U⟩)= .pure∨J0 P (.call ⟨.builtin .len,args,U⟩)= .eff:=by
       simp only[J0];split<;>simp
      exact this.resolve_left hc
     split at h
     ·rename_i x V;obtain⟨kvs,c2,hk⟩:=h;have e2:args= #[x]:=by rw[←Array.toArray_toList (xs:=args),V]
      subst e2;have hl: ∃t k e,U[0]? =some t∧P.underlying t=some (.map k e):=by
       unfold J0 at J;simp only at J;split at J
       ·rename_i k e hb;obtain⟨t,ht,L⟩:=D08.1 hb;exact⟨t,k,e,ht,L⟩
       ·cases J
      obtain⟨t,kt,et,ht,L⟩:=hl;have I:=A9u (P:=P) hs (C x) c2 ht L type;refine A J (v:=.int .i64 kvs.length) (w':=w) ?_ ⟨_,H,.int _ _,hs,D2U _ _,D2T _ _,hk⟩;simp only[execOp,resolve];rw[Sem.run_bind];simp only[Sem.run_pure,Result.andThen_ok,invoke,builtin];rw[Sem.run_bind];have:(#[x].map a.eval)= #[a.eval x]:=by simp
      rw[this,I];rfl
     ·exact h.elim
   all_goals first
    |exact G rfl h
    |(simp only[D3,J0]at h;done)
 case makeMap t r=>
  cases r with
  |some r=>exact h.elim
  |none=>
   have he:=Ext.alloc H w (.map #[] 0);have T:=N8 (H:=H) (D1G w.heap.size) (.map []);refine A rfl (v:=.map (some w.heap.size)) (w':=w.alloc (.map #[] 0)) rfl ⟨_,_,.map _,?_,he,T,h _ (hs.fresh (D1G _))⟩;exact hs.update he T (fun k hk _=>Go.RowKit.Below.heap_alloc _ _ _ hk) ⟨#[],0,M8 w _,MapKept.stamped_empty 0,rfl,fun i p hp=>by simp at hp⟩
 case lookup t m k ok=>
  obtain⟨d,M,hk⟩:=h;obtain⟨v,hv,hR⟩:=A8J (P:=P) hs M (C m) (C k);refine A rfl (v:=v) (w':=w) ?_ ⟨d,H,hR,hs,D2U _ _,D2T _ _,hk⟩;simp only[execOp];rw[Sem.run_bind,hv];rfl
 case mapUpdate t m k x=>
  obtain⟨H',c9,hk⟩:=h;obtain⟨w',hr,h1,X,h3⟩:=A8K (P:=P) hs c9 (C m) (C k) (C x);unfold opSem;show effPost P _ _;have:(execOp a.eval {dst,op:=.mapUpdate t m k x,type,pos,after,guard}).run P w= .ok .skip w':=by
   simp only[execOp];rw[Sem.run_bind,hr];rfl
  rw[this];exact⟨trivial,_,_,.undef _,h1,X,h3,hk⟩
 case range t x=>
  simp only[D3]at h;split at h
  ·rename_i s hx;obtain⟨L,hk⟩:=h;have hv:=C x;rw[hx]at hv;have hv:=hv.str_inv;have hn:H w.heap.size=none:=hs.fresh (D1G _);have he:Ext H w (w.iter s 0):=Ext.alloc H w _;have T:From w H (H.set w.heap.size (.iter s 0)):=N8 (D1G _) _;refine A rfl (v:=.pointer (some ⟨w.heap.size,0,none⟩)) (w':=w.iter s 0) ?_ ⟨_,_,.box _ _,hs.update he T (fun k hk _=>Go.RowKit.Below.heap_alloc _ _ _ hk) (World.iter_heap w s 0),he,T,hk _ hn⟩;simp only[execOp];rw[Sem.run_bind,hv,run_range_string w t s L];rfl
  ·rename_i kvs hx;obtain⟨L,hk⟩:=h;have hv:=C x;rw[hx]at hv;obtain⟨m,es,ck,hv,X,h3,h4,h5,h6⟩:=hv.fm_inv;obtain⟨⟨kt,et,kk⟩,hT⟩:=Option.isSome_iff_exists.1 L;have hn:H w.heap.size=none:=hs.fresh (D1G _);have he:Ext H w (w.alloc (.mapIter (some m) ck #[] ck)):=Ext.alloc H w _;have T:From w H (H.set w.heap.size (.rng kvs [])):=N8 (D1G _) _;refine A rfl (v:=.pointer (some ⟨w.heap.size,0,none⟩)) (w':=w.alloc (.mapIter (some m) ck #[] ck)) ?_ ⟨_,_,.box _ _,hs.update he T (fun k hk _=>Go.RowKit.Below.heap_alloc _ _ _ hk)
    ⟨m,es,ck,#[],by show (w.heap.push _)[w.heap.size]? =_;simp,(Go.RowKit.Below.heap_alloc _ _ _ (U2 X)).trans X,T m (U2 X) h3,h4,h5,fun i p hp=>⟨(h6 i p hp).1,(h6 i p hp).2.1.mono he T,(h6 i p hp).2.2.mono he T⟩,by simp,rfl⟩,he,T,hk _ hn⟩
   simp only[execOp];rw[hv,Sem.run_bind];have:(Instr.range t (.map (some m))).run P w= .ok (.pointer (some ⟨w.heap.size,0,none⟩)) (w.alloc (.mapIter (some m) ck #[] ck)):=by
    unfold Instr.range;simp only[Sem.run_bind,run_underlying (l4 hT).1,Result.andThen_ok,MapKept.run_getObj_map X,Sem.run_pure];rfl
   rw[this];rfl
  ·exact h.elim
 case next x isString=>
  simp only[D3]at h;split at h
  ·rename_i b hx;split at h
   ·rename_i s pos hb;have hv:=C x;rw[hx]at hv;have hv:=hv.box_inv;obtain⟨v,w',hr,hp⟩:=B1l (P:=P) hs hb type h;refine A rfl (v:=v) (w':=w') ?_ hp;simp only[execOp];rw[Sem.run_bind,hv,hr];rfl
   ·exact h.elim
  ·rename_i b hx;split at h
   ·rename_i kvs seen hb;have hv:=C x;rw[hx]at hv;have hv:=hv.box_inv;obtain⟨v,w',hr,hp⟩:=A54 (P:=P) hs hb type h;refine A rfl (v:=v) (w':=w') ?_ hp;simp only[execOp];rw[Sem.run_bind,hv,hr];rfl
   ·exact h.elim
  ·exact h.elim
 case entry x=>
  simp only[D3]at h;split at h
  ·rename_i b hx;split at h
   ·rename_i kvs seen hb;obtain⟨i,p,hl,hp,hk⟩:=h;have hv:=C x;rw[hx]at hv;have hv:=hv.box_inv;obtain⟨v,hr,hR⟩:=A9x (P:=P) hs hb hl hp;refine A rfl (v:=v) (w':=w) ?_ ⟨_,H,hR,hs,D2U _ _,D2T _ _,hk⟩;simp only[execOp];rw[Sem.run_bind,hv,hr];rfl
   ·exact h.elim
  ·exact h.elim
 all_goals first
  |exact G rfl h
  |exact h.elim
theorem A55(H:Heap)(l:List Nat):(H.minus l).Le H:=fun k o h=>by
 unfold Heap.minus at h;split at h
 ·cases h
 ·exact h
theorem W4{α :Type}(s:Sem α)(g: α →Next)(d: ∀x f args,g x≠ .enter f args)(w:World)(f:FuncId)(args:Array Value)(w':World):(do let x←s;pure (g x):Sem Next).run P w≠ .ok (.enter f args) w':=by
 rw[Sem.run_bind];cases s.run P w with
 |ok x e=>intro h;simp only[Result.andThen_ok,Sem.run_pure,Result.ok.injEq]at h;exact d _ _ _ h.1
 |halt x e=>intro h;cases h
theorem A05{o:Oper}{a:Act}{w:World}{ev:Operand→D}{H:Heap}{K:D→Heap→Prop}{sx:Bool}{l:List Nat}(hl: ∀k∈l,k<w.heap.size)(hs:Sat H w)(e: ∀x,R w H (ev x) (a.eval x))(hc:J0 P o.op= .eff)
  (i: ∀f args w',(execOp a.eval o).run P w≠ .ok (.enter f args) w') (hx:(sx=false∧A1O o.op=true)∨D3 P ev (H.minus l) (fun _ _=>True) o.op) (h:D3 P ev H K o.op):opSem P (some (sx,l)) o a w (Post H w K):=by
 have h1:=O0 (o:=o) hs e h;unfold opSem at h1⊢;rw[hc]at h1⊢;simp only at h1⊢;have g: ∀v w',((execOp a.eval o).run P w= .ok (.value v) w'∨(execOp a.eval o).run P w= .ok .skip w')→B5W (some (sx,l)) o.op w w':=by
  intro v w' hr;rcases hx with hx|hx
  ·exact .inl hx
  ·have d:=O0 (o:=o) (hs.less (A55 H l)) (fun x=>(e x).less (A55 H l)) hx;unfold opSem at d;rw[hc]at d;simp only at d;have he:Ext (H.minus l) w w':=by
    unfold effPost at d;rcases hr with hr|hr
    ·rw[hr]at d;obtain⟨_,_,_,_,_,he,_⟩:=d;exact he
    ·rw[hr]at d;obtain⟨_,_,_,_,_,he,_⟩:=d;exact he
   exact .inr fun k hk=>he.block k (hl k hk) (I1 (by simp[Heap.minus,hk]))
 unfold effPost at h1⊢;split at h1<;>try exact h1.elim
 ·rename_i hr;exact⟨g _ _ (.inl hr),h1.2⟩
 ·rename_i hr;exact⟨g undef _ (.inr hr),h1.2⟩
 ·rename_i hr;exact absurd hr (i _ _ _)
theorem A11{o:Oper}{a:Act}{w:World}{ev:Operand→D}{H:Heap}{K:D→Heap→Prop}{sx:Bool}{l:List Nat}(hl: ∀k∈l,k<w.heap.size)(hs:Sat H w)(g: ∀x,R w H (ev x) (a.eval x))(h:B5a P sx l ev H K o.op):
  opSem P (some (sx,l)) o a w (Post H w K):=by
 have e:J0 P o.op= .pure→D3 P ev H K o.op→opSem P (some (sx,l)) o a w (Post H w K):=fun hc h=>by
  have h1:=O0 (o:=o) hs g h;unfold opSem at h1⊢;rw[hc]at h1⊢;exact h1
 obtain⟨dst,op,type,pos,after,guard⟩:=o;simp only at h e⊢;unfold B5a at h;split at h
 ·rename_i t x;obtain⟨hb,d,m,hk⟩:=h;obtain⟨u,p,q⟩:=A4x (P:=P) hs m (g x);unfold opSem;refine⟨u,fun w' j=>?_,d,H,q,hs,D2U _ _,D2T _ _,hk⟩;simp only[execOp];rw[Sem.run_bind,p w' fun b o hv=>?_];rfl;split at hb
  ·rename_i r off he;have hr:=g x;rw[he]at hr;have hr:=hr.box_inv;rw[hr]at hv;cases hv;exact j _ hb
  ·rename_i r sz i off he;have hr:=g x;rw[he]at hr;have hr:=hr.el_inv;rw[hr]at hv;cases hv;exact j _ hb
  ·exact hb.elim
 ·exact A05 hl hs g rfl (fun f args w'=>W4 _ (fun _=>Next.skip) (by simp) w f args w') (by
   cases sx
   ·exact .inl ⟨rfl,rfl⟩
   ·exact .inr (h.1 rfl)) h.2
 ·exact A05 hl hs g rfl (fun f args w'=>W4 _ Next.value (by simp) w f args w') (.inr h.1) h.2
 ·exact A05 hl hs g rfl (fun f args w'=>W4 _ Next.value (by simp) w f args w') (.inr h.1) h.2
 ·exact A05 hl hs g rfl (fun f args w'=>W4 _ Next.value (by simp) w f args w') (.inr h.1) h.2
 ·refine A05 hl hs g rfl (fun f args w'=>?_) (.inr h.1) h.2;simp only[execOp,resolve];rw[Sem.run_bind];simp only[Sem.run_pure,Result.andThen_ok,invoke];exact W4 _ Next.value (by simp) w f args w'
 ·exact e h.1 h.2
theorem A8N(H d:Heap):(H.sub d).Le H:=fun k o h=>by
 unfold Heap.sub at h;split at h
 ·cases h
 ·exact h
theorem B5g{H e:Heap}{w w':World}{K:D→Heap→Prop}{v:Value}(hs:Sat H w)(m:e.Le H)(h:Post e w (fun d _=>A9m d=true∧K d (H.sub e)) v w'):Post H w K v w':=by
 obtain⟨d,r,hr,q,he,u,p,hk⟩:=h;have g:Ext H w w':=⟨he.os,he.tape,he.output,he.size,fun k hk hn=>he.block k hk (m.held hn),he.shape⟩
 have i:From w H (H.sub e):=fun k hk hn=>(A8N H e).held hn;refine⟨d,H.sub e,?_,fun b o hb=>?_,g,i,hk⟩
 ·cases hr<;>first|(cases p;done)|constructor
 ·have hc:e.held b=false:=by
   unfold Heap.sub at hb;split at hb
   ·cases hb
   ·rename_i h;simpa using h
  have j:=A8N H e b o hb;exact(hs b o j).mono g i (he.block b (hs.lt j) hc)
theorem A9y{o:Oper}{a:Act}{w:World}{ev:Operand→D}{H:Heap}{K:D→Heap→Prop}{l:List Nat}(hl: ∀k∈l,k<w.heap.size)(hs:Sat H w)(e: ∀x,R w H (ev x) (a.eval x))(h:A5y P l ev H K o.op):
  opSem P (some (true,l)) o a w (Post H w K):=by
 have d:J0 P o.op= .pure→D3 P ev H K o.op→opSem P (some (true,l)) o a w (Post H w K):=fun hc h=>by
  have h1:=O0 (o:=o) hs e h;unfold opSem at h1⊢;rw[hc]at h1⊢;exact h1
 obtain⟨dst,op,type,pos,after,guard⟩:=o;simp only at h d⊢;unfold A5y at h;split at h
 ·exact A11 (o:=⟨dst,_,type,pos,after,guard⟩) (sx:=true) hl hs e h
 ·exact A11 (o:=⟨dst,_,type,pos,after,guard⟩) (sx:=true) hl hs e h
 ·obtain⟨j,g,i,h⟩:=h;have h1:=O0 (o:=⟨dst,_,type,pos,after,guard⟩) (hs.less g) (fun x=>(e x).less g) h;unfold opSem at h1⊢;simp only[J0]at h1⊢;refine effPost.mono h1 fun v w' hn=>⟨.inr fun k hk=>?_,B5g hs g hn.2⟩
  obtain⟨_,_,_,_,he,_⟩:=hn.2;exact he.block k (hl k hk) (i k hk)
 ·exact d h.1 h.2
end
section
variable {P:Program} {F:Option (Bool×List Nat)} {ops:Array Oper} {md:Region.Mode}
def sOp(P:Program)(F:Option (Bool×List Nat))(ops:Array Oper)(i:Nat)(K:Act→World→Prop)(a:Act)(w:World):Prop:=match ops[i]? with
 |none=>K a w
 |some o=>if Region.wanted o (yielded ops a.tmps)then opSem P F o a w fun v w'=>K (a.put o.dst v) w' else K (a.put o.dst undef) w
theorem A56{i:Nat}{K e:Act→World→Prop}{a:Act}{w:World}(d: ∀a w,K a w→e a w)(h:sOp P F ops i K a w):sOp P F ops i e a w:=by
 unfold sOp at*;split
 ·rename_i hn;simp only[hn]at h;exact d _ _ h
 ·rename_i o ho;simp only[ho]at h;split
  ·rename_i hw;rw[if_pos hw]at h;exact h.mono fun v w'=>d _ _
  ·rename_i hw;rw[if_neg hw]at h;exact d _ _ h
def wpAnyS(P:Program)(F:Option (Bool×List Nat))(md:Region.Mode)(ops:Array Oper)(K:Act→World→Prop):Nat→Array Bool→Act→World→Prop
 |0,listed,a,w=>Region.ready md ops listed= []∧K a w
 |fuel+1,listed,a,w=>
  (Region.ready md ops listed= []→K a w)∧∀i∈Region.ready md ops listed,sOp P F ops i (wpAnyS P F md ops K fuel (listed.setIfInBounds i true)) a w
theorem wpAnyS.wpAny{K:Act→World→Prop}{Q:Exit→Act→World→Prop}(e: ∀a w,K a w→Q .normal a w): ∀(fuel:Nat) (d:Array Bool) (a:Act) (w:World),
  wpAnyS P F md ops K fuel d a w→Go.wpAny P md ops Q fuel d a w
 |0,_,_,_,h=>⟨h.1,e _ _ h.2⟩
 |fuel+1,d,a,w,h=>⟨fun g=>e _ _ (h.1 g),fun i j=>by
   have h1:=h.2 i j;unfold sOp at h1;unfold Go.wpOp;split
   ·rename_i hn;simp only[hn]at h1;exact wpAnyS.wpAny e fuel _ _ _ h1
   ·rename_i o ho;simp only[ho]at h1;split
    ·rename_i hw;rw[if_pos hw]at h1;exact .inl (opSem.wp (h1.mono fun v w' hv=>wpAnyS.wpAny e fuel _ _ _ hv))
    ·rename_i hw;rw[if_neg hw]at h1;exact wpAnyS.wpAny e fuel _ _ _ h1⟩
def YieldS(P:Program)(F:Option (Bool×List Nat))(ops:Array Oper)(o:Oper)(v:Value)(a:Act)(w:World):Prop:=
 (Region.wanted o (yielded ops a.tmps)=true∧J0 P o.op= .pure∧∀w',(execOp a.eval o).run P w'= .ok (.value v) w')∨
 (Region.wanted o (yielded ops a.tmps)=true∧J0 P o.op= .load∧∀w',Keep F w w'→(execOp a.eval o).run P w'= .ok (.value v) w')∨
 (Region.wanted o (yielded ops a.tmps)=false∧v=undef)
theorem YieldS.sOp{i:Nat}{o:Oper}{v:Value}{a:Act}{w:World}{K:Act→World→Prop}(g:ops[i]? =some o)(j:YieldS P F ops o v a w)(h:K (a.put o.dst v) w):sOp P F ops i K a w:=by
 unfold Av.sOp;simp only[g];rcases j with⟨h1,d,e⟩|⟨h1,d,e⟩|⟨h1,rfl⟩
 ·rw[if_pos h1];unfold opSem;rw[d];exact⟨v,e,h⟩
 ·rw[if_pos h1];unfold opSem;rw[d];exact⟨v,e,h⟩
 ·rw[if_neg (by simp[h1])];exact h
theorem A4L{i:Nat}{o:Oper}{a:Act}{w:World}{K:Act→World→Prop}(g:ops[i]? =some o)(hc:J0 P o.op≠ .eff)(h:sOp P F ops i K a w): ∃v,YieldS P F ops o v a w∧K (a.put o.dst v) w:=by
 unfold Av.sOp at h;simp only[g]at h;by_cases hw:Region.wanted o (yielded ops a.tmps)=true
 ·rw[if_pos hw]at h;unfold opSem at h;split at h
  ·rename_i d;obtain⟨v,h1,e⟩:=h;exact⟨v,.inl ⟨hw,d,h1⟩,e⟩
  ·rename_i d;obtain⟨v,h1,e⟩:=h;exact⟨v,.inr (.inl ⟨hw,d,h1⟩),e⟩
  ·rename_i d;exact absurd d hc
 ·rw[if_neg hw]at h;exact⟨undef,.inr (.inr ⟨by simpa using hw,rfl⟩),h⟩
theorem YieldS.of_same{o:Oper}{v:Value}{a a':Act}{w w':World}(g:YieldS P F ops o v a w)(he:execOp a'.eval o=execOp a.eval o)
  (hw:Region.wanted o (yielded ops a'.tmps)=Region.wanted o (yielded ops a.tmps)) (d:J0 P o.op= .load→Keep F w w'):YieldS P F ops o v a' w':=by
 unfold YieldS at*;rw[he,hw];rcases g with h|h|h
 ·exact .inl h
 ·exact .inr (.inl ⟨h.1,h.2.1,fun e hk=>h.2.2 e ((d h.2.1).trans hk)⟩)
 ·exact .inr (.inr h)
def Z1(P:Program)(rc:Option Bool)(o:Op):Bool:=J0 P o != .eff||match rc with
 |none=>false
 |some sx=>sx|| !A1O o
theorem B89{j:Nat}{d oj:Oper}{v:Value}(G:ops[j]? =some oj)(o:d.apart ops oj=true)
  (q: ∀cs b,d.op≠ .select cs b) (r: ∀cs b,oj.op≠ .select cs b) (x:J0 P d.op= .load→Z1 P (F.map (·.1)) oj.op=true) {K:Act→World→Prop} {a:Act} {w:World}
  (g:YieldS P F ops d v a w) (h:sOp P F ops j K (a.put d.dst v) w):
  sOp P F ops j (fun a' w'=>YieldS P F ops d v a' w'∧K (a'.put d.dst v) w') a w:=by
 obtain⟨h1,m,A⟩:=Oper.apart_spec o;have keep: ∀(a:Act) (w w':World),YieldS P F ops d v a w→(J0 P d.op= .load→Keep F w w')→∀u,YieldS P F ops d v (a.put oj.dst u) w':=fun a w w' g y u=>
  g.of_same (execOp_put d q a oj.dst u A) (wanted_put d a oj.dst u A) y
 unfold sOp at*;simp only[G]at*;rw[wanted_put oj a d.dst v h1]at h;split
 ·rename_i hw;rw[if_pos hw]at h;unfold opSem at*;rw[execOp_put oj r a d.dst v h1]at h;split at h
  ·obtain⟨u,z,hn⟩:=h;exact⟨u,z,keep a w w g (fun _=>Keep.refl F w) u,by rw[←Act.put_comm a v u m];exact hn⟩
  ·obtain⟨u,z,hn⟩:=h;exact⟨u,z,keep a w w g (fun _=>Keep.refl F w) u,by rw[←Act.put_comm a v u m];exact hn⟩
  ·rename_i i;refine h.mono fun u w' hn=>⟨hn.1,keep a w w' g (fun hl=>?_) u,by rw[←Act.put_comm a v u m];exact hn.2⟩
   have h5:=x hl;cases C:F with
   |none=>rw[C]at h5;simp[Z1,i]at h5
   |some p=>
    obtain⟨sx,l⟩:=p;have e:=hn.1;rw[C]at e h5;rcases e with e|e
    ·rw[e.1]at h5;simp[Z1,i,e.2]at h5
    ·exact e
 ·rename_i hw;rw[if_neg hw]at h;exact⟨keep a w w g (fun _=>Keep.refl F w) _,by rw[←Act.put_comm a v undef m];exact h⟩
def Closed(md:Region.Mode)(ops:Array Oper)(k:Nat)(W:Nat→Prop):Prop:=
 W k∧∀j oj,W j→j≠k→ops[j]? =some oj→∃e∈oj.after,Region.binds md e=true∧W e.on
theorem Closed.not_ready{k:Nat}{W:Nat→Prop}(q:Closed md ops k W){d:Array Bool}(h: ∀j,W j→d.getD j false=false){j:Nat}
  (r:j∈Region.ready md ops d) (i:j≠k): ¬W j:=fun m=>by
 obtain⟨_,oj,o,g⟩:=mem_ready.1 r;obtain⟨e,he,hb,p⟩:=q.2 j oj m i o;have:=g e he hb;rw[h _ p]at this;cases this
theorem K8{l:Array Bool}{j:Nat}(h:l.getD j true=false):l.getD j false=false:=by
 rcases Nat.lt_or_ge j l.size with d|d
 ·simp[d]at h⊢;exact h
 ·simp[Array.getElem?_eq_none d]at h
theorem W5{l:Array Bool}{i j:Nat}(h:i≠j):(l.setIfInBounds i true).getD j false=l.getD j false:=getD_set_ne false h
theorem A8O{K:Act→World→Prop}{i:Nat}{q:Oper}{v:Value}{W:Nat→Prop}(J:ops[i]? =some q)(r: ∀(j:Nat) (o:Oper) cs b,ops[j]? =some o→o.op≠ .select cs b)
  (V:Closed md ops i W):
  ∀(fuel:Nat) (d:Array Bool) (a:Act) (w:World),(∀j,W j→d.getD j false=false)→
   (∀j oj,ops[j]? =some oj→¬W j→d.getD j true=false→q.apart ops oj=true∧(J0 P q.op= .load→Z1 P (F.map (·.1)) oj.op=true))→
   i∈Region.ready md ops d→YieldS P F ops q v a w→
   wpAnyS P F md ops K fuel (d.setIfInBounds i true) (a.put q.dst v) w→wpAnyS P F md ops K (fuel+1) d a w:=by
 intro fuel
 induction fuel with
 |zero=>
  intro d a w _ _ hr I H;refine⟨fun h=>(by rw[h]at hr;cases hr),fun j y=>?_⟩;by_cases g:j=i
  ·subst g;exact I.sOp J H
  ·have:=ready_mono y g;rw[H.1]at this;cases this
 |succ fuel X=>
  intro d a w z m hr I H;refine⟨fun h=>(by rw[h]at hr;cases hr),fun j y=>?_⟩;by_cases g:j=i
  ·subst g;exact I.sOp J H
  ·have h1:=H.2 j (ready_mono y g);obtain⟨u,oj,x,_⟩:=mem_ready.1 y;have A:=V.not_ready z y g;obtain⟨L,M⟩:=m j oj x A u;have Y:=B89 x L (fun cs b=>r i q cs b J) (fun cs b=>r j oj cs b x) M I h1;have C: ∀k,W k→(d.setIfInBounds j true).getD k false=false:=fun k hk=>by
    rw[W5 (fun e:j=k=>A (by rw[e];exact hk))];exact z k hk
   have p: ∀k ok,ops[k]? =some ok→¬W k→(d.setIfInBounds j true).getD k true=false→q.apart ops ok=true∧(J0 P q.op= .load→Z1 P (F.map (·.1)) ok.op=true):=fun k ok hk O T=>by
    refine m k ok hk O ?_;by_cases G:j=k
    ·subst G;exact u
    ·rw[getD_set_ne true G]at T;exact T
   refine A56 (fun a' w' U=>X (d.setIfInBounds j true) a' w' C p (ready_mono hr (Ne.symm g)) U.1 ?_) Y;rw[Array.setIfInBounds_comm _ _ g];exact U.2
def A57:Op→Bool
 | .move _| .assign _=>true
 |_=>false
def A7M(ops:Array Oper)(o:Oper)(a:Act):Value:=
 if Region.wanted o (yielded ops a.tmps)then(match o.op with| .move x| .assign x=>a.eval x|_=>undef)else undef
theorem A9z{j:Nat}{oj:Oper}{K:Act→World→Prop}{a:Act}{w:World}(d:ops[j]? =some oj)(hm:A57 oj.op=true):
  sOp P F ops j K a w↔K (a.put oj.dst (A7M ops oj a)) w:=by
 unfold sOp A7M;simp only[d];split
 ·unfold opSem;obtain⟨dst,op,type,pos,after,guard⟩:=oj;cases op<;>simp[A57]at hm
  ·simp only[J0,execOp];exact⟨fun⟨v,h,hk⟩=>by have:=h w;simp[pure]at this;subst this;exact hk,fun h=>⟨_,fun _=>rfl,h⟩⟩
  ·simp only[J0,execOp];exact⟨fun⟨v,h,hk⟩=>by have:=h w;simp[pure]at this;subst this;exact hk,fun h=>⟨_,fun _=>rfl,h⟩⟩
 ·exact Iff.rfl
theorem B4H{o:Oper}{a:Act}{dst:Option Tmp}{v:Value}(h: ∀d,dst=some d→d∉o.looksAt ops):A7M ops o (a.put dst v)=A7M ops o a:=by
 unfold A7M;rw[wanted_put o a dst v h];have key: ∀x∈o.op.operands,(a.put dst v).eval x=a.eval x:=fun x hx=>Act.eval_put fun d i e=>h d i (by
  subst e;exact List.mem_append_left _ (List.mem_filterMap.2 ⟨.tmp d,by simpa using hx,rfl⟩))
 obtain⟨g,op,type,pos,after,guard⟩:=o;split
 ·cases op<;>simp only[]<;>exact key _ (by simp[Op.operands])
 ·rfl
theorem A3Y{i:Nat}{d oj:Oper}(m:ops[i]? =some d)(g:oj.apart ops d=true)(j: ∀cs b,d.op≠ .select cs b){K:Act→World→Prop}{a:Act}{w:World}(u:Value)
  (h:sOp P F ops i (fun a' w'=>K (a'.put oj.dst u) w') a w):sOp P F ops i K (a.put oj.dst u) w:=by
 obtain⟨h1,e,o⟩:=Oper.apart_spec g;unfold sOp at*;simp only[m]at*;rw[wanted_put d a oj.dst u h1];split
 ·rename_i hw;rw[if_pos hw]at h;unfold opSem at*;rw[execOp_put d j a oj.dst u h1];split at h
  ·obtain⟨v,hv,hn⟩:=h;exact⟨v,hv,by show K _ _;rw[Act.put_comm a u v e];exact hn⟩
  ·obtain⟨v,hv,hn⟩:=h;exact⟨v,hv,by show K _ _;rw[Act.put_comm a u v e];exact hn⟩
  ·exact h.mono fun v w' hn=>⟨hn.1,by show K _ _;rw[Act.put_comm a u v e];exact hn.2⟩
 ·rename_i hw;rw[if_neg hw]at h;rw[Act.put_comm a u undef e];exact h
theorem YieldS.uniq{o:Oper}{u v:Value}{a:Act}{w:World}(h:YieldS P F ops o u a w)(g:YieldS P F ops o v a w):u=v:=by
 have val: ∀{x y:Value},(execOp a.eval o).run P w= .ok (.value x) w→(execOp a.eval o).run P w= .ok (.value y) w→x=y:=fun h1 e=>by
  rw[h1]at e;cases e;rfl
 rcases h with⟨h1,e,i⟩|⟨h1,e,i⟩|⟨h1,e⟩<;>rcases g with⟨d,m,j⟩|⟨d,m,j⟩|⟨d,m⟩
 ·exact val (i w) (j w)
 ·exact val (i w) (j w (Keep.refl F w))
 ·rw[h1]at d;cases d
 ·exact val (i w (Keep.refl F w)) (j w)
 ·exact val (i w (Keep.refl F w)) (j w (Keep.refl F w))
 ·rw[h1]at d;cases d
 ·rw[h1]at d;cases d
 ·rw[h1]at d;cases d
 ·rw[e,m]
theorem A64{o:Op}{w w':World}(hb:Z1 P (F.map (·.1)) o=true)(hc:J0 P o= .eff)(h:B5W F o w w'):Keep F w w':=by
 cases F with
 |none=>simp[Z1,hc]at hb
 |some p=>
  obtain⟨sx,l⟩:=p;rcases h with h|h
  ·simp[Z1,hc,h.1,h.2]at hb
  ·exact h
theorem Keep.symm{w w':World}(h:Keep F w w'):Keep F w' w:=by
 unfold Keep at*;split
 ·simp only at h;exact h.symm
 ·simp only at h;exact fun k hk=>(h k hk).symm
theorem B5h{i:Nat}{d:Oper}(e:ops[i]? =some d)(hc:J0 P d.op= .eff)(hb:Z1 P (F.map (·.1)) d.op=true){K:Act→World→Prop}{a:Act}{w:World}(h:sOp P F ops i K a w):
  sOp P F ops i (fun a' w'=>Keep F w w'∧K a' w') a w:=by
 unfold sOp at*;simp only[e]at*;split
 ·rename_i hw;rw[if_pos hw]at h;unfold opSem at*;rw[hc]at h⊢;exact h.mono fun v w' hn=>⟨hn.1,A64 hb hc hn.1,hn.2⟩
 ·rename_i hw;rw[if_neg hw]at h;exact⟨Keep.refl F w,h⟩
theorem B5i{i:Nat}{d:Oper}(g:ops[i]? =some d){K:Act→World→Prop}{a:Act}{w:World}(h:sOp P F ops i K a w): ∃v w',K (a.put d.dst v) w':=by
 unfold sOp at h;simp only[g]at h;split at h
 ·unfold opSem at h;split at h
  ·obtain⟨v,_,h⟩:=h;exact⟨v,w,h⟩
  ·obtain⟨v,_,h⟩:=h;exact⟨v,w,h⟩
  ·unfold effPost at h;split at h<;>try exact h.elim
   ·exact⟨_,_,h.2⟩
   ·exact⟨_,_,h.2⟩
   ·obtain⟨e,w',m,⟨v,_,_,j⟩,_⟩:=h [];exact⟨v,w',j⟩
 ·exact⟨_,_,h⟩
theorem A4M{K:Act→World→Prop}{i:Nat}{m:Oper}{W:Nat→Prop}(C:ops[i]? =some m)(a0:J0 P m.op= .eff)(y: ∀(j:Nat) (o:Oper) cs b,ops[j]? =some o→o.op≠ .select cs b)
  (hW:Closed md ops i W):
  ∀(fuel:Nat) (d:Array Bool) (a:Act) (w:World),(∀j,W j→d.getD j false=false)→
   (∀j oj,ops[j]? =some oj→¬W j→d.getD j true=false→oj.apart ops m=true∧m.apart ops oj=true∧(A57 oj.op=true∨(J0 P oj.op= .load∧Z1 P (F.map (·.1)) m.op=true)))→
   i∈Region.ready md ops d→sOp P F ops i (wpAnyS P F md ops K fuel (d.setIfInBounds i true)) a w→wpAnyS P F md ops K (fuel+1) d a w:=by
 intro fuel
 induction fuel with
 |zero=>
  intro d a w M p hr H;refine⟨fun h=>(by rw[h]at hr;cases hr),fun j O=>?_⟩;by_cases g:j=i
  ·subst g;exact H
  ·exfalso;have h1: ∀a w,wpAnyS P F md ops K 0 (d.setIfInBounds i true) a w→False:=fun a w h=>by
    have:=ready_mono O g;rw[h.1]at this;cases this
   have x:=A56 h1 H;unfold sOp at x;simp only[C]at x;split at x
   ·unfold opSem at x;split at x
    ·obtain⟨_,_,h⟩:=x;exact h
    ·obtain⟨_,_,h⟩:=x;exact h
    ·unfold effPost at x;split at x<;>try exact x.elim
     all_goals first
      |exact x.2
      |(obtain⟨e,w',fr,⟨v,_,_,hf⟩,_⟩:=x [];exact hf)
   ·exact x
 |succ fuel ih=>
  intro d a w M p hr H;refine⟨fun h=>(by rw[h]at hr;cases hr),fun j O=>?_⟩;by_cases g:j=i
  ·subst g;exact H
  ·obtain⟨G,oj,q,_⟩:=mem_ready.1 O;have U:=hW.not_ready M O g;obtain⟨V,I,hm⟩:=p j oj q U G;have J: ∀k,W k→(d.setIfInBounds j true).getD k false=false:=fun k hk=>by
    rw[W5 (fun e:j=k=>U (by rw[e];exact hk))];exact M k hk
   have r: ∀k ok,ops[k]? =some ok→¬W k→(d.setIfInBounds j true).getD k true=false→ok.apart ops m=true∧m.apart ops ok=true∧(A57 ok.op=true∨(J0 P ok.op= .load∧Z1 P (F.map (·.1)) m.op=true)):=fun k ok hk a4 hu=>by
    refine p k ok hk a4 ?_;by_cases X:j=k
    ·subst X;exact G
    ·rw[getD_set_ne true X]at hu;exact hu
   rcases hm with hm|⟨a5,hb⟩
   case inr=>
    have T:=B5h C a0 hb H;have z:J0 P oj.op≠ .eff:=by rw[a5];exact fun e=>by cases e
    have h1:=(Oper.apart_spec I).1;have L: ∀v w' u,Keep F w w'→YieldS P F ops oj u (a.put m.dst v) w'→YieldS P F ops oj u a w:=fun v w' u hk hy=>
     hy.of_same (execOp_put oj (fun cs b=>y j oj cs b q) a m.dst v h1).symm (wanted_put oj a m.dst v h1).symm (fun _=>hk.symm)
    obtain⟨v,w',hk,a6⟩:=B5i C T;obtain⟨u,hy,_⟩:=A4L q z (a6.2 j (ready_mono O g));have Y:=L v w' u hk hy;refine Y.sOp q ?_;refine ih (d.setIfInBounds j true) _ w J r (ready_mono hr (Ne.symm g)) ?_;refine A3Y C V (fun cs b=>y i m cs b C) u ?_
    have step: ∀v' A,(Keep F w A∧wpAnyS P F md ops K (fuel+1) (d.setIfInBounds i true) (a.put m.dst v') A)→
      wpAnyS P F md ops K fuel ((d.setIfInBounds j true).setIfInBounds i true) ((a.put m.dst v').put oj.dst u) A:=fun v' A ⟨a7,a9⟩=>by
     obtain⟨u',b0,h4⟩:=A4L q z (a9.2 j (ready_mono O g));have hu:u'=u:=(L v' A u' a7 b0).uniq Y;subst hu;rw[Array.setIfInBounds_comm _ _ g];exact h4
    unfold sOp at T⊢;simp only[C]at T⊢;split
    ·rename_i hw;rw[if_pos hw]at T;exact T.mono fun v w' h=>step v w' h
    ·rename_i hw;rw[if_neg hw]at T;exact step _ _ T
   rw[A9z q hm];refine ih (d.setIfInBounds j true) _ w J r (ready_mono hr (Ne.symm g)) ?_;refine A3Y C V (fun cs b=>y i m cs b C) _ ?_
   have step: ∀v w',wpAnyS P F md ops K (fuel+1) (d.setIfInBounds i true) (a.put m.dst v) w'→
     wpAnyS P F md ops K fuel ((d.setIfInBounds j true).setIfInBounds i true) ((a.put m.dst v).put oj.dst (A7M ops oj a)) w':=fun v w' h=>by
    have:=h.2 j (ready_mono O g);rw[A9z q hm,B4H (Oper.apart_spec I).1]at this;rw[Array.setIfInBounds_comm _ _ g];exact this
   unfold sOp at H⊢;simp only[C]at H⊢;split
   ·rename_i hw;rw[if_pos hw]at H;exact H.mono fun v w' h=>step v w' h
   ·rename_i hw;rw[if_neg hw]at H;exact step _ _ H
def t7(o:Oper)(k:Nat)(W:List Bool):Bool:=o.after.any fun e=>Region.binds .any e&&(e.on==k||(k<e.on&&W.getD (e.on-(k+1)) false))
def Y4(k:Nat):List Oper→List Bool→List Bool
 | [],W=>W
 |o::l,W=>Y4 k l (W++[t7 o k W])
def A58(P:Program)(rc:Option Bool)(ops:Array Oper)(oi oj:Oper):Bool:=match J0 P oi.op with
 | .pure=>oi.apart ops oj
 | .load=>oi.apart ops oj&&Z1 P rc oj.op
 | .eff=>oj.apart ops oi&&oi.apart ops oj&&(A57 oj.op||(J0 P oj.op== .load&&Z1 P rc oi.op))
def A4N(P:Program)(rc:Option Bool)(ops:Array Oper)(oi:Oper):List Oper→List Bool→Bool
 | [],_=>true
 |o::l,b::W=>(b||A58 P rc ops oi o)&&A4N P rc ops oi l W
 |_::_,[]=>false
def A8P(P:Program)(rc:Option Bool)(ops:Array Oper):Nat→List Oper→Bool
 |_,[]=>true
 |k,o::l=>(o.after.all fun e=> !Region.binds .any e||e.on<k)&&A4N P rc ops o l (Y4 k l [])&&A8P P rc ops (k+1) l
def B2v(ops:Array Oper):Bool:=ops.all fun o=>match o.op with| .select .. =>false|_=>true
def A4O(P:Program)(rc:Option Bool)(ops:Array Oper):Bool:=B2v ops&&A8P P rc ops 0 ops.toList
theorem A1U(k:Nat): ∀(l:List Oper) (W:List Bool) (i:Nat),i<W.length→(Y4 k l W)[i]? =W[i]?
 | [],W,i,_=>rfl
 |o::l,W,i,h=>by
  rw[Y4,A1U k l _ i (by simp;omega),D1q h]
theorem A3Z(k:Nat): ∀(l:List Oper) (W:List Bool) (i:Nat) (o:Oper),l[i]? =some o→
  (Y4 k l W)[W.length+i]? =some (t7 o k ((Y4 k l W).take (W.length+i)))
 | [],_,_,_,h=>by simp at h
 |o'::l,W,0,o,h=>by
  simp at h;subst h;have e:=A1U k l (W++[t7 o' k W]) W.length (by simp);simp only[Y4,Nat.add_zero];rw[e];have t:(Y4 k l (W++[t7 o' k W])).take W.length=W:=by
   apply List.ext_getElem?;intro i;rw[List.getElem?_take];by_cases d:i<W.length
   ·rw[if_pos d,A1U k l _ i (by simp;omega),D1q d]
   ·rw[if_neg d,List.getElem?_eq_none (by omega)]
  rw[t];simp
 |o'::l,W,i+1,o,h=>by
  have:=A3Z k l (W++[t7 o' k W]) i o (by simpa using h);simp only[D02,D01,D03]at this;simp only[Y4];have e:W.length+(i+1)=W.length+(0+1)+i:=by omega
  rw[e];exact this
theorem okRest_at{e:Option Bool}{g:Oper}: ∀(l:List Oper) (W:List Bool),A4N P e ops g l W=true→∀(i:Nat) (o:Oper),l[i]? =some o→W[i]? =some true∨A58 P e ops g o=true
 | [],_,_,i,o,h=>by simp at h
 |o'::l,[],h,_,_,_=>by simp[A4N]at h
 |o'::l,b::W,h,0,o,d=>by
  simp[A4N]at h d;subst d;rcases h.1 with h|h
  ·exact .inl (by simp[h])
  ·exact .inr h
 |o'::l,b::W,h,i+1,o,d=>by
  simp[A4N]at h d;simpa using okRest_at l W h.2 i o d
theorem A59(h:B2v ops=true): ∀(j:Nat) (o:Oper) cs b,ops[j]? =some o→o.op≠ .select cs b:=by
 intro j o cs b ho he;unfold B2v at h;rw[Array.all_eq_true_iff_forall_mem]at h;have:=h o (Array.mem_of_getElem? ho);rw[he]at this;simp at this
theorem B1m(hs:B2v ops=true){K:Act→World→Prop}: ∀(l:List Oper) (k:Nat) (d:Array Bool),(∀j,l[j]? =ops[k+j]?)→(∀j,d.getD j false=decide (j<k))→(d.size=ops.size)→
  A8P P (F.map (·.1)) ops k l=true→∀a w,wpA P F ops K l a w→wpAnyS P F .any ops K l.length d a w:=by
 intro l
 induction l with
 |nil=>
  intro k d hl z hsz _ a w h;refine⟨?_,h⟩;cases hr:Region.ready .any ops d with
  |nil=>rfl
  |cons x xs=>
   exfalso;have hx:x∈Region.ready .any ops d:=by rw[hr];simp
   obtain⟨u,o,ho,_⟩:=mem_ready.1 hx;have:=z x;rw[K8 u]at this;have hk:k≤x:=by simpa using this
   have:=hl (x-k);rw[show k+(x-k)=x from by omega,ho]at this;simp at this
 |cons o l ih=>
  intro k d hl z hsz U a w h;have u:ops[k]? =some o:=by simpa using(hl 0).symm
  have a7:k<ops.size:=(D1L.1 u).1;simp only[A8P,D09]at U;obtain⟨⟨he,hr⟩,A⟩:=U;have C: ∀j,l[j]? =ops[k+1+j]? :=fun j=>by have:=hl (j+1);simpa [Nat.add_assoc,Nat.add_comm 1 j]using this
  have m:k∈Region.ready .any ops d:=by
   rw[mem_ready];refine⟨?_,o,u,fun e G hb=>?_⟩
   ·have:=z k;simp at this;have I:k<d.size:=by omega
    simp[I]at this⊢;exact this
   ·rw[z];rw[Array.all_eq_true_iff_forall_mem]at he;have:=he e G;simp[hb]at this;simpa using this
  have a4: ∀j,(d.setIfInBounds k true).getD j false=decide (j<k+1):=fun j=>by
   by_cases J:k=j
   ·subst J;have I:k<d.size:=by omega
    simp[I]
   ·rw[getD_set_ne false J,z];apply D1Z.2;omega
  have V:(d.setIfInBounds k true).size=ops.size:=by simpa using hsz
  let W:Nat→Prop:=fun j=>j=k∨(k<j∧(Y4 k l [])[j-(k+1)]? =some true)
  have X:Closed .any ops k W:=by
   refine⟨.inl rfl,fun j oj L Y g=>?_⟩;rcases L with L|⟨a5,L⟩
   ·exact absurd L Y
   ·have M:l[j-(k+1)]? =some oj:=by rw[C];rw[show k+1+(j-(k+1))=j from by omega];exact g
    have O:=A3Z k l [] (j-(k+1)) oj M;simp only[D03,Nat.zero_add]at O;rw[L]at O;have hw:t7 oj k ((Y4 k l []).take (j-(k+1)))=true:=by simpa using O.symm
    unfold t7 at hw;obtain⟨e,G,i⟩:=Array.any_eq_true'.1 hw;simp only[D09,D2J,beq_iff_eq,D1I]at i;refine⟨e,G,i.1,?_⟩;rcases i.2 with h1|⟨h1,r⟩
    ·exact .inl h1
    ·refine .inr ⟨h1,?_⟩;rw[List.getD_eq_getElem?_getD]at r;cases T:((Y4 k l []).take (j-(k+1)))[e.on-(k+1)]? with
     |none=>rw[T]at r;simp at r
     |some b=>
      rw[T]at r;simp at r;subst r;rw[List.getElem?_take]at T;split at T
      ·exact T
      ·cases T
  have a0: ∀j,W j→d.getD j false=false:=fun j L=>by
   rw[z];rcases L with rfl|⟨a5,_⟩<;>simp;omega
  have q: ∀j oj,ops[j]? =some oj→¬W j→d.getD j true=false→A58 P (F.map (·.1)) ops o oj=true:=fun j oj g p hu=>by
   have h1:=z j;rw[K8 hu]at h1;have J:k≤j:=by simpa using h1
   have Y:j≠k:=fun e=>p (.inl e);have M:l[j-(k+1)]? =some oj:=by rw[C];rw[show k+1+(j-(k+1))=j from by omega];exact g
   rcases okRest_at l _ hr _ _ M with r|r
   ·exact absurd (.inr ⟨by omega,r⟩) p
   ·exact r
  have hst:sOp P F ops k (wpA P F ops K l) a w:=by unfold sOp;simp only[u];exact h
  have y:sOp P F ops k (wpAnyS P F .any ops K l.length (d.setIfInBounds k true)) a w:=
   A56 (fun a' w' h'=>ih (k+1) _ C a4 V A a' w' h') hst
  by_cases hc:J0 P o.op= .eff
  ·refine A4M u hc (A59 hs) X l.length d a w a0 (fun j oj g p hu=>?_) m y;have:=q j oj g p hu;unfold A58 at this;rw[hc]at this;simp only[D09,D2J,beq_iff_eq]at this;exact⟨this.1.1,this.1.2,this.2⟩
  ·obtain⟨v,hy,hK⟩:=A4L u hc y;refine A8O u (A59 hs) X l.length d a w a0 (fun j oj g p hu=>?_) m hy hK;have:=q j oj g p hu;unfold A58 at this;split at this
   ·rename_i hp;exact⟨this,fun hl=>by rw[hp]at hl;cases hl⟩
   ·simp only[D09]at this;exact⟨this.1,fun _=>this.2⟩
   ·rename_i a6;exact absurd a6 hc
theorem A3a{id:Nat}{K:Act→World→Prop}{Q:Exit→Act→World→Prop}{a:Act}{w:World}(hm:P.follows .mixedOrders=true)(d:A4O P (F.map (·.1)) ops=true)
  (e: ∀a w,K a w→Q .normal a w) (h:wpA P F ops K ops.toList a {w with drawn:=w.drawn+1}):(Code.region id ops true).wp P Q a w:=by
 simp only[A4O,D09]at d;refine wp_region_any hm (wpAnyS.wpAny (F:=F) e _ _ _ _ ?_);have:=B1m d.1 ops.toList 0 (Array.replicate ops.size false) (by simp) (by intro j;simp[Array.getElem?_replicate];split<;>rfl) (by simp) d.2 a _ h;simpa using this
end
end Go.Av
