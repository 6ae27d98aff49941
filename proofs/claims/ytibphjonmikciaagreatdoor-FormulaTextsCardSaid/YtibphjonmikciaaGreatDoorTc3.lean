/- Part of the proof: what the last text builds on. No condition stands here. -/
import Derived.Test.YtibphjonmikciaaGreatDoorProg
import Derived.Test.YtibphjonmikciaaGreatDoorRows
import Derived.Test.YtibphjonmikciaaGreatDoorCards
import Derived.Test.YtibphjonmikciaaGreatDoorTie
import Derived.Test.YtibphjonmikciaaGreatDoorTc2
set_option linter.unusedSimpArgs false
set_option linter.unusedVariables false
set_option maxRecDepth 20000
namespace Go.Proofs
open Go.Av
@[go_sem] theorem C6Y:A3s Tryz.prog 2=some .i64:=by kernel_rfl
@[go_sem] theorem C5E:C6 Tryz.prog 3= .int:=by kernel_rfl
@[go_sem] theorem C22:F8 Tryz.prog 3=some (false,1):=by kernel_rfl
@[go_sem] theorem C6Z:A3s Tryz.prog 3=some .i64:=by kernel_rfl
@[go_sem] theorem C5P:G1 Tryz.prog 3=some [.int .i64 0]:=by kernel_rfl
@[go_sem] theorem C6V:A1y Tryz.prog 3=none:=by kernel_rfl
@[go_sem] theorem C5F:C6 Tryz.prog 4= .bool:=by kernel_rfl
@[go_sem] theorem C23:F8 Tryz.prog 4=some (false,1):=by kernel_rfl
@[go_sem] theorem C5Q:G1 Tryz.prog 4=some [.bool false]:=by kernel_rfl
@[go_sem] theorem C5T:Go.Av.A6T Tryz.prog 4=some (.bool false):=by kernel_rfl
@[go_sem] theorem C6W:A1y Tryz.prog 4=none:=by kernel_rfl
@[go_sem] theorem C24:F8 Tryz.prog 5=some (false,1):=by kernel_rfl
@[go_sem] theorem C6a:A3s Tryz.prog 5=some .u8:=by kernel_rfl
@[go_sem] theorem C5R:G1 Tryz.prog 5=some [.int .u8 0]:=by kernel_rfl
@[go_sem] theorem C5G:C6 Tryz.prog 9= .str:=by kernel_rfl
@[go_sem] theorem C25:F8 Tryz.prog 9=some (false,1):=by kernel_rfl
@[go_sem] theorem C6b:Tryz.prog.underlying 9=some .string:=by kernel_rfl
@[go_sem] theorem C5S:G1 Tryz.prog 9=some [.str ⟨#[]⟩]:=by kernel_rfl
@[go_sem] theorem C5N:A3s Tryz.prog 21=some .i32:=by kernel_rfl
@[go_sem] theorem C1p:F8 Tryz.prog 22=some (false,1):=by kernel_rfl
@[go_sem] theorem C2f:C6 Tryz.prog 23= .slice:=by kernel_rfl
@[go_sem] theorem C1q:F8 Tryz.prog 23=some (false,1):=by kernel_rfl
@[go_sem] theorem C2t:G7 Tryz.prog 23=some (114,2,24):=by kernel_rfl
@[go_sem] theorem C2g:C6 Tryz.prog 25= .struct:=by kernel_rfl
@[go_sem] theorem C1r:F8 Tryz.prog 25=some (true,3):=by kernel_rfl
@[go_sem] theorem B9T:M0 Tryz.prog 25=some [(0,false,1),(1,false,1),(2,false,1)]:=by kernel_rfl
@[go_sem] theorem C26:G1 Tryz.prog 25=some [.nilsl,.int .i64 0,.bool false]:=by kernel_rfl
@[go_sem] theorem C5H:A1y Tryz.prog 25=none:=by kernel_rfl
@[go_sem] theorem C2h:C6 Tryz.prog 26= .slice:=by kernel_rfl
@[go_sem] theorem C1s:F8 Tryz.prog 26=some (false,1):=by kernel_rfl
@[go_sem] theorem C2u:G7 Tryz.prog 26=some (28,7,96):=by kernel_rfl
@[go_sem] theorem C27:G1 Tryz.prog 26=some [.nilsl]:=by kernel_rfl
@[go_sem] theorem C2i:C6 Tryz.prog 28= .struct:=by kernel_rfl
@[go_sem] theorem C1t:F8 Tryz.prog 28=some (true,7):=by kernel_rfl
@[go_sem] theorem B9U:M0 Tryz.prog 28=some [(0,false,1),(1,false,1),(2,true,3),(5,false,1),(6,false,1)]:=by kernel_rfl
@[go_sem] theorem C28:G1 Tryz.prog 28=some [.int .i64 0,.int .i64 0,.nilsl,.int .i64 0,.bool false,.str ⟨#[]⟩,.nilsl]:=by kernel_rfl
@[go_sem] theorem C5I:A1y Tryz.prog 28=none:=by kernel_rfl
@[go_sem] theorem C2j:C6 Tryz.prog 31= .slice:=by kernel_rfl
@[go_sem] theorem C1u:F8 Tryz.prog 31=some (false,1):=by kernel_rfl
@[go_sem] theorem C2v:G7 Tryz.prog 31=some (9,1,16):=by kernel_rfl
@[go_sem] theorem C2k:C6 Tryz.prog 40= .slice:=by kernel_rfl
@[go_sem] theorem C1v:F8 Tryz.prog 40=some (false,1):=by kernel_rfl
@[go_sem] theorem C2w:G7 Tryz.prog 40=some (71,2,24):=by kernel_rfl
@[go_sem] theorem C2l:C6 Tryz.prog 71= .struct:=by kernel_rfl
@[go_sem] theorem C1w:F8 Tryz.prog 71=some (true,2):=by kernel_rfl
@[go_sem] theorem B9V:M0 Tryz.prog 71=some [(0,false,1),(1,false,1)]:=by kernel_rfl
@[go_sem] theorem C6X:A1R Tryz.prog 71=some [(0,.str),(1,.int)]:=by kernel_rfl
@[go_sem] theorem C29:G1 Tryz.prog 71=some [.str ⟨#[]⟩,.int .i64 0]:=by kernel_rfl
@[go_sem] theorem C5J:A1y Tryz.prog 71=none:=by kernel_rfl
@[go_sem] theorem C2m:C6 Tryz.prog 72= .map:=by kernel_rfl
@[go_sem] theorem C1x:F8 Tryz.prog 72=some (false,1):=by kernel_rfl
@[go_sem] theorem C3A:G1 Tryz.prog 72=some [.nilmap]:=by kernel_rfl
@[go_sem] theorem C5O:A3g Tryz.prog 72=some (9,4,.one .str):=by kernel_rfl
@[go_sem] theorem C5K:A1y Tryz.prog 72=none:=by kernel_rfl
@[go_sem] theorem C2n:C6 Tryz.prog 91= .slice:=by kernel_rfl
@[go_sem] theorem C2x:G7 Tryz.prog 91=some (72,1,8):=by kernel_rfl
@[go_sem] theorem C2o:C6 Tryz.prog 95= .slice:=by kernel_rfl
@[go_sem] theorem C2y:G7 Tryz.prog 95=some (5,1,1):=by kernel_rfl
@[go_sem] theorem C3B:G1 Tryz.prog 97=some [.nilp,.nilsl]:=by kernel_rfl
@[go_sem] theorem C5L:A1y Tryz.prog 97=some 97:=by kernel_rfl
@[go_sem] theorem C1U:C6 Tryz.prog 103= .struct:=by kernel_rfl
@[go_sem] theorem B9I:M0 Tryz.prog 103=some [(0,false,1),(1,false,1)]:=by kernel_rfl
@[go_sem] theorem C1y:G1 Tryz.prog 103=some [.str ⟨#[]⟩,.bool false]:=by kernel_rfl
@[go_sem] theorem C1V:C6 Tryz.prog 110= .slice:=by kernel_rfl
@[go_sem] theorem B9W:F8 Tryz.prog 110=some (false,1):=by kernel_rfl
@[go_sem] theorem C1h:G7 Tryz.prog 110=some (25,3,40):=by kernel_rfl
@[go_sem] theorem C1z:G1 Tryz.prog 110=some [.nilsl]:=by kernel_rfl
@[go_sem] theorem C1W:C6 Tryz.prog 114= .struct:=by kernel_rfl
@[go_sem] theorem B9X:F8 Tryz.prog 114=some (true,2):=by kernel_rfl
@[go_sem] theorem B9J:M0 Tryz.prog 114=some [(0,false,1),(1,false,1)]:=by kernel_rfl
@[go_sem] theorem C5M:A1R Tryz.prog 114=some [(0,.str),(1,.int)]:=by kernel_rfl
@[go_sem] theorem C10:G1 Tryz.prog 114=some [.str ⟨#[]⟩,.int .i64 0]:=by kernel_rfl
@[go_sem] theorem C2p:A1y Tryz.prog 114=none:=by kernel_rfl
@[go_sem] theorem C1X:C6 Tryz.prog 150= .struct:=by kernel_rfl
@[go_sem] theorem B9Y:F8 Tryz.prog 150=some (true,2):=by kernel_rfl
@[go_sem] theorem B9K:M0 Tryz.prog 150=some [(0,false,1),(1,false,1)]:=by kernel_rfl
@[go_sem] theorem C11:G1 Tryz.prog 150=some [.nilsl,.nilmap]:=by kernel_rfl
@[go_sem] theorem C2q:A1y Tryz.prog 150=none:=by kernel_rfl
@[go_sem] theorem C2z:A3s Tryz.prog 163=some .u64:=by kernel_rfl
@[go_sem] theorem B9Z:F8 Tryz.prog 194=some (false,1):=by kernel_rfl
@[go_sem] theorem C20:A3s Tryz.prog 194=some .u32:=by kernel_rfl
@[go_sem] theorem C12:G1 Tryz.prog 194=some [.int .u32 0]:=by kernel_rfl
@[go_sem] theorem C21:A3s Tryz.prog 196=some .u64:=by kernel_rfl
@[go_sem] theorem C1Y:C6 Tryz.prog 208= .slice:=by kernel_rfl
@[go_sem] theorem C1i:G7 Tryz.prog 208=some (110,1,24):=by kernel_rfl
@[go_sem] theorem C1Z:C6 Tryz.prog 210= .slice:=by kernel_rfl
@[go_sem] theorem C1j:G7 Tryz.prog 210=some (26,1,24):=by kernel_rfl
@[go_sem] theorem C1a:C6 Tryz.prog 216= .slice:=by kernel_rfl
@[go_sem] theorem B9a:F8 Tryz.prog 216=some (false,1):=by kernel_rfl
@[go_sem] theorem C1k:G7 Tryz.prog 216=some (246,4,64):=by kernel_rfl
@[go_sem] theorem C13:G1 Tryz.prog 216=some [.nilsl]:=by kernel_rfl
@[go_sem] theorem C1b:C6 Tryz.prog 219= .slice:=by kernel_rfl
@[go_sem] theorem C1l:G7 Tryz.prog 219=some (3,1,8):=by kernel_rfl
@[go_sem] theorem C1c:C6 Tryz.prog 240= .slice:=by kernel_rfl
@[go_sem] theorem B9b:F8 Tryz.prog 240=some (false,1):=by kernel_rfl
@[go_sem] theorem C1m:G7 Tryz.prog 240=some (244,2,32):=by kernel_rfl
@[go_sem] theorem C1d:C6 Tryz.prog 242= .slice:=by kernel_rfl
@[go_sem] theorem B9c:F8 Tryz.prog 242=some (false,1):=by kernel_rfl
@[go_sem] theorem C1n:G7 Tryz.prog 242=some (194,1,4):=by kernel_rfl
@[go_sem] theorem C1e:C6 Tryz.prog 244= .struct:=by kernel_rfl
@[go_sem] theorem B9d:F8 Tryz.prog 244=some (true,2):=by kernel_rfl
@[go_sem] theorem B9L:M0 Tryz.prog 244=some [(0,false,1),(1,false,1)]:=by kernel_rfl
@[go_sem] theorem C14:G1 Tryz.prog 244=some [.bool false,.nilsl]:=by kernel_rfl
@[go_sem] theorem C2r:A1y Tryz.prog 244=none:=by kernel_rfl
@[go_sem] theorem C1f:C6 Tryz.prog 246= .struct:=by kernel_rfl
@[go_sem] theorem B9e:F8 Tryz.prog 246=some (true,4):=by kernel_rfl
@[go_sem] theorem B9M:M0 Tryz.prog 246=some [(0,false,1),(1,true,2),(3,false,1)]:=by kernel_rfl
@[go_sem] theorem C15:G1 Tryz.prog 246=some [.nilsl,.bool false,.nilsl,.bool false]:=by kernel_rfl
@[go_sem] theorem C2s:A1y Tryz.prog 246=none:=by kernel_rfl
@[go_sem] theorem C1g:C6 Tryz.prog 302= .slice:=by kernel_rfl
@[go_sem] theorem C1o:G7 Tryz.prog 302=some (216,1,24):=by kernel_rfl
theorem A5:Tryz.prog.follows .mixedOrders=true:=by kernel_rfl
end Go.Proofs
namespace Go.Proofs
open Go.RowKit Go.Maps Go.Sort Go.Shelf

--maps.Keys[map[string]bool,string,bool] (function 47;its iterator 89) · slices.Sorted[string] (46) · slices.Sort[[]string,string] (88) · the map's type 72,the keys' 9
def Tryz.keys47_ren:Go.Shelf.Ren:=⟨fun|7=>47|10=>89|n=>n,fun|23=>72|26=>9|3=>4|28=>77|0=>0|27=>76|33=>123|4=>4|n=>n,fun|n=>n⟩
theorem A2a:SlLaysZ.n7 Tryz.prog Tryz.keys47_ren:={
 mixed:=by kernel_rfl
 f7:=Exists.intro "maps.Keys[map[string]bool,string,bool]" ⟨D1a (by kernel_rfl),(Tryz.func47).trans (congrArg some (by kernel_rfl))⟩
 f10:=Exists.intro "maps.Keys[map[string]bool,string,bool]$1" ⟨D1a (by kernel_rfl),(Tryz.func89).trans (congrArg some (by kernel_rfl))⟩
 t0:=Tryz.underlying0
 a0:=Tryz.isAgg0
 z0:=Tryz.sizeOf0
 v0:=Tryz.zeroValue0
 t4:=Tryz.underlying4
 a4:=Tryz.isAgg4
 z4:=Tryz.sizeOf4
 v4:=Tryz.zeroValue4
 t23:=Tryz.underlying72
 a23:=Tryz.isAgg72
 z23:=Tryz.sizeOf72
 v23:=Tryz.zeroValue72
 t26:=Tryz.underlying9
 a26:=Tryz.isAgg9
 z26:=Tryz.sizeOf9
 v26:=Tryz.zeroValue9
 t27:=Tryz.underlying76
 a27:=Tryz.isAgg76
 z27:=Tryz.sizeOf76
 v27:=Tryz.zeroValue76
 t28:=Tryz.underlying77
 a28:=Tryz.isAgg77
 z28:=Tryz.sizeOf77
 v28:=Tryz.zeroValue77
 t33:=Tryz.underlying123
 a33:=Tryz.isAgg123
 z33:=Tryz.sizeOf123
 v33:=Tryz.zeroValue123}
def Tryz.sorted46_ren:Go.Shelf.Ren:=⟨fun|6=>46|8=>87|9=>88|11=>132|13=>134|12=>133|23=>169|24=>170|14=>160|15=>161|16=>162|17=>163|18=>164|19=>165|20=>166|21=>167|22=>168|25=>203|26=>204|27=>205|28=>206|29=>207|30=>208|31=>231|n=>n,fun|26=>9|28=>77|24=>31|0=>0|3=>3|37=>163|48=>194|50=>196|4=>4|40=>188|39=>187|45=>92|5=>5|9=>9|51=>226|55=>230|57=>256|58=>257|33=>123|n=>n,fun|n=>n⟩
theorem A3D:SlLaysZ.n6 Tryz.prog Tryz.sorted46_ren:={
 mixed:=by kernel_rfl
 f6:=Exists.intro "slices.Sorted[string]" ⟨D1a (by kernel_rfl),(Tryz.func46).trans (congrArg some (by kernel_rfl))⟩
 f8:=Exists.intro "slices.Collect[string]" ⟨D1a (by kernel_rfl),(Tryz.func87).trans (congrArg some (by kernel_rfl))⟩
 f11:=Exists.intro "slices.AppendSeq[[]string,string]" ⟨D1a (by kernel_rfl),(Tryz.func132).trans (congrArg some (by kernel_rfl))⟩
 t0:=Tryz.underlying0
 a0:=Tryz.isAgg0
 z0:=Tryz.sizeOf0
 v0:=Tryz.zeroValue0
 t24:=Tryz.underlying31
 a24:=Tryz.isAgg31
 z24:=Tryz.sizeOf31
 v24:=Tryz.zeroValue31
 t26:=Tryz.underlying9
 a26:=Tryz.isAgg9
 z26:=Tryz.sizeOf9
 v26:=Tryz.zeroValue9
 t28:=Tryz.underlying77
 a28:=Tryz.isAgg77
 z28:=Tryz.sizeOf77
 v28:=Tryz.zeroValue77
 i26:=by kernel_rfl}
def Tryz.sort88_ren:Go.Shelf.Ren:=⟨fun|6=>88|8=>134|9=>133|19=>169|20=>170|21=>160|22=>161|23=>162|24=>163|25=>164|26=>165|27=>166|28=>167|29=>168|36=>203|31=>204|32=>205|37=>206|38=>207|39=>208|41=>231|n=>n,fun|27=>31|29=>9|3=>3|32=>163|26=>31|0=>0|44=>194|46=>196|4=>4|36=>188|35=>187|41=>92|5=>5|9=>9|53=>226|57=>230|63=>256|64=>257|n=>n,fun|n=>n⟩
theorem A5n:SlLaysM.n6 Tryz.prog Tryz.sort88_ren:={
 mixed:=by kernel_rfl
 f6:=Exists.intro "slices.Sort[[]string,string]" ⟨D1a (by kernel_rfl),(Tryz.func88).trans (congrArg some (by kernel_rfl))⟩
 f8:=(Tryz.func134).trans (congrArg some (by kernel_rfl))
 f9:=Exists.intro "slices.pdqsortOrdered[string]" ⟨D1a (by kernel_rfl),(Tryz.func133).trans (congrArg some (by kernel_rfl))⟩
 f19:=(Tryz.func169).trans (congrArg some (by kernel_rfl))
 f20:=(Tryz.func170).trans (congrArg some (by kernel_rfl))
 f21:=Exists.intro "slices.insertionSortOrdered[string]" ⟨D1a (by kernel_rfl),(Tryz.func160).trans (congrArg some (by kernel_rfl))⟩
 f22:=Exists.intro "slices.heapSortOrdered[string]" ⟨D1a (by kernel_rfl),(Tryz.func161).trans (congrArg some (by kernel_rfl))⟩
 f23:=Exists.intro "slices.breakPatternsOrdered[string]" ⟨D1a (by kernel_rfl),(Tryz.func162).trans (congrArg some (by kernel_rfl))⟩
 f24:=Exists.intro "slices.choosePivotOrdered[string]" ⟨D1a (by kernel_rfl),(Tryz.func163).trans (congrArg some (by kernel_rfl))⟩
 f25:=Exists.intro "slices.reverseRangeOrdered[string]" ⟨D1a (by kernel_rfl),(Tryz.func164).trans (congrArg some (by kernel_rfl))⟩
 f26:=Exists.intro "slices.partialInsertionSortOrdered[string]" ⟨D1a (by kernel_rfl),(Tryz.func165).trans (congrArg some (by kernel_rfl))⟩
 f27:=Exists.intro "cmp.Less[string]" ⟨D1a (by kernel_rfl),(Tryz.func166).trans (congrArg some (by kernel_rfl))⟩
 f28:=Exists.intro "slices.partitionEqualOrdered[string]" ⟨D1a (by kernel_rfl),(Tryz.func167).trans (congrArg some (by kernel_rfl))⟩
 f29:=Exists.intro "slices.partitionOrdered[string]" ⟨D1a (by kernel_rfl),(Tryz.func168).trans (congrArg some (by kernel_rfl))⟩
 f31:=(Tryz.func204).trans (congrArg some (by kernel_rfl))
 f32:=(Tryz.func205).trans (congrArg some (by kernel_rfl))
 f36:=Exists.intro "slices.siftDownOrdered[string]" ⟨D1a (by kernel_rfl),(Tryz.func203).trans (congrArg some (by kernel_rfl))⟩
 f37:=Exists.intro "slices.medianAdjacentOrdered[string]" ⟨D1a (by kernel_rfl),(Tryz.func206).trans (congrArg some (by kernel_rfl))⟩
 f38:=Exists.intro "slices.medianOrdered[string]" ⟨D1a (by kernel_rfl),(Tryz.func207).trans (congrArg some (by kernel_rfl))⟩
 f39:=Exists.intro "cmp.isNaN[string]" ⟨D1a (by kernel_rfl),(Tryz.func208).trans (congrArg some (by kernel_rfl))⟩
 f41:=Exists.intro "slices.order2Ordered[string]" ⟨D1a (by kernel_rfl),(Tryz.func231).trans (congrArg some (by kernel_rfl))⟩
 t0:=Tryz.underlying0
 a0:=Tryz.isAgg0
 z0:=Tryz.sizeOf0
 v0:=Tryz.zeroValue0
 t3:=Tryz.underlying3
 a3:=Tryz.isAgg3
 z3:=Tryz.sizeOf3
 v3:=Tryz.zeroValue3
 t4:=Tryz.underlying4
 a4:=Tryz.isAgg4
 z4:=Tryz.sizeOf4
 v4:=Tryz.zeroValue4
 t5:=Tryz.underlying5
 a5:=Tryz.isAgg5
 z5:=Tryz.sizeOf5
 v5:=Tryz.zeroValue5
 t9:=Tryz.underlying9
 a9:=Tryz.isAgg9
 z9:=Tryz.sizeOf9
 v9:=Tryz.zeroValue9
 t26:=Tryz.underlying31
 a26:=Tryz.isAgg31
 z26:=Tryz.sizeOf31
 v26:=Tryz.zeroValue31
 t27:=Tryz.underlying31
 a27:=Tryz.isAgg31
 z27:=Tryz.sizeOf31
 v27:=Tryz.zeroValue31
 t29:=Tryz.underlying9
 a29:=Tryz.isAgg9
 z29:=Tryz.sizeOf9
 v29:=Tryz.zeroValue9
 t32:=Tryz.underlying163
 a32:=Tryz.isAgg163
 z32:=Tryz.sizeOf163
 v32:=Tryz.zeroValue163
 t35:=Tryz.underlying187
 a35:=Tryz.isAgg187
 z35:=Tryz.sizeOf187
 v35:=Tryz.zeroValue187
 t36:=Tryz.underlying188
 a36:=Tryz.isAgg188
 z36:=Tryz.sizeOf188
 v36:=Tryz.zeroValue188
 t41:=Tryz.underlying92
 a41:=Tryz.isAgg92
 z41:=Tryz.sizeOf92
 v41:=Tryz.zeroValue92
 t44:=Tryz.underlying194
 a44:=Tryz.isAgg194
 z44:=Tryz.sizeOf194
 v44:=Tryz.zeroValue194
 t46:=Tryz.underlying196
 a46:=Tryz.isAgg196
 z46:=Tryz.sizeOf196
 v46:=Tryz.zeroValue196
 t53:=Tryz.underlying226
 a53:=Tryz.isAgg226
 z53:=Tryz.sizeOf226
 v53:=Tryz.zeroValue226
 t57:=Tryz.underlying230
 a57:=Tryz.isAgg230
 z57:=Tryz.sizeOf230
 v57:=Tryz.zeroValue230
 t63:=Tryz.underlying256
 a63:=Tryz.isAgg256
 z63:=Tryz.sizeOf256
 v63:=Tryz.zeroValue256
 t64:=Tryz.underlying257
 a64:=Tryz.isAgg257
 z64:=Tryz.sizeOf257
 v64:=Tryz.zeroValue257}
theorem A4V(m:Nat):AnyZ.SortsIn Tryz.prog Tryz.sorted46_ren Fence.wide m:=
  ⟨fun e off cap g W h d hsz=>callsIn_wide.2 (AnyM.slices_Sort_string A5n e off cap g W h d hsz),
   fun p cap W=>callsIn_wide.2 (AnyM.slices_Sort_string_none A5n p cap W)⟩
theorem A0p(mb:Option Nat)(W:World):CallsIn Fence.wide 5 Tryz.prog 47 #[.map mb] W fun e w'=>e= .returned (.func (.func 89) #[] #[.pointer (some ⟨W.heap.size,0,none⟩)])∧w'=W.alloc (.cells #[.map mb] 72):=
 AnyZ.keys_in A2a Fence.wide 5 trivial rfl mb W
end Go.Proofs
namespace Go.Lin
open Go Go.Av Go.RowKit Go.Maps Go.Sort Go.Shelf Go.Lexs Go.WideElems
theorem A5W{H:Type}(x:Lit×DataW H): ∀l:List (Lit×DataW H),(DataW.insert x l).Perm (x::l)
 | []=>List.Perm.refl _
 |y::l=>by
  unfold DataW.insert;split
  ·exact List.Perm.refl _
  ·exact((A5W x l).cons y).trans (List.Perm.swap x y l)
theorem A0R{H:Type}: ∀l:List (Lit×DataW H),(l.foldr DataW.insert []).Perm l
 | []=>List.Perm.refl _
 |x::l=>(A5W x _).trans ((A0R l).cons x)
def A1z{H:Type}:Value→Option (DataW H×List MemPlace):=fun _=>some (.lit (.bool true),[])
def D2(f:ByteArray→D)(ks:List ByteArray):List (D×D):=ks.map fun s=>(.str s,f s)
theorem B3v{d:List (List UInt8)}(e:d.Nodup):((d.mergeSort (fun x y=>decide (x≤y))).map S).Pairwise fun x y=>X2 x y=true:=by
 have h1:(d.mergeSort (fun x y=>decide (x≤y))).Pairwise (fun x y=>decide (x≤y)=true):=List.pairwise_mergeSort (fun a b c h1 i=>by simp only[D1v]at*;exact List.le_trans h1 i) (fun a b=>by simp only[D2w,D1v];exact List.le_total a b) d;have i:(d.mergeSort (fun x y=>decide (x≤y))).Nodup:=(List.mergeSort_perm d _).nodup_iff.2 e;rw[List.pairwise_map];refine(h1.and i).imp fun {x y} h=>?_;rw[A3z,Q7,Q7];have j:x≤y:=D1a h.1;by_cases g:x<y
 ·exact g
 ·exact absurd (List.le_antisymm j (List.not_lt.1 g)) h.2
end Go.Lin
namespace Go.Proofs.YtibphjonmikciaaGreatDoor
open Go Go.Av Go.RowKit Go.Maps Go.Sort Go.Shelf Go.Lexs Go.WideElems Go.Lin
theorem C0E{Q}(b:Nat)(H:Heap)(h: ∀bk,H bk=none→Q (.fn (.func 89) [] [.box bk 0]) (H.set bk (.box [.map b]))):D8 47 [.map b] H Q:=by
 refine⟨by kernel_rfl,fun w vs hl hr hs=>?_⟩;obtain⟨a,rfl,m⟩:=A2C hl hr;have o:a= .map (some b):=by cases m;rfl
 subst o;refine(callsIn_wide.1 (A0p (some b) w)).mono ?_;rintro e w' ⟨rfl,rfl⟩;have hp:=A3i (K:=fun d H'=>∃bk,d= .box bk 0∧H bk=none∧H'=H.set bk (.box [.map b])) hs (cs:=[.map b]) (vs:= #[.map (some b)]) 72 (Z:=none) (by simp) ⟨rfl,fun i d g=>(match i,g with|0,g=>by cases g;rfl|i+1,g=>by cases g),fun i d g=>(match i,g with|0,g=>by cases g;exact .map b|i+1,g=>by cases g)⟩ (fun bk j=>⟨bk,rfl,j,rfl⟩);obtain⟨d,x,p,q,r,u,bk,rfl,j,rfl⟩:=hp;refine⟨_,rfl,.fn (.func 89) [] [.box bk 0],_,?_,q,r,u,h bk j⟩;refine .fn _ [] [.box bk 0] #[] #[_] rfl rfl (by simp) fun i d g=>?_
 match i with
 |0=>cases g;exact p
 |i+1=>cases g
theorem C0F{Q}(r b:Nat)(f:ByteArray→D)(ks:List ByteArray)(hlen:ks.length≤1000000000)(hsz: ∀s∈ks,s.size≤4611686018427387904)(H:Heap)(h1:H r=some (.box [.map b]))(O:H b=some (.map (D2 f ks)))
  (h: ∀l:List ByteArray,l.Pairwise (fun x y=>X2 x y=true)→(∀s,s∈l↔s∈ks)→Q (.sl 1 (Rw L7 l)) H):D8 46 [.fn (.func 89) [] [.box r 0]] H Q:=by
 refine⟨by kernel_rfl,fun w vs hl hr hs=>?_⟩;obtain⟨a,rfl,ha⟩:=A2C hl hr;have ea:a= .func (.func 89) #[] #[.pointer (some ⟨r,0,none⟩)]:=by
  cases ha with
  |fn _ _ _ b0 b1 b2 b3 q1 q2=>
   have e1:b0= #[]:=Array.eq_empty_of_size_eq_zero (by simpa using b2.symm);obtain⟨l2⟩:=b1
   match l2,b3 with
   | [x],_=>
    have hx:=q2 0 _ rfl;have:x= .pointer (some ⟨r,0,none⟩):=by
     simp at hx;cases hx;rfl
    rw[e1,this]
 subst ea;obtain⟨c,T,lo,u,c1,_,c2,c3,_⟩:=hs _ _ h1;obtain⟨es,C,m1,m2,m3,m4⟩:=hs _ _ O;have b4:c[0]? =some (.map (some b)):=by
  have h0:=(c3 0 (.map b) rfl).2;have hsz:0<c.size:=by rw[c2];simp
  have e:c[0]? =some (c.getD 0 undef):=by simp[hsz]
  rw[e];revert h0;generalize c.getD 0 undef=x;intro h0;cases h0;rfl
 have G:w.cell? ⟨r,0,none⟩=some (.map (some b)):=by
  unfold World.cell?;simp only[c1];exact b4
 have b6:r<w.heap.size:=hs.lt h1;have U: ∀(i:Nat) (u:i<ks.length),(es.getD i default).key= .string ks[i]:=fun i u=>by
  have:=(m4 i (.str ks[i],f ks[i]) (by simp[D2,u])).2.1;revert this;generalize (es.getD i default).key=x;intro this;cases this;rfl
 have V:es.size=ks.length:=by rw[m3];simp[D2]
 have I:es.toList.map (·.key)=ks.map .string:=by
  apply D2u
  ·simp[V]
  ·intro i h1 O;have u:i<ks.length:=by simpa using O
   have:=U i u;have m:i<es.size:=by omega
   simp[m]at this;simp[this]
 have W: ∀x∈es.toList,∃s∈ks,x.key= .string s:=fun x hx=>by
  have:x.key∈es.toList.map (·.key):=D2X.2 ⟨x,hx,rfl⟩;rw[I]at this;obtain⟨s,hs,e⟩:=D2X.1 this;exact⟨s,hs,e.symm⟩
 have X:Tryz.prog.underlying 9=some .string:=by kernel_rfl
 have Y: ∀x∈es.toList,∀s,s∈ks→x.key= .string s→WideElems.rd (H:=Unit) Tryz.prog 9 A1z x=some (.string s.data.toList,.lit (.bool true)):=fun x _ s hs e=>by
  unfold WideElems.rd;rw[e,WideMaps.keyOf_string_mk X (by have:=hsz s hs;unfold maxLen;omega)];rfl
 have a0:w.ownsMap (H:=Unit) Tryz.prog 9 A1z b es.size (.map ((es.toList.map (rg Tryz.prog 9 A1z)).foldr DataW.insert [])):=by
  refine⟨es,C,m1,⟨by unfold maxLen;omega,m2,fun x hx=>?_⟩,D1t _,rfl⟩;obtain⟨s,hs,e⟩:=W x hx;exact⟨_,Y x hx s hs e⟩
 have b7: ∀x∈es.toList,∀s,s∈ks→x.key= .string s→rg (H:=Unit) Tryz.prog 9 A1z x=(.string s.data.toList,.lit (.bool true)):=fun x hx s hs e=>rg_of (Y x hx s hs e);have b8:(strKeys (H:=Unit) (.map ((es.toList.map (rg Tryz.prog 9 A1z)).foldr DataW.insert []))).Perm (ks.map B):=by
  show (((es.toList.map (rg Tryz.prog 9 A1z)).foldr DataW.insert []).map fun p=>strOf p.1).Perm _;refine((A0R _).map _).trans ?_;rw[List.map_map];have:es.toList.map ((fun p=>strOf p.1) ∘ rg (H:=Unit) Tryz.prog 9 A1z)=ks.map B:=by
   have e2:ks.map B=(es.toList.map (·.key)).map (fun v=>match v with| .string s=>B s|_=>[]):=by rw[I,List.map_map];rfl
   rw[e2,List.map_map];refine List.map_congr_left fun x hx=>?_;obtain⟨s,hs,e⟩:=W x hx;simp only[Function.comp];rw[b7 x hx s hs e,e];rfl
  rw[this]
 have b9:(ks.map B).Nodup:=by
  have:=m2.2.2;rw[I]at this;have O:List.Pairwise (fun a b:ByteArray=>Value.string a≠Value.string b) ks:=List.pairwise_map.1 this;have M:List.Pairwise (fun a b:ByteArray=>B a≠B b) ks:=O.imp fun {a b} h e=>h (congrArg Value.string (N7 e));exact List.pairwise_map.2 M
 have a4:=AnyZ.keys_gives (ρ :=Tryz.keys47_ren) {A2a with} Fence.wide 2 trivial rfl (by omega) r b es.size _ w b6 G a0;have a5:Maps.size (.map ((es.toList.map (rg (H:=Unit) Tryz.prog 9 A1z)).foldr DataW.insert []):DataW Unit)=ks.length:=by
  show (((es.toList.map (rg Tryz.prog 9 A1z)).foldr DataW.insert [])).length=_;rw[(A0R _).length_eq];simp[V]
 refine(callsIn_wide.1 (AnyZ.sorted_in A3D Fence.wide 5 trivial trivial trivial trivial rfl (by omega) (A4V _) (enters_of Tryz.func88 (by kernel_rfl) rfl) 89 #[.pointer (some ⟨r,0,none⟩)] trivial (enters_of Tryz.func89 (by kernel_rfl) rfl) _ _ (by rw[a5];unfold maxLen;omega) (by rw[a5];omega) w a4)).mono ?_;rintro e w' ⟨v,o,rfl,hS,A,_,hB⟩;have hp:o.Perm (ks.map B):=hS.trans b8;have c0:o.Nodup:=hp.nodup_iff.2 b9;have c4:=B3v c0;have a6: ∀s,s∈(o.mergeSort (fun x y=>decide (x≤y))).map S↔s∈ks:=fun s=>by
  rw[D2X];constructor
  ·rintro⟨x,hx,rfl⟩;have:=hp.mem_iff.1 ((List.mergeSort_perm o _).mem_iff.1 hx);obtain⟨t,ht,rfl⟩:=D2X.1 this;rw[S_B];exact ht
  ·intro hs;refine⟨B s,(List.mergeSort_perm o _).mem_iff.2 (hp.mem_iff.2 (D2X.2 ⟨s,hs,rfl⟩)),S_B s⟩
 refine⟨v,rfl,.sl 1 (Rw L7 ((o.mergeSort (fun x y=>decide (x≤y))).map S)),H,?_,A4p hs hB,A2j hB,D24 _ _,h _ c4 a6⟩;have J:((o.mergeSort (fun x y=>decide (x≤y))).map S).length=o.length:=by simp
 generalize o.mergeSort (fun x y=>decide (x≤y))=zs at A J⊢;obtain⟨r1,r2⟩:=A;rcases r2 with⟨rfl,r3⟩|⟨g,cap,q,rfl,r3,r4,r5,r6,r7,r8⟩
 ·have:zs.map S= []:=D1x (by rw[J,r3]);rw[this];exact .sl0 _ _ _
 ·have L:(Rw L7 (zs.map S)).length=o.length:=by rw[D6,J]
  rw[←L];refine .sl 1 _ g 0 cap (fun i j=>q.getD i undef) ?_ ?_ (fun i e he=>?_) (by rw[L];exact r5) (fun i j u hj=>?_) (fun i e j d he hd=>?_) (fun i e j d he hd=>?_)
  ·by_cases a9:g<w'.heap.size
   ·exact a9
   ·rw[Array.getElem?_eq_none (Nat.le_of_not_lt a9)]at r4;cases r4
  ·exact I0 (hs.fresh r3)
  ·rw[Rw,D1w]at he;obtain⟨x,_,rfl⟩:=D1i.1 he;rfl
  ·have c5:j=0:=by omega
   subst c5;have m:i<q.size:=by rw[L]at u;rw[r7];omega
   unfold World.cell?;simp only[r4];simp[m]
  ·rw[Rw,D1w]at he;obtain⟨x,_,rfl⟩:=D1i.1 he
   match j with
   |0=>cases hd;rfl
   |j+1=>cases hd
  ·rw[Rw,D1w,D1w]at he;obtain⟨x,hx,rfl⟩:=D1i.1 he;obtain⟨z,hz,rfl⟩:=D1i.1 hx
   match j with
   |0=>
    cases hd;have u:i<zs.length:=(D1j.1 hz).1;have M:(q.toList.take (o.length*1))[i]? =some (encStr z):=by rw[r8,D1w,hz];rfl
    rw[List.getElem?_take]at M;split at M
    ·have:q[i]? =some (encStr z):=by simpa using M
     have e:q.getD i undef=encStr z:=by
      have m:=(D1y.1 this)
      obtain⟨c6,c7⟩:=m;simp[c6,c7]
     rw[e];exact .str _
    ·cases M
   |j+1=>cases hd
end Go.Proofs.YtibphjonmikciaaGreatDoor
namespace Go.Proofs
open Go.Shelf
def Tryz.lays106_ren:Go.Shelf.Ren:=⟨fun|106=>106|213=>139|265=>174|n=>n,fun|9=>9|3=>3|n=>n,fun|n=>n⟩
theorem B0B:Go.Proofs.Lays.n106 Tryz.prog Tryz.lays106_ren:={
 mixed:=by kernel_rfl
 f106:=Tryz.func106.trans (congrArg some (by kernel_rfl))
 f213:=Tryz.func139.trans (congrArg some (by kernel_rfl))
 f265:=Tryz.func174.trans (congrArg some (by kernel_rfl))
 t3:=Tryz.underlying3
 a3:=Tryz.isAgg3
 z3:=Tryz.sizeOf3
 v3:=Tryz.zeroValue3
 t9:=Tryz.underlying9
 a9:=Tryz.isAgg9
 z9:=Tryz.sizeOf9
 v9:=Tryz.zeroValue9}
open Go.RowKit in
theorem Tryz.strings_Compare(a b:ByteArray)(w:World):
  Calls Tryz.prog 106 #[.string a,.string b] w fun e w'=>e= .returned (.int .i64 (Lib.compareBytes a.data.toList b.data.toList))∧w'=w:=Any.strings_Compare B0B a b w
def Tryz.lays137_ren:Go.Shelf.Ren:=⟨fun|137=>138|217=>173|266=>209|n=>n,fun|9=>9|5=>5|3=>3|n=>n,fun|n=>n⟩
theorem B0C:Go.Proofs.Lays.n137 Tryz.prog Tryz.lays137_ren:={
 mixed:=by kernel_rfl
 f137:=Tryz.func138.trans (congrArg some (by kernel_rfl))
 f217:=Tryz.func173.trans (congrArg some (by kernel_rfl))
 f266:=Tryz.func209.trans (congrArg some (by kernel_rfl))
 t3:=Tryz.underlying3
 a3:=Tryz.isAgg3
 z3:=Tryz.sizeOf3
 v3:=Tryz.zeroValue3
 t5:=Tryz.underlying5
 a5:=Tryz.isAgg5
 z5:=Tryz.sizeOf5
 v5:=Tryz.zeroValue5
 t9:=Tryz.underlying9
 a9:=Tryz.isAgg9
 z9:=Tryz.sizeOf9
 v9:=Tryz.zeroValue9}
open Go.RowKit in
theorem Tryz.strings_IndexByte(s:ByteArray)(c:Int)(w:World):
  Calls Tryz.prog 138 #[.string s,.int .u8 c] w fun e w'=>e= .returned (.int .i64 (Lib.indexByte s.data.toList c.toNat.toUInt8))∧w'=w:=Any.strings_IndexByte B0C s c w
def Tryz.lays103_ren:Go.Shelf.Ren:=⟨fun|103=>145|210=>177|206=>211|n=>n,fun|9=>9|4=>4|24=>171|3=>3|n=>n,fun|n=>n⟩
theorem A99:Go.Proofs.Lays.n103 Tryz.prog Tryz.lays103_ren:={
 mixed:=by kernel_rfl
 f103:=Tryz.func145.trans (congrArg some (by kernel_rfl))
 f206:=Tryz.func211.trans (congrArg some (by kernel_rfl))
 f210:=Tryz.func177.trans (congrArg some (by kernel_rfl))
 t3:=Tryz.underlying3
 a3:=Tryz.isAgg3
 z3:=Tryz.sizeOf3
 v3:=Tryz.zeroValue3
 t4:=Tryz.underlying4
 a4:=Tryz.isAgg4
 z4:=Tryz.sizeOf4
 v4:=Tryz.zeroValue4
 t9:=Tryz.underlying9
 a9:=Tryz.isAgg9
 z9:=Tryz.sizeOf9
 v9:=Tryz.zeroValue9
 t24:=Tryz.underlying171
 a24:=Tryz.isAgg171
 z24:=Tryz.sizeOf171
 v24:=Tryz.zeroValue171}
open Go.RowKit in
theorem Tryz.strings_CutPrefix(s p:ByteArray)(w:World):
  Calls Tryz.prog 145 #[.string s,.string p] w fun e w'=>e= .returned (.tuple #[.string ⟨(Lib.trimPrefix s.data.toList p.data.toList).toArray⟩,.bool (Lib.hasPrefix s.data.toList p.data.toList)])∧w'=w:=Any.strings_CutPrefix A99 s p w
def Tryz.lays104_ren:Go.Shelf.Ren:=⟨fun|104=>147|211=>182|207=>184|n=>n,fun|9=>9|4=>4|24=>171|3=>3|n=>n,fun|n=>n⟩
theorem B0A:Go.Proofs.Lays.n104 Tryz.prog Tryz.lays104_ren:={
 mixed:=by kernel_rfl
 f104:=Tryz.func147.trans (congrArg some (by kernel_rfl))
 f207:=Tryz.func184.trans (congrArg some (by kernel_rfl))
 f211:=Tryz.func182.trans (congrArg some (by kernel_rfl))
 t3:=Tryz.underlying3
 a3:=Tryz.isAgg3
 z3:=Tryz.sizeOf3
 v3:=Tryz.zeroValue3
 t4:=Tryz.underlying4
 a4:=Tryz.isAgg4
 z4:=Tryz.sizeOf4
 v4:=Tryz.zeroValue4
 t9:=Tryz.underlying9
 a9:=Tryz.isAgg9
 z9:=Tryz.sizeOf9
 v9:=Tryz.zeroValue9
 t24:=Tryz.underlying171
 a24:=Tryz.isAgg171
 z24:=Tryz.sizeOf171
 v24:=Tryz.zeroValue171}
open Go.RowKit in
theorem Tryz.strings_CutSuffix(s p:ByteArray)(w:World)(hs:s.size≤9223372036854775807):
  Calls Tryz.prog 147 #[.string s,.string p] w fun e w'=>e= .returned (.tuple #[.string ⟨(Lib.trimSuffix s.data.toList p.data.toList).toArray⟩,.bool (Lib.hasSuffix s.data.toList p.data.toList)])∧w'=w:=Any.strings_CutSuffix B0A s p w hs
def Tryz.laysM171_ren:Go.Shelf.Ren:=⟨fun|171=>142|243=>176|246=>210|283=>232|284=>233|285=>234|286=>235|129=>170|317=>268|318=>269|319=>270|320=>271|337=>289|338=>290|n=>n,fun|3=>3|9=>9|2=>2|4=>4|171=>259|0=>0|53=>196|37=>95|5=>5|173=>261|212=>288|51=>194|20=>20|213=>289|46=>163|232=>316|233=>317|n=>n,fun|17=>1|18=>4|19=>5|n=>n⟩
theorem A7l:Go.Proofs.LaysM.n171 Tryz.prog Tryz.laysM171_ren:={
 mixed:=by kernel_rfl
 f129:=Tryz.func170.trans (congrArg some (by kernel_rfl))
 f171:=Tryz.func142.trans (congrArg some (by kernel_rfl))
 f243:=Tryz.func176.trans (congrArg some (by kernel_rfl))
 f246:=Tryz.func210.trans (congrArg some (by kernel_rfl))
 f283:=Tryz.func232.trans (congrArg some (by kernel_rfl))
 f284:=Tryz.func233.trans (congrArg some (by kernel_rfl))
 f285:=Tryz.func234.trans (congrArg some (by kernel_rfl))
 f286:=Tryz.func235.trans (congrArg some (by kernel_rfl))
 f317:=Tryz.func268.trans (congrArg some (by kernel_rfl))
 f318:=Tryz.func269.trans (congrArg some (by kernel_rfl))
 f319:=Tryz.func270.trans (congrArg some (by kernel_rfl))
 f320:=Tryz.func271.trans (congrArg some (by kernel_rfl))
 f337:=Tryz.func289.trans (congrArg some (by kernel_rfl))
 f338:=Tryz.func290.trans (congrArg some (by kernel_rfl))
 t0:=Tryz.underlying0
 a0:=Tryz.isAgg0
 z0:=Tryz.sizeOf0
 v0:=Tryz.zeroValue0
 t2:=Tryz.underlying2
 a2:=Tryz.isAgg2
 z2:=Tryz.sizeOf2
 v2:=Tryz.zeroValue2
 t3:=Tryz.underlying3
 a3:=Tryz.isAgg3
 z3:=Tryz.sizeOf3
 v3:=Tryz.zeroValue3
 t4:=Tryz.underlying4
 a4:=Tryz.isAgg4
 z4:=Tryz.sizeOf4
 v4:=Tryz.zeroValue4
 t5:=Tryz.underlying5
 a5:=Tryz.isAgg5
 z5:=Tryz.sizeOf5
 v5:=Tryz.zeroValue5
 t9:=Tryz.underlying9
 a9:=Tryz.isAgg9
 z9:=Tryz.sizeOf9
 v9:=Tryz.zeroValue9
 t20:=Tryz.underlying20
 a20:=Tryz.isAgg20
 z20:=Tryz.sizeOf20
 v20:=Tryz.zeroValue20
 t37:=Tryz.underlying95
 a37:=Tryz.isAgg95
 z37:=Tryz.sizeOf95
 v37:=Tryz.zeroValue95
 t46:=Tryz.underlying163
 a46:=Tryz.isAgg163
 z46:=Tryz.sizeOf163
 v46:=Tryz.zeroValue163
 t51:=Tryz.underlying194
 a51:=Tryz.isAgg194
 z51:=Tryz.sizeOf194
 v51:=Tryz.zeroValue194
 t53:=Tryz.underlying196
 a53:=Tryz.isAgg196
 z53:=Tryz.sizeOf196
 v53:=Tryz.zeroValue196
 t171:=Tryz.underlying259
 a171:=Tryz.isAgg259
 z171:=Tryz.sizeOf259
 v171:=Tryz.zeroValue259
 t173:=Tryz.underlying261
 a173:=Tryz.isAgg261
 z173:=Tryz.sizeOf261
 v173:=Tryz.zeroValue261
 t212:=Tryz.underlying288
 a212:=Tryz.isAgg288
 z212:=Tryz.sizeOf288
 v212:=Tryz.zeroValue288
 t213:=Tryz.underlying289
 a213:=Tryz.isAgg289
 z213:=Tryz.sizeOf289
 t232:=Tryz.underlying316
 a232:=Tryz.isAgg316
 z232:=Tryz.sizeOf316
 v232:=Tryz.zeroValue316
 t233:=Tryz.underlying317
 a233:=Tryz.isAgg317
 z233:=Tryz.sizeOf317
 v233:=Tryz.zeroValue317
 g17:=by kernel_rfl
 g18:=by kernel_rfl
 g19:=by kernel_rfl
 i0:=by kernel_rfl
 i2:=by kernel_rfl
 i3:=by kernel_rfl
 i4:=by kernel_rfl
 i5:=by kernel_rfl
 i9:=by kernel_rfl
 i20:=by kernel_rfl
 i37:=by kernel_rfl
 i46:=by kernel_rfl
 i51:=by kernel_rfl
 i53:=by kernel_rfl
 i171:=by kernel_rfl
 i173:=by kernel_rfl
 i212:=by kernel_rfl
 i232:=by kernel_rfl
 i233:=by kernel_rfl
 m17:=by kernel_rfl
 m18:=by kernel_rfl
 m19:=by kernel_rfl}
open Go.RowKit Go.Sort Go.Lib in
theorem Tryz.strconv_Itoa(n:Int)(g: -9223372036854775808≤n)(h1:n≤9223372036854775807)(w:World)(d:Lib.TabIs Tryz.prog w "internal/strconv.uint64pow10" .u64 Lib.pow10Tab):
  Calls Tryz.prog 142 #[.int .i64 n] w fun e w'=>e= .returned (.string ⟨(Lib.itoa n).toArray⟩)∧∃k os,w'=grow (w.drewN k) os:=Any.strconv_Itoa A7l n g h1 w d
def Tryz.laysC172_ren:Go.Shelf.Ren:=⟨fun|172=>188|244=>217|245=>218|247=>237|279=>238|280=>239|281=>240|282=>241|287=>273|316=>274|171=>142|205=>275|321=>292|322=>293|243=>176|246=>210|283=>232|284=>233|285=>234|286=>235|129=>170|317=>268|318=>269|319=>270|320=>271|337=>289|338=>290|n=>n,fun|9=>9|3=>3|75=>140|76=>141|4=>4|5=>5|167=>263|37=>95|0=>0|85=>264|2=>2|168=>266|53=>196|175=>290|46=>163|210=>294|127=>144|145=>312|143=>310|21=>21|171=>259|173=>261|212=>288|51=>194|20=>20|213=>289|232=>316|233=>317|80=>99|n=>n,fun|15=>2|16=>3|17=>1|18=>4|19=>5|n=>n⟩
theorem A00:Go.Proofs.LaysC.n172 Tryz.prog Tryz.laysC172_ren:={
 mixed:=by kernel_rfl
 f129:=Tryz.func170.trans (congrArg some (by kernel_rfl))
 f171:=Tryz.func142.trans (congrArg some (by kernel_rfl))
 f172:=Tryz.func188.trans (congrArg some (by kernel_rfl))
 f205:=Tryz.func275.trans (congrArg some (by kernel_rfl))
 f243:=Tryz.func176.trans (congrArg some (by kernel_rfl))
 f244:=Tryz.func217.trans (congrArg some (by kernel_rfl))
 f245:=Tryz.func218.trans (congrArg some (by kernel_rfl))
 f246:=Tryz.func210.trans (congrArg some (by kernel_rfl))
 f247:=Tryz.func237.trans (congrArg some (by kernel_rfl))
 f279:=Tryz.func238.trans (congrArg some (by kernel_rfl))
 f280:=Tryz.func239.trans (congrArg some (by kernel_rfl))
 f281:=Tryz.func240.trans (congrArg some (by kernel_rfl))
 f282:=Tryz.func241.trans (congrArg some (by kernel_rfl))
 f283:=Tryz.func232.trans (congrArg some (by kernel_rfl))
 f284:=Tryz.func233.trans (congrArg some (by kernel_rfl))
 f285:=Tryz.func234.trans (congrArg some (by kernel_rfl))
 f286:=Tryz.func235.trans (congrArg some (by kernel_rfl))
 f287:=Tryz.func273.trans (congrArg some (by kernel_rfl))
 f316:=Tryz.func274.trans (congrArg some (by kernel_rfl))
 f317:=Tryz.func268.trans (congrArg some (by kernel_rfl))
 f318:=Tryz.func269.trans (congrArg some (by kernel_rfl))
 f319:=Tryz.func270.trans (congrArg some (by kernel_rfl))
 f320:=Tryz.func271.trans (congrArg some (by kernel_rfl))
 f321:=Tryz.func292.trans (congrArg some (by kernel_rfl))
 f322:=Tryz.func293.trans (congrArg some (by kernel_rfl))
 f337:=Tryz.func289.trans (congrArg some (by kernel_rfl))
 f338:=Tryz.func290.trans (congrArg some (by kernel_rfl))
 t0:=Tryz.underlying0
 a0:=Tryz.isAgg0
 z0:=Tryz.sizeOf0
 v0:=Tryz.zeroValue0
 t2:=Tryz.underlying2
 a2:=Tryz.isAgg2
 z2:=Tryz.sizeOf2
 v2:=Tryz.zeroValue2
 t3:=Tryz.underlying3
 a3:=Tryz.isAgg3
 z3:=Tryz.sizeOf3
 v3:=Tryz.zeroValue3
 t4:=Tryz.underlying4
 a4:=Tryz.isAgg4
 z4:=Tryz.sizeOf4
 v4:=Tryz.zeroValue4
 t5:=Tryz.underlying5
 a5:=Tryz.isAgg5
 z5:=Tryz.sizeOf5
 v5:=Tryz.zeroValue5
 t9:=Tryz.underlying9
 a9:=Tryz.isAgg9
 z9:=Tryz.sizeOf9
 v9:=Tryz.zeroValue9
 t20:=Tryz.underlying20
 a20:=Tryz.isAgg20
 z20:=Tryz.sizeOf20
 v20:=Tryz.zeroValue20
 t21:=Tryz.underlying21
 a21:=Tryz.isAgg21
 z21:=Tryz.sizeOf21
 v21:=Tryz.zeroValue21
 t37:=Tryz.underlying95
 a37:=Tryz.isAgg95
 z37:=Tryz.sizeOf95
 v37:=Tryz.zeroValue95
 t46:=Tryz.underlying163
 a46:=Tryz.isAgg163
 z46:=Tryz.sizeOf163
 v46:=Tryz.zeroValue163
 t51:=Tryz.underlying194
 a51:=Tryz.isAgg194
 z51:=Tryz.sizeOf194
 v51:=Tryz.zeroValue194
 t53:=Tryz.underlying196
 a53:=Tryz.isAgg196
 z53:=Tryz.sizeOf196
 v53:=Tryz.zeroValue196
 t75:=Tryz.underlying140
 a75:=Tryz.isAgg140
 z75:=Tryz.sizeOf140
 v75:=Tryz.zeroValue140
 t76:=Tryz.underlying141
 a76:=Tryz.isAgg141
 z76:=Tryz.sizeOf141
 v76:=Tryz.zeroValue141
 t85:=Tryz.underlying264
 a85:=Tryz.isAgg264
 z85:=Tryz.sizeOf264
 v85:=Tryz.zeroValue264
 t127:=Tryz.underlying144
 a127:=Tryz.isAgg144
 z127:=Tryz.sizeOf144
 v127:=Tryz.zeroValue144
 t143:=Tryz.underlying310
 a143:=Tryz.isAgg310
 z143:=Tryz.sizeOf310
 v143:=Tryz.zeroValue310
 t145:=Tryz.underlying312
 a145:=Tryz.isAgg312
 z145:=Tryz.sizeOf312
 v145:=Tryz.zeroValue312
 t167:=Tryz.underlying263
 a167:=Tryz.isAgg263
 z167:=Tryz.sizeOf263
 v167:=Tryz.zeroValue263
 t168:=Tryz.underlying266
 a168:=Tryz.isAgg266
 z168:=Tryz.sizeOf266
 v168:=Tryz.zeroValue266
 t171:=Tryz.underlying259
 a171:=Tryz.isAgg259
 z171:=Tryz.sizeOf259
 v171:=Tryz.zeroValue259
 t173:=Tryz.underlying261
 a173:=Tryz.isAgg261
 z173:=Tryz.sizeOf261
 v173:=Tryz.zeroValue261
 t175:=Tryz.underlying290
 a175:=Tryz.isAgg290
 z175:=Tryz.sizeOf290
 v175:=Tryz.zeroValue290
 t210:=Tryz.underlying294
 a210:=Tryz.isAgg294
 z210:=Tryz.sizeOf294
 v210:=Tryz.zeroValue294
 t212:=Tryz.underlying288
 a212:=Tryz.isAgg288
 z212:=Tryz.sizeOf288
 v212:=Tryz.zeroValue288
 t213:=Tryz.underlying289
 a213:=Tryz.isAgg289
 z213:=Tryz.sizeOf289
 t232:=Tryz.underlying316
 a232:=Tryz.isAgg316
 z232:=Tryz.sizeOf316
 v232:=Tryz.zeroValue316
 t233:=Tryz.underlying317
 a233:=Tryz.isAgg317
 z233:=Tryz.sizeOf317
 v233:=Tryz.zeroValue317
 g15:=by kernel_rfl
 g16:=by kernel_rfl
 g17:=by kernel_rfl
 g18:=by kernel_rfl
 g19:=by kernel_rfl
 t80:=Tryz.underlying99
 a80:=Tryz.isAgg99
 z80:=Tryz.sizeOf99
 v80:=Tryz.zeroValue99
 i0:=by kernel_rfl
 i2:=by kernel_rfl
 i3:=by kernel_rfl
 i4:=by kernel_rfl
 i5:=by kernel_rfl
 i9:=by kernel_rfl
 i20:=by kernel_rfl
 i21:=by kernel_rfl
 i37:=by kernel_rfl
 i46:=by kernel_rfl
 i51:=by kernel_rfl
 i53:=by kernel_rfl
 i75:=by kernel_rfl
 i76:=by kernel_rfl
 i80:=by kernel_rfl
 i85:=by kernel_rfl
 i127:=by kernel_rfl
 i143:=by kernel_rfl
 i145:=by kernel_rfl
 i167:=by kernel_rfl
 i168:=by kernel_rfl
 i171:=by kernel_rfl
 i173:=by kernel_rfl
 i175:=by kernel_rfl
 i210:=by kernel_rfl
 i212:=by kernel_rfl
 i232:=by kernel_rfl
 i233:=by kernel_rfl
 m15:=by kernel_rfl
 m16:=by kernel_rfl
 m17:=by kernel_rfl
 m18:=by kernel_rfl
 m19:=by kernel_rfl
 c0:=by kernel_rfl
 c2:=by kernel_rfl
 c3:=by kernel_rfl
 c4:=by kernel_rfl
 c5:=by kernel_rfl
 c9:=by kernel_rfl
 c20:=by kernel_rfl
 c21:=by kernel_rfl
 c37:=by kernel_rfl
 c46:=by kernel_rfl
 c51:=by kernel_rfl
 c53:=by kernel_rfl
 c75:=by kernel_rfl
 c76:=by kernel_rfl
 c80:=by kernel_rfl
 c85:=by kernel_rfl
 c127:=by kernel_rfl
 c143:=by kernel_rfl
 c145:=by kernel_rfl
 c167:=by kernel_rfl
 c168:=by kernel_rfl
 c171:=by kernel_rfl
 c173:=by kernel_rfl
 c175:=by kernel_rfl
 c210:=by kernel_rfl
 c212:=by kernel_rfl
 c213:=by kernel_rfl
 c232:=by kernel_rfl
 c233:=by kernel_rfl}
open Go.RowKit in
theorem Tryz.strconv_Atoi_ok(s:ByteArray)(d:s.size≤9223372036854775806)(v:Int)(h:Lib.atoiAll s.data.toList= .ok v)(w:World):
  Calls Tryz.prog 188 #[.string s] w fun e w'=>e= .returned (.tuple #[.int .i64 v,.nilIface])∧(w'=w∨∃t,w'=Lib.bytesWorld w 5 t):=Any.strconv_Atoi_ok A00 s d v h w
open Go.RowKit in
theorem Tryz.strconv_Atoi_syntax(s:ByteArray)(d:s.size≤281474976710656)(h:Lib.atoiAll s.data.toList=Lib.atoiAll [])(ev:Value)(w:World)(hv:w.cell? ⟨2,0,none⟩=some ev)(g:ev= .nilIface∨∃te pe,ev= .iface te pe):
  Calls Tryz.prog 188 #[.string s] w fun e w'=>∃N,e= .returned (.tuple #[.int .i64 (0),.iface 266 (.pointer (some ⟨N,0,none⟩))])∧w.heap.size≤N∧w'.heap[N]? =some (.cells #[.string ⟨#[65,116,111,105]⟩,.string s,ev] 294 (0,0))∧Below w.heap.size w w':=Any.strconv_Atoi_syntax A00 s d h ev w hv g
open Go.RowKit in
theorem Tryz.strconv_Atoi_range(s:ByteArray)(d:s.size≤281474976710656)(h:Lib.atoiAll s.data.toList= .range)(ev:Value)(w:World)(hv:w.cell? ⟨3,0,none⟩=some ev)(g:ev= .nilIface∨∃te pe,ev= .iface te pe):
  Calls Tryz.prog 188 #[.string s] w fun e w'=>∃N,e= .returned (.tuple #[.int .i64 (Lib.atoiSat s.data.toList),.iface 266 (.pointer (some ⟨N,0,none⟩))])∧w.heap.size≤N∧w'.heap[N]? =some (.cells #[.string ⟨#[65,116,111,105]⟩,.string s,ev] 294 (0,0))∧Below w.heap.size w w':=Any.strconv_Atoi_range A00 s d h ev w hv g
def Tryz.lays219_ren:Go.Shelf.Ren:=⟨fun|219=>236|217=>173|225=>214|224=>213|267=>272|266=>209|314=>291|n=>n,fun|9=>9|3=>3|4=>4|5=>5|46=>163|146=>307|51=>194|n=>n,fun|1=>0|n=>n⟩
theorem B0F:Go.Proofs.Lays.n219 Tryz.prog Tryz.lays219_ren:={
 mixed:=by kernel_rfl
 f217:=Tryz.func173.trans (congrArg some (by kernel_rfl))
 f219:=Tryz.func236.trans (congrArg some (by kernel_rfl))
 f224:=Tryz.func213.trans (congrArg some (by kernel_rfl))
 f225:=Tryz.func214.trans (congrArg some (by kernel_rfl))
 f266:=Tryz.func209.trans (congrArg some (by kernel_rfl))
 f267:=Tryz.func272.trans (congrArg some (by kernel_rfl))
 f314:=Tryz.func291.trans (congrArg some (by kernel_rfl))
 t3:=Tryz.underlying3
 a3:=Tryz.isAgg3
 z3:=Tryz.sizeOf3
 v3:=Tryz.zeroValue3
 t4:=Tryz.underlying4
 a4:=Tryz.isAgg4
 z4:=Tryz.sizeOf4
 v4:=Tryz.zeroValue4
 t5:=Tryz.underlying5
 a5:=Tryz.isAgg5
 z5:=Tryz.sizeOf5
 v5:=Tryz.zeroValue5
 t9:=Tryz.underlying9
 a9:=Tryz.isAgg9
 z9:=Tryz.sizeOf9
 v9:=Tryz.zeroValue9
 t46:=Tryz.underlying163
 a46:=Tryz.isAgg163
 z46:=Tryz.sizeOf163
 v46:=Tryz.zeroValue163
 t51:=Tryz.underlying194
 a51:=Tryz.isAgg194
 z51:=Tryz.sizeOf194
 v51:=Tryz.zeroValue194
 t146:=Tryz.underlying307
 a146:=Tryz.isAgg307
 z146:=Tryz.sizeOf307
 v146:=Tryz.zeroValue307
 g1:=by kernel_rfl}
open Go.RowKit Go.Lib in
theorem Tryz.stringslite_Index_one(s:ByteArray)(c:UInt8)(w:World):
  Calls Tryz.prog 236 #[.string s,.string ⟨#[c]⟩] w fun e w'=>e= .returned (.int .i64 (Lib.indexByte s.data.toList c))∧w'=w:=Any.stringslite_Index_one B0F s c w
def Tryz.lays99_ren:Go.Shelf.Ren:=⟨fun|99=>186|206=>211|n=>n,fun|9=>9|4=>4|3=>3|n=>n,fun|n=>n⟩
theorem B2A:Go.Proofs.Lays.n99 Tryz.prog Tryz.lays99_ren:={
 mixed:=by kernel_rfl
 f99:=Tryz.func186.trans (congrArg some (by kernel_rfl))
 f206:=Tryz.func211.trans (congrArg some (by kernel_rfl))
 t3:=Tryz.underlying3
 a3:=Tryz.isAgg3
 z3:=Tryz.sizeOf3
 v3:=Tryz.zeroValue3
 t4:=Tryz.underlying4
 a4:=Tryz.isAgg4
 z4:=Tryz.sizeOf4
 v4:=Tryz.zeroValue4
 t9:=Tryz.underlying9
 a9:=Tryz.isAgg9
 z9:=Tryz.sizeOf9
 v9:=Tryz.zeroValue9}
open Go.RowKit Go.Lib in
theorem Tryz.strings_HasPrefix(s p:ByteArray)(w:World):
  Calls Tryz.prog 186 #[.string s,.string p] w fun e w'=>e= .returned (.bool (Lib.hasPrefix s.data.toList p.data.toList))∧w'=w:=Any.strings_HasPrefix B2A s p w
def Tryz.lays100_ren:Go.Shelf.Ren:=⟨fun|100=>149|207=>184|n=>n,fun|9=>9|4=>4|3=>3|n=>n,fun|n=>n⟩
theorem A96:Go.Proofs.Lays.n100 Tryz.prog Tryz.lays100_ren:={
 mixed:=by kernel_rfl
 f100:=Tryz.func149.trans (congrArg some (by kernel_rfl))
 f207:=Tryz.func184.trans (congrArg some (by kernel_rfl))
 t3:=Tryz.underlying3
 a3:=Tryz.isAgg3
 z3:=Tryz.sizeOf3
 v3:=Tryz.zeroValue3
 t4:=Tryz.underlying4
 a4:=Tryz.isAgg4
 z4:=Tryz.sizeOf4
 v4:=Tryz.zeroValue4
 t9:=Tryz.underlying9
 a9:=Tryz.isAgg9
 z9:=Tryz.sizeOf9
 v9:=Tryz.zeroValue9}
open Go.RowKit Go.Lib in
theorem Tryz.strings_HasSuffix(s p:ByteArray)(w:World)(hs:s.size≤9223372036854775807):
  Calls Tryz.prog 149 #[.string s,.string p] w fun e w'=>e= .returned (.bool (Lib.hasSuffix s.data.toList p.data.toList))∧w'=w:=Any.strings_HasSuffix A96 s p w hs
def Tryz.lays101_ren:Go.Shelf.Ren:=⟨fun|101=>185|208=>215|206=>211|n=>n,fun|9=>9|4=>4|3=>3|n=>n,fun|n=>n⟩
theorem A97:Go.Proofs.Lays.n101 Tryz.prog Tryz.lays101_ren:={
 mixed:=by kernel_rfl
 f101:=Tryz.func185.trans (congrArg some (by kernel_rfl))
 f206:=Tryz.func211.trans (congrArg some (by kernel_rfl))
 f208:=Tryz.func215.trans (congrArg some (by kernel_rfl))
 t3:=Tryz.underlying3
 a3:=Tryz.isAgg3
 z3:=Tryz.sizeOf3
 v3:=Tryz.zeroValue3
 t4:=Tryz.underlying4
 a4:=Tryz.isAgg4
 z4:=Tryz.sizeOf4
 v4:=Tryz.zeroValue4
 t9:=Tryz.underlying9
 a9:=Tryz.isAgg9
 z9:=Tryz.sizeOf9
 v9:=Tryz.zeroValue9}
open Go.RowKit Go.Lib in
theorem Tryz.strings_TrimPrefix(s p:ByteArray)(w:World):
  Calls Tryz.prog 185 #[.string s,.string p] w fun e w'=>e= .returned (.string ⟨(Lib.trimPrefix s.data.toList p.data.toList).toArray⟩)∧w'=w:=Any.strings_TrimPrefix A97 s p w
def Tryz.lays102_ren:Go.Shelf.Ren:=⟨fun|102=>148|209=>183|207=>184|n=>n,fun|9=>9|4=>4|3=>3|n=>n,fun|n=>n⟩
theorem A98:Go.Proofs.Lays.n102 Tryz.prog Tryz.lays102_ren:={
 mixed:=by kernel_rfl
 f102:=Tryz.func148.trans (congrArg some (by kernel_rfl))
 f207:=Tryz.func184.trans (congrArg some (by kernel_rfl))
 f209:=Tryz.func183.trans (congrArg some (by kernel_rfl))
 t3:=Tryz.underlying3
 a3:=Tryz.isAgg3
 z3:=Tryz.sizeOf3
 v3:=Tryz.zeroValue3
 t4:=Tryz.underlying4
 a4:=Tryz.isAgg4
 z4:=Tryz.sizeOf4
 v4:=Tryz.zeroValue4
 t9:=Tryz.underlying9
 a9:=Tryz.isAgg9
 z9:=Tryz.sizeOf9
 v9:=Tryz.zeroValue9}
open Go.RowKit Go.Lib in
theorem Tryz.strings_TrimSuffix(s p:ByteArray)(w:World)(hs:s.size≤9223372036854775807):
  Calls Tryz.prog 148 #[.string s,.string p] w fun e w'=>e= .returned (.string ⟨(Lib.trimSuffix s.data.toList p.data.toList).toArray⟩)∧w'=w:=Any.strings_TrimSuffix A98 s p w hs
def Tryz.lays152_ren:Go.Shelf.Ren:=⟨fun|152=>178|137=>138|119=>212|224=>213|225=>214|217=>173|266=>209|n=>n,fun|9=>9|21=>21|3=>3|4=>4|5=>5|0=>0|46=>163|n=>n,fun|n=>n⟩
theorem B0E:Go.Proofs.Lays.n152 Tryz.prog Tryz.lays152_ren:={
 mixed:=by kernel_rfl
 f119:=Tryz.func212.trans (congrArg some (by kernel_rfl))
 f137:=Tryz.func138.trans (congrArg some (by kernel_rfl))
 f152:=Tryz.func178.trans (congrArg some (by kernel_rfl))
 f217:=Tryz.func173.trans (congrArg some (by kernel_rfl))
 f224:=Tryz.func213.trans (congrArg some (by kernel_rfl))
 f225:=Tryz.func214.trans (congrArg some (by kernel_rfl))
 f266:=Tryz.func209.trans (congrArg some (by kernel_rfl))
 t0:=Tryz.underlying0
 a0:=Tryz.isAgg0
 z0:=Tryz.sizeOf0
 v0:=Tryz.zeroValue0
 t3:=Tryz.underlying3
 a3:=Tryz.isAgg3
 z3:=Tryz.sizeOf3
 v3:=Tryz.zeroValue3
 t4:=Tryz.underlying4
 a4:=Tryz.isAgg4
 z4:=Tryz.sizeOf4
 v4:=Tryz.zeroValue4
 t5:=Tryz.underlying5
 a5:=Tryz.isAgg5
 z5:=Tryz.sizeOf5
 v5:=Tryz.zeroValue5
 t9:=Tryz.underlying9
 a9:=Tryz.isAgg9
 z9:=Tryz.sizeOf9
 v9:=Tryz.zeroValue9
 t21:=Tryz.underlying21
 a21:=Tryz.isAgg21
 z21:=Tryz.sizeOf21
 v21:=Tryz.zeroValue21
 t46:=Tryz.underlying163
 a46:=Tryz.isAgg163
 z46:=Tryz.sizeOf163
 v46:=Tryz.zeroValue163}
open Go.RowKit Go.Lib in
theorem Tryz.strings_IndexRune_ascii(s:ByteArray)(r:Int)(w:World)(d:0≤r)(h1:r<128):
  Calls Tryz.prog 178 #[.string s,.int .i32 r] w fun e w'=>e= .returned (.int .i64 (Lib.indexByte s.data.toList r.toNat.toUInt8))∧w'=w:=Any.strings_IndexRune_ascii B0E s r w d h1
def Tryz.lays153_ren:Go.Shelf.Ren:=⟨fun|153=>146|152=>178|226=>179|227=>180|228=>181|137=>138|119=>212|224=>213|225=>214|217=>173|266=>209|n=>n,fun|9=>9|3=>3|4=>4|5=>5|21=>21|117=>203|116=>202|0=>0|46=>163|124=>234|n=>n,fun|n=>n⟩
theorem A4U:Go.Proofs.Lays.n153 Tryz.prog Tryz.lays153_ren:={
 mixed:=by kernel_rfl
 f119:=Tryz.func212.trans (congrArg some (by kernel_rfl))
 f137:=Tryz.func138.trans (congrArg some (by kernel_rfl))
 f152:=Tryz.func178.trans (congrArg some (by kernel_rfl))
 f153:=Tryz.func146.trans (congrArg some (by kernel_rfl))
 f217:=Tryz.func173.trans (congrArg some (by kernel_rfl))
 f224:=Tryz.func213.trans (congrArg some (by kernel_rfl))
 f225:=Tryz.func214.trans (congrArg some (by kernel_rfl))
 f226:=Tryz.func179.trans (congrArg some (by kernel_rfl))
 f227:=Tryz.func180.trans (congrArg some (by kernel_rfl))
 f228:=Tryz.func181.trans (congrArg some (by kernel_rfl))
 f266:=Tryz.func209.trans (congrArg some (by kernel_rfl))
 t0:=Tryz.underlying0
 a0:=Tryz.isAgg0
 z0:=Tryz.sizeOf0
 v0:=Tryz.zeroValue0
 t3:=Tryz.underlying3
 a3:=Tryz.isAgg3
 z3:=Tryz.sizeOf3
 v3:=Tryz.zeroValue3
 t4:=Tryz.underlying4
 a4:=Tryz.isAgg4
 z4:=Tryz.sizeOf4
 v4:=Tryz.zeroValue4
 t5:=Tryz.underlying5
 a5:=Tryz.isAgg5
 z5:=Tryz.sizeOf5
 v5:=Tryz.zeroValue5
 t9:=Tryz.underlying9
 a9:=Tryz.isAgg9
 z9:=Tryz.sizeOf9
 v9:=Tryz.zeroValue9
 t21:=Tryz.underlying21
 a21:=Tryz.isAgg21
 z21:=Tryz.sizeOf21
 v21:=Tryz.zeroValue21
 t46:=Tryz.underlying163
 a46:=Tryz.isAgg163
 z46:=Tryz.sizeOf163
 v46:=Tryz.zeroValue163
 t116:=Tryz.underlying202
 a116:=Tryz.isAgg202
 z116:=Tryz.sizeOf202
 t117:=Tryz.underlying203
 a117:=Tryz.isAgg203
 z117:=Tryz.sizeOf203
 v117:=Tryz.zeroValue203
 t124:=Tryz.underlying234
 a124:=Tryz.isAgg234
 z124:=Tryz.sizeOf234
 v124:=Tryz.zeroValue234}
open Go.RowKit Go.Lib in
theorem Tryz.strings_IndexAny_long(h: ∀w,(zeroValue 202).run Tryz.prog w= .ok (.agg (Array.replicate 256 (.bool false))) w)(s d:ByteArray)(w:World)(m:2≤d.size)(o:8<s.size)(hs:s.size<4294967281)(i:d.size<4294967281)(g: ∀(j:Nat) b,d.data.toList[j]? =some b→b.toNat<128):
  Calls Tryz.prog 146 #[.string s,.string d] w fun e w'=>e= .returned (.int .i64 (Lib.indexAny s.data.toList d.data.toList))∧w'=((w.alloc (.cells (Lib.setCells d.data.toList) 202)).alloc (.cells (Lib.setCells d.data.toList) 202)):=Any.strings_IndexAny_long A4U h (by kernel_rfl) s d w m o hs i g
def Tryz.lays150_ren:Go.Shelf.Ren:=⟨fun|150=>137|153=>146|152=>178|226=>179|227=>180|228=>181|137=>138|119=>212|224=>213|225=>214|217=>173|266=>209|n=>n,fun|9=>9|4=>4|3=>3|5=>5|21=>21|117=>203|116=>202|0=>0|46=>163|124=>234|n=>n,fun|n=>n⟩
theorem B0D:Go.Proofs.Lays.n150 Tryz.prog Tryz.lays150_ren:={
 mixed:=by kernel_rfl
 f119:=Tryz.func212.trans (congrArg some (by kernel_rfl))
 f137:=Tryz.func138.trans (congrArg some (by kernel_rfl))
 f150:=Tryz.func137.trans (congrArg some (by kernel_rfl))
 f152:=Tryz.func178.trans (congrArg some (by kernel_rfl))
 f153:=Tryz.func146.trans (congrArg some (by kernel_rfl))
 f217:=Tryz.func173.trans (congrArg some (by kernel_rfl))
 f224:=Tryz.func213.trans (congrArg some (by kernel_rfl))
 f225:=Tryz.func214.trans (congrArg some (by kernel_rfl))
 f226:=Tryz.func179.trans (congrArg some (by kernel_rfl))
 f227:=Tryz.func180.trans (congrArg some (by kernel_rfl))
 f228:=Tryz.func181.trans (congrArg some (by kernel_rfl))
 f266:=Tryz.func209.trans (congrArg some (by kernel_rfl))
 t0:=Tryz.underlying0
 a0:=Tryz.isAgg0
 z0:=Tryz.sizeOf0
 v0:=Tryz.zeroValue0
 t3:=Tryz.underlying3
 a3:=Tryz.isAgg3
 z3:=Tryz.sizeOf3
 v3:=Tryz.zeroValue3
 t4:=Tryz.underlying4
 a4:=Tryz.isAgg4
 z4:=Tryz.sizeOf4
 v4:=Tryz.zeroValue4
 t5:=Tryz.underlying5
 a5:=Tryz.isAgg5
 z5:=Tryz.sizeOf5
 v5:=Tryz.zeroValue5
 t9:=Tryz.underlying9
 a9:=Tryz.isAgg9
 z9:=Tryz.sizeOf9
 v9:=Tryz.zeroValue9
 t21:=Tryz.underlying21
 a21:=Tryz.isAgg21
 z21:=Tryz.sizeOf21
 v21:=Tryz.zeroValue21
 t46:=Tryz.underlying163
 a46:=Tryz.isAgg163
 z46:=Tryz.sizeOf163
 v46:=Tryz.zeroValue163
 t116:=Tryz.underlying202
 a116:=Tryz.isAgg202
 z116:=Tryz.sizeOf202
 t117:=Tryz.underlying203
 a117:=Tryz.isAgg203
 z117:=Tryz.sizeOf203
 v117:=Tryz.zeroValue203
 t124:=Tryz.underlying234
 a124:=Tryz.isAgg234
 z124:=Tryz.sizeOf234
 v124:=Tryz.zeroValue234}
open Go.RowKit Go.Lib in
theorem Tryz.strings_IndexAny_laid(s d:ByteArray)(w:World)(hs:s.size<4294967281)(g:d.size<4294967281)(h: ∀(j:Nat) b,s.data.toList[j]? =some b→b.toNat<128)(i: ∀(j:Nat) b,d.data.toList[j]? =some b→b.toNat<128):
  Calls Tryz.prog 146 #[.string s,.string d] w fun e w'=>e= .returned (.int .i64 (Lib.indexAny s.data.toList d.data.toList))∧Below w.heap.size w w':=Any.strings_IndexAny_laid A4U (by kernel_rfl) s d w hs g h i
open Go.RowKit Go.Lib in
theorem Tryz.strings_ContainsAny_laid(s d:ByteArray)(w:World)(hs:s.size<4294967281)(g:d.size<4294967281)(h: ∀(j:Nat) b,s.data.toList[j]? =some b→b.toNat<128)(i: ∀(j:Nat) b,d.data.toList[j]? =some b→b.toNat<128):
  Calls Tryz.prog 137 #[.string s,.string d] w fun e w'=>e= .returned (.bool (Lib.containsAny s.data.toList d.data.toList))∧Below w.heap.size w w':=Any.strings_ContainsAny_laid B0D (by kernel_rfl) s d w hs g h i
end Go.Proofs
namespace Go.Lexs
open Go.Av
theorem A9I(s:ByteArray)(i:Int):Q4 s i=I3 (B s) i.toNat:=rfl
end Go.Lexs
namespace Go.Lin
open Go Go.Av Go.Lexs
abbrev dec(n:Nat):List UInt8:=Lib.decDigits n
theorem A3P{n:Nat}(h:n<10):dec n= [UInt8.ofNat (48+n)]:=by rw[dec,Lib.decDigits,dif_pos h]
theorem A4r{n:Nat}(h: ¬n<10):dec n=dec (n / 10)++[UInt8.ofNat (48+n % 10)]:=by rw[dec,Lib.decDigits,dif_neg h]
theorem A1A{d:Nat}(h:d<10):(UInt8.ofNat (48+d)).toNat=48+d:=by
 rw[UInt8.toNat_ofNat'];omega
theorem Q3(n:Nat): ∀c∈dec n,48≤c.toNat∧c.toNat≤57:=by
 induction n using Nat.strongRecOn with
 |ind n d=>
  intro c hc;by_cases h:n<10
  ·rw[A3P h,D10]at hc;subst hc;rw[A1A h];omega
  ·rw[A4r h]at hc;rcases D1z.1 hc with g|g
   ·exact d (n / 10) (by omega) c g
   ·rw[D10]at g;subst g;rw[A1A (by omega)];omega
theorem A9J(n:Nat):dec n≠[]:=by
 by_cases h:n<10
 ·rw[A3P h];simp
 ·rw[A4r h];simp
theorem A1c(k n:Nat)(h:n<10 ^ (k+1)):(dec n).length≤k+1:=by
 induction k generalizing n with
 |zero=>rw[A3P (by omega)];simp
 |succ k d=>
  by_cases hn:n<10
  ·rw[A3P hn];simp
  ·rw[A4r hn,D1f,D1h];have:=d (n / 10) (by rw[Nat.pow_succ]at h;omega);omega
theorem A6v(l:List UInt8)(d:Nat)(i:d<10): ∀(e u:Nat),Lib.parseUint10 e l= .ok u→u*10+d<18446744073709551616→Lib.parseUint10 e (l++[UInt8.ofNat (48+d)])= .ok (u*10+d):=by
 induction l with
 |nil=>
  intro e u h g;simp only[Lib.parseUint10]at h;injection h with h
  subst h;simp only[D2l,Lib.parseUint10,A1A i];rw[if_pos (by omega),if_neg (by omega),if_neg (by omega)]
  congr 1;omega
 |cons c l j=>
  intro e u h g;simp only[Lib.parseUint10,D2k]at h⊢;split at h
  ·rename_i h1;rw[if_pos h1];split at h
   ·cases h
   ·rename_i m;rw[if_neg m];split at h
    ·cases h
    ·rename_i o;rw[if_neg o];exact j _ u h g
  ·cases h
theorem B44(n:Nat)(h:n<18446744073709551616):Lib.parseUint10 0 (dec n)= .ok n:=by
 induction n using Nat.strongRecOn with
 |ind n d=>
  by_cases h1:n<10
  ·rw[A3P h1];have:=A6v [] n h1 0 0 rfl (by omega);simpa using this
  ·rw[A4r h1];have:=A6v (dec (n / 10)) (n % 10) (by omega) 0 (n / 10) (d _ (by omega) (by omega)) (by omega);rw[this];congr 1;omega
theorem B0z(n:Nat)(h:n<9223372036854775808):Lib.atoiAll (dec n)= .ok (n:Int):=by
 cases d:dec n with
 |nil=>exact absurd d (A9J n)
 |cons c r=>
  have hc:=Q3 n c (by rw[d];exact D1k ..);have hp:=B44 n (by omega);rw[d]at hp;unfold Lib.atoiAll;simp only[];rw[if_neg (by omega)];have hm:Lib.parseMag (c::r)= .ok n:=by unfold Lib.parseMag;rw[if_neg (by simp)];exact hp
  rw[hm];simp only[];rw[if_neg (by omega),if_neg (by omega),if_neg (by omega)]
def A5t(l:List UInt8):Int:=l.foldl (fun n c=>10*n+(c.toNat:Int)-48) 0
def A3Q(l:List UInt8):Int:=A5t (l.take 14)
theorem B6w(n:Nat):A5t (dec n)=n:=by
 induction n using Nat.strongRecOn with
 |ind n d=>
  by_cases h:n<10
  ·rw[A3P h];simp only[A5t,List.foldl_cons,List.foldl_nil,A1A h];omega
  ·rw[A4r h];have e:=d (n / 10) (by omega);unfold A5t at e⊢;rw[D2R,e];simp only[List.foldl_cons,List.foldl_nil,A1A (show n % 10<10 by omega)];omega
theorem B00(n:Nat)(h:n<100000000000000):A3Q (dec n)=n:=by
 unfold A3Q;rw[D1o (A1c 13 n (by omega)),B6w]
def R5(f:Bool)(t:LTm):List UInt8:=(if t.c<0 then [45]else if f=true then []else [43])++((if t.c.natAbs=1 then []else dec t.c.natAbs++[42])++B t.v)
def J4:Bool→List LTm→List UInt8
 |_,[]=>[]
 |f,t::l=>R5 f t++J4 false l
def y7(f:Bool)(k:Int):List UInt8:=(if k<0 then [45]else if f=true then []else [43])++dec k.natAbs
def P8(a:LinV):List UInt8:=if a.t= []∨a.k≠0 then y7 a.t.isEmpty a.k else []
def L8(a:LinV):List UInt8:=J4 true a.t++P8 a
def E9(a:LinV):List UInt8:=L8 a++if a.e=true then [61,48]else [62,61,48]
theorem A5X(l:List LTm)(t:LTm): ∀f,J4 f (l++[t])=J4 f l++R5 (f&&l.isEmpty) t:=by
 induction l with
 |nil=>intro f;simp[J4]
 |cons x l d=>intro f;simp[J4,d]
def sgn(c:UInt8):Bool:=c==43||c==45
def P3(l:List UInt8):List (List UInt8):=match l with
 | []=>[]
 |x::r=>(x::r.takeWhile (!sgn ·))::P3 (r.dropWhile (!sgn ·))
termination_by l.length
decreasing_by
 have:=(List.dropWhile_sublist (!sgn ·) (l:=r)).length_le;simp only[D1e];omega
theorem A1d:P3 []= []:=by unfold P3;rfl
theorem A0g(x:UInt8)(r:List UInt8):P3 (x::r)=(x::r.takeWhile (!sgn ·))::P3 (r.dropWhile (!sgn ·)):=by rw[P3]
def Sg(l:List UInt8):Prop:=∀c r,l=c::r→sgn c=true
theorem T5{p:UInt8→Bool}{l R:List UInt8}(h: ∀c∈l,p c=true)(e: ∀c r,R=c::r→p c=false):(l++R).takeWhile p=l∧(l++R).dropWhile p=R:=by
 induction l with
 |nil=>
  cases R with
  |nil=>simp
  |cons c r=>simp[e c r rfl]
 |cons x l g=>
  have h1:=h x (D1k ..);have d:=g (fun c hc=>h c (D1r _ hc));simp[h1,d.1,d.2]
theorem A6w{x:UInt8}{l R:List UInt8}(h: ∀c∈l,sgn c=false)(d:Sg R):P3 (x::(l++R))=(x::l)::P3 R:=by
 have:=T5 (p:=(!sgn ·)) (l:=l) (R:=R) (fun c hc=>by simp[h c hc]) (fun c r e=>by simp[d c r e]);rw[A0g,this.1,this.2]
def Y7(l:List UInt8):Option (List UInt8×List UInt8):=if(42:UInt8)∈l then some (l.takeWhile (· != 42),(l.dropWhile (· != 42)).drop 1)else none
def M1(l:List UInt8):Bool:=decide (l≠[])&&O6 (I3 l 0)
def u8(x:List UInt8):Bool×List UInt8:=
 let b:=Lib.trimPrefix x [43]
 if Lib.hasPrefix b [45]=true then(true,b.drop 1)else(false,b)
def A0S(b:List UInt8):Option (List UInt8×List UInt8):=match Y7 b with
 |some (c,n)=>some (c,n)
 |none=>if M1 b=true then some (b,[])else if b= []then none else some ([49],b)
def N5(x:List UInt8):Option (List UInt8×Int):=match A0S (u8 x).2 with
 |none=>none
 |some (c,n)=>match Lib.atoiAll c with
  | .ok v=>some (n,IntKind.i64.wrap ((if(u8 x).1=true then-1 else 1)*v))
  |_=>none
def V0(x:List UInt8):Bool×List UInt8:=match x with
 | []=>(false,[])
 |c::r=>if c=45 then(true,r)else if c=43 then(false,r)else(false,c::r)
def A0T(x:List UInt8):List UInt8×Int:=
 let b:=(V0 x).2
 let p:Int×List UInt8:=match Y7 b with
  |some (c,n)=>(A3Q c,n)
  |none=>(1,b)
 let q:Int×List UInt8:=if p.2= []∨M1 p.2=true then(A3Q p.2,[])else p
 (q.2,if(V0 x).1=true then-q.1 else q.1)
def A6x(a:LinV)(p:List UInt8×Int):LinV:=if p.1= []then {a with k:=p.2}else {a with t:=a.t++[⟨S p.1,p.2⟩]}
theorem B3w{p:Int→Bool}{l:List UInt8}(h:l.all (ofB p)=true): ∀c∈l,p (c.toNat:Int)=true:=fun c hc=>D2A.1 h c hc
theorem A6y{l:List UInt8}(h:G5 l=true): ∀c∈l,33≤c.toNat∧c.toNat≤126∧c.toNat≠43∧c.toNat≠45∧c.toNat≠42∧c.toNat≠62∧c.toNat≠61:=fun c hc=>by
 unfold G5 at h;simp only[D1m]at h;have:=(A2n _).1 (B3w h.2 c hc);omega
theorem A2o{l:List UInt8}(h:G5 l=true):l≠[]:=by
 unfold G5 at h;simp only[D1m,D1v]at h;exact h.1.1.1
theorem A76{l:List UInt8}(h:G5 l=true):M1 l=false:=by
 unfold G5 at h;simp only[D1m,Bool.not_eq_true']at h;unfold M1;rw[h.1.2,Bool.and_false]
theorem C37{c:UInt8}(h1:c.toNat≠43)(d:c.toNat≠45):sgn c=false:=by
 unfold sgn;simp only[Bool.or_eq_false_iff,beq_eq_false_iff_ne];exact⟨fun e=>h1 (by rw[e];rfl),fun e=>d (by rw[e];rfl)⟩
def A1w(t:LTm):List UInt8:=(if t.c.natAbs=1 then []else dec t.c.natAbs++[42])++B t.v
theorem B3x(t:LTm)(h:G5 (B t.v)=true):A1w t≠[]:=by
 unfold A1w;have:=A2o h;intro e;exact this (List.append_eq_nil_iff.1 e).2
theorem A2F(t:LTm)(h:G5 (B t.v)=true): ∀c∈A1w t,c.toNat≠43∧c.toNat≠45∧c.toNat≠62∧c.toNat≠61:=fun c hc=>by
 unfold A1w at hc;rcases D1z.1 hc with g|g
 ·split at g
  ·cases g
  ·rcases D1z.1 g with g|g
   ·have:=Q3 _ c g;omega
   ·rw[D10]at g;subst g;decide
 ·have:=A6y h c g;omega
theorem A5Y(s:List UInt8)(b R:List UInt8)(hs:s= []∨s= [43]∨s= [45])(hb:b≠[])(hm: ∀c∈b,c.toNat≠43∧c.toNat≠45)(d:Sg R):P3 (s++b++R)=(s++b)::P3 R:=by
 have hn: ∀c∈b,sgn c=false:=fun c hc=>C37 (hm c hc).1 (hm c hc).2;rcases hs with rfl|hs
 ·cases b with
  |nil=>exact absurd rfl hb
  |cons x b=>exact A6w (x:=x) (fun c hc=>hn c (D1r _ hc)) d
 ·rcases hs with rfl|rfl<;>exact A6w hn d
theorem sign_or(f:Bool)(c:Int):(if c<0 then [45]else if f=true then([]:List UInt8)else [43])= []∨(if c<0 then [45]else if f=true then([]:List UInt8)else [43])= [43]∨(if c<0 then [45]else if f=true then([]:List UInt8)else [43])= [45]:=by
 split
 ·exact .inr (.inr rfl)
 ·split
  ·exact .inl rfl
  ·exact .inr (.inl rfl)
theorem B3y(f:Bool)(c:Int){b:List UInt8}(hb:b≠[])(hm: ∀x∈b,x.toNat≠43∧x.toNat≠45):
    u8 ((if c<0 then [45]else if f=true then []else [43])++b)=(decide (c<0),b)∧V0 ((if c<0 then [45]else if f=true then []else [43])++b)=(decide (c<0),b):=by
  cases b with
  |nil=>exact absurd rfl hb
  |cons x b=>
    have hx:=hm x (D1k ..);have g:x≠43:=fun e=>hx.1 (by rw[e];rfl);have d:x≠45:=fun e=>hx.2 (by rw[e];rfl);by_cases h:c<0
    · rw[if_pos h,D1b h]
      constructor
      · simp[u8,Lib.trimPrefix,Lib.hasPrefix]
      · simp[V0]
    · rw[if_neg h,D1c h]
      cases f with
      | true => constructor
                · simp[u8,Lib.trimPrefix,Lib.hasPrefix,g.symm,d.symm]
                · simp[V0,g,d]
      | false => constructor
                 · simp[u8,Lib.trimPrefix,Lib.hasPrefix,d.symm]
                 · simp[V0]
theorem B6x{d n:List UInt8}(h: ∀c∈d,c.toNat≠42):Y7 (d++[42]++n)=some (d,n):=by
 unfold Y7;have e:=T5 (p:=(· != 42)) (l:=d) (R:=42::n) (fun c hc=>by
  have:=h c hc;simp only[bne_iff_ne,ne_eq];intro e;exact this (by rw[e];rfl)) (fun c r e=>by cases e;decide)
 rw[if_pos (by simp),D2N,List.singleton_append,e.1,e.2];rfl
theorem B3z{d:List UInt8}(h: ∀c∈d,c.toNat≠42):Y7 d=none:=by
 unfold Y7;rw[if_neg (fun hm=>h _ hm rfl)]
theorem signed{c:Int}:(if decide (c<0)=true then-1 else 1)*(c.natAbs:Int)=c:=by
 by_cases h:c<0
 ·rw[D1b h,if_pos rfl];omega
 ·rw[D1c h,if_neg (by decide)];omega
theorem A9K{c:Int}:(if decide (c<0)=true then-(c.natAbs:Int)else(c.natAbs:Int))=c:=by
 by_cases h:c<0
 ·rw[D1b h,if_pos rfl];omega
 ·rw[D1c h,if_neg (by decide)];omega
theorem A9L{n:Int}(d: -9223372036854775808≤n)(h1:n≤9223372036854775807):IntKind.i64.wrap n=n:=by simp(disch:=omega) only[A4]
theorem B2h(f:Bool)(t:LTm)(hn:G5 (B t.v)=true)(h:t.c≠0)(hc:t.c.natAbs≤1048576):N5 (R5 f t)=some (B t.v,t.c)∧A0T (R5 f t)=(B t.v,t.c):=by
 have hb:=B3y f t.c (B3x t hn) (fun x hx=>⟨(A2F t hn x hx).1,(A2F t hn x hx).2.1⟩);have e:R5 f t=(if t.c<0 then [45]else if f=true then []else [43])++A1w t:=rfl;unfold N5 A0T;rw[e,hb.1,hb.2];by_cases h1:t.c.natAbs=1
 ·have g:A1w t=B t.v:=by unfold A1w;rw[if_pos h1,D2l]
  have d:Y7 (B t.v)=none:=B3z fun c hc=>(A6y hn c hc).2.2.2.2.1;have e1:Lib.atoiAll [49]= .ok 1:=by decide
  have e2:(if decide (t.c<0)=true then-1 else 1)*(1:Int)=t.c:=by have:=signed (c:=t.c);rwa [h1]at this
  have e3:(if decide (t.c<0)=true then-(1:Int)else 1)=t.c:=by have:=A9K (c:=t.c);rwa [h1]at this
  simp only[g,A0S,d,A76 hn,if_neg (A2o hn),D1p,if_false,e1,e2];refine⟨by rw[A9L (by omega) (by omega)],?_⟩;rw[if_neg (by simp[A2o hn])];simp only[e3]
 ·have g:A1w t=dec t.c.natAbs++[42]++B t.v:=by unfold A1w;rw[if_neg h1]
  have d:Y7 (dec t.c.natAbs++[42]++B t.v)=some (dec t.c.natAbs,B t.v):=B6x fun c hc=>by have:=Q3 _ c hc;omega
  simp only[g,A0S,d,B0z t.c.natAbs (by omega),signed];refine⟨by rw[A9L (by omega) (by omega)],?_⟩;rw[if_neg (by simp[A2o hn,A76 hn])];simp only[B00 t.c.natAbs (by omega),A9K]
theorem B6y(n:Nat):M1 (dec n)=true:=by
 unfold M1;cases h:dec n with
 |nil=>exact absurd h (A9J n)
 |cons c r=>
  have:=Q3 n c (by rw[h];exact D1k ..);have e:I3 (c::r) 0=(c.toNat:Int):=rfl;rw[e];simp[O6];omega
theorem A2p(f:Bool)(k:Int)(hk:k.natAbs≤1099511627776):N5 (y7 f k)=some ([],k)∧A0T (y7 f k)=([],k):=by
 have hm: ∀x∈dec k.natAbs,x.toNat≠43∧x.toNat≠45:=fun x hx=>by have:=Q3 _ x hx;omega
 have hb:=B3y f k (A9J k.natAbs) hm;have e:y7 f k=(if k<0 then [45]else if f=true then []else [43])++dec k.natAbs:=rfl;have d:Y7 (dec k.natAbs)=none:=B3z fun c hc=>by have:=Q3 _ c hc;omega
 unfold N5 A0T;rw[e,hb.1,hb.2];simp only[A0S,d,B6y,if_true,B0z k.natAbs (by omega),signed];refine⟨by rw[A9L (by omega) (by omega)],?_⟩;rw[if_pos (.inr trivial)];simp only[B00 k.natAbs (by omega),A9K]
theorem A2G{l:List LTm}(h:X3 l=true){i:Nat}(j:i<l.length):G5 (B l[i].v)=true∧l[i].c≠0∧l[i].c.natAbs≤1048576∧(∀d:i-1<l.length,0<i→X2 l[i-1].v l[i].v=true):=by
 unfold X3 at h;have:=D2A.1 h i (List.mem_range.2 j);unfold A2D J9 at this;have e:l.getD i default=l[i]:=by simp[j]
 have e2: ∀d:i-1<l.length,l.getD (i-1) default=l[i-1]:=fun d=>by simp[d]
 rw[e]at this;simp only[D1m,D2w,D1v]at this;refine⟨this.1.1.1,this.1.2,by omega,fun d m=>?_⟩;rcases this.1.1.2 with g|g
 ·omega
 ·rw[e2 d]at g;exact g
theorem N0{l:List LTm}(h:X3 l=true): ∀t∈l,G5 (B t.v)=true∧t.c≠0∧t.c.natAbs≤1048576:=fun t d=>by
 obtain⟨i,e,rfl⟩:=List.getElem_of_mem d;have:=A2G h e;exact⟨this.1,this.2.1,this.2.2.1⟩
theorem C0G(k:Int):Sg (y7 false k):=fun c r e=>by
 unfold y7 at e;split at e
 ·cases e;decide
 ·cases e;decide
theorem B6z(t:LTm)(l:List UInt8):Sg (R5 false t++l):=fun c r e=>by
 unfold R5 at e;split at e
 ·cases e;decide
 ·cases e;decide
theorem A1e: ∀(l:List LTm) (f:Bool) (R:List UInt8),(∀t∈l,G5 (B t.v)=true∧t.c≠0∧t.c.natAbs≤1048576)→Sg R→
  ∃ps,P3 (J4 f l++R)=ps++P3 R∧ps.mapM N5=some (l.map fun t=>(B t.v,t.c))∧ps.map A0T=l.map fun t=>(B t.v,t.c)
 | [],f,R,_,_=>⟨[],by simp[J4],rfl,rfl⟩
 |t::l,f,R,h,i=>by
  have d:=h t (D1k ..);obtain⟨ps,h1,j,m⟩:=A1e l false R (fun x hx=>h x (D1r _ hx)) i;have hp:=B2h f t d.1 d.2.1 d.2.2;have g:Sg (J4 false l++R):=by
   cases l with
   |nil=>exact i
   |cons y l=>rw[J4,D2N];exact B6z y _
  refine⟨R5 f t::ps,?_,?_,?_⟩
  ·rw[J4,D2N];have e:R5 f t=(if t.c<0 then [45]else if f=true then []else [43])++A1w t:=rfl;have:=A5Y (if t.c<0 then [45]else if f=true then []else [43]) (A1w t) (J4 false l++R) (sign_or f t.c) (B3x t d.1) (fun c hc=>⟨(A2F t d.1 c hc).1,(A2F t d.1 c hc).2.1⟩) g;rw[←e]at this;rw[this,h1];rfl
  ·rw[List.mapM_cons,hp.1,j];rfl
  ·rw[D2q,hp.2,m];rfl
def A0w(a:LinV)(ps:List (List UInt8×Int)):LinV:=ps.foldl A6x a
theorem A30(l:List LTm): ∀(a:LinV),(∀t∈l,G5 (B t.v)=true)→A0w a (l.map fun t=>(B t.v,t.c))= {a with t:=a.t++l}:=by
 induction l with
 |nil=>intro a _;simp[A0w]
 |cons x l d=>
  intro a h;have hx:=A2o (h x (D1k ..));unfold A0w at d⊢;rw[D2q,List.foldl_cons];have e:A6x a (B x.v,x.c)= {a with t:=a.t++[x]}:=by unfold A6x;rw[if_neg hx,S_B]
  rw[e,d _ (fun t g=>h t (D1r _ g))];simp
theorem B01(a:LinV)(g:validL a=true): ∃ps,(P3 (L8 a)).mapM N5=some ps∧(P3 (L8 a)).map A0T=ps∧∀e,A0w ⟨[],0,e⟩ ps=⟨a.t,a.k,e⟩:=by
 unfold validL J9 at g;simp only[D1m,D1v]at g;have hk:a.k.natAbs≤1099511627776:=by omega
 have hm:=N0 g.1.1;have o: ∀x∈dec a.k.natAbs,x.toNat≠43∧x.toNat≠45:=fun x hx=>by have:=Q3 _ x hx;omega
 have d: ∀f,P3 (y7 f a.k)= [y7 f a.k]:=fun f=>by
  have:=A5Y (if a.k<0 then [45]else if f=true then []else [43]) (dec a.k.natAbs) [] (sign_or f a.k) (A9J _) o (fun c r e=>by cases e);rw[D2O,A1d]at this;exact this
 by_cases hn:a.t= []
 ·have e:L8 a=y7 true a.k:=by unfold L8 P8;rw[hn];simp[J4]
  refine⟨[([],a.k)],?_,?_,fun e=>?_⟩
  ·rw[e,d,List.mapM_cons,(A2p true a.k hk).1];rfl
  ·rw[e,d];simp only[D2q,List.map_nil,(A2p true a.k hk).2]
  ·rw[hn];simp[A0w,A6x]
 ·have he:a.t.isEmpty=false:=by simp[hn]
  by_cases h:a.k=0
  ·have e:L8 a=J4 true a.t++[]:=by unfold L8 P8;rw[if_neg (by simp[hn,h])]
   obtain⟨ps,h1,i,j⟩:=A1e a.t true [] hm (fun c r e=>by cases e);rw[A1d,D2O ps]at h1;refine⟨a.t.map fun t=>(B t.v,t.c),?_,?_,fun e=>?_⟩
   ·rw[e,h1];exact i
   ·rw[e,h1];exact j
   ·rw[A30 _ _ (fun t m=>(hm t m).1),h];simp
  ·have e:L8 a=J4 true a.t++y7 false a.k:=by unfold L8 P8;rw[if_pos (.inr h),he]
   obtain⟨ps,h1,i,j⟩:=A1e a.t true (y7 false a.k) hm (C0G a.k);rw[d]at h1;refine⟨(a.t.map fun t=>(B t.v,t.c))++[([],a.k)],?_,?_,fun e=>?_⟩
   ·rw[e,h1,List.mapM_append,i,List.mapM_cons,(A2p false a.k hk).1];rfl
   ·rw[e,h1,D2Z,j,D2q,List.map_nil,(A2p false a.k hk).2]
   ·have:=A30 a.t ⟨[],0,e⟩ (fun t m=>(hm t m).1);unfold A0w at this⊢;rw[D2R,this];simp[A6x]
theorem B60(a:LinV)(d:validL a=true): ∀c∈L8 a,c.toNat≠61∧c.toNat≠62:=by
 unfold validL at d;simp only[D1m]at d;have hm:=N0 d.1.1;have key: ∀(l:List LTm) (f:Bool),(∀t∈l,G5 (B t.v)=true)→∀c∈J4 f l,c.toNat≠61∧c.toNat≠62:=by
  intro l
  induction l with
  |nil=>intro f _ c hc;cases hc
  |cons t l i=>
   intro f h c hc;rw[J4]at hc;rcases D1z.1 hc with g|g
   ·have e:R5 f t=(if t.c<0 then [45]else if f=true then []else [43])++A1w t:=rfl;rw[e]at g;rcases D1z.1 g with g|g
    ·rcases sign_or f t.c with q|q|q<;>rw[q]at g
     ·cases g
     ·rw[D10]at g;subst g;decide
     ·rw[D10]at g;subst g;decide
    ·have:=A2F t (h t (D1k ..)) c g;exact⟨this.2.2.2,this.2.2.1⟩
   ·exact i false (fun x hx=>h x (D1r _ hx)) c g
 intro c hc;unfold L8 at hc;rcases D1z.1 hc with g|g
 ·exact key a.t true (fun t j=>(hm t j).1) c g
 ·unfold P8 at g;split at g
  ·unfold y7 at g;rcases D1z.1 g with g|g
   ·rcases sign_or a.t.isEmpty a.k with q|q|q<;>rw[q]at g
    ·cases g
    ·rw[D10]at g;subst g;decide
    ·rw[D10]at g;subst g;decide
   ·have:=Q3 _ c g;omega
  ·cases g
def A5Z(s:List UInt8):Option LinV:=
 if Lib.hasSuffix s [61,48]=true then
  let b:=Lib.trimSuffix s [61,48]
  ((P3 (Lib.trimSuffix b [62])).mapM N5).map (A0w ⟨[],0,!Lib.hasSuffix b [62]⟩)
 else none
def A2H(c:UInt8):Bool:=c==61||c==62
def A2I(s:List UInt8):LinV:=
 A0w ⟨[],0,decide ((s.dropWhile (!A2H ·)).head?=some 61)⟩ ((P3 (s.takeWhile (!A2H ·))).map A0T)
theorem A9M(l m:List UInt8):Lib.hasSuffix (l++m) m=true∧Lib.trimSuffix (l++m) m=l:=by
 have h:Lib.hasSuffix (l++m) m=true:=by unfold Lib.hasSuffix;rw[List.isSuffixOf_iff_suffix];exact List.suffix_append ..
 refine⟨h,?_⟩;unfold Lib.trimSuffix;rw[if_pos h];simp
theorem C38(l:List UInt8)(c:UInt8)(h: ∀x∈l,x≠c):Lib.hasSuffix l [c]=false∧Lib.trimSuffix l [c]=l:=by
 have h:Lib.hasSuffix l [c]=false:=by
  rw[←D2v];unfold Lib.hasSuffix;rw[List.isSuffixOf_iff_suffix];rintro⟨r,e⟩;exact h c (by rw[←e];simp) rfl
 refine⟨h,?_⟩;unfold Lib.trimSuffix;rw[if_neg (by simp[h])]
theorem A77(a:LinV)(j:validL a=true):A5Z (E9 a)=some a∧A2I (E9 a)=a:=by
 have hb:=B60 a j;obtain⟨ps,h1,m,o⟩:=B01 a j;have i: ∀x∈L8 a,x≠62:=fun x hx e=>(hb x hx).2 (by rw[e];rfl);have nst: ∀x∈L8 a,(!A2H x)=true:=fun x hx=>by
  have:=hb x hx;have e1:x≠61:=fun e=>this.1 (by rw[e];rfl);have e2:x≠62:=fun e=>this.2 (by rw[e];rfl);simp[A2H,e1,e2]
 unfold A5Z A2I E9;cases he:a.e with
 |true=>
  simp only[if_true];have d:=A9M (L8 a) [61,48];have g:=C38 (L8 a) 62 i;have h:=T5 (p:=(!A2H ·)) (l:=L8 a) (R:=[61,48]) nst (fun c r e=>by cases e;decide);rw[if_pos d.1,d.2,g.2,g.1,h.1,h.2,h1,m];have:=o true;refine⟨?_,?_⟩
  ·simp only[Option.map_some,D2y,this];cases a;simp_all
  ·simp only[List.head?_cons,decide_true,this];cases a;simp_all
 |false=>
  simp only[D1p,if_false];have e2:L8 a++[62,61,48]=L8 a++[62]++[61,48]:=by simp
  have d:=A9M (L8 a++[62]) [61,48];have g:=A9M (L8 a) [62];have h:=T5 (p:=(!A2H ·)) (l:=L8 a) (R:=[62,61,48]) nst (fun c r e=>by cases e;decide);rw[h.1,h.2,m,e2,if_pos d.1,d.2,g.2,g.1,h1];have:=o false;refine⟨?_,?_⟩
  ·simp only[Option.map_some,D2x,this];cases a;simp_all
  ·have e3:decide ((62::[61,48]:List UInt8).head?=some 61)=false:=by decide
   rw[e3,this];cases a;simp_all
def A0x(s:List UInt8):Option LinV:=(A5Z s).bind fun a=>if validL a=true∧E9 a=s then some a else none
theorem B61(s:List UInt8):A0x s=if validL (A2I s)=true∧E9 (A2I s)=s then some (A2I s)else none:=by
 unfold A0x;by_cases h: ∃a,validL a=true∧E9 a=s
 ·obtain⟨a,d,rfl⟩:=h;obtain⟨h1,e⟩:=A77 a d;rw[h1,e];rfl
 ·have n: ∀a,¬(validL a=true∧E9 a=s):=fun a g=>h ⟨a,g⟩;rw[if_neg (n _)];cases A5Z s with
  |none=>rfl
  |some a=>show (if _ then _ else _)=_;rw[if_neg (n a)]
theorem A5a(a:LinV)(d:validL a=true):A0x (E9 a)=some a:=by
 unfold A0x;rw[(A77 a d).1];show (if _ then _ else _)=_;rw[if_pos ⟨d,rfl⟩]
end Go.Lin
namespace Go.Lin
open Go Go.Av
def F0:List Nat→Nat
 | []=>0
 |d::l=>d+4294967296*F0 l
def B4(n:Nat):List Nat:=if h:n=0 then []else n % 4294967296::B4 (n / 4294967296)
termination_by n
decreasing_by exact Nat.div_lt_self (Nat.pos_of_ne_zero h) (by decide)
def F5(d:Nat):List D:=[.int .u32 d]
@[go_sem] theorem C91(n:Nat):F5 n= [.int .u32 n]:=rfl
abbrev Y8(n:Nat):D:=.sl 1 (Rw F5 (B4 n))
def Dig(l:List Nat):Prop:=∀d∈l,d<4294967296
theorem K3:B4 0= []:=by unfold B4;simp
theorem A0U{n:Nat}(h:n≠0):B4 n=n % 4294967296::B4 (n / 4294967296):=by rw[B4];simp[h]
theorem Q2(n:Nat):Dig (B4 n):=by
 induction n using Nat.strongRecOn with
 |ind n g=>
  intro d e;by_cases h:n=0
  ·subst h;rw[K3]at e;cases e
  ·rw[A0U h]at e;rcases D11.1 e with rfl|e
   ·exact Nat.mod_lt _ (by decide)
   ·exact g (n / 4294967296) (Nat.div_lt_self (Nat.pos_of_ne_zero h) (by decide)) d e
theorem L0(n:Nat):F0 (B4 n)=n:=by
 induction n using Nat.strongRecOn with
 |ind n d=>
  by_cases h:n=0
  ·subst h;rw[K3];rfl
  ·rw[A0U h,F0,d _ (Nat.div_lt_self (Nat.pos_of_ne_zero h) (by decide))];exact Nat.mod_add_div n 4294967296
theorem o9(l m:List Nat):F0 (l++m)=F0 l+4294967296 ^ l.length*F0 m:=by
 induction l with
 |nil=>simp[F0]
 |cons d l e=>
  rw[D2k,F0,e,F0,D1e,Nat.pow_succ,Nat.mul_add,Nat.mul_comm (4294967296 ^ l.length) 4294967296,Nat.mul_assoc,Nat.add_assoc]
theorem A0C(l:List Nat)(d:Nat):F0 (l++[d])=F0 l+4294967296 ^ l.length*d:=by rw[o9];simp[F0]
theorem H8(l:List Nat)(i:Nat)(h:i<l.length):F0 (l.take (i+1))=F0 (l.take i)+4294967296 ^ i*l[i]:=by
 rw[D1s h,A0C,D2H,Nat.min_eq_left (by omega)]
theorem A2q(l:List Nat)(i:Nat)(h:i<l.length):F0 (l.drop i)=l[i]+4294967296*F0 (l.drop (i+1)):=by
 rw[D14 h,F0]
theorem B2i(n:Nat):F0 (List.replicate n 0)=0:=by
 induction n with
 |zero=>rfl
 |succ n d=>rw[List.replicate_succ,F0,d]
theorem A9N{l:List Nat}(h:Dig l):F0 l<4294967296 ^ l.length:=by
 induction l with
 |nil=>simp[F0]
 |cons d l e=>
  have h1:=h d (D1k ..);have g:=e (fun x hx=>h x (D1r _ hx));rw[F0,D1e,Nat.pow_succ]
  calc d+4294967296*F0 l<4294967296+4294967296*F0 l:=by omega
   _=4294967296*(F0 l+1):=by rw[Nat.mul_add];omega
   _≤4294967296*4294967296 ^ l.length:=Nat.mul_le_mul_left _ g
   _=4294967296 ^ l.length*4294967296:=Nat.mul_comm _ _
theorem C0H{l:List Nat}(h:Dig l)(hl: ∀(hn:l≠[]),l.getLast hn≠0):B4 (F0 l)=l:=by
 induction l with
 |nil=>rw[F0,K3]
 |cons d l m=>
  have h1:d<4294967296:=h d (D1k ..);have i:=m (fun x hx=>h x (D1r _ hx)) (fun hn=>by
   have:=hl (List.cons_ne_nil _ _);rwa [List.getLast_cons hn]at this)
  have j:F0 (d::l)≠0:=by
   rw[F0];cases l with
   |nil=>
    have:=hl (List.cons_ne_nil _ _);simp at this;simp[F0,this]
   |cons e l=>
    intro p;have o:F0 (e::l)=0:=by
     have:4294967296*F0 (e::l)=0:=by omega
     rcases Nat.mul_eq_zero.1 this with g|g
     ·exact absurd g (by decide)
     ·exact g
    rw[o,K3]at i;cases i
  rw[A0U j];have e1:F0 (d::l) % 4294967296=d:=by rw[F0,Nat.add_mul_mod_self_left];exact D2a h1
  have e2:F0 (d::l) / 4294967296=F0 l:=by rw[F0,Nat.add_mul_div_left _ _ (by decide),Nat.div_eq_of_lt h1,Nat.zero_add]
  rw[e1,e2,i]
theorem B45(n:Nat): ∀(hn:B4 n≠[]),(B4 n).getLast hn≠0:=by
 induction n using Nat.strongRecOn with
 |ind n j=>
  intro hn;by_cases h:n=0
  ·subst h;rw[K3]at hn;exact absurd rfl hn
  ·have e:=A0U h;by_cases i:n / 4294967296=0
   ·have e2:B4 n= [n % 4294967296]:=by rw[e,i,K3]
    have:n % 4294967296=n:=D2a (by rcases Nat.div_eq_zero_iff.1 i with g|g;exact absurd g (by decide);exact g);simp only[e2,List.getLast_singleton,this];exact h
   ·have d:B4 (n / 4294967296)≠[]:=by rw[A0U i];exact List.cons_ne_nil _ _
    have g:=j (n / 4294967296) (Nat.div_lt_self (Nat.pos_of_ne_zero h) (by decide)) d;have e3:(B4 n).getLast hn=(n % 4294967296::B4 (n / 4294967296)).getLast (List.cons_ne_nil _ _):=by congr 1
    rw[e3,List.getLast_cons d];exact g
theorem C0I{l m:List Nat}{x:Nat}(e:l=m++[x])(h:l≠[]):l.getLast h=x:=by subst e;simp
def A0V:List Nat→Nat→Nat
 |_,0=>0
 |l,n+1=>if l.getD n 0=0 then A0V l n else n+1
theorem B02(l:List Nat)(n:Nat):A0V l n≤n:=by
 induction n with
 |zero=>exact D1t _
 |succ n d=>unfold A0V;split;omega;exact D1t _
theorem A6z{l:List Nat}(h:Dig l): ∀n,n≤l.length→l.take (A0V l n)=B4 (F0 (l.take n))
 |0,_=>by simp[A0V,F0,K3]
 |n+1,hn=>by
  have hl:n<l.length:=by omega
  have i:l.getD n 0=l[n]:=by simp[hl]
  unfold A0V;rw[i];split
  ·rename_i e;rw[A6z h n (by omega),H8 l n hl,e,Nat.mul_zero,Nat.add_zero]
  ·rename_i e;refine(C0H (fun d j=>h d (List.mem_of_mem_take j)) fun g=>?_).symm;rw[C0I (D1s hl) g];exact e
theorem B03{l:List Nat}(h:Dig l):l.take (A0V l l.length)=B4 (F0 l):=by
 have:=A6z h l.length (D1t _);rwa [List.take_length]at this
theorem B04(n k:Nat)(h:n<4294967296 ^ k):(B4 n).length≤k:=by
  induction k generalizing n with
  | zero => have:n=0:=by simpa using h
            subst this;rw[K3];exact D1t _
  |succ k e=>
    by_cases d:n=0
    · subst d;rw[K3];exact D1u _
    · rw[A0U d,D1e]
      have:=e (n / 4294967296) (Nat.div_lt_of_lt_mul (by rw[Nat.pow_succ,Nat.mul_comm]at h;exact h));omega
theorem I9(n:Nat):(B4 n).length=0↔n=0:=by
 constructor
 ·intro h;have:=L0 n;rw[D1x h]at this;exact this.symm
 ·rintro rfl;rw[K3];rfl
theorem A31{n:Nat}(h:n<4294967296)(d:n≠0):B4 n= [n]:=by
 rw[A0U d,D2a h,Nat.div_eq_of_lt h,K3]
theorem A0h{a b:Nat}(h:(B4 a).length<(B4 b).length):a<b:=by
 by_cases hb:b=0
 ·subst hb;rw[K3]at h;simp at h
 ·have h1:a<4294967296 ^ (B4 a).length:=by have:=A9N (Q2 a);rwa [L0]at this
  have d:B4 b≠[]:=by intro e;rw[e]at h;simp at h
  have i:4294967296 ^ ((B4 b).length-1)≤b:=by
   have e:=List.dropLast_concat_getLast d;have g:=L0 b;rw[←e,A0C]at g;have l:=B45 b d;have:4294967296 ^ (B4 b).dropLast.length*1≤4294967296 ^ (B4 b).dropLast.length*(B4 b).getLast d:=Nat.mul_le_mul_left _ (by omega);rw[List.length_dropLast]at this;rw[List.length_dropLast]at g;omega
  exact D2V h1 (D2f (Nat.pow_le_pow_right (by decide) (by omega)) i)
theorem B46{a b:Nat}(h:a≤b):(B4 a).length≤(B4 b).length:=by
 by_cases g:(B4 b).length<(B4 a).length
 ·have:=A0h g;omega
 ·omega
theorem B05{l m:List Nat}(hl:Dig l)(hm:Dig m)(he:l.length=m.length){i:Nat}(g:i<l.length)(e:l.drop (i+1)=m.drop (i+1)):l[i]<m[i]'(by omega)→F0 l<F0 m:=fun h=>by
 have e1:F0 l=F0 (l.take i)+4294967296 ^ i*(l[i]+4294967296*F0 (l.drop (i+1))):=by
  conv=>lhs;rw[←D2K i l,o9,A2q l i g,D2H,Nat.min_eq_left (by omega)]
 have e2:F0 m=F0 (m.take i)+4294967296 ^ i*(m[i]+4294967296*F0 (m.drop (i+1))):=by
  conv=>lhs;rw[←D2K i m,o9,A2q m i (by omega),D2H,Nat.min_eq_left (by omega)]
 have j:=A9N (l:=l.take i) (fun d e=>hl d (List.mem_of_mem_take e));rw[D2H,Nat.min_eq_left (by omega)]at j;rw[e1,e2,e]
 calc F0 (l.take i)+4294967296 ^ i*(l[i]+4294967296*F0 (m.drop (i+1)))<4294967296 ^ i+4294967296 ^ i*(l[i]+4294967296*F0 (m.drop (i+1))):=by omega
  _=4294967296 ^ i*(l[i]+1+4294967296*F0 (m.drop (i+1))):=by rw[Nat.mul_add,Nat.mul_add,Nat.mul_add];omega
  _≤4294967296 ^ i*(m[i]+4294967296*F0 (m.drop (i+1))):=Nat.mul_le_mul_left _ (by omega)
  _≤_:=Nat.le_add_left _ _
theorem A1f(L:List Nat)(s:Nat):F0 (L++[s % 4294967296])+4294967296 ^ (L.length+1)*(s / 4294967296)=F0 L+4294967296 ^ L.length*s:=by
 rw[A0C,Nat.pow_succ,Nat.add_assoc,Nat.mul_assoc,←Nat.mul_add,Nat.mod_add_div]
theorem A5b(L:List Nat)(s:Int):(F0 (L++[(s % (4294967296:Int)).toNat]):Int)+(4294967296:Int) ^ (L.length+1)*(s / (4294967296:Int))=F0 L+(4294967296:Int) ^ L.length*s:=by
 have d:0≤s % (4294967296:Int):=Int.emod_nonneg _ (by decide);have h1:((s % (4294967296:Int)).toNat:Int)=s % (4294967296:Int):=Int.toNat_of_nonneg d;have e:(((4294967296:Nat) ^ L.length:Nat):Int)=(4294967296:Int) ^ L.length:=Int.natCast_pow _ _;rw[A0C,Int.natCast_add,Int.natCast_mul,h1,e,Int.pow_succ,Int.add_assoc,Int.mul_assoc,←Int.mul_add,Int.emod_add_mul_ediv]
theorem B06(l:List Nat)(p d:Nat)(h:p<l.length):F0 (l.set p d)+4294967296 ^ p*l[p]=F0 l+4294967296 ^ p*d:=by
 have e1:l.set p d=l.take p++d::l.drop (p+1):=by rw[List.set_eq_take_append_cons_drop,if_pos h]
 have e2:F0 l=F0 (l.take p)+4294967296 ^ p*(l[p]+4294967296*F0 (l.drop (p+1))):=by
  conv=>lhs;rw[←D2K p l,o9,A2q l p h,D2H,Nat.min_eq_left (by omega)]
 rw[e1,o9,F0,D2H,Nat.min_eq_left (by omega),e2,Nat.mul_add,Nat.mul_add];omega
theorem B30{l:List Nat}(h:Dig l){p d:Nat}(e:d<4294967296):Dig (l.set p d):=fun x hx=>by
 rcases List.mem_or_eq_of_mem_set hx with g|rfl
 ·exact h x g
 ·exact e
theorem q0{l:List Nat}(h:Dig l){d:Nat}(e:d<4294967296):Dig (l++[d]):=fun x hx=>by
 rcases D1z.1 hx with g|g
 ·exact h x g
 ·rw[D10]at g;rw[g];exact e
theorem K4{l:List Nat}(h:Dig l){i:Nat}(d:i<l.length):l[i]<4294967296:=h _ (D1n d)
theorem B47(n:Nat):Dig (List.replicate n 0):=fun x hx=>by rw[(List.mem_replicate.1 hx).2];decide
def T6(L:List Nat)(n:Nat):List Nat:=L++List.replicate (n-L.length) 0
theorem A60(L:List Nat)(n:Nat)(h:L.length≤n):(T6 L n).length=n:=by simp[T6];omega
theorem q8(L:List Nat)(n d:Nat)(h:L.length<n):(T6 L n).set L.length d=T6 (L++[d]) n:=by
 unfold T6;rw[List.set_append_right _ _ (D1t _),Nat.sub_self,D1f,D1h];have e:n-L.length=(n-(L.length+1))+1:=by omega
 rw[e,List.replicate_succ,List.set_cons_zero,D2N];rfl
theorem A61(n:Nat):T6 [] n=List.replicate n 0:=by simp[T6]
theorem A4s(L:List Nat)(n:Nat)(h:L.length=n):T6 L n=L:=by simp[T6,h]
def A32(L:List Nat)(n:Nat):List Nat:=List.replicate (n-L.length) 0++L
theorem B62(L:List Nat)(n:Nat)(h:L.length≤n):(A32 L n).length=n:=by simp[A32];omega
theorem B63(L:List Nat)(n d k:Nat)(h:L.length+k+1=n):(A32 L n).set k d=A32 (d::L) n:=by
 unfold A32;have e:n-L.length=k+1:=by omega
 have e2:n-(d::L).length=k:=by simp;omega
 rw[e,e2,List.replicate_succ',D2N,List.set_append_right _ _ (by simp)];simp
theorem B64(n:Nat):A32 [] n=List.replicate n 0:=by simp[A32]
theorem B48(L:List Nat)(n:Nat)(h:L.length=n):A32 L n=L:=by simp[A32,h]
theorem B65{b r V A x:Nat}(hb:0<b)(h:V*b+r=A):((r*4294967296+x) / b+4294967296*V)*b+(r*4294967296+x) % b=x+4294967296*A:=by
 have e:=Nat.div_add_mod (r*4294967296+x) b;have e1:(r*4294967296+x) / b*b=b*((r*4294967296+x) / b):=Nat.mul_comm _ _;have e2:4294967296*A=4294967296*V*b+4294967296*r:=by rw[←h,Nat.mul_add,Nat.mul_assoc]
 have e3:r*4294967296=4294967296*r:=Nat.mul_comm _ _;rw[Nat.add_mul,e2];omega
theorem C0J{b r V A:Nat}(hb:r<b)(h:V*b+r=A):A / b=V∧A % b=r:=by
 subst h;constructor
 ·rw[Nat.mul_comm,Nat.mul_add_div (by omega),Nat.div_eq_of_lt hb,Nat.add_zero]
 ·rw[Nat.mul_comm,Nat.mul_add_mod,D2a hb]
theorem B66(l:List Nat)(p i j s x y c T A:Nat)(h:p<l.length)(hp:p=i+j)(hv:F0 l+4294967296 ^ p*c=T+4294967296 ^ i*x*A)(hs:s=c+(x*y+l[p])):
  F0 (l.set p (s % 4294967296))+4294967296 ^ (p+1)*(s / 4294967296)=T+4294967296 ^ i*x*(A+4294967296 ^ j*y):=by
 have e1:=B06 l p (s % 4294967296) h;have e2:4294967296 ^ (p+1)*(s / 4294967296)=4294967296 ^ p*(4294967296*(s / 4294967296)):=by rw[Nat.pow_succ,Nat.mul_assoc]
 have e3:4294967296 ^ p*(s % 4294967296)+4294967296 ^ p*(4294967296*(s / 4294967296))=4294967296 ^ p*c+4294967296 ^ p*(x*y)+4294967296 ^ p*l[p]:=by
  rw[←Nat.mul_add,Nat.mod_add_div,hs,Nat.mul_add,Nat.mul_add,Nat.add_assoc]
 have d:4294967296 ^ i*x*(4294967296 ^ j*y)=4294967296 ^ p*(x*y):=by
  rw[hp,Nat.pow_add];simp only[Nat.mul_assoc,Nat.mul_left_comm,Nat.mul_comm]
 rw[Nat.mul_add,d,e2];omega
theorem C0K(l:List Nat)(p c T X:Nat)(h:p<l.length)(d:l[p]=0)(hv:F0 l+4294967296 ^ p*c=T+X):F0 (l.set p c)=T+X:=by
 have e1:=B06 l p c h;rw[d,Nat.mul_zero]at e1;omega
theorem C39{x y o c:Nat}(hx:x<4294967296)(d:y<4294967296)(ho:o<4294967296)(hc:c<4294967296):c+(x*y+o)<18446744073709551616∧x*y<18446744073709551616:=by
 have:=Nat.mul_le_mul (show x≤4294967295 by omega) (show y≤4294967295 by omega);constructor<;>omega
end Go.Lin
namespace Go.Lin
open Go Go.Av Go.Lexs
def nilL:LinV:=⟨[],0,false⟩
def B07(l:List LTm)(s:ByteArray):Int:=match l with
 | []=>0
 |t::l=>if t.v=s then t.c else B07 l s
theorem B2j{l:List LTm}(h:X3 l=true):l.Pairwise fun x y=>X2 x.v y.v=true:=by
 have key: ∀(j i:Nat) (d:i<l.length) (g:i+j+1<l.length),X2 l[i].v l[i+j+1].v=true:=by
  intro j
  induction j with
  |zero=>intro i d g;exact(A2G h g).2.2.2 (by omega) (by omega)
  |succ j m=>intro i d g;exact a7 (m i d (by omega)) ((A2G h g).2.2.2 (by omega) (by omega))
 rw[List.pairwise_iff_getElem];intro i j d g o;have:=key (j-i-1) i d (by omega);have e:i+(j-i-1)+1=j:=by omega
 simp only[e]at this;exact this
def C4A(a:LinV)(n:Int):LinV:=⟨if n=0 then []else a.t.map fun t=>⟨t.v,t.c*n⟩,a.k*n,a.e⟩
def B2k(a:LinV)(n:Int):Bool:=decide (n=0)||(decide (0<n)&& !a.e)
def okV(l:List VlV)(i:Nat):Bool:=G5 (B (l.getD i default).v)&&(decide (i=0)||X2 (l.getD (i-1) default).v (l.getD i default).v)&&J9 (l.getD i default).n 2147483647
def N8(l:List VlV):Bool:=(List.range l.length).all (okV l)&&decide (l.length≤24)
def P9(l:List VlV)(s:ByteArray):Option Int:=match l with
 | []=>none
 |x::l=>if x.v=s then some x.n else P9 l s
def U7(k:Int)(l:List LTm)(vs:List VlV):Option Int:=match l with
 | []=>some k
 |t::l=>match P9 vs t.v with
  |none=>none
  |some n=>U7 (k+t.c*n) l vs
theorem B49{l:List VlV}{s:ByteArray}(h: ∀x∈l,x.v≠s):P9 l s=none:=by
 induction l with
 |nil=>rfl
 |cons x l d=>rw[P9,if_neg (h x (D1k ..)),d (fun y e=>h y (D1r _ e))]
theorem A9O{l:List VlV}(h:N8 l=true){i:Nat}(j:i<l.length):G5 (B l[i].v)=true∧l[i].n.natAbs≤2147483647∧(∀d:i-1<l.length,0<i→X2 l[i-1].v l[i].v=true):=by
 unfold N8 at h;rw[D1m]at h;have:=D2A.1 h.1 i (List.mem_range.2 j);unfold okV J9 at this;have e:l.getD i default=l[i]:=by simp[j]
 have e2: ∀d:i-1<l.length,l.getD (i-1) default=l[i-1]:=fun d=>by simp[d]
 rw[e]at this;simp only[D1m,D2w,D1v]at this;refine⟨this.1.1,by omega,fun d m=>?_⟩;rcases this.1.2 with g|g
 ·omega
 ·rw[e2 d]at g;exact g
theorem A78{l:List VlV}(h:N8 l=true): ∀(i j:Nat) (d:i<l.length) (g:j<l.length),i<j→X2 l[i].v l[j].v=true:=by
 have key: ∀(j i:Nat) (d:i<l.length) (g:i+j+1<l.length),X2 l[i].v l[i+j+1].v=true:=by
  intro j
  induction j with
  |zero=>intro i d g;exact(A9O h g).2.2 (by omega) (by omega)
  |succ j m=>intro i d g;exact a7 (m i d (by omega)) ((A9O h g).2.2 (by omega) (by omega))
 intro i j d g o;have:=key (j-i-1) i d (by omega);have e:i+(j-i-1)+1=j:=by omega
 simp only[e]at this;exact this
theorem A9P{l:List VlV}(h:N8 l=true){s:ByteArray}{i:Nat}(r:i≤l.length)(h1: ∀(k:Nat) (hk:k<l.length),k<i→X2 l[k].v s=true)(o: ∀hk:i<l.length,X2 l[i].v s=false):
  P9 l s=if hk:i<l.length then(if l[i].v=s then some l[i].n else none)else none:=by
 have key: ∀(m:List VlV) (i:Nat),(∀(k:Nat) (hk:k<m.length),k<i→m[k].v≠s)→(∀(k:Nat) (hk:k<m.length),i<k→m[k].v≠s)→P9 m s=if hk:i<m.length then(if m[i].v=s then some m[i].n else none)else none:=by
  intro m
  induction m with
  |nil=>intro i _ _;simp[P9]
  |cons x m p=>
   intro i a b;rw[P9];cases i with
   |zero=>
    have e:P9 m s=none:=B49 fun y q=>by
     obtain⟨k,hk,rfl⟩:=List.getElem_of_mem q;exact b (k+1) (by simpa using hk) (by omega)
    rw[e];simp
   |succ i=>
    rw[if_neg (show¬x.v=s from a 0 (by simp) (by omega)),p i (fun k hk d=>a (k+1) (by simpa using hk) (by omega)) (fun k hk d=>b (k+1) (by simpa using hk) (by omega))];simp
 refine key l i (fun k hk d e=>?_) (fun k hk d e=>?_)
 ·have:=h1 k hk d;rw[e,y5]at this;cases this
 ·have g:=A78 h i k (by omega) hk d;have j:=o (by omega);rw[e]at g;rw[g]at j;cases j
structure Row where
 c:List Int
 k:Int
 eq:Bool
 deriving DecidableEq
instance :Inhabited Row:=⟨⟨[],0,false⟩⟩
def X4(l:List Int)(i:Nat):Int:=l.getD i 0
def A2J(x:Row)(a:Int)(y:Row)(b:Int):Row:=⟨List.zipWith (fun p q=>p*a+q*b) x.c y.c,x.k*a+y.k*b,x.eq⟩
def gcdR(l:List Int):Nat:=l.foldl (fun g c=>Nat.gcd c.natAbs g) 0
def Z1:List Row→Option (List Row)
 | []=>some []
 |r::l=>
  let g:=gcdR r.c
  if g=0 then(if r.k<0∨(r.eq=true∧0<r.k)then none else Z1 l)
  else if g=1 then(Z1 l).map (r:: ·)
  else
   let k:=r.k.fdiv g
   if r.eq=true∧k*g-r.k≠0 then none
   else(Z1 l).map (⟨r.c.map (Int.fdiv · g),k,r.eq⟩:: ·)
def A4t(a b:Row)(sign:Int):Bool:=a.c==b.c.map (· *sign)
def A33(r:Row):List Row→List Row
 | []=>[r]
 |s::l=>if r.eq=false∧s.eq=false∧A4t r s 1=true then(if r.k<s.k then {s with k:=r.k}else s)::l else s::A33 r l
def pairs1(l:List Row):List Row:=l.foldl (fun out r=>A33 r out) []
def A5v(r:Row):List Row→Option Row
 | []=>some r
 |s::l=>if r.eq=true∨s.eq=true∨A4t r s (-1)=false then A5v r l
  else if r.k+s.k<0 then none else if r.k+s.k=0 then A5v {r with eq:=true} l else A5v r l
def A0W:List Row→List Row→Option (List Row)
 |done,[]=>some done
 |done,r::l=>match A5v r done with
  |none=>none
  |some r'=>A0W (done++[r']) l
def B08(l:List Row):Option (List Row):=(Z1 l).bind fun l=>A0W [] (pairs1 l)
def A62(c:List Int):List Int→Nat→Option Nat→Option Nat
 | [],_,b=>b
 |x::l,i,b=>A62 c l (i+1) (if x≠0∧(match b with|none=>true|some j=>decide (x.natAbs<(X4 c j).natAbs))=true then some i else b)
def A4u(r:Row):Option Nat:=A62 r.c r.c 0 none
def T7(e:Row)(k:Nat)(r:Row):Row:=if X4 r.c k=0 then r else A2J r 1 e (-(X4 r.c k*X4 e.c k))
def A1B(a b:Int):Int:=a-b*Int.fdiv (a*2+b) (b*2)
def A28(r:Row):Row:={r with c:=r.c++[0]}
def A0D(l:List Row)(i:Nat):List Row:=
 let e:=l.getD i default
 let rest:=l.take i++l.drop (i+1)
 let k:=(A4u e).getD 0
 if(X4 e.c k).natAbs=1 then rest.map (T7 e k)
 else
  let m:Int:=(X4 e.c k).natAbs+1
  let f:Row:=⟨e.c.map (A1B · m)++[-m],A1B e.k m,true⟩
  ((rest++[e]).map A28).map (T7 f k)
def J0(l:List Row)(k:Nat):List Row:=l.filter fun r=>decide (0<X4 r.c k)
def F9(l:List Row)(k:Nat):List Row:=l.filter fun r=>decide (X4 r.c k<0)
def V1(l:List Row)(k:Nat):List Row:=l.filter fun r=>decide (X4 r.c k=0)
def A2K(l:List Row)(k:Nat):Bool:=l.all fun r=>(X4 r.c k).natAbs==1
structure Ch where
 best:Option Nat
 sure:Bool
 cost:Int
def A34(l:List Row)(b:Ch)(k:Nat):Ch:=
 let low:=J0 l k;let high:=F9 l k
 if low.length+high.length=0 then b
 else
  let ex:=A2K low k||A2K high k
  let n:Int:=(low.length:Int)*high.length-low.length-high.length
  if b.best=none∨(ex=true∧b.sure=false)∨(ex=b.sure∧n<b.cost)then⟨some k,ex,n⟩else b
def j9(l:List Row):Ch:=(List.range (l.headD default).c.length).foldl (A34 l) ⟨none,false,0⟩
def A1g(a b:Row)(k:Nat)(dark:Bool):Row:=
 let p:=X4 a.c k;let q:= -(X4 b.c k)
 let r:=A2J a q b p
 if dark then {r with k:=r.k-(p-1)*(q-1)}else r
def A2r(l:List Row)(k:Nat)(dark:Bool):List Row:=V1 l k++(J0 l k).flatMap fun a=>(F9 l k).map fun b=>A1g a b k dark
def C2T(n:Nat)(r:Row):Bool:=r.c.length==n&&r.c.all (fun x=>x.natAbs<2^30)&&decide (r.k.natAbs<2^62)
def A9Q(l:List Row):Bool:=decide (l.length<10000)&&match l with| []=>true|r::_=>decide (r.c.length<1000)&&l.all (C2T r.c.length)
def A5c:Nat→List Row→Option Bool
 |0,_=>none
 |n+1,l=>if A9Q l=true then match B08 l with
   |none=>some false
   |some []=>some true
   |some (r::l')=>if A9Q (r::l')=true then match (r::l').findIdx? (·.eq)with
    |some i=>if(A4u ((r::l').getD i default)).isSome=true then A5c n (A0D (r::l') i)else none
    |none=>match j9 (r::l')with
     |⟨some k,true,_⟩=>A5c n (A2r (r::l') k false)
     |_=>none
    else none
  else none
def A79(n i:Nat)(s:Int):List Int:=(List.range n).map fun j=>if j=i then s else 0
def C4B(n i:Nat):List Row:=[⟨A79 n i 1,2147483647,false⟩,⟨A79 n i (-1),2147483647,false⟩]
def C7s(names:List ByteArray)(a:LinV):Row:=⟨names.map (B07 a.t),a.k,a.e⟩
def B09(l:List LinV)(names:List ByteArray):List Row:=l.map (C7s names)++(List.range names.length).flatMap (C4B names.length)
def C2U(l:List LinV):Option Bool:=A5c 100 (B09 l (A2E l))
def X5(s:ByteArray)(n:Int):LinV:=⟨[⟨s,1⟩],-n,false⟩
def y8(s:ByteArray)(n:Int):LinV:=⟨[⟨s,-1⟩],n,false⟩
def A35(can:List LinV→Option Bool)(s:ByteArray):Nat→Int→Int→Option Int
 |0,_,_=>none
 |f+1,low,high=>if low<high then
   match can [X5 s (-((low+high).tdiv 2)),y8 s ((low+high).tdiv 2)]with
   |none=>none
   |some true=>A35 can s f low ((low+high).tdiv 2)
   |some false=>A35 can s f ((low+high).tdiv 2+1) high
  else some low
def B67(can:List LinV→Option Bool)(s:ByteArray):Option Int:=match A35 can s 40 0 2147483647 with
 |none=>none
 |some low=>if 0<low then(match can [X5 s low,y8 s low]with
   |none=>none
   |some true=>some low
   |some false=>some (-low))else some low
def D03(c:LinV):LinV:={C4A c (-1)with k:=c.k* -1-1,e:=false}
end Go.Lin
namespace Go.Lin
open Go Go.Av
theorem C4C(n:Nat):Y8 n= .sl 1 (Rw F5 (B4 n)):=rfl
abbrev C4(n:Int):List D:=[.bool (decide (n<0)),.sl 1 (Rw F5 (B4 n.natAbs))]
theorem C4D(n:Int):C4 n= [.bool (decide (n<0)),.sl 1 (Rw F5 (B4 n.natAbs))]:=rfl
abbrev C5(r:Row):List D:=[.sl 2 (Rw C4 r.c),.bool (decide (r.k<0)),.sl 1 (Rw F5 (B4 r.k.natAbs)),.bool r.eq]
theorem B68(r:Row):C5 r= [.sl 2 (Rw C4 r.c),.bool (decide (r.k<0)),.sl 1 (Rw F5 (B4 r.k.natAbs)),.bool r.eq]:=rfl
end Go.Lin
namespace Go.Proofs.YtibphjonmikciaaGreatDoor
open Go Go.Av Go.RowKit Go.Lin
theorem q9{Q}(s:ByteArray)(c:Int)(H:Heap)(h:Q (.int .i64 (Lib.indexByte (B s) c.toNat.toUInt8)) H):D8 138 [.str s,.int .u8 c] H Q:=
 H7 (by kernel_rfl) (fun w vs hl hr hs=>by
  obtain⟨a,b,rfl,d,hb⟩:=m0 hl hr;rw[d.str_inv,hb.int_inv];refine(Tryz.strings_IndexByte s c w).mono fun e w' ⟨he,hw⟩=>?_;subst hw;exact⟨_,he,Below.refl _ _,.int _ _⟩) h
theorem B1A{Q}(s p:ByteArray)(H:Heap)(h:Q (.bool ((B p).isPrefixOf (B s))) H):D8 186 [.str s,.str p] H Q:=
 H7 (by kernel_rfl) (fun w vs hl hr hs=>by
  obtain⟨a,b,rfl,d,hb⟩:=m0 hl hr;rw[d.str_inv,hb.str_inv];refine(Tryz.strings_HasPrefix s p w).mono fun e w' ⟨he,hw⟩=>?_;subst hw;exact⟨_,he,Below.refl _ _,.bool _⟩) h
theorem A9R{Q}(s p:ByteArray)(H:Heap)(h:Q (.str (S (Lib.trimPrefix (B s) (B p)))) H):D8 185 [.str s,.str p] H Q:=
 H7 (by kernel_rfl) (fun w vs hl hr hs=>by
  obtain⟨a,b,rfl,d,hb⟩:=m0 hl hr;rw[d.str_inv,hb.str_inv];refine(Tryz.strings_TrimPrefix s p w).mono fun e w' ⟨he,hw⟩=>?_;subst hw;exact⟨_,he,Below.refl _ _,.str _⟩) h
theorem A9S{Q}(s p:ByteArray)(hsz:s.size≤1000000000000)(H:Heap)(h:Q (.str (S (Lib.trimSuffix (B s) (B p)))) H):D8 148 [.str s,.str p] H Q:=
 H7 (by kernel_rfl) (fun w vs hl hr hs=>by
  obtain⟨a,b,rfl,d,hb⟩:=m0 hl hr;rw[d.str_inv,hb.str_inv];refine(Tryz.strings_TrimSuffix s p w (by omega)).mono fun e w' ⟨he,hw⟩=>?_;subst hw;exact⟨_,he,Below.refl _ _,.str _⟩) h
theorem B1B{Q}(s p:ByteArray)(hsz:s.size≤1000000000000)(H:Heap)(h:Q (.bool (Lib.hasSuffix (B s) (B p))) H):D8 149 [.str s,.str p] H Q:=
 H7 (by kernel_rfl) (fun w vs hl hr hs=>by
  obtain⟨a,b,rfl,d,hb⟩:=m0 hl hr;rw[d.str_inv,hb.str_inv];refine(Tryz.strings_HasSuffix s p w (by omega)).mono fun e w' ⟨he,hw⟩=>?_;subst hw;exact⟨_,he,Below.refl _ _,.bool _⟩) h
theorem B1C{Q}(s p:ByteArray)(hsz:s.size≤1000000000000)(H:Heap)(h:Q (.tuple [.str (S (Lib.trimSuffix (B s) (B p))),.bool (Lib.hasSuffix (B s) (B p))]) H):D8 147 [.str s,.str p] H Q:=
 H7 (by kernel_rfl) (fun w vs hl hr hs=>by
  obtain⟨a,b,rfl,j,hb⟩:=m0 hl hr;rw[j.str_inv,hb.str_inv];refine(Tryz.strings_CutSuffix s p w (by omega)).mono fun e w' ⟨he,hw⟩=>?_;subst hw;exact⟨_,he,Below.refl _ _,.tuple _ _ rfl fun i d g=>(match i,g with|0,g=>by simp at g;subst g;exact .str _|1,g=>by simp at g;subst g;exact .bool _|i+2,g=>by simp at g)⟩) h
theorem B5A{Q}(s p:ByteArray)(H:Heap)(h:Q (.int .i64 (Lib.compareBytes (B s) (B p))) H):D8 106 [.str s,.str p] H Q:=
 H7 (by kernel_rfl) (fun w vs hl hr hs=>by
  obtain⟨a,b,rfl,d,hb⟩:=m0 hl hr;rw[d.str_inv,hb.str_inv];refine(Tryz.strings_Compare s p w).mono fun e w' ⟨he,hw⟩=>?_;subst hw;exact⟨_,he,Below.refl _ _,.int _ _⟩) h
structure Tabs(H:Heap):Prop where
 pow:H 1=some (.ro (B0q .u64 Lib.pow10Tab))
 syn: ∃t,H 2=some (.ro [.iface t .undef])
 rng: ∃t,H 3=some (.ro [.iface t .undef])
theorem Tabs.le{H H':Heap}(h:Tabs H)(hl:H.Le H'):Tabs H':=⟨hl _ _ h.pow,let ⟨t,e⟩:=h.syn;⟨t,hl _ _ e⟩,let ⟨t,e⟩:=h.rng;⟨t,hl _ _ e⟩⟩
theorem A1h{Q}(n:Int)(i: -9223372036854775808≤n)(h1:n≤9223372036854775807)(H:Heap)(j:Tabs H)(h:Q (.str (S (Lib.itoa n))) H):D8 142 [.int .i64 n] H Q:=
 H7 (by kernel_rfl) (fun w vs d hr hs=>by
  obtain⟨a,rfl,m⟩:=A2C d hr;rw[m.int_inv];refine(Tryz.strconv_Itoa n i h1 w (B6k (g:=1) (by kernel_rfl) hs j.pow)).mono fun e w' ⟨he,k,os,hw⟩=>?_;subst hw;exact⟨_,he,B2e _ _ _,.str _⟩) h
end Go.Proofs.YtibphjonmikciaaGreatDoor
namespace Go.Lin
open Go Go.Av Go.Lexs
theorem V2(s:ByteArray)(i:Nat)(h:i<s.size):(E7 s).getD i []= [.int .u8 (I3 (B s) i)]:=by
 have d:i<s.data.toList.length:=by rw[D2Q];exact h
 unfold E7 I3 B;rw[List.getD_eq_getElem?_getD,D1w,List.getD_eq_getElem?_getD,D1q d];rfl
theorem A3R(s:ByteArray)(i:Nat)(h:i<s.size):(E7 s)[i]? =some [.int .u8 (I3 (B s) i)]:=by
 have d:i<s.data.toList.length:=by rw[D2Q];exact h
 unfold E7 I3 B;rw[D1w,List.getD_eq_getElem?_getD,D1q d];rfl
theorem A3S(s:ByteArray):(E7 s).length=s.size:=by unfold E7;rw[D2I,D2Q];rfl
def A9T:List UInt8:=[43,45,42,60,62,61]
theorem A5d{x:Int}(d:33≤x)(h1:x≤126):decide (0≤Lib.indexByte A9T x.toNat.toUInt8)= !R3 x:=by
 obtain⟨n,rfl⟩: ∃n:Nat,x=n:=⟨x.toNat,by omega⟩
 have key: ∀n:Fin 127,33≤n.val→decide (0≤Lib.indexByte A9T (n.val:Int).toNat.toUInt8)= !R3 (n.val:Int):=by decide+kernel
 exact key ⟨n,by omega⟩ (by simpa using(by omega:33≤n))
end Go.Lin
namespace Go.Proofs.YtibphjonmikciaaGreatDoor
open Go Go.Av Go.Lexs Go.Lin
attribute [local irreducible] ACalls Q4
theorem X6{Q}(n m:Int)(e: -9223372036854775807≤m)(h1:m≤9223372036854775807)(H:Heap)(h:Q (.bool (J9 n m)) H):D8 103 [.int .i64 n,.int .i64 m] H Q:=by
 refine A8 [] A5 Tryz.func103 rfl ?_;simp only[go_sem,seval,Tryz.results103];unfold J9 at h;have w:IntKind.i64.wrap (0-m)= -m:=by rw[A4 (by omega) (by omega)];omega
 repeat' (first|with_reducible apply D1Z|simp only[go_sem,seval,w]|intro d)
 all_goals exact D22 (by simpa [*]using h)
theorem O9{Q}(s:ByteArray)(H:Heap)(h:Q (.bool (G5 (B s))) H):D8 102 [.str s] H Q:=by
 refine A8 [] A5 Tryz.func102 rfl ?_;simp only[go_sem,seval,Tryz.results102];have hl:=M8 s;have j:=A3S s;have C:Q4 s 0=I3 (B s) 0:=A3u s;by_cases hv:B s≠[]∧s.size≤200∧O6 (I3 (B s) 0)=false
 ·obtain⟨v1,v2,v3⟩:=hv;have I: ¬((200:Int)<s.size):=by omega
  have v4: ¬(48≤I3 (B s) 0∧I3 (B s) 0≤57):=fun g=>by have:=(U6 _).2 g;rw[this]at v3;cases v3
  have vs:0<s.size:=by have:=List.length_pos_iff.2 v1;omega
  have o:(0:Int)<s.size:=by omega
  have L:G5 (B s)=(B s).all (ofB R3):=by unfold G5;rw[D1b v1,v3,D1b (by omega)];rfl
  rw[L]at h;by_cases M:48≤I3 (B s) 0
  ·have T: ¬I3 (B s) 0≤57:=fun g=>v4 ⟨M,g⟩;repeat' (first|with_reducible apply D1Z|simp only[go_sem,seval,v1,I,o,C,M,T,decide_true,decide_false])
   refine A7z _ _ _ (by kernel_rfl) (by kernel_rfl) ?_;repeat' (first|simp only[go_sem,seval]|intro p)
   rename_i b;have hb:=p;clear p;refine C2 [23,24] (fun(i:Nat)=>[(25,.int .i64 i)]) (fun(i:Nat)=>H.set b (.vec 1 (E7 s))) (fun(i:Nat)=>i≤s.size∧((B s).take i).all (ofB R3)=true) (fun(i:Nat)=>s.size-i) (0) (⟨D1u _,by simp⟩) (by simp only[go_sem,seval]) (D20 _) ?_;rintro U rfl i ⟨V,e⟩;by_cases q:i<s.size
   ·have d:decide ((i:Int)<s.size)=true:=D1b (by omega);have r:i<(B s).length:=by omega
    have u:=A3R s i q;have y:=V2 s i q;obtain⟨x,hx⟩: ∃x,x=I3 (B s) i:=⟨_,rfl⟩
    have bad:R3 x=false→(B s).all (ofB R3)=false:=fun g=>y4 R3 (B s) i r (by rw[←hx];exact g);rw[←hx]at u y;have O:decide ((i:Int)<(E7 s).length)=true:=D1b (by rw[A3S];omega);by_cases z:x<33
    ·rw[bad (A3y (by omega))]at h;repeat' (first|with_reducible apply D1Z|simp only[go_sem,seval,d,u,y,j,z,decide_true]|omega)
     exact D21 (A2 hb) h
    ·by_cases G:126<x
     ·rw[bad (A3y (by omega))]at h;repeat' (first|with_reducible apply D1Z|simp only[go_sem,seval,d,u,y,j,z,G,decide_true,decide_false]|omega)
      exact D21 (A2 hb) h
     ·have A:=A5d (x:=x) (by omega) (by omega);have J:B ({data:= #[43,45,42,60,62,61]}:ByteArray)=A9T:=rfl;by_cases m:R3 x=true
      ·rw[m]at A;repeat' (first|with_reducible apply D1Z|simp only[go_sem,seval,d,u,y,j,z,G,J,A,decide_true,decide_false]|simp(disch:=omega) only[A4,V2]|with_reducible refine q9 _ _ _ ?_|omega)
       exact C1 (i+1) ⟨by omega,by rw[j8 _ _ _ r,e,←hx,m];rfl⟩ (by omega) (by(try simp only[go_sem,seval])<;>(try simp(disch:=omega) [A4])) (D20 _)
      ·have m:R3 x=false:=by simpa using m
       rw[m]at A;rw[bad m]at h;repeat' (first|with_reducible apply D1Z|simp only[go_sem,seval,d,u,y,j,z,G,J,A,decide_true,decide_false]|with_reducible refine q9 _ _ _ ?_|omega)
       exact D21 (A2 hb) h
   ·have d:decide ((i:Int)<s.size)=false:=D1c (by omega);rw[D1o (by omega)]at e;rw[e]at h;repeat' simp only[go_sem,seval,d]
    exact D21 (A2 hb) h
  ·repeat' (first|with_reducible apply D1Z|simp only[go_sem,seval,v1,I,o,C,M,decide_true,decide_false])
   refine A7z _ _ _ (by kernel_rfl) (by kernel_rfl) ?_;repeat' (first|simp only[go_sem,seval]|intro p)
   rename_i b;have hb:=p;clear p;refine C2 [23,24] (fun(i:Nat)=>[(25,.int .i64 i)]) (fun(i:Nat)=>H.set b (.vec 1 (E7 s))) (fun(i:Nat)=>i≤s.size∧((B s).take i).all (ofB R3)=true) (fun(i:Nat)=>s.size-i) (0) (⟨D1u _,by simp⟩) (by simp only[go_sem,seval]) (D20 _) ?_;rintro U rfl i ⟨V,e⟩;by_cases q:i<s.size
   ·have d:decide ((i:Int)<s.size)=true:=D1b (by omega);have r:i<(B s).length:=by omega
    have u:=A3R s i q;have y:=V2 s i q;obtain⟨x,hx⟩: ∃x,x=I3 (B s) i:=⟨_,rfl⟩
    have bad:R3 x=false→(B s).all (ofB R3)=false:=fun g=>y4 R3 (B s) i r (by rw[←hx];exact g);rw[←hx]at u y;have O:decide ((i:Int)<(E7 s).length)=true:=D1b (by rw[A3S];omega);by_cases z:x<33
    ·rw[bad (A3y (by omega))]at h;repeat' (first|with_reducible apply D1Z|simp only[go_sem,seval,d,u,y,j,z,decide_true]|omega)
     exact D21 (A2 hb) h
    ·by_cases G:126<x
     ·rw[bad (A3y (by omega))]at h;repeat' (first|with_reducible apply D1Z|simp only[go_sem,seval,d,u,y,j,z,G,decide_true,decide_false]|omega)
      exact D21 (A2 hb) h
     ·have A:=A5d (x:=x) (by omega) (by omega);have J:B ({data:= #[43,45,42,60,62,61]}:ByteArray)=A9T:=rfl;by_cases m:R3 x=true
      ·rw[m]at A;repeat' (first|with_reducible apply D1Z|simp only[go_sem,seval,d,u,y,j,z,G,J,A,decide_true,decide_false]|simp(disch:=omega) only[A4,V2]|with_reducible refine q9 _ _ _ ?_|omega)
       exact C1 (i+1) ⟨by omega,by rw[j8 _ _ _ r,e,←hx,m];rfl⟩ (by omega) (by(try simp only[go_sem,seval])<;>(try simp(disch:=omega) [A4])) (D20 _)
      ·have m:R3 x=false:=by simpa using m
       rw[m]at A;rw[bad m]at h;repeat' (first|with_reducible apply D1Z|simp only[go_sem,seval,d,u,y,j,z,G,J,A,decide_true,decide_false]|with_reducible refine q9 _ _ _ ?_|omega)
       exact D21 (A2 hb) h
   ·have d:decide ((i:Int)<s.size)=false:=D1c (by omega);rw[D1o (by omega)]at e;rw[e]at h;repeat' simp only[go_sem,seval,d]
    exact D21 (A2 hb) h
 ·have W:G5 (B s)=false:=by
   rw[←D2v];intro g;unfold G5 at g;simp only[D1m,D1v,Bool.not_eq_true']at g;exact hv ⟨g.1.1.1,by omega,g.1.2⟩
  rw[W]at h;by_cases v1:B s= []
  ·repeat' (first|with_reducible apply D1Z|simp only[go_sem,seval,v1,decide_true])
   exact D22 h
  ·have o:(0:Int)<s.size:=by have:=List.length_pos_iff.2 v1;omega
   by_cases v2:(200:Int)<s.size
   ·repeat' (first|with_reducible apply D1Z|simp only[go_sem,seval,v1,v2,o,decide_true,decide_false])
    exact D22 h
   ·have v3:48≤I3 (B s) 0∧I3 (B s) 0≤57:=by
     rw[←U6];cases g:O6 (I3 (B s) 0)with
     |true=>rfl
     |false=>exact absurd ⟨v1,by omega,g⟩ hv
    repeat' (first|with_reducible apply D1Z|simp only[go_sem,seval,v1,v2,o,C,v3.1,v3.2,decide_true,decide_false])
    exact D22 h
theorem A0i{Q}(s:ByteArray)(hs:s.size≤4611686018427387904)(H:Heap)(h:Q (.bool (G5 (B s))) H):D8 111 [.str s] H Q:=by
 refine A8 [] A5 Tryz.func111 rfl ?_;simp only[go_sem,seval,Tryz.results111];have hl:=M8 s;have q:Q4 s 0=I3 (B s) 0:=A3u s;refine C2 [0] (fun(i:Nat)=>[(3,.int .i64 i)]) (fun(i:Nat)=>H) (fun(i:Nat)=>i≤s.size∧((B s).take i).all (ofB R3)=true) (fun(i:Nat)=>s.size-i) (0) (⟨D1u _,by simp⟩) (by simp only[go_sem,seval]) (D20 _) ?_;rintro Ec rfl i ⟨hi,j⟩;by_cases L:i<s.size
 ·have d:decide ((i:Int)<s.size)=true:=D1b (by omega);have p:(i:Int)<s.size:=by omega
  have r:i<(B s).length:=by omega
  obtain⟨x,hx⟩: ∃x,x=I3 (B s) i:=⟨_,rfl⟩
  have m:Q4 s (i:Int)=x:=by rw[hx];exact A3t s i
  by_cases y:R3 x=true
  ·have c:=(A2n x).1 y;obtain⟨d1,d2,M,O,T,U,V,W⟩:=c;have z: ¬x<33:=by omega
   have A: ¬126<x:=by omega
   repeat' (first|with_reducible apply D1Z|simp only[go_sem,seval,d,p,m,z,A,M,O,T,U,V,W,decide_false]|simp(disch:=omega) only[A4]|omega)
   exact C1 (i+1) ⟨by omega,by rw[j8 _ _ _ r,j,←hx,y];rfl⟩ (by omega) (by(try simp only[go_sem,seval])<;>(try simp(disch:=omega) [A4])) (D20 _)
  ·have X:R3 x=false:=by simpa using y
   have Y:G5 (B s)=false:=by
    unfold G5;rw[y4 R3 (B s) i r (by rw[←hx];exact X),Bool.and_false]
   rw[Y]at h;have C:x<33∨126<x∨x=43∨x=45∨x=42∨x=60∨x=62∨x=61:=by
    have:=mt (A2n x).2 y;omega
   rcases C with g|g|g
   ·repeat' (first|with_reducible apply D1Z|simp only[go_sem,seval,d,p,m,g,decide_true]|omega)
    exact D22 h
   ·have g0: ¬x<33:=by omega
    repeat' (first|with_reducible apply D1Z|simp only[go_sem,seval,d,p,m,g0,g,decide_true,decide_false]|omega)
    exact D22 h
   ·rcases g with g|g|g|g|g|g<;>rw[g]at m
    all_goals
     repeat' (first|with_reducible apply D1Z|simp only[go_sem,seval,d,p,m,decide_true,decide_false]|omega)
     exact D22 h
 ·have d:decide ((i:Int)<s.size)=false:=D1c (by omega);rw[D1o (by omega)]at j;have G:G5 (B s)=(decide (B s≠[])&&decide ((B s).length≤200)&& !O6 (I3 (B s) 0)):=by unfold G5;rw[j,Bool.and_true]
  rw[G]at h;by_cases v1:B s= []
  ·have vs:s.size=0:=by rw[←hl,v1];rfl
   have e:(decide (B s≠[])&&decide ((B s).length≤200)&& !O6 (I3 (B s) 0))=false:=by rw[D1c (by simpa using v1)];rfl
   rw[e]at h;have o: ¬((1:Int)≤s.size):=by omega
   repeat' simp only[go_sem,seval,d,o,decide_false]
   all_goals exact D22 h
  ·have vs:0<s.size:=by have:=List.length_pos_iff.2 v1;omega
   have o:(1:Int)≤s.size:=by omega
   have u:(0:Int)<s.size:=by omega
   rw[D1b (show B s≠[]from v1)]at h;by_cases v2:(s.size:Int)≤200
   ·rw[D1b (show (B s).length≤200 by omega)]at h;by_cases I:I3 (B s) 0<48
    ·have e:O6 (I3 (B s) 0)=false:=by rw[←D2v,U6];omega
     rw[e]at h;repeat' simp only[go_sem,seval,d,o,u,v2,q,I,decide_true]
     all_goals exact D22 h
    ·have e:O6 (I3 (B s) 0)= !decide (57<I3 (B s) 0):=by
      by_cases J:57<I3 (B s) 0
      ·rw[D1b J];rw[show (!true)=false from rfl,←D2v,U6];omega
      ·rw[D1c J];rw[show (!false)=true from rfl,U6];omega
     rw[e]at h;repeat' simp only[go_sem,seval,d,o,u,v2,q,I,decide_true,decide_false]
     all_goals exact D22 (by simpa using h)
   ·rw[D1c (show¬(B s).length≤200 by omega)]at h;repeat' simp only[go_sem,seval,d,o,v2,decide_true,decide_false]
    all_goals exact D22 h
theorem A1i(P:Program)(t:TypeId)(c:Bool)(x y:ByteArray):L4 P .geq t c (.str x) (.str y)=some (.bool (!Op.bytesLess x.data.toList y.data.toList)):=rfl
theorem A9U{Q}(a:LinV)(M:S7 a)(H:Heap)(h:Q (.bool (validL a)) H):D8 96 [.agg (E4 a)] H Q:=by
 refine A8 [] A5 Tryz.func96 rfl ?_;simp only[go_sem,seval,Tryz.results96];intro C I;have e1:(H.set C (.box (E4 a))) C=some (.box (E4 a)):=A0 _ _;have J:H.Le (H.set C (.box (E4 a))):=A2 I;generalize H.set C (.box (E4 a))=Bs at e1 J⊢;have hlen:=M.len;repeat' (first|with_reducible apply D1Z|simp only[go_sem,seval,e1]|simp(disch:=omega) only[A4,A9]|simp(disch:=first|omega|grind) only[B3]|intro m|omega)
 refine C2 [1,6,7] (fun(i:Nat)=>[(8,.int .i64 i)]) (fun(i:Nat)=>Bs) (fun(i:Nat)=>i≤a.t.length∧(List.range i).all (A2D a.t)=true) (fun(i:Nat)=>a.t.length-i) (0) (⟨D1u _,rfl⟩) (by simp only[go_sem,seval]) (D20 _) ?_;rintro V rfl i ⟨W,r⟩;by_cases d:i<a.t.length
 ·have j:decide ((i:Int)<a.t.length)=true:=D1b (by omega);have T:(i:Int)<a.t.length:=by omega
  have U:=M.co _ (D1n d);have e:a.t.getD i default=a.t[i]:=by simp[d]
  have e2: ∀q:i-1<a.t.length,a.t.getD (i-1) default=a.t[i-1]:=fun q=>by simp[q]
  have o:A2D a.t i=(G5 (B a.t[i].v)&&(decide (i=0)||X2 (a.t.getD (i-1) default).v a.t[i].v)&&decide (a.t[i].c≠0)&&J9 a.t[i].c 1048576):=by unfold A2D;rw[e]
  have bad:A2D a.t i=false→validL a=false:=fun g=>by
   unfold validL X3;have:(List.range a.t.length).all (A2D a.t)=false:=by rw[List.all_eq_false];exact⟨i,List.mem_range.2 d,by rw[g];decide⟩
   rw[this];rfl
  by_cases n1:G5 (B a.t[i].v)=true
  ·by_cases n2:i=0
   ·have y: ¬((0:Int)<i):=by omega
    have p:(G5 (B a.t[i].v)&&(decide (i=0)||X2 (a.t.getD (i-1) default).v a.t[i].v))=true:=by rw[n1,D1b n2];rfl
    by_cases u:a.t[i].c=0
    ·rw[bad (by rw[o,p,u];simp)]at h;repeat' (first|with_reducible apply D1Z|simp only[go_sem,seval,j,e1,n1,A9 _ _ d,C0 _ _ d,y,u,decide_true,decide_false]|intro m|with_reducible refine O9 _ _ ?_|omega)
     exact D21 (by simp only[D7,C9,D0]at* <;>grind) h
    ·by_cases w:J9 a.t[i].c 1048576=true
     ·have z:A2D a.t i=true:=by rw[o,p,w,D1b (show a.t[i].c≠0 from u)];rfl
      repeat' (first|with_reducible apply D1Z|simp only[go_sem,seval,j,e1,n1,A9 _ _ d,C0 _ _ d,y,u,w,decide_true,decide_false]|simp(disch:=omega) only[A4,A9]|intro m|with_reducible refine O9 _ _ ?_|with_reducible refine X6 _ _ (by omega) (by omega) _ ?_|omega)
      exact C1 (i+1) ⟨by omega,by rw[List.range_succ,D2d,r];simp[z]⟩ (by omega) (by(try simp only[go_sem,seval])<;>(try simp(disch:=omega) [A4])) (by simp only[D7,C9,D0]at* <;>grind)
     ·have w:J9 a.t[i].c 1048576=false:=by simpa using w
      rw[bad (by rw[o,p,w,Bool.and_false])]at h;repeat' (first|with_reducible apply D1Z|simp only[go_sem,seval,j,e1,n1,A9 _ _ d,C0 _ _ d,y,u,w,decide_true,decide_false]|intro m|with_reducible refine O9 _ _ ?_|with_reducible refine X6 _ _ (by omega) (by omega) _ ?_|omega)
      exact D21 (by simp only[D7,C9,D0]at* <;>grind) h
   ·have q:i-1<a.t.length:=by omega
    have y:(0:Int)<i:=by omega
    have G:(i:Int)-1=((i-1:Nat):Int):=by omega
    have x:((i-1:Nat):Int)<a.t.length:=by omega
    by_cases l:X2 a.t[i-1].v a.t[i].v=true
    ·have p:(G5 (B a.t[i].v)&&(decide (i=0)||X2 (a.t.getD (i-1) default).v a.t[i].v))=true:=by rw[n1,e2 q,l,Bool.or_true];rfl
     have A:Op.bytesLess a.t[i-1].v.data.toList a.t[i].v.data.toList=true:=l;by_cases u:a.t[i].c=0
     ·rw[bad (by rw[o,p,u];simp)]at h;repeat' (first|with_reducible apply D1Z|simp only[go_sem,seval,j,e1,n1,A9 _ _ d,C0 _ _ d,y,G,x,A9 _ _ q,C0 _ _ q,A1i,A,D2x,D2y,u,decide_true,decide_false]|simp(disch:=omega) only[A4,A9]|simp(disch:=first|omega|grind) only[B3]|intro m|with_reducible refine O9 _ _ ?_|omega)
      exact D21 (by simp only[D7,C9,D0]at* <;>grind) h
     ·by_cases w:J9 a.t[i].c 1048576=true
      ·have z:A2D a.t i=true:=by rw[o,p,w,D1b (show a.t[i].c≠0 from u)];rfl
       repeat' (first|with_reducible apply D1Z|simp only[go_sem,seval,j,e1,n1,A9 _ _ d,C0 _ _ d,y,G,x,A9 _ _ q,C0 _ _ q,A1i,A,D2x,D2y,u,w,decide_true,decide_false]|simp(disch:=omega) only[A4,A9]|simp(disch:=first|omega|grind) only[B3]|intro m|with_reducible refine O9 _ _ ?_|with_reducible refine X6 _ _ (by omega) (by omega) _ ?_|omega)
       exact C1 (i+1) ⟨by omega,by rw[List.range_succ,D2d,r];simp[z]⟩ (by omega) (by(try simp only[go_sem,seval])<;>(try simp(disch:=omega) [A4])) (by simp only[D7,C9,D0]at* <;>grind)
      ·have w:J9 a.t[i].c 1048576=false:=by simpa using w
       rw[bad (by rw[o,p,w,Bool.and_false])]at h;repeat' (first|with_reducible apply D1Z|simp only[go_sem,seval,j,e1,n1,A9 _ _ d,C0 _ _ d,y,G,x,A9 _ _ q,C0 _ _ q,A1i,A,D2x,D2y,u,w,decide_true,decide_false]|simp(disch:=omega) only[A4,A9]|simp(disch:=first|omega|grind) only[B3]|intro m|with_reducible refine O9 _ _ ?_|with_reducible refine X6 _ _ (by omega) (by omega) _ ?_|omega)
       exact D21 (by simp only[D7,C9,D0]at* <;>grind) h
    ·have l:X2 a.t[i-1].v a.t[i].v=false:=by simpa using l
     have A:Op.bytesLess a.t[i-1].v.data.toList a.t[i].v.data.toList=false:=l;rw[bad (by rw[o,n1,e2 q,l,D1c n2];rfl)]at h;repeat' (first|with_reducible apply D1Z|simp only[go_sem,seval,j,e1,n1,A9 _ _ d,C0 _ _ d,y,G,x,A9 _ _ q,C0 _ _ q,A1i,A,D2x,D2y,decide_true,decide_false]|simp(disch:=omega) only[A4,A9]|simp(disch:=first|omega|grind) only[B3]|intro m|with_reducible refine O9 _ _ ?_|omega)
     exact D21 (by simp only[D7,C9,D0]at* <;>grind) h
  ·have n1:G5 (B a.t[i].v)=false:=by simpa using n1
   rw[bad (by rw[o,n1];rfl)]at h;repeat' (first|with_reducible apply D1Z|simp only[go_sem,seval,j,e1,n1,A9 _ _ d,C0 _ _ d]|intro m|with_reducible refine O9 _ _ ?_|omega)
   exact D21 (by simp only[D7,C9,D0]at* <;>grind) h
 ·have j:decide ((i:Int)<a.t.length)=false:=D1c (by omega);have L:i=a.t.length:=by omega
  subst L;have hv:validL a=(decide (a.t.length≤12)&&J9 a.k 1099511627776):=by unfold validL X3;rw[r];rfl
  rw[hv]at h;by_cases O:(a.t.length:Int)≤12
  ·rw[D1b (show a.t.length≤12 by omega)]at h;repeat' (first|simp only[go_sem,seval,j,e1,O,decide_true]|with_reducible refine X6 _ _ (by omega) (by omega) _ ?_)
   all_goals exact D21 (by simp only[D7,C9,D0]at* <;>grind) h
  ·rw[D1c (show¬a.t.length≤12 by omega)]at h;repeat' simp only[go_sem,seval,j,e1,O,decide_false]
   all_goals exact D21 (by simp only[D7,C9,D0]at* <;>grind) h
theorem A63{Q}(a:LinV)(J:S7 a)(H:Heap)(h:Q (.bool (validL a)) H):D8 101 [.agg (E4 a)] H Q:=by
 refine A8 [] A5 Tryz.func101 rfl ?_;simp only[go_sem,seval,Tryz.results101];intro A L;have e1:(H.set A (.box (E4 a))) A=some (.box (E4 a)):=A0 _ _;have p:H.Le (H.set A (.box (E4 a))):=A2 L;generalize H.set A (.box (E4 a))=Bs at e1 p⊢;have hlen:=J.len;by_cases C:(12:Int)<a.t.length
 ·have hv:validL a=false:=by unfold validL;rw[D1c (show¬a.t.length≤12 by omega)];simp
  rw[hv]at h;repeat' (first|with_reducible apply D1Z|simp only[go_sem,seval,e1,C,decide_true])
  exact D21 p h
 by_cases M:a.k< -1099511627776
 ·have hv:validL a=false:=by unfold validL J9;rw[D1c (show¬ -1099511627776≤a.k by omega)];simp
  rw[hv]at h;repeat' (first|with_reducible apply D1Z|simp only[go_sem,seval,e1,C,M,decide_true,decide_false])
  exact D21 p h
 by_cases U:1099511627776<a.k
 ·have hv:validL a=false:=by unfold validL J9;rw[D1c (show¬a.k≤1099511627776 by omega)];simp
  rw[hv]at h;repeat' (first|with_reducible apply D1Z|simp only[go_sem,seval,e1,C,M,U,decide_true,decide_false])
  exact D21 p h
 repeat' (first|with_reducible apply D1Z|simp only[go_sem,seval,e1,C,M,U,decide_true,decide_false])
 refine C2 [1,20,21] (fun(i:Nat)=>[(22,.int .i64 i)]) (fun(i:Nat)=>Bs) (fun(i:Nat)=>i≤a.t.length∧(List.range i).all (A2D a.t)=true) (fun(i:Nat)=>a.t.length-i) (0) (⟨D1u _,rfl⟩) (by simp only[go_sem,seval]) (D20 _) ?_;rintro Y rfl i ⟨hi,q⟩;by_cases d:i<a.t.length
 ·have j:decide ((i:Int)<a.t.length)=true:=D1b (by omega);have W:(i:Int)<a.t.length:=by omega
  have X:=J.co _ (D1n d);have hst:a.t[i].v.size≤4611686018427387904:=by have:=J.str _ (D1n d);omega
  have e:a.t.getD i default=a.t[i]:=by simp[d]
  have e2: ∀r:i-1<a.t.length,a.t.getD (i-1) default=a.t[i-1]:=fun r=>by simp[r]
  have m:A2D a.t i=(G5 (B a.t[i].v)&&(decide (i=0)||X2 (a.t.getD (i-1) default).v a.t[i].v)&&decide (a.t[i].c≠0)&&J9 a.t[i].c 1048576):=by unfold A2D;rw[e]
  have bad:A2D a.t i=false→validL a=false:=fun g=>by
   unfold validL X3;have:(List.range a.t.length).all (A2D a.t)=false:=by rw[List.all_eq_false];exact⟨i,List.mem_range.2 d,by rw[g];decide⟩
   rw[this];rfl
  by_cases n1:G5 (B a.t[i].v)=true
  ·by_cases u:a.t[i].c=0
   ·rw[bad (by rw[m,u];simp)]at h;repeat' (first|with_reducible apply D1Z|simp only[go_sem,seval,j,e1,n1,A9 _ _ d,C0 _ _ d,u,D2x,D2y,decide_true,decide_false]|intro o|with_reducible refine A0i _ hst _ ?_|omega)
    exact D21 (by simp only[D7,C9,D0]at* <;>grind) h
   ·by_cases y:a.t[i].c< -1048576
    ·rw[bad (by rw[m];unfold J9;rw[D1c (show¬ -1048576≤a.t[i].c by omega)];simp)]at h;repeat' (first|with_reducible apply D1Z|simp only[go_sem,seval,j,e1,n1,A9 _ _ d,C0 _ _ d,u,y,D2x,D2y,decide_true,decide_false]|intro o|with_reducible refine A0i _ hst _ ?_|omega)
     exact D21 (by simp only[D7,C9,D0]at* <;>grind) h
    ·by_cases G:1048576<a.t[i].c
     ·rw[bad (by rw[m];unfold J9;rw[D1c (show¬a.t[i].c≤1048576 by omega)];simp)]at h;repeat' (first|with_reducible apply D1Z|simp only[go_sem,seval,j,e1,n1,A9 _ _ d,C0 _ _ d,u,y,G,D2x,D2y,decide_true,decide_false]|intro o|with_reducible refine A0i _ hst _ ?_|omega)
      exact D21 (by simp only[D7,C9,D0]at* <;>grind) h
     ·have w:J9 a.t[i].c 1048576=true:=by unfold J9;rw[D1b (show-1048576≤a.t[i].c by omega),D1b (show a.t[i].c≤1048576 by omega)];rfl
      by_cases n2:i=0
      ·have I: ¬((0:Int)<i):=by omega
       have x:A2D a.t i=true:=by rw[m,n1,w,D1b n2,D1b (show a.t[i].c≠0 from u)];rfl
       repeat' (first|with_reducible apply D1Z|simp only[go_sem,seval,j,e1,n1,A9 _ _ d,C0 _ _ d,u,y,G,I,D2x,D2y,decide_true,decide_false]|simp(disch:=omega) only[A4,A9]|intro o|with_reducible refine A0i _ hst _ ?_|omega)
       exact C1 (i+1) ⟨by omega,by rw[List.range_succ,D2d,q];simp[x]⟩ (by omega) (by(try simp only[go_sem,seval])<;>(try simp(disch:=omega) [A4])) (by simp only[D7,C9,D0]at* <;>grind)
      ·have r:i-1<a.t.length:=by omega
       have I:(0:Int)<i:=by omega
       have V:(i:Int)-1=((i-1:Nat):Int):=by omega
       have z:((i-1:Nat):Int)<a.t.length:=by omega
       by_cases l:X2 a.t[i-1].v a.t[i].v=true
       ·have O:Op.bytesLess a.t[i-1].v.data.toList a.t[i].v.data.toList=true:=l;have x:A2D a.t i=true:=by rw[m,n1,w,e2 r,l,Bool.or_true,D1b (show a.t[i].c≠0 from u)];rfl
        repeat' (first|with_reducible apply D1Z|simp only[go_sem,seval,j,e1,n1,A9 _ _ d,C0 _ _ d,u,y,G,I,V,z,A9 _ _ r,C0 _ _ r,A1i,O,D2x,D2y,decide_true,decide_false]|simp(disch:=omega) only[A4,A9]|simp(disch:=first|omega|grind) only[B3]|intro o|with_reducible refine A0i _ hst _ ?_|omega)
        exact C1 (i+1) ⟨by omega,by rw[List.range_succ,D2d,q];simp[x]⟩ (by omega) (by(try simp only[go_sem,seval])<;>(try simp(disch:=omega) [A4])) (by simp only[D7,C9,D0]at* <;>grind)
       ·have l:X2 a.t[i-1].v a.t[i].v=false:=by simpa using l
        have O:Op.bytesLess a.t[i-1].v.data.toList a.t[i].v.data.toList=false:=l;rw[bad (by rw[m,n1,e2 r,l,D1c n2];rfl)]at h;repeat' (first|with_reducible apply D1Z|simp only[go_sem,seval,j,e1,n1,A9 _ _ d,C0 _ _ d,u,y,G,I,V,z,A9 _ _ r,C0 _ _ r,A1i,O,D2x,D2y,decide_true,decide_false]|simp(disch:=omega) only[A4,A9]|simp(disch:=first|omega|grind) only[B3]|intro o|with_reducible refine A0i _ hst _ ?_|omega)
        exact D21 (by simp only[D7,C9,D0]at* <;>grind) h
  ·have n1:G5 (B a.t[i].v)=false:=by simpa using n1
   rw[bad (by rw[m,n1];rfl)]at h;repeat' (first|with_reducible apply D1Z|simp only[go_sem,seval,j,e1,n1,A9 _ _ d,C0 _ _ d,D2x,D2y,decide_true,decide_false]|intro o|with_reducible refine A0i _ hst _ ?_|omega)
   exact D21 (by simp only[D7,C9,D0]at* <;>grind) h
 ·have j:decide ((i:Int)<a.t.length)=false:=D1c (by omega);have T:i=a.t.length:=by omega
  subst T;have hv:validL a=true:=by
   unfold validL X3 J9;rw[q,D1b (show a.t.length≤12 by omega),D1b (show-1099511627776≤a.k by omega),D1b (show a.k≤1099511627776 by omega)];rfl
  rw[hv]at h;repeat' simp only[go_sem,seval,j,e1]
  exact D21 p h
end Go.Proofs.YtibphjonmikciaaGreatDoor
namespace Go.Lin
open Go Go.Av Go.Lexs
theorem A0j(k n:Int)(e:Bool):NilR (.tuple [.agg [.nilsl,.int .i64 k,.bool e],.int .i64 n]) (.tuple [.agg (E4 ⟨[],k,e⟩),.int .i64 n]):=by
 refine .tuple _ _ rfl fun i d d' h1 g=>?_
 match i with
 |0=>
  cases h1;cases g;refine .agg _ _ rfl fun i d d' h1 g=>?_
  match i with
  |0=>cases h1;cases g;exact .nil _
  |1=>cases h1;cases g;exact .same _
  |2=>cases h1;cases g;exact .same _
  |i+3=>cases h1
 |1=>cases h1;cases g;exact .same _
 |i+2=>cases h1
end Go.Lin
namespace Go.Proofs.YtibphjonmikciaaGreatDoor
open Go Go.Av Go.Lexs Go.Lin
attribute [local irreducible] ACalls Q4
theorem B69{Q}(n:Int)(d: -9223372036854775807≤n)(h1:n≤9223372036854775807)(H:Heap)(h:Q (.int .i64 ((n.natAbs:Nat):Int)) H):D8 143 [.int .i64 n] H Q:=by
 refine A8 [] A5 Tryz.func143 rfl ?_;simp only[go_sem,seval,Tryz.results143];have w:IntKind.i64.wrap (0-n)= -n:=by rw[A4 (by omega) (by omega)];omega
 have e:(if n< -n then-n else n)=((n.natAbs:Nat):Int):=by split<;>omega
 repeat' simp only[go_sem,seval,w,e]
 exact D22 h
theorem B7A{Q}(l:List VlV)(C:A72 l)(H:Heap)(h:Q (.bool (N8 l)) H):D8 61 [.sl 2 (Rw vlC l)] H Q:=by
 refine A8 [] A5 Tryz.func61 rfl ?_;simp only[go_sem,seval,Tryz.results61];have hlen:=C.len;refine C2 [0,5,6] (fun(i:Nat)=>[(7,.int .i64 i)]) (fun(i:Nat)=>H) (fun(i:Nat)=>i≤l.length∧(List.range i).all (okV l)=true) (fun(i:Nat)=>l.length-i) (0) (⟨D1u _,rfl⟩) (by simp only[go_sem,seval]) (D20 _) ?_;rintro I rfl i ⟨J,o⟩;by_cases d:i<l.length
 ·have j:decide ((i:Int)<l.length)=true:=D1b (by omega);have G:(i:Int)<l.length:=by omega
  have e:l.getD i default=l[i]:=by simp[d]
  have e2: ∀p:i-1<l.length,l.getD (i-1) default=l[i-1]:=fun p=>by simp[p]
  have m:okV l i=(G5 (B l[i].v)&&(decide (i=0)||X2 (l.getD (i-1) default).v l[i].v)&&J9 l[i].n 2147483647):=by unfold okV;rw[e]
  have bad:okV l i=false→N8 l=false:=fun g=>by
   unfold N8;have:(List.range l.length).all (okV l)=false:=by rw[List.all_eq_false];exact⟨i,List.mem_range.2 d,by rw[g];decide⟩
   rw[this];rfl
  by_cases n1:G5 (B l[i].v)=true
  ·by_cases n2:i=0
   ·have x: ¬((0:Int)<i):=by omega
    by_cases w:J9 l[i].n 2147483647=true
    ·have r:okV l i=true:=by rw[m,n1,w,D1b n2];rfl
     repeat' (first|with_reducible apply D1Z|simp only[go_sem,seval,j,n1,A9 _ _ d,C0 _ _ d,x,w,D2x,D2y,decide_true,decide_false]|simp(disch:=omega) only[A4,A9]|intro q|with_reducible refine O9 _ _ ?_|with_reducible refine X6 _ _ (by omega) (by omega) _ ?_|omega)
     exact C1 (i+1) ⟨by omega,by rw[List.range_succ,D2d,o];simp[r]⟩ (by omega) (by(try simp only[go_sem,seval])<;>(try simp(disch:=omega) [A4])) (by simp only[D7,C9,D0]at* <;>grind)
    ·have w:J9 l[i].n 2147483647=false:=by simpa using w
     rw[bad (by rw[m,w,Bool.and_false])]at h;repeat' (first|with_reducible apply D1Z|simp only[go_sem,seval,j,n1,A9 _ _ d,C0 _ _ d,x,w,D2x,D2y,decide_true,decide_false]|intro q|with_reducible refine O9 _ _ ?_|with_reducible refine X6 _ _ (by omega) (by omega) _ ?_|omega)
     exact D21 (by simp only[D7,C9,D0]at* <;>grind) h
   ·have p:i-1<l.length:=by omega
    have x:(0:Int)<i:=by omega
    have z:(i:Int)-1=((i-1:Nat):Int):=by omega
    have u:((i-1:Nat):Int)<l.length:=by omega
    by_cases g:X2 l[i-1].v l[i].v=true
    ·have y:Op.bytesLess l[i-1].v.data.toList l[i].v.data.toList=true:=g;by_cases w:J9 l[i].n 2147483647=true
     ·have r:okV l i=true:=by rw[m,n1,w,e2 p,g,Bool.or_true];rfl
      repeat' (first|with_reducible apply D1Z|simp only[go_sem,seval,j,n1,A9 _ _ d,C0 _ _ d,x,z,u,A9 _ _ p,C0 _ _ p,A1i,y,w,D2x,D2y,decide_true,decide_false]|simp(disch:=omega) only[A4,A9]|intro q|with_reducible refine O9 _ _ ?_|with_reducible refine X6 _ _ (by omega) (by omega) _ ?_|omega)
      exact C1 (i+1) ⟨by omega,by rw[List.range_succ,D2d,o];simp[r]⟩ (by omega) (by(try simp only[go_sem,seval])<;>(try simp(disch:=omega) [A4])) (by simp only[D7,C9,D0]at* <;>grind)
     ·have w:J9 l[i].n 2147483647=false:=by simpa using w
      rw[bad (by rw[m,w,Bool.and_false])]at h;repeat' (first|with_reducible apply D1Z|simp only[go_sem,seval,j,n1,A9 _ _ d,C0 _ _ d,x,z,u,A9 _ _ p,C0 _ _ p,A1i,y,w,D2x,D2y,decide_true,decide_false]|simp(disch:=omega) only[A4,A9]|intro q|with_reducible refine O9 _ _ ?_|with_reducible refine X6 _ _ (by omega) (by omega) _ ?_|omega)
      exact D21 (by simp only[D7,C9,D0]at* <;>grind) h
    ·have g:X2 l[i-1].v l[i].v=false:=by simpa using g
     have y:Op.bytesLess l[i-1].v.data.toList l[i].v.data.toList=false:=g;rw[bad (by rw[m,n1,e2 p,g,D1c n2];rfl)]at h;repeat' (first|with_reducible apply D1Z|simp only[go_sem,seval,j,n1,A9 _ _ d,C0 _ _ d,x,z,u,A9 _ _ p,C0 _ _ p,A1i,y,D2x,D2y,decide_true,decide_false]|simp(disch:=omega) only[A4,A9]|intro q|with_reducible refine O9 _ _ ?_|omega)
     exact D21 (by simp only[D7,C9,D0]at* <;>grind) h
  ·have n1:G5 (B l[i].v)=false:=by simpa using n1
   rw[bad (by rw[m,n1];rfl)]at h;repeat' (first|with_reducible apply D1Z|simp only[go_sem,seval,j,n1,A9 _ _ d,C0 _ _ d,D2x,D2y,decide_true,decide_false]|intro q|with_reducible refine O9 _ _ ?_|omega)
   exact D21 (by simp only[D7,C9,D0]at* <;>grind) h
 ·have j:decide ((i:Int)<l.length)=false:=D1c (by omega);have A:i=l.length:=by omega
  subst A;have hv:N8 l=decide ((l.length:Int)≤24):=by
   unfold N8;rw[o];by_cases g:l.length≤24
   ·rw[D1b g,D1b (show (l.length:Int)≤24 by omega)];rfl
   ·rw[D1c g,D1c (show¬(l.length:Int)≤24 by omega)];rfl
  rw[hv]at h;repeat' simp only[go_sem,seval,j]
  exact D21 (by simp only[D7,C9,D0]at* <;>grind) h
end Go.Proofs.YtibphjonmikciaaGreatDoor
namespace Go.Lin
open Go Go.Av
theorem A0a{n:Int}(d:0≤n)(h1:n<18446744073709551616):IntKind.u64.wrap n=n:=by
 simp only[IntKind.wrap,IntKind.signed,IntKind.bits];simp;omega
theorem A7i{n:Int}:IntKind.u32.wrap n=n % 4294967296:=by
 simp only[IntKind.wrap,IntKind.signed,IntKind.bits];simp
theorem C0M{n:Int}(d:0≤n)(h1:n<4294967296):IntKind.u32.wrap n=n:=by rw[A7i];omega
theorem C4E{r x:Nat}(hr:r<4294967296)(hx:x<4294967296):IntKind.u64.wrap (((BitVec.ofInt 64 ((r:Int)*4294967296)|||BitVec.ofInt 64 (x:Int)).toNat:Nat):Int)=((r*4294967296+x:Nat):Int):=by
 have e1:BitVec.ofInt 64 ((r:Int)*4294967296)=BitVec.ofNat 64 (r*4294967296):=by
  rw[show ((r:Int)*4294967296)=((r*4294967296:Nat):Int)by omega,BitVec.ofInt_natCast]
 rw[e1,BitVec.ofInt_natCast,BitVec.toNat_or,BitVec.toNat_ofNat,BitVec.toNat_ofNat,D2a (by omega),D2a (by omega)];have e2:r*4294967296|||x=r*4294967296+x:=by
  have:=Nat.two_pow_add_eq_or_of_lt (i:=32) (b:=x) (by simpa using hx) r;rw[show r*4294967296=2 ^ 32*r by omega];exact this.symm
 rw[e2];exact A0a (by omega) (by omega)
section
variable {P:Program} {t:Nat} {c:Bool}
@[go_sem] theorem C83(a:Int):L4 P .shr t c (.int .u64 a) (.int .u64 32)=some (.int .u64 (a / 4294967296)):=by
 show (if(32:Int)<0 then none else some (D.int .u64 (a.fdiv (2 ^ (min (32:Int).toNat IntKind.u64.bits)))))=_;rw[if_neg (by decide)];have e:(2:Int) ^ (min (32:Int).toNat IntKind.u64.bits)=4294967296:=by decide
 rw[e,Int.fdiv_eq_ediv_of_nonneg _ (by decide)]
@[go_sem] theorem C92(a:Int):L4 P .shr t c (.int .i64 a) (.int .u64 32)=some (.int .i64 (a / 4294967296)):=by
 show (if(32:Int)<0 then none else some (D.int .i64 (a.fdiv (2 ^ (min (32:Int).toNat IntKind.i64.bits)))))=_;rw[if_neg (by decide)];have e:(2:Int) ^ (min (32:Int).toNat IntKind.i64.bits)=4294967296:=by decide
 rw[e,Int.fdiv_eq_ediv_of_nonneg _ (by decide)]
@[go_sem] theorem C84(a:Int):L4 P .shl t c (.int .u64 a) (.int .u64 32)=some (.int .u64 (IntKind.u64.wrap (a*4294967296))):=by
 show (if(32:Int)<0 then none else some (D.int .u64 (IntKind.u64.wrap (a*(2 ^ (min (32:Int).toNat IntKind.u64.bits))))))=_;rw[if_neg (by decide)];have e:(2:Int) ^ (min (32:Int).toNat IntKind.u64.bits)=4294967296:=by decide
 rw[e]
@[go_sem] theorem C93(a b:Int):L4 P .or t c (.int .u64 a) (.int .u64 b)=some (.int .u64 (IntKind.u64.wrap ((BitVec.ofInt 64 a|||BitVec.ofInt 64 b).toNat:Nat))):=rfl
end
end Go.Lin
namespace Go.Proofs.YtibphjonmikciaaGreatDoor
open Go Go.Av Go.Lin
attribute [local irreducible] ACalls Q4
theorem A4v{Q}(l:List Nat)(b:Nat)(H:Heap)(n:Nat)(hn:n=l.length)(hl:l.length≤1000000)(hb:H b=some (.vec 1 (Rw F5 l)))(h:Q (.vec b 1 0 (A0V l n)) H):D8 287 [.vec b 1 0 n] H Q:=by
 subst hn;refine A8 [] A5 Tryz.func287 rfl ?_;simp only[go_sem,seval,Tryz.results287];repeat' (first|with_reducible apply D1Z|simp only[go_sem,seval]|simp(disch:=omega) only[A4]|intro g|omega)
 refine C2 [] (fun(m:Nat)=>[(0,.vec b 1 0 m)]) (fun(m:Nat)=>H) (fun(m:Nat)=>m≤l.length∧A0V l m=A0V l l.length) (fun(m:Nat)=>m) (l.length) (⟨D1t _,rfl⟩) (by simp only[go_sem,seval]) (D20 _) ?_;rintro q rfl m ⟨hm,d⟩;by_cases r:0<m
 ·obtain⟨k,rfl⟩: ∃k,m=k+1:=⟨m-1,by omega⟩
  have hk:k<l.length:=by omega
  have p:l.getD k 0=l[k]:=by simp[hk]
  have o:(((k+1:Nat):Int)-1)=(k:Int):=by omega
  rw[A0V,p]at d;by_cases i:l[k]=0
  ·rw[if_pos i]at d;repeat' (first|with_reducible apply D1Z|simp only[go_sem,seval,hb,A9 _ _ hk,C0 _ _ hk,o,i,decide_true]|simp(disch:=omega) only[A4]|intro g|omega)
   exact C1 k ⟨by omega,d⟩ (by omega) (by simp only[go_sem,seval]) (D20 _)
  ·rw[if_neg i]at d;have j: ¬((l[k]:Nat):Int)=0:=by omega
   repeat' (first|with_reducible apply D1Z|simp only[go_sem,seval,hb,A9 _ _ hk,C0 _ _ hk,o,j,decide_false]|simp(disch:=omega) only[A4]|intro g|omega)
   rw[←d]at h;exact D22 h
 ·have e:m=0:=by omega
  subst e;rw[A0V]at d;repeat' simp only[go_sem,seval]
  rw[←d]at h;exact D22 h
theorem A2L{Q:D→Heap→Prop}{H:Heap}{b n:Nat}{l:List Nat}(d:Dig l)(hn:n=l.length)(hb:H b=some (.vec 1 (Rw F5 l)))(h:Av.Fin Q (Y8 (F0 l)) (H.del b)):Av.Fin Q (.vec b 1 0 (A0V l n)) H:=by
 subst hn;refine Fin.freeze hb (.vec 0 _ (by rw[Nat.zero_add,D6];exact B02 _ _)) ?_;rw[List.drop_zero,A2l,B03 d];exact h
theorem C4F{Q}(n:Nat)(hn:n<18446744073709551616)(H:Heap)(h:Q (Y8 n) H):D8 265 [.int .u64 n] H Q:=by
 refine A8 [] A5 Tryz.func265 rfl ?_;simp only[go_sem,seval,Tryz.results265];repeat' intro d
 rename_i b;have hb:=d;clear d;have e1:IntKind.u32.wrap (n:Int)=((n % 4294967296:Nat):Int):=by rw[A7i];omega
 have e2:IntKind.u32.wrap ((n:Int) / 4294967296)=((n / 4294967296:Nat):Int):=by rw[A7i];omega
 have e:Dig [n % 4294967296,n / 4294967296]:=fun x hx=>by
  simp only[D11,D12,or_false]at hx;rcases hx with rfl|rfl<;>omega
 have hv:F0 [n % 4294967296,n / 4294967296]=n:=by simp only[F0];omega
 rw[e1,e2];refine A4v [n % 4294967296,n / 4294967296] b _ 2 rfl (by simp) (A0 _ _) ?_;repeat' simp only[go_sem,seval]
 refine A2L e rfl (A0 _ _) ?_;rw[hv,E6 hb];exact D22 h
def C7t(a b:Nat)(c:Int):Prop:=(c<0↔a<b)∧(c=0↔a=b)
theorem B7B{Q}(a b:Nat)(L:(B4 a).length≤1000000)(hb:(B4 b).length≤1000000)(H:Heap)(h: ∀c:Int,C7t a b c→Q (.int .i64 c) H):D8 283 [Y8 a,Y8 b] H Q:=by
 refine A8 [] A5 Tryz.func283 rfl ?_;simp only[go_sem,seval,Tryz.results283];have u:=L0 a;have x:=L0 b;have C:=Q2 a;have G:=Q2 b;by_cases hl:(B4 a).length=(B4 b).length
 ·have y:((B4 a).length:Int)=(B4 b).length:=by omega
  repeat' (first|with_reducible apply D1Z|simp only[go_sem,seval,y,bne_self_eq_false]|simp(disch:=omega) only[A4,A9])
  refine C2 [0,1] (fun(k:Nat)=>[(5,.int .i64 ((k:Int)-1))]) (fun(k:Nat)=>H) (fun(k:Nat)=>k≤(B4 a).length∧(B4 a).drop k=(B4 b).drop k) (fun(k:Nat)=>k) ((B4 b).length) (⟨by omega,by rw[List.drop_length,List.drop_eq_nil_of_le (by omega)]⟩) (by simp only[go_sem,seval]) (D20 _) ?_;rintro M rfl k ⟨hk,d⟩;by_cases O:0<k
  ·obtain⟨j,rfl⟩: ∃j,k=j+1:=⟨k-1,by omega⟩
   have m:j<(B4 a).length:=by omega
   have o:j<(B4 b).length:=by omega
   have z:(((j+1:Nat):Int)-1)=(j:Int):=by omega
   have r:decide ((0:Int)≤(j:Int))=true:=D1b (by omega);by_cases he:(B4 a)[j]=(B4 b)[j]
   ·have i:((((B4 a)[j]:Nat):Int) != (((B4 b)[j]:Nat):Int))=false:=by rw[he];exact bne_self_eq_false _
    repeat' (first|with_reducible apply D1Z|simp only[go_sem,seval,A9 _ _ m,C0 _ _ m,A9 _ _ o,C0 _ _ o,z,r,i]|simp(disch:=omega) only[A4,A9]|intro p|omega)
    exact C1 j ⟨by omega,by rw[D14 m,D14 o,d,he]⟩ (by omega) (by simp only[go_sem,seval]) (D20 _)
   ·have i:((((B4 a)[j]:Nat):Int) != (((B4 b)[j]:Nat):Int))=true:=by rw[bne_iff_ne];omega
    by_cases A:(B4 a)[j]<(B4 b)[j]
    ·have q:decide ((((B4 a)[j]:Nat):Int)<(((B4 b)[j]:Nat):Int))=true:=D1b (by omega);repeat' (first|with_reducible apply D1Z|simp only[go_sem,seval,A9 _ _ m,C0 _ _ m,A9 _ _ o,C0 _ _ o,z,r,i,q]|simp(disch:=omega) only[A4,A9]|intro p|omega)
     have:=B05 C G hl m d A;rw[u,x]at this;exact D22 (h _ ⟨by omega,by omega⟩)
    ·have q:decide ((((B4 a)[j]:Nat):Int)<(((B4 b)[j]:Nat):Int))=false:=D1c (by omega);repeat' (first|with_reducible apply D1Z|simp only[go_sem,seval,A9 _ _ m,C0 _ _ m,A9 _ _ o,C0 _ _ o,z,r,i,q]|simp(disch:=omega) only[A4,A9]|intro p|omega)
     have:=B05 G C hl.symm o d.symm (by omega);rw[u,x]at this;exact D22 (h _ ⟨by omega,by omega⟩)
  ·have e:k=0:=by omega
   subst e;have r:decide ((0:Int)≤(((0:Nat):Int)-1))=false:=by decide
   rw[List.drop_zero,List.drop_zero]at d;have I:a=b:=by rw[←u,←x,d]
   repeat' simp only[go_sem,seval,r]
   exact D22 (h _ ⟨by omega,by omega⟩)
 ·have J:((((B4 a).length:Nat):Int) != (((B4 b).length:Nat):Int))=true:=by rw[bne_iff_ne];omega
  repeat' (first|with_reducible apply D1Z|simp(disch:=omega) only[A4,A9]|intro p|omega)
  refine D22 (h _ ?_);rcases Nat.lt_or_gt_of_ne hl with g|g
  ·have:=A0h g;exact⟨by omega,by omega⟩
  ·have:=A0h g;exact⟨by omega,by omega⟩
theorem B7C{Q}(m n:Nat)(hm:(B4 m).length≤100000)(hn:(B4 n).length≤100000)(H:Heap)(h:Q (Y8 (m+n)) H):D8 279 [Y8 m,Y8 n] H Q:=by
 refine A8 [] A5 Tryz.func279 rfl ?_;simp only[go_sem,seval,Tryz.results279];by_cases T:(B4 m).length<(B4 n).length
 ·have o:decide (((B4 m).length:Int)<(B4 n).length)=true:=D1b (by omega);repeat' (first|with_reducible apply D1Z|simp only[go_sem,seval,o]|simp(disch:=omega) only[A4,A9,K4]|intro q|omega)
  rename_i C;have z:=q;clear q;have r:([D.int .u32 0]::List.replicate (B4 n).length [D.int .u32 0])=Rw F5 (T6 [] ((B4 n).length+1)):=by rw[←List.replicate_succ,A61];exact A6s _ _ _ rfl
  rw[r];refine C2 [0,1,5,20] (fun(p:List Nat×Nat)=>[(21,.int .i64 p.1.length),(6,.int .u64 p.2)]) (fun(p:List Nat×Nat)=>H.set C (.vec 1 (Rw F5 (T6 p.1 ((B4 n).length+1))))) (fun(p:List Nat×Nat)=>p.1.length≤(B4 n).length∧Dig p.1∧p.2≤1∧F0 p.1+4294967296 ^ p.1.length*p.2=F0 ((B4 n).take p.1.length)+F0 ((B4 m).take p.1.length)) (fun(p:List Nat×Nat)=>(B4 n).length-p.1.length) (([],0)) (⟨D1u _,by simp[Dig],by simp,by simp[F0]⟩) (by simp only[go_sem,seval]) (D20 _) ?_;rintro U rfl ⟨L,c⟩ ⟨J,x,hc,hv⟩;simp only at J x hc hv;have g:=A60 L ((B4 n).length+1) (by omega);by_cases d:L.length<(B4 n).length
  ·have e:decide ((L.length:Int)<(B4 n).length)=true:=D1b (by omega);have V:=K4 (Q2 n) d;have G:IntKind.u64.wrap (((B4 n)[L.length]:Nat):Int)=(((B4 n)[L.length]:Nat):Int):=A0a (by omega) (by omega);have A:IntKind.u64.wrap ((c:Int)+((B4 n)[L.length]:Nat))=((c+(B4 n)[L.length]:Nat):Int):=by rw[A0a (by omega) (by omega)];omega
   have I:L.length<(T6 L ((B4 n).length+1)).length:=by omega
   by_cases y:L.length<(B4 m).length
   ·have i:decide ((L.length:Int)<(B4 m).length)=true:=D1b (by omega);have W:=K4 (Q2 m) y;have M:IntKind.u64.wrap (((B4 m)[L.length]:Nat):Int)=(((B4 m)[L.length]:Nat):Int):=A0a (by omega) (by omega);obtain⟨s,hs⟩: ∃s,s=c+(B4 n)[L.length]+(B4 m)[L.length]:=⟨_,rfl⟩
    have O:IntKind.u64.wrap (((c+(B4 n)[L.length]:Nat):Int)+((B4 m)[L.length]:Nat))=(s:Int):=by rw[A0a (by omega) (by omega)];omega
    have w5:IntKind.u32.wrap (s:Int)=((s % 4294967296:Nat):Int):=by rw[A7i];omega
    have w6:(s:Int) / 4294967296=((s / 4294967296:Nat):Int):=by omega
    have e1:(Rw F5 (T6 L ((B4 n).length+1))).set L.length [.int .u32 ((s % 4294967296:Nat):Int)]=Rw F5 (T6 (L++[s % 4294967296]) ((B4 n).length+1)):=by rw[←q8 L _ _ (by omega)];exact Z9 _ _ _ _ rfl
    repeat' (first|with_reducible apply D1Z|simp only[go_sem,seval,e,i,g,A9 _ _ d,C0 _ _ d,A9 _ _ y,C0 _ _ y,G,A,M,O,w5,w6,e1]|simp(disch:=omega) only[A4,A9,K4]|omega)
    refine C1 (L++[s % 4294967296],s / 4294967296) ⟨by simp only[D1f,D1h];omega,q0 x (by omega),by simp only[];omega,?_⟩ (by simp only[D1f,D1h];omega) (by(try simp only[go_sem,seval,D1f,D1h])<;>(try simp(disch:=omega) [A4])) (D20 _);simp only[D1f,D1h];rw[A1f,H8 _ _ d,H8 _ _ y,hs,Nat.mul_add,Nat.mul_add];omega
   ·have i:decide ((L.length:Int)<(B4 m).length)=false:=D1c (by omega);obtain⟨s,hs⟩: ∃s,s=c+(B4 n)[L.length]:=⟨_,rfl⟩
    rw[←hs]at A;have w5:IntKind.u32.wrap (s:Int)=((s % 4294967296:Nat):Int):=by rw[A7i];omega
    have w6:(s:Int) / 4294967296=((s / 4294967296:Nat):Int):=by omega
    have e1:(Rw F5 (T6 L ((B4 n).length+1))).set L.length [.int .u32 ((s % 4294967296:Nat):Int)]=Rw F5 (T6 (L++[s % 4294967296]) ((B4 n).length+1)):=by rw[←q8 L _ _ (by omega)];exact Z9 _ _ _ _ rfl
    repeat' (first|with_reducible apply D1Z|simp only[go_sem,seval,e,i,g,A9 _ _ d,C0 _ _ d,G,A,w5,w6,e1]|simp(disch:=omega) only[A4,A9,K4]|omega)
    refine C1 (L++[s % 4294967296],s / 4294967296) ⟨by simp only[D1f,D1h];omega,q0 x (by omega),by simp only[];omega,?_⟩ (by simp only[D1f,D1h];omega) (by(try simp only[go_sem,seval,D1f,D1h])<;>(try simp(disch:=omega) [A4])) (D20 _);simp only[D1f,D1h];rw[D1o (l:=B4 m) (by omega)]at hv;rw[A1f,H8 _ _ d,D1o (l:=B4 m) (by omega),hs,Nat.mul_add];omega
  ·have e:decide ((L.length:Int)<(B4 n).length)=false:=D1c (by omega);have j:L.length=(B4 n).length:=by omega
   have w5:IntKind.u32.wrap (c:Int)=((c:Nat):Int):=C0M (by omega) (by omega);have e1:(Rw F5 (T6 L ((B4 n).length+1))).set (B4 n).length [.int .u32 ((c:Nat):Int)]=Rw F5 (L++[c]):=by
    rw[←j,←A4s (L++[c]) (L.length+1) (by simp),←q8 L _ _ (by omega)];exact Z9 _ _ _ _ rfl
   have u:F0 (L++[c])=m+n:=by
    rw[A0C,hv,D1o (by omega),D1o (by omega),L0,L0];omega
   repeat' (first|with_reducible apply D1Z|simp only[go_sem,seval,e,g,w5,e1]|simp(disch:=omega) only[A4,A9,K4]|omega)
   refine A4v (L++[c]) C _ _ (by simp[j]) (by simp;omega) (A0 _ _) ?_;repeat' simp only[go_sem,seval]
   refine A2L (l:=L++[c]) (q0 x (show c<4294967296 by omega)) (by simp[j]) (A0 _ _) ?_;rw[u,E6 z];exact D22 h
 ·have o:decide (((B4 m).length:Int)<(B4 n).length)=false:=D1c (by omega);repeat' (first|with_reducible apply D1Z|simp only[go_sem,seval,o]|simp(disch:=omega) only[A4,A9,K4]|intro q|omega)
  rename_i C;have z:=q;clear q;have r:([D.int .u32 0]::List.replicate (B4 m).length [D.int .u32 0])=Rw F5 (T6 [] ((B4 m).length+1)):=by rw[←List.replicate_succ,A61];exact A6s _ _ _ rfl
  rw[r];refine C2 [0,1,5,20] (fun(p:List Nat×Nat)=>[(21,.int .i64 p.1.length),(6,.int .u64 p.2)]) (fun(p:List Nat×Nat)=>H.set C (.vec 1 (Rw F5 (T6 p.1 ((B4 m).length+1))))) (fun(p:List Nat×Nat)=>p.1.length≤(B4 m).length∧Dig p.1∧p.2≤1∧F0 p.1+4294967296 ^ p.1.length*p.2=F0 ((B4 m).take p.1.length)+F0 ((B4 n).take p.1.length)) (fun(p:List Nat×Nat)=>(B4 m).length-p.1.length) (([],0)) (⟨D1u _,by simp[Dig],by simp,by simp[F0]⟩) (by simp only[go_sem,seval]) (D20 _) ?_;rintro U rfl ⟨L,c⟩ ⟨J,x,hc,hv⟩;simp only at J x hc hv;have g:=A60 L ((B4 m).length+1) (by omega);by_cases d:L.length<(B4 m).length
  ·have e:decide ((L.length:Int)<(B4 m).length)=true:=D1b (by omega);have V:=K4 (Q2 m) d;have G:IntKind.u64.wrap (((B4 m)[L.length]:Nat):Int)=(((B4 m)[L.length]:Nat):Int):=A0a (by omega) (by omega);have A:IntKind.u64.wrap ((c:Int)+((B4 m)[L.length]:Nat))=((c+(B4 m)[L.length]:Nat):Int):=by rw[A0a (by omega) (by omega)];omega
   have I:L.length<(T6 L ((B4 m).length+1)).length:=by omega
   by_cases y:L.length<(B4 n).length
   ·have i:decide ((L.length:Int)<(B4 n).length)=true:=D1b (by omega);have W:=K4 (Q2 n) y;have M:IntKind.u64.wrap (((B4 n)[L.length]:Nat):Int)=(((B4 n)[L.length]:Nat):Int):=A0a (by omega) (by omega);obtain⟨s,hs⟩: ∃s,s=c+(B4 m)[L.length]+(B4 n)[L.length]:=⟨_,rfl⟩
    have O:IntKind.u64.wrap (((c+(B4 m)[L.length]:Nat):Int)+((B4 n)[L.length]:Nat))=(s:Int):=by rw[A0a (by omega) (by omega)];omega
    have w5:IntKind.u32.wrap (s:Int)=((s % 4294967296:Nat):Int):=by rw[A7i];omega
    have w6:(s:Int) / 4294967296=((s / 4294967296:Nat):Int):=by omega
    have e1:(Rw F5 (T6 L ((B4 m).length+1))).set L.length [.int .u32 ((s % 4294967296:Nat):Int)]=Rw F5 (T6 (L++[s % 4294967296]) ((B4 m).length+1)):=by rw[←q8 L _ _ (by omega)];exact Z9 _ _ _ _ rfl
    repeat' (first|with_reducible apply D1Z|simp only[go_sem,seval,e,i,g,A9 _ _ d,C0 _ _ d,A9 _ _ y,C0 _ _ y,G,A,M,O,w5,w6,e1]|simp(disch:=omega) only[A4,A9,K4]|omega)
    refine C1 (L++[s % 4294967296],s / 4294967296) ⟨by simp only[D1f,D1h];omega,q0 x (by omega),by simp only[];omega,?_⟩ (by simp only[D1f,D1h];omega) (by(try simp only[go_sem,seval,D1f,D1h])<;>(try simp(disch:=omega) [A4])) (D20 _);simp only[D1f,D1h];rw[A1f,H8 _ _ d,H8 _ _ y,hs,Nat.mul_add,Nat.mul_add];omega
   ·have i:decide ((L.length:Int)<(B4 n).length)=false:=D1c (by omega);obtain⟨s,hs⟩: ∃s,s=c+(B4 m)[L.length]:=⟨_,rfl⟩
    rw[←hs]at A;have w5:IntKind.u32.wrap (s:Int)=((s % 4294967296:Nat):Int):=by rw[A7i];omega
    have w6:(s:Int) / 4294967296=((s / 4294967296:Nat):Int):=by omega
    have e1:(Rw F5 (T6 L ((B4 m).length+1))).set L.length [.int .u32 ((s % 4294967296:Nat):Int)]=Rw F5 (T6 (L++[s % 4294967296]) ((B4 m).length+1)):=by rw[←q8 L _ _ (by omega)];exact Z9 _ _ _ _ rfl
    repeat' (first|with_reducible apply D1Z|simp only[go_sem,seval,e,i,g,A9 _ _ d,C0 _ _ d,G,A,w5,w6,e1]|simp(disch:=omega) only[A4,A9,K4]|omega)
    refine C1 (L++[s % 4294967296],s / 4294967296) ⟨by simp only[D1f,D1h];omega,q0 x (by omega),by simp only[];omega,?_⟩ (by simp only[D1f,D1h];omega) (by(try simp only[go_sem,seval,D1f,D1h])<;>(try simp(disch:=omega) [A4])) (D20 _);simp only[D1f,D1h];rw[D1o (l:=B4 n) (by omega)]at hv;rw[A1f,H8 _ _ d,D1o (l:=B4 n) (by omega),hs,Nat.mul_add];omega
  ·have e:decide ((L.length:Int)<(B4 m).length)=false:=D1c (by omega);have j:L.length=(B4 m).length:=by omega
   have w5:IntKind.u32.wrap (c:Int)=((c:Nat):Int):=C0M (by omega) (by omega);have e1:(Rw F5 (T6 L ((B4 m).length+1))).set (B4 m).length [.int .u32 ((c:Nat):Int)]=Rw F5 (L++[c]):=by
    rw[←j,←A4s (L++[c]) (L.length+1) (by simp),←q8 L _ _ (by omega)];exact Z9 _ _ _ _ rfl
   have u:F0 (L++[c])=m+n:=by
    rw[A0C,hv,D1o (by omega),D1o (by omega),L0,L0]
   repeat' (first|with_reducible apply D1Z|simp only[go_sem,seval,e,g,w5,e1]|simp(disch:=omega) only[A4,A9,K4]|omega)
   refine A4v (L++[c]) C _ _ (by simp[j]) (by simp;omega) (A0 _ _) ?_;repeat' simp only[go_sem,seval]
   refine A2L (l:=L++[c]) (q0 x (show c<4294967296 by omega)) (by simp[j]) (A0 _ _) ?_;rw[u,E6 z];exact D22 h
theorem B7D{Q}(m n:Nat)(O:n≤m)(hm:(B4 m).length≤100000)(H:Heap)(h:Q (Y8 (m-n)) H):D8 284 [Y8 m,Y8 n] H Q:=by
 refine A8 [] A5 Tryz.func284 rfl ?_;simp only[go_sem,seval,Tryz.results284];have T:(B4 n).length≤(B4 m).length:=by
  by_cases g:(B4 m).length<(B4 n).length
  ·have:=A0h g;omega
  ·omega
 repeat' (first|with_reducible apply D1Z|intro o|omega)
 rename_i G;have z:=o;clear o;have q:List.replicate (B4 m).length [D.int .u32 0]=Rw F5 (T6 [] (B4 m).length):=by rw[A61];exact A6s _ _ _ rfl
 rw[q];refine C2 [0,1,5,12] (fun(p:List Nat×Int)=>[(13,.int .i64 p.1.length),(6,.int .i64 p.2)]) (fun(p:List Nat×Int)=>H.set G (.vec 1 (Rw F5 (T6 p.1 (B4 m).length)))) (fun(p:List Nat×Int)=>p.1.length≤(B4 m).length∧Dig p.1∧(-1≤p.2∧p.2≤0)∧(F0 p.1:Int)+(4294967296:Int) ^ p.1.length*p.2=F0 ((B4 m).take p.1.length)-F0 ((B4 n).take p.1.length)) (fun(p:List Nat×Int)=>(B4 m).length-p.1.length) (([],0)) (⟨D1u _,by simp[Dig],by simp,by simp[F0]⟩) (by simp only[go_sem,seval]) (D20 _) ?_;rintro X rfl ⟨L,c⟩ ⟨U,r,hc,hv⟩;simp only at U r hc hv;have u:=A60 L (B4 m).length (by omega);by_cases d:L.length<(B4 m).length
 ·have e:decide ((L.length:Int)<(B4 m).length)=true:=D1b (by omega);have Y:=K4 (Q2 m) d;have I:IntKind.i64.wrap (((B4 m)[L.length]:Nat):Int)=(((B4 m)[L.length]:Nat):Int):=A4 (by omega) (by omega);have A:IntKind.i64.wrap (c+((B4 m)[L.length]:Nat))=c+((B4 m)[L.length]:Nat):=A4 (by omega) (by omega);have J:(F0 ((B4 m).take (L.length+1)):Int)=F0 ((B4 m).take L.length)+(4294967296:Int) ^ L.length*((B4 m)[L.length]:Nat):=by
   rw[H8 _ _ d,Int.natCast_add,Int.natCast_mul,Int.natCast_pow];rfl
  by_cases y:L.length<(B4 n).length
  ·have i:decide ((L.length:Int)<(B4 n).length)=true:=D1b (by omega);have y1:=K4 (Q2 n) y;have V:IntKind.i64.wrap (((B4 n)[L.length]:Nat):Int)=(((B4 n)[L.length]:Nat):Int):=A4 (by omega) (by omega);have ty:(F0 ((B4 n).take (L.length+1)):Int)=F0 ((B4 n).take L.length)+(4294967296:Int) ^ L.length*((B4 n)[L.length]:Nat):=by
    rw[H8 _ _ y,Int.natCast_add,Int.natCast_mul,Int.natCast_pow];rfl
   obtain⟨s,hs⟩: ∃s,s=c+((B4 m)[L.length]:Nat)-((B4 n)[L.length]:Nat):=⟨_,rfl⟩
   have W:IntKind.i64.wrap (c+((B4 m)[L.length]:Nat)-((B4 n)[L.length]:Nat))=s:=by rw[A4 (by omega) (by omega)];omega
   have w5:IntKind.u32.wrap s=(((s % 4294967296).toNat:Nat):Int):=by rw[A7i];omega
   have e1:(Rw F5 (T6 L (B4 m).length)).set L.length [.int .u32 (((s % 4294967296).toNat:Nat):Int)]=Rw F5 (T6 (L++[(s % 4294967296).toNat]) (B4 m).length):=by rw[←q8 L _ _ (by omega)];exact Z9 _ _ _ _ rfl
   repeat' (first|with_reducible apply D1Z|simp only[go_sem,seval,e,i,u,A9 _ _ d,C0 _ _ d,A9 _ _ y,C0 _ _ y,I,A,V,W,w5,e1]|simp(disch:=omega) only[A4,A9,K4]|omega)
   refine C1 (L++[(s % 4294967296).toNat],s / 4294967296) ⟨by simp only[D1f,D1h];omega,q0 r (by omega),by simp only[];omega,?_⟩ (by simp only[D1f,D1h];omega) (by(try simp only[go_sem,seval,D1f,D1h])<;>(try simp(disch:=omega) [A4])) (D20 _);simp only[D1f,D1h];have:=A5b L s;rw[J,ty];rw[hs]at this⊢;rw[Int.mul_sub,Int.mul_add]at this;omega
  ·have i:decide ((L.length:Int)<(B4 n).length)=false:=D1c (by omega);obtain⟨s,hs⟩: ∃s,s=c+((B4 m)[L.length]:Nat):=⟨_,rfl⟩
   rw[←hs]at A;have w5:IntKind.u32.wrap s=(((s % 4294967296).toNat:Nat):Int):=by rw[A7i];omega
   have e1:(Rw F5 (T6 L (B4 m).length)).set L.length [.int .u32 (((s % 4294967296).toNat:Nat):Int)]=Rw F5 (T6 (L++[(s % 4294967296).toNat]) (B4 m).length):=by rw[←q8 L _ _ (by omega)];exact Z9 _ _ _ _ rfl
   repeat' (first|with_reducible apply D1Z|simp only[go_sem,seval,e,i,u,A9 _ _ d,C0 _ _ d,I,←hs,A,w5,e1]|simp(disch:=omega) only[A4,A9,K4]|omega)
   refine C1 (L++[(s % 4294967296).toNat],s / 4294967296) ⟨by simp only[D1f,D1h];omega,q0 r (by omega),by simp only[];omega,?_⟩ (by simp only[D1f,D1h];omega) (by(try simp only[go_sem,seval,D1f,D1h])<;>(try simp(disch:=omega) [A4])) (D20 _);simp only[D1f,D1h];have:=A5b L s;rw[D1o (l:=B4 n) (by omega)]at hv;rw[J,D1o (l:=B4 n) (by omega)];rw[hs]at this⊢;rw[Int.mul_add]at this;omega
 ·have e:decide ((L.length:Int)<(B4 m).length)=false:=D1c (by omega);have j:L.length=(B4 m).length:=by omega
  have e1:Rw F5 (T6 L (B4 m).length)=Rw F5 L:=by rw[A4s _ _ j]
  rw[D1o (by omega),D1o (by omega),L0,L0]at hv;have M:=A9N r;have x:F0 L=m-n:=by
   have hp:((4294967296 ^ L.length:Nat):Int)=(4294967296:Int) ^ L.length:=Int.natCast_pow _ _;have C:c=0∨c= -1:=by omega
   rcases C with rfl|rfl
   ·omega
   ·rw[←hp]at hv;omega
  repeat' simp only[go_sem,seval,e,e1]
  refine A4v L G _ _ (by simp[j]) (by omega) (A0 _ _) ?_;repeat' simp only[go_sem,seval]
  refine A2L (l:=L) r (by simp[j]) (A0 _ _) ?_;rw[x,E6 z];exact D22 h
set_option maxHeartbeats 1000000 in
theorem C4G{Q}(m n:Nat)(hm:(B4 m).length≤100000)(hn:(B4 n).length≤100000)(H:Heap)(h:Q (Y8 (m*n)) H):D8 280 [Y8 m,Y8 n] H Q:=by
 refine A8 [] A5 Tryz.func280 rfl ?_;simp only[go_sem,seval,Tryz.results280];repeat' (first|with_reducible apply D1Z|simp(disch:=omega) only[A4,A9,K4]|intro A|omega)
 rename_i G;have I:=A;clear A;have C:List.replicate (((B4 m).length:Int)+(B4 n).length).toNat [D.int .u32 0]=Rw F5 (List.replicate ((B4 m).length+(B4 n).length) 0):=by rw[show (((B4 m).length:Int)+(B4 n).length).toNat=(B4 m).length+(B4 n).length by omega];exact A6s _ _ _ rfl
 rw[C];refine C2 [1,5,17,18] (fun(p:Nat×List Nat)=>[(19,.int .i64 p.1)]) (fun(p:Nat×List Nat)=>H.set G (.vec 1 (Rw F5 p.2))) (fun(p:Nat×List Nat)=>p.1≤(B4 m).length∧p.2.length=(B4 m).length+(B4 n).length∧Dig p.2∧F0 p.2=F0 ((B4 m).take p.1)*n∧∀(k:Nat) (hk:k<p.2.length),p.1+(B4 n).length≤k→p.2[k]=0) (fun(p:Nat×List Nat)=>(B4 m).length-p.1) ((0,List.replicate ((B4 m).length+(B4 n).length) 0)) (⟨D1u _,by simp,B47 _,by simp[B2i,F0],fun k hk _=>by simp⟩) (by simp only[go_sem,seval]) (D20 _) ?_;rintro Ec rfl ⟨i,out⟩ ⟨O,o,e,d,g⟩;simp only at O o e d g;by_cases r:i<(B4 m).length
 ·have x:decide ((i:Int)<(B4 m).length)=true:=D1b (by omega);have T:=K4 (Q2 m) r;repeat' (first|with_reducible apply D1Z|simp only[go_sem,seval,x,A9 _ _ r,C0 _ _ r]|omega)
  refine C2 [1,5,6,7,17,18,19,24,25] (fun(q:Nat×List Nat×Nat)=>[(26,.int .i64 q.1),(8,.int .u64 q.2.2)]) (fun(q:Nat×List Nat×Nat)=>H.set G (.vec 1 (Rw F5 q.2.1))) (fun(q:Nat×List Nat×Nat)=>q.1≤(B4 n).length∧q.2.1.length=(B4 m).length+(B4 n).length∧Dig q.2.1∧q.2.2<4294967296∧F0 q.2.1+4294967296 ^ (i+q.1)*q.2.2=F0 ((B4 m).take i)*n+4294967296 ^ i*(B4 m)[i]*F0 ((B4 n).take q.1)∧∀(k:Nat) (hk:k<q.2.1.length),i+(B4 n).length≤k→q.2.1[k]=0) (fun(q:Nat×List Nat×Nat)=>(B4 n).length-q.1) ((0,out,0)) (⟨D1u _,o,e,by simp,by simp[d,F0],g⟩) (by simp only[go_sem,seval]) (D20 _) ?_;clear o e d g;rintro U rfl ⟨j,o2,c⟩ ⟨V,o,e,hc,d,g⟩;simp only at V o e hc d g;by_cases u:j<(B4 n).length
  ·have y:decide ((j:Int)<(B4 n).length)=true:=D1b (by omega);have W:=K4 (Q2 n) u;have hp:i+j<o2.length:=by omega
   have o1:=K4 e hp;obtain⟨s,hs⟩: ∃s,s=c+((B4 m)[i]*(B4 n)[j]+o2[i+j]):=⟨_,rfl⟩
   obtain⟨m1,m2⟩:=C39 T W o1 hc;have X:IntKind.u64.wrap (((B4 m)[i]:Nat):Int)=(((B4 m)[i]:Nat):Int):=A0a (by omega) (by omega);have Y:IntKind.u64.wrap (((B4 n)[j]:Nat):Int)=(((B4 n)[j]:Nat):Int):=A0a (by omega) (by omega);have w3:IntKind.u64.wrap ((o2[i+j]:Nat):Int)=((o2[i+j]:Nat):Int):=A0a (by omega) (by omega);have w4:IntKind.u64.wrap ((((B4 m)[i]:Nat):Int)*(((B4 n)[j]:Nat):Int))=(((B4 m)[i]*(B4 n)[j]:Nat):Int):=by rw[←Int.natCast_mul];exact A0a (by omega) (by omega)
   have w5:IntKind.u64.wrap ((((B4 m)[i]*(B4 n)[j]:Nat):Int)+((o2[i+j]:Nat):Int))=(((B4 m)[i]*(B4 n)[j]+o2[i+j]:Nat):Int):=by rw[←Int.natCast_add];exact A0a (by omega) (by omega)
   have w6:IntKind.u64.wrap ((c:Int)+(((B4 m)[i]*(B4 n)[j]+o2[i+j]:Nat):Int))=(s:Int):=by rw[←Int.natCast_add,←hs];exact A0a (by omega) (by omega)
   have J:IntKind.u32.wrap (s:Int)=((s % 4294967296:Nat):Int):=by rw[A7i];omega
   have w8:(s:Int) / 4294967296=((s / 4294967296:Nat):Int):=by omega
   have L:(i:Int)+(j:Int)=((i+j:Nat):Int):=by omega
   have e1:(Rw F5 o2).set (i+j) [.int .u32 ((s % 4294967296:Nat):Int)]=Rw F5 (o2.set (i+j) (s % 4294967296)):=Z9 _ _ _ _ rfl;repeat' (first|with_reducible apply D1Z|simp only[go_sem,seval,y,L,A9 _ _ r,C0 _ _ r,A9 _ _ u,C0 _ _ u,A9 _ _ hp,C0 _ _ hp,X,Y,w3,w4,w5,w6,J,w8,e1]|simp(disch:=omega) only[A4,A9,K4]|omega)
   refine C1 (j+1,o2.set (i+j) (s % 4294967296),s / 4294967296) ⟨by simp only[];omega,by simp only[D2W];omega,B30 e (by omega),by simp only[];omega,?_,fun k hk z=>?_⟩ (by simp only[];omega) (by(try simp only[go_sem,seval])<;>(try simp(disch:=omega) [A4])) (D20 _)
   ·simp only[];rw[H8 _ _ u,←Nat.add_assoc];exact B66 o2 (i+j) i j s _ _ c _ _ hp rfl d hs
   ·simp only[]at hk⊢;rw[List.getElem_set_ne (by omega)];exact g k (by simpa using hk) z
  ·have y:decide ((j:Int)<(B4 n).length)=false:=D1c (by omega);have M:j=(B4 n).length:=by omega
   subst M;have hp:i+(B4 n).length<o2.length:=by omega
   have L:(i:Int)+((B4 n).length:Int)=((i+(B4 n).length:Nat):Int):=by omega
   have J:IntKind.u32.wrap (c:Int)=(c:Int):=C0M (by omega) (by omega);have e1:(Rw F5 o2).set (i+(B4 n).length) [.int .u32 (c:Int)]=Rw F5 (o2.set (i+(B4 n).length) c):=Z9 _ _ _ _ rfl;repeat' (first|with_reducible apply D1Z|simp only[go_sem,seval,y,L,A9 _ _ hp,C0 _ _ hp,J,e1]|simp(disch:=omega) only[A4,A9,K4]|omega)
   refine C1 (i+1,o2.set (i+(B4 n).length) c) ⟨by simp only[];omega,by simp only[D2W];omega,B30 e hc,?_,fun k hk z=>?_⟩ (by simp only[];omega) (by(try simp only[go_sem,seval])<;>(try simp(disch:=omega) [A4])) (D20 _)
   ·simp only[];rw[D1o (l:=B4 n) (by omega),L0]at d;rw[C0K o2 _ c _ _ hp (g _ hp (by omega)) d,H8 _ _ r,Nat.add_mul]
   ·simp only[]at hk z⊢;rw[List.getElem_set_ne (by omega)];exact g k (by simpa using hk) (by omega)
 ·have x:decide ((i:Int)<(B4 m).length)=false:=D1c (by omega);rw[D1o (by omega),L0]at d;repeat' simp only[go_sem,seval,x]
  refine A4v out G _ _ (by rw[o];omega) (by omega) (A0 _ _) ?_;repeat' simp only[go_sem,seval]
  refine A2L (l:=out) e (by rw[o];omega) (A0 _ _) ?_;rw[d,E6 I];exact D22 h
theorem C94{q:Nat}(h:q<18446744073709551616):IntKind.u64.wrap (q:Int)=q:=A0a (by omega) (by omega)
theorem C95{q:Nat}(h:q<4294967296):IntKind.u32.wrap (q:Int)=q:=C0M (by omega) (by omega)
theorem B7E{Q}(m n:Nat)(hm:(B4 m).length≤100000)(h0:n≠0)(hn:n<4294967296)(H:Heap)(h:Q (.tuple [Y8 (m / n),Y8 (m % n)]) H):D8 278 [Y8 m,Y8 n] H Q:=by
 refine A8 [(26,.par)] A5 Tryz.func278 rfl ?_;simp only[go_sem,seval,Tryz.results278];have y:B4 n= [n]:=A31 hn h0;have a0:(B4 n).length=1:=by rw[y];rfl
 have z:0<(B4 n).length:=by omega
 have hg:(B4 n)[0]=n:=by simp[y]
 by_cases o:m<n
 ·repeat' (first|with_reducible apply D1Z|simp only[go_sem,seval]|simp(disch:=omega) only[A4,A9,K4]|intro q|omega)
  refine B7B m n (by omega) (by omega) _ fun c hc=>?_;have u:decide (c<0)=true:=D1b (hc.1.2 o);repeat' simp only[go_sem,seval,u]
  rw[Nat.div_eq_of_lt o,D2a o]at h;refine Fin.nilsl 1 _ ?_;exact D22 (by rw[show Y8 0= .sl 1 []by rw[C4C,K3];rfl]at h;exact h)
 ·repeat' (first|with_reducible apply D1Z|simp only[go_sem,seval]|simp(disch:=omega) only[A4,A9,K4]|intro q|omega)
  refine B7B m n (by omega) (by omega) _ fun c hc=>?_;have u:decide (c<0)=false:=D1c (fun g=>o (hc.1.1 g));have A:((B4 n).length:Int)=1:=by omega
  repeat' (first|with_reducible apply D1Z|simp only[go_sem,seval,u,A]|simp(disch:=omega) only[A4,A9,K4]|intro q|omega)
  rename_i J;have M:=q;clear q;have C:List.replicate (B4 m).length [D.int .u32 0]=Rw F5 (A32 [] (B4 m).length):=by rw[B64];exact A6s _ _ _ rfl
  rw[C];refine C2 [0,1,6] (fun(p:Nat×List Nat×Nat)=>[(8,.int .i64 ((p.1:Int)-1)),(7,.int .u64 p.2.2)]) (fun(p:Nat×List Nat×Nat)=>H.set J (.vec 1 (Rw F5 (A32 p.2.1 (B4 m).length)))) (fun(p:Nat×List Nat×Nat)=>p.2.1.length+p.1=(B4 m).length∧Dig p.2.1∧p.2.2<n∧F0 p.2.1*n+p.2.2=F0 ((B4 m).drop p.1)) (fun(p:Nat×List Nat×Nat)=>p.1) (((B4 m).length,[],0)) (⟨by simp,by simp[Dig],by simp only[];omega,by simp[F0]⟩) (by simp only[go_sem,seval]) (D20 _) ?_;rintro Ec rfl ⟨k,L,r⟩ ⟨hk,O,hr,hv⟩;simp only at hk O hr hv;have T:=B62 L (B4 m).length (by omega);by_cases a4:0<k
  ·obtain⟨j,rfl⟩: ∃j,k=j+1:=⟨k-1,by omega⟩
   have I:j<(B4 m).length:=by omega
   have ek:(((j+1:Nat):Int)-1)=(j:Int):=by omega
   have U:decide ((0:Int)≤(j:Int))=true:=D1b (by omega);have x1:=K4 (Q2 m) I;have w1:IntKind.u64.wrap (((B4 m)[j]:Nat):Int)=(((B4 m)[j]:Nat):Int):=A0a (by omega) (by omega);have w2:IntKind.u64.wrap ((r:Int)*4294967296)=(r:Int)*4294967296:=A0a (by omega) (by omega);have X:=C4E (r:=r) (x:=(B4 m)[j]) (by omega) x1;obtain⟨s,hs⟩: ∃s,s=r*4294967296+(B4 m)[j]:=⟨_,rfl⟩
   rw[←hs]at X;have G:s / n<4294967296:=by
    rw[Nat.div_lt_iff_lt_mul (by omega)];have:=Nat.mul_le_mul_left 4294967296 (show r+1≤n by omega);omega
   have w4:IntKind.u64.wrap ((n:Nat):Int)=(n:Int):=A0a (by omega) (by omega);have V:s<18446744073709551616:=by omega
   have w5:IntKind.u64.wrap ((s:Int).tdiv (n:Int))=((s / n:Nat):Int):=by rw[←Int.ofNat_tdiv];exact C94 (Nat.lt_of_le_of_lt (Nat.div_le_self s n) V)
   have w6:IntKind.u32.wrap ((s / n:Nat):Int)=((s / n:Nat):Int):=C95 G;have w7:(s:Int).tmod (n:Int)=((s % n:Nat):Int):=(Int.ofNat_tmod s n).symm;have nz: ¬((n:Int)=0):=by omega
   have e1:(Rw F5 (A32 L (B4 m).length)).set j [.int .u32 ((s / n:Nat):Int)]=Rw F5 (A32 ((s / n)::L) (B4 m).length):=by rw[←B63 L _ _ j (by omega)];exact Z9 _ _ _ _ rfl
   repeat' (first|with_reducible apply D1Z|simp only[go_sem,seval,ek,U,T,A9 _ _ I,C0 _ _ I,A9 _ _ z,C0 _ _ z,hg,w1,w2,X,w4,w5,w6,w7,nz,e1]|simp(disch:=omega) only[A4,A9,K4]|omega)
   refine C1 (j,s / n::L,s % n) ⟨by simp only[D1e];omega,fun x hx=>?_,Nat.mod_lt _ (by omega),?_⟩ (by simp only[];omega) (by simp only[go_sem,seval]) (D20 _)
   ·rcases D11.1 hx with rfl|g
    ·exact G
    ·exact O x g
   ·simp only[F0];rw[A2q _ _ I,hs];exact B65 (by omega) hv
  ·have e:k=0:=by omega
   subst e;have U:decide ((0:Int)≤(((0:Nat):Int)-1))=false:=by decide
   rw[List.drop_zero,L0]at hv;obtain⟨q1,q2⟩:=C0J hr hv;have e1:A32 L (B4 m).length=L:=B48 _ _ (by omega);repeat' simp only[go_sem,seval,U,e1]
   refine A4v L J _ _ (by omega) (by omega) (A0 _ _) ?_;repeat' simp only[go_sem,seval]
   refine C4F r (by omega) _ ?_;repeat' simp only[go_sem,seval]
   refine Fin.freeze (b:=J) (A0 _ _) (.tuple _ [.sl 1 (((Rw F5 L).drop 0).take (A0V L (B4 m).length)),Y8 r] rfl fun i d d' W Y=>?_) ?_
   ·match i with
    |0=>cases W;cases Y;exact .vec 0 _ (by rw[Nat.zero_add,D6];have:=B02 L (B4 m).length;omega)
    |1=>cases W;cases Y;exact .same _
    |i+2=>cases W
   ·have e2:L.take (A0V L (B4 m).length)=B4 (F0 L):=by have:=B03 O;rwa [show L.length=(B4 m).length by omega]at this
    rw[List.drop_zero,A2l,e2,←q1,←q2,E6 M];exact D22 h
theorem C4H{Q}(m n:Nat)(hm:(B4 m).length≤100000)(hn:n<4294967296)(H:Heap)(h:Q (Y8 (Nat.gcd m n)) H):D8 277 [Y8 m,Y8 n] H Q:=by
 refine A8 [] A5 Tryz.func277 rfl ?_;simp only[go_sem,seval,Tryz.results277];repeat' (first|with_reducible apply D1Z|simp only[go_sem,seval]|intro q|omega)
 refine C2 [] (fun(p:Nat×Nat)=>[(0,Y8 p.1),(1,Y8 p.2)]) (fun(p:Nat×Nat)=>H) (fun(p:Nat×Nat)=>(B4 p.1).length≤100000∧p.2<4294967296∧Nat.gcd p.1 p.2=Nat.gcd m n) (fun(p:Nat×Nat)=>p.2) ((m,n)) (⟨hm,hn,rfl⟩) (by simp only[go_sem,seval]) (D20 _) ?_;rintro r rfl ⟨a,b⟩ ⟨o,hb,i⟩;simp only at o hb i;by_cases d:b=0
 ·subst d;have hl:(B4 0).length=0:=by rw[K3];rfl
  have j:decide ((0:Int)<((B4 0).length:Int))=false:=by rw[hl];rfl
  repeat' simp only[go_sem,seval,j]
  rw[Nat.gcd_zero_right]at i;rw[←i]at h;exact D22 h
 ·have hl:(B4 b).length≠0:=fun e=>d ((I9 b).1 e);have j:decide ((0:Int)<((B4 b).length:Int))=true:=D1b (by omega);repeat' simp only[go_sem,seval,j]
  refine B7E a b o d hb _ ?_;repeat' simp only[go_sem,seval]
  have g:=Nat.mod_lt a (Nat.pos_of_ne_zero d);exact C1 (b,a % b) ⟨by simp only[];exact D2f (B04 b 1 (by simpa using hb)) (by decide),by simp only[];omega,by simp only[];rw[←i,Nat.gcd_comm a b,Nat.gcd_rec b a,Nat.gcd_comm]⟩ (by simp only[];exact g) (by simp only[go_sem,seval]) (D20 _)
end Go.Proofs.YtibphjonmikciaaGreatDoor
namespace Go.Lin
open Go Go.Av
abbrev Sz(n:Int):Prop:=(B4 n.natAbs).length≤100000
theorem B1D{n:Int}{k:Nat}(h:n.natAbs<4294967296 ^ k)(hk:k≤100000):Sz n:=D2f (B04 _ k h) hk
theorem H9{n:Int}(h:n.natAbs<340282366920938463463374607431768211456):Sz n:=B1D (k:=4) (by simpa using h) (by decide)
theorem A9V(n:Int):decide ((0:Int)<((B4 n.natAbs).length:Int))=decide (n≠0):=by
 apply D2C.2;have:=I9 n.natAbs;omega
theorem A64(k:Nat):C4 (k:Int)= [.bool false,.sl 1 (Rw F5 (B4 k))]:=by
 unfold C4;rw[D1c (by omega),Int.natAbs_natCast]
theorem X7(n:Int)(k:Nat)(b:Bool)(h1:n.natAbs=k)(d:b=decide (n<0)): [D.bool b,.sl 1 (Rw F5 (B4 k))]=C4 n:=by subst h1;subst d;rfl
theorem A8A(n:Int)(k:Nat)(h:n=(k:Int)): [D.bool false,.sl 1 (Rw F5 (B4 k))]=C4 n:=by subst h;exact(A64 k).symm
theorem A8B(n:Int)(k:Nat)(h:n= -(k:Int)): [D.bool (decide (-(k:Int)<0)),.sl 1 (Rw F5 (B4 k))]=C4 n:=by subst h;exact X7 _ k _ (by omega) rfl
theorem B7F{a b:Int}(h:decide (a<0)=decide (b<0)):decide (a*b<0)=false:=by
 apply D1c;have h:=D2C.1 h;by_cases d:a<0
 ·have:=Int.mul_pos_of_neg_of_neg d (h.1 d);omega
 ·have:=Int.mul_nonneg (show 0≤a by omega) (show 0≤b by have:=mt h.2 d;omega);omega
theorem B7G{a b:Int}(h: ¬decide (a<0)=decide (b<0)):decide ((0:Int)<((B4 (a.natAbs*b.natAbs)).length:Int))=decide (a*b<0):=by
 rw[←Int.natAbs_mul,A9V];apply D2C.2;constructor
 ·intro g;have a1:a≠0:=by rintro rfl;exact g (Int.zero_mul _)
  have i:b≠0:=by rintro rfl;exact g (Int.mul_zero _)
  by_cases e:a<0
  ·have d: ¬b<0:=fun d=>h (by rw[D1b e,D1b d]);exact Int.mul_neg_of_neg_of_pos e (by omega)
  ·have d:b<0:=by
    by_cases d:b<0
    ·exact d
    ·exact absurd (by rw[D1c e,D1c d]) h
   exact Int.mul_neg_of_pos_of_neg (by omega) d
 ·omega
theorem B1E(a b:Int)(d:b≠0):a.fdiv b=(if b<0 then-a else a) / (b.natAbs:Int):=by
 by_cases hb:b<0
 ·rw[if_pos hb,←Int.neg_fdiv_neg,Int.fdiv_eq_ediv_of_nonneg _ (by omega)]
  congr 1;omega
 ·rw[if_neg hb,Int.fdiv_eq_ediv_of_nonneg _ (by omega)]
  congr 1;omega
theorem A2s(a b:Int)(d:b≠0)(h:decide (a<0)=decide (b<0)∨a=0):a.fdiv b=((a.natAbs / b.natAbs:Nat):Int):=by
 rw[B1E a b d,Int.natCast_ediv]
 congr 1
 rcases h with h|h
 ·have h:=D2C.1 h;split<;>omega
 ·subst h;split<;>simp
theorem B31{a b q r:Int}(hb:0<b)(h:r+b*q=a)(h1:0≤r)(d:r<b):a / b=q:=((Int.ediv_emod_unique hb).2 ⟨h,h1,d⟩).1
theorem B32(k:Nat):decide ((0:Int)<((B4 k).length:Int))=decide (-(k:Int)<0):=by
 apply D2C.2;have:=I9 k;omega
theorem A4w(a b:Int)(j:b≠0)(m:a≠0)(h: ¬decide (a<0)=decide (b<0)):a.fdiv b=if a.natAbs % b.natAbs=0 then-((a.natAbs / b.natAbs:Nat):Int)else-((a.natAbs / b.natAbs+1:Nat):Int):=by
 have hs:(if b<0 then-a else a)= -(a.natAbs:Int):=by
  have h: ¬(a<0↔b<0):=fun g=>h (D2C.2 g);split
  ·rename_i hb;have: ¬a<0:=fun g=>h ⟨fun _=>hb,fun _=>g⟩;omega
  ·rename_i hb;by_cases g:a<0
   ·omega
   ·exact absurd ⟨fun q=>absurd q g,fun q=>absurd q hb⟩ h
 rw[B1E a b j,hs];have hb:(0:Int)<(b.natAbs:Int):=by omega
 have e:=Nat.div_add_mod a.natAbs b.natAbs;have d:(a.natAbs:Int)=(b.natAbs:Int)*((a.natAbs / b.natAbs:Nat):Int)+((a.natAbs % b.natAbs:Nat):Int):=by rw[←Int.natCast_mul,←Int.natCast_add,e]
 have hm:=Nat.mod_lt a.natAbs (show 0<b.natAbs by omega);split
 ·rename_i i;refine(B31 hb (r:=0) ?_ (by omega) hb).symm ▸ rfl;rw[i]at d;rw[d,Int.mul_neg];simp
 ·rename_i i;refine(B31 hb (r:=(b.natAbs:Int)-((a.natAbs % b.natAbs:Nat):Int)) ?_ (by omega) (by omega)).symm ▸ rfl;rw[d,Int.natCast_add,Int.mul_neg,Int.mul_add];omega
theorem A9W:NilR (.agg [.bool false,.nilsl]) (.agg (C4 0)):=by
 have e:C4 0= [.bool false,.sl 1 []]:=by
  unfold C4;rw[show (0:Int).natAbs=0 from rfl,K3];rfl
 rw[e];refine .agg _ _ rfl fun i d d' h1 g=>?_
 match i with
 |0=>cases h1;cases g;exact .same _
 |1=>cases h1;cases g;exact .nil _
 |i+2=>cases h1
end Go.Lin
namespace Go.Proofs.YtibphjonmikciaaGreatDoor
open Go Go.Av Go.Lin
attribute [local irreducible] ACalls Q4
theorem L9{Q}(n:Int)(H:Heap)(h:Q (.int .i64 n.sign) H):D8 245 [.agg (C4 n)] H Q:=by
 refine A8 [] A5 Tryz.func245 rfl ?_;simp only[go_sem,seval,Tryz.results245];intro g d;have e1:=A0 (H:=H) g (.box (C4 n));simp only[C4D]at e1;by_cases i:n=0
 ·have e:(B4 n.natAbs).length=0:=(I9 _).2 (by omega);repeat' (first|with_reducible apply D1Z|simp only[go_sem,seval,e1,e]|intro j|omega)
  rw[i]at h;exact D21 (A2 d) h
 ·have e: ¬(((B4 n.natAbs).length:Int)=0):=by have:=I9 n.natAbs;omega
  by_cases hn:n<0
  ·repeat' (first|with_reducible apply D1Z|simp only[go_sem,seval,e1,e,hn,decide_true,decide_false])
   rw[Int.sign_eq_neg_one_of_neg hn]at h;exact D21 (A2 d) h
  ·repeat' (first|with_reducible apply D1Z|simp only[go_sem,seval,e1,e,hn,decide_true,decide_false])
   rw[Int.sign_eq_one_of_pos (by omega)]at h;exact D21 (A2 d) h
theorem B7H{Q}(n:Int)(H:Heap)(h:Q (.agg (C4 n.natAbs)) H):D8 254 [.agg (C4 n)] H Q:=by
 refine A8 [] A5 Tryz.func254 rfl ?_;simp only[go_sem,seval,Tryz.results254];rw[A64]at h;repeat' (first|simp only[go_sem,seval]|simp(disch:=first|omega|grind) only[B3]|(intro d;try simp only[A6]at d))
 exact D21 (by simp only[D7,C9,D0]at* <;>grind) h
theorem A4x{Q}(n:Int)(H:Heap)(h:Q (.agg (C4 (-n))) H):D8 259 [.agg (C4 n)] H Q:=by
 refine A8 [] A5 Tryz.func259 rfl ?_;simp only[go_sem,seval,Tryz.results259];by_cases hn:n<0
 ·rw[←X7 (-n) n.natAbs false (by omega) (by rw[D1c (by omega)])]at h;repeat' (first|simp only[go_sem,seval,hn,decide_true]|simp(disch:=first|omega|grind) only[B3]|(intro d;try simp only[A6]at d))
  all_goals exact D21 (by simp only[D7,C9,D0]at* <;>grind) h
 ·by_cases g:n=0
  ·have e:((B4 n.natAbs).length:Int)=0:=by have:=I9 n.natAbs;omega
   rw[←X7 (-n) n.natAbs false (by omega) (by rw[D1c (by omega)])]at h;repeat' (first|simp only[go_sem,seval,hn,decide_false,e]|simp(disch:=first|omega|grind) only[B3]|(intro d;try simp only[A6]at d))
   all_goals exact D21 (by simp only[D7,C9,D0]at* <;>grind) h
  ·have e:(0:Int)<((B4 n.natAbs).length:Int):=by have:=I9 n.natAbs;omega
   rw[←X7 (-n) n.natAbs true (by omega) (by rw[D1b (by omega)])]at h;repeat' (first|simp only[go_sem,seval,hn,decide_false,e,decide_true]|simp(disch:=first|omega|grind) only[B3]|(intro d;try simp only[A6]at d))
   all_goals exact D21 (by simp only[D7,C9,D0]at* <;>grind) h
theorem B1F{Q}(n:Int)(H:Heap)(h:Q (.bool (decide (n.natAbs=1))) H):D8 246 [.agg (C4 n)] H Q:=by
 refine A8 [] A5 Tryz.func246 rfl ?_;simp only[go_sem,seval,Tryz.results246];by_cases hl:(B4 n.natAbs).length=1
 ·have i:((B4 n.natAbs).length:Int)=1:=by omega
  have j:0<(B4 n.natAbs).length:=by omega
  have hv:=L0 n.natAbs;obtain⟨d,o⟩:=List.length_eq_one_iff.1 hl;have p:(B4 n.natAbs)[0]=d:=by simp[o]
  rw[o]at hv;simp only[F0,Nat.mul_zero,Nat.add_zero]at hv;have e:decide (n.natAbs=1)=decide ((d:Int)=1):=D2C.2 (by omega);rw[e]at h;repeat' (first|simp only[go_sem,seval,i,A9 _ _ j,C0 _ _ j,p]|intro m)
  all_goals (first|exact D21 (by simp only[D7,C9,D0]at* <;>grind) h|(refine D21 (H':=H) (by simp only[D7,C9,D0]at* <;>grind) ?_;simp_all))
 ·have i: ¬(((B4 n.natAbs).length:Int)=1):=by omega
  have e:decide (n.natAbs=1)=false:=D1c (fun g=>hl (by rw[g,A31 (by decide) (by decide)];rfl));rw[e]at h;repeat' (first|simp only[go_sem,seval,i,decide_false]|intro m)
  all_goals exact D21 (by simp only[D7,C9,D0]at* <;>grind) h
theorem T8{Q}(a b:Int)(g:Sz a)(hb:Sz b)(H:Heap)(h:Q (.agg (C4 (a*b))) H):D8 248 [.agg (C4 a),.agg (C4 b)] H Q:=by
 refine A8 [] A5 Tryz.func248 rfl ?_;simp only[go_sem,seval,Tryz.results248];have d:(a*b).natAbs=a.natAbs*b.natAbs:=Int.natAbs_mul a b;repeat' (first|with_reducible apply D1Z|simp only[go_sem,seval]|simp(disch:=first|omega|grind) only[B3]|(intro e;try simp only[A6]at e)|with_reducible refine C4G _ _ g hb _ ?_)
 ·rw[X7 (a*b) _ _ d (B7G (by assumption))];exact D21 (by simp only[D7,C9,D0]at* <;>grind) h
 ·rw[X7 (a*b) _ _ d (B7F (by assumption)).symm];exact D21 (by simp only[D7,C9,D0]at* <;>grind) h
theorem A36{Q}(a b:Int)(m:Sz a)(g:b≠0)(hb:b.natAbs<4294967296)(H:Heap)(h:Q (.agg (C4 (a.fdiv b))) H):D8 247 [.agg (C4 a),.agg (C4 b)] H Q:=by
 refine A8 [] A5 Tryz.func247 rfl ?_;simp only[go_sem,seval,Tryz.results247];repeat' (first|with_reducible apply D1Z|simp only[go_sem,seval]|simp(disch:=first|omega|grind) only[B3,F1]|(intro i;try simp only[A6]at i)|with_reducible refine B7E _ _ m (by omega) hb _ ?_)
 ·have d:a=0:=by have:=I9 a.natAbs;omega
  rw[A8A (a.fdiv b) _ (A2s a b g (.inr d))];exact D21 (by simp only[D7,C9,D0]at* <;>grind) h
 ·have d:a≠0:=by have:=I9 a.natAbs;omega
  have hr: ¬a.natAbs % b.natAbs=0:=by have:=I9 (a.natAbs % b.natAbs);omega
  have e:=A4w a b g d (by assumption);rw[if_neg hr]at e;have h1:Rw F5 (B4 1)= [[D.int .u32 1]]:=by rw[A31 (by decide) (by decide)];rfl
  refine A0o (es:=Rw F5 (B4 1)) (by rw[h1];exact A0 _ _) (by rw[h1];rfl) ?_;have j:(B4 (a.natAbs / b.natAbs)).length≤100000:=D2f (B46 (Nat.div_le_self _ _)) m;refine B7C _ 1 j (by rw[A31 (by decide) (by decide)];decide) _ ?_;repeat' (first|simp only[go_sem,seval]|simp(disch:=first|omega|grind) only[B3,F1])
  rw[B32,A8B (a.fdiv b) _ e];exact D21 (by simp only[D7,C9,D0]at* <;>grind) h
 ·have d:a≠0:=by have:=I9 a.natAbs;omega
  have hr:a.natAbs % b.natAbs=0:=by have:=I9 (a.natAbs % b.natAbs);omega
  have e:=A4w a b g d (by assumption);rw[if_pos hr]at e;rw[B32,A8B (a.fdiv b) _ e];exact D21 (by simp only[D7,C9,D0]at* <;>grind) h
 ·rw[A8A (a.fdiv b) _ (A2s a b g (.inl (by assumption)))];exact D21 (by simp only[D7,C9,D0]at* <;>grind) h
theorem A0k{Q}(a b:Int)(u:Sz a)(hb:Sz b)(H:Heap)(h:Q (.agg (C4 (a+b))) H):D8 255 [.agg (C4 a),.agg (C4 b)] H Q:=by
 refine A8 [(2,.par),(7,.par),(8,.par)] A5 Tryz.func255 rfl ?_;simp only[go_sem,seval,Tryz.results255];intro e y j m L d;simp only[A6]at m d;have p:e∈[e,j]:=by simp
 have q:j∈[e,j]:=by simp
 have z:=d.2.1.symm;have A:=d.1.symm;have C:=m.1.symm;by_cases hs:decide (a<0)=decide (b<0)
 ·have G:=D2C.1 hs;repeat' (first|simp only[go_sem,seval,hs,beq_self_eq_true]|simp(disch:=first|omega|grind) only[B3])
  refine F7 (fun i=>if i=6 then Y8 (a.natAbs+b.natAbs)else .undef) [e,j] ?_;repeat' (first|with_reducible apply D1Z|simp only[go_sem,seval,p,q]|simp(disch:=first|omega|grind) only[B3]|with_reducible refine S6 (fun H' Q hro hq=>B7C _ _ u hb H' hq) ?_)
  rw[X7 (a+b) _ _ (by omega) (by apply D2C.2;omega)];exact D21 (by simp only[D7,C9,D0]at* <;>grind) h
 ·have G: ¬(a<0↔b<0):=fun g=>hs (D2C.2 g);have r:(decide (a<0)==decide (b<0))=false:=by rw[beq_eq_false_iff_ne];exact hs
  repeat' (first|simp only[go_sem,seval,r]|simp(disch:=first|omega|grind) only[B3])
  refine B7B _ _ (by omega) (by omega) _ fun c hc=>?_;have M:=hc.1;have I:=hc.2;by_cases o:c=0
  ·have J:a+b=0:=by have:=I.1 o;omega
   repeat' simp only[go_sem,seval,o]
   rw[J]at h;exact D4 A9W (D21 (by simp only[D7,C9,D0]at* <;>grind) h)
  ·by_cases x:0<c
   ·have hsz:b.natAbs≤a.natAbs:=by omega
    repeat' simp only[go_sem,seval,o,x,decide_true,decide_false]
    refine F7 (fun i=>if i=6 then Y8 (a.natAbs-b.natAbs)else .undef) [e,j] ?_;repeat' (first|with_reducible apply D1Z|simp only[go_sem,seval,p,q]|simp(disch:=first|omega|grind) only[B3]|with_reducible refine S6 (fun H' Q hro hq=>B7D _ _ hsz u H' hq) ?_)
    rw[X7 (a+b) _ _ (by omega) (by apply D2C.2;omega)];exact D21 (by simp only[D7,C9,D0]at* <;>grind) h
   ·have hsz:a.natAbs≤b.natAbs:=by omega
    repeat' simp only[go_sem,seval,o,x,decide_true,decide_false]
    refine F7 (fun i=>if i=6 then Y8 (b.natAbs-a.natAbs)else .undef) [e,j] ?_;repeat' (first|with_reducible apply D1Z|simp only[go_sem,seval,p,q]|simp(disch:=first|omega|grind) only[B3]|with_reducible refine S6 (fun H' Q hro hq=>B7D _ _ hsz hb H' hq) ?_)
    rw[X7 (a+b) _ _ (by omega) (by apply D2C.2;omega)];exact D21 (by simp only[D7,C9,D0]at* <;>grind) h
theorem A0X{Q}(a b:Int)(p:Sz a)(hb:Sz b)(H:Heap)(h:Q (.agg (C4 (a-b))) H):D8 249 [.agg (C4 a),.agg (C4 b)] H Q:=by
 refine A8 [(1,.par)] A5 Tryz.func249 rfl ?_;simp only[go_sem,seval,Tryz.results249];intro j q m g A d;simp only[A6]at g d;have r:j∈[j,m]:=by simp
 have u:m∈[j,m]:=by simp
 have x:=d.2.1.symm;have y:=d.1.symm;have z:=g.1.symm;have o:Sz (-b):=by unfold Sz;rw[Int.natAbs_neg];exact hb
 have e:a+ -b=a-b:=by omega
 rw[←e]at h;refine F7 (fun i=>if i=2 then .agg (C4 (-b))else if i=3 then .agg (C4 (a+ -b))else .undef) [j,m] ?_;repeat' (first|with_reducible apply D1Z|simp only[go_sem,seval,r,u]|simp(disch:=first|omega|grind) only[B3]|with_reducible refine S6 (fun H' Q hro hq=>A4x b H' hq) ?_|with_reducible refine S6 (fun H' Q hro hq=>A0k a (-b) p o H' hq) ?_)
 exact D21 (by simp only[D7,C9,D0]at* <;>grind) h
theorem B33{Q}(a b:Int)(g:Sz a)(hb:Sz b)(H:Heap)(h:Q (.bool (decide (a<b))) H):D8 262 [.agg (C4 a),.agg (C4 b)] H Q:=by
 refine A8 [] A5 Tryz.func262 rfl ?_;simp only[go_sem,seval,Tryz.results262];have e:decide (a<b)=decide ((a-b).sign<0):=by
  apply D2C.2;rw[Int.sign_neg_iff];omega
 rw[e]at h;repeat' (first|simp only[go_sem,seval]|simp(disch:=first|omega|grind) only[B3]|(intro d;try simp only[A6]at d)|with_reducible refine A0X a b g hb _ ?_|with_reducible refine L9 (a-b) _ ?_)
 exact D21 (by simp only[D7,C9,D0]at* <;>grind) h
theorem B7I{Q}(a b:Int)(e:Sz a)(hb:b.natAbs<4294967296)(H:Heap)(h:Q (.agg (C4 (Nat.gcd a.natAbs b.natAbs))) H):D8 244 [.agg (C4 a),.agg (C4 b)] H Q:=by
 refine A8 [] A5 Tryz.func244 rfl ?_;simp only[go_sem,seval,Tryz.results244];rw[A64]at h;repeat' (first|simp only[go_sem,seval]|simp(disch:=first|omega|grind) only[B3]|(intro d;try simp only[A6]at d)|with_reducible refine C4H _ _ e hb _ ?_)
 exact D21 (by simp only[D7,C9,D0]at* <;>grind) h
theorem y9{Q}(n:Int)(i: -9223372036854775808≤n)(h1:n≤9223372036854775807)(H:Heap)(h:Q (.agg (C4 n)) H):D8 228 [.int .i64 n] H Q:=by
 refine A8 [] A5 Tryz.func228 rfl ?_;simp only[go_sem,seval,Tryz.results228];by_cases hn:n<0
 ·have d:IntKind.u64.wrap n=n+18446744073709551616:=by rw[IntKind.wrap];simp only[IntKind.signed,IntKind.bits];simp;omega
  have g:IntKind.u64.wrap (0-(n+18446744073709551616))=(n.natAbs:Int):=by rw[IntKind.wrap];simp only[IntKind.signed,IntKind.bits];simp;omega
  rw[←X7 n n.natAbs true rfl (by rw[D1b hn])]at h;repeat' (first|simp only[go_sem,seval,hn,decide_true,d,g]|intro e|with_reducible refine C4F n.natAbs (by omega) _ ?_)
  exact D21 (by simp only[D7,C9,D0]at* <;>grind) h
 ·have d:IntKind.u64.wrap n=(n.natAbs:Int):=by rw[A0a (by omega) (by omega)];omega
  rw[←X7 n n.natAbs false rfl (by rw[D1c hn])]at h;repeat' (first|simp only[go_sem,seval,hn,decide_false,d]|intro e|with_reducible refine C4F n.natAbs (by omega) _ ?_)
  exact D21 (by simp only[D7,C9,D0]at* <;>grind) h
end Go.Proofs.YtibphjonmikciaaGreatDoor
namespace Go.Av
theorem A1C{H u:Heap}{E z:Env}{c m sz s n:Nat}{rest:List D}{es X:List (List D)}(A:Av.Sub z E)(hn:n=es.length)(hc:u c=some (.vec s (X++[.vec m sz 0 n::rest])))(hm:u m=some (.vec sz es))(x:m≠c)
  (C: ∀k o,k≠c→H k=some o→k≠m∧u k=some o):A1b z (H.set c (.vec s (X++[.sl sz es::rest]))) E u:=by
 refine A5Q hm (B6p A) (fun k o' ho=>?_);unfold Heap.set at ho;by_cases hk:k=c
 ·subst hk;rw[if_pos rfl]at ho;cases ho;refine⟨Ne.symm x,_,hc,.vec _ _ _ (by simp) fun i y J g e=>?_⟩;by_cases G:i<X.length
  ·rw[D2T G]at g e;rw[g]at e;cases e;exact⟨rfl,fun j d d' p h=>by rw[p]at h;cases h;exact .same _⟩
  ·rw[D2U (by omega)]at g e;by_cases r:i-X.length=0
   ·rw[r]at g e;cases g;cases e;refine⟨by simp,fun j d d' p h=>?_⟩;cases j with
    |zero=>cases p;cases h;rw[hn];exact .all
    |succ j=>
     rw[D15]at p h;rw[p]at h;cases h;exact .same _
   ·obtain⟨q,hq⟩: ∃q,i-X.length=q+1:=⟨_,(Nat.succ_pred r).symm⟩
    rw[hq]at g;cases g
 ·rw[if_neg hk]at ho;obtain⟨h1,I⟩:=C k o' hk ho;exact⟨h1,o',I,.same _⟩
end Go.Av
namespace Go.Lin
open Go Go.Av
theorem C0N(a b:Int)(d:b≠0):(a.fdiv b).natAbs≤a.natAbs+1:=by
 have hk:=Nat.div_le_self a.natAbs b.natAbs;by_cases e:a=0
 ·rw[A2s a b d (.inr e),Int.natAbs_natCast];omega
 ·by_cases hs:decide (a<0)=decide (b<0)
  ·rw[A2s a b d (.inl hs),Int.natAbs_natCast];omega
  ·rw[A4w a b d e hs];split
   ·rw[Int.natAbs_neg,Int.natAbs_natCast];omega
   ·rw[Int.natAbs_neg,Int.natAbs_natCast];omega
theorem A1j{a b:Int}{m n:Nat}(d:a.natAbs≤m)(hb:b.natAbs≤n):(a*b).natAbs≤m*n:=by rw[Int.natAbs_mul];exact Nat.mul_le_mul d hb
theorem B34{H:Heap}{b c:Nat}{A d B:Av.Obj}(h:c≠b):((H.set b d).set c B).Le (((H.set b A).set c B).set b d):=fun q o hq=>by
 by_cases e:q=b
 ·subst e;rw[A3 _ h.symm,A0]at hq;rw[A0];exact hq
 ·rw[A3 _ e];by_cases e2:q=c
  ·subst e2;rw[A0]at hq⊢;exact hq
  ·rw[A3 _ e2,A3 _ e]at hq⊢;exact hq
def zB:List D:=[.bool false,.nilsl]
def s8(C:List Int)(n i:Nat):List (List D):=Rw C4 (C.take i)++List.replicate (n-i) zB
theorem A37(C:List Int)(n i:Nat)(h:C.length=n)(d:i≤n):(s8 C n i).length=n:=by simp[s8,Rw];omega
theorem A2t(C:List Int)(n:Nat):s8 C n 0=List.replicate n zB:=by simp[s8,Rw]
theorem A38(C:List Int)(n:Nat)(h:C.length=n):s8 C n n=Rw C4 C:=by simp[s8,←h]
theorem A2M(C:List Int)(n i:Nat)(h:C.length=n)(d:i<n)(c:List D)(hc:C4 (C[i]'(by omega))=c):(s8 C n i).set i c=s8 C n (i+1):=by
 subst hc;unfold s8;have hl:(Rw C4 (C.take i)).length=i:=by simp[Rw];omega
 have e:n-i=(n-(i+1))+1:=by omega
 rw[List.set_append_right _ _ (by omega),hl,Nat.sub_self,e,List.replicate_succ,List.set_cons_zero,S2 _ _ (by omega),D2N];rfl
theorem A1D(C:List Int)(n i j:Nat)(h:C.length=n)(d:i≤j)(e:j<n):(s8 C n i)[j]? =some zB:=by
 unfold s8;have hl:(Rw C4 (C.take i)).length=i:=by simp[Rw];omega
 rw[D2U (by omega),hl,List.getElem?_replicate,if_pos (by omega)]
theorem A1E(C:List Int)(n i j:Nat)(h:C.length=n)(d:i≤j)(e:j<n):(s8 C n i).getD j []=zB:=by
 rw[List.getD_eq_getElem?_getD,A1D C n i j h d e];rfl
end Go.Lin
namespace Go.Proofs.YtibphjonmikciaaGreatDoor
open Go Go.Av Go.Lin
attribute [local irreducible] ACalls Q4
theorem B7J{Q}(a b:Int)(ha:a.natAbs≤18446744073709551616)(G:0<b)(hb:b<2147483648)(H:Heap)(h:Q (.agg (C4 (A1B a b))) H):D8 258 [.agg (C4 a),.agg (C4 b)] H Q:=by
 refine A8 [(2,.par)] A5 Tryz.func258 rfl ?_;simp only[go_sem,seval,Tryz.results258];intro p I q r b4 g;simp only[A6]at r g;have J:=g.2.1.symm;have L:=g.1.symm;have M:=r.1.symm;obtain⟨t,d⟩: ∃t:Int,t=2:=⟨2,rfl⟩
 have hw: ∀(H':Heap) (x:D→Heap→Prop),x (.agg (C4 t)) H'→D8 228 [.int .i64 2] H' x:=fun H' x hq=>y9 2 (by omega) (by omega) H' (by rw[←d];exact hq);repeat' (first|simp only[go_sem,seval]|(intro j;try simp only[A6]at j)|with_reducible refine hw _ _ ?_)
 rename_i b5;have o:=j;clear j;have O:p∈[p,q,b5]:=by simp
 have T:q∈[p,q,b5]:=by simp
 have U:b5∈[p,q,b5]:=by simp
 have V:=o.1;have W:=o.2.1.symm;have X:=o.2.2.1.symm;obtain⟨f,y⟩: ∃f,f=(a*t+b).fdiv (b*t):=⟨_,rfl⟩
 have u:=C0N (a*t+b) (b*t) (by subst d;omega);rw[←y]at u;have u:f.natAbs≤55340232221128654849:=by(have:(a*t+b).natAbs≤55340232221128654848:=by(subst d;omega));omega
 have Y:=A1j (a:=b) (b:=f) (m:=2147483648) (n:=55340232221128654849) (by omega) (by omega);have A:Sz a:=H9 (by omega);have z:Sz b:=H9 (by omega);have C:Sz t:=H9 (by omega);have s4:Sz (a*t):=H9 (by subst d;omega);have s5:Sz (a*t+b):=H9 (by subst d;omega);have s6:Sz f:=H9 (by omega);have s7:Sz (b*f):=H9 (by omega);refine F7 (fun i=>if i=4 then .agg (C4 (a*t))else if i=6 then .agg (C4 (a*t+b))else if i=9 then .agg (C4 (b*t))else if i=10 then .agg (C4 f)else if i=11 then .agg (C4 (b*f))else if i=12 then .agg (C4 (a-b*f))else .undef) [p,q,b5] ?_;repeat' (first|with_reducible apply D1Z|simp only[go_sem,seval,O,T,U]|simp(disch:=first|omega|grind) only[B3]|with_reducible refine S6 (fun H' Q hro hq=>T8 a t A C H' hq) ?_|with_reducible refine S6 (fun H' Q hro hq=>A0k (a*t) b s4 z H' hq) ?_|with_reducible refine S6 (fun H' Q hro hq=>T8 b t z C H' hq) ?_|with_reducible refine S6 (fun H' Q hro hq=>A36 (a*t+b) (b*t) s5 (by subst d;omega) (by subst d;omega) H' (by rw[←y];exact hq)) ?_|with_reducible refine S6 (fun H' Q hro hq=>T8 b f z s6 H' hq) ?_|with_reducible refine S6 (fun H' Q hro hq=>A0X a (b*f) A s7 H' hq) ?_)
 have e:A1B a b=a-b*f:=by rw[y,d];rfl
 rw[e]at h;exact D21 (by simp only[D7,C9,D0]at* <;>grind) h
def A5w(r:Row)(m:Nat):Prop:=r.k.natAbs≤m∧∀x∈r.c,x.natAbs≤m
theorem A3T{Q}(a b:Row)(s:Int)(hs:s=1∨s= -1)(hl:a.c.length=b.c.length)(hlen:a.c.length≤1000000)(M:A5w a 18446744073709551616)(hb:A5w b 18446744073709551616)(H:Heap)(h:Q (.bool (A4t a b s)) H):
  D8 281 [.agg (C5 a),.agg (C5 b),.int .i64 s] H Q:=by
 refine A8 [] A5 Tryz.func281 rfl ?_;simp only[go_sem,seval,Tryz.results281];intro y O z A;simp only[A6]at A;have e3:((H.set y (.box (C5 a))).set z (.box (C5 b))) y=some (.box (C5 a)):=by rw[A3 _ A.1.symm,A0]
 have x:((H.set y (.box (C5 a))).set z (.box (C5 b))) z=some (.box (C5 b)):=A0 _ _;have C:H.Le ((H.set y (.box (C5 a))).set z (.box (C5 b))):=(by simp only[D7,C9,D0]at* <;>grind)
 generalize (H.set y (.box (C5 a))).set z (.box (C5 b))=Bs at e3 x C⊢;repeat' simp only[go_sem,seval,e3,x]
 have key:A4t a b s=true↔∀(k:Nat) (h1:k<a.c.length) (o:k<b.c.length),a.c[k]=b.c[k]*s:=by
  unfold A4t;rw[beq_iff_eq];constructor
  ·intro e k h1 o;have:=List.getElem_of_eq e h1;rw[this,D2P]
  ·intro e;apply D2u (by simpa using hl);intro k h1 o;rw[D2P];exact e k h1 (by simpa using o)
 refine C2 [2,4,11,12] (fun(i:Nat)=>[(13,.int .i64 i)]) (fun(i:Nat)=>Bs) (fun(i:Nat)=>i≤a.c.length∧∀(k:Nat) (h1:k<a.c.length) (o:k<b.c.length),k<i→a.c[k]=b.c[k]*s) (fun(i:Nat)=>a.c.length-i) (0) (⟨D1u _,fun k _ _ h=>absurd h (D2p _)⟩) (by simp only[go_sem,seval]) (D20 _) ?_;rintro T rfl i ⟨U,q⟩;by_cases d:i<a.c.length
 ·have p:decide ((i:Int)<a.c.length)=true:=D1b (by omega);have j:i<b.c.length:=by omega
  have a1:=M.2 _ (D1n d);have V:=hb.2 _ (D1n j);have J:Sz a.c[i]:=H9 (by omega);have L:Sz b.c[i]:=H9 (by omega);have r:(i:Int)<b.c.length:=by omega
  have G:Sz (-b.c[i]):=H9 (by omega);rcases hs with rfl|rfl
  ·have I:b.c[i]*1=b.c[i]:=by omega
   by_cases he:a.c[i]=b.c[i]
   ·have u:(a.c[i]-b.c[i]).sign=0:=by rw[he,Int.sub_self];rfl
    repeat' (first|with_reducible apply D1Z|simp only[go_sem,seval,p,e3,x,r,A9 _ _ d,C0 _ _ d,A9 _ _ j,C0 _ _ j,u]|simp(disch:=omega) only[A4,A9]|simp(disch:=first|omega|grind) only[B3]|(intro m;try simp only[A6]at m)|with_reducible refine A0X _ _ J L _ ?_|with_reducible refine L9 _ _ ?_|omega)
    refine C1 (i+1) ⟨by omega,fun k h1 o hk=>?_⟩ (by omega) (by(try simp only[go_sem,seval])<;>(try simp(disch:=omega) [A4])) (by simp only[D7,C9,D0]at* <;>grind);by_cases e:k=i
    ·subst e;rw[I];exact he
    ·exact q k h1 o (by omega)
   ·have u: ¬((a.c[i]-b.c[i]).sign=0):=by rw[Int.sign_eq_zero_iff_zero];omega
    have h1:A4t a b (1)=false:=by rw[←D2v];exact fun g=>he (by rw[←I];exact key.1 g i d j)
    have o:((a.c[i]-b.c[i]).sign != 0)=true:=by rw[bne_iff_ne];exact u
    repeat' (first|with_reducible apply D1Z|simp only[go_sem,seval,p,e3,x,r,A9 _ _ d,C0 _ _ d,A9 _ _ j,C0 _ _ j,o]|simp(disch:=omega) only[A4,A9]|simp(disch:=first|omega|grind) only[B3]|(intro m;try simp only[A6]at m)|with_reducible refine A0X _ _ J L _ ?_|with_reducible refine L9 _ _ ?_|omega)
    rw[h1]at h;exact D21 (by simp only[D7,C9,D0]at* <;>grind) h
  ·have I:b.c[i]* -1= -b.c[i]:=by omega
   by_cases he:a.c[i]= -b.c[i]
   ·have u:(a.c[i]- -b.c[i]).sign=0:=by rw[he,Int.sub_self];rfl
    repeat' (first|with_reducible apply D1Z|simp only[go_sem,seval,p,e3,x,r,A9 _ _ d,C0 _ _ d,A9 _ _ j,C0 _ _ j,u]|simp(disch:=omega) only[A4,A9]|simp(disch:=first|omega|grind) only[B3]|(intro m;try simp only[A6]at m)|with_reducible refine A4x _ _ ?_|with_reducible refine A0X _ _ J G _ ?_|with_reducible refine L9 _ _ ?_|omega)
    refine C1 (i+1) ⟨by omega,fun k h1 o hk=>?_⟩ (by omega) (by(try simp only[go_sem,seval])<;>(try simp(disch:=omega) [A4])) (by simp only[D7,C9,D0]at* <;>grind);by_cases e:k=i
    ·subst e;rw[I];exact he
    ·exact q k h1 o (by omega)
   ·have u: ¬((a.c[i]- -b.c[i]).sign=0):=by rw[Int.sign_eq_zero_iff_zero];omega
    have h1:A4t a b (-1)=false:=by rw[←D2v];exact fun g=>he (by rw[←I];exact key.1 g i d j)
    have o:((a.c[i]- -b.c[i]).sign != 0)=true:=by rw[bne_iff_ne];exact u
    repeat' (first|with_reducible apply D1Z|simp only[go_sem,seval,p,e3,x,r,A9 _ _ d,C0 _ _ d,A9 _ _ j,C0 _ _ j,o]|simp(disch:=omega) only[A4,A9]|simp(disch:=first|omega|grind) only[B3]|(intro m;try simp only[A6]at m)|with_reducible refine A4x _ _ ?_|with_reducible refine A0X _ _ J G _ ?_|with_reducible refine L9 _ _ ?_|omega)
    rw[h1]at h;exact D21 (by simp only[D7,C9,D0]at* <;>grind) h
 ·have p:decide ((i:Int)<a.c.length)=false:=D1c (by omega);repeat' simp only[go_sem,seval,p]
  rw[key.2 (fun k h1 o=>q k h1 o (by omega))]at h;exact D21 C h
set_option maxHeartbeats 1000000 in
theorem B7K{Q}(x y:Row)(a b:Int)(hl:x.c.length=y.c.length)(hlen:x.c.length≤1000000)(hx:A5w x 18446744073709551616)(hy:A5w y 18446744073709551616)(ha:a.natAbs≤18446744073709551616)(hb:b.natAbs≤18446744073709551616)(H:Heap)
  (h:Q (.agg (C5 (A2J x a y b))) H):D8 264 [.agg (C5 x),.agg (C4 a),.agg (C5 y),.agg (C4 b)] H Q:=by
 refine A8 [(1,.par),(5,.par)] A5 Tryz.func264 rfl ?_;simp only[go_sem,seval,Tryz.results264];intro g h4 b5 h5 j h6 m h7 G h8;simp only[A6]at h5 h6 h7 h8;have O:(((((H.set g (.box (C5 x))).set b5 (.box (C4 a))).set j (.box (C5 y))).set m (.box (C4 b))).set G (.box [.nilsl,.bool false,.nilsl,.bool false])) g=some (.box (C5 x)):=by simp(disch:=first|omega|grind) only[B3,A0]
 have e5:(((((H.set g (.box (C5 x))).set b5 (.box (C4 a))).set j (.box (C5 y))).set m (.box (C4 b))).set G (.box [.nilsl,.bool false,.nilsl,.bool false])) b5=some (.box (C4 a)):=by simp(disch:=first|omega|grind) only[B3,A0]
 have T:(((((H.set g (.box (C5 x))).set b5 (.box (C4 a))).set j (.box (C5 y))).set m (.box (C4 b))).set G (.box [.nilsl,.bool false,.nilsl,.bool false])) j=some (.box (C5 y)):=by simp(disch:=first|omega|grind) only[B3,A0]
 have U:(((((H.set g (.box (C5 x))).set b5 (.box (C4 a))).set j (.box (C5 y))).set m (.box (C4 b))).set G (.box [.nilsl,.bool false,.nilsl,.bool false])) m=some (.box (C4 b)):=by simp(disch:=first|omega|grind) only[B3,A0]
 have e8:(((((H.set g (.box (C5 x))).set b5 (.box (C4 a))).set j (.box (C5 y))).set m (.box (C4 b))).set G (.box [.nilsl,.bool false,.nilsl,.bool false])) G=some (.box [.nilsl,.bool false,.nilsl,.bool false]):=A0 _ _;have V:H.Le ((((H.set g (.box (C5 x))).set b5 (.box (C4 a))).set j (.box (C5 y))).set m (.box (C4 b))):=(by simp only[D7,C9,D0]at* <;>grind)
 have W:((((H.set g (.box (C5 x))).set b5 (.box (C4 a))).set j (.box (C5 y))).set m (.box (C4 b))) G=none:=by simp only[A6];exact h8
 have L:=V.trans (A2 (o:=.box [.nilsl,.bool false,.nilsl,.bool false]) W);have b1:H G=none:=V.none W;generalize (((((H.set g (.box (C5 x))).set b5 (.box (C4 a))).set j (.box (C5 y))).set m (.box (C4 b))).set G (.box [.nilsl,.bool false,.nilsl,.bool false]))=Bs at O e5 T U e8 L⊢;clear V W h4 h5 h6 h7 h8;have xk:=hx.1;have yk:=hy.1;have m1:=A1j xk ha;have m2:=A1j yk hb;have s1:Sz x.k:=H9 (by omega);have s2:Sz y.k:=H9 (by omega);have s3:Sz a:=H9 (by omega);have s4:Sz b:=H9 (by omega);have s5:Sz (x.k*a):=B1D (k:=5) (by omega) (by decide);have s6:Sz (y.k*b):=B1D (k:=5) (by omega) (by decide);have q4:g∈[g,b5,j,m]:=by simp
 have q5:b5∈[g,b5,j,m]:=by simp
 have q6:j∈[g,b5,j,m]:=by simp
 have q7:m∈[g,b5,j,m]:=by simp
 refine F7 (fun i=>if i=7 then .agg (C4 (x.k*a))else if i=11 then .agg (C4 (y.k*b))else if i=12 then .agg (C4 (x.k*a+y.k*b))else .undef) [g,b5,j,m] ?_;repeat' (first|with_reducible apply D1Z|simp only[go_sem,seval,O,e5,T,U,q4,q5,q6,q7]|simp(disch:=first|omega|grind) only[B3,F1]|(intro X;try simp only[A6]at X)|with_reducible refine S6 (fun H' Q hro hq=>T8 x.k a s1 s3 H' hq) ?_|with_reducible refine S6 (fun H' Q hro hq=>T8 y.k b s2 s4 H' hq) ?_|with_reducible refine S6 (fun H' Q hro hq=>A0k (x.k*a) (y.k*b) s5 s6 H' hq) ?_|omega)
 rename_i I u r;have Y:=X;clear X;obtain⟨C,hC⟩: ∃C,C=List.zipWith (fun p q=>p*a+q*b) x.c y.c:=⟨_,rfl⟩
 have z:C.length=x.c.length:=by rw[hC];simp[hl]
 have a9:List.replicate x.c.length [D.bool false,.nilsl]=s8 C x.c.length 0:=(A2t _ _).symm;rw[a9];obtain⟨k,hk⟩: ∃k,k=x.k*a+y.k*b:=⟨_,rfl⟩
 have n9:r≠I:=Y.1;have f4:g≠I:=fun e=>by rw[e,u]at O;cases O
 have f5:b5≠I:=fun e=>by rw[e,u]at e5;cases e5
 have f6:j≠I:=fun e=>by rw[e,u]at T;cases T
 have f7:m≠I:=fun e=>by rw[e,u]at U;cases U
 have f8:G≠I:=fun e=>by rw[e,u]at e8;cases e8
 have g4:g≠r:=fun e=>by rw[e,Y.2]at O;cases O
 have g5:b5≠r:=fun e=>by rw[e,Y.2]at e5;cases e5
 have g6:j≠r:=fun e=>by rw[e,Y.2]at T;cases T
 have g7:m≠r:=fun e=>by rw[e,Y.2]at U;cases U
 have g8:G≠r:=fun e=>by rw[e,Y.2]at e8;cases e8
 refine C2 [4,5,6,7,8,9,29] (fun(i:Nat)=>[(30,.int .i64 i)]) (fun(i:Nat)=>(Bs.set I (.vec 2 (s8 C x.c.length i))).set r (.box [.vec I 2 0 x.c.length,.bool (decide (x.k*a+y.k*b<0)),.sl 1 (Rw F5 (B4 (x.k*a+y.k*b).natAbs)),.bool x.eq])) (fun(i:Nat)=>i≤x.c.length) (fun(i:Nat)=>x.c.length-i) (0) (D1u _) (by simp only[go_sem,seval]) (D20 _) ?_;rintro Ec rfl i hi;have b2:=A37 C x.c.length i z hi;by_cases A:i<x.c.length
 ·have a0:decide ((i:Int)<x.c.length)=true:=D1b (by omega);have a4:i<y.c.length:=by omega
  have b3:(i:Int)<y.c.length:=by omega
  have c3:i<C.length:=by omega
  have x1:=hx.2 _ (D1n A);have y1:=hy.2 _ (D1n a4);have p1:=A1j x1 ha;have p2:=A1j y1 hb;have t1:Sz x.c[i]:=H9 (by omega);have t2:Sz y.c[i]:=H9 (by omega);have t3:Sz (x.c[i]*a):=B1D (k:=5) (by omega) (by decide);have t4:Sz (y.c[i]*b):=B1D (k:=5) (by omega) (by decide);have c0:C[i]=x.c[i]*a+y.c[i]*b:=by simp only[hC,List.getElem_zipWith]
  have M:=A2M C x.c.length i z A (C4 (x.c[i]*a+y.c[i]*b)) (by rw[c0]);have c1:=A1E C x.c.length i i z (D1t _) A;have b0:=A1D C x.c.length i i z (D1t _) A;have r4:g∈[g,b5,j,m,r]:=by simp
  have r5:b5∈[g,b5,j,m,r]:=by simp
  have r6:j∈[g,b5,j,m,r]:=by simp
  have r7:m∈[g,b5,j,m,r]:=by simp
  have r9:r∈[g,b5,j,m,r]:=by simp
  repeat' simp only[go_sem,seval,a0]
  refine F7 (fun i'=>if i'=9 then .agg (C4 (x.c[i]*a))else if i'=16 then .agg (C4 (y.c[i]*b))else if i'=17 then .agg (C4 (x.c[i]*a+y.c[i]*b))else .undef) [g,b5,j,m,r] ?_;repeat' (first|with_reducible apply D1Z|simp only[go_sem,seval,O,e5,T,U,r4,r5,r6,r7,r9,b3,b2,c1,b0,A9 _ _ A,C0 _ _ A,A9 _ _ a4,C0 _ _ a4,M]|simp(disch:=omega) only[A4,A9]|simp(disch:=first|omega|grind) only[B3,F1]|with_reducible refine S6 (fun H' Q hro hq=>T8 x.c[i] a t1 s3 H' hq) ?_|with_reducible refine S6 (fun H' Q hro hq=>T8 y.c[i] b t2 s4 H' hq) ?_|with_reducible refine S6 (fun H' Q hro hq=>A0k (x.c[i]*a) (y.c[i]*b) t3 t4 H' hq) ?_|omega)
  refine C1 (i+1) (by omega) (by omega) (by(try simp only[go_sem,seval])<;>(try simp(disch:=omega) [A4])) ?_;have a5:(s8 C x.c.length i).set i ((zB.set 0 (D.bool (decide (x.c[i]*a+y.c[i]*b<0)))).set 1 (D.sl 1 (Rw F5 (B4 (x.c[i]*a+y.c[i]*b).natAbs))))=s8 C x.c.length (i+1):=M;rw[a5];exact B34 n9
 ·have a0:decide ((i:Int)<x.c.length)=false:=D1c (by omega);have c2:i=x.c.length:=by omega
  subst c2;rw[A38 C _ z];repeat' (first|simp only[go_sem,seval,a0,e8]|simp(disch:=first|omega|grind) only[B3,F1])
  have a6:x.c.length=(Rw C4 C).length:=by rw[D6,z]
  refine V7 (b:=I) (sz:=2) (es:=Rw C4 C) (cs':=C5 (A2J x a y b)) (by rw[A3 _ f8.symm,A3 _ n9.symm,A0]) rfl (fun i d d' e1 e2=>?_) (D21 (fun q o hq=>?_) h)
  ·match i with
   |0=>
    cases e1;cases e2;show Fz I 2 (Rw C4 C) (.vec I 2 0 x.c.length) (.sl 2 (Rw C4 (List.zipWith (fun p q=>p*a+q*b) x.c y.c)));rw[←hC,a6];exact .all
   |1=>cases e1;cases e2;exact .same _
   |2=>cases e1;cases e2;exact .same _
   |3=>cases e1;cases e2;exact .same _
   |i+4=>cases e1
  ·have J:=L q o hq;have d1:q≠I:=fun e=>by rw[e,u]at J;cases J
   have d2:q≠r:=fun e=>by rw[e,Y.2]at J;cases J
   have d3:q≠G:=fun e=>by rw[e,b1]at hq;cases hq
   rw[F1 d1,A3 _ d3,A3 _ d2,A3 _ d1];exact J
end Go.Proofs.YtibphjonmikciaaGreatDoor
namespace Go.Lin
open Go Go.Av Go.Lexs
open Classical in
noncomputable def I8(ks:List ByteArray)(s:ByteArray):List ByteArray:=if s∈ks then ks else ks++[s]
theorem A3U{ks:List ByteArray}{s:ByteArray}(h:ks.Nodup):(I8 ks s).Nodup:=by
 unfold I8;split
 ·exact h
 ·rename_i g;exact List.nodup_append.2 ⟨h,by simp,fun a d b hb=>by simp at hb;subst hb;exact fun e=>g (e ▸ d)⟩
theorem B1G{ks:List ByteArray}{s x:ByteArray}:x∈I8 ks s↔x∈ks∨x=s:=by
 unfold I8;split
 ·rename_i g;constructor
  ·exact .inl
  ·rintro(h|rfl);exact h;exact g
 ·simp
theorem B7L(ks:List ByteArray)(s:ByteArray):(I8 ks s).length≤ks.length+1:=by
 unfold I8;split<;>simp
theorem V3(m:List ByteArray): ∀ks:List ByteArray,ks.Nodup→(m.foldl I8 ks).Nodup:=by
 induction m with
 |nil=>exact fun ks h=>h
 |cons s m d=>exact fun ks h=>d _ (A3U h)
theorem A8C(m:List ByteArray)(x:ByteArray): ∀ks:List ByteArray,x∈m.foldl I8 ks↔x∈ks∨x∈m:=by
 induction m with
 |nil=>intro ks;simp
 |cons s m d=>intro ks;rw[List.foldl_cons,d,B1G,D11,or_assoc]
theorem A8D(m:List ByteArray): ∀ks:List ByteArray,(m.foldl I8 ks).length≤ks.length+m.length:=by
 induction m with
 |nil=>intro ks;simp
 |cons s m d=>intro ks;have:=d (I8 ks s);have:=B7L ks s;simp only[List.foldl_cons,D1e];omega
theorem B5B(f:ByteArray→D)(s:ByteArray)(ks:List ByteArray):D2 f (s::ks)=(.str s,f s)::D2 f ks:=rfl
theorem find_strM(f:ByteArray→D)(s:ByteArray): ∀(ks:List ByteArray) (i:Nat),(s∉ks∧Q1 (.one .str) (.str s) (D2 f ks) i=some none)∨∃j,∃h:j<ks.length,ks[j]=s∧Q1 (.one .str) (.str s) (D2 f ks) i=some (some (i+j,f s))
 | [],i=>.inl ⟨by simp,rfl⟩
 |t::ks,i=>by
  have e:A5L (.one .str) (.str s) (.str t)=some (decide (s=t)):=by
   rw[A5L,V9]
   congr 1
   rw[Bool.eq_iff_iff,beq_iff_eq,D1v];exact⟨fun g=>N7 g,fun g=>by rw[g]⟩
  rw[B5B,Q1];simp only[e,D13,D1v];by_cases c:s=t
  ·subst c;rw[if_pos rfl];exact .inr ⟨0,by simp,rfl,rfl⟩
  ·rw[if_neg c];rcases find_strM f s ks (i+1)with⟨h1,d⟩|⟨j,h,h1,d⟩
   ·exact .inl ⟨by rw[D11,not_or];exact⟨c,h1⟩,d⟩
   ·exact .inr ⟨j+1,by simpa using h,by simpa using h1,by rw[d];congr 3;omega⟩
def B1H(f:ByteArray→D)(s:ByteArray)(x:D):ByteArray→D:=fun t=>if t=s then x else f t
theorem B7M(f:ByteArray→D)(s:ByteArray)(x:D)(ks:List ByteArray)(hn:ks.Nodup):(Q1 (.one .str) (.str s) (D2 f ks) 0).map (fun r=>A6U (D2 f ks) (.str s) x r)=some (D2 (B1H f s x) (I8 ks s)):=by
 rcases find_strM f s ks 0 with⟨h1,d⟩|⟨j,h,h1,d⟩
 ·rw[d];show some (D2 f ks++[(.str s,x)])=_;unfold I8;rw[if_neg h1];unfold D2;rw[D2Z]
  congr 2
  ·refine List.map_congr_left fun t o=>?_;have:t≠s:=fun e=>h1 (e ▸ o);simp[B1H,this]
  ·simp[B1H]
 ·rw[d];show some ((D2 f ks).set (0+j) (.str s,x))=_;have hm:s∈ks:=by rw[←h1];exact D1n h
  unfold I8;rw[if_pos hm,Nat.zero_add]
  congr 1
  apply D2u
  ·simp[D2]
  ·intro i u p;have m:i<ks.length:=by simpa [D2]using p
   by_cases e:j=i
   ·subst e;rw[List.getElem_set_self];simp[D2,B1H,h1]
   ·rw[List.getElem_set_ne e];have:ks[i]≠s:=fun g=>by
     have hp:=List.pairwise_iff_getElem.1 hn;rcases Nat.lt_or_gt_of_ne e with q|q
     ·exact hp j i h m q (h1.trans g.symm)
     ·exact hp i j m h q (g.trans h1.symm)
    simp[D2,B1H,this]
theorem i6{H:Heap}{b:Nat}(f:ByteArray→D)(s:ByteArray)(x:D)(ks:List ByteArray)(hn:ks.Nodup):(Q1 (.one .str) (.str s) (D2 f ks) 0).map (fun r=>H.set b (.map (A6U (D2 f ks) (.str s) x r)))=some (H.set b (.map (D2 (B1H f s x) (I8 ks s)))):=by
 have:=congrArg (Option.map fun m=>H.set b (.map m)) (B7M f s x ks hn);rw[Option.map_map]at this;exact this
open Classical in
theorem A2u(f:ByteArray→D)(s:ByteArray)(z:D)(ks:List ByteArray):(Q1 (.one .str) (.str s) (D2 f ks) 0).map (A3E false z)=some (if s∈ks then f s else z):=by
 rcases find_strM f s ks 0 with⟨h1,d⟩|⟨j,e,h1,d⟩
 ·rw[d,if_neg h1];rfl
 ·have hm:s∈ks:=by rw[←h1];exact D1n e
  rw[d,if_pos hm];rfl
abbrev tt:ByteArray→D:=fun _=>.bool true
theorem A3V(s:ByteArray):B1H tt s (.bool true)=tt:=by
 funext t;unfold B1H;split<;>rfl
def A0l(l:List LinV)(i j:Nat):List ByteArray:=P7 (l.take i)++(((l.getD i default).t.take j).map (·.v))
theorem B2l(l:List LinV)(i:Nat)(h:i<l.length):A0l l i l[i].t.length=A0l l (i+1) 0:=by
 unfold A0l P7;rw[D1s h,List.flatMap_append];simp[h]
theorem B2m(l:List LinV)(i j:Nat)(h:i<l.length)(d:j<l[i].t.length):A0l l i (j+1)=A0l l i j++[l[i].t[j].v]:=by
 unfold A0l;rw[show l.getD i default=l[i]by simp[h],D1s d,D2Z,←D2N];rfl
theorem B5C(l:List LinV):A0l l l.length 0=P7 l:=by simp[A0l]
theorem B2n(m:List ByteArray)(s:ByteArray):(m++[s]).foldl I8 []=I8 (m.foldl I8 []) s:=by rw[D2R];rfl
end Go.Lin
namespace Go.Proofs.YtibphjonmikciaaGreatDoor
open Go Go.Av Go.Lexs Go.Lin
attribute [local irreducible] ACalls Q4
theorem C4I{Q}(l:List LinV)(hlen:l.length≤1000000000)(M:(P7 l).length≤1000000000)(hst: ∀s∈P7 l,s.size≤4611686018427387904)(C: ∀c∈l,c.t.length≤1000000000)(H:Heap)(h:Q (.sl 1 (Rw L7 (A2E l))) H):D8 198 [.sl 3 (Rw E4 l)] H Q:=by
 refine A8 [] A5 Tryz.func198 rfl ?_;simp only[go_sem,seval,Tryz.results198];repeat' (intro d;try simp only[A6]at d)
 rename_i g;have O:=d;clear d;rw[show ([]:List (D×D))=D2 tt ((A0l l 0 0).foldl I8 [])from rfl];refine C2 [3,9,10] (fun(i:Nat)=>[(11,.int .i64 i)]) (fun(i:Nat)=>H.set g (.map (D2 tt ((A0l l i 0).foldl I8 [])))) (fun(i:Nat)=>i≤l.length) (fun(i:Nat)=>l.length-i) (0) (D1u _) (by simp only[go_sem,seval]) (D20 _) ?_;rintro T rfl i hi;by_cases m:i<l.length
 ·have q:decide ((i:Int)<l.length)=true:=D1b (by omega);have U:(i:Int)<l.length:=by omega
  have V:=C _ (D1n m);repeat' (first|with_reducible apply D1Z|simp only[go_sem,seval,q,A9 _ _ m,C0 _ _ m]|(intro d;try simp only[A6]at d)|omega)
  rename_i b5;have h5:=d;clear d;have W:(H.set g (.map (D2 tt ((A0l l i 0).foldl I8 [])))).Le ((H.set g (.map (D2 tt ((A0l l i 0).foldl I8 [])))).set b5 (.box (E4 l[i]))):=(by simp only[D7,C9,D0]at* <;>grind)
  refine C2 [3,9,10,11,16,17] (fun(j:Nat)=>[(18,.int .i64 j)]) (fun(j:Nat)=>H.set g (.map (D2 tt ((A0l l i j).foldl I8 [])))) (fun(j:Nat)=>j≤l[i].t.length) (fun(j:Nat)=>l[i].t.length-j) (0) (D1u _) (by simp only[go_sem,seval]) ((by simp only[D7,C9,D0]at* <;>grind)) ?_;rintro T rfl j hj;by_cases r:j<l[i].t.length
  ·have p:decide ((j:Int)<l[i].t.length)=true:=D1b (by omega);have G:(j:Int)<l[i].t.length:=by omega
   have u:((A0l l i j).foldl I8 []).Nodup:=V3 _ [] List.nodup_nil;have X:=B2m l i j m r;repeat' (first|with_reducible apply D1Z|simp only[go_sem,seval,p,G,A9 _ _ r,C0 _ _ r,i6 _ _ _ _ u,A3V]|simp(disch:=omega) only[A4,A9]|simp(disch:=first|omega|grind) only[B3]|(intro d;try simp only[A6]at d)|omega)
   rename_i Y;have L:=d;clear d;refine C1 (j+1) (by omega) (by omega) (by(try simp only[go_sem,seval])<;>(try simp(disch:=omega) [A4])) ?_;rw[X,B2n];refine Heap.Le.trans (A2 (b:=Y) (o:=.box (P2 l[i].t[j])) (by simp only[A6];exact L)) (B34 L.1)
  ·have p:decide ((j:Int)<l[i].t.length)=false:=D1c (by omega);have I:j=l[i].t.length:=by omega
   subst I;rw[B2l l i m];repeat' (first|simp only[go_sem,seval,p]|simp(disch:=omega) only[A4,A9])
   exact C1 (i+1) (by omega) (by omega) (by(try simp only[go_sem,seval])<;>(try simp(disch:=omega) [A4])) (D20 _)
 ·have q:decide ((i:Int)<l.length)=false:=D1c (by omega);have J:i=l.length:=by omega
  subst J;rw[B5C];have u:((P7 l).foldl I8 []).Nodup:=V3 _ [] List.nodup_nil;have y:=A8D (P7 l) [];rw[D1g,Nat.zero_add]at y;have x: ∀s,s∈(P7 l).foldl I8 []↔s∈P7 l:=fun s=>by rw[A8C];simp
  generalize (P7 l).foldl I8 []=ks at u y x⊢;repeat' simp only[go_sem,seval,q]
  refine C0E g _ fun A z=>?_;have f1:((H.set g (.map (D2 tt ks))).set A (.box [.map g])) A=some (.box [.map g]):=A0 _ _;have f2:((H.set g (.map (D2 tt ks))).set A (.box [.map g])) g=some (.map (D2 tt ks)):=(A2 z) _ _ (A0 _ _);repeat' simp only[go_sem,seval]
  refine C0F A g tt ks (by omega) (fun s hs=>hst s ((x s).1 hs)) _ f1 f2 fun v hv hm=>?_;have e:v=A2E l:=A6u hv (B0y l) fun s=>by rw[hm,x,A75]
  rw[e];repeat' simp only[go_sem,seval]
  exact D21 ((A2 O).trans (A2 z)) h
end Go.Proofs.YtibphjonmikciaaGreatDoor
namespace Go.Fo
open Go Go.Av Go.Lexs Go.Lin
theorem S3{f k:Fm}(h:k∈f.ks):SizeOf.sizeOf k<SizeOf.sizeOf f:=by
 cases f with
 |mk o n l s ks=>
  have:SizeOf.sizeOf k<SizeOf.sizeOf ks:=List.sizeOf_lt_of_mem h;simp only[Fm.mk.sizeOf_spec];omega
def J5:Fm→Nat
 | .mk _ _ l _ ks=>1+l.t.length+wtL ks
where wtL:List Fm→Nat
 | []=>0
 |f::fs=>J5 f+wtL fs
theorem K5(f:Fm):J5 f=1+f.l.t.length+J5.wtL f.ks:=by cases f;rw[J5];rfl
theorem A58(l m:List Fm):J5.wtL (l++m)=J5.wtL l+J5.wtL m:=by
 induction l with
 |nil=>simp[J5.wtL]
 |cons f l d=>simp only[D2k,J5.wtL,d];omega
theorem C0O(l:List Fm):l.length≤J5.wtL l:=by
 induction l with
 |nil=>simp
 |cons f l d=>rw[J5.wtL,D1e,K5];omega
theorem C0P{l:List Fm}{f:Fm}(h:f∈l):J5 f≤J5.wtL l:=by
 induction l with
 |nil=>cases h
 |cons g l d=>
  rw[J5.wtL];rcases D11.1 h with rfl|h
  ·omega
  ·have:=d h;omega
theorem A4y(l:List Fm)(i:Nat)(h:i<l.length):J5.wtL (l.drop i)=J5 l[i]+J5.wtL (l.drop (i+1)):=by
 rw[D14 h,J5.wtL]
theorem FmFit.inv{f:Fm}(h:FmFit f):S8 f.op∧S8 f.n∧S7 f.l∧f.s.size≤140737488351232∧f.ks.length≤1466015503658∧∀k∈f.ks,FmFit k:=by
 cases h with
 |mk o n l s ks ho hn hl hs hk h=>exact⟨ho,hn,hl,hs,hk,h⟩
theorem FmFit.kid{f:Fm}(h:FmFit f){k:Fm}(hk:k∈f.ks):FmFit k:=h.inv.2.2.2.2.2 k hk
theorem FmFit.lin{f:Fm}(h:FmFit f):S7 f.l:=h.inv.2.2.1
theorem FmFit.txt{f:Fm}(h:FmFit f):f.s.size≤140737488351232:=h.inv.2.2.2.1
theorem FmFit.kl{f:Fm}(h:FmFit f):f.ks.length≤1466015503658:=h.inv.2.2.2.2.1
theorem A2v(f:Fm):F4 f≤J5 f:=by
 induction f using R4 with
 |h o n l s ks d=>
  rw[F4,J5];have key: ∀m:List Fm,(∀k∈m,F4 k≤J5 k)→F4.nodesL m≤J5.wtL m:=by
   intro m
   induction m with
   |nil=>intro _;simp[F4.nodesL]
   |cons f fs d=>intro h;rw[F4.nodesL,J5.wtL];have:=d (fun k hk=>h k (D1r _ hk));have:=h f (D1k ..);omega
  have:=key ks d;omega
def foldF{σ :Type}(step: σ →Fm→Int→ σ):Fm→Int→ σ → σ
 | .mk o n l s ks,d,a=>foldK step ks (IntKind.i64.wrap (d+1)) (step a (.mk o n l s ks) d)
where foldK {σ :Type} (step: σ →Fm→Int→ σ):List Fm→Int→ σ → σ
 | [],_,a=>a
 |f::fs,d,a=>foldK step fs d (foldF step f d a)
theorem A2N{σ :Type}(step: σ →Fm→Int→ σ)(f:Fm)(d:Int)(a: σ):foldF step f d a=foldF.foldK step f.ks (IntKind.i64.wrap (d+1)) (step a f d):=by cases f;rw[foldF];rfl
theorem B5D{σ :Type}(step: σ →Fm→Int→ σ)(l m:List Fm)(d:Int)(a: σ):foldF.foldK step (l++m) d a=foldF.foldK step m d (foldF.foldK step l d a):=by
 induction l generalizing a with
 |nil=>rfl
 |cons f l e=>simp only[D2k,foldF.foldK,e]
theorem C3{σ :Type}(step: σ →Fm→Int→ σ)(l:List Fm)(i:Nat)(h:i<l.length)(d:Int)(a: σ):foldF.foldK step (l.take (i+1)) d a=foldF step l[i] d (foldF.foldK step (l.take i) d a):=by
 rw[D1s h,B5D];rfl
theorem B5E{σ :Type}(step: σ →Fm→Int→ σ)(I: σ →Prop)(m: ∀a g d,I a→I (step a g d)): ∀f d a,I a→I (foldF step f d a):=by
 intro f
 induction f using R4 with
 |h o n l s ks j=>
  intro d a h;rw[A2N];have e:=m _ (.mk o n l s ks) d h;revert e;generalize step a (.mk o n l s ks) d=b;show I b→I (foldF.foldK step ks _ b);generalize IntKind.i64.wrap (d+1)=d1;clear h
  induction ks generalizing b with
  |nil=>intro e;exact e
  |cons f fs i=>
   intro e;rw[foldF.foldK];exact i (fun k hk=>j k (D1r _ hk)) _ (j f (D1k ..) _ _ e)
def A0y(a:Int×Int)(_:Fm)(d:Int):Int×Int:=(IntKind.i64.wrap (a.1+1),max a.2 d)
theorem B7N: ∀(f:Fm) (d:Int) (a:Int×Int),0≤d→d+J5 f≤2000000→0≤a.1→a.1+J5 f≤2000000→foldF A0y f d a=(a.1+F4 f,max a.2 (d+N4 f-1)):=by
 intro f
 induction f using R4 with
 |h o n l s ks j=>
  intro d a p q r u;have hw:J5 (.mk o n l s ks)=1+l.t.length+J5.wtL ks:=K5 _;rw[hw]at q u;have x:IntKind.i64.wrap (d+1)=d+1:=A4 (by omega) (by omega);have e:IntKind.i64.wrap (a.1+1)=a.1+1:=A4 (by omega) (by omega);rw[A2N,F4,N4,x];have key: ∀(m:List Fm),(∀k∈m,k∈ks)→J5.wtL m≤J5.wtL ks→∀a:Int×Int,0≤a.1→a.1+J5.wtL m≤2000000→foldF.foldK A0y m (d+1) a=(a.1+F4.nodesL m,if m= []then a.2 else max a.2 (d+N4.deepL m)):=by
   intro m
   induction m with
   |nil=>intro _ _ a _ _;simp[foldF.foldK,F4.nodesL]
   |cons f fs i=>
    intro hm hl a y h1;rw[J5.wtL]at hl h1;have hn:=A2v f;rw[foldF.foldK,j f (hm f (D1k ..)) (d+1) a (by omega) (by omega) y (by omega),i (fun k hk=>hm k (D1r _ hk)) (by omega) _ (by simp only[];omega) (by simp only[];omega),F4.nodesL,N4.deepL];have h1:1≤N4 f:=by cases f;rw[N4];omega
    refine Prod.ext ?_ ?_
    ·show a.1+_+_=a.1+_;push_cast;omega
    ·simp only[reduceCtorEq,if_false];cases fs with
     |nil=>simp only[if_true,N4.deepL];push_cast;omega
     |cons g fs=>simp only[reduceCtorEq,if_false];push_cast;omega
  show foldF.foldK A0y ks (d+1) (A0y a _ d)=_;rw[key ks (fun _ h=>h) (D1t _) _ (by unfold A0y;simp only[e];omega) (by unfold A0y;simp only[e];omega)];unfold A0y;simp only[e];refine Prod.ext ?_ ?_
  ·show a.1+1+_=a.1+_;push_cast;omega
  ·cases ks with
   |nil=>simp only[if_true,N4.deepL];push_cast;omega
   |cons g fs=>simp only[reduceCtorEq,if_false];push_cast;omega
def A9X(p:Fm→Bool)(a:Bool)(f:Fm)(_:Int):Bool:=a&&p f
theorem B7O(p:Fm→Bool): ∀(f:Fm) (d:Int) (a:Bool),foldF (A9X p) f d a=(a&&G8 p f):=by
 intro f
 induction f using R4 with
 |h o n l s ks i=>
  intro d a;rw[A2N,G8];have key: ∀(m:List Fm),(∀k∈m,k∈ks)→∀(e:Int) (a:Bool),foldF.foldK (A9X p) m e a=(a&&G8.allK p m):=by
   intro m
   induction m with
   |nil=>intro _ e a;simp[foldF.foldK,G8.allK]
   |cons f fs g=>
    intro hm e a;rw[foldF.foldK,i f (hm f (D1k ..)),g (fun k hk=>hm k (D1r _ hk)),G8.allK,Bool.and_assoc]
  show foldF.foldK (A9X p) ks _ (A9X p a _ d)=_;rw[key ks (fun _ h=>h)];unfold A9X;rw[Bool.and_assoc]
theorem A1k(p:Fm→Bool)(f:Fm):G8 p f=(p f&&f.ks.all (G8 p)):=by
 cases f with
 |mk o n l s ks=>
  rw[G8]
  congr 1
  show G8.allK p ks=ks.all (G8 p)
  induction ks with
  |nil=>rfl
  |cons f fs d=>rw[G8.allK,d,D2c]
theorem A1F(f:Fm)(d:Nat):(N4 f≤d)↔1≤d∧∀k∈f.ks,N4 k≤d-1:=by
 cases f with
 |mk o n l s ks=>
  rw[N4];have key: ∀(m:List Fm) (e:Nat),N4.deepL m≤e↔∀k∈m,N4 k≤e:=by
   intro m e
   induction m with
   |nil=>simp[N4.deepL]
   |cons f fs g=>rw[N4.deepL,List.forall_mem_cons,←g];omega
  show _↔1≤d∧∀k∈ks,_;rw[←key];omega
theorem B5F(f:Fm):F4 f=1+F4.nodesL f.ks:=by cases f;rw[F4];rfl
theorem B2o(l m:List Fm):F4.nodesL (l++m)=F4.nodesL l+F4.nodesL m:=by
 induction l with
 |nil=>simp[F4.nodesL]
 |cons f l d=>simp only[D2k,F4.nodesL,d];omega
theorem A2w(l:List Fm)(i:Nat)(h:i<l.length):F4.nodesL (l.take (i+1))=F4.nodesL (l.take i)+F4 l[i]:=by
 rw[D1s h,B2o];simp[F4.nodesL]
theorem B5G(l:List Fm):F4.nodesL l≤J5.wtL l:=by
 induction l with
 |nil=>simp[F4.nodesL]
 |cons f l d=>rw[F4.nodesL,J5.wtL];have:=A2v f;omega
def D9:Fm→List ByteArray
 | .mk _ _ l _ ks=>l.t.map (·.v)++intsL ks
where intsL:List Fm→List ByteArray
 | []=>[]
 |f::fs=>D9 f++intsL fs
def C7:Fm→List ByteArray
 | .mk o _ _ s ks=>(if o=3 then [s]else [])++boolsL ks
where boolsL:List Fm→List ByteArray
 | []=>[]
 |f::fs=>C7 f++boolsL fs
theorem B7P(f:Fm):D9 f=f.l.t.map (·.v)++D9.intsL f.ks:=by cases f;rw[D9];rfl
theorem B5H(f:Fm):C7 f=(if f.op=3 then [f.s]else [])++C7.boolsL f.ks:=by cases f;rw[C7];rfl
theorem B5I(l m:List Fm):D9.intsL (l++m)=D9.intsL l++D9.intsL m:=by
 induction l with
 |nil=>rfl
 |cons f l d=>simp only[D2k,D9.intsL,d,D2N]
theorem B2p(l m:List Fm):C7.boolsL (l++m)=C7.boolsL l++C7.boolsL m:=by
 induction l with
 |nil=>rfl
 |cons f l d=>simp only[D2k,C7.boolsL,d,D2N]
theorem A0Y(l:List Fm)(i:Nat)(h:i<l.length):D9.intsL (l.take (i+1))=D9.intsL (l.take i)++D9 l[i]:=by
 rw[D1s h,B5I];simp[D9.intsL]
theorem i7(l:List Fm)(i:Nat)(h:i<l.length):C7.boolsL (l.take (i+1))=C7.boolsL (l.take i)++C7 l[i]:=by
 rw[D1s h,B2p];simp[C7.boolsL]
theorem A39(f:Fm):(D9 f).length+(C7 f).length≤J5 f:=by
 induction f using R4 with
 |h o n l s ks d=>
  rw[D9,C7,J5];have key: ∀m:List Fm,(∀k∈m,(D9 k).length+(C7 k).length≤J5 k)→(D9.intsL m).length+(C7.boolsL m).length≤J5.wtL m:=by
   intro m
   induction m with
   |nil=>intro _;simp[D9.intsL,C7.boolsL]
   |cons f fs d=>intro h;rw[D9.intsL,C7.boolsL,J5.wtL,D1f,D1f];have:=d (fun k hk=>h k (D1r _ hk));have:=h f (D1k ..);omega
  have:=key ks d;simp only[D1f,D2I];split<;>simp<;>omega
theorem B5J(l:List Fm):(D9.intsL l).length+(C7.boolsL l).length≤J5.wtL l:=by
 induction l with
 |nil=>simp[D9.intsL,C7.boolsL]
 |cons f fs d=>rw[D9.intsL,C7.boolsL,J5.wtL,D1f,D1f];have:=A39 f;omega
theorem B5K{f:Fm}(h:FmFit f): ∀s∈D9 f,s.size≤140737488351232:=by
 induction f using R4 with
 |h o n l s ks e=>
  rw[D9];intro x hx;rcases D1z.1 hx with hx|hx
  ·obtain⟨t,g,rfl⟩:=D2X.1 hx;exact h.lin.str t g
  ·have key: ∀m:List Fm,(∀k∈m,k∈ks)→∀s∈D9.intsL m,s.size≤140737488351232:=by
    intro m
    induction m with
    |nil=>intro _ s hs;cases hs
    |cons f fs d=>
     intro hm s hs;rcases D1z.1 hs with hs|hs
     ·exact e f (hm f (D1k ..)) (h.kid (hm f (D1k ..))) s hs
     ·exact d (fun k hk=>hm k (D1r _ hk)) s hs
   exact key ks (fun _ h=>h) x hx
theorem B2q{f:Fm}(h:FmFit f): ∀s∈C7 f,s.size≤140737488351232:=by
 induction f using R4 with
 |h o n l s ks e=>
  rw[C7];intro x hx;rcases D1z.1 hx with hx|hx
  ·split at hx
   ·rw[D10]at hx;subst hx;exact h.txt
   ·cases hx
  ·have key: ∀m:List Fm,(∀k∈m,k∈ks)→∀s∈C7.boolsL m,s.size≤140737488351232:=by
    intro m
    induction m with
    |nil=>intro _ s hs;cases hs
    |cons f fs d=>
     intro hm s hs;rcases D1z.1 hs with hs|hs
     ·exact e f (hm f (D1k ..)) (h.kid (hm f (D1k ..))) s hs
     ·exact d (fun k hk=>hm k (D1r _ hk)) s hs
   exact key ks (fun _ h=>h) x hx
theorem B1I: ∀(f:Fm) (p:List ByteArray×List ByteArray),A0v f p=((D9 f).foldl G9 p.1,(C7 f).foldl G9 p.2):=by
 intro f
 induction f using R4 with
 |h o n l s ks e=>
  rintro⟨a,b⟩;rw[A0v,D9,C7];have key: ∀m:List Fm,(∀k∈m,k∈ks)→∀p,A0v.namesK m p=((D9.intsL m).foldl G9 p.1,(C7.boolsL m).foldl G9 p.2):=by
   intro m
   induction m with
   |nil=>intro _ p;rfl
   |cons f fs d=>
    intro hm p;rw[A0v.namesK,d (fun k hk=>hm k (D1r _ hk)),e f (hm f (D1k ..)),D9.intsL,C7.boolsL,D2R,D2R]
  rw[key ks (fun _ h=>h),D2R,D2R];refine Prod.ext rfl ?_;show List.foldl G9 (if o=3 then G9 b s else b) _=_;split<;>rfl
noncomputable def A5x(a:List ByteArray×List ByteArray)(f:Fm)(_:Int):List ByteArray×List ByteArray:=((f.l.t.map (·.v)).foldl I8 a.1,if f.op=3 then I8 a.2 f.s else a.2)
theorem B7Q: ∀(f:Fm) (d:Int) (p:List ByteArray×List ByteArray),foldF A5x f d p=((D9 f).foldl I8 p.1,(C7 f).foldl I8 p.2):=by
 intro f
 induction f using R4 with
 |h o n l s ks i=>
  rintro d ⟨a,b⟩;rw[A2N,D9,C7];have key: ∀m:List Fm,(∀k∈m,k∈ks)→∀(e:Int) p,foldF.foldK A5x m e p=((D9.intsL m).foldl I8 p.1,(C7.boolsL m).foldl I8 p.2):=by
   intro m
   induction m with
   |nil=>intro _ e p;rfl
   |cons f fs g=>
    intro hm e p;rw[foldF.foldK,g (fun k hk=>hm k (D1r _ hk)),i f (hm f (D1k ..)),D9.intsL,C7.boolsL,D2R,D2R]
  show foldF.foldK A5x ks _ _=_;rw[key ks (fun _ h=>h),D2R,D2R];refine Prod.ext rfl ?_;show List.foldl I8 (if o=3 then I8 b s else b) _=_;split<;>rfl
def upS(l:List ByteArray):List ByteArray:=l.foldl G9 []
theorem A9Y(l:List ByteArray):(upS l).Pairwise fun x y=>X2 x y=true:=B0x _ _ .nil
theorem U2(l:List ByteArray)(x:ByteArray):x∈upS l↔x∈l:=by unfold upS;rw[A74];simp
noncomputable def K1(l:List ByteArray):List ByteArray:=l.foldl I8 []
theorem A1l(l:List ByteArray):(K1 l).Nodup:=V3 _ _ List.nodup_nil
theorem G4(l:List ByteArray)(x:ByteArray):x∈K1 l↔x∈l:=by unfold K1;rw[Go.Lin.A8C];simp
theorem B7R{l:List ByteArray}(h:l.Pairwise fun x y=>X2 x y=true):l.Nodup:=h.imp fun {a b} g e=>by subst e;rw[y5]at g;cases g
theorem A4A(l:List ByteArray):(K1 l).length=(upS l).length:=((List.perm_ext_iff_of_nodup (A1l l) (B7R (A9Y l))).2 fun x=>by rw[G4,U2]).length_eq
theorem A59(l:List ByteArray):(K1 l).length≤l.length:=by have:=A8D l [];simpa [K1]using this
theorem A1G(l m:List ByteArray):meetL l m=true↔∃x,x∈l∧x∈m:=by
 unfold meetL;simp only[List.any_eq_true,D1v];constructor
 ·rintro⟨x,hx,y,d,rfl⟩;exact⟨x,hx,d⟩
 ·rintro⟨x,hx,d⟩;exact⟨x,hx,x,d,rfl⟩
theorem A1m{l m l' m':List ByteArray}(h1: ∀x,x∈l↔x∈l')(d: ∀x,x∈m↔x∈m'):meetL l m=meetL l' m':=by
 rw[Bool.eq_iff_iff,A1G,A1G];exact exists_congr fun x=>by rw[h1,d]
def ivF(f:Fm):List ByteArray:=upS (D9 f)
def bvF(f:Fm):List ByteArray:=upS (C7 f)
theorem B2r(f:Fm):A0v f ([],[])=(ivF f,bvF f):=B1I f _
theorem A1H(f:Fm):E3 f=(G8 D5 f&&decide (N4 f≤60)&&decide (F4 f≤200)&& !meetL (ivF f) (bvF f)&&decide ((ivF f).length+(bvF f).length≤12)):=by
 unfold E3;rw[B2r]
end Go.Fo
namespace Go.Lin
open Go Go.Av
def X8{α :Type}(p: α →Bool):List α →Int
 | []=> -1
 |a::l=>if p a=true then 0 else if X8 p l<0 then-1 else X8 p l+1
theorem A1n{α :Type}(p: α →Bool): ∀l,-1≤X8 p l
 | []=>by rw[X8];omega
 |a::l=>by have:=A1n p l;rw[X8];split;omega;split<;>omega
theorem A4C{α :Type}(p: α →Bool): ∀l,decide (0≤X8 p l)=l.any p
 | []=>rfl
 |a::l=>by
  have:=A4C p l;rw[X8,D2e,←this];split
  ·rename_i h;simp[h]
  ·rename_i h;simp only[h,Bool.false_or];apply D2C.2;split<;>omega
theorem A4z{α :Type}(p: α →Bool)(l:List α)(k:Nat)(h:k<l.length):X8 p (l.drop k)=if p l[k]=true then 0 else if X8 p (l.drop (k+1))<0 then-1 else X8 p (l.drop (k+1))+1:=by
 rw[D14 h,X8]
end Go.Lin
namespace Go.Proofs.YtibphjonmikciaaGreatDoor
open Go Go.Av Go.Lin
attribute [local irreducible] ACalls Q4
theorem B7S{Q}(p:Row→Bool)(l:List Row)(hl:l.length≤1000000000000000)(g:Nat)(first cap:List D)(H:Heap)
  (i: ∀a∈l,∀(Q:D→Heap→Prop),Q (.bool (p a)) H→D8 g (first++[.agg (C5 a)]++cap) H Q) (h:Q (.int .i64 (X8 p l)) H):
  D8 221 [.sl 4 (Rw C5 l),.fn (.func g) first cap] H Q:=by
 refine A8 [] A5 Tryz.func221 rfl ?_;simp only[go_sem,seval,Tryz.results221];refine C2 [0,1,7] (fun(k:Nat)=>[(8,.int .i64 k)]) (fun(k:Nat)=>H) (fun(k:Nat)=>k≤l.length∧X8 p l=if X8 p (l.drop k)<0 then-1 else X8 p (l.drop k)+k) (fun(k:Nat)=>l.length-k) (0) (⟨D1u _,by have:=A1n p l;rw[List.drop_zero];split<;>omega⟩) (by simp only[go_sem,seval]) (D20 _) ?_;rintro m rfl k ⟨hk,hp⟩;by_cases d:k<l.length
 ·have e:decide ((k:Int)<l.length)=true:=D1b (by omega);rw[A4z p l k d]at hp;repeat' (first|with_reducible apply D1Z|simp only[go_sem,seval,e,A9 _ _ d]|simp(disch:=omega) only[A4,A9]|intro j|with_reducible refine i l[k] (D1n d) _ ?_|omega)
  ·have h1:p l[k]=true:=by assumption
   rw[if_pos h1]at hp;simp only[Int.zero_add,show¬((0:Int)<0)by omega,if_false]at hp;rw[hp]at h;exact D22 h
  ·have h1: ¬p l[k]=true:=by simp_all
   rw[if_neg h1]at hp;exact C1 (k+1) ⟨by omega,by rw[hp];have:=A1n p (l.drop (k+1));split<;>split<;>omega⟩ (by omega) (by(try simp only[go_sem,seval])<;>(try simp(disch:=omega) [A4])) (D20 _)
 ·have e:decide ((k:Int)<l.length)=false:=D1c (by omega);rw[List.drop_eq_nil_of_le (by omega),X8]at hp;repeat' simp only[go_sem,seval,e]
  simp only[show ((-1:Int)<0)by omega,if_true]at hp;rw[hp]at h;exact D22 h
theorem C4J{Q}(p:Row→Bool)(l:List Row)(hl:l.length≤1000000000000000)(g:Nat)(first cap:List D)(H:Heap)
  (d: ∀a∈l,∀(Q:D→Heap→Prop),Q (.bool (p a)) H→D8 g (first++[.agg (C5 a)]++cap) H Q) (h:Q (.bool (l.any p)) H):
  D8 285 [.sl 4 (Rw C5 l),.fn (.func g) first cap] H Q:=by
 refine A8 [] A5 Tryz.func285 rfl ?_;simp only[go_sem,seval,Tryz.results285];rw[←A4C]at h;repeat' (first|simp only[go_sem,seval]|with_reducible refine B7S p l hl g first cap _ d ?_)
 exact D22 h
end Go.Proofs.YtibphjonmikciaaGreatDoor
namespace Go.Lin
open Go Go.Av Go.Lexs
section
variable {P:Program} {t:Nat} {c:Bool}
@[go_sem] theorem C96(a:Int):L4 P .shr t c (.int .u64 a) (.int .u64 1)=some (.int .u64 (a / 2)):=by
 show (if(1:Int)<0 then none else some (D.int .u64 (a.fdiv (2 ^ (min (1:Int).toNat IntKind.u64.bits)))))=_;rw[if_neg (by decide)];have e:(2:Int) ^ (min (1:Int).toNat IntKind.u64.bits)=2:=by decide
 rw[e,Int.fdiv_eq_ediv_of_nonneg _ (by decide)]
end
theorem B7T: ∀(x y:List UInt8),decide (Lib.compareBytes x y<0)=Op.bytesLess x y
 | [],[]=>rfl
 | [],y::g=>rfl
 |x::xs,[]=>rfl
 |x::xs,y::g=>by
  unfold Lib.compareBytes Op.bytesLess;have h:=B7T xs g;by_cases h1:x<y
  ·simp[h1]
  ·by_cases d:y<x
   ·have:x≠y:=fun e=>by subst e;exact h1 d
    simp[h1,d,this]
   ·have:x=y:=UInt8.le_antisymm (UInt8.not_lt.1 d) (UInt8.not_lt.1 h1);simp[h1,d,this,h]
theorem B35: ∀(x y:List UInt8),decide (Lib.compareBytes x y=0)=decide (x=y)
 | [],[]=>rfl
 | [],y::g=>rfl
 |x::xs,[]=>rfl
 |x::xs,y::g=>by
  unfold Lib.compareBytes;have h:=B35 xs g;by_cases h1:x<y
  ·have:x≠y:=fun e=>by subst e;exact absurd h1 (UInt8.lt_irrefl _)
   simp[h1,this]
  ·by_cases d:y<x
   ·have:x≠y:=fun e=>by subst e;exact absurd d h1
    simp[h1,d,this]
   ·have:x=y:=UInt8.le_antisymm (UInt8.not_lt.1 d) (UInt8.not_lt.1 h1);subst this;simp[UInt8.lt_irrefl];simpa using h
end Go.Lin
namespace Go.Proofs.YtibphjonmikciaaGreatDoor
open Go Go.Av Go.Lexs Go.Lin
attribute [local irreducible] ACalls Q4
theorem B7U{Q}(s:ByteArray)(H:Heap)(h:Q (.bool false) H):D8 208 [.str s] H Q:=by
 refine A8 [] A5 Tryz.func208 rfl ?_;simp only[go_sem,seval,Tryz.results208];repeat' (first|with_reducible apply D1Z|simp only[go_sem,seval]|intro d|omega)
 exact D22 h
theorem B36{Q}(x y:ByteArray)(H:Heap)(h:Q (.bool (X2 x y)) H):D8 166 [.str x,.str y] H Q:=by
 refine A8 [] A5 Tryz.func166 rfl ?_;simp only[go_sem,seval,Tryz.results166];repeat' (first|simp only[go_sem,seval]|with_reducible refine B7U _ _ ?_)
 exact D22 h
theorem B5L{Q}(o:List ByteArray)(A:o.Pairwise fun x y=>X2 x y=true)(s:ByteArray)(i:Nat)(z:i<o.length)(he:o[i]=s)(hlen:o.length≤1000000000)(H:Heap)(h:Q (.tuple [.int .i64 (i:Int),.bool true]) H):
  D8 229 [.sl 1 (Rw L7 o),.str s] H Q:=by
 refine A8 [] A5 Tryz.func229 rfl ?_;simp only[go_sem,seval,Tryz.results229];have r:=List.pairwise_iff_getElem.1 A;repeat' (first|with_reducible apply D1Z|simp only[go_sem,seval]|simp(disch:=omega) only[A4,A9]|intro T|omega)
 refine C2 [0,1,6] (fun(p:Nat×Nat)=>[(7,.int .i64 (p.1:Int)),(8,.int .i64 (p.2:Int))]) (fun(p:Nat×Nat)=>H) (fun(p:Nat×Nat)=>p.1≤i∧i≤p.2∧p.2≤o.length) (fun(p:Nat×Nat)=>p.2-p.1) ((0,o.length)) (⟨D1u _,by omega,D1t _⟩) (by simp only[go_sem,seval]) (D20 _) ?_;rintro W rfl ⟨lo,d⟩ ⟨I,J,L⟩;simp only at I J L;by_cases U:lo<d
 ·have q:decide ((lo:Int)<d)=true:=D1b (by omega);obtain⟨m,hm⟩: ∃m,m=(lo+d) / 2:=⟨_,rfl⟩
  have j:m<o.length:=by omega
  have u:(m:Int)<o.length:=by omega
  have M:IntKind.u64.wrap ((lo:Int)+d) / 2=(m:Int):=by rw[A0a (by omega) (by omega)];omega
  have O:IntKind.i64.wrap (m:Int)=m:=by rw[A4 (by omega) (by omega)]
  have hc:X2 o[m] s=decide (m<i):=by
   by_cases g:m<i
   ·rw[D1b g,←he];exact r m i j z g
   ·rw[D1c g,←he];rcases Nat.lt_or_eq_of_le (Nat.le_of_not_lt g)with C|C
    ·have:=r i m z j C;rw[←D2v];intro V;have:=a7 this V;rw[y5]at this;cases this
    ·simp only[C];exact y5 _
  by_cases g:m<i
  ·rw[D1b g]at hc;repeat' (first|with_reducible apply D1Z|simp only[go_sem,seval,q,M,O,u,A9 _ _ j,C0 _ _ j,hc]|simp(disch:=omega) only[A4,A9]|with_reducible refine B36 _ _ _ ?_|omega)
   exact C1 (m+1,d) ⟨by simp only[];omega,J,L⟩ (by simp only[];omega) (by(try simp only[go_sem,seval])<;>(try simp(disch:=omega) [A4])) (D20 _)
  ·rw[D1c g]at hc;repeat' (first|with_reducible apply D1Z|simp only[go_sem,seval,q,M,O,u,A9 _ _ j,C0 _ _ j,hc]|simp(disch:=omega) only[A4,A9]|with_reducible refine B36 _ _ _ ?_|omega)
   exact C1 (lo,m) ⟨I,by simp only[];omega,by simp only[];omega⟩ (by simp only[];omega) (by simp only[go_sem,seval]) (D20 _)
 ·have q:decide ((lo:Int)<d)=false:=D1c (by omega);have e:lo=i:=by omega
  subst e;have G:(lo:Int)<o.length:=by omega
  repeat' (first|with_reducible apply D1Z|simp only[go_sem,seval,q,G,A9 _ _ z,C0 _ _ z,he]|omega)
  exact D22 h
theorem B2s{Q}(x:VlV)(s:ByteArray)(H:Heap)(h:Q (.int .i64 (Lib.compareBytes (B x.v) (B s))) H):D8 105 [.agg (vlC x),.str s] H Q:=by
 refine A8 [] A5 Tryz.func105 rfl ?_;simp only[go_sem,seval,Tryz.results105];repeat' (first|simp only[go_sem,seval]|intro d|with_reducible refine B5A _ _ _ ?_)
 exact D21 (by simp only[D7,C9,D0]at* <;>grind) h
def C97(l:List VlV)(s:ByteArray)(i:Nat):Prop:=i≤l.length∧(∀(k:Nat) (hk:k<l.length),k<i→X2 l[k].v s=true)∧∀hk:i<l.length,X2 l[i].v s=false
theorem B2t{Q}(l:List VlV)(hv:N8 l=true)(s:ByteArray)(hlen:l.length≤1000000000000000)(H:Heap)(h: ∀i,C97 l s i→Q (.tuple [.int .i64 (i:Int),.bool (if hk:i<l.length then decide (l[i].v=s)else false)]) H):
  D8 104 [.sl 2 (Rw vlC l),.str s,.fn (.func 105) [] []] H Q:=by
 refine A8 [] A5 Tryz.func104 rfl ?_;simp only[go_sem,seval,Tryz.results104];have x:=A78 hv;repeat' (first|with_reducible apply D1Z|simp only[go_sem,seval]|simp(disch:=omega) only[A4,A9]|intro J|omega)
 refine C2 [0,1,2,8] (fun(p:Nat×Nat)=>[(9,.int .i64 (p.1:Int)),(10,.int .i64 (p.2:Int))]) (fun(p:Nat×Nat)=>H) (fun(p:Nat×Nat)=>p.1≤p.2∧p.2≤l.length∧(∀(k:Nat) (hk:k<l.length),k<p.1→X2 l[k].v s=true)∧∀(k:Nat) (hk:k<l.length),p.2≤k→X2 l[k].v s=false) (fun(p:Nat×Nat)=>p.2-p.1) ((0,l.length)) (⟨D1u _,D1t _,fun k _ h=>absurd h (D2p _),fun k hk h=>absurd hk (by simp only[]at h;omega)⟩) (by simp only[go_sem,seval]) (D20 _) ?_;rintro T rfl ⟨lo,d⟩ ⟨L,z,A,C⟩;simp only at L z A C;by_cases M:lo<d
 ·have o:decide ((lo:Int)<d)=true:=D1b (by omega);obtain⟨m,hm⟩: ∃m,m=(lo+d) / 2:=⟨_,rfl⟩
  have j:m<l.length:=by omega
  have y:(m:Int)<l.length:=by omega
  have G:IntKind.u64.wrap ((lo:Int)+d) / 2=(m:Int):=by rw[A0a (by omega) (by omega)];omega
  have I:IntKind.i64.wrap (m:Int)=m:=by rw[A4 (by omega) (by omega)]
  have hc:decide (Lib.compareBytes (B l[m].v) (B s)<0)=X2 l[m].v s:=B7T _ _;cases g:X2 l[m].v s with
  |true=>
   rw[g]at hc;repeat' (first|with_reducible apply D1Z|simp only[go_sem,seval,o,G,I,y,A9 _ _ j,C0 _ _ j,hc]|simp(disch:=omega) only[A4,A9]|with_reducible refine B2s _ _ _ ?_|omega)
   refine C1 (m+1,d) ⟨by simp only[];omega,z,fun k hk q=>?_,C⟩ (by simp only[];omega) (by(try simp only[go_sem,seval])<;>(try simp(disch:=omega) [A4])) (D20 _);simp only[]at q;rcases Nat.lt_or_ge k m with u|u
   ·exact a7 (x k m hk j u) g
   ·have:k=m:=by omega
    subst this;exact g
  |false=>
   rw[g]at hc;repeat' (first|with_reducible apply D1Z|simp only[go_sem,seval,o,G,I,y,A9 _ _ j,C0 _ _ j,hc]|simp(disch:=omega) only[A4,A9]|with_reducible refine B2s _ _ _ ?_|omega)
   refine C1 (lo,m) ⟨by simp only[];omega,by simp only[];omega,A,fun k hk q=>?_⟩ (by simp only[];omega) (by simp only[go_sem,seval]) (D20 _);simp only[]at q;rcases Nat.lt_or_eq_of_le q with u|u
   ·rw[←D2v];intro O;have:=a7 (x m k j hk u) O;rw[g]at this;cases this
   ·subst u;exact g
 ·have o:decide ((lo:Int)<d)=false:=D1c (by omega);have e:lo=d:=by omega
  subst e;have h:=h lo ⟨z,A,fun hk=>C lo hk (D1t _)⟩;by_cases hl:lo<l.length
  ·have r:(lo:Int)<l.length:=by omega
   have hc:decide (Lib.compareBytes (B l[lo].v) (B s)=0)=decide (l[lo].v=s):=by
    rw[B35];exact D2C.2 ⟨fun g=>N7 g,fun g=>by rw[g]⟩
   rw[dif_pos hl]at h;repeat' (first|with_reducible apply D1Z|simp only[go_sem,seval,o,r,A9 _ _ hl,C0 _ _ hl,hc]|with_reducible refine B2s _ _ _ ?_|omega)
   exact D22 h
  ·have r: ¬(lo:Int)<l.length:=by omega
   rw[dif_neg hl]at h;repeat' simp only[go_sem,seval,o,r]
   exact D22 h
theorem B1J{Q}(l:List VlV)(hv:N8 l=true)(s:ByteArray)(hlen:l.length≤1000000000000000)(H:Heap)(h:Q (.tuple [.int .i64 ((P9 l s).getD 0),.bool (P9 l s).isSome]) H):D8 62 [.sl 2 (Rw vlC l),.str s] H Q:=by
 refine A8 [] A5 Tryz.func62 rfl ?_;simp only[go_sem,seval,Tryz.results62];repeat' (first|with_reducible apply D1Z|simp only[go_sem,seval]|simp(disch:=omega) only[A9,A9P]|intro e|omega)
 refine B2t l hv s hlen _ fun i hp=>?_;obtain⟨j,m,o⟩:=hp;rw[A9P hv j m o]at h;by_cases hl:i<l.length
 ·have d:(i:Int)<l.length:=by omega
  rw[dif_pos hl]at h⊢;by_cases g:l[i].v=s
  ·rw[if_pos g]at h;rw[D1b g];simp only[Option.getD_some,Option.isSome_some]at h;repeat' (first|with_reducible apply D1Z|simp only[go_sem,seval,d,A9 _ _ hl,C0 _ _ hl]|omega)
   exact D22 h
  ·rw[if_neg g]at h;rw[D1c g];simp only[Option.getD_none,Option.isSome_none]at h;repeat' simp only[go_sem,seval]
   exact D22 h
 ·rw[dif_neg hl]at h⊢;simp only[Option.getD_none,Option.isSome_none]at h;repeat' simp only[go_sem,seval]
  exact D22 h
end Go.Proofs.YtibphjonmikciaaGreatDoor
namespace Go.Av
theorem B50{n sz:Nat}{es:List (List D)}{ob:Option Nat}{a:D}{ds:List D}{Q:D→Heap→Prop}{H:Heap}(hn:n=es.length)(hc:OutAt H sz es ob)(h:Fin Q (.tuple (a:: .sl sz es::ds)) (L5 H ob)):Fin Q (.tuple (a::J8 sz n ob::ds)) H:=by
 subst hn;cases ob with
 |none=>
  have e:es= []:=hc;subst e;refine D4 (.tuple _ _ (by simp) fun i d d' h1 g=>?_) h
  match i with
  |0=>cases h1;cases g;exact .same _
  |1=>cases h1;cases g;exact .nil _
  |i+2=>
   simp only[D15]at h1 g;rw[h1]at g;cases g;exact .same _
 |some c=>
  refine Fin.freeze hc (.tuple _ _ (by simp) fun i d d' h1 g=>?_) h
  match i with
  |0=>cases h1;cases g;exact .same _
  |1=>cases h1;cases g;exact .all
  |i+2=>
   simp only[D15]at h1 g;rw[h1]at g;cases g;exact .same _
theorem OutAt.up{H H':Heap}{sz:Nat}{es:List (List D)}{ob:Option Nat}(h:OutAt H sz es ob)(d:H.Le H'):OutAt H' sz es ob:=by
 cases ob with
 |none=>exact h
 |some c=>exact d _ _ h
theorem OutAt.keep{H0 H':Heap}{sz sz':Nat}{es e2:List (List D)}{ob o2:Option Nat}{d:Nat}(h:OutAt H0 sz' e2 o2)(e:Apd H0 sz ob es d H')(g: ∀b,o2=some b→ob≠some b):OutAt H' sz' e2 o2:=by
 cases o2 with
 |none=>exact h
 |some c=>exact e.2.1 c _ h (g c rfl)
structure O3(H Hp:Heap)(sz:Nat)(e1 e2 e3:List (List D))(o1 o2 o3:Option Nat):Prop where
 le:H.Le Hp
 a1:OutAt Hp sz e1 o1
 a2:OutAt Hp sz e2 o2
 a3:OutAt Hp sz e3 o3
 n1: ∀b,o1=some b→H b=none
 n2: ∀b,o2=some b→H b=none
 n3: ∀b,o3=some b→H b=none
 d12: ∀b,o1=some b→o2≠some b
 d13: ∀b,o1=some b→o3≠some b
 d23: ∀b,o2=some b→o3≠some b
theorem O3.nil(H:Heap)(sz:Nat):O3 H H sz [] [] [] none none none:=⟨D20 H,rfl,rfl,rfl,by simp,by simp,by simp,by simp,by simp,by simp⟩
theorem O3.rot{H Hp:Heap}{sz:Nat}{e1 e2 e3:List (List D)}{o1 o2 o3:Option Nat}(h:O3 H Hp sz e1 e2 e3 o1 o2 o3):O3 H Hp sz e2 e3 e1 o2 o3 o1:=
 ⟨h.le,h.a2,h.a3,h.a1,h.n2,h.n3,h.n1,h.d23,fun b e e2=>h.d12 b e2 e,fun b e e2=>h.d13 b e2 e⟩
theorem OutAt.some_of{H:Heap}{sz:Nat}{es:List (List D)}{ob:Option Nat}(h:OutAt H sz es ob){b:Nat}(e:ob=some b):H b=some (.vec sz es):=by subst e;exact h
theorem O3.app1{H Hp H0 H':Heap}{sz:Nat}{e1 e2 e3 e1':List (List D)}{o1 o2 o3:Option Nat}{j:Nat}(h:O3 H Hp sz e1 e2 e3 o1 o2 o3)(d:Hp.Le H0)(i:Apd H0 sz o1 e1' j H'):O3 H H' sz e1' e2 e3 (some j) o2 o3:=by
 have p: ∀{e:List (List D)} {o:Option Nat},OutAt Hp sz e o→(∀b,o1=some b→o≠some b)→o≠some j:=fun {e o} m q hb=>by
  rcases i.2.2 with g|g
  ·have:=d _ _ (m.some_of hb);rw[g]at this;cases this
  ·exact q _ g hb
 refine⟨fun k o hk=>i.2.1 k o (d k o (h.le k o hk)) (fun e=>by have:=h.n1 k e;rw[this]at hk;cases hk),i.1,(h.a2.up d).keep i (fun b e g=>h.d12 b g e),(h.a3.up d).keep i (fun b e g=>h.d13 b g e),fun b e=>?_,h.n2,h.n3,fun b e g=>?_,fun b e g=>?_,h.d23⟩
 ·cases e;rcases i.2.2 with g|g
  ·exact h.le.none (d.none g)
  ·exact h.n1 _ g
 ·cases e;exact p h.a2 h.d12 g
 ·cases e;exact p h.a3 h.d13 g
theorem O3.app2{H Hp H0 H':Heap}{sz:Nat}{e1 e2 e3 d:List (List D)}{o1 o2 o3:Option Nat}{g:Nat}(h:O3 H Hp sz e1 e2 e3 o1 o2 o3)(e:Hp.Le H0)(i:Apd H0 sz o2 d g H'):O3 H H' sz e1 d e3 o1 (some g) o3:=(h.rot.app1 e i).rot.rot
theorem O3.app3{H Hp H0 H':Heap}{sz:Nat}{e1 e2 e3 d:List (List D)}{o1 o2 o3:Option Nat}{g:Nat}(h:O3 H Hp sz e1 e2 e3 o1 o2 o3)(e:Hp.Le H0)(i:Apd H0 sz o3 d g H'):O3 H H' sz e1 e2 d o1 o2 (some g):=(h.rot.rot.app1 e i).rot
theorem O3.ap{H Hp H0:Heap}{j:D→Heap→Prop}{sz d n bx:Nat}{o:Go.Av.Obj}{e1 e2 e3 e1' xs:List (List D)}{o1 o2 o3:Option Nat}(h:O3 H Hp sz e1 e2 e3 o1 o2 o3)(e:Hp.Le H0)(g:H0 bx=none)(i:xs≠[])(hn:n=e1.length)
  (h1:(n+xs.length)*d≤140737488355328) (m:n+xs.length≤9223372036854775807) (he:e1'=e1++xs)
  (K: ∀b' H',O3 H H' sz e1' e2 e3 (some b') o2 o3→j (.vec b' sz 0 (n+xs.length)) H'):apS (J8 sz n o1) sz d xs (H0.set bx o) j:=
 A5V (P:=default) g i (h.a1.up e) hn h1 m fun b' H' p=>K b' H' (h.app1 e (by rw[he];exact p))
theorem O3.last{H Hp:Heap}{sz:Nat}{e1 e2 e3:List (List D)}{o1 o2 o3:Option Nat}(h:O3 H Hp sz e1 e2 e3 o1 o2 o3):(putB H sz e3 o3).Le (L5 (L5 Hp o1) o2)∧OutAt (L5 Hp o1) sz e2 o2:=by
 have i: ∀(K:Heap) (o:Option Nat) (k:Nat) (x:Go.Av.Obj),K k=some x→o≠some k→L5 K o k=some x:=fun K o k x hk hn=>by
  cases o with
  |none=>exact hk
  |some c=>show (K.del c) k=_;rw[F1 (by rintro rfl;exact hn rfl)];exact hk
 constructor
 ·intro k x hk;have old: ∀y,H k=some y→o1≠some k∧o2≠some k∧Hp k=some y:=fun y g=>
   ⟨fun e=>(by have:=h.n1 _ e;rw[this]at g;cases g),fun e=>(by have:=h.n2 _ e;rw[this]at g;cases g),h.le _ _ g⟩
  have d:o1≠some k∧o2≠some k∧Hp k=some x:=by
   cases o3 with
   |none=>exact old x hk
   |some c=>
    replace hk:(H.set c (.vec sz e3)) k=some x:=hk;simp only[Heap.set]at hk;by_cases e:k=c
    ·rw[if_pos e]at hk;cases hk;rw[e];exact⟨fun e=>h.d13 _ e rfl,fun e=>h.d23 _ e rfl,h.a3⟩
    ·rw[if_neg e]at hk;exact old x hk
  exact i _ _ _ _ (i _ _ _ _ d.2.2 d.1) d.2.1
 ·cases o2 with
  |none=>exact h.a2
  |some c=>exact i _ _ _ _ h.a2 (fun e=>h.d12 _ e rfl)
end Go.Av
namespace Go.Lin
open Go Go.Av
def M3:Option Nat→Int
 |none=> -1
 |some j=>j
def C0Q(c:List Int)(x:Int):Option Nat→Bool
 |none=>true
 |some j=>decide (x.natAbs<(X4 c j).natAbs)
def N1(c:List Int):Nat→Option Nat
 |0=>none
 |i+1=>if X4 c i≠0∧C0Q c (X4 c i) (N1 c i)=true then some i else N1 c i
theorem A2x(c:List Int): ∀(i j:Nat),N1 c i=some j→j<i
 |0,j,h=>by simp[N1]at h
 |i+1,j,h=>by
  rw[N1]at h;split at h
  ·simp at h;omega
  ·have:=A2x c i j h;omega
theorem B1K(c:List Int)(x:Int)(l:List Int)(i:Nat)(b:Option Nat):A62 c (x::l) i b=A62 c l (i+1) (if x≠0∧C0Q c x b=true then some i else b):=by
 cases b<;>rfl
theorem B1L(c:List Int): ∀(l:List Int) (i:Nat),i≤c.length→l=c.drop i→A62 c l i (N1 c i)=N1 c c.length
 | [],i,g,h=>by
  have:c.length≤i:=by
   have:=congrArg List.length h;simp at this;omega
  rw[show i=c.length by omega];rfl
 |x::l,i,g,h=>by
  have d:i<c.length:=by
   have:=congrArg List.length h;simp at this;omega
  rw[D14 d]at h;simp only[List.cons.injEq]at h;have e:X4 c i=x:=by simp[X4,d,h.1]
  rw[B1K,←B1L c l (i+1) (by omega) h.2,N1,e]
theorem A66(r:Row):A4u r=N1 r.c r.c.length:=B1L r.c r.c 0 (D1u _) rfl
theorem I2(c:List Int)(i:Nat)(h:i<c.length):X4 c i=c[i]:=by simp[X4,h]
theorem A40{p:Row→Bool}(l:List Row)(i:Nat)(h:i<l.length):(l.take (i+1)).filter p=(l.take i).filter p++if p l[i]=true then [l[i]]else []:=by
 rw[D1s h,List.filter_append]
 congr 1
 by_cases c:p l[i]=true
 ·rw[if_pos c];simp[c]
 ·rw[if_neg c];simp[c]
theorem X9{p:Row→Bool}(l:List Row):(l.filter p).length≤l.length:=List.length_filter_le _ _
end Go.Lin
namespace Go.Proofs.YtibphjonmikciaaGreatDoor
open Go Go.Av Go.Lin
attribute [local irreducible] ACalls Q4
theorem C0R{Q}(r:Row)(hlen:r.c.length≤1000000)(hr:A5w r 18446744073709551616)(H:Heap)(h:Q (.int .i64 (M3 (A4u r))) H):D8 252 [.agg (C5 r)] H Q:=by
 refine A8 [(5,.par)] A5 Tryz.func252 rfl ?_;simp only[go_sem,seval,Tryz.results252];intro m C;have e1:(H.set m (.box (C5 r))) m=some (.box (C5 r)):=A0 _ _;have A:H.Le (H.set m (.box (C5 r))):=A2 C;generalize H.set m (.box (C5 r))=Bs at e1 A⊢;have t0:M3 (N1 r.c 0)= -1:=rfl;repeat' (first|with_reducible apply D1Z|simp only[go_sem,seval,e1]|simp(disch:=omega) only[A4,A9,I2]|simp(disch:=first|omega|grind) only[B3]|intro p|omega)
 rw[←t0];refine C2 [1,7,8] (fun(i:Nat)=>[(9,.int .i64 i),(3,.int .i64 (M3 (N1 r.c i)))]) (fun(i:Nat)=>Bs) (fun(i:Nat)=>i≤r.c.length) (fun(i:Nat)=>r.c.length-i) (0) (D1u _) (by simp only[go_sem,seval]) (D20 _) ?_;rintro X rfl i Y;by_cases q:i<r.c.length
 ·have z:decide ((i:Int)<r.c.length)=true:=D1b (by omega);have G:(i:Int)<r.c.length:=by omega
  have a1:=hr.2 _ (D1n q);have sa:Sz r.c[i]:=H9 (by omega);have I:Sz ((r.c[i].natAbs:Nat):Int):=H9 (by omega);have J:N1 r.c (i+1)=if r.c[i]≠0∧C0Q r.c r.c[i] (N1 r.c i)=true then some i else N1 r.c i:=by rw[N1,I2 _ _ q]
  repeat' (first|with_reducible apply D1Z|simp only[go_sem,seval,z,e1,G,A9 _ _ q,C0 _ _ q]|intro p|omega)
  rename_i b5;have h5:=p;clear p;have V:m≠b5:=fun e=>by rw[e,h5]at e1;cases e1
  have L:m∈[m,b5]:=by simp
  have M:b5∈[m,b5]:=by simp
  by_cases hx:r.c[i]=0
  ·have d:N1 r.c (i+1)=N1 r.c i:=by rw[J,if_neg (fun g=>g.1 hx)]
   have u:r.c[i].sign=0:=by rw[hx];rfl
   refine F7 (fun y=>if y=1 then .int .i64 0 else .undef) [m,b5] ?_;repeat' (first|simp only[go_sem,seval,e1,L,M,decide_true,D2x]|simp(disch:=omega) only[A4,A9,I2]|with_reducible refine S6 (fun H' Q hro hq=>L9 r.c[i] H' (by rw[u];exact hq)) ?_)
   refine C1 (i+1) (by omega) (by omega) (by(try simp only[go_sem,seval,d])<;>(try simp(disch:=omega) [A4])) (A2 h5)
  ·have u: ¬(r.c[i].sign=0):=fun g=>hx (Int.sign_eq_zero_iff_zero.1 g);cases hb:N1 r.c i with
   |none=>
    have d:N1 r.c (i+1)=some i:=by rw[J,hb,if_pos ⟨hx,rfl⟩]
    have o:M3 (N1 r.c (i+1))=i:=by rw[d];rfl
    have O:M3 none= -1:=rfl;refine F7 (fun y=>if y=1 then .int .i64 r.c[i].sign else .undef) [m,b5] ?_;repeat' (first|simp only[go_sem,seval,e1,L,M,u,hb,O,decide_true,decide_false,D2x,D2y]|simp(disch:=omega) only[A4,A9,I2]|with_reducible refine S6 (fun H' Q hro hq=>L9 r.c[i] H' hq) ?_)
    refine C1 (i+1) (by omega) (by omega) (by(try simp only[go_sem,seval,o])<;>(try simp(disch:=omega) [A4])) (A2 h5)
   |some j=>
    have hj:=A2x _ _ _ hb;have x:j<r.c.length:=by omega
    have T:(j:Int)<r.c.length:=by omega
    have a2:=hr.2 _ (D1n x);have W:Sz ((r.c[j].natAbs:Nat):Int):=H9 (by omega);have d:N1 r.c (i+1)=if r.c[i].natAbs<r.c[j].natAbs then some i else some j:=by
     rw[J,hb,C0Q,I2 _ _ x];by_cases g:r.c[i].natAbs<r.c[j].natAbs
     ·rw[if_pos ⟨hx,D1b g⟩,if_pos g]
     ·rw[if_neg (fun k=>g (D1a k.2)),if_neg g]
    have O:M3 (some j)=j:=rfl;have oj: ¬((j:Int)<0):=by omega
    refine F7 (fun y=>if y=1 then .int .i64 r.c[i].sign else if y=8 then .agg (C4 (r.c[i].natAbs:Nat))else if y=14 then .agg (C4 (r.c[j].natAbs:Nat))else if y=15 then .bool (decide (((r.c[i].natAbs:Nat):Int)<((r.c[j].natAbs:Nat):Int)))else .undef) [m,b5] ?_;repeat' (first|with_reducible apply D1Z|simp only[go_sem,seval,e1,L,M,u,hb,O,oj,T,A9 _ _ x,C0 _ _ x,decide_true,decide_false,D2x,D2y]|simp(disch:=omega) only[A4,A9,I2]|simp(disch:=first|omega|grind) only[B3]|intro p|with_reducible refine S6 (fun H' Q hro hq=>L9 r.c[i] H' hq) ?_|with_reducible refine S6 (fun H' Q hro hq=>B7H r.c[i] H' hq) ?_|with_reducible refine S6 (fun H' Q hro hq=>B7H r.c[j] H' hq) ?_|with_reducible refine S6 (fun H' Q hro hq=>B33 _ _ I W H' hq) ?_|omega)
    ·have g:r.c[i].natAbs<r.c[j].natAbs:=by omega
     rw[if_pos g]at d;have o:M3 (N1 r.c (i+1))=i:=by rw[d];rfl
     refine C1 (i+1) (by omega) (by omega) (by(try simp only[go_sem,seval,o])<;>(try simp(disch:=omega) [A4])) (A2 h5)
    ·have g: ¬r.c[i].natAbs<r.c[j].natAbs:=by omega
     rw[if_neg g]at d;have o:M3 (N1 r.c (i+1))=j:=by rw[d];rfl
     refine C1 (i+1) (by omega) (by omega) (by(try simp only[go_sem,seval,o])<;>(try simp(disch:=omega) [A4])) (A2 h5)
 ·have z:decide ((i:Int)<r.c.length)=false:=D1c (by omega);have U:i=r.c.length:=by omega
  subst U;rw[A66]at h;repeat' simp only[go_sem,seval,z]
  exact D21 A h
theorem B37{Q}(l:List Row)(k:Nat)(hlen:l.length≤1000000)(hk: ∀r∈l,k<r.c.length)(H:Heap)
  (h: ∀ob,(ob=none→V1 l k= [])→(∀b,ob=some b→H b=none)→Q (.tuple [.sl 4 (Rw C5 (J0 l k)),.sl 4 (Rw C5 (F9 l k)),J8 4 (V1 l k).length ob]) (putB H 4 (Rw C5 (V1 l k)) ob)):
  D8 260 [.sl 4 (Rw C5 l),.int .i64 (k:Int)] H Q:=by
 refine A8 [] A5 Tryz.func260 rfl ?_;simp only[go_sem,seval,Tryz.results260];have M:D.nilsl=J8 4 (J0 (l.take 0) k).length none:=rfl;have O:D.nilsl=J8 4 (F9 (l.take 0) k).length none:=rfl;have T:D.nilsl=J8 4 (V1 (l.take 0) k).length none:=rfl;repeat' (first|with_reducible apply D1Z|simp only[go_sem,seval]|simp(disch:=omega) only[A4,A9,I2]|(intro d;try simp only[A6]at d)|omega)
 refine C2 [1,9,10] (fun(p:Nat×Option Nat×Option Nat×Option Nat×Heap)=>[(11,.int .i64 p.1),(4,J8 4 (J0 (l.take p.1) k).length p.2.1),(5,J8 4 (F9 (l.take p.1) k).length p.2.2.1),(6,J8 4 (V1 (l.take p.1) k).length p.2.2.2.1)]) (fun(p:Nat×Option Nat×Option Nat×Option Nat×Heap)=>p.2.2.2.2) (fun(p:Nat×Option Nat×Option Nat×Option Nat×Heap)=>p.1≤l.length∧O3 H p.2.2.2.2 4 (Rw C5 (J0 (l.take p.1) k)) (Rw C5 (F9 (l.take p.1) k)) (Rw C5 (V1 (l.take p.1) k)) p.2.1 p.2.2.1 p.2.2.2.1) (fun(p:Nat×Option Nat×Option Nat×Option Nat×Heap)=>l.length-p.1) ((0,none,none,none,H)) (⟨D1u _,O3.nil H 4⟩) (by simp only[go_sem,seval]) (D20 _) ?_;rintro U rfl ⟨i,o1,o2,o3,Hp⟩ ⟨I,m⟩;simp only at I m;by_cases g:i<l.length
 ·have o:decide ((i:Int)<l.length)=true:=D1b (by omega);have J:(i:Int)<l.length:=by omega
  have j:=hk _ (D1n g);have A:(k:Int)<l[i].c.length:=by omega
  have L:=I2 l[i].c k j;have f1:=A40 (p:=fun r=>decide (0<X4 r.c k)) l i g;have f2:=A40 (p:=fun r=>decide (X4 r.c k<0)) l i g;have f3:=A40 (p:=fun r=>decide (X4 r.c k=0)) l i g;simp only[L,D1v]at f1 f2 f3;change J0 (l.take (i+1)) k=J0 (l.take i) k++_ at f1;change F9 (l.take (i+1)) k=F9 (l.take i) k++_ at f2;change V1 (l.take (i+1)) k=V1 (l.take i) k++_ at f3;have V:(J0 (l.take i) k).length≤1000000:=D2f (X9 _) (by rw[D2H];omega);have W:(F9 (l.take i) k).length≤1000000:=D2f (X9 _) (by rw[D2H];omega);have X:(V1 (l.take i) k).length≤1000000:=D2f (X9 _) (by rw[D2H];omega);rcases Int.lt_trichotomy l[i].c[k] 0 with c|c|c
  ·have s:l[i].c[k].sign= -1:=Int.sign_eq_neg_one_of_neg c;rw[if_neg (by omega),D2O]at f1;rw[if_pos c]at f2;rw[if_neg (by omega),D2O]at f3;repeat' (first|with_reducible apply D1Z|simp only[go_sem,seval,o,A9 _ _ g,C0 _ _ g,A9 _ _ j,C0 _ _ j,A,s]|(intro d;try simp only[A6]at d)|with_reducible refine L9 _ _ ?_|omega)
   rename_i x y bx;have q:=d;clear d;refine A5V (P:=Tryz.prog) (H0:=Hp.set x (.box (C5 l[i]))) (es:=Rw C5 (F9 (l.take i) k)) (by rw[A6];exact q) (by simp) (m.a2.up (A2 y)) (by rw[D6]) (by simp only[D1e,D1g];omega) (by simp only[D1e,D1g];omega) fun z H' C=>?_;repeat' (first|simp only[go_sem,seval]|simp(disch:=omega) only[A4,A9,I2])
   have u:Apd (Hp.set x (.box (C5 l[i]))) 4 o2 (Rw C5 (F9 (l.take (i+1)) k)) z H':=by rw[f2,←P1];exact C
   refine C1 (i+1,o1,some z,o3,H') ⟨by simp only[];omega,?_⟩ (by simp only[];omega) (by(try simp only[go_sem,seval,f1,f2,f3,D1f,K6])<;>(try simp(disch:=omega) [A4])) (D20 _);simp only[];have:=m.app2 (A2 y) u;rw[f1,f3];exact this
  ·have s:l[i].c[k].sign=0:=(by rw[c];rfl)
   rw[if_neg (by omega),D2O]at f1;rw[if_neg (by omega),D2O]at f2;rw[if_pos c]at f3;repeat' (first|with_reducible apply D1Z|simp only[go_sem,seval,o,A9 _ _ g,C0 _ _ g,A9 _ _ j,C0 _ _ j,A,s]|(intro d;try simp only[A6]at d)|with_reducible refine L9 _ _ ?_|omega)
   rename_i x y bx;have q:=d;clear d;refine A5V (P:=Tryz.prog) (H0:=Hp.set x (.box (C5 l[i]))) (es:=Rw C5 (V1 (l.take i) k)) (by rw[A6];exact q) (by simp) (m.a3.up (A2 y)) (by rw[D6]) (by simp only[D1e,D1g];omega) (by simp only[D1e,D1g];omega) fun z H' C=>?_;repeat' (first|simp only[go_sem,seval]|simp(disch:=omega) only[A4,A9,I2])
   have u:Apd (Hp.set x (.box (C5 l[i]))) 4 o3 (Rw C5 (V1 (l.take (i+1)) k)) z H':=by rw[f3,←P1];exact C
   refine C1 (i+1,o1,o2,some z,H') ⟨by simp only[];omega,?_⟩ (by simp only[];omega) (by(try simp only[go_sem,seval,f1,f2,f3,D1f,K6])<;>(try simp(disch:=omega) [A4])) (D20 _);simp only[];have:=m.app3 (A2 y) u;rw[f1,f2];exact this
  ·have s:l[i].c[k].sign=1:=Int.sign_eq_one_of_pos c;rw[if_pos c]at f1;rw[if_neg (by omega),D2O]at f2;rw[if_neg (by omega),D2O]at f3;repeat' (first|with_reducible apply D1Z|simp only[go_sem,seval,o,A9 _ _ g,C0 _ _ g,A9 _ _ j,C0 _ _ j,A,s]|(intro d;try simp only[A6]at d)|with_reducible refine L9 _ _ ?_|omega)
   rename_i x y bx;have q:=d;clear d;refine A5V (P:=Tryz.prog) (H0:=Hp.set x (.box (C5 l[i]))) (es:=Rw C5 (J0 (l.take i) k)) (by rw[A6];exact q) (by simp) (m.a1.up (A2 y)) (by rw[D6]) (by simp only[D1e,D1g];omega) (by simp only[D1e,D1g];omega) fun z H' C=>?_;repeat' (first|simp only[go_sem,seval]|simp(disch:=omega) only[A4,A9,I2])
   have u:Apd (Hp.set x (.box (C5 l[i]))) 4 o1 (Rw C5 (J0 (l.take (i+1)) k)) z H':=by rw[f1,←P1];exact C
   refine C1 (i+1,some z,o2,o3,H') ⟨by simp only[];omega,?_⟩ (by simp only[];omega) (by(try simp only[go_sem,seval,f1,f2,f3,D1f,K6])<;>(try simp(disch:=omega) [A4])) (D20 _);simp only[];have:=m.app1 (A2 y) u;rw[f2,f3];exact this
 ·have o:decide ((i:Int)<l.length)=false:=D1c (by omega);rw[D1o (by omega)]at m;have e1:l.take i=l:=D1o (by omega);repeat' simp only[go_sem,seval,o,e1]
  have G:=m.last;refine A7a (by rw[D6]) m.a1 (B50 (by rw[D6]) G.2 (D21 G.1 (h o3 (fun e=>?_) m.n3)));have:=m.a3;rw[e]at this;have this:Rw C5 (V1 l k)= []:=this;exact D1x (by rw[←D6 (f:=C5),this];rfl)
end Go.Proofs.YtibphjonmikciaaGreatDoor
namespace Go.Lin
open Go Go.Av
theorem C0S{H:Heap}{sz:Nat}{es:List (List D)}{ob:Option Nat}(h: ∀b,ob=some b→H b=none):H.Le (putB H sz es ob):=by
 cases ob with
 |none=>exact D20 H
 |some b=>exact A2 (h b rfl)
theorem B38{α :Type}(p: α →Bool): ∀l:List α,(!l.any fun x=> !p x)=l.all p
 | []=>rfl
 |x::l=>by rw[D2e,D2c,←B38 p l];cases p x<;>simp
def chT(l:List Row)(k:Nat):Ch:=(List.range k).foldl (A34 l) ⟨none,false,0⟩
@[go_sem] theorem C98(l:List Row):M3 (chT l 0).best= -1:=rfl
@[go_sem] theorem C99(l:List Row):(chT l 0).sure=false:=rfl
@[go_sem] theorem D0A(l:List Row):(chT l 0).cost=0:=rfl
theorem B1M(l:List Row)(k:Nat):chT l (k+1)=A34 l (chT l k) k:=by simp[chT,List.range_succ,D2R]
end Go.Lin
namespace Go.Proofs.YtibphjonmikciaaGreatDoor
open Go Go.Av Go.Lin
attribute [local irreducible] ACalls Q4
theorem C0T{Q}(r:Row)(k b:Nat)(hk:k<r.c.length)(H:Heap)(hb:H b=some (.box [.int .i64 (k:Int)]))(h:Q (.bool (!((X4 r.c k).natAbs==1))) H):D8 286 [.agg (C5 r),.box b 0] H Q:=by
 refine A8 [] A5 Tryz.func286 rfl ?_;simp only[go_sem,seval,Tryz.results286];intro d i;have e2:(H.set d (.box (C5 r))) d=some (.box (C5 r)):=A0 _ _;have e1:(H.set d (.box (C5 r))) b=some (.box [.int .i64 (k:Int)]):=(A2 i) _ _ hb;have j:H.Le (H.set d (.box (C5 r))):=A2 i;generalize H.set d (.box (C5 r))=Bs at e1 e2 j⊢;have m:(k:Int)<r.c.length:=by omega
 rw[I2 _ _ hk]at h;have e:(!(r.c[k].natAbs==1))=(!decide (r.c[k].natAbs=1)):=by by_cases g:r.c[k].natAbs=1<;>simp[g]
 rw[e]at h;repeat' (first|with_reducible apply D1Z|simp only[go_sem,seval,e1,e2,m,A9 _ _ hk,C0 _ _ hk]|with_reducible refine B1F _ _ ?_|omega)
 exact D21 j h
theorem P4{Q}(l:List Row)(k:Nat)(hlen:l.length≤1000000)(hk: ∀r∈l,k<r.c.length)(H:Heap)(h:Q (.bool (A2K l k)) H):D8 261 [.sl 4 (Rw C5 l),.int .i64 (k:Int)] H Q:=by
 refine A8 [] A5 Tryz.func261 rfl ?_;simp only[go_sem,seval,Tryz.results261];intro d e;have e3:(H.set d (.box [.int .i64 (k:Int)])) d=some (.box [.int .i64 (k:Int)]):=A0 _ _;unfold A2K at h;rw[←B38]at h;have g: ∀a∈l,∀(Q:D→Heap→Prop),Q (.bool (!((X4 a.c k).natAbs==1))) (H.set d (.box [.int .i64 (k:Int)]))→D8 286 ([]++[.agg (C5 a)]++[.box d 0]) (H.set d (.box [.int .i64 (k:Int)])) Q:=fun a i Q hq=>C0T a k d (hk a i) _ e3 hq;repeat' (first|with_reducible apply D1Z|simp only[go_sem,seval]|intro j|omega)
 refine C4J (fun r=> !((X4 r.c k).natAbs==1)) l (by omega) 286 [] [.box d 0] _ g ?_;repeat' simp only[go_sem,seval]
 exact D21 (A2 e) h
set_option maxHeartbeats 4000000 in
theorem B7V{Q}(l:List Row)(n:Nat)(hl:l≠[])(hlen:l.length≤1000000)(hw: ∀r∈l,r.c.length=n)(hn:n≤1000000)(H:Heap)(h:Q (.tuple [.int .i64 (M3 (j9 l).best),.bool (j9 l).sure]) H):
  D8 224 [.sl 4 (Rw C5 l)] H Q:=by
 refine A8 [] A5 Tryz.func224 rfl ?_;simp only[go_sem,seval,Tryz.results224];have J:0<l.length:=List.length_pos_iff.2 hl;have L:(0:Int)<l.length:=by omega
 have I:l[0].c.length=n:=hw _ (D1n J);have hr:j9 l=chT l n:=by
  unfold j9 chT;rw[show (l.headD default).c.length=n from by rw[←I];cases l with|nil=>exact absurd rfl hl|cons x l=>rfl]
 rw[hr]at h;repeat' (first|with_reducible apply D1Z|simp only[go_sem,seval,L,A9 _ _ J,C0 _ _ J,I])
 refine C2 [0,15] (fun(k:Nat)=>[(16,.int .i64 k),(2,.int .i64 (M3 (chT l k).best)),(3,.bool (chT l k).sure),(4,.int .i64 (chT l k).cost)]) (fun(k:Nat)=>H) (fun(k:Nat)=>k≤n) (fun(k:Nat)=>n-k) (0) (D1u _) (by simp only[go_sem,seval]) (D20 _) ?_;rintro X rfl k hk;by_cases A:k<n
 ·have C:decide ((k:Int)<n)=true:=D1b (by omega);repeat' simp only[go_sem,seval,C]
  refine B37 l k hlen (fun r hr=>by rw[hw r hr];exact A) _ fun ob _ M=>?_;have o:=C0S (sz:=4) (es:=Rw C5 (V1 l k)) M;generalize putB H 4 (Rw C5 (V1 l k)) ob=Hp at o⊢;have Y:(J0 l k).length≤1000000:=D2f (X9 _) hlen;have m2:(F9 l k).length≤1000000:=D2f (X9 _) hlen;obtain⟨p,hp⟩: ∃p,p=(J0 l k).length:=⟨_,rfl⟩
  obtain⟨q,hq⟩: ∃q,q=(F9 l k).length:=⟨_,rfl⟩
  have hs:=B1M l k;unfold A34 at hs;simp only[←hp,←hq]at hs;have y: ∀r∈J0 l k,k<r.c.length:=fun r hr=>by rw[hw r ((List.mem_filter.1 hr).1)];exact A
  have z: ∀r∈F9 l k,k<r.c.length:=fun r hr=>by rw[hw r ((List.mem_filter.1 hr).1)];exact A
  have U:(p:Int)*q≤1000000000000:=by
   have:p*q≤1000000*1000000:=Nat.mul_le_mul (by omega) (by omega);rw[←Int.natCast_mul];omega
  have V:(0:Int)≤(p:Int)*q:=by rw[←Int.natCast_mul];omega
  by_cases T:p+q=0
  ·have u:(p:Int)+q=0:=by omega
   rw[if_pos T]at hs;repeat' (first|with_reducible apply D1Z|simp only[go_sem,seval,←hp,←hq,u]|simp(disch:=omega) only[A4,A9])
   refine C1 (k+1) (by omega) (by omega) (by(try simp only[go_sem,seval,hs])<;>(try simp(disch:=omega) [A4])) o
  ·have u: ¬(p:Int)+q=0:=by omega
   rw[if_neg T]at hs;obtain⟨c,hc⟩: ∃c,c=(chT l k).cost:=⟨_,rfl⟩
   obtain⟨m,hm⟩: ∃m,m=(p:Int)*q:=⟨_,rfl⟩
   rw[←hc,←hm]at hs;rw[←hm]at U V;have W:A2K (J0 l k) k=true∨(A2K (J0 l k) k=false∧A2K (F9 l k) k=true)∨(A2K (J0 l k) k=false∧A2K (F9 l k) k=false):=by
    cases A2K (J0 l k) k<;>cases A2K (F9 l k) k<;>simp
   have G:(chT l k).best=none∨∃j,(chT l k).best=some j:=by cases (chT l k).best<;>simp
   rcases W with g|⟨g,i⟩|⟨g,i⟩
   ·have i:True:=trivial;rcases G with hb|⟨j,hb⟩
    ·have d:True:=trivial;have hx:True:=trivial;have e:=hs;simp[g,i,hb,d,hx]at e;have o1: ∀j:Nat,¬(M3 (some j)<0):=fun j=>by show¬((j:Int)<0);omega
     have o2:M3 none= -1:=rfl;have o3:M3 (some k)=k:=rfl;repeat' (first|with_reducible apply D1Z|simp only[go_sem,seval,←hp,←hq,←hc,←hm,u,g,i,hb,d,hx,o1,o2,decide_true,decide_false]|simp(disch:=omega) only[A4,A9]|with_reducible refine P4 (J0 l k) k (by omega) y _ ?_)
     refine C1 (k+1) (by omega) (by omega) (by(try simp only[go_sem,seval,e,hb,d,o2,o3,←hc])<;>(try simp(disch:=omega) [A4])) o
    ·cases d:(chT l k).sure
     ·have hx:True:=trivial;have e:=hs;simp[g,i,hb,d,hx]at e;have o1: ∀j:Nat,¬(M3 (some j)<0):=fun j=>by show¬((j:Int)<0);omega
      have o2:M3 none= -1:=rfl;have o3:M3 (some k)=k:=rfl;repeat' (first|with_reducible apply D1Z|simp only[go_sem,seval,←hp,←hq,←hc,←hm,u,g,i,hb,d,hx,o1,o2,decide_true,decide_false]|simp(disch:=omega) only[A4,A9]|with_reducible refine P4 (J0 l k) k (by omega) y _ ?_)
      refine C1 (k+1) (by omega) (by omega) (by(try simp only[go_sem,seval,e,hb,d,o2,o3,←hc])<;>(try simp(disch:=omega) [A4])) o
     ·by_cases hx:m-p-q<c
      ·have e:=hs;simp[g,i,hb,d,hx]at e;have o1: ∀j:Nat,¬(M3 (some j)<0):=fun j=>by show¬((j:Int)<0);omega
       have o2:M3 none= -1:=rfl;have o3:M3 (some k)=k:=rfl;repeat' (first|with_reducible apply D1Z|simp only[go_sem,seval,←hp,←hq,←hc,←hm,u,g,i,hb,d,hx,o1,o2,decide_true,decide_false]|simp(disch:=omega) only[A4,A9]|with_reducible refine P4 (J0 l k) k (by omega) y _ ?_)
       refine C1 (k+1) (by omega) (by omega) (by(try simp only[go_sem,seval,e,hb,d,o2,o3,←hc])<;>(try simp(disch:=omega) [A4])) o
      ·have e:=hs;simp[g,i,hb,d,hx]at e;have o1: ∀j:Nat,¬(M3 (some j)<0):=fun j=>by show¬((j:Int)<0);omega
       have o2:M3 none= -1:=rfl;have o3:M3 (some k)=k:=rfl;repeat' (first|with_reducible apply D1Z|simp only[go_sem,seval,←hp,←hq,←hc,←hm,u,g,i,hb,d,hx,o1,o2,decide_true,decide_false]|simp(disch:=omega) only[A4,A9]|with_reducible refine P4 (J0 l k) k (by omega) y _ ?_)
       refine C1 (k+1) (by omega) (by omega) (by(try simp only[go_sem,seval,e,hb,d,o2,o3,←hc])<;>(try simp(disch:=omega) [A4])) o
   ·rcases G with hb|⟨j,hb⟩
    ·have d:True:=trivial;have hx:True:=trivial;have e:=hs;simp[g,i,hb,d,hx]at e;have o1: ∀j:Nat,¬(M3 (some j)<0):=fun j=>by show¬((j:Int)<0);omega
     have o2:M3 none= -1:=rfl;have o3:M3 (some k)=k:=rfl;repeat' (first|with_reducible apply D1Z|simp only[go_sem,seval,←hp,←hq,←hc,←hm,u,g,i,hb,d,hx,o1,o2,decide_true,decide_false]|simp(disch:=omega) only[A4,A9]|with_reducible refine P4 (J0 l k) k (by omega) y _ ?_|with_reducible refine P4 (F9 l k) k (by omega) z _ ?_)
     refine C1 (k+1) (by omega) (by omega) (by(try simp only[go_sem,seval,e,hb,d,o2,o3,←hc])<;>(try simp(disch:=omega) [A4])) o
    ·cases d:(chT l k).sure
     ·have hx:True:=trivial;have e:=hs;simp[g,i,hb,d,hx]at e;have o1: ∀j:Nat,¬(M3 (some j)<0):=fun j=>by show¬((j:Int)<0);omega
      have o2:M3 none= -1:=rfl;have o3:M3 (some k)=k:=rfl;repeat' (first|with_reducible apply D1Z|simp only[go_sem,seval,←hp,←hq,←hc,←hm,u,g,i,hb,d,hx,o1,o2,decide_true,decide_false]|simp(disch:=omega) only[A4,A9]|with_reducible refine P4 (J0 l k) k (by omega) y _ ?_|with_reducible refine P4 (F9 l k) k (by omega) z _ ?_)
      refine C1 (k+1) (by omega) (by omega) (by(try simp only[go_sem,seval,e,hb,d,o2,o3,←hc])<;>(try simp(disch:=omega) [A4])) o
     ·by_cases hx:m-p-q<c
      ·have e:=hs;simp[g,i,hb,d,hx]at e;have o1: ∀j:Nat,¬(M3 (some j)<0):=fun j=>by show¬((j:Int)<0);omega
       have o2:M3 none= -1:=rfl;have o3:M3 (some k)=k:=rfl;repeat' (first|with_reducible apply D1Z|simp only[go_sem,seval,←hp,←hq,←hc,←hm,u,g,i,hb,d,hx,o1,o2,decide_true,decide_false]|simp(disch:=omega) only[A4,A9]|with_reducible refine P4 (J0 l k) k (by omega) y _ ?_|with_reducible refine P4 (F9 l k) k (by omega) z _ ?_)
       refine C1 (k+1) (by omega) (by omega) (by(try simp only[go_sem,seval,e,hb,d,o2,o3,←hc])<;>(try simp(disch:=omega) [A4])) o
      ·have e:=hs;simp[g,i,hb,d,hx]at e;have o1: ∀j:Nat,¬(M3 (some j)<0):=fun j=>by show¬((j:Int)<0);omega
       have o2:M3 none= -1:=rfl;have o3:M3 (some k)=k:=rfl;repeat' (first|with_reducible apply D1Z|simp only[go_sem,seval,←hp,←hq,←hc,←hm,u,g,i,hb,d,hx,o1,o2,decide_true,decide_false]|simp(disch:=omega) only[A4,A9]|with_reducible refine P4 (J0 l k) k (by omega) y _ ?_|with_reducible refine P4 (F9 l k) k (by omega) z _ ?_)
       refine C1 (k+1) (by omega) (by omega) (by(try simp only[go_sem,seval,e,hb,d,o2,o3,←hc])<;>(try simp(disch:=omega) [A4])) o
   ·rcases G with hb|⟨j,hb⟩
    ·have d:True:=trivial;have hx:True:=trivial;have e:=hs;simp[g,i,hb,d,hx]at e;have o1: ∀j:Nat,¬(M3 (some j)<0):=fun j=>by show¬((j:Int)<0);omega
     have o2:M3 none= -1:=rfl;have o3:M3 (some k)=k:=rfl;repeat' (first|with_reducible apply D1Z|simp only[go_sem,seval,←hp,←hq,←hc,←hm,u,g,i,hb,d,hx,o1,o2,decide_true,decide_false]|simp(disch:=omega) only[A4,A9]|with_reducible refine P4 (J0 l k) k (by omega) y _ ?_|with_reducible refine P4 (F9 l k) k (by omega) z _ ?_)
     refine C1 (k+1) (by omega) (by omega) (by(try simp only[go_sem,seval,e,hb,d,o2,o3,←hc])<;>(try simp(disch:=omega) [A4])) o
    ·cases d:(chT l k).sure
     ·by_cases hx:m-p-q<c
      ·have e:=hs;simp[g,i,hb,d,hx]at e;have o1: ∀j:Nat,¬(M3 (some j)<0):=fun j=>by show¬((j:Int)<0);omega
       have o2:M3 none= -1:=rfl;have o3:M3 (some k)=k:=rfl;repeat' (first|with_reducible apply D1Z|simp only[go_sem,seval,←hp,←hq,←hc,←hm,u,g,i,hb,d,hx,o1,o2,decide_true,decide_false]|simp(disch:=omega) only[A4,A9]|with_reducible refine P4 (J0 l k) k (by omega) y _ ?_|with_reducible refine P4 (F9 l k) k (by omega) z _ ?_)
       refine C1 (k+1) (by omega) (by omega) (by(try simp only[go_sem,seval,e,hb,d,o2,o3,←hc])<;>(try simp(disch:=omega) [A4])) o
      ·have e:=hs;simp[g,i,hb,d,hx]at e;have o1: ∀j:Nat,¬(M3 (some j)<0):=fun j=>by show¬((j:Int)<0);omega
       have o2:M3 none= -1:=rfl;have o3:M3 (some k)=k:=rfl;repeat' (first|with_reducible apply D1Z|simp only[go_sem,seval,←hp,←hq,←hc,←hm,u,g,i,hb,d,hx,o1,o2,decide_true,decide_false]|simp(disch:=omega) only[A4,A9]|with_reducible refine P4 (J0 l k) k (by omega) y _ ?_|with_reducible refine P4 (F9 l k) k (by omega) z _ ?_)
       refine C1 (k+1) (by omega) (by omega) (by(try simp only[go_sem,seval,e,hb,d,o2,o3,←hc])<;>(try simp(disch:=omega) [A4])) o
     ·have hx:True:=trivial;have e:=hs;simp[g,i,hb,d,hx]at e;have o1: ∀j:Nat,¬(M3 (some j)<0):=fun j=>by show¬((j:Int)<0);omega
      have o2:M3 none= -1:=rfl;have o3:M3 (some k)=k:=rfl;repeat' (first|with_reducible apply D1Z|simp only[go_sem,seval,←hp,←hq,←hc,←hm,u,g,i,hb,d,hx,o1,o2,decide_true,decide_false]|simp(disch:=omega) only[A4,A9]|with_reducible refine P4 (J0 l k) k (by omega) y _ ?_|with_reducible refine P4 (F9 l k) k (by omega) z _ ?_)
      refine C1 (k+1) (by omega) (by omega) (by(try simp only[go_sem,seval,e,hb,d,o2,o3,←hc])<;>(try simp(disch:=omega) [A4])) o
 ·have C:decide ((k:Int)<n)=false:=D1c (by omega);have O:k=n:=by omega
  subst O;repeat' simp only[go_sem,seval,C]
  exact D22 h
end Go.Proofs.YtibphjonmikciaaGreatDoor
namespace Go.Lin
open Go Go.Av Go.Lexs
theorem B1N(k:Int)(l:List LTm)(vs:List VlV)(i:Nat)(h:i<l.length):U7 k (l.drop i) vs=match P9 vs l[i].v with|none=>none|some n=>U7 (k+l[i].c*n) (l.drop (i+1)) vs:=by
 rw[D14 h,U7]<;>rfl
theorem B7W{vs:List VlV}(hv:N8 vs=true){s:ByteArray}{n:Int}(h:P9 vs s=some n):n.natAbs≤2147483647:=by
 have key: ∀(m:List VlV),(∀(i:Nat) (d:i<m.length),m[i].n.natAbs≤2147483647)→P9 m s=some n→n.natAbs≤2147483647:=by
  intro m
  induction m with
  |nil=>intro _ h;cases h
  |cons x m e=>
   intro hm h;rw[P9]at h;split at h
   ·cases h;exact hm 0 (by simp)
   ·exact e (fun i d=>hm (i+1) (by simpa using d)) h
 exact key vs (fun i d=>(A9O hv d).2.1) h
structure D0B(a:LinV):Prop where
 len:a.t.length≤12
 k:a.k.natAbs≤1099511627776
 t:X3 a.t=true
theorem K7{a:LinV}(h:validL a=true):D0B a:=by
 unfold validL J9 at h;simp only[D1m,D1v]at h;exact⟨h.1.2,by omega,h.1.1⟩
theorem B7X{a b:Int}(d:a.natAbs≤1048576)(hb:b.natAbs≤2147483647):(a*b).natAbs≤2251799812636672:=by
 rw[Int.natAbs_mul];exact D2f (Nat.mul_le_mul d hb) (by decide)
end Go.Lin
namespace Go.Proofs.YtibphjonmikciaaGreatDoor
open Go Go.Av Go.Lexs Go.Lin
attribute [local irreducible] ACalls Q4
theorem C0U{Q}(a:LinV)(C:validL a=true)(vs:List VlV)(hv:N8 vs=true)(hlen:vs.length≤1000000000000000)(H:Heap)(h:Q (.tuple [.int .i64 ((U7 a.k a.t vs).getD 0),.bool (U7 a.k a.t vs).isSome]) H):D8 107 [.agg (E4 a),.sl 2 (Rw vlC vs)] H Q:=by
 refine A8 [] A5 Tryz.func107 rfl ?_;simp only[go_sem,seval,Tryz.results107];have ok:=K7 C;intro q r;have e1:(H.set q (.box (E4 a))) q=some (.box (E4 a)):=A0 _ _;have u:H.Le (H.set q (.box (E4 a))):=A2 r;generalize H.set q (.box (E4 a))=Bs at e1 u⊢;have G:=ok.len;have x:=ok.k;repeat' (first|with_reducible apply D1Z|simp only[go_sem,seval,e1]|simp(disch:=omega) only[A4,A9]|intro j|omega)
 refine C2 [1,14,15] (fun(p:Nat×Int)=>[(16,.int .i64 p.1),(6,.int .i64 p.2)]) (fun(p:Nat×Int)=>H) (fun(p:Nat×Int)=>p.1≤a.t.length∧U7 a.k a.t vs=U7 p.2 (a.t.drop p.1) vs∧p.2.natAbs≤1099511627776+p.1*2251799812636672) (fun(p:Nat×Int)=>a.t.length-p.1) ((0,a.k)) (⟨D1u _,rfl,by simpa using x⟩) (by simp only[go_sem,seval]) ((by simp only[D7,C9,D0]at* <;>grind)) ?_;rintro L rfl ⟨i,s⟩ ⟨I,d,hs⟩;simp only at I d hs;by_cases e:i<a.t.length
 ·have g:decide ((i:Int)<a.t.length)=true:=D1b (by omega);have m:(i:Int)<a.t.length:=by omega
  have J:=A2G ok.t e;rw[B1N _ _ _ _ e]at d;cases o:P9 vs a.t[i].v with
  |none=>
   rw[o]at d;have d:U7 a.k a.t vs=none:=d;rw[d]at h;simp only[Option.getD_none,Option.isSome_none]at h;have y: ∀(H:Heap) (Q:D→Heap→Prop),Q (.tuple [.int .i64 0,.bool false]) H→D8 62 [.sl 2 (Rw vlC vs),.str a.t[i].v] H Q:=fun H Q hq=>B1J vs hv _ hlen H (by rw[o];exact hq);repeat' (first|with_reducible apply D1Z|simp only[go_sem,seval,g,m,A9 _ _ e,C0 _ _ e]|intro j|with_reducible refine y _ _ ?_|omega)
   exact D21 (by simp only[D7,C9,D0]at* <;>grind) h
  |some n=>
   rw[o]at d;have d:U7 a.k a.t vs=U7 (s+a.t[i].c*n) (a.t.drop (i+1)) vs:=d;have hn:=B7W hv o;have hp:=B7X J.2.2.1 hn;have y: ∀(H:Heap) (Q:D→Heap→Prop),Q (.tuple [.int .i64 n,.bool true]) H→D8 62 [.sl 2 (Rw vlC vs),.str a.t[i].v] H Q:=fun H Q hq=>B1J vs hv _ hlen H (by rw[o];exact hq);obtain⟨z,A⟩: ∃z,z=a.t[i].c*n:=⟨_,rfl⟩
   rw[←A]at d hp;repeat' (first|with_reducible apply D1Z|simp only[go_sem,seval,g,m,A9 _ _ e,C0 _ _ e,←A]|simp(disch:=omega) only[A4,A9]|intro j|with_reducible refine y _ _ ?_|omega)
   refine C1 (i+1,s+z) ⟨by simp only[];omega,d,by simp only[];omega⟩ (by simp only[];omega) (by(try simp only[go_sem,seval])<;>(try simp(disch:=omega) [A4])) (by simp only[D7,C9,D0]at* <;>grind)
 ·have g:decide ((i:Int)<a.t.length)=false:=D1c (by omega);rw[List.drop_eq_nil_of_le (by omega),U7]at d;rw[d]at h;simp only[Option.getD_some,Option.isSome_some]at h;repeat' simp only[go_sem,seval,g]
  exact D22 h
end Go.Proofs.YtibphjonmikciaaGreatDoor
