/- Part of the proof: what the last text builds on. No condition stands here. -/
import Derived.Test.YtibphjonmikciaaGreatDoorProg
import Derived.Test.YtibphjonmikciaaGreatDoorRows
import Derived.Test.YtibphjonmikciaaGreatDoorCards
import Derived.Test.YtibphjonmikciaaGreatDoorTie
import Derived.Test.YtibphjonmikciaaGreatDoorOc2
set_option linter.unusedSimpArgs false
set_option linter.unusedVariables false
set_option maxRecDepth 20000
namespace Go.Proofs
open Go.Shelf
def Tryz.lays106_ren:Go.Shelf.Ren:=⟨fun|106=>106|213=>139|265=>174|n=>n,fun|9=>9|3=>3|n=>n,fun|n=>n⟩
theorem A82:Go.Proofs.Lays.n106 Tryz.prog Tryz.lays106_ren:={
 mixed:=by kernel_rfl
 f106:=Tryz.func106.trans (congrArg some (by kernel_rfl))
 f213:=Tryz.func139.trans (congrArg some (by kernel_rfl))
 f265:=Tryz.func174.trans (congrArg some (by kernel_rfl))
 t3:=Tryz.underlying3
 a3:=Tryz.isAgg3
 z3:=Tryz.sizeOf3
 v3:=Tryz.zeroValue3
 t9:=Tryz.underlying9
 a9:=Tryz.isAgg9
 z9:=Tryz.sizeOf9
 v9:=Tryz.zeroValue9}
open Go.RowKit in
theorem Tryz.strings_Compare(a b:ByteArray)(w:World):
  Calls Tryz.prog 106 #[.string a,.string b] w fun e w'=>e= .returned (.int .i64 (Lib.compareBytes a.data.toList b.data.toList))∧w'=w:=Any.strings_Compare A82 a b w
def Tryz.lays137_ren:Go.Shelf.Ren:=⟨fun|137=>138|217=>173|266=>209|n=>n,fun|9=>9|5=>5|3=>3|n=>n,fun|n=>n⟩
theorem A83:Go.Proofs.Lays.n137 Tryz.prog Tryz.lays137_ren:={
 mixed:=by kernel_rfl
 f137:=Tryz.func138.trans (congrArg some (by kernel_rfl))
 f217:=Tryz.func173.trans (congrArg some (by kernel_rfl))
 f266:=Tryz.func209.trans (congrArg some (by kernel_rfl))
 t3:=Tryz.underlying3
 a3:=Tryz.isAgg3
 z3:=Tryz.sizeOf3
 v3:=Tryz.zeroValue3
 t5:=Tryz.underlying5
 a5:=Tryz.isAgg5
 z5:=Tryz.sizeOf5
 v5:=Tryz.zeroValue5
 t9:=Tryz.underlying9
 a9:=Tryz.isAgg9
 z9:=Tryz.sizeOf9
 v9:=Tryz.zeroValue9}
open Go.RowKit in
theorem Tryz.strings_IndexByte(s:ByteArray)(c:Int)(w:World):
  Calls Tryz.prog 138 #[.string s,.int .u8 c] w fun e w'=>e= .returned (.int .i64 (Lib.indexByte s.data.toList c.toNat.toUInt8))∧w'=w:=Any.strings_IndexByte A83 s c w
def Tryz.lays103_ren:Go.Shelf.Ren:=⟨fun|103=>145|210=>177|206=>211|n=>n,fun|9=>9|4=>4|24=>171|3=>3|n=>n,fun|n=>n⟩
theorem A80:Go.Proofs.Lays.n103 Tryz.prog Tryz.lays103_ren:={
 mixed:=by kernel_rfl
 f103:=Tryz.func145.trans (congrArg some (by kernel_rfl))
 f206:=Tryz.func211.trans (congrArg some (by kernel_rfl))
 f210:=Tryz.func177.trans (congrArg some (by kernel_rfl))
 t3:=Tryz.underlying3
 a3:=Tryz.isAgg3
 z3:=Tryz.sizeOf3
 v3:=Tryz.zeroValue3
 t4:=Tryz.underlying4
 a4:=Tryz.isAgg4
 z4:=Tryz.sizeOf4
 v4:=Tryz.zeroValue4
 t9:=Tryz.underlying9
 a9:=Tryz.isAgg9
 z9:=Tryz.sizeOf9
 v9:=Tryz.zeroValue9
 t24:=Tryz.underlying171
 a24:=Tryz.isAgg171
 z24:=Tryz.sizeOf171
 v24:=Tryz.zeroValue171}
open Go.RowKit in
theorem Tryz.strings_CutPrefix(s p:ByteArray)(w:World):
  Calls Tryz.prog 145 #[.string s,.string p] w fun e w'=>e= .returned (.tuple #[.string ⟨(Lib.trimPrefix s.data.toList p.data.toList).toArray⟩,.bool (Lib.hasPrefix s.data.toList p.data.toList)])∧w'=w:=Any.strings_CutPrefix A80 s p w
def Tryz.lays104_ren:Go.Shelf.Ren:=⟨fun|104=>147|211=>182|207=>184|n=>n,fun|9=>9|4=>4|24=>171|3=>3|n=>n,fun|n=>n⟩
theorem A81:Go.Proofs.Lays.n104 Tryz.prog Tryz.lays104_ren:={
 mixed:=by kernel_rfl
 f104:=Tryz.func147.trans (congrArg some (by kernel_rfl))
 f207:=Tryz.func184.trans (congrArg some (by kernel_rfl))
 f211:=Tryz.func182.trans (congrArg some (by kernel_rfl))
 t3:=Tryz.underlying3
 a3:=Tryz.isAgg3
 z3:=Tryz.sizeOf3
 v3:=Tryz.zeroValue3
 t4:=Tryz.underlying4
 a4:=Tryz.isAgg4
 z4:=Tryz.sizeOf4
 v4:=Tryz.zeroValue4
 t9:=Tryz.underlying9
 a9:=Tryz.isAgg9
 z9:=Tryz.sizeOf9
 v9:=Tryz.zeroValue9
 t24:=Tryz.underlying171
 a24:=Tryz.isAgg171
 z24:=Tryz.sizeOf171
 v24:=Tryz.zeroValue171}
open Go.RowKit in
theorem Tryz.strings_CutSuffix(s p:ByteArray)(w:World)(hs:s.size≤9223372036854775807):
  Calls Tryz.prog 147 #[.string s,.string p] w fun e w'=>e= .returned (.tuple #[.string ⟨(Lib.trimSuffix s.data.toList p.data.toList).toArray⟩,.bool (Lib.hasSuffix s.data.toList p.data.toList)])∧w'=w:=Any.strings_CutSuffix A81 s p w hs
def Tryz.laysM171_ren:Go.Shelf.Ren:=⟨fun|171=>142|243=>176|246=>210|283=>232|284=>233|285=>234|286=>235|129=>170|317=>268|318=>269|319=>270|320=>271|337=>289|338=>290|n=>n,fun|3=>3|9=>9|2=>2|4=>4|171=>259|0=>0|53=>196|37=>95|5=>5|173=>261|212=>288|51=>194|20=>20|213=>289|46=>163|232=>316|233=>317|n=>n,fun|17=>1|18=>4|19=>5|n=>n⟩
theorem A6n:Go.Proofs.LaysM.n171 Tryz.prog Tryz.laysM171_ren:={
 mixed:=by kernel_rfl
 f129:=Tryz.func170.trans (congrArg some (by kernel_rfl))
 f171:=Tryz.func142.trans (congrArg some (by kernel_rfl))
 f243:=Tryz.func176.trans (congrArg some (by kernel_rfl))
 f246:=Tryz.func210.trans (congrArg some (by kernel_rfl))
 f283:=Tryz.func232.trans (congrArg some (by kernel_rfl))
 f284:=Tryz.func233.trans (congrArg some (by kernel_rfl))
 f285:=Tryz.func234.trans (congrArg some (by kernel_rfl))
 f286:=Tryz.func235.trans (congrArg some (by kernel_rfl))
 f317:=Tryz.func268.trans (congrArg some (by kernel_rfl))
 f318:=Tryz.func269.trans (congrArg some (by kernel_rfl))
 f319:=Tryz.func270.trans (congrArg some (by kernel_rfl))
 f320:=Tryz.func271.trans (congrArg some (by kernel_rfl))
 f337:=Tryz.func289.trans (congrArg some (by kernel_rfl))
 f338:=Tryz.func290.trans (congrArg some (by kernel_rfl))
 t0:=Tryz.underlying0
 a0:=Tryz.isAgg0
 z0:=Tryz.sizeOf0
 v0:=Tryz.zeroValue0
 t2:=Tryz.underlying2
 a2:=Tryz.isAgg2
 z2:=Tryz.sizeOf2
 v2:=Tryz.zeroValue2
 t3:=Tryz.underlying3
 a3:=Tryz.isAgg3
 z3:=Tryz.sizeOf3
 v3:=Tryz.zeroValue3
 t4:=Tryz.underlying4
 a4:=Tryz.isAgg4
 z4:=Tryz.sizeOf4
 v4:=Tryz.zeroValue4
 t5:=Tryz.underlying5
 a5:=Tryz.isAgg5
 z5:=Tryz.sizeOf5
 v5:=Tryz.zeroValue5
 t9:=Tryz.underlying9
 a9:=Tryz.isAgg9
 z9:=Tryz.sizeOf9
 v9:=Tryz.zeroValue9
 t20:=Tryz.underlying20
 a20:=Tryz.isAgg20
 z20:=Tryz.sizeOf20
 v20:=Tryz.zeroValue20
 t37:=Tryz.underlying95
 a37:=Tryz.isAgg95
 z37:=Tryz.sizeOf95
 v37:=Tryz.zeroValue95
 t46:=Tryz.underlying163
 a46:=Tryz.isAgg163
 z46:=Tryz.sizeOf163
 v46:=Tryz.zeroValue163
 t51:=Tryz.underlying194
 a51:=Tryz.isAgg194
 z51:=Tryz.sizeOf194
 v51:=Tryz.zeroValue194
 t53:=Tryz.underlying196
 a53:=Tryz.isAgg196
 z53:=Tryz.sizeOf196
 v53:=Tryz.zeroValue196
 t171:=Tryz.underlying259
 a171:=Tryz.isAgg259
 z171:=Tryz.sizeOf259
 v171:=Tryz.zeroValue259
 t173:=Tryz.underlying261
 a173:=Tryz.isAgg261
 z173:=Tryz.sizeOf261
 v173:=Tryz.zeroValue261
 t212:=Tryz.underlying288
 a212:=Tryz.isAgg288
 z212:=Tryz.sizeOf288
 v212:=Tryz.zeroValue288
 t213:=Tryz.underlying289
 a213:=Tryz.isAgg289
 z213:=Tryz.sizeOf289
 t232:=Tryz.underlying316
 a232:=Tryz.isAgg316
 z232:=Tryz.sizeOf316
 v232:=Tryz.zeroValue316
 t233:=Tryz.underlying317
 a233:=Tryz.isAgg317
 z233:=Tryz.sizeOf317
 v233:=Tryz.zeroValue317
 g17:=by kernel_rfl
 g18:=by kernel_rfl
 g19:=by kernel_rfl
 i0:=by kernel_rfl
 i2:=by kernel_rfl
 i3:=by kernel_rfl
 i4:=by kernel_rfl
 i5:=by kernel_rfl
 i9:=by kernel_rfl
 i20:=by kernel_rfl
 i37:=by kernel_rfl
 i46:=by kernel_rfl
 i51:=by kernel_rfl
 i53:=by kernel_rfl
 i171:=by kernel_rfl
 i173:=by kernel_rfl
 i212:=by kernel_rfl
 i232:=by kernel_rfl
 i233:=by kernel_rfl
 m17:=by kernel_rfl
 m18:=by kernel_rfl
 m19:=by kernel_rfl}
open Go.RowKit Go.Sort Go.Lib in
theorem Tryz.strconv_Itoa(n:Int)(g: -9223372036854775808≤n)(h1:n≤9223372036854775807)(w:World)(d:Lib.TabIs Tryz.prog w "internal/strconv.uint64pow10" .u64 Lib.pow10Tab):
  Calls Tryz.prog 142 #[.int .i64 n] w fun e w'=>e= .returned (.string ⟨(Lib.itoa n).toArray⟩)∧∃k os,w'=grow (w.drewN k) os:=Any.strconv_Itoa A6n n g h1 w d
def Tryz.laysC172_ren:Go.Shelf.Ren:=⟨fun|172=>188|244=>217|245=>218|247=>237|279=>238|280=>239|281=>240|282=>241|287=>273|316=>274|171=>142|205=>275|321=>292|322=>293|243=>176|246=>210|283=>232|284=>233|285=>234|286=>235|129=>170|317=>268|318=>269|319=>270|320=>271|337=>289|338=>290|n=>n,fun|9=>9|3=>3|75=>140|76=>141|4=>4|5=>5|167=>263|37=>95|0=>0|85=>264|2=>2|168=>266|53=>196|175=>290|46=>163|210=>294|127=>144|145=>312|143=>310|21=>21|171=>259|173=>261|212=>288|51=>194|20=>20|213=>289|232=>316|233=>317|80=>99|n=>n,fun|15=>2|16=>3|17=>1|18=>4|19=>5|n=>n⟩
theorem A0c:Go.Proofs.LaysC.n172 Tryz.prog Tryz.laysC172_ren:={
 mixed:=by kernel_rfl
 f129:=Tryz.func170.trans (congrArg some (by kernel_rfl))
 f171:=Tryz.func142.trans (congrArg some (by kernel_rfl))
 f172:=Tryz.func188.trans (congrArg some (by kernel_rfl))
 f205:=Tryz.func275.trans (congrArg some (by kernel_rfl))
 f243:=Tryz.func176.trans (congrArg some (by kernel_rfl))
 f244:=Tryz.func217.trans (congrArg some (by kernel_rfl))
 f245:=Tryz.func218.trans (congrArg some (by kernel_rfl))
 f246:=Tryz.func210.trans (congrArg some (by kernel_rfl))
 f247:=Tryz.func237.trans (congrArg some (by kernel_rfl))
 f279:=Tryz.func238.trans (congrArg some (by kernel_rfl))
 f280:=Tryz.func239.trans (congrArg some (by kernel_rfl))
 f281:=Tryz.func240.trans (congrArg some (by kernel_rfl))
 f282:=Tryz.func241.trans (congrArg some (by kernel_rfl))
 f283:=Tryz.func232.trans (congrArg some (by kernel_rfl))
 f284:=Tryz.func233.trans (congrArg some (by kernel_rfl))
 f285:=Tryz.func234.trans (congrArg some (by kernel_rfl))
 f286:=Tryz.func235.trans (congrArg some (by kernel_rfl))
 f287:=Tryz.func273.trans (congrArg some (by kernel_rfl))
 f316:=Tryz.func274.trans (congrArg some (by kernel_rfl))
 f317:=Tryz.func268.trans (congrArg some (by kernel_rfl))
 f318:=Tryz.func269.trans (congrArg some (by kernel_rfl))
 f319:=Tryz.func270.trans (congrArg some (by kernel_rfl))
 f320:=Tryz.func271.trans (congrArg some (by kernel_rfl))
 f321:=Tryz.func292.trans (congrArg some (by kernel_rfl))
 f322:=Tryz.func293.trans (congrArg some (by kernel_rfl))
 f337:=Tryz.func289.trans (congrArg some (by kernel_rfl))
 f338:=Tryz.func290.trans (congrArg some (by kernel_rfl))
 t0:=Tryz.underlying0
 a0:=Tryz.isAgg0
 z0:=Tryz.sizeOf0
 v0:=Tryz.zeroValue0
 t2:=Tryz.underlying2
 a2:=Tryz.isAgg2
 z2:=Tryz.sizeOf2
 v2:=Tryz.zeroValue2
 t3:=Tryz.underlying3
 a3:=Tryz.isAgg3
 z3:=Tryz.sizeOf3
 v3:=Tryz.zeroValue3
 t4:=Tryz.underlying4
 a4:=Tryz.isAgg4
 z4:=Tryz.sizeOf4
 v4:=Tryz.zeroValue4
 t5:=Tryz.underlying5
 a5:=Tryz.isAgg5
 z5:=Tryz.sizeOf5
 v5:=Tryz.zeroValue5
 t9:=Tryz.underlying9
 a9:=Tryz.isAgg9
 z9:=Tryz.sizeOf9
 v9:=Tryz.zeroValue9
 t20:=Tryz.underlying20
 a20:=Tryz.isAgg20
 z20:=Tryz.sizeOf20
 v20:=Tryz.zeroValue20
 t21:=Tryz.underlying21
 a21:=Tryz.isAgg21
 z21:=Tryz.sizeOf21
 v21:=Tryz.zeroValue21
 t37:=Tryz.underlying95
 a37:=Tryz.isAgg95
 z37:=Tryz.sizeOf95
 v37:=Tryz.zeroValue95
 t46:=Tryz.underlying163
 a46:=Tryz.isAgg163
 z46:=Tryz.sizeOf163
 v46:=Tryz.zeroValue163
 t51:=Tryz.underlying194
 a51:=Tryz.isAgg194
 z51:=Tryz.sizeOf194
 v51:=Tryz.zeroValue194
 t53:=Tryz.underlying196
 a53:=Tryz.isAgg196
 z53:=Tryz.sizeOf196
 v53:=Tryz.zeroValue196
 t75:=Tryz.underlying140
 a75:=Tryz.isAgg140
 z75:=Tryz.sizeOf140
 v75:=Tryz.zeroValue140
 t76:=Tryz.underlying141
 a76:=Tryz.isAgg141
 z76:=Tryz.sizeOf141
 v76:=Tryz.zeroValue141
 t85:=Tryz.underlying264
 a85:=Tryz.isAgg264
 z85:=Tryz.sizeOf264
 v85:=Tryz.zeroValue264
 t127:=Tryz.underlying144
 a127:=Tryz.isAgg144
 z127:=Tryz.sizeOf144
 v127:=Tryz.zeroValue144
 t143:=Tryz.underlying310
 a143:=Tryz.isAgg310
 z143:=Tryz.sizeOf310
 v143:=Tryz.zeroValue310
 t145:=Tryz.underlying312
 a145:=Tryz.isAgg312
 z145:=Tryz.sizeOf312
 v145:=Tryz.zeroValue312
 t167:=Tryz.underlying263
 a167:=Tryz.isAgg263
 z167:=Tryz.sizeOf263
 v167:=Tryz.zeroValue263
 t168:=Tryz.underlying266
 a168:=Tryz.isAgg266
 z168:=Tryz.sizeOf266
 v168:=Tryz.zeroValue266
 t171:=Tryz.underlying259
 a171:=Tryz.isAgg259
 z171:=Tryz.sizeOf259
 v171:=Tryz.zeroValue259
 t173:=Tryz.underlying261
 a173:=Tryz.isAgg261
 z173:=Tryz.sizeOf261
 v173:=Tryz.zeroValue261
 t175:=Tryz.underlying290
 a175:=Tryz.isAgg290
 z175:=Tryz.sizeOf290
 v175:=Tryz.zeroValue290
 t210:=Tryz.underlying294
 a210:=Tryz.isAgg294
 z210:=Tryz.sizeOf294
 v210:=Tryz.zeroValue294
 t212:=Tryz.underlying288
 a212:=Tryz.isAgg288
 z212:=Tryz.sizeOf288
 v212:=Tryz.zeroValue288
 t213:=Tryz.underlying289
 a213:=Tryz.isAgg289
 z213:=Tryz.sizeOf289
 t232:=Tryz.underlying316
 a232:=Tryz.isAgg316
 z232:=Tryz.sizeOf316
 v232:=Tryz.zeroValue316
 t233:=Tryz.underlying317
 a233:=Tryz.isAgg317
 z233:=Tryz.sizeOf317
 v233:=Tryz.zeroValue317
 g15:=by kernel_rfl
 g16:=by kernel_rfl
 g17:=by kernel_rfl
 g18:=by kernel_rfl
 g19:=by kernel_rfl
 t80:=Tryz.underlying99
 a80:=Tryz.isAgg99
 z80:=Tryz.sizeOf99
 v80:=Tryz.zeroValue99
 i0:=by kernel_rfl
 i2:=by kernel_rfl
 i3:=by kernel_rfl
 i4:=by kernel_rfl
 i5:=by kernel_rfl
 i9:=by kernel_rfl
 i20:=by kernel_rfl
 i21:=by kernel_rfl
 i37:=by kernel_rfl
 i46:=by kernel_rfl
 i51:=by kernel_rfl
 i53:=by kernel_rfl
 i75:=by kernel_rfl
 i76:=by kernel_rfl
 i80:=by kernel_rfl
 i85:=by kernel_rfl
 i127:=by kernel_rfl
 i143:=by kernel_rfl
 i145:=by kernel_rfl
 i167:=by kernel_rfl
 i168:=by kernel_rfl
 i171:=by kernel_rfl
 i173:=by kernel_rfl
 i175:=by kernel_rfl
 i210:=by kernel_rfl
 i212:=by kernel_rfl
 i232:=by kernel_rfl
 i233:=by kernel_rfl
 m15:=by kernel_rfl
 m16:=by kernel_rfl
 m17:=by kernel_rfl
 m18:=by kernel_rfl
 m19:=by kernel_rfl
 c0:=by kernel_rfl
 c2:=by kernel_rfl
 c3:=by kernel_rfl
 c4:=by kernel_rfl
 c5:=by kernel_rfl
 c9:=by kernel_rfl
 c20:=by kernel_rfl
 c21:=by kernel_rfl
 c37:=by kernel_rfl
 c46:=by kernel_rfl
 c51:=by kernel_rfl
 c53:=by kernel_rfl
 c75:=by kernel_rfl
 c76:=by kernel_rfl
 c80:=by kernel_rfl
 c85:=by kernel_rfl
 c127:=by kernel_rfl
 c143:=by kernel_rfl
 c145:=by kernel_rfl
 c167:=by kernel_rfl
 c168:=by kernel_rfl
 c171:=by kernel_rfl
 c173:=by kernel_rfl
 c175:=by kernel_rfl
 c210:=by kernel_rfl
 c212:=by kernel_rfl
 c213:=by kernel_rfl
 c232:=by kernel_rfl
 c233:=by kernel_rfl}
open Go.RowKit in
theorem Tryz.strconv_Atoi_ok(s:ByteArray)(d:s.size≤9223372036854775806)(v:Int)(h:Lib.atoiAll s.data.toList= .ok v)(w:World):
  Calls Tryz.prog 188 #[.string s] w fun e w'=>e= .returned (.tuple #[.int .i64 v,.nilIface])∧(w'=w∨∃t,w'=Lib.bytesWorld w 5 t):=Any.strconv_Atoi_ok A0c s d v h w
open Go.RowKit in
theorem Tryz.strconv_Atoi_syntax(s:ByteArray)(d:s.size≤281474976710656)(h:Lib.atoiAll s.data.toList=Lib.atoiAll [])(ev:Value)(w:World)(hv:w.cell? ⟨2,0,none⟩=some ev)(g:ev= .nilIface∨∃te pe,ev= .iface te pe):
  Calls Tryz.prog 188 #[.string s] w fun e w'=>∃N,e= .returned (.tuple #[.int .i64 (0),.iface 266 (.pointer (some ⟨N,0,none⟩))])∧w.heap.size≤N∧w'.heap[N]? =some (.cells #[.string ⟨#[65,116,111,105]⟩,.string s,ev] 294 (0,0))∧Below w.heap.size w w':=Any.strconv_Atoi_syntax A0c s d h ev w hv g
open Go.RowKit in
theorem Tryz.strconv_Atoi_range(s:ByteArray)(d:s.size≤281474976710656)(h:Lib.atoiAll s.data.toList= .range)(ev:Value)(w:World)(hv:w.cell? ⟨3,0,none⟩=some ev)(g:ev= .nilIface∨∃te pe,ev= .iface te pe):
  Calls Tryz.prog 188 #[.string s] w fun e w'=>∃N,e= .returned (.tuple #[.int .i64 (Lib.atoiSat s.data.toList),.iface 266 (.pointer (some ⟨N,0,none⟩))])∧w.heap.size≤N∧w'.heap[N]? =some (.cells #[.string ⟨#[65,116,111,105]⟩,.string s,ev] 294 (0,0))∧Below w.heap.size w w':=Any.strconv_Atoi_range A0c s d h ev w hv g
def Tryz.lays219_ren:Go.Shelf.Ren:=⟨fun|219=>236|217=>173|225=>214|224=>213|267=>272|266=>209|314=>291|n=>n,fun|9=>9|3=>3|4=>4|5=>5|46=>163|146=>307|51=>194|n=>n,fun|1=>0|n=>n⟩
theorem A86:Go.Proofs.Lays.n219 Tryz.prog Tryz.lays219_ren:={
 mixed:=by kernel_rfl
 f217:=Tryz.func173.trans (congrArg some (by kernel_rfl))
 f219:=Tryz.func236.trans (congrArg some (by kernel_rfl))
 f224:=Tryz.func213.trans (congrArg some (by kernel_rfl))
 f225:=Tryz.func214.trans (congrArg some (by kernel_rfl))
 f266:=Tryz.func209.trans (congrArg some (by kernel_rfl))
 f267:=Tryz.func272.trans (congrArg some (by kernel_rfl))
 f314:=Tryz.func291.trans (congrArg some (by kernel_rfl))
 t3:=Tryz.underlying3
 a3:=Tryz.isAgg3
 z3:=Tryz.sizeOf3
 v3:=Tryz.zeroValue3
 t4:=Tryz.underlying4
 a4:=Tryz.isAgg4
 z4:=Tryz.sizeOf4
 v4:=Tryz.zeroValue4
 t5:=Tryz.underlying5
 a5:=Tryz.isAgg5
 z5:=Tryz.sizeOf5
 v5:=Tryz.zeroValue5
 t9:=Tryz.underlying9
 a9:=Tryz.isAgg9
 z9:=Tryz.sizeOf9
 v9:=Tryz.zeroValue9
 t46:=Tryz.underlying163
 a46:=Tryz.isAgg163
 z46:=Tryz.sizeOf163
 v46:=Tryz.zeroValue163
 t51:=Tryz.underlying194
 a51:=Tryz.isAgg194
 z51:=Tryz.sizeOf194
 v51:=Tryz.zeroValue194
 t146:=Tryz.underlying307
 a146:=Tryz.isAgg307
 z146:=Tryz.sizeOf307
 v146:=Tryz.zeroValue307
 g1:=by kernel_rfl}
open Go.RowKit Go.Lib in
theorem Tryz.stringslite_Index_one(s:ByteArray)(c:UInt8)(w:World):
  Calls Tryz.prog 236 #[.string s,.string ⟨#[c]⟩] w fun e w'=>e= .returned (.int .i64 (Lib.indexByte s.data.toList c))∧w'=w:=Any.stringslite_Index_one A86 s c w
def Tryz.lays99_ren:Go.Shelf.Ren:=⟨fun|99=>186|206=>211|n=>n,fun|9=>9|4=>4|3=>3|n=>n,fun|n=>n⟩
theorem B0x:Go.Proofs.Lays.n99 Tryz.prog Tryz.lays99_ren:={
 mixed:=by kernel_rfl
 f99:=Tryz.func186.trans (congrArg some (by kernel_rfl))
 f206:=Tryz.func211.trans (congrArg some (by kernel_rfl))
 t3:=Tryz.underlying3
 a3:=Tryz.isAgg3
 z3:=Tryz.sizeOf3
 v3:=Tryz.zeroValue3
 t4:=Tryz.underlying4
 a4:=Tryz.isAgg4
 z4:=Tryz.sizeOf4
 v4:=Tryz.zeroValue4
 t9:=Tryz.underlying9
 a9:=Tryz.isAgg9
 z9:=Tryz.sizeOf9
 v9:=Tryz.zeroValue9}
open Go.RowKit Go.Lib in
theorem Tryz.strings_HasPrefix(s p:ByteArray)(w:World):
  Calls Tryz.prog 186 #[.string s,.string p] w fun e w'=>e= .returned (.bool (Lib.hasPrefix s.data.toList p.data.toList))∧w'=w:=Any.strings_HasPrefix B0x s p w
def Tryz.lays100_ren:Go.Shelf.Ren:=⟨fun|100=>149|207=>184|n=>n,fun|9=>9|4=>4|3=>3|n=>n,fun|n=>n⟩
theorem A8x:Go.Proofs.Lays.n100 Tryz.prog Tryz.lays100_ren:={
 mixed:=by kernel_rfl
 f100:=Tryz.func149.trans (congrArg some (by kernel_rfl))
 f207:=Tryz.func184.trans (congrArg some (by kernel_rfl))
 t3:=Tryz.underlying3
 a3:=Tryz.isAgg3
 z3:=Tryz.sizeOf3
 v3:=Tryz.zeroValue3
 t4:=Tryz.underlying4
 a4:=Tryz.isAgg4
 z4:=Tryz.sizeOf4
 v4:=Tryz.zeroValue4
 t9:=Tryz.underlying9
 a9:=Tryz.isAgg9
 z9:=Tryz.sizeOf9
 v9:=Tryz.zeroValue9}
open Go.RowKit Go.Lib in
theorem Tryz.strings_HasSuffix(s p:ByteArray)(w:World)(hs:s.size≤9223372036854775807):
  Calls Tryz.prog 149 #[.string s,.string p] w fun e w'=>e= .returned (.bool (Lib.hasSuffix s.data.toList p.data.toList))∧w'=w:=Any.strings_HasSuffix A8x s p w hs
def Tryz.lays101_ren:Go.Shelf.Ren:=⟨fun|101=>185|208=>215|206=>211|n=>n,fun|9=>9|4=>4|3=>3|n=>n,fun|n=>n⟩
theorem A8y:Go.Proofs.Lays.n101 Tryz.prog Tryz.lays101_ren:={
 mixed:=by kernel_rfl
 f101:=Tryz.func185.trans (congrArg some (by kernel_rfl))
 f206:=Tryz.func211.trans (congrArg some (by kernel_rfl))
 f208:=Tryz.func215.trans (congrArg some (by kernel_rfl))
 t3:=Tryz.underlying3
 a3:=Tryz.isAgg3
 z3:=Tryz.sizeOf3
 v3:=Tryz.zeroValue3
 t4:=Tryz.underlying4
 a4:=Tryz.isAgg4
 z4:=Tryz.sizeOf4
 v4:=Tryz.zeroValue4
 t9:=Tryz.underlying9
 a9:=Tryz.isAgg9
 z9:=Tryz.sizeOf9
 v9:=Tryz.zeroValue9}
open Go.RowKit Go.Lib in
theorem Tryz.strings_TrimPrefix(s p:ByteArray)(w:World):
  Calls Tryz.prog 185 #[.string s,.string p] w fun e w'=>e= .returned (.string ⟨(Lib.trimPrefix s.data.toList p.data.toList).toArray⟩)∧w'=w:=Any.strings_TrimPrefix A8y s p w
def Tryz.lays102_ren:Go.Shelf.Ren:=⟨fun|102=>148|209=>183|207=>184|n=>n,fun|9=>9|4=>4|3=>3|n=>n,fun|n=>n⟩
theorem A8z:Go.Proofs.Lays.n102 Tryz.prog Tryz.lays102_ren:={
 mixed:=by kernel_rfl
 f102:=Tryz.func148.trans (congrArg some (by kernel_rfl))
 f207:=Tryz.func184.trans (congrArg some (by kernel_rfl))
 f209:=Tryz.func183.trans (congrArg some (by kernel_rfl))
 t3:=Tryz.underlying3
 a3:=Tryz.isAgg3
 z3:=Tryz.sizeOf3
 v3:=Tryz.zeroValue3
 t4:=Tryz.underlying4
 a4:=Tryz.isAgg4
 z4:=Tryz.sizeOf4
 v4:=Tryz.zeroValue4
 t9:=Tryz.underlying9
 a9:=Tryz.isAgg9
 z9:=Tryz.sizeOf9
 v9:=Tryz.zeroValue9}
open Go.RowKit Go.Lib in
theorem Tryz.strings_TrimSuffix(s p:ByteArray)(w:World)(hs:s.size≤9223372036854775807):
  Calls Tryz.prog 148 #[.string s,.string p] w fun e w'=>e= .returned (.string ⟨(Lib.trimSuffix s.data.toList p.data.toList).toArray⟩)∧w'=w:=Any.strings_TrimSuffix A8z s p w hs
def Tryz.lays153_ren:Go.Shelf.Ren:=⟨fun|153=>146|152=>178|226=>179|227=>180|228=>181|137=>138|119=>212|224=>213|225=>214|217=>173|266=>209|n=>n,fun|9=>9|3=>3|4=>4|5=>5|21=>21|117=>203|116=>202|0=>0|46=>163|124=>234|n=>n,fun|n=>n⟩
theorem A85:Go.Proofs.Lays.n153 Tryz.prog Tryz.lays153_ren:={
 mixed:=by kernel_rfl
 f119:=Tryz.func212.trans (congrArg some (by kernel_rfl))
 f137:=Tryz.func138.trans (congrArg some (by kernel_rfl))
 f152:=Tryz.func178.trans (congrArg some (by kernel_rfl))
 f153:=Tryz.func146.trans (congrArg some (by kernel_rfl))
 f217:=Tryz.func173.trans (congrArg some (by kernel_rfl))
 f224:=Tryz.func213.trans (congrArg some (by kernel_rfl))
 f225:=Tryz.func214.trans (congrArg some (by kernel_rfl))
 f226:=Tryz.func179.trans (congrArg some (by kernel_rfl))
 f227:=Tryz.func180.trans (congrArg some (by kernel_rfl))
 f228:=Tryz.func181.trans (congrArg some (by kernel_rfl))
 f266:=Tryz.func209.trans (congrArg some (by kernel_rfl))
 t0:=Tryz.underlying0
 a0:=Tryz.isAgg0
 z0:=Tryz.sizeOf0
 v0:=Tryz.zeroValue0
 t3:=Tryz.underlying3
 a3:=Tryz.isAgg3
 z3:=Tryz.sizeOf3
 v3:=Tryz.zeroValue3
 t4:=Tryz.underlying4
 a4:=Tryz.isAgg4
 z4:=Tryz.sizeOf4
 v4:=Tryz.zeroValue4
 t5:=Tryz.underlying5
 a5:=Tryz.isAgg5
 z5:=Tryz.sizeOf5
 v5:=Tryz.zeroValue5
 t9:=Tryz.underlying9
 a9:=Tryz.isAgg9
 z9:=Tryz.sizeOf9
 v9:=Tryz.zeroValue9
 t21:=Tryz.underlying21
 a21:=Tryz.isAgg21
 z21:=Tryz.sizeOf21
 v21:=Tryz.zeroValue21
 t46:=Tryz.underlying163
 a46:=Tryz.isAgg163
 z46:=Tryz.sizeOf163
 v46:=Tryz.zeroValue163
 t116:=Tryz.underlying202
 a116:=Tryz.isAgg202
 z116:=Tryz.sizeOf202
 t117:=Tryz.underlying203
 a117:=Tryz.isAgg203
 z117:=Tryz.sizeOf203
 v117:=Tryz.zeroValue203
 t124:=Tryz.underlying234
 a124:=Tryz.isAgg234
 z124:=Tryz.sizeOf234
 v124:=Tryz.zeroValue234}
def Tryz.lays150_ren:Go.Shelf.Ren:=⟨fun|150=>137|153=>146|152=>178|226=>179|227=>180|228=>181|137=>138|119=>212|224=>213|225=>214|217=>173|266=>209|n=>n,fun|9=>9|4=>4|3=>3|5=>5|21=>21|117=>203|116=>202|0=>0|46=>163|124=>234|n=>n,fun|n=>n⟩
theorem A84:Go.Proofs.Lays.n150 Tryz.prog Tryz.lays150_ren:={
 mixed:=by kernel_rfl
 f119:=Tryz.func212.trans (congrArg some (by kernel_rfl))
 f137:=Tryz.func138.trans (congrArg some (by kernel_rfl))
 f150:=Tryz.func137.trans (congrArg some (by kernel_rfl))
 f152:=Tryz.func178.trans (congrArg some (by kernel_rfl))
 f153:=Tryz.func146.trans (congrArg some (by kernel_rfl))
 f217:=Tryz.func173.trans (congrArg some (by kernel_rfl))
 f224:=Tryz.func213.trans (congrArg some (by kernel_rfl))
 f225:=Tryz.func214.trans (congrArg some (by kernel_rfl))
 f226:=Tryz.func179.trans (congrArg some (by kernel_rfl))
 f227:=Tryz.func180.trans (congrArg some (by kernel_rfl))
 f228:=Tryz.func181.trans (congrArg some (by kernel_rfl))
 f266:=Tryz.func209.trans (congrArg some (by kernel_rfl))
 t0:=Tryz.underlying0
 a0:=Tryz.isAgg0
 z0:=Tryz.sizeOf0
 v0:=Tryz.zeroValue0
 t3:=Tryz.underlying3
 a3:=Tryz.isAgg3
 z3:=Tryz.sizeOf3
 v3:=Tryz.zeroValue3
 t4:=Tryz.underlying4
 a4:=Tryz.isAgg4
 z4:=Tryz.sizeOf4
 v4:=Tryz.zeroValue4
 t5:=Tryz.underlying5
 a5:=Tryz.isAgg5
 z5:=Tryz.sizeOf5
 v5:=Tryz.zeroValue5
 t9:=Tryz.underlying9
 a9:=Tryz.isAgg9
 z9:=Tryz.sizeOf9
 v9:=Tryz.zeroValue9
 t21:=Tryz.underlying21
 a21:=Tryz.isAgg21
 z21:=Tryz.sizeOf21
 v21:=Tryz.zeroValue21
 t46:=Tryz.underlying163
 a46:=Tryz.isAgg163
 z46:=Tryz.sizeOf163
 v46:=Tryz.zeroValue163
 t116:=Tryz.underlying202
 a116:=Tryz.isAgg202
 z116:=Tryz.sizeOf202
 t117:=Tryz.underlying203
 a117:=Tryz.isAgg203
 z117:=Tryz.sizeOf203
 v117:=Tryz.zeroValue203
 t124:=Tryz.underlying234
 a124:=Tryz.isAgg234
 z124:=Tryz.sizeOf234
 v124:=Tryz.zeroValue234}
open Go.RowKit Go.Lib in
theorem Tryz.strings_IndexAny_laid(s d:ByteArray)(w:World)(hs:s.size<4294967281)(g:d.size<4294967281)(h: ∀(j:Nat) b,s.data.toList[j]? =some b→b.toNat<128)(i: ∀(j:Nat) b,d.data.toList[j]? =some b→b.toNat<128):
  Calls Tryz.prog 146 #[.string s,.string d] w fun e w'=>e= .returned (.int .i64 (Lib.indexAny s.data.toList d.data.toList))∧Below w.heap.size w w':=Any.strings_IndexAny_laid A85 (by kernel_rfl) s d w hs g h i
open Go.RowKit Go.Lib in
theorem Tryz.strings_ContainsAny_laid(s d:ByteArray)(w:World)(hs:s.size<4294967281)(g:d.size<4294967281)(h: ∀(j:Nat) b,s.data.toList[j]? =some b→b.toNat<128)(i: ∀(j:Nat) b,d.data.toList[j]? =some b→b.toNat<128):
  Calls Tryz.prog 137 #[.string s,.string d] w fun e w'=>e= .returned (.bool (Lib.containsAny s.data.toList d.data.toList))∧Below w.heap.size w w':=Any.strings_ContainsAny_laid A84 (by kernel_rfl) s d w hs g h i
end Go.Proofs
namespace Go.Lexs
open Go.Av
theorem B8q(s:ByteArray)(i:Int):W4 s i=nth (B s) i.toNat:=rfl
end Go.Lexs
namespace Go.Lin
open Go Go.Av Go.Lexs
abbrev dec(n:Nat):List UInt8:=Lib.decDigits n
theorem A37{n:Nat}(h:n<10):dec n= [UInt8.ofNat (48+n)]:=by rw[dec,Lib.decDigits,dif_pos h]
theorem A5q{n:Nat}(h: ¬n<10):dec n=dec (n / 10)++[UInt8.ofNat (48+n % 10)]:=by rw[dec,Lib.decDigits,dif_neg h]
theorem A0m{d:Nat}(h:d<10):(UInt8.ofNat (48+d)).toNat=48+d:=by
 rw[UInt8.toNat_ofNat'];omega
theorem P0(n:Nat): ∀c∈dec n,48≤c.toNat∧c.toNat≤57:=by
 induction n using Nat.strongRecOn with
 |ind n d=>
  intro c hc;by_cases h:n<10
  ·rw[A37 h,D0G]at hc;subst hc;rw[A0m h];omega
  ·rw[A5q h]at hc;rcases D0F.1 hc with g|g
   ·exact d (n / 10) (by omega) c g
   ·rw[D0G]at g;subst g;rw[A0m (by omega)];omega
theorem A8D(n:Nat):dec n≠[]:=by
 by_cases h:n<10
 ·rw[A37 h];simp
 ·rw[A5q h];simp
theorem A48(k n:Nat)(h:n<10 ^ (k+1)):(dec n).length≤k+1:=by
 induction k generalizing n with
 |zero=>rw[A37 (by omega)];simp
 |succ k d=>
  by_cases hn:n<10
  ·rw[A37 hn];simp
  ·rw[A5q hn,C9v,C9x];have:=d (n / 10) (by rw[Nat.pow_succ]at h;omega);omega
theorem A5r(l:List UInt8)(d:Nat)(i:d<10): ∀(e u:Nat),Lib.parseUint10 e l= .ok u→u*10+d<18446744073709551616→Lib.parseUint10 e (l++[UInt8.ofNat (48+d)])= .ok (u*10+d):=by
 induction l with
 |nil=>
  intro e u h g;simp only[Lib.parseUint10]at h;injection h with h
  subst h;simp only[D01,Lib.parseUint10,A0m i];rw[if_pos (by omega),if_neg (by omega),if_neg (by omega)]
  congr 1;omega
 |cons c l j=>
  intro e u h g;simp only[Lib.parseUint10,D00]at h⊢;split at h
  ·rename_i h1;rw[if_pos h1];split at h
   ·cases h
   ·rename_i m;rw[if_neg m];split at h
    ·cases h
    ·rename_i o;rw[if_neg o];exact j _ u h g
  ·cases h
theorem B3n(n:Nat)(h:n<18446744073709551616):Lib.parseUint10 0 (dec n)= .ok n:=by
 induction n using Nat.strongRecOn with
 |ind n d=>
  by_cases h1:n<10
  ·rw[A37 h1];have:=A5r [] n h1 0 0 rfl (by omega);simpa using this
  ·rw[A5q h1];have:=A5r (dec (n / 10)) (n % 10) (by omega) 0 (n / 10) (d _ (by omega) (by omega)) (by omega);rw[this];congr 1;omega
theorem A9p(n:Nat)(h:n<9223372036854775808):Lib.atoiAll (dec n)= .ok (n:Int):=by
 cases d:dec n with
 |nil=>exact absurd d (A8D n)
 |cons c r=>
  have hc:=P0 n c (by rw[d];exact C90 ..);have hp:=B3n n (by omega);rw[d]at hp;unfold Lib.atoiAll;simp only[];rw[if_neg (by omega)];have hm:Lib.parseMag (c::r)= .ok n:=by unfold Lib.parseMag;rw[if_neg (by simp)];exact hp
  rw[hm];simp only[];rw[if_neg (by omega),if_neg (by omega),if_neg (by omega)]
def B8r(l:List UInt8):Int:=l.foldl (fun n c=>10*n+(c.toNat:Int)-48) 0
def B8s(l:List UInt8):Int:=B8r (l.take 14)
theorem B5g(n:Nat):B8r (dec n)=n:=by
 induction n using Nat.strongRecOn with
 |ind n d=>
  by_cases h:n<10
  ·rw[A37 h];simp only[B8r,List.foldl_cons,List.foldl_nil,A0m h];omega
  ·rw[A5q h];have e:=d (n / 10) (by omega);unfold B8r at e⊢;rw[D0h,e];simp only[List.foldl_cons,List.foldl_nil,A0m (show n % 10<10 by omega)];omega
theorem A9q(n:Nat)(h:n<100000000000000):B8s (dec n)=n:=by
 unfold B8s;rw[C94 (A48 13 n (by omega)),B5g]
def S8(f:Bool)(t:LTm):List UInt8:=(if t.c<0 then [45]else if f=true then []else [43])++((if t.c.natAbs=1 then []else dec t.c.natAbs++[42])++B t.v)
def L0:Bool→List LTm→List UInt8
 |_,[]=>[]
 |f,t::l=>S8 f t++L0 false l
def z8(f:Bool)(k:Int):List UInt8:=(if k<0 then [45]else if f=true then []else [43])++dec k.natAbs
def Q9(a:LinV):List UInt8:=if a.t= []∨a.k≠0 then z8 a.t.isEmpty a.k else []
def L7(a:LinV):List UInt8:=L0 true a.t++Q9 a
def F2(a:LinV):List UInt8:=L7 a++if a.e=true then [61,48]else [62,61,48]
theorem A9r(l:List LTm)(t:LTm): ∀f,L0 f (l++[t])=L0 f l++S8 (f&&l.isEmpty) t:=by
 induction l with
 |nil=>intro f;simp[L0]
 |cons x l d=>intro f;simp[L0,d]
def sgn(c:UInt8):Bool:=c==43||c==45
def O5(l:List UInt8):List (List UInt8):=match l with
 | []=>[]
 |x::r=>(x::r.takeWhile (!sgn ·))::O5 (r.dropWhile (!sgn ·))
termination_by l.length
decreasing_by
 have:=(List.dropWhile_sublist (!sgn ·) (l:=r)).length_le;simp only[C9u];omega
theorem A2p:O5 []= []:=by unfold O5;rfl
theorem A1p(x:UInt8)(r:List UInt8):O5 (x::r)=(x::r.takeWhile (!sgn ·))::O5 (r.dropWhile (!sgn ·)):=by rw[O5]
def Sg(l:List UInt8):Prop:=∀c r,l=c::r→sgn c=true
theorem R5{p:UInt8→Bool}{l R:List UInt8}(h: ∀c∈l,p c=true)(e: ∀c r,R=c::r→p c=false):(l++R).takeWhile p=l∧(l++R).dropWhile p=R:=by
 induction l with
 |nil=>
  cases R with
  |nil=>simp
  |cons c r=>simp[e c r rfl]
 |cons x l g=>
  have h1:=h x (C90 ..);have d:=g (fun c hc=>h c (C97 _ hc));simp[h1,d.1,d.2]
theorem A5s{x:UInt8}{l R:List UInt8}(h: ∀c∈l,sgn c=false)(d:Sg R):O5 (x::(l++R))=(x::l)::O5 R:=by
 have:=R5 (p:=(!sgn ·)) (l:=l) (R:=R) (fun c hc=>by simp[h c hc]) (fun c r e=>by simp[d c r e]);rw[A1p,this.1,this.2]
def A0A(l:List UInt8):Option (List UInt8×List UInt8):=if(42:UInt8)∈l then some (l.takeWhile (· != 42),(l.dropWhile (· != 42)).drop 1)else none
def P1(l:List UInt8):Bool:=decide (l≠[])&&U7 (nth l 0)
def i8(x:List UInt8):Bool×List UInt8:=
 let b:=Lib.trimPrefix x [43]
 if Lib.hasPrefix b [45]=true then(true,b.drop 1)else(false,b)
def y3(b:List UInt8):Option (List UInt8×List UInt8):=match A0A b with
 |some (c,n)=>some (c,n)
 |none=>if P1 b=true then some (b,[])else if b= []then none else some ([49],b)
def M4(x:List UInt8):Option (List UInt8×Int):=match y3 (i8 x).2 with
 |none=>none
 |some (c,n)=>match Lib.atoiAll c with
  | .ok v=>some (n,IntKind.i64.wrap ((if(i8 x).1=true then-1 else 1)*v))
  |_=>none
def A67(x:List UInt8):Bool×List UInt8:=match x with
 | []=>(false,[])
 |c::r=>if c=45 then(true,r)else if c=43 then(false,r)else(false,c::r)
def A2q(x:List UInt8):List UInt8×Int:=
 let b:=(A67 x).2
 let p:Int×List UInt8:=match A0A b with
  |some (c,n)=>(B8s c,n)
  |none=>(1,b)
 let q:Int×List UInt8:=if p.2= []∨P1 p.2=true then(B8s p.2,[])else p
 (q.2,if(A67 x).1=true then-q.1 else q.1)
def A6f(a:LinV)(p:List UInt8×Int):LinV:=if p.1= []then {a with k:=p.2}else {a with t:=a.t++[⟨S p.1,p.2⟩]}
theorem B2c{p:Int→Bool}{l:List UInt8}(h:l.all (ofB p)=true): ∀c∈l,p (c.toNat:Int)=true:=fun c hc=>D0Q.1 h c hc
theorem A5t{l:List UInt8}(h:H9 l=true): ∀c∈l,33≤c.toNat∧c.toNat≤126∧c.toNat≠43∧c.toNat≠45∧c.toNat≠42∧c.toNat≠62∧c.toNat≠61:=fun c hc=>by
 unfold H9 at h;simp only[C92]at h;have:=(A63 _).1 (B2c h.2 c hc);omega
theorem A3M{l:List UInt8}(h:H9 l=true):l≠[]:=by
 unfold H9 at h;simp only[C92,D0B]at h;exact h.1.1.1
theorem A68{l:List UInt8}(h:H9 l=true):P1 l=false:=by
 unfold H9 at h;simp only[C92,Bool.not_eq_true']at h;unfold P1;rw[h.1.2,Bool.and_false]
theorem C2Z{c:UInt8}(h1:c.toNat≠43)(d:c.toNat≠45):sgn c=false:=by
 unfold sgn;simp only[Bool.or_eq_false_iff,beq_eq_false_iff_ne];exact⟨fun e=>h1 (by rw[e];rfl),fun e=>d (by rw[e];rfl)⟩
def A1W(t:LTm):List UInt8:=(if t.c.natAbs=1 then []else dec t.c.natAbs++[42])++B t.v
theorem B2d(t:LTm)(h:H9 (B t.v)=true):A1W t≠[]:=by
 unfold A1W;have:=A3M h;intro e;exact this (List.append_eq_nil_iff.1 e).2
theorem A1q(t:LTm)(h:H9 (B t.v)=true): ∀c∈A1W t,c.toNat≠43∧c.toNat≠45∧c.toNat≠62∧c.toNat≠61:=fun c hc=>by
 unfold A1W at hc;rcases D0F.1 hc with g|g
 ·split at g
  ·cases g
  ·rcases D0F.1 g with g|g
   ·have:=P0 _ c g;omega
   ·rw[D0G]at g;subst g;decide
 ·have:=A5t h c g;omega
theorem A4c(s:List UInt8)(b R:List UInt8)(hs:s= []∨s= [43]∨s= [45])(hb:b≠[])(hm: ∀c∈b,c.toNat≠43∧c.toNat≠45)(d:Sg R):O5 (s++b++R)=(s++b)::O5 R:=by
 have hn: ∀c∈b,sgn c=false:=fun c hc=>C2Z (hm c hc).1 (hm c hc).2;rcases hs with rfl|hs
 ·cases b with
  |nil=>exact absurd rfl hb
  |cons x b=>exact A5s (x:=x) (fun c hc=>hn c (C97 _ hc)) d
 ·rcases hs with rfl|rfl<;>exact A5s hn d
theorem sign_or(f:Bool)(c:Int):(if c<0 then [45]else if f=true then([]:List UInt8)else [43])= []∨(if c<0 then [45]else if f=true then([]:List UInt8)else [43])= [43]∨(if c<0 then [45]else if f=true then([]:List UInt8)else [43])= [45]:=by
 split
 ·exact .inr (.inr rfl)
 ·split
  ·exact .inl rfl
  ·exact .inr (.inl rfl)
theorem B2e(f:Bool)(c:Int){b:List UInt8}(hb:b≠[])(hm: ∀x∈b,x.toNat≠43∧x.toNat≠45):
    i8 ((if c<0 then [45]else if f=true then []else [43])++b)=(decide (c<0),b)∧A67 ((if c<0 then [45]else if f=true then []else [43])++b)=(decide (c<0),b):=by
  cases b with
  |nil=>exact absurd rfl hb
  |cons x b=>
    have hx:=hm x (C90 ..);have g:x≠43:=fun e=>hx.1 (by rw[e];rfl);have d:x≠45:=fun e=>hx.2 (by rw[e];rfl);by_cases h:c<0
    · rw[if_pos h,C9r h]
      constructor
      · simp[i8,Lib.trimPrefix,Lib.hasPrefix]
      · simp[A67]
    · rw[if_neg h,C9s h]
      cases f with
      | true => constructor
                · simp[i8,Lib.trimPrefix,Lib.hasPrefix,g.symm,d.symm]
                · simp[A67,g,d]
      | false => constructor
                 · simp[i8,Lib.trimPrefix,Lib.hasPrefix,d.symm]
                 · simp[A67]
theorem B5h{d n:List UInt8}(h: ∀c∈d,c.toNat≠42):A0A (d++[42]++n)=some (d,n):=by
 unfold A0A;have e:=R5 (p:=(· != 42)) (l:=d) (R:=42::n) (fun c hc=>by
  have:=h c hc;simp only[bne_iff_ne,ne_eq];intro e;exact this (by rw[e];rfl)) (fun c r e=>by cases e;decide)
 rw[if_pos (by simp),D0d,List.singleton_append,e.1,e.2];rfl
theorem B2f{d:List UInt8}(h: ∀c∈d,c.toNat≠42):A0A d=none:=by
 unfold A0A;rw[if_neg (fun hm=>h _ hm rfl)]
theorem signed{c:Int}:(if decide (c<0)=true then-1 else 1)*(c.natAbs:Int)=c:=by
 by_cases h:c<0
 ·rw[C9r h,if_pos rfl];omega
 ·rw[C9s h,if_neg (by decide)];omega
theorem A8E{c:Int}:(if decide (c<0)=true then-(c.natAbs:Int)else(c.natAbs:Int))=c:=by
 by_cases h:c<0
 ·rw[C9r h,if_pos rfl];omega
 ·rw[C9s h,if_neg (by decide)];omega
theorem A8F{n:Int}(d: -9223372036854775808≤n)(h1:n≤9223372036854775807):IntKind.i64.wrap n=n:=by simp(disch:=omega) only[A4]
theorem B1Q(f:Bool)(t:LTm)(hn:H9 (B t.v)=true)(h:t.c≠0)(hc:t.c.natAbs≤1048576):M4 (S8 f t)=some (B t.v,t.c)∧A2q (S8 f t)=(B t.v,t.c):=by
 have hb:=B2e f t.c (B2d t hn) (fun x hx=>⟨(A1q t hn x hx).1,(A1q t hn x hx).2.1⟩);have e:S8 f t=(if t.c<0 then [45]else if f=true then []else [43])++A1W t:=rfl;unfold M4 A2q;rw[e,hb.1,hb.2];by_cases h1:t.c.natAbs=1
 ·have g:A1W t=B t.v:=by unfold A1W;rw[if_pos h1,D01]
  have d:A0A (B t.v)=none:=B2f fun c hc=>(A5t hn c hc).2.2.2.2.1;have e1:Lib.atoiAll [49]= .ok 1:=by decide
  have e2:(if decide (t.c<0)=true then-1 else 1)*(1:Int)=t.c:=by have:=signed (c:=t.c);rwa [h1]at this
  have e3:(if decide (t.c<0)=true then-(1:Int)else 1)=t.c:=by have:=A8E (c:=t.c);rwa [h1]at this
  simp only[g,y3,d,A68 hn,if_neg (A3M hn),C95,if_false,e1,e2];refine⟨by rw[A8F (by omega) (by omega)],?_⟩;rw[if_neg (by simp[A3M hn])];simp only[e3]
 ·have g:A1W t=dec t.c.natAbs++[42]++B t.v:=by unfold A1W;rw[if_neg h1]
  have d:A0A (dec t.c.natAbs++[42]++B t.v)=some (dec t.c.natAbs,B t.v):=B5h fun c hc=>by have:=P0 _ c hc;omega
  simp only[g,y3,d,A9p t.c.natAbs (by omega),signed];refine⟨by rw[A8F (by omega) (by omega)],?_⟩;rw[if_neg (by simp[A3M hn,A68 hn])];simp only[A9q t.c.natAbs (by omega),A8E]
theorem B5i(n:Nat):P1 (dec n)=true:=by
 unfold P1;cases h:dec n with
 |nil=>exact absurd h (A8D n)
 |cons c r=>
  have:=P0 n c (by rw[h];exact C90 ..);have e:nth (c::r) 0=(c.toNat:Int):=rfl;rw[e];simp[U7];omega
theorem A2J(f:Bool)(k:Int)(hk:k.natAbs≤1099511627776):M4 (z8 f k)=some ([],k)∧A2q (z8 f k)=([],k):=by
 have hm: ∀x∈dec k.natAbs,x.toNat≠43∧x.toNat≠45:=fun x hx=>by have:=P0 _ x hx;omega
 have hb:=B2e f k (A8D k.natAbs) hm;have e:z8 f k=(if k<0 then [45]else if f=true then []else [43])++dec k.natAbs:=rfl;have d:A0A (dec k.natAbs)=none:=B2f fun c hc=>by have:=P0 _ c hc;omega
 unfold M4 A2q;rw[e,hb.1,hb.2];simp only[y3,d,B5i,if_true,A9p k.natAbs (by omega),signed];refine⟨by rw[A8F (by omega) (by omega)],?_⟩;rw[if_pos (.inr trivial)];simp only[A9q k.natAbs (by omega),A8E]
theorem A1r{l:List LTm}(h:l4 l=true){i:Nat}(j:i<l.length):H9 (B l[i].v)=true∧l[i].c≠0∧l[i].c.natAbs≤1048576∧(∀d:i-1<l.length,0<i→j8 l[i-1].v l[i].v=true):=by
 unfold l4 at h;have:=D0Q.1 h i (List.mem_range.2 j);unfold A6e N2 at this;have e:l.getD i default=l[i]:=by simp[j]
 have e2: ∀d:i-1<l.length,l.getD (i-1) default=l[i-1]:=fun d=>by simp[d]
 rw[e]at this;simp only[C92,D1C,D0B]at this;refine⟨this.1.1.1,this.1.2,by omega,fun d m=>?_⟩;rcases this.1.1.2 with g|g
 ·omega
 ·rw[e2 d]at g;exact g
theorem M7{l:List LTm}(h:l4 l=true): ∀t∈l,H9 (B t.v)=true∧t.c≠0∧t.c.natAbs≤1048576:=fun t d=>by
 obtain⟨i,e,rfl⟩:=List.getElem_of_mem d;have:=A1r h e;exact⟨this.1,this.2.1,this.2.2.1⟩
theorem B8t(k:Int):Sg (z8 false k):=fun c r e=>by
 unfold z8 at e;split at e
 ·cases e;decide
 ·cases e;decide
theorem B5j(t:LTm)(l:List UInt8):Sg (S8 false t++l):=fun c r e=>by
 unfold S8 at e;split at e
 ·cases e;decide
 ·cases e;decide
theorem A1G: ∀(l:List LTm) (f:Bool) (R:List UInt8),(∀t∈l,H9 (B t.v)=true∧t.c≠0∧t.c.natAbs≤1048576)→Sg R→
  ∃ps,O5 (L0 f l++R)=ps++O5 R∧ps.mapM M4=some (l.map fun t=>(B t.v,t.c))∧ps.map A2q=l.map fun t=>(B t.v,t.c)
 | [],f,R,_,_=>⟨[],by simp[L0],rfl,rfl⟩
 |t::l,f,R,h,i=>by
  have d:=h t (C90 ..);obtain⟨ps,h1,j,m⟩:=A1G l false R (fun x hx=>h x (C97 _ hx)) i;have hp:=B1Q f t d.1 d.2.1 d.2.2;have g:Sg (L0 false l++R):=by
   cases l with
   |nil=>exact i
   |cons y l=>rw[L0,D0d];exact B5j y _
  refine⟨S8 f t::ps,?_,?_,?_⟩
  ·rw[L0,D0d];have e:S8 f t=(if t.c<0 then [45]else if f=true then []else [43])++A1W t:=rfl;have:=A4c (if t.c<0 then [45]else if f=true then []else [43]) (A1W t) (L0 false l++R) (sign_or f t.c) (B2d t d.1) (fun c hc=>⟨(A1q t d.1 c hc).1,(A1q t d.1 c hc).2.1⟩) g;rw[←e]at this;rw[this,h1];rfl
  ·rw[List.mapM_cons,hp.1,j];rfl
  ·rw[D06,hp.2,m];rfl
def A1H(a:LinV)(ps:List (List UInt8×Int)):LinV:=ps.foldl A6f a
theorem A3N(l:List LTm): ∀(a:LinV),(∀t∈l,H9 (B t.v)=true)→A1H a (l.map fun t=>(B t.v,t.c))= {a with t:=a.t++l}:=by
 induction l with
 |nil=>intro a _;simp[A1H]
 |cons x l d=>
  intro a h;have hx:=A3M (h x (C90 ..));unfold A1H at d⊢;rw[D06,List.foldl_cons];have e:A6f a (B x.v,x.c)= {a with t:=a.t++[x]}:=by unfold A6f;rw[if_neg hx,S_B]
  rw[e,d _ (fun t g=>h t (C97 _ g))];simp
theorem A9s(a:LinV)(g:validL a=true): ∃ps,(O5 (L7 a)).mapM M4=some ps∧(O5 (L7 a)).map A2q=ps∧∀e,A1H ⟨[],0,e⟩ ps=⟨a.t,a.k,e⟩:=by
 unfold validL N2 at g;simp only[C92,D0B]at g;have hk:a.k.natAbs≤1099511627776:=by omega
 have hm:=M7 g.1.1;have o: ∀x∈dec a.k.natAbs,x.toNat≠43∧x.toNat≠45:=fun x hx=>by have:=P0 _ x hx;omega
 have d: ∀f,O5 (z8 f a.k)= [z8 f a.k]:=fun f=>by
  have:=A4c (if a.k<0 then [45]else if f=true then []else [43]) (dec a.k.natAbs) [] (sign_or f a.k) (A8D _) o (fun c r e=>by cases e);rw[D0e,A2p]at this;exact this
 by_cases hn:a.t= []
 ·have e:L7 a=z8 true a.k:=by unfold L7 Q9;rw[hn];simp[L0]
  refine⟨[([],a.k)],?_,?_,fun e=>?_⟩
  ·rw[e,d,List.mapM_cons,(A2J true a.k hk).1];rfl
  ·rw[e,d];simp only[D06,List.map_nil,(A2J true a.k hk).2]
  ·rw[hn];simp[A1H,A6f]
 ·have he:a.t.isEmpty=false:=by simp[hn]
  by_cases h:a.k=0
  ·have e:L7 a=L0 true a.t++[]:=by unfold L7 Q9;rw[if_neg (by simp[hn,h])]
   obtain⟨ps,h1,i,j⟩:=A1G a.t true [] hm (fun c r e=>by cases e);rw[A2p,D0e ps]at h1;refine⟨a.t.map fun t=>(B t.v,t.c),?_,?_,fun e=>?_⟩
   ·rw[e,h1];exact i
   ·rw[e,h1];exact j
   ·rw[A3N _ _ (fun t m=>(hm t m).1),h];simp
  ·have e:L7 a=L0 true a.t++z8 false a.k:=by unfold L7 Q9;rw[if_pos (.inr h),he]
   obtain⟨ps,h1,i,j⟩:=A1G a.t true (z8 false a.k) hm (B8t a.k);rw[d]at h1;refine⟨(a.t.map fun t=>(B t.v,t.c))++[([],a.k)],?_,?_,fun e=>?_⟩
   ·rw[e,h1,List.mapM_append,i,List.mapM_cons,(A2J false a.k hk).1];rfl
   ·rw[e,h1,D0p,j,D06,List.map_nil,(A2J false a.k hk).2]
   ·have:=A3N a.t ⟨[],0,e⟩ (fun t m=>(hm t m).1);unfold A1H at this⊢;rw[D0h,this];simp[A6f]
theorem B5k(a:LinV)(d:validL a=true): ∀c∈L7 a,c.toNat≠61∧c.toNat≠62:=by
 unfold validL at d;simp only[C92]at d;have hm:=M7 d.1.1;have key: ∀(l:List LTm) (f:Bool),(∀t∈l,H9 (B t.v)=true)→∀c∈L0 f l,c.toNat≠61∧c.toNat≠62:=by
  intro l
  induction l with
  |nil=>intro f _ c hc;cases hc
  |cons t l i=>
   intro f h c hc;rw[L0]at hc;rcases D0F.1 hc with g|g
   ·have e:S8 f t=(if t.c<0 then [45]else if f=true then []else [43])++A1W t:=rfl;rw[e]at g;rcases D0F.1 g with g|g
    ·rcases sign_or f t.c with q|q|q<;>rw[q]at g
     ·cases g
     ·rw[D0G]at g;subst g;decide
     ·rw[D0G]at g;subst g;decide
    ·have:=A1q t (h t (C90 ..)) c g;exact⟨this.2.2.2,this.2.2.1⟩
   ·exact i false (fun x hx=>h x (C97 _ hx)) c g
 intro c hc;unfold L7 at hc;rcases D0F.1 hc with g|g
 ·exact key a.t true (fun t j=>(hm t j).1) c g
 ·unfold Q9 at g;split at g
  ·unfold z8 at g;rcases D0F.1 g with g|g
   ·rcases sign_or a.t.isEmpty a.k with q|q|q<;>rw[q]at g
    ·cases g
    ·rw[D0G]at g;subst g;decide
    ·rw[D0G]at g;subst g;decide
   ·have:=P0 _ c g;omega
  ·cases g
def A4d(s:List UInt8):Option LinV:=
 if Lib.hasSuffix s [61,48]=true then
  let b:=Lib.trimSuffix s [61,48]
  ((O5 (Lib.trimSuffix b [62])).mapM M4).map (A1H ⟨[],0,!Lib.hasSuffix b [62]⟩)
 else none
def A69(c:UInt8):Bool:=c==61||c==62
def A4e(s:List UInt8):LinV:=
 A1H ⟨[],0,decide ((s.dropWhile (!A69 ·)).head?=some 61)⟩ ((O5 (s.takeWhile (!A69 ·))).map A2q)
theorem A8G(l m:List UInt8):Lib.hasSuffix (l++m) m=true∧Lib.trimSuffix (l++m) m=l:=by
 have h:Lib.hasSuffix (l++m) m=true:=by unfold Lib.hasSuffix;rw[List.isSuffixOf_iff_suffix];exact List.suffix_append ..
 refine⟨h,?_⟩;unfold Lib.trimSuffix;rw[if_pos h];simp
theorem C2a(l:List UInt8)(c:UInt8)(h: ∀x∈l,x≠c):Lib.hasSuffix l [c]=false∧Lib.trimSuffix l [c]=l:=by
 have h:Lib.hasSuffix l [c]=false:=by
  rw[←D1B];unfold Lib.hasSuffix;rw[List.isSuffixOf_iff_suffix];rintro⟨r,e⟩;exact h c (by rw[←e];simp) rfl
 refine⟨h,?_⟩;unfold Lib.trimSuffix;rw[if_neg (by simp[h])]
theorem A7A(a:LinV)(j:validL a=true):A4d (F2 a)=some a∧A4e (F2 a)=a:=by
 have hb:=B5k a j;obtain⟨ps,h1,m,o⟩:=A9s a j;have i: ∀x∈L7 a,x≠62:=fun x hx e=>(hb x hx).2 (by rw[e];rfl);have nst: ∀x∈L7 a,(!A69 x)=true:=fun x hx=>by
  have:=hb x hx;have e1:x≠61:=fun e=>this.1 (by rw[e];rfl);have e2:x≠62:=fun e=>this.2 (by rw[e];rfl);simp[A69,e1,e2]
 unfold A4d A4e F2;cases he:a.e with
 |true=>
  simp only[if_true];have d:=A8G (L7 a) [61,48];have g:=C2a (L7 a) 62 i;have h:=R5 (p:=(!A69 ·)) (l:=L7 a) (R:=[61,48]) nst (fun c r e=>by cases e;decide);rw[if_pos d.1,d.2,g.2,g.1,h.1,h.2,h1,m];have:=o true;refine⟨?_,?_⟩
  ·simp only[Option.map_some,D1E,this];cases a;simp_all
  ·simp only[List.head?_cons,decide_true,this];cases a;simp_all
 |false=>
  simp only[C95,if_false];have e2:L7 a++[62,61,48]=L7 a++[62]++[61,48]:=by simp
  have d:=A8G (L7 a++[62]) [61,48];have g:=A8G (L7 a) [62];have h:=R5 (p:=(!A69 ·)) (l:=L7 a) (R:=[62,61,48]) nst (fun c r e=>by cases e;decide);rw[h.1,h.2,m,e2,if_pos d.1,d.2,g.2,g.1,h1];have:=o false;refine⟨?_,?_⟩
  ·simp only[Option.map_some,D1D,this];cases a;simp_all
  ·have e3:decide ((62::[61,48]:List UInt8).head?=some 61)=false:=by decide
   rw[e3,this];cases a;simp_all
def A0Z(s:List UInt8):Option LinV:=(A4d s).bind fun a=>if validL a=true∧F2 a=s then some a else none
theorem B5l(s:List UInt8):A0Z s=if validL (A4e s)=true∧F2 (A4e s)=s then some (A4e s)else none:=by
 unfold A0Z;by_cases h: ∃a,validL a=true∧F2 a=s
 ·obtain⟨a,d,rfl⟩:=h;obtain⟨h1,e⟩:=A7A a d;rw[h1,e];rfl
 ·have n: ∀a,¬(validL a=true∧F2 a=s):=fun a g=>h ⟨a,g⟩;rw[if_neg (n _)];cases A4d s with
  |none=>rfl
  |some a=>show (if _ then _ else _)=_;rw[if_neg (n a)]
theorem A9t(a:LinV)(d:validL a=true):A0Z (F2 a)=some a:=by
 unfold A0Z;rw[(A7A a d).1];show (if _ then _ else _)=_;rw[if_pos ⟨d,rfl⟩]
end Go.Lin
namespace Go.Lin
open Go Go.Av
def E8:List Nat→Nat
 | []=>0
 |d::l=>d+4294967296*E8 l
def B4(n:Nat):List Nat:=if h:n=0 then []else n % 4294967296::B4 (n / 4294967296)
termination_by n
decreasing_by exact Nat.div_lt_self (Nat.pos_of_ne_zero h) (by decide)
def F1(d:Nat):List D:=[.int .u32 d]
@[go_sem] theorem C8L(n:Nat):F1 n= [.int .u32 n]:=rfl
abbrev W5(n:Nat):D:=.sl 1 (Rw F1 (B4 n))
def Dig(l:List Nat):Prop:=∀d∈l,d<4294967296
theorem J0:B4 0= []:=by unfold B4;simp
theorem y4{n:Nat}(h:n≠0):B4 n=n % 4294967296::B4 (n / 4294967296):=by rw[B4];simp[h]
theorem O9(n:Nat):Dig (B4 n):=by
 induction n using Nat.strongRecOn with
 |ind n g=>
  intro d e;by_cases h:n=0
  ·subst h;rw[J0]at e;cases e
  ·rw[y4 h]at e;rcases D0H.1 e with rfl|e
   ·exact Nat.mod_lt _ (by decide)
   ·exact g (n / 4294967296) (Nat.div_lt_self (Nat.pos_of_ne_zero h) (by decide)) d e
theorem J7(n:Nat):E8 (B4 n)=n:=by
 induction n using Nat.strongRecOn with
 |ind n d=>
  by_cases h:n=0
  ·subst h;rw[J0];rfl
  ·rw[y4 h,E8,d _ (Nat.div_lt_self (Nat.pos_of_ne_zero h) (by decide))];exact Nat.mod_add_div n 4294967296
theorem Z1(l m:List Nat):E8 (l++m)=E8 l+4294967296 ^ l.length*E8 m:=by
 induction l with
 |nil=>simp[E8]
 |cons d l e=>
  rw[D00,E8,e,E8,C9u,Nat.pow_succ,Nat.mul_add,Nat.mul_comm (4294967296 ^ l.length) 4294967296,Nat.mul_assoc,Nat.add_assoc]
theorem m0(l:List Nat)(d:Nat):E8 (l++[d])=E8 l+4294967296 ^ l.length*d:=by rw[Z1];simp[E8]
theorem G6(l:List Nat)(i:Nat)(h:i<l.length):E8 (l.take (i+1))=E8 (l.take i)+4294967296 ^ i*l[i]:=by
 rw[C98 h,m0,D0X,Nat.min_eq_left (by omega)]
theorem A2K(l:List Nat)(i:Nat)(h:i<l.length):E8 (l.drop i)=l[i]+4294967296*E8 (l.drop (i+1)):=by
 rw[D0K h,E8]
theorem B1R(n:Nat):E8 (List.replicate n 0)=0:=by
 induction n with
 |zero=>rfl
 |succ n d=>rw[List.replicate_succ,E8,d]
theorem A8H{l:List Nat}(h:Dig l):E8 l<4294967296 ^ l.length:=by
 induction l with
 |nil=>simp[E8]
 |cons d l e=>
  have h1:=h d (C90 ..);have g:=e (fun x hx=>h x (C97 _ hx));rw[E8,C9u,Nat.pow_succ]
  calc d+4294967296*E8 l<4294967296+4294967296*E8 l:=by omega
   _=4294967296*(E8 l+1):=by rw[Nat.mul_add];omega
   _≤4294967296*4294967296 ^ l.length:=Nat.mul_le_mul_left _ g
   _=4294967296 ^ l.length*4294967296:=Nat.mul_comm _ _
theorem B8u{l:List Nat}(h:Dig l)(hl: ∀(hn:l≠[]),l.getLast hn≠0):B4 (E8 l)=l:=by
 induction l with
 |nil=>rw[E8,J0]
 |cons d l m=>
  have h1:d<4294967296:=h d (C90 ..);have i:=m (fun x hx=>h x (C97 _ hx)) (fun hn=>by
   have:=hl (List.cons_ne_nil _ _);rwa [List.getLast_cons hn]at this)
  have j:E8 (d::l)≠0:=by
   rw[E8];cases l with
   |nil=>
    have:=hl (List.cons_ne_nil _ _);simp at this;simp[E8,this]
   |cons e l=>
    intro p;have o:E8 (e::l)=0:=by
     have:4294967296*E8 (e::l)=0:=by omega
     rcases Nat.mul_eq_zero.1 this with g|g
     ·exact absurd g (by decide)
     ·exact g
    rw[o,J0]at i;cases i
  rw[y4 j];have e1:E8 (d::l) % 4294967296=d:=by rw[E8,Nat.add_mul_mod_self_left];exact D0q h1
  have e2:E8 (d::l) / 4294967296=E8 l:=by rw[E8,Nat.add_mul_div_left _ _ (by decide),Nat.div_eq_of_lt h1,Nat.zero_add]
  rw[e1,e2,i]
theorem B3o(n:Nat): ∀(hn:B4 n≠[]),(B4 n).getLast hn≠0:=by
 induction n using Nat.strongRecOn with
 |ind n j=>
  intro hn;by_cases h:n=0
  ·subst h;rw[J0]at hn;exact absurd rfl hn
  ·have e:=y4 h;by_cases i:n / 4294967296=0
   ·have e2:B4 n= [n % 4294967296]:=by rw[e,i,J0]
    have:n % 4294967296=n:=D0q (by rcases Nat.div_eq_zero_iff.1 i with g|g;exact absurd g (by decide);exact g);simp only[e2,List.getLast_singleton,this];exact h
   ·have d:B4 (n / 4294967296)≠[]:=by rw[y4 i];exact List.cons_ne_nil _ _
    have g:=j (n / 4294967296) (Nat.div_lt_self (Nat.pos_of_ne_zero h) (by decide)) d;have e3:(B4 n).getLast hn=(n % 4294967296::B4 (n / 4294967296)).getLast (List.cons_ne_nil _ _):=by congr 1
    rw[e3,List.getLast_cons d];exact g
theorem B8v{l m:List Nat}{x:Nat}(e:l=m++[x])(h:l≠[]):l.getLast h=x:=by subst e;simp
def y5:List Nat→Nat→Nat
 |_,0=>0
 |l,n+1=>if l.getD n 0=0 then y5 l n else n+1
theorem A9u(l:List Nat)(n:Nat):y5 l n≤n:=by
 induction n with
 |zero=>exact C99 _
 |succ n d=>unfold y5;split;omega;exact C99 _
theorem A5u{l:List Nat}(h:Dig l): ∀n,n≤l.length→l.take (y5 l n)=B4 (E8 (l.take n))
 |0,_=>by simp[y5,E8,J0]
 |n+1,hn=>by
  have hl:n<l.length:=by omega
  have i:l.getD n 0=l[n]:=by simp[hl]
  unfold y5;rw[i];split
  ·rename_i e;rw[A5u h n (by omega),G6 l n hl,e,Nat.mul_zero,Nat.add_zero]
  ·rename_i e;refine(B8u (fun d j=>h d (List.mem_of_mem_take j)) fun g=>?_).symm;rw[B8v (C98 hl) g];exact e
theorem A9v{l:List Nat}(h:Dig l):l.take (y5 l l.length)=B4 (E8 l):=by
 have:=A5u h l.length (C99 _);rwa [List.take_length]at this
theorem A9w(n k:Nat)(h:n<4294967296 ^ k):(B4 n).length≤k:=by
  induction k generalizing n with
  | zero => have:n=0:=by simpa using h
            subst this;rw[J0];exact C99 _
  |succ k e=>
    by_cases d:n=0
    · subst d;rw[J0];exact D0A _
    · rw[y4 d,C9u]
      have:=e (n / 4294967296) (Nat.div_lt_of_lt_mul (by rw[Nat.pow_succ,Nat.mul_comm]at h;exact h));omega
theorem I2(n:Nat):(B4 n).length=0↔n=0:=by
 constructor
 ·intro h;have:=J7 n;rw[D0D h]at this;exact this.symm
 ·rintro rfl;rw[J0];rfl
theorem A3O{n:Nat}(h:n<4294967296)(d:n≠0):B4 n= [n]:=by
 rw[y4 d,D0q h,Nat.div_eq_of_lt h,J0]
theorem A0J{a b:Nat}(h:(B4 a).length<(B4 b).length):a<b:=by
 by_cases hb:b=0
 ·subst hb;rw[J0]at h;simp at h
 ·have h1:a<4294967296 ^ (B4 a).length:=by have:=A8H (O9 a);rwa [J7]at this
  have d:B4 b≠[]:=by intro e;rw[e]at h;simp at h
  have i:4294967296 ^ ((B4 b).length-1)≤b:=by
   have e:=List.dropLast_concat_getLast d;have g:=J7 b;rw[←e,m0]at g;have l:=B3o b d;have:4294967296 ^ (B4 b).dropLast.length*1≤4294967296 ^ (B4 b).dropLast.length*(B4 b).getLast d:=Nat.mul_le_mul_left _ (by omega);rw[List.length_dropLast]at this;rw[List.length_dropLast]at g;omega
  exact D0l h1 (D0v (Nat.pow_le_pow_right (by decide) (by omega)) i)
theorem B3p{a b:Nat}(h:a≤b):(B4 a).length≤(B4 b).length:=by
 by_cases g:(B4 b).length<(B4 a).length
 ·have:=A0J g;omega
 ·omega
theorem A9x{l m:List Nat}(hl:Dig l)(hm:Dig m)(he:l.length=m.length){i:Nat}(g:i<l.length)(e:l.drop (i+1)=m.drop (i+1)):l[i]<m[i]'(by omega)→E8 l<E8 m:=fun h=>by
 have e1:E8 l=E8 (l.take i)+4294967296 ^ i*(l[i]+4294967296*E8 (l.drop (i+1))):=by
  conv=>lhs;rw[←List.take_append_drop i l,Z1,A2K l i g,D0X,Nat.min_eq_left (by omega)]
 have e2:E8 m=E8 (m.take i)+4294967296 ^ i*(m[i]+4294967296*E8 (m.drop (i+1))):=by
  conv=>lhs;rw[←List.take_append_drop i m,Z1,A2K m i (by omega),D0X,Nat.min_eq_left (by omega)]
 have j:=A8H (l:=l.take i) (fun d e=>hl d (List.mem_of_mem_take e));rw[D0X,Nat.min_eq_left (by omega)]at j;rw[e1,e2,e]
 calc E8 (l.take i)+4294967296 ^ i*(l[i]+4294967296*E8 (m.drop (i+1)))<4294967296 ^ i+4294967296 ^ i*(l[i]+4294967296*E8 (m.drop (i+1))):=by omega
  _=4294967296 ^ i*(l[i]+1+4294967296*E8 (m.drop (i+1))):=by rw[Nat.mul_add,Nat.mul_add,Nat.mul_add];omega
  _≤4294967296 ^ i*(m[i]+4294967296*E8 (m.drop (i+1))):=Nat.mul_le_mul_left _ (by omega)
  _≤_:=Nat.le_add_left _ _
theorem A1I(L:List Nat)(s:Nat):E8 (L++[s % 4294967296])+4294967296 ^ (L.length+1)*(s / 4294967296)=E8 L+4294967296 ^ L.length*s:=by
 rw[m0,Nat.pow_succ,Nat.add_assoc,Nat.mul_assoc,←Nat.mul_add,Nat.mod_add_div]
theorem A4f(L:List Nat)(s:Int):(E8 (L++[(s % (4294967296:Int)).toNat]):Int)+(4294967296:Int) ^ (L.length+1)*(s / (4294967296:Int))=E8 L+(4294967296:Int) ^ L.length*s:=by
 have d:0≤s % (4294967296:Int):=Int.emod_nonneg _ (by decide);have h1:((s % (4294967296:Int)).toNat:Int)=s % (4294967296:Int):=Int.toNat_of_nonneg d;have e:(((4294967296:Nat) ^ L.length:Nat):Int)=(4294967296:Int) ^ L.length:=Int.natCast_pow _ _;rw[m0,Int.natCast_add,Int.natCast_mul,h1,e,Int.pow_succ,Int.add_assoc,Int.mul_assoc,←Int.mul_add,Int.emod_add_mul_ediv]
theorem A9y(l:List Nat)(p d:Nat)(h:p<l.length):E8 (l.set p d)+4294967296 ^ p*l[p]=E8 l+4294967296 ^ p*d:=by
 have e1:l.set p d=l.take p++d::l.drop (p+1):=by rw[List.set_eq_take_append_cons_drop,if_pos h]
 have e2:E8 l=E8 (l.take p)+4294967296 ^ p*(l[p]+4294967296*E8 (l.drop (p+1))):=by
  conv=>lhs;rw[←List.take_append_drop p l,Z1,A2K l p h,D0X,Nat.min_eq_left (by omega)]
 rw[e1,Z1,E8,D0X,Nat.min_eq_left (by omega),e2,Nat.mul_add,Nat.mul_add];omega
theorem B2g{l:List Nat}(h:Dig l){p d:Nat}(e:d<4294967296):Dig (l.set p d):=fun x hx=>by
 rcases List.mem_or_eq_of_mem_set hx with g|rfl
 ·exact h x g
 ·exact e
theorem Z2{l:List Nat}(h:Dig l){d:Nat}(e:d<4294967296):Dig (l++[d]):=fun x hx=>by
 rcases D0F.1 hx with g|g
 ·exact h x g
 ·rw[D0G]at g;rw[g];exact e
theorem J2{l:List Nat}(h:Dig l){i:Nat}(d:i<l.length):l[i]<4294967296:=h _ (C93 d)
theorem B3q(n:Nat):Dig (List.replicate n 0):=fun x hx=>by rw[(List.mem_replicate.1 hx).2];decide
def R6(L:List Nat)(n:Nat):List Nat:=L++List.replicate (n-L.length) 0
theorem A5v(L:List Nat)(n:Nat)(h:L.length≤n):(R6 L n).length=n:=by simp[R6];omega
theorem Z3(L:List Nat)(n d:Nat)(h:L.length<n):(R6 L n).set L.length d=R6 (L++[d]) n:=by
 unfold R6;rw[List.set_append_right _ _ (C99 _),Nat.sub_self,C9v,C9x];have e:n-L.length=(n-(L.length+1))+1:=by omega
 rw[e,List.replicate_succ,List.set_cons_zero,D0d];rfl
theorem A5w(n:Nat):R6 [] n=List.replicate n 0:=by simp[R6]
theorem A38(L:List Nat)(n:Nat)(h:L.length=n):R6 L n=L:=by simp[R6,h]
def A3P(L:List Nat)(n:Nat):List Nat:=List.replicate (n-L.length) 0++L
theorem B5m(L:List Nat)(n:Nat)(h:L.length≤n):(A3P L n).length=n:=by simp[A3P];omega
theorem B5n(L:List Nat)(n d k:Nat)(h:L.length+k+1=n):(A3P L n).set k d=A3P (d::L) n:=by
 unfold A3P;have e:n-L.length=k+1:=by omega
 have e2:n-(d::L).length=k:=by simp;omega
 rw[e,e2,List.replicate_succ',D0d,List.set_append_right _ _ (by simp)];simp
theorem B5o(n:Nat):A3P [] n=List.replicate n 0:=by simp[A3P]
theorem B3r(L:List Nat)(n:Nat)(h:L.length=n):A3P L n=L:=by simp[A3P,h]
theorem B5p{b r V A x:Nat}(hb:0<b)(h:V*b+r=A):((r*4294967296+x) / b+4294967296*V)*b+(r*4294967296+x) % b=x+4294967296*A:=by
 have e:=Nat.div_add_mod (r*4294967296+x) b;have e1:(r*4294967296+x) / b*b=b*((r*4294967296+x) / b):=Nat.mul_comm _ _;have e2:4294967296*A=4294967296*V*b+4294967296*r:=by rw[←h,Nat.mul_add,Nat.mul_assoc]
 have e3:r*4294967296=4294967296*r:=Nat.mul_comm _ _;rw[Nat.add_mul,e2];omega
theorem B8w{b r V A:Nat}(hb:r<b)(h:V*b+r=A):A / b=V∧A % b=r:=by
 subst h;constructor
 ·rw[Nat.mul_comm,Nat.mul_add_div (by omega),Nat.div_eq_of_lt hb,Nat.add_zero]
 ·rw[Nat.mul_comm,Nat.mul_add_mod,D0q hb]
theorem B5q(l:List Nat)(p i j s x y c T A:Nat)(h:p<l.length)(hp:p=i+j)(hv:E8 l+4294967296 ^ p*c=T+4294967296 ^ i*x*A)(hs:s=c+(x*y+l[p])):
  E8 (l.set p (s % 4294967296))+4294967296 ^ (p+1)*(s / 4294967296)=T+4294967296 ^ i*x*(A+4294967296 ^ j*y):=by
 have e1:=A9y l p (s % 4294967296) h;have e2:4294967296 ^ (p+1)*(s / 4294967296)=4294967296 ^ p*(4294967296*(s / 4294967296)):=by rw[Nat.pow_succ,Nat.mul_assoc]
 have e3:4294967296 ^ p*(s % 4294967296)+4294967296 ^ p*(4294967296*(s / 4294967296))=4294967296 ^ p*c+4294967296 ^ p*(x*y)+4294967296 ^ p*l[p]:=by
  rw[←Nat.mul_add,Nat.mod_add_div,hs,Nat.mul_add,Nat.mul_add,Nat.add_assoc]
 have d:4294967296 ^ i*x*(4294967296 ^ j*y)=4294967296 ^ p*(x*y):=by
  rw[hp,Nat.pow_add];simp only[Nat.mul_assoc,Nat.mul_left_comm,Nat.mul_comm]
 rw[Nat.mul_add,d,e2];omega
theorem B8x(l:List Nat)(p c T X:Nat)(h:p<l.length)(d:l[p]=0)(hv:E8 l+4294967296 ^ p*c=T+X):E8 (l.set p c)=T+X:=by
 have e1:=A9y l p c h;rw[d,Nat.mul_zero]at e1;omega
theorem C2b{x y o c:Nat}(hx:x<4294967296)(d:y<4294967296)(ho:o<4294967296)(hc:c<4294967296):c+(x*y+o)<18446744073709551616∧x*y<18446744073709551616:=by
 have:=Nat.mul_le_mul (show x≤4294967295 by omega) (show y≤4294967295 by omega);constructor<;>omega
end Go.Lin
namespace Go.Lin
open Go Go.Av Go.Lexs
def nilL:LinV:=⟨[],0,false⟩
def A9z(l:List LTm)(s:ByteArray):Int:=match l with
 | []=>0
 |t::l=>if t.v=s then t.c else A9z l s
theorem B1S{l:List LTm}(h:l4 l=true):l.Pairwise fun x y=>j8 x.v y.v=true:=by
 have key: ∀(j i:Nat) (d:i<l.length) (g:i+j+1<l.length),j8 l[i].v l[i+j+1].v=true:=by
  intro j
  induction j with
  |zero=>intro i d g;exact(A1r h g).2.2.2 (by omega) (by omega)
  |succ j m=>intro i d g;exact X8 (m i d (by omega)) ((A1r h g).2.2.2 (by omega) (by omega))
 rw[List.pairwise_iff_getElem];intro i j d g o;have:=key (j-i-1) i d (by omega);have e:i+(j-i-1)+1=j:=by omega
 simp only[e]at this;exact this
def C2c(a:LinV)(n:Int):LinV:=⟨if n=0 then []else a.t.map fun t=>⟨t.v,t.c*n⟩,a.k*n,a.e⟩
def y7(a:LinV)(n:Int):Bool:=decide (n=0)||(decide (0<n)&& !a.e)
def okV(l:List VlV)(i:Nat):Bool:=H9 (B (l.getD i default).v)&&(decide (i=0)||j8 (l.getD (i-1) default).v (l.getD i default).v)&&N2 (l.getD i default).n 2147483647
def M2(l:List VlV):Bool:=(List.range l.length).all (okV l)&&decide (l.length≤24)
def L4(l:List VlV)(s:ByteArray):Option Int:=match l with
 | []=>none
 |x::l=>if x.v=s then some x.n else L4 l s
def J3(k:Int)(l:List LTm)(vs:List VlV):Option Int:=match l with
 | []=>some k
 |t::l=>match L4 vs t.v with
  |none=>none
  |some n=>J3 (k+t.c*n) l vs
theorem B3s{l:List VlV}{s:ByteArray}(h: ∀x∈l,x.v≠s):L4 l s=none:=by
 induction l with
 |nil=>rfl
 |cons x l d=>rw[L4,if_neg (h x (C90 ..)),d (fun y e=>h y (C97 _ e))]
theorem A8I{l:List VlV}(h:M2 l=true){i:Nat}(j:i<l.length):H9 (B l[i].v)=true∧l[i].n.natAbs≤2147483647∧(∀d:i-1<l.length,0<i→j8 l[i-1].v l[i].v=true):=by
 unfold M2 at h;rw[C92]at h;have:=D0Q.1 h.1 i (List.mem_range.2 j);unfold okV N2 at this;have e:l.getD i default=l[i]:=by simp[j]
 have e2: ∀d:i-1<l.length,l.getD (i-1) default=l[i-1]:=fun d=>by simp[d]
 rw[e]at this;simp only[C92,D1C,D0B]at this;refine⟨this.1.1,by omega,fun d m=>?_⟩;rcases this.1.2 with g|g
 ·omega
 ·rw[e2 d]at g;exact g
theorem A7B{l:List VlV}(h:M2 l=true): ∀(i j:Nat) (d:i<l.length) (g:j<l.length),i<j→j8 l[i].v l[j].v=true:=by
 have key: ∀(j i:Nat) (d:i<l.length) (g:i+j+1<l.length),j8 l[i].v l[i+j+1].v=true:=by
  intro j
  induction j with
  |zero=>intro i d g;exact(A8I h g).2.2 (by omega) (by omega)
  |succ j m=>intro i d g;exact X8 (m i d (by omega)) ((A8I h g).2.2 (by omega) (by omega))
 intro i j d g o;have:=key (j-i-1) i d (by omega);have e:i+(j-i-1)+1=j:=by omega
 simp only[e]at this;exact this
theorem A8J{l:List VlV}(h:M2 l=true){s:ByteArray}{i:Nat}(r:i≤l.length)(h1: ∀(k:Nat) (hk:k<l.length),k<i→j8 l[k].v s=true)(o: ∀hk:i<l.length,j8 l[i].v s=false):
  L4 l s=if hk:i<l.length then(if l[i].v=s then some l[i].n else none)else none:=by
 have key: ∀(m:List VlV) (i:Nat),(∀(k:Nat) (hk:k<m.length),k<i→m[k].v≠s)→(∀(k:Nat) (hk:k<m.length),i<k→m[k].v≠s)→L4 m s=if hk:i<m.length then(if m[i].v=s then some m[i].n else none)else none:=by
  intro m
  induction m with
  |nil=>intro i _ _;simp[L4]
  |cons x m p=>
   intro i a b;rw[L4];cases i with
   |zero=>
    have e:L4 m s=none:=B3s fun y q=>by
     obtain⟨k,hk,rfl⟩:=List.getElem_of_mem q;exact b (k+1) (by simpa using hk) (by omega)
    rw[e];simp
   |succ i=>
    rw[if_neg (show¬x.v=s from a 0 (by simp) (by omega)),p i (fun k hk d=>a (k+1) (by simpa using hk) (by omega)) (fun k hk d=>b (k+1) (by simpa using hk) (by omega))];simp
 refine key l i (fun k hk d e=>?_) (fun k hk d e=>?_)
 ·have:=h1 k hk d;rw[e,j9]at this;cases this
 ·have g:=A7B h i k (by omega) hk d;have j:=o (by omega);rw[e]at g;rw[g]at j;cases j
structure Row where
 c:List Int
 k:Int
 eq:Bool
 deriving DecidableEq
instance :Inhabited Row:=⟨⟨[],0,false⟩⟩
def U9(l:List Int)(i:Nat):Int:=l.getD i 0
def A1s(x:Row)(a:Int)(y:Row)(b:Int):Row:=⟨List.zipWith (fun p q=>p*a+q*b) x.c y.c,x.k*a+y.k*b,x.eq⟩
def gcdR(l:List Int):Nat:=l.foldl (fun g c=>Nat.gcd c.natAbs g) 0
def W8:List Row→Option (List Row)
 | []=>some []
 |r::l=>
  let g:=gcdR r.c
  if g=0 then(if r.k<0∨(r.eq=true∧0<r.k)then none else W8 l)
  else if g=1 then(W8 l).map (r:: ·)
  else
   let k:=r.k.fdiv g
   if r.eq=true∧k*g-r.k≠0 then none
   else(W8 l).map (⟨r.c.map (Int.fdiv · g),k,r.eq⟩:: ·)
def A39(a b:Row)(sign:Int):Bool:=a.c==b.c.map (· *sign)
def A3Q(r:Row):List Row→List Row
 | []=>[r]
 |s::l=>if r.eq=false∧s.eq=false∧A39 r s 1=true then(if r.k<s.k then {s with k:=r.k}else s)::l else s::A3Q r l
def pairs1(l:List Row):List Row:=l.foldl (fun out r=>A3Q r out) []
def A4u(r:Row):List Row→Option Row
 | []=>some r
 |s::l=>if r.eq=true∨s.eq=true∨A39 r s (-1)=false then A4u r l
  else if r.k+s.k<0 then none else if r.k+s.k=0 then A4u {r with eq:=true} l else A4u r l
def y8:List Row→List Row→Option (List Row)
 |done,[]=>some done
 |done,r::l=>match A4u r done with
  |none=>none
  |some r'=>y8 (done++[r']) l
def A90(l:List Row):Option (List Row):=(W8 l).bind fun l=>y8 [] (pairs1 l)
def A5x(c:List Int):List Int→Nat→Option Nat→Option Nat
 | [],_,b=>b
 |x::l,i,b=>A5x c l (i+1) (if x≠0∧(match b with|none=>true|some j=>decide (x.natAbs<(U9 c j).natAbs))=true then some i else b)
def A4A(r:Row):Option Nat:=A5x r.c r.c 0 none
def R7(e:Row)(k:Nat)(r:Row):Row:=if U9 r.c k=0 then r else A1s r 1 e (-(U9 r.c k*U9 e.c k))
def A0n(a b:Int):Int:=a-b*Int.fdiv (a*2+b) (b*2)
def A2a(r:Row):Row:={r with c:=r.c++[0]}
def n8(l:List Row)(i:Nat):List Row:=
 let e:=l.getD i default
 let rest:=l.take i++l.drop (i+1)
 let k:=(A4A e).getD 0
 if(U9 e.c k).natAbs=1 then rest.map (R7 e k)
 else
  let m:Int:=(U9 e.c k).natAbs+1
  let f:Row:=⟨e.c.map (A0n · m)++[-m],A0n e.k m,true⟩
  ((rest++[e]).map A2a).map (R7 f k)
def I3(l:List Row)(k:Nat):List Row:=l.filter fun r=>decide (0<U9 r.c k)
def F6(l:List Row)(k:Nat):List Row:=l.filter fun r=>decide (U9 r.c k<0)
def S9(l:List Row)(k:Nat):List Row:=l.filter fun r=>decide (U9 r.c k=0)
def A1t(l:List Row)(k:Nat):Bool:=l.all fun r=>(U9 r.c k).natAbs==1
structure Ch where
 best:Option Nat
 sure:Bool
 cost:Int
def A3R(l:List Row)(b:Ch)(k:Nat):Ch:=
 let low:=I3 l k;let high:=F6 l k
 if low.length+high.length=0 then b
 else
  let ex:=A1t low k||A1t high k
  let n:Int:=(low.length:Int)*high.length-low.length-high.length
  if b.best=none∨(ex=true∧b.sure=false)∨(ex=b.sure∧n<b.cost)then⟨some k,ex,n⟩else b
def Y2(l:List Row):Ch:=(List.range (l.headD default).c.length).foldl (A3R l) ⟨none,false,0⟩
def A1J(a b:Row)(k:Nat)(dark:Bool):Row:=
 let p:=U9 a.c k;let q:= -(U9 b.c k)
 let r:=A1s a q b p
 if dark then {r with k:=r.k-(p-1)*(q-1)}else r
def A2L(l:List Row)(k:Nat)(dark:Bool):List Row:=S9 l k++(I3 l k).flatMap fun a=>(F6 l k).map fun b=>A1J a b k dark
def C04(n:Nat)(r:Row):Bool:=r.c.length==n&&r.c.all (fun x=>x.natAbs<2^30)&&decide (r.k.natAbs<2^62)
def A8K(l:List Row):Bool:=decide (l.length<10000)&&match l with| []=>true|r::_=>decide (r.c.length<1000)&&l.all (C04 r.c.length)
def A4g:Nat→List Row→Option Bool
 |0,_=>none
 |n+1,l=>if A8K l=true then match A90 l with
   |none=>some false
   |some []=>some true
   |some (r::l')=>if A8K (r::l')=true then match (r::l').findIdx? (·.eq)with
    |some i=>if(A4A ((r::l').getD i default)).isSome=true then A4g n (n8 (r::l') i)else none
    |none=>match Y2 (r::l')with
     |⟨some k,true,_⟩=>A4g n (A2L (r::l') k false)
     |_=>none
    else none
  else none
def A7C(n i:Nat)(s:Int):List Int:=(List.range n).map fun j=>if j=i then s else 0
def C2d(n i:Nat):List Row:=[⟨A7C n i 1,2147483647,false⟩,⟨A7C n i (-1),2147483647,false⟩]
def C6G(names:List ByteArray)(a:LinV):Row:=⟨names.map (A9z a.t),a.k,a.e⟩
def A91(l:List LinV)(names:List ByteArray):List Row:=l.map (C6G names)++(List.range names.length).flatMap (C2d names.length)
def C05(l:List LinV):Option Bool:=A4g 100 (A91 l (A1n l))
def V0(s:ByteArray)(n:Int):LinV:=⟨[⟨s,1⟩],-n,false⟩
def l5(s:ByteArray)(n:Int):LinV:=⟨[⟨s,-1⟩],n,false⟩
def A3S(can:List LinV→Option Bool)(s:ByteArray):Nat→Int→Int→Option Int
 |0,_,_=>none
 |f+1,low,high=>if low<high then
   match can [V0 s (-((low+high).tdiv 2)),l5 s ((low+high).tdiv 2)]with
   |none=>none
   |some true=>A3S can s f low ((low+high).tdiv 2)
   |some false=>A3S can s f ((low+high).tdiv 2+1) high
  else some low
def B5r(can:List LinV→Option Bool)(s:ByteArray):Option Int:=match A3S can s 40 0 2147483647 with
 |none=>none
 |some low=>if 0<low then(match can [V0 s low,l5 s low]with
   |none=>none
   |some true=>some low
   |some false=>some (-low))else some low
def C9I(c:LinV):LinV:={C2c c (-1)with k:=c.k* -1-1,e:=false}
end Go.Lin
namespace Go.Lin
open Go Go.Av
theorem C2e(n:Nat):W5 n= .sl 1 (Rw F1 (B4 n)):=rfl
abbrev C3(n:Int):List D:=[.bool (decide (n<0)),.sl 1 (Rw F1 (B4 n.natAbs))]
theorem C2f(n:Int):C3 n= [.bool (decide (n<0)),.sl 1 (Rw F1 (B4 n.natAbs))]:=rfl
abbrev C4(r:Row):List D:=[.sl 2 (Rw C3 r.c),.bool (decide (r.k<0)),.sl 1 (Rw F1 (B4 r.k.natAbs)),.bool r.eq]
theorem B5s(r:Row):C4 r= [.sl 2 (Rw C3 r.c),.bool (decide (r.k<0)),.sl 1 (Rw F1 (B4 r.k.natAbs)),.bool r.eq]:=rfl
end Go.Lin
namespace Go.Proofs.YtibphjonmikciaaGreatDoor
open Go Go.Av Go.RowKit Go.Lin
theorem A0K{Q}(s:ByteArray)(c:Int)(H:Heap)(h:Q (.int .i64 (Lib.indexByte (B s) c.toNat.toUInt8)) H):D7 138 [.str s,.int .u8 c] H Q:=
 I4 (by kernel_rfl) (fun w vs hl hr hs=>by
  obtain⟨a,b,rfl,d,hb⟩:=x9 hl hr;rw[d.str_inv,hb.int_inv];refine(Tryz.strings_IndexByte s c w).mono fun e w' ⟨he,hw⟩=>?_;subst hw;exact⟨_,he,Below.refl _ _,.int _ _⟩) h
theorem A92{Q}(s p:ByteArray)(H:Heap)(h:Q (.bool ((B p).isPrefixOf (B s))) H):D7 186 [.str s,.str p] H Q:=
 I4 (by kernel_rfl) (fun w vs hl hr hs=>by
  obtain⟨a,b,rfl,d,hb⟩:=x9 hl hr;rw[d.str_inv,hb.str_inv];refine(Tryz.strings_HasPrefix s p w).mono fun e w' ⟨he,hw⟩=>?_;subst hw;exact⟨_,he,Below.refl _ _,.bool _⟩) h
theorem A8L{Q}(s p:ByteArray)(H:Heap)(h:Q (.str (S (Lib.trimPrefix (B s) (B p)))) H):D7 185 [.str s,.str p] H Q:=
 I4 (by kernel_rfl) (fun w vs hl hr hs=>by
  obtain⟨a,b,rfl,d,hb⟩:=x9 hl hr;rw[d.str_inv,hb.str_inv];refine(Tryz.strings_TrimPrefix s p w).mono fun e w' ⟨he,hw⟩=>?_;subst hw;exact⟨_,he,Below.refl _ _,.str _⟩) h
theorem A8M{Q}(s p:ByteArray)(hsz:s.size≤1000000000000)(H:Heap)(h:Q (.str (S (Lib.trimSuffix (B s) (B p)))) H):D7 148 [.str s,.str p] H Q:=
 I4 (by kernel_rfl) (fun w vs hl hr hs=>by
  obtain⟨a,b,rfl,d,hb⟩:=x9 hl hr;rw[d.str_inv,hb.str_inv];refine(Tryz.strings_TrimSuffix s p w (by omega)).mono fun e w' ⟨he,hw⟩=>?_;subst hw;exact⟨_,he,Below.refl _ _,.str _⟩) h
theorem A93{Q}(s p:ByteArray)(hsz:s.size≤1000000000000)(H:Heap)(h:Q (.bool (Lib.hasSuffix (B s) (B p))) H):D7 149 [.str s,.str p] H Q:=
 I4 (by kernel_rfl) (fun w vs hl hr hs=>by
  obtain⟨a,b,rfl,d,hb⟩:=x9 hl hr;rw[d.str_inv,hb.str_inv];refine(Tryz.strings_HasSuffix s p w (by omega)).mono fun e w' ⟨he,hw⟩=>?_;subst hw;exact⟨_,he,Below.refl _ _,.bool _⟩) h
theorem A94{Q}(s p:ByteArray)(hsz:s.size≤1000000000000)(H:Heap)(h:Q (.tuple [.str (S (Lib.trimSuffix (B s) (B p))),.bool (Lib.hasSuffix (B s) (B p))]) H):D7 147 [.str s,.str p] H Q:=
 I4 (by kernel_rfl) (fun w vs hl hr hs=>by
  obtain⟨a,b,rfl,j,hb⟩:=x9 hl hr;rw[j.str_inv,hb.str_inv];refine(Tryz.strings_CutSuffix s p w (by omega)).mono fun e w' ⟨he,hw⟩=>?_;subst hw;exact⟨_,he,Below.refl _ _,.tuple _ _ rfl fun i d g=>(match i,g with|0,g=>by simp at g;subst g;exact .str _|1,g=>by simp at g;subst g;exact .bool _|i+2,g=>by simp at g)⟩) h
theorem B3t{Q}(s p:ByteArray)(H:Heap)(h:Q (.int .i64 (Lib.compareBytes (B s) (B p))) H):D7 106 [.str s,.str p] H Q:=
 I4 (by kernel_rfl) (fun w vs hl hr hs=>by
  obtain⟨a,b,rfl,d,hb⟩:=x9 hl hr;rw[d.str_inv,hb.str_inv];refine(Tryz.strings_Compare s p w).mono fun e w' ⟨he,hw⟩=>?_;subst hw;exact⟨_,he,Below.refl _ _,.int _ _⟩) h
structure Tabs(H:Heap):Prop where
 pow:H 1=some (.ro (A9k .u64 Lib.pow10Tab))
 syn: ∃t,H 2=some (.ro [.iface t .undef])
 rng: ∃t,H 3=some (.ro [.iface t .undef])
theorem Tabs.le{H H':Heap}(h:Tabs H)(hl:H.Le H'):Tabs H':=⟨hl _ _ h.pow,let ⟨t,e⟩:=h.syn;⟨t,hl _ _ e⟩,let ⟨t,e⟩:=h.rng;⟨t,hl _ _ e⟩⟩
theorem A1K{Q}(n:Int)(i: -9223372036854775808≤n)(h1:n≤9223372036854775807)(H:Heap)(j:Tabs H)(h:Q (.str (S (Lib.itoa n))) H):D7 142 [.int .i64 n] H Q:=
 I4 (by kernel_rfl) (fun w vs d hr hs=>by
  obtain⟨a,rfl,m⟩:=A1m d hr;rw[m.int_inv];refine(Tryz.strconv_Itoa n i h1 w (B5a (g:=1) (by kernel_rfl) hs j.pow)).mono fun e w' ⟨he,k,os,hw⟩=>?_;subst hw;exact⟨_,he,B1O _ _ _,.str _⟩) h
end Go.Proofs.YtibphjonmikciaaGreatDoor
namespace Go.Lin
open Go Go.Av Go.Lexs
theorem A0o(s:ByteArray)(i:Nat)(h:i<s.size):(E7 s).getD i []= [.int .u8 (nth (B s) i)]:=by
 have d:i<s.data.toList.length:=by rw[D0g];exact h
 unfold E7 nth B;rw[List.getD_eq_getElem?_getD,D0C,List.getD_eq_getElem?_getD,C96 d];rfl
theorem A5y(s:ByteArray)(i:Nat)(h:i<s.size):(E7 s)[i]? =some [.int .u8 (nth (B s) i)]:=by
 have d:i<s.data.toList.length:=by rw[D0g];exact h
 unfold E7 nth B;rw[D0C,List.getD_eq_getElem?_getD,C96 d];rfl
theorem A2r(s:ByteArray):(E7 s).length=s.size:=by unfold E7;rw[D0Y,D0g];rfl
def A8N:List UInt8:=[43,45,42,60,62,61]
theorem A4h{x:Int}(d:33≤x)(h1:x≤126):decide (0≤Lib.indexByte A8N x.toNat.toUInt8)= !U8 x:=by
 obtain⟨n,rfl⟩: ∃n:Nat,x=n:=⟨x.toNat,by omega⟩
 have key: ∀n:Fin 127,33≤n.val→decide (0≤Lib.indexByte A8N (n.val:Int).toNat.toUInt8)= !U8 (n.val:Int):=by decide+kernel
 exact key ⟨n,by omega⟩ (by simpa using(by omega:33≤n))
end Go.Lin
namespace Go.Proofs.YtibphjonmikciaaGreatDoor
open Go Go.Av Go.Lexs Go.Lin
attribute [local irreducible] ACalls W4
theorem V1{Q}(n m:Int)(e: -9223372036854775807≤m)(h1:m≤9223372036854775807)(H:Heap)(h:Q (.bool (N2 n m)) H):D7 103 [.int .i64 n,.int .i64 m] H Q:=by
 refine A8 [] A5 Tryz.func103 rfl ?_;simp only[go_sem,seval,Tryz.results103];unfold N2 at h;have w:IntKind.i64.wrap (0-m)= -m:=by rw[A4 (by omega) (by omega)];omega
 repeat' (first|with_reducible apply C9p|simp only[go_sem,seval,w]|intro d)
 all_goals exact D1K (by simpa [*]using h)
theorem N5{Q}(s:ByteArray)(H:Heap)(h:Q (.bool (H9 (B s))) H):D7 102 [.str s] H Q:=by
 refine A8 [] A5 Tryz.func102 rfl ?_;simp only[go_sem,seval,Tryz.results102];have hl:=Y7 s;have j:=A2r s;have C:W4 s 0=nth (B s) 0:=B5T s;by_cases hv:B s≠[]∧s.size≤200∧U7 (nth (B s) 0)=false
 ·obtain⟨v1,v2,v3⟩:=hv;have I: ¬((200:Int)<s.size):=by omega
  have v4: ¬(48≤nth (B s) 0∧nth (B s) 0≤57):=fun g=>by have:=(A1F _).2 g;rw[this]at v3;cases v3
  have vs:0<s.size:=by have:=List.length_pos_iff.2 v1;omega
  have o:(0:Int)<s.size:=by omega
  have L:H9 (B s)=(B s).all (ofB U8):=by unfold H9;rw[C9r v1,v3,C9r (by omega)];rfl
  rw[L]at h;by_cases M:48≤nth (B s) 0
  ·have T: ¬nth (B s) 0≤57:=fun g=>v4 ⟨M,g⟩;repeat' (first|with_reducible apply C9p|simp only[go_sem,seval,v1,I,o,C,M,T,decide_true,decide_false])
   refine A60 _ _ _ (by kernel_rfl) (by kernel_rfl) ?_;repeat' (first|simp only[go_sem,seval]|intro p)
   rename_i b;have hb:=p;clear p;refine C9 [23,24] (fun(i:Nat)=>[(25,.int .i64 i)]) (fun(i:Nat)=>H.set b (.vec 1 (E7 s))) (fun(i:Nat)=>i≤s.size∧((B s).take i).all (ofB U8)=true) (fun(i:Nat)=>s.size-i) (0) (⟨D0A _,by simp⟩) (by(try simp only[go_sem,seval])<;>(try simp(disch:=omega) [A4])) (by first|exact D1G _|exact A0 (by assumption)|exact B2 (by assumption)|simp only[Heap.Le,Heap.set,Heap.del]at* <;>grind) ?_;rintro U rfl i ⟨V,e⟩;by_cases q:i<s.size
   ·have d:decide ((i:Int)<s.size)=true:=C9r (by omega);have r:i<(B s).length:=by omega
    have u:=A5y s i q;have y:=A0o s i q;obtain⟨x,hx⟩: ∃x,x=nth (B s) i:=⟨_,rfl⟩
    have bad:U8 x=false→(B s).all (ofB U8)=false:=fun g=>A3I U8 (B s) i r (by rw[←hx];exact g);rw[←hx]at u y;have O:decide ((i:Int)<(E7 s).length)=true:=C9r (by rw[A2r];omega);by_cases z:x<33
    ·rw[bad (A3K (by omega))]at h;repeat' (first|with_reducible apply C9p|simp only[go_sem,seval,d,u,y,j,z,decide_true]|omega)
     exact D1H (A0 hb) h
    ·by_cases G:126<x
     ·rw[bad (A3K (by omega))]at h;repeat' (first|with_reducible apply C9p|simp only[go_sem,seval,d,u,y,j,z,G,decide_true,decide_false]|omega)
      exact D1H (A0 hb) h
     ·have A:=A4h (x:=x) (by omega) (by omega);have J:B ({data:= #[43,45,42,60,62,61]}:ByteArray)=A8N:=rfl;by_cases m:U8 x=true
      ·rw[m]at A;repeat' (first|with_reducible apply C9p|simp only[go_sem,seval,d,u,y,j,z,G,J,A,decide_true,decide_false]|simp(disch:=omega) only[A4,A0o]|with_reducible refine A0K _ _ _ ?_|omega)
       exact C2 (i+1) ⟨by omega,by rw[A2Z _ _ _ r,e,←hx,m];rfl⟩ (by omega) (by(try simp only[go_sem,seval])<;>(try simp(disch:=omega) [A4])) (D1G _)
      ·have m:U8 x=false:=by simpa using m
       rw[m]at A;rw[bad m]at h;repeat' (first|with_reducible apply C9p|simp only[go_sem,seval,d,u,y,j,z,G,J,A,decide_true,decide_false]|with_reducible refine A0K _ _ _ ?_|omega)
       exact D1H (A0 hb) h
   ·have d:decide ((i:Int)<s.size)=false:=C9s (by omega);rw[C94 (by omega)]at e;rw[e]at h;repeat' simp only[go_sem,seval,d]
    exact D1H (A0 hb) h
  ·repeat' (first|with_reducible apply C9p|simp only[go_sem,seval,v1,I,o,C,M,decide_true,decide_false])
   refine A60 _ _ _ (by kernel_rfl) (by kernel_rfl) ?_;repeat' (first|simp only[go_sem,seval]|intro p)
   rename_i b;have hb:=p;clear p;refine C9 [23,24] (fun(i:Nat)=>[(25,.int .i64 i)]) (fun(i:Nat)=>H.set b (.vec 1 (E7 s))) (fun(i:Nat)=>i≤s.size∧((B s).take i).all (ofB U8)=true) (fun(i:Nat)=>s.size-i) (0) (⟨D0A _,by simp⟩) (by(try simp only[go_sem,seval])<;>(try simp(disch:=omega) [A4])) (by first|exact D1G _|exact A0 (by assumption)|exact B2 (by assumption)|simp only[Heap.Le,Heap.set,Heap.del]at* <;>grind) ?_;rintro U rfl i ⟨V,e⟩;by_cases q:i<s.size
   ·have d:decide ((i:Int)<s.size)=true:=C9r (by omega);have r:i<(B s).length:=by omega
    have u:=A5y s i q;have y:=A0o s i q;obtain⟨x,hx⟩: ∃x,x=nth (B s) i:=⟨_,rfl⟩
    have bad:U8 x=false→(B s).all (ofB U8)=false:=fun g=>A3I U8 (B s) i r (by rw[←hx];exact g);rw[←hx]at u y;have O:decide ((i:Int)<(E7 s).length)=true:=C9r (by rw[A2r];omega);by_cases z:x<33
    ·rw[bad (A3K (by omega))]at h;repeat' (first|with_reducible apply C9p|simp only[go_sem,seval,d,u,y,j,z,decide_true]|omega)
     exact D1H (A0 hb) h
    ·by_cases G:126<x
     ·rw[bad (A3K (by omega))]at h;repeat' (first|with_reducible apply C9p|simp only[go_sem,seval,d,u,y,j,z,G,decide_true,decide_false]|omega)
      exact D1H (A0 hb) h
     ·have A:=A4h (x:=x) (by omega) (by omega);have J:B ({data:= #[43,45,42,60,62,61]}:ByteArray)=A8N:=rfl;by_cases m:U8 x=true
      ·rw[m]at A;repeat' (first|with_reducible apply C9p|simp only[go_sem,seval,d,u,y,j,z,G,J,A,decide_true,decide_false]|simp(disch:=omega) only[A4,A0o]|with_reducible refine A0K _ _ _ ?_|omega)
       exact C2 (i+1) ⟨by omega,by rw[A2Z _ _ _ r,e,←hx,m];rfl⟩ (by omega) (by(try simp only[go_sem,seval])<;>(try simp(disch:=omega) [A4])) (D1G _)
      ·have m:U8 x=false:=by simpa using m
       rw[m]at A;rw[bad m]at h;repeat' (first|with_reducible apply C9p|simp only[go_sem,seval,d,u,y,j,z,G,J,A,decide_true,decide_false]|with_reducible refine A0K _ _ _ ?_|omega)
       exact D1H (A0 hb) h
   ·have d:decide ((i:Int)<s.size)=false:=C9s (by omega);rw[C94 (by omega)]at e;rw[e]at h;repeat' simp only[go_sem,seval,d]
    exact D1H (A0 hb) h
 ·have W:H9 (B s)=false:=by
   rw[←D1B];intro g;unfold H9 at g;simp only[C92,D0B,Bool.not_eq_true']at g;exact hv ⟨g.1.1.1,by omega,g.1.2⟩
  rw[W]at h;by_cases v1:B s= []
  ·repeat' (first|with_reducible apply C9p|simp only[go_sem,seval,v1,decide_true])
   exact D1K h
  ·have o:(0:Int)<s.size:=by have:=List.length_pos_iff.2 v1;omega
   by_cases v2:(200:Int)<s.size
   ·repeat' (first|with_reducible apply C9p|simp only[go_sem,seval,v1,v2,o,decide_true,decide_false])
    exact D1K h
   ·have v3:48≤nth (B s) 0∧nth (B s) 0≤57:=by
     rw[←A1F];cases g:U7 (nth (B s) 0)with
     |true=>rfl
     |false=>exact absurd ⟨v1,by omega,g⟩ hv
    repeat' (first|with_reducible apply C9p|simp only[go_sem,seval,v1,v2,o,C,v3.1,v3.2,decide_true,decide_false])
    exact D1K h
theorem A2s(P:Program)(t:TypeId)(c:Bool)(x y:ByteArray):K1 P .geq t c (.str x) (.str y)=some (.bool (!Op.bytesLess x.data.toList y.data.toList)):=rfl
theorem A8O{Q}(a:LinV)(M:a8 a)(H:Heap)(h:Q (.bool (validL a)) H):D7 96 [.agg (E4 a)] H Q:=by
 refine A8 [] A5 Tryz.func96 rfl ?_;simp only[go_sem,seval,Tryz.results96];intro C I;have e1:(H.set C (.box (E4 a))) C=some (.box (E4 a)):=A2 _ _;have J:H.Le (H.set C (.box (E4 a))):=A0 I;generalize H.set C (.box (E4 a))=Bs at e1 J⊢;have hlen:=M.len;repeat' (first|with_reducible apply C9p|simp only[go_sem,seval,e1]|simp(disch:=omega) only[A4,A9]|simp(disch:=first|omega|grind) only[B9]|intro m|omega)
 refine C9 [1,6,7] (fun(i:Nat)=>[(8,.int .i64 i)]) (fun(i:Nat)=>Bs) (fun(i:Nat)=>i≤a.t.length∧(List.range i).all (A6e a.t)=true) (fun(i:Nat)=>a.t.length-i) (0) (⟨D0A _,rfl⟩) (by(try simp only[go_sem,seval])<;>(try simp(disch:=omega) [A4])) (by first|exact D1G _|exact A0 (by assumption)|exact B2 (by assumption)|simp only[Heap.Le,Heap.set,Heap.del]at* <;>grind) ?_;rintro V rfl i ⟨W,r⟩;by_cases d:i<a.t.length
 ·have j:decide ((i:Int)<a.t.length)=true:=C9r (by omega);have T:(i:Int)<a.t.length:=by omega
  have U:=M.co _ (C93 d);have e:a.t.getD i default=a.t[i]:=by simp[d]
  have e2: ∀q:i-1<a.t.length,a.t.getD (i-1) default=a.t[i-1]:=fun q=>by simp[q]
  have o:A6e a.t i=(H9 (B a.t[i].v)&&(decide (i=0)||j8 (a.t.getD (i-1) default).v a.t[i].v)&&decide (a.t[i].c≠0)&&N2 a.t[i].c 1048576):=by unfold A6e;rw[e]
  have bad:A6e a.t i=false→validL a=false:=fun g=>by
   unfold validL l4;have:(List.range a.t.length).all (A6e a.t)=false:=by rw[List.all_eq_false];exact⟨i,List.mem_range.2 d,by rw[g];decide⟩
   rw[this];rfl
  by_cases n1:H9 (B a.t[i].v)=true
  ·by_cases n2:i=0
   ·have y: ¬((0:Int)<i):=by omega
    have p:(H9 (B a.t[i].v)&&(decide (i=0)||j8 (a.t.getD (i-1) default).v a.t[i].v))=true:=by rw[n1,C9r n2];rfl
    by_cases u:a.t[i].c=0
    ·rw[bad (by rw[o,p,u];simp)]at h;repeat' (first|with_reducible apply C9p|simp only[go_sem,seval,j,e1,n1,A9 _ _ d,C1 _ _ d,y,u,decide_true,decide_false]|intro m|with_reducible refine N5 _ _ ?_|omega)
     exact D1H (by simp only[E6,D2,D3]at* <;>grind) h
    ·by_cases w:N2 a.t[i].c 1048576=true
     ·have z:A6e a.t i=true:=by rw[o,p,w,C9r (show a.t[i].c≠0 from u)];rfl
      repeat' (first|with_reducible apply C9p|simp only[go_sem,seval,j,e1,n1,A9 _ _ d,C1 _ _ d,y,u,w,decide_true,decide_false]|simp(disch:=omega) only[A4,A9]|intro m|with_reducible refine N5 _ _ ?_|with_reducible refine V1 _ _ (by omega) (by omega) _ ?_|omega)
      exact C2 (i+1) ⟨by omega,by rw[List.range_succ,D0t,r];simp[z]⟩ (by omega) (by(try simp only[go_sem,seval])<;>(try simp(disch:=omega) [A4])) (by simp only[E6,D2,D3]at* <;>grind)
     ·have w:N2 a.t[i].c 1048576=false:=by simpa using w
      rw[bad (by rw[o,p,w,Bool.and_false])]at h;repeat' (first|with_reducible apply C9p|simp only[go_sem,seval,j,e1,n1,A9 _ _ d,C1 _ _ d,y,u,w,decide_true,decide_false]|intro m|with_reducible refine N5 _ _ ?_|with_reducible refine V1 _ _ (by omega) (by omega) _ ?_|omega)
      exact D1H (by simp only[E6,D2,D3]at* <;>grind) h
   ·have q:i-1<a.t.length:=by omega
    have y:(0:Int)<i:=by omega
    have G:(i:Int)-1=((i-1:Nat):Int):=by omega
    have x:((i-1:Nat):Int)<a.t.length:=by omega
    by_cases l:j8 a.t[i-1].v a.t[i].v=true
    ·have p:(H9 (B a.t[i].v)&&(decide (i=0)||j8 (a.t.getD (i-1) default).v a.t[i].v))=true:=by rw[n1,e2 q,l,Bool.or_true];rfl
     have A:Op.bytesLess a.t[i-1].v.data.toList a.t[i].v.data.toList=true:=l;by_cases u:a.t[i].c=0
     ·rw[bad (by rw[o,p,u];simp)]at h;repeat' (first|with_reducible apply C9p|simp only[go_sem,seval,j,e1,n1,A9 _ _ d,C1 _ _ d,y,G,x,A9 _ _ q,C1 _ _ q,A2s,A,D1D,D1E,u,decide_true,decide_false]|simp(disch:=omega) only[A4,A9]|simp(disch:=first|omega|grind) only[B9]|intro m|with_reducible refine N5 _ _ ?_|omega)
      exact D1H (by simp only[E6,D2,D3]at* <;>grind) h
     ·by_cases w:N2 a.t[i].c 1048576=true
      ·have z:A6e a.t i=true:=by rw[o,p,w,C9r (show a.t[i].c≠0 from u)];rfl
       repeat' (first|with_reducible apply C9p|simp only[go_sem,seval,j,e1,n1,A9 _ _ d,C1 _ _ d,y,G,x,A9 _ _ q,C1 _ _ q,A2s,A,D1D,D1E,u,w,decide_true,decide_false]|simp(disch:=omega) only[A4,A9]|simp(disch:=first|omega|grind) only[B9]|intro m|with_reducible refine N5 _ _ ?_|with_reducible refine V1 _ _ (by omega) (by omega) _ ?_|omega)
       exact C2 (i+1) ⟨by omega,by rw[List.range_succ,D0t,r];simp[z]⟩ (by omega) (by(try simp only[go_sem,seval])<;>(try simp(disch:=omega) [A4])) (by simp only[E6,D2,D3]at* <;>grind)
      ·have w:N2 a.t[i].c 1048576=false:=by simpa using w
       rw[bad (by rw[o,p,w,Bool.and_false])]at h;repeat' (first|with_reducible apply C9p|simp only[go_sem,seval,j,e1,n1,A9 _ _ d,C1 _ _ d,y,G,x,A9 _ _ q,C1 _ _ q,A2s,A,D1D,D1E,u,w,decide_true,decide_false]|simp(disch:=omega) only[A4,A9]|simp(disch:=first|omega|grind) only[B9]|intro m|with_reducible refine N5 _ _ ?_|with_reducible refine V1 _ _ (by omega) (by omega) _ ?_|omega)
       exact D1H (by simp only[E6,D2,D3]at* <;>grind) h
    ·have l:j8 a.t[i-1].v a.t[i].v=false:=by simpa using l
     have A:Op.bytesLess a.t[i-1].v.data.toList a.t[i].v.data.toList=false:=l;rw[bad (by rw[o,n1,e2 q,l,C9s n2];rfl)]at h;repeat' (first|with_reducible apply C9p|simp only[go_sem,seval,j,e1,n1,A9 _ _ d,C1 _ _ d,y,G,x,A9 _ _ q,C1 _ _ q,A2s,A,D1D,D1E,decide_true,decide_false]|simp(disch:=omega) only[A4,A9]|simp(disch:=first|omega|grind) only[B9]|intro m|with_reducible refine N5 _ _ ?_|omega)
     exact D1H (by simp only[E6,D2,D3]at* <;>grind) h
  ·have n1:H9 (B a.t[i].v)=false:=by simpa using n1
   rw[bad (by rw[o,n1];rfl)]at h;repeat' (first|with_reducible apply C9p|simp only[go_sem,seval,j,e1,n1,A9 _ _ d,C1 _ _ d]|intro m|with_reducible refine N5 _ _ ?_|omega)
   exact D1H (by simp only[E6,D2,D3]at* <;>grind) h
 ·have j:decide ((i:Int)<a.t.length)=false:=C9s (by omega);have L:i=a.t.length:=by omega
  subst L;have hv:validL a=(decide (a.t.length≤12)&&N2 a.k 1099511627776):=by unfold validL l4;rw[r];rfl
  rw[hv]at h;by_cases O:(a.t.length:Int)≤12
  ·rw[C9r (show a.t.length≤12 by omega)]at h;repeat' (first|simp only[go_sem,seval,j,e1,O,decide_true]|with_reducible refine V1 _ _ (by omega) (by omega) _ ?_)
   all_goals exact D1H (by simp only[E6,D2,D3]at* <;>grind) h
  ·rw[C9s (show¬a.t.length≤12 by omega)]at h;repeat' simp only[go_sem,seval,j,e1,O,decide_false]
   all_goals exact D1H (by simp only[E6,D2,D3]at* <;>grind) h
end Go.Proofs.YtibphjonmikciaaGreatDoor
namespace Go.Av
theorem T6{Q:D→Heap→Prop}{cs cs':List D}{H:Heap}{b sz:Nat}{es:List (List D)}(hb:H b=some (.vec sz es))(hl:cs.length=cs'.length)
  (o: ∀(i:Nat) d d',cs[i]? =some d→cs'[i]? =some d'→Fz b sz es d d') (h:Fin Q (.agg cs') (H.del b)):Fin Q (.agg cs) H:=by
 unfold Fin at h⊢;obtain⟨p,d1,h1,q⟩:=h;refine⟨p,d1,Shift.trans (fun w v hr hs=>?_) h1,q⟩;refine⟨?_,hs.less (D9 H b),fun k hn=>(D9 H b).held hn⟩;cases hr with
 |agg _ vs r ho hr=>
  have key: ∀(i:Nat) d',cs'[i]? =some d'→∃d,cs[i]? =some d∧Fz b sz es d d':=fun i d' e=>by
   have u:=(C9z.1 e).1;have g:i<cs.length:=by omega
   exact⟨cs[i],C96 g,o i _ _ (C96 g) e⟩
  refine .agg cs' vs (by omega) (fun i d' e=>?_) (fun i d' e=>?_)
  ·obtain⟨d,j,m⟩:=key i d' e;exact m.one (ho i d j)
  ·obtain⟨d,j,m⟩:=key i d' e;exact m.R hs hb (hr i d j)
theorem C8M{P:Program}{H0:Heap}{d:D→Heap→Prop}{bl:Bl}{g b:Nat}{e:List D}{c:D}{o:Obj}(i:H0 b=none)(hr:o.rw=true)(hn:b∉bl.l)(h: ∀(H':Heap) (Q:D→Heap→Prop),(∀k cs,(H0.set b o) k=some (.ro cs)→H' k=some (.ro cs))→H' b=some o→Q c (H'.del b)→ACalls P g e H' Q)(hk:d c H0):pcB P (.c c) bl g e [b] (H0.set b o) d:=
 pc1 (A2 _ _) hr hn h (by rw[E9 i];exact hk)
theorem C6H{d:Heap}{ob:Option Nat}{e k:Nat}{x o:Obj}(h1:d k=some o)(i:ob≠some k)(g:K7 d ob e=none):((K7 d ob).set e x) k=some o:=by
 have h:K7 d ob k=some o:=by
  cases ob with
  |none=>exact h1
  |some c=>
   show (d.del c) k=_;rw[F0 (by rintro rfl;exact i rfl)];exact h1
 rw[A3 _ (by rintro rfl;rw[h]at g;cases g)];exact h
theorem newK{h:Heap}{ob:Option Nat}{d:Nat}(g:K7 h ob d=none):h d=none∨ob=some d:=by
 cases ob with
 |none=>exact .inl g
 |some c=>
  change (h.del c) d=none at g;simp only[Heap.del]at g;by_cases e:d=c
  ·exact .inr (by rw[e])
  ·rw[if_neg e]at g;exact .inl g
def Apd(H0:Heap)(sz:Nat)(ob:Option Nat)(es:List (List D))(b':Nat)(H':Heap):Prop:=
 H' b'=some (.vec sz es)∧(∀q o,H0 q=some o→ob≠some q→H' q=some o)∧(H0 b'=none∨ob=some b')
theorem A5z{P:Program}{z:D→Heap→Prop}{H0:Heap}{sz m n bx:Nat}{ob:Option Nat}{o:Obj}{es xs:List (List D)}(i:H0 bx=none)(r:xs≠[])(d:OutAt H0 sz es ob)(hn:n=es.length)(h1:(n+xs.length)*m≤140737488355328)(A:n+xs.length≤9223372036854775807)
  (h: ∀b' H',Apd H0 sz ob (es++xs) b' H'→z (.vec b' sz 0 (n+xs.length)) H'):apS (J1 sz n ob) sz m xs (H0.set bx o) z:=by
 have u:ob≠some bx:=fun e=>by subst e;have:H0 bx=some (.vec sz es):=d;rw[i]at this;cases this
 have j:OutAt (H0.set bx o) sz es ob:=by
  cases ob with
  |none=>exact d
  |some c=>show Heap.set _ bx _ c=_;rw[A3 _ (fun e=>u (by rw[e]))];exact d
 refine A8A es r hn j h1 A fun b' p=>?_;refine h b' _ ⟨A2 _ _,fun q x hq y=>C6H (by rw[A3 _ (by rintro rfl;rw[i]at hq;cases hq)];exact hq) y p,?_⟩;rcases newK p with g|g
 ·exact .inl ((A0 i).none g)
 ·exact .inr g
theorem A4n{Q:D→Heap→Prop}{cs cs':List D}{x:D}{H:Heap}{b sz:Nat}{es:List (List D)}(hb:H b=some (.vec sz es))(hl:cs.length=cs'.length)
  (u: ∀(i:Nat) d d',cs[i]? =some d→cs'[i]? =some d'→Fz b sz es d d') (h:Fin Q (.tuple [.agg cs',x]) (H.del b)):Fin Q (.tuple [.agg cs,x]) H:=by
 unfold Fin at h⊢;obtain⟨y,d1,h1,z⟩:=h;refine⟨y,d1,Shift.trans (fun w v hr hs=>?_) h1,z⟩;refine⟨?_,hs.less (D9 H b),fun k hn=>(D9 H b).held hn⟩;cases hr with
 |tuple _ us o j=>
  refine .tuple [.agg cs',x] us o (fun q d' e=>?_)
  match q with
  |0=>
   cases e;have g:=j 0 (.agg cs) rfl;revert g;generalize us.getD 0 undef=v0;intro g;cases g with
   |agg _ vs A ho hr=>
    have key: ∀(i:Nat) d',cs'[i]? =some d'→∃d,cs[i]? =some d∧Fz b sz es d d':=fun i d' e=>by
     have C:=(C9z.1 e).1;have m:i<cs.length:=by omega
     exact⟨cs[i],C96 m,u i _ _ (C96 m) e⟩
    refine .agg cs' vs (by omega) (fun i d' e=>?_) (fun i d' e=>?_)
    ·obtain⟨d,p,r⟩:=key i d' e;exact r.one (ho i d p)
    ·obtain⟨d,p,r⟩:=key i d' e;exact r.R hs hb (hr i d p)
  |1=>cases e;exact(j 1 _ rfl).less (D9 H b)
  |q+2=>cases e
theorem A6W{P:Program}{f b sz:Nat}{es:List (List D)}{args:List D}{H H':Heap}{Q:D→Heap→Prop}(hb:H b=some (.vec sz es))
  (A: ∀k o',H' k=some o'→k≠b∧∃o,H k=some o∧OFz b sz es o o') (h:ACalls P f args H' Q):ACalls P f args H Q:=by
 refine ACalls.shift (fun w vs h1 x hs=>?_) h;have e: ∀k,H.held k=false→H'.held k=false:=fun k hk=>by
  cases ho:H' k with
  |none=>exact G9 ho
  |some o'=>
   obtain⟨_,o,h1,x⟩:=A k o' ho;rw[I6 h1]at hk;rw[I6 ho];cases x<;>exact hk
 have C: ∀{d d':D} {v:Value},Fz b sz es d d'→R w H d v→R w H' d' v:=fun r hr=>(r.R hs hb hr).mono (D1N _ _) fun k _ hk=>by
  by_cases y:k=b
  ·subst y;cases ho:H' k with
   |none=>exact G9 ho
   |some o'=>exact absurd rfl (A k o' ho).1
  ·refine e k ?_;rw[←A0D (H:=H) (H':=H.del b) (k:=k) (by unfold Heap.del;rw[if_neg y])];exact hk
 refine⟨h1,fun i d q=>C (.same d) (x i d q),fun k o' ho=>?_,e⟩;obtain⟨_,o,h1,x⟩:=A k o' ho;have u:=hs k o h1;cases x with
 |same=>exact u.mono (D1N H w) (fun k _ hk=>e k hk) rfl
 |box cs cs' Z hl r=>
  obtain⟨c,T,lo,G,I,J,O,z,L⟩:=u;refine⟨c,T,lo,G,I,J,by omega,fun j d' m=>?_,L⟩;have V:=(C9z.1 m).1;have q:cs[j]? =some (cs[j]'(by omega)):=C96 _;have p:=r j _ _ q m;exact⟨p.one (z j _ q).1,C p (z j _ q).2⟩
 |vec s xs xs' hl r=>
  obtain⟨c,T,lo,G,I,J,O,z,L,U⟩:=u;refine⟨c,T,lo,G,I,J,O,by rw[←hl];exact z,fun i x' g=>?_,fun i x' j d' g m=>?_⟩
  ·have M:=(C9z.1 g).1;have hx:xs[i]? =some (xs[i]'(by omega)):=C96 _;rw[←(r i _ _ hx g).1];exact L i _ hx
  ·have M:=(C9z.1 g).1;have hx:xs[i]? =some (xs[i]'(by omega)):=C96 _;have hlen:=(r i _ _ hx g).1;have V:=(C9z.1 m).1;have q:(xs[i]'(by omega))[j]? =some ((xs[i]'(by omega))[j]'(by omega)):=C96 _;have p:=(r i _ _ hx g).2 j _ _ q m;exact⟨p.one (U i _ j _ hx q).1,C p (U i _ j _ hx q).2⟩
inductive NilR:D→D→Prop
 |same (d:D):NilR d d
 |nil (z:Nat):NilR .nilsl (.sl z [])
 |agg (cs cs':List D) (hl:cs.length=cs'.length) (h: ∀(i:Nat) d d',cs[i]? =some d→cs'[i]? =some d'→NilR d d'):NilR (.agg cs) (.agg cs')
 |tuple (cs cs':List D) (hl:cs.length=cs'.length) (h: ∀(i:Nat) d d',cs[i]? =some d→cs'[i]? =some d'→NilR d d'):NilR (.tuple cs) (.tuple cs')
 |sl (sz:Nat) (es es':List (List D)) (hl:es.length=es'.length) (h1: ∀(i:Nat) (e e':List D),es[i]? =some e→es'[i]? =some e'→e.length=e'.length)
   (h: ∀(i:Nat) (e e':List D) (j:Nat) (d d':D),es[i]? =some e→es'[i]? =some e'→e[j]? =some d→e'[j]? =some d'→NilR d d'):NilR (.sl sz es) (.sl sz es')
theorem NilR.one{d d':D}(h:NilR d d')(ho:d.one=true):d'.one=true:=by
 cases h with
 |same=>exact ho
 |nil=>rfl
 |agg=>cases ho
 |tuple=>cases ho
 |sl=>rfl
theorem F8{α β :Type}{l:List α}{m:List β}(hl:l.length=m.length){i:Nat}{y: β}(h:m[i]? =some y): ∃x,l[i]? =some x:=by
 have d:=(C9z.1 h).1;exact⟨l[i]'(by omega),C96 _⟩
theorem NilR.R{d d':D}(h:NilR d d'): ∀{w:World} {H:Heap} {v:Value},R w H d v→R w H d' v:=by
 induction h with
 |same d=>exact fun hr=>hr
 |nil z=>intro w H v hr;cases hr;exact .sl0 _ _ _
 |agg cs cs' hl h p=>
  intro w H v hr;cases hr with
  |agg _ vs q ho hr=>
   refine .agg cs' vs (by omega) (fun i d' g=>?_) (fun i d' g=>?_)
   ·obtain⟨d,o⟩:=F8 hl g;exact(h i d d' o g).one (ho i d o)
   ·obtain⟨d,o⟩:=F8 hl g;exact p i d d' o g (hr i d o)
 |tuple cs cs' hl h p=>
  intro w H v hr;cases hr with
  |tuple _ vs q hr=>
   refine .tuple cs' vs (by omega) (fun i d' g=>?_);obtain⟨d,o⟩:=F8 hl g;exact p i d d' o g (hr i d o)
 |sl sz es es' hl h1 h p=>
  intro w H v hr;cases hr with
  |sl0 _ a cap=>
   have:es'= []:=D0D (by simpa using hl.symm);subst this;exact .sl0 _ _ _
  |sl _ _ b off cap u hb hn hlen hcap hc ho hr=>
   rw[hl];refine .sl sz es' b off cap u hb hn (fun i e' m=>?_) (by omega) (fun i j x r=>hc i j (by omega) r) (fun i e' j d' m g=>?_) (fun i e' j d' m g=>?_)
   ·obtain⟨e,he⟩:=F8 hl m;rw[←h1 i e e' he m];exact hlen i e he
   ·obtain⟨e,he⟩:=F8 hl m;obtain⟨d,o⟩:=F8 (h1 i e e' he m) g;exact(h i e e' j d d' he m o g).one (ho i e j d he o)
   ·obtain⟨e,he⟩:=F8 hl m;obtain⟨d,o⟩:=F8 (h1 i e e' he m) g;exact p i e e' j d d' he m o g (hr i e j d he o)
theorem NilR.rw{α :Type}{f g: α →List D}(sz:Nat)(l:List α)(h1: ∀x∈l,(f x).length=(g x).length)(h: ∀x∈l,∀(j:Nat) d d',(f x)[j]? =some d→(g x)[j]? =some d'→NilR d d'):NilR (.sl sz (Rw f l)) (.sl sz (Rw g l)):=by
 refine .sl sz _ _ (by simp[Rw]) (fun i e e' he m=>?_) (fun i e e' j d d' he m q p=>?_)
 ·simp only[Rw,D0C,C9y]at he m;obtain⟨x,hx,rfl⟩:=he;obtain⟨y,o,rfl⟩:=m;rw[hx]at o;cases o;exact h1 x (D0M hx)
 ·simp only[Rw,D0C,C9y]at he m;obtain⟨x,hx,rfl⟩:=he;obtain⟨y,o,rfl⟩:=m;rw[hx]at o;cases o;exact h x (D0M hx) j d d' q p
theorem E3{Q:D→Heap→Prop}{d d':D}{H:Heap}(hn:NilR d d')(h:Fin Q d' H):Fin Q d H:=by
 unfold Fin at h⊢;obtain⟨e,d1,h1,g⟩:=h;exact⟨e,d1,Shift.trans (fun w v hr hs=>⟨hn.R hr,hs,fun k hk=>hk⟩) h1,g⟩
theorem Z8{P:Program}{f:Nat}{args args':List D}{H:Heap}{Q:D→Heap→Prop}(hl:args.length=args'.length)(hn: ∀(i:Nat) d d',args[i]? =some d→args'[i]? =some d'→NilR d d')(h:ACalls P f args' H Q):ACalls P f args H Q:=
 ACalls.shift (args':=args') (fun w vs h1 j m=>⟨by omega,fun i d' e=>by
  obtain⟨d,g⟩:=F8 hl e;exact(hn i d d' g e).R (j i d g),m,fun _ hk=>hk⟩) h
end Go.Av
namespace Go.Lin
open Go Go.Av Go.Lexs
theorem A3T(k n:Int)(e:Bool):NilR (.tuple [.agg [.nilsl,.int .i64 k,.bool e],.int .i64 n]) (.tuple [.agg (E4 ⟨[],k,e⟩),.int .i64 n]):=by
 refine .tuple _ _ rfl fun i d d' h1 g=>?_
 match i with
 |0=>
  cases h1;cases g;refine .agg _ _ rfl fun i d d' h1 g=>?_
  match i with
  |0=>cases h1;cases g;exact .nil _
  |1=>cases h1;cases g;exact .same _
  |2=>cases h1;cases g;exact .same _
  |i+3=>cases h1
 |1=>cases h1;cases g;exact .same _
 |i+2=>cases h1
end Go.Lin
namespace Go.Proofs.YtibphjonmikciaaGreatDoor
open Go Go.Av Go.Lexs Go.Lin
attribute [local irreducible] ACalls W4
theorem B5u{Q}(l:List VlV)(C:A4a l)(H:Heap)(h:Q (.bool (M2 l)) H):D7 61 [.sl 2 (Rw vlC l)] H Q:=by
 refine A8 [] A5 Tryz.func61 rfl ?_;simp only[go_sem,seval,Tryz.results61];have hlen:=C.len;refine C9 [0,5,6] (fun(i:Nat)=>[(7,.int .i64 i)]) (fun(i:Nat)=>H) (fun(i:Nat)=>i≤l.length∧(List.range i).all (okV l)=true) (fun(i:Nat)=>l.length-i) (0) (⟨D0A _,rfl⟩) (by(try simp only[go_sem,seval])<;>(try simp(disch:=omega) [A4])) (by first|exact D1G _|exact A0 (by assumption)|exact B2 (by assumption)|simp only[Heap.Le,Heap.set,Heap.del]at* <;>grind) ?_;rintro I rfl i ⟨J,o⟩;by_cases d:i<l.length
 ·have j:decide ((i:Int)<l.length)=true:=C9r (by omega);have G:(i:Int)<l.length:=by omega
  have e:l.getD i default=l[i]:=by simp[d]
  have e2: ∀p:i-1<l.length,l.getD (i-1) default=l[i-1]:=fun p=>by simp[p]
  have m:okV l i=(H9 (B l[i].v)&&(decide (i=0)||j8 (l.getD (i-1) default).v l[i].v)&&N2 l[i].n 2147483647):=by unfold okV;rw[e]
  have bad:okV l i=false→M2 l=false:=fun g=>by
   unfold M2;have:(List.range l.length).all (okV l)=false:=by rw[List.all_eq_false];exact⟨i,List.mem_range.2 d,by rw[g];decide⟩
   rw[this];rfl
  by_cases n1:H9 (B l[i].v)=true
  ·by_cases n2:i=0
   ·have x: ¬((0:Int)<i):=by omega
    by_cases w:N2 l[i].n 2147483647=true
    ·have r:okV l i=true:=by rw[m,n1,w,C9r n2];rfl
     repeat' (first|with_reducible apply C9p|simp only[go_sem,seval,j,n1,A9 _ _ d,C1 _ _ d,x,w,D1D,D1E,decide_true,decide_false]|simp(disch:=omega) only[A4,A9]|intro q|with_reducible refine N5 _ _ ?_|with_reducible refine V1 _ _ (by omega) (by omega) _ ?_|omega)
     exact C2 (i+1) ⟨by omega,by rw[List.range_succ,D0t,o];simp[r]⟩ (by omega) (by(try simp only[go_sem,seval])<;>(try simp(disch:=omega) [A4])) (by simp only[E6,D2,D3]at* <;>grind)
    ·have w:N2 l[i].n 2147483647=false:=by simpa using w
     rw[bad (by rw[m,w,Bool.and_false])]at h;repeat' (first|with_reducible apply C9p|simp only[go_sem,seval,j,n1,A9 _ _ d,C1 _ _ d,x,w,D1D,D1E,decide_true,decide_false]|intro q|with_reducible refine N5 _ _ ?_|with_reducible refine V1 _ _ (by omega) (by omega) _ ?_|omega)
     exact D1H (by simp only[E6,D2,D3]at* <;>grind) h
   ·have p:i-1<l.length:=by omega
    have x:(0:Int)<i:=by omega
    have z:(i:Int)-1=((i-1:Nat):Int):=by omega
    have u:((i-1:Nat):Int)<l.length:=by omega
    by_cases g:j8 l[i-1].v l[i].v=true
    ·have y:Op.bytesLess l[i-1].v.data.toList l[i].v.data.toList=true:=g;by_cases w:N2 l[i].n 2147483647=true
     ·have r:okV l i=true:=by rw[m,n1,w,e2 p,g,Bool.or_true];rfl
      repeat' (first|with_reducible apply C9p|simp only[go_sem,seval,j,n1,A9 _ _ d,C1 _ _ d,x,z,u,A9 _ _ p,C1 _ _ p,A2s,y,w,D1D,D1E,decide_true,decide_false]|simp(disch:=omega) only[A4,A9]|intro q|with_reducible refine N5 _ _ ?_|with_reducible refine V1 _ _ (by omega) (by omega) _ ?_|omega)
      exact C2 (i+1) ⟨by omega,by rw[List.range_succ,D0t,o];simp[r]⟩ (by omega) (by(try simp only[go_sem,seval])<;>(try simp(disch:=omega) [A4])) (by simp only[E6,D2,D3]at* <;>grind)
     ·have w:N2 l[i].n 2147483647=false:=by simpa using w
      rw[bad (by rw[m,w,Bool.and_false])]at h;repeat' (first|with_reducible apply C9p|simp only[go_sem,seval,j,n1,A9 _ _ d,C1 _ _ d,x,z,u,A9 _ _ p,C1 _ _ p,A2s,y,w,D1D,D1E,decide_true,decide_false]|simp(disch:=omega) only[A4,A9]|intro q|with_reducible refine N5 _ _ ?_|with_reducible refine V1 _ _ (by omega) (by omega) _ ?_|omega)
      exact D1H (by simp only[E6,D2,D3]at* <;>grind) h
    ·have g:j8 l[i-1].v l[i].v=false:=by simpa using g
     have y:Op.bytesLess l[i-1].v.data.toList l[i].v.data.toList=false:=g;rw[bad (by rw[m,n1,e2 p,g,C9s n2];rfl)]at h;repeat' (first|with_reducible apply C9p|simp only[go_sem,seval,j,n1,A9 _ _ d,C1 _ _ d,x,z,u,A9 _ _ p,C1 _ _ p,A2s,y,D1D,D1E,decide_true,decide_false]|simp(disch:=omega) only[A4,A9]|intro q|with_reducible refine N5 _ _ ?_|omega)
     exact D1H (by simp only[E6,D2,D3]at* <;>grind) h
  ·have n1:H9 (B l[i].v)=false:=by simpa using n1
   rw[bad (by rw[m,n1];rfl)]at h;repeat' (first|with_reducible apply C9p|simp only[go_sem,seval,j,n1,A9 _ _ d,C1 _ _ d,D1D,D1E,decide_true,decide_false]|intro q|with_reducible refine N5 _ _ ?_|omega)
   exact D1H (by simp only[E6,D2,D3]at* <;>grind) h
 ·have j:decide ((i:Int)<l.length)=false:=C9s (by omega);have A:i=l.length:=by omega
  subst A;have hv:M2 l=decide ((l.length:Int)≤24):=by
   unfold M2;rw[o];by_cases g:l.length≤24
   ·rw[C9r g,C9r (show (l.length:Int)≤24 by omega)];rfl
   ·rw[C9s g,C9s (show¬(l.length:Int)≤24 by omega)];rfl
  rw[hv]at h;repeat' simp only[go_sem,seval,j]
  exact D1H (by simp only[E6,D2,D3]at* <;>grind) h
end Go.Proofs.YtibphjonmikciaaGreatDoor
namespace Go.Lin
open Go Go.Av
theorem A0B{n:Int}(d:0≤n)(h1:n<18446744073709551616):IntKind.u64.wrap n=n:=by
 simp only[IntKind.wrap,IntKind.signed,IntKind.bits];simp;omega
theorem A6g{n:Int}:IntKind.u32.wrap n=n % 4294967296:=by
 simp only[IntKind.wrap,IntKind.signed,IntKind.bits];simp
theorem B8z{n:Int}(d:0≤n)(h1:n<4294967296):IntKind.u32.wrap n=n:=by rw[A6g];omega
theorem C2g{r x:Nat}(hr:r<4294967296)(hx:x<4294967296):IntKind.u64.wrap (((BitVec.ofInt 64 ((r:Int)*4294967296)|||BitVec.ofInt 64 (x:Int)).toNat:Nat):Int)=((r*4294967296+x:Nat):Int):=by
 have e1:BitVec.ofInt 64 ((r:Int)*4294967296)=BitVec.ofNat 64 (r*4294967296):=by
  rw[show ((r:Int)*4294967296)=((r*4294967296:Nat):Int)by omega,BitVec.ofInt_natCast]
 rw[e1,BitVec.ofInt_natCast,BitVec.toNat_or,BitVec.toNat_ofNat,BitVec.toNat_ofNat,D0q (by omega),D0q (by omega)];have e2:r*4294967296|||x=r*4294967296+x:=by
  have:=Nat.two_pow_add_eq_or_of_lt (i:=32) (b:=x) (by simpa using hx) r;rw[show r*4294967296=2 ^ 32*r by omega];exact this.symm
 rw[e2];exact A0B (by omega) (by omega)
section
variable {P:Program} {t:Nat} {c:Bool}
@[go_sem] theorem C7P(a:Int):K1 P .shr t c (.int .u64 a) (.int .u64 32)=some (.int .u64 (a / 4294967296)):=by
 show (if(32:Int)<0 then none else some (D.int .u64 (a.fdiv (2 ^ (min (32:Int).toNat IntKind.u64.bits)))))=_;rw[if_neg (by decide)];have e:(2:Int) ^ (min (32:Int).toNat IntKind.u64.bits)=4294967296:=by decide
 rw[e,Int.fdiv_eq_ediv_of_nonneg _ (by decide)]
@[go_sem] theorem C8N(a:Int):K1 P .shr t c (.int .i64 a) (.int .u64 32)=some (.int .i64 (a / 4294967296)):=by
 show (if(32:Int)<0 then none else some (D.int .i64 (a.fdiv (2 ^ (min (32:Int).toNat IntKind.i64.bits)))))=_;rw[if_neg (by decide)];have e:(2:Int) ^ (min (32:Int).toNat IntKind.i64.bits)=4294967296:=by decide
 rw[e,Int.fdiv_eq_ediv_of_nonneg _ (by decide)]
@[go_sem] theorem C7Q(a:Int):K1 P .shl t c (.int .u64 a) (.int .u64 32)=some (.int .u64 (IntKind.u64.wrap (a*4294967296))):=by
 show (if(32:Int)<0 then none else some (D.int .u64 (IntKind.u64.wrap (a*(2 ^ (min (32:Int).toNat IntKind.u64.bits))))))=_;rw[if_neg (by decide)];have e:(2:Int) ^ (min (32:Int).toNat IntKind.u64.bits)=4294967296:=by decide
 rw[e]
@[go_sem] theorem C8O(a b:Int):K1 P .or t c (.int .u64 a) (.int .u64 b)=some (.int .u64 (IntKind.u64.wrap ((BitVec.ofInt 64 a|||BitVec.ofInt 64 b).toNat:Nat))):=rfl
end
end Go.Lin
namespace Go.Proofs.YtibphjonmikciaaGreatDoor
open Go Go.Av Go.Lin
attribute [local irreducible] ACalls W4
theorem A4B{Q}(l:List Nat)(b:Nat)(H:Heap)(n:Nat)(hn:n=l.length)(hl:l.length≤1000000)(hb:H b=some (.vec 1 (Rw F1 l)))(h:Q (.vec b 1 0 (y5 l n)) H):D7 287 [.vec b 1 0 n] H Q:=by
 subst hn;refine A8 [] A5 Tryz.func287 rfl ?_;simp only[go_sem,seval,Tryz.results287];repeat' (first|with_reducible apply C9p|simp only[go_sem,seval]|simp(disch:=omega) only[A4]|intro d|omega)
 refine C9 [] (fun(m:Nat)=>[(0,.vec b 1 0 m)]) (fun(m:Nat)=>H) (fun(m:Nat)=>m≤l.length∧y5 l m=y5 l l.length) (fun(m:Nat)=>m) (l.length) (⟨C99 _,rfl⟩) (by simp only[go_sem,seval]) (by first|exact D1G _|exact A0 (by assumption)|exact B2 (by assumption)|simp only[Heap.Le,Heap.set,Heap.del]at* <;>grind) ?_;rintro q rfl m ⟨hm,g⟩;by_cases r:0<m
 ·obtain⟨k,rfl⟩: ∃k,m=k+1:=⟨m-1,by omega⟩
  have hk:k<l.length:=by omega
  have p:l.getD k 0=l[k]:=by simp[hk]
  have o:(((k+1:Nat):Int)-1)=(k:Int):=by omega
  rw[y5,p]at g;by_cases i:l[k]=0
  ·rw[if_pos i]at g;repeat' (first|with_reducible apply C9p|simp only[go_sem,seval,hb,A9 _ _ hk,C1 _ _ hk,o,i,decide_true]|simp(disch:=omega) only[A4]|intro d|omega)
   exact C2 k ⟨by omega,g⟩ (by omega) (by simp only[go_sem,seval]) (D1G _)
  ·rw[if_neg i]at g;have j: ¬((l[k]:Nat):Int)=0:=by omega
   repeat' (first|with_reducible apply C9p|simp only[go_sem,seval,hb,A9 _ _ hk,C1 _ _ hk,o,j,decide_false]|simp(disch:=omega) only[A4]|intro d|omega)
   rw[←g]at h;exact D1K h
 ·have e:m=0:=by omega
  subst e;rw[y5]at g;repeat' (first|with_reducible apply C9p|simp only[go_sem,seval]|simp(disch:=omega) only[A4]|intro d|omega)
  rw[←g]at h;exact D1K h
theorem A1u{Q:D→Heap→Prop}{H:Heap}{b n:Nat}{l:List Nat}(d:Dig l)(hn:n=l.length)(hb:H b=some (.vec 1 (Rw F1 l)))(h:Av.Fin Q (W5 (E8 l)) (H.del b)):Av.Fin Q (.vec b 1 0 (y5 l n)) H:=by
 subst hn;refine Fin.freeze hb (.vec 0 _ (by rw[Nat.zero_add,D6];exact A9u _ _)) ?_;rw[List.drop_zero,A8B,A9v d];exact h
theorem C2h{Q}(n:Nat)(hn:n<18446744073709551616)(H:Heap)(h:Q (W5 n) H):D7 265 [.int .u64 n] H Q:=by
 refine A8 [] A5 Tryz.func265 rfl ?_;simp only[go_sem,seval,Tryz.results265];repeat' intro d
 rename_i b;have hb:=d;clear d;have e1:IntKind.u32.wrap (n:Int)=((n % 4294967296:Nat):Int):=by rw[A6g];omega
 have e2:IntKind.u32.wrap ((n:Int) / 4294967296)=((n / 4294967296:Nat):Int):=by rw[A6g];omega
 have e:Dig [n % 4294967296,n / 4294967296]:=fun x hx=>by
  simp only[D0H,D0I,or_false]at hx;rcases hx with rfl|rfl<;>omega
 have hv:E8 [n % 4294967296,n / 4294967296]=n:=by simp only[E8];omega
 rw[e1,e2];refine A4B [n % 4294967296,n / 4294967296] b _ 2 rfl (by simp) (A2 _ _) ?_;repeat' simp only[go_sem,seval]
 refine A1u e rfl (A2 _ _) ?_;rw[hv,E9 hb];exact D1K h
def C6I(a b:Nat)(c:Int):Prop:=(c<0↔a<b)∧(c=0↔a=b)
theorem B5v{Q}(a b:Nat)(L:(B4 a).length≤1000000)(hb:(B4 b).length≤1000000)(H:Heap)(h: ∀c:Int,C6I a b c→Q (.int .i64 c) H):D7 283 [W5 a,W5 b] H Q:=by
 refine A8 [] A5 Tryz.func283 rfl ?_;simp only[go_sem,seval,Tryz.results283];have u:=J7 a;have x:=J7 b;have C:=O9 a;have G:=O9 b;by_cases hl:(B4 a).length=(B4 b).length
 ·have y:((B4 a).length:Int)=(B4 b).length:=by omega
  repeat' (first|with_reducible apply C9p|simp only[go_sem,seval,y,bne_self_eq_false]|simp(disch:=omega) only[A4,A9])
  refine C9 [0,1] (fun(k:Nat)=>[(5,.int .i64 ((k:Int)-1))]) (fun(k:Nat)=>H) (fun(k:Nat)=>k≤(B4 a).length∧(B4 a).drop k=(B4 b).drop k) (fun(k:Nat)=>k) ((B4 b).length) (⟨by omega,by rw[List.drop_length,List.drop_eq_nil_of_le (by omega)]⟩) (by simp only[go_sem,seval]) (by first|exact D1G _|exact A0 (by assumption)|exact B2 (by assumption)|simp only[Heap.Le,Heap.set,Heap.del]at* <;>grind) ?_;rintro M rfl k ⟨hk,d⟩;by_cases O:0<k
  ·obtain⟨j,rfl⟩: ∃j,k=j+1:=⟨k-1,by omega⟩
   have m:j<(B4 a).length:=by omega
   have o:j<(B4 b).length:=by omega
   have z:(((j+1:Nat):Int)-1)=(j:Int):=by omega
   have r:decide ((0:Int)≤(j:Int))=true:=C9r (by omega);by_cases he:(B4 a)[j]=(B4 b)[j]
   ·have i:((((B4 a)[j]:Nat):Int) != (((B4 b)[j]:Nat):Int))=false:=by rw[he];exact bne_self_eq_false _
    repeat' (first|with_reducible apply C9p|simp only[go_sem,seval,A9 _ _ m,C1 _ _ m,A9 _ _ o,C1 _ _ o,z,r,i]|simp(disch:=omega) only[A4,A9]|intro p|omega)
    exact C2 j ⟨by omega,by rw[D0K m,D0K o,d,he]⟩ (by omega) (by simp only[go_sem,seval]) (D1G _)
   ·have i:((((B4 a)[j]:Nat):Int) != (((B4 b)[j]:Nat):Int))=true:=by rw[bne_iff_ne];omega
    by_cases A:(B4 a)[j]<(B4 b)[j]
    ·have q:decide ((((B4 a)[j]:Nat):Int)<(((B4 b)[j]:Nat):Int))=true:=C9r (by omega);repeat' (first|with_reducible apply C9p|simp only[go_sem,seval,A9 _ _ m,C1 _ _ m,A9 _ _ o,C1 _ _ o,z,r,i,q]|simp(disch:=omega) only[A4,A9]|intro p|omega)
     have:=A9x C G hl m d A;rw[u,x]at this;exact D1K (h _ ⟨by omega,by omega⟩)
    ·have q:decide ((((B4 a)[j]:Nat):Int)<(((B4 b)[j]:Nat):Int))=false:=C9s (by omega);repeat' (first|with_reducible apply C9p|simp only[go_sem,seval,A9 _ _ m,C1 _ _ m,A9 _ _ o,C1 _ _ o,z,r,i,q]|simp(disch:=omega) only[A4,A9]|intro p|omega)
     have:=A9x G C hl.symm o d.symm (by omega);rw[u,x]at this;exact D1K (h _ ⟨by omega,by omega⟩)
  ·have e:k=0:=by omega
   subst e;have r:decide ((0:Int)≤(((0:Nat):Int)-1))=false:=by decide
   rw[List.drop_zero,List.drop_zero]at d;have I:a=b:=by rw[←u,←x,d]
   repeat' simp only[go_sem,seval,r]
   exact D1K (h _ ⟨by omega,by omega⟩)
 ·have J:((((B4 a).length:Nat):Int) != (((B4 b).length:Nat):Int))=true:=by rw[bne_iff_ne];omega
  repeat' (first|with_reducible apply C9p|simp(disch:=omega) only[A4,A9]|intro p|omega)
  refine D1K (h _ ?_);rcases Nat.lt_or_gt_of_ne hl with g|g
  ·have:=A0J g;exact⟨by omega,by omega⟩
  ·have:=A0J g;exact⟨by omega,by omega⟩
theorem B5w{Q}(m n:Nat)(hm:(B4 m).length≤100000)(hn:(B4 n).length≤100000)(H:Heap)(h:Q (W5 (m+n)) H):D7 279 [W5 m,W5 n] H Q:=by
 refine A8 [] A5 Tryz.func279 rfl ?_;simp only[go_sem,seval,Tryz.results279];by_cases T:(B4 m).length<(B4 n).length
 ·have o:decide (((B4 m).length:Int)<(B4 n).length)=true:=C9r (by omega);repeat' (first|with_reducible apply C9p|simp only[go_sem,seval,o]|simp(disch:=omega) only[A4,A9,J2]|intro q|omega)
  rename_i C;have z:=q;clear q;have r:([D.int .u32 0]::List.replicate (B4 n).length [D.int .u32 0])=Rw F1 (R6 [] ((B4 n).length+1)):=by rw[←List.replicate_succ,A5w];exact A5n _ _ _ rfl
  rw[r];refine C9 [0,1,5,20] (fun(p:List Nat×Nat)=>[(21,.int .i64 p.1.length),(6,.int .u64 p.2)]) (fun(p:List Nat×Nat)=>H.set C (.vec 1 (Rw F1 (R6 p.1 ((B4 n).length+1))))) (fun(p:List Nat×Nat)=>p.1.length≤(B4 n).length∧Dig p.1∧p.2≤1∧E8 p.1+4294967296 ^ p.1.length*p.2=E8 ((B4 n).take p.1.length)+E8 ((B4 m).take p.1.length)) (fun(p:List Nat×Nat)=>(B4 n).length-p.1.length) (([],0)) (⟨D0A _,by simp[Dig],by simp,by simp[E8]⟩) (by(try simp only[go_sem,seval])<;>(try simp(disch:=omega) [A4])) (by first|exact D1G _|exact A0 (by assumption)|exact B2 (by assumption)|simp only[Heap.Le,Heap.set,Heap.del]at* <;>grind) ?_;rintro U rfl ⟨L,c⟩ ⟨J,x,hc,hv⟩;simp only at J x hc hv;have g:=A5v L ((B4 n).length+1) (by omega);by_cases d:L.length<(B4 n).length
  ·have e:decide ((L.length:Int)<(B4 n).length)=true:=C9r (by omega);have V:=J2 (O9 n) d;have G:IntKind.u64.wrap (((B4 n)[L.length]:Nat):Int)=(((B4 n)[L.length]:Nat):Int):=A0B (by omega) (by omega);have A:IntKind.u64.wrap ((c:Int)+((B4 n)[L.length]:Nat))=((c+(B4 n)[L.length]:Nat):Int):=by rw[A0B (by omega) (by omega)];omega
   have I:L.length<(R6 L ((B4 n).length+1)).length:=by omega
   by_cases y:L.length<(B4 m).length
   ·have i:decide ((L.length:Int)<(B4 m).length)=true:=C9r (by omega);have W:=J2 (O9 m) y;have M:IntKind.u64.wrap (((B4 m)[L.length]:Nat):Int)=(((B4 m)[L.length]:Nat):Int):=A0B (by omega) (by omega);obtain⟨s,hs⟩: ∃s,s=c+(B4 n)[L.length]+(B4 m)[L.length]:=⟨_,rfl⟩
    have O:IntKind.u64.wrap (((c+(B4 n)[L.length]:Nat):Int)+((B4 m)[L.length]:Nat))=(s:Int):=by rw[A0B (by omega) (by omega)];omega
    have w5:IntKind.u32.wrap (s:Int)=((s % 4294967296:Nat):Int):=by rw[A6g];omega
    have w6:(s:Int) / 4294967296=((s / 4294967296:Nat):Int):=by omega
    have e1:(Rw F1 (R6 L ((B4 n).length+1))).set L.length [.int .u32 ((s % 4294967296:Nat):Int)]=Rw F1 (R6 (L++[s % 4294967296]) ((B4 n).length+1)):=by rw[←Z3 L _ _ (by omega)];exact X7 _ _ _ _ rfl
    repeat' (first|with_reducible apply C9p|simp only[go_sem,seval,e,i,g,A9 _ _ d,C1 _ _ d,A9 _ _ y,C1 _ _ y,G,A,M,O,w5,w6,e1]|simp(disch:=omega) only[A4,A9,J2]|omega)
    refine C2 (L++[s % 4294967296],s / 4294967296) ⟨by simp only[C9v,C9x];omega,Z2 x (by omega),by simp only[];omega,?_⟩ (by simp only[C9v,C9x];omega) (by(try simp only[go_sem,seval,C9v,C9x])<;>(try simp(disch:=omega) [A4])) (D1G _);simp only[C9v,C9x];rw[A1I,G6 _ _ d,G6 _ _ y,hs,Nat.mul_add,Nat.mul_add];omega
   ·have i:decide ((L.length:Int)<(B4 m).length)=false:=C9s (by omega);obtain⟨s,hs⟩: ∃s,s=c+(B4 n)[L.length]:=⟨_,rfl⟩
    rw[←hs]at A;have w5:IntKind.u32.wrap (s:Int)=((s % 4294967296:Nat):Int):=by rw[A6g];omega
    have w6:(s:Int) / 4294967296=((s / 4294967296:Nat):Int):=by omega
    have e1:(Rw F1 (R6 L ((B4 n).length+1))).set L.length [.int .u32 ((s % 4294967296:Nat):Int)]=Rw F1 (R6 (L++[s % 4294967296]) ((B4 n).length+1)):=by rw[←Z3 L _ _ (by omega)];exact X7 _ _ _ _ rfl
    repeat' (first|with_reducible apply C9p|simp only[go_sem,seval,e,i,g,A9 _ _ d,C1 _ _ d,G,A,w5,w6,e1]|simp(disch:=omega) only[A4,A9,J2]|omega)
    refine C2 (L++[s % 4294967296],s / 4294967296) ⟨by simp only[C9v,C9x];omega,Z2 x (by omega),by simp only[];omega,?_⟩ (by simp only[C9v,C9x];omega) (by(try simp only[go_sem,seval,C9v,C9x])<;>(try simp(disch:=omega) [A4])) (D1G _);simp only[C9v,C9x];rw[C94 (l:=B4 m) (by omega)]at hv;rw[A1I,G6 _ _ d,C94 (l:=B4 m) (by omega),hs,Nat.mul_add];omega
  ·have e:decide ((L.length:Int)<(B4 n).length)=false:=C9s (by omega);have j:L.length=(B4 n).length:=by omega
   have w5:IntKind.u32.wrap (c:Int)=((c:Nat):Int):=B8z (by omega) (by omega);have e1:(Rw F1 (R6 L ((B4 n).length+1))).set (B4 n).length [.int .u32 ((c:Nat):Int)]=Rw F1 (L++[c]):=by
    rw[←j,←A38 (L++[c]) (L.length+1) (by simp),←Z3 L _ _ (by omega)];exact X7 _ _ _ _ rfl
   have u:E8 (L++[c])=m+n:=by
    rw[m0,hv,C94 (by omega),C94 (by omega),J7,J7];omega
   repeat' (first|with_reducible apply C9p|simp only[go_sem,seval,e,g,w5,e1]|simp(disch:=omega) only[A4,A9,J2]|omega)
   refine A4B (L++[c]) C _ _ (by simp[j]) (by simp;omega) (A2 _ _) ?_;repeat' simp only[go_sem,seval]
   refine A1u (l:=L++[c]) (Z2 x (show c<4294967296 by omega)) (by simp[j]) (A2 _ _) ?_;rw[u,E9 z];exact D1K h
 ·have o:decide (((B4 m).length:Int)<(B4 n).length)=false:=C9s (by omega);repeat' (first|with_reducible apply C9p|simp only[go_sem,seval,o]|simp(disch:=omega) only[A4,A9,J2]|intro q|omega)
  rename_i C;have z:=q;clear q;have r:([D.int .u32 0]::List.replicate (B4 m).length [D.int .u32 0])=Rw F1 (R6 [] ((B4 m).length+1)):=by rw[←List.replicate_succ,A5w];exact A5n _ _ _ rfl
  rw[r];refine C9 [0,1,5,20] (fun(p:List Nat×Nat)=>[(21,.int .i64 p.1.length),(6,.int .u64 p.2)]) (fun(p:List Nat×Nat)=>H.set C (.vec 1 (Rw F1 (R6 p.1 ((B4 m).length+1))))) (fun(p:List Nat×Nat)=>p.1.length≤(B4 m).length∧Dig p.1∧p.2≤1∧E8 p.1+4294967296 ^ p.1.length*p.2=E8 ((B4 m).take p.1.length)+E8 ((B4 n).take p.1.length)) (fun(p:List Nat×Nat)=>(B4 m).length-p.1.length) (([],0)) (⟨D0A _,by simp[Dig],by simp,by simp[E8]⟩) (by(try simp only[go_sem,seval])<;>(try simp(disch:=omega) [A4])) (by first|exact D1G _|exact A0 (by assumption)|exact B2 (by assumption)|simp only[Heap.Le,Heap.set,Heap.del]at* <;>grind) ?_;rintro U rfl ⟨L,c⟩ ⟨J,x,hc,hv⟩;simp only at J x hc hv;have g:=A5v L ((B4 m).length+1) (by omega);by_cases d:L.length<(B4 m).length
  ·have e:decide ((L.length:Int)<(B4 m).length)=true:=C9r (by omega);have V:=J2 (O9 m) d;have G:IntKind.u64.wrap (((B4 m)[L.length]:Nat):Int)=(((B4 m)[L.length]:Nat):Int):=A0B (by omega) (by omega);have A:IntKind.u64.wrap ((c:Int)+((B4 m)[L.length]:Nat))=((c+(B4 m)[L.length]:Nat):Int):=by rw[A0B (by omega) (by omega)];omega
   have I:L.length<(R6 L ((B4 m).length+1)).length:=by omega
   by_cases y:L.length<(B4 n).length
   ·have i:decide ((L.length:Int)<(B4 n).length)=true:=C9r (by omega);have W:=J2 (O9 n) y;have M:IntKind.u64.wrap (((B4 n)[L.length]:Nat):Int)=(((B4 n)[L.length]:Nat):Int):=A0B (by omega) (by omega);obtain⟨s,hs⟩: ∃s,s=c+(B4 m)[L.length]+(B4 n)[L.length]:=⟨_,rfl⟩
    have O:IntKind.u64.wrap (((c+(B4 m)[L.length]:Nat):Int)+((B4 n)[L.length]:Nat))=(s:Int):=by rw[A0B (by omega) (by omega)];omega
    have w5:IntKind.u32.wrap (s:Int)=((s % 4294967296:Nat):Int):=by rw[A6g];omega
    have w6:(s:Int) / 4294967296=((s / 4294967296:Nat):Int):=by omega
    have e1:(Rw F1 (R6 L ((B4 m).length+1))).set L.length [.int .u32 ((s % 4294967296:Nat):Int)]=Rw F1 (R6 (L++[s % 4294967296]) ((B4 m).length+1)):=by rw[←Z3 L _ _ (by omega)];exact X7 _ _ _ _ rfl
    repeat' (first|with_reducible apply C9p|simp only[go_sem,seval,e,i,g,A9 _ _ d,C1 _ _ d,A9 _ _ y,C1 _ _ y,G,A,M,O,w5,w6,e1]|simp(disch:=omega) only[A4,A9,J2]|omega)
    refine C2 (L++[s % 4294967296],s / 4294967296) ⟨by simp only[C9v,C9x];omega,Z2 x (by omega),by simp only[];omega,?_⟩ (by simp only[C9v,C9x];omega) (by(try simp only[go_sem,seval,C9v,C9x])<;>(try simp(disch:=omega) [A4])) (D1G _);simp only[C9v,C9x];rw[A1I,G6 _ _ d,G6 _ _ y,hs,Nat.mul_add,Nat.mul_add];omega
   ·have i:decide ((L.length:Int)<(B4 n).length)=false:=C9s (by omega);obtain⟨s,hs⟩: ∃s,s=c+(B4 m)[L.length]:=⟨_,rfl⟩
    rw[←hs]at A;have w5:IntKind.u32.wrap (s:Int)=((s % 4294967296:Nat):Int):=by rw[A6g];omega
    have w6:(s:Int) / 4294967296=((s / 4294967296:Nat):Int):=by omega
    have e1:(Rw F1 (R6 L ((B4 m).length+1))).set L.length [.int .u32 ((s % 4294967296:Nat):Int)]=Rw F1 (R6 (L++[s % 4294967296]) ((B4 m).length+1)):=by rw[←Z3 L _ _ (by omega)];exact X7 _ _ _ _ rfl
    repeat' (first|with_reducible apply C9p|simp only[go_sem,seval,e,i,g,A9 _ _ d,C1 _ _ d,G,A,w5,w6,e1]|simp(disch:=omega) only[A4,A9,J2]|omega)
    refine C2 (L++[s % 4294967296],s / 4294967296) ⟨by simp only[C9v,C9x];omega,Z2 x (by omega),by simp only[];omega,?_⟩ (by simp only[C9v,C9x];omega) (by(try simp only[go_sem,seval,C9v,C9x])<;>(try simp(disch:=omega) [A4])) (D1G _);simp only[C9v,C9x];rw[C94 (l:=B4 n) (by omega)]at hv;rw[A1I,G6 _ _ d,C94 (l:=B4 n) (by omega),hs,Nat.mul_add];omega
  ·have e:decide ((L.length:Int)<(B4 m).length)=false:=C9s (by omega);have j:L.length=(B4 m).length:=by omega
   have w5:IntKind.u32.wrap (c:Int)=((c:Nat):Int):=B8z (by omega) (by omega);have e1:(Rw F1 (R6 L ((B4 m).length+1))).set (B4 m).length [.int .u32 ((c:Nat):Int)]=Rw F1 (L++[c]):=by
    rw[←j,←A38 (L++[c]) (L.length+1) (by simp),←Z3 L _ _ (by omega)];exact X7 _ _ _ _ rfl
   have u:E8 (L++[c])=m+n:=by
    rw[m0,hv,C94 (by omega),C94 (by omega),J7,J7]
   repeat' (first|with_reducible apply C9p|simp only[go_sem,seval,e,g,w5,e1]|simp(disch:=omega) only[A4,A9,J2]|omega)
   refine A4B (L++[c]) C _ _ (by simp[j]) (by simp;omega) (A2 _ _) ?_;repeat' simp only[go_sem,seval]
   refine A1u (l:=L++[c]) (Z2 x (show c<4294967296 by omega)) (by simp[j]) (A2 _ _) ?_;rw[u,E9 z];exact D1K h
theorem B5x{Q}(m n:Nat)(O:n≤m)(hm:(B4 m).length≤100000)(H:Heap)(h:Q (W5 (m-n)) H):D7 284 [W5 m,W5 n] H Q:=by
 refine A8 [] A5 Tryz.func284 rfl ?_;simp only[go_sem,seval,Tryz.results284];have T:(B4 n).length≤(B4 m).length:=by
  by_cases g:(B4 m).length<(B4 n).length
  ·have:=A0J g;omega
  ·omega
 repeat' (first|with_reducible apply C9p|intro o|omega)
 rename_i G;have z:=o;clear o;have q:List.replicate (B4 m).length [D.int .u32 0]=Rw F1 (R6 [] (B4 m).length):=by rw[A5w];exact A5n _ _ _ rfl
 rw[q];refine C9 [0,1,5,12] (fun(p:List Nat×Int)=>[(13,.int .i64 p.1.length),(6,.int .i64 p.2)]) (fun(p:List Nat×Int)=>H.set G (.vec 1 (Rw F1 (R6 p.1 (B4 m).length)))) (fun(p:List Nat×Int)=>p.1.length≤(B4 m).length∧Dig p.1∧(-1≤p.2∧p.2≤0)∧(E8 p.1:Int)+(4294967296:Int) ^ p.1.length*p.2=E8 ((B4 m).take p.1.length)-E8 ((B4 n).take p.1.length)) (fun(p:List Nat×Int)=>(B4 m).length-p.1.length) (([],0)) (⟨D0A _,by simp[Dig],by simp,by simp[E8]⟩) (by(try simp only[go_sem,seval])<;>(try simp(disch:=omega) [A4])) (by first|exact D1G _|exact A0 (by assumption)|exact B2 (by assumption)|simp only[Heap.Le,Heap.set,Heap.del]at* <;>grind) ?_;rintro X rfl ⟨L,c⟩ ⟨U,r,hc,hv⟩;simp only at U r hc hv;have u:=A5v L (B4 m).length (by omega);by_cases d:L.length<(B4 m).length
 ·have e:decide ((L.length:Int)<(B4 m).length)=true:=C9r (by omega);have Y:=J2 (O9 m) d;have I:IntKind.i64.wrap (((B4 m)[L.length]:Nat):Int)=(((B4 m)[L.length]:Nat):Int):=A4 (by omega) (by omega);have A:IntKind.i64.wrap (c+((B4 m)[L.length]:Nat))=c+((B4 m)[L.length]:Nat):=A4 (by omega) (by omega);have J:(E8 ((B4 m).take (L.length+1)):Int)=E8 ((B4 m).take L.length)+(4294967296:Int) ^ L.length*((B4 m)[L.length]:Nat):=by
   rw[G6 _ _ d,Int.natCast_add,Int.natCast_mul,Int.natCast_pow];rfl
  by_cases y:L.length<(B4 n).length
  ·have i:decide ((L.length:Int)<(B4 n).length)=true:=C9r (by omega);have y1:=J2 (O9 n) y;have V:IntKind.i64.wrap (((B4 n)[L.length]:Nat):Int)=(((B4 n)[L.length]:Nat):Int):=A4 (by omega) (by omega);have ty:(E8 ((B4 n).take (L.length+1)):Int)=E8 ((B4 n).take L.length)+(4294967296:Int) ^ L.length*((B4 n)[L.length]:Nat):=by
    rw[G6 _ _ y,Int.natCast_add,Int.natCast_mul,Int.natCast_pow];rfl
   obtain⟨s,hs⟩: ∃s,s=c+((B4 m)[L.length]:Nat)-((B4 n)[L.length]:Nat):=⟨_,rfl⟩
   have W:IntKind.i64.wrap (c+((B4 m)[L.length]:Nat)-((B4 n)[L.length]:Nat))=s:=by rw[A4 (by omega) (by omega)];omega
   have w5:IntKind.u32.wrap s=(((s % 4294967296).toNat:Nat):Int):=by rw[A6g];omega
   have e1:(Rw F1 (R6 L (B4 m).length)).set L.length [.int .u32 (((s % 4294967296).toNat:Nat):Int)]=Rw F1 (R6 (L++[(s % 4294967296).toNat]) (B4 m).length):=by rw[←Z3 L _ _ (by omega)];exact X7 _ _ _ _ rfl
   repeat' (first|with_reducible apply C9p|simp only[go_sem,seval,e,i,u,A9 _ _ d,C1 _ _ d,A9 _ _ y,C1 _ _ y,I,A,V,W,w5,e1]|simp(disch:=omega) only[A4,A9,J2]|omega)
   refine C2 (L++[(s % 4294967296).toNat],s / 4294967296) ⟨by simp only[C9v,C9x];omega,Z2 r (by omega),by simp only[];omega,?_⟩ (by simp only[C9v,C9x];omega) (by(try simp only[go_sem,seval,C9v,C9x])<;>(try simp(disch:=omega) [A4])) (D1G _);simp only[C9v,C9x];have:=A4f L s;rw[J,ty];rw[hs]at this⊢;rw[Int.mul_sub,Int.mul_add]at this;omega
  ·have i:decide ((L.length:Int)<(B4 n).length)=false:=C9s (by omega);obtain⟨s,hs⟩: ∃s,s=c+((B4 m)[L.length]:Nat):=⟨_,rfl⟩
   rw[←hs]at A;have w5:IntKind.u32.wrap s=(((s % 4294967296).toNat:Nat):Int):=by rw[A6g];omega
   have e1:(Rw F1 (R6 L (B4 m).length)).set L.length [.int .u32 (((s % 4294967296).toNat:Nat):Int)]=Rw F1 (R6 (L++[(s % 4294967296).toNat]) (B4 m).length):=by rw[←Z3 L _ _ (by omega)];exact X7 _ _ _ _ rfl
   repeat' (first|with_reducible apply C9p|simp only[go_sem,seval,e,i,u,A9 _ _ d,C1 _ _ d,I,←hs,A,w5,e1]|simp(disch:=omega) only[A4,A9,J2]|omega)
   refine C2 (L++[(s % 4294967296).toNat],s / 4294967296) ⟨by simp only[C9v,C9x];omega,Z2 r (by omega),by simp only[];omega,?_⟩ (by simp only[C9v,C9x];omega) (by(try simp only[go_sem,seval,C9v,C9x])<;>(try simp(disch:=omega) [A4])) (D1G _);simp only[C9v,C9x];have:=A4f L s;rw[C94 (l:=B4 n) (by omega)]at hv;rw[J,C94 (l:=B4 n) (by omega)];rw[hs]at this⊢;rw[Int.mul_add]at this;omega
 ·have e:decide ((L.length:Int)<(B4 m).length)=false:=C9s (by omega);have j:L.length=(B4 m).length:=by omega
  have e1:Rw F1 (R6 L (B4 m).length)=Rw F1 L:=by rw[A38 _ _ j]
  rw[C94 (by omega),C94 (by omega),J7,J7]at hv;have M:=A8H r;have x:E8 L=m-n:=by
   have hp:((4294967296 ^ L.length:Nat):Int)=(4294967296:Int) ^ L.length:=Int.natCast_pow _ _;have C:c=0∨c= -1:=by omega
   rcases C with rfl|rfl
   ·omega
   ·rw[←hp]at hv;omega
  repeat' simp only[go_sem,seval,e,e1]
  refine A4B L G _ _ (by simp[j]) (by omega) (A2 _ _) ?_;repeat' simp only[go_sem,seval]
  refine A1u (l:=L) r (by simp[j]) (A2 _ _) ?_;rw[x,E9 z];exact D1K h
set_option maxHeartbeats 1000000 in
theorem C2i{Q}(m n:Nat)(hm:(B4 m).length≤100000)(hn:(B4 n).length≤100000)(H:Heap)(h:Q (W5 (m*n)) H):D7 280 [W5 m,W5 n] H Q:=by
 refine A8 [] A5 Tryz.func280 rfl ?_;simp only[go_sem,seval,Tryz.results280];repeat' (first|with_reducible apply C9p|simp(disch:=omega) only[A4,A9,J2]|intro A|omega)
 rename_i G;have I:=A;clear A;have C:List.replicate (((B4 m).length:Int)+(B4 n).length).toNat [D.int .u32 0]=Rw F1 (List.replicate ((B4 m).length+(B4 n).length) 0):=by rw[show (((B4 m).length:Int)+(B4 n).length).toNat=(B4 m).length+(B4 n).length by omega];exact A5n _ _ _ rfl
 rw[C];refine C9 [1,5,17,18] (fun(p:Nat×List Nat)=>[(19,.int .i64 p.1)]) (fun(p:Nat×List Nat)=>H.set G (.vec 1 (Rw F1 p.2))) (fun(p:Nat×List Nat)=>p.1≤(B4 m).length∧p.2.length=(B4 m).length+(B4 n).length∧Dig p.2∧E8 p.2=E8 ((B4 m).take p.1)*n∧∀(k:Nat) (hk:k<p.2.length),p.1+(B4 n).length≤k→p.2[k]=0) (fun(p:Nat×List Nat)=>(B4 m).length-p.1) ((0,List.replicate ((B4 m).length+(B4 n).length) 0)) (⟨D0A _,by simp,B3q _,by simp[B1R,E8],fun k hk _=>by simp⟩) (by(try simp only[go_sem,seval])<;>(try simp(disch:=omega) [A4])) (by first|exact D1G _|exact A0 (by assumption)|exact B2 (by assumption)|simp only[Heap.Le,Heap.set,Heap.del]at* <;>grind) ?_;rintro Ec rfl ⟨i,out⟩ ⟨O,o,e,d,g⟩;simp only at O o e d g;by_cases r:i<(B4 m).length
 ·have x:decide ((i:Int)<(B4 m).length)=true:=C9r (by omega);have T:=J2 (O9 m) r;repeat' (first|with_reducible apply C9p|simp only[go_sem,seval,x,A9 _ _ r,C1 _ _ r]|omega)
  refine C9 [1,5,6,7,17,18,19,24,25] (fun(q:Nat×List Nat×Nat)=>[(26,.int .i64 q.1),(8,.int .u64 q.2.2)]) (fun(q:Nat×List Nat×Nat)=>H.set G (.vec 1 (Rw F1 q.2.1))) (fun(q:Nat×List Nat×Nat)=>q.1≤(B4 n).length∧q.2.1.length=(B4 m).length+(B4 n).length∧Dig q.2.1∧q.2.2<4294967296∧E8 q.2.1+4294967296 ^ (i+q.1)*q.2.2=E8 ((B4 m).take i)*n+4294967296 ^ i*(B4 m)[i]*E8 ((B4 n).take q.1)∧∀(k:Nat) (hk:k<q.2.1.length),i+(B4 n).length≤k→q.2.1[k]=0) (fun(q:Nat×List Nat×Nat)=>(B4 n).length-q.1) ((0,out,0)) (⟨D0A _,o,e,by simp,by simp[d,E8],g⟩) (by(try simp only[go_sem,seval])<;>(try simp(disch:=omega) [A4])) (by first|exact D1G _|exact A0 (by assumption)|exact B2 (by assumption)|simp only[Heap.Le,Heap.set,Heap.del]at* <;>grind) ?_;clear o e d g;rintro U rfl ⟨j,o2,c⟩ ⟨V,o,e,hc,d,g⟩;simp only at V o e hc d g;by_cases u:j<(B4 n).length
  ·have y:decide ((j:Int)<(B4 n).length)=true:=C9r (by omega);have W:=J2 (O9 n) u;have hp:i+j<o2.length:=by omega
   have o1:=J2 e hp;obtain⟨s,hs⟩: ∃s,s=c+((B4 m)[i]*(B4 n)[j]+o2[i+j]):=⟨_,rfl⟩
   obtain⟨m1,m2⟩:=C2b T W o1 hc;have X:IntKind.u64.wrap (((B4 m)[i]:Nat):Int)=(((B4 m)[i]:Nat):Int):=A0B (by omega) (by omega);have Y:IntKind.u64.wrap (((B4 n)[j]:Nat):Int)=(((B4 n)[j]:Nat):Int):=A0B (by omega) (by omega);have w3:IntKind.u64.wrap ((o2[i+j]:Nat):Int)=((o2[i+j]:Nat):Int):=A0B (by omega) (by omega);have w4:IntKind.u64.wrap ((((B4 m)[i]:Nat):Int)*(((B4 n)[j]:Nat):Int))=(((B4 m)[i]*(B4 n)[j]:Nat):Int):=by rw[←Int.natCast_mul];exact A0B (by omega) (by omega)
   have w5:IntKind.u64.wrap ((((B4 m)[i]*(B4 n)[j]:Nat):Int)+((o2[i+j]:Nat):Int))=(((B4 m)[i]*(B4 n)[j]+o2[i+j]:Nat):Int):=by rw[←Int.natCast_add];exact A0B (by omega) (by omega)
   have w6:IntKind.u64.wrap ((c:Int)+(((B4 m)[i]*(B4 n)[j]+o2[i+j]:Nat):Int))=(s:Int):=by rw[←Int.natCast_add,←hs];exact A0B (by omega) (by omega)
   have J:IntKind.u32.wrap (s:Int)=((s % 4294967296:Nat):Int):=by rw[A6g];omega
   have w8:(s:Int) / 4294967296=((s / 4294967296:Nat):Int):=by omega
   have L:(i:Int)+(j:Int)=((i+j:Nat):Int):=by omega
   have e1:(Rw F1 o2).set (i+j) [.int .u32 ((s % 4294967296:Nat):Int)]=Rw F1 (o2.set (i+j) (s % 4294967296)):=X7 _ _ _ _ rfl;repeat' (first|with_reducible apply C9p|simp only[go_sem,seval,y,L,A9 _ _ r,C1 _ _ r,A9 _ _ u,C1 _ _ u,A9 _ _ hp,C1 _ _ hp,X,Y,w3,w4,w5,w6,J,w8,e1]|simp(disch:=omega) only[A4,A9,J2]|omega)
   refine C2 (j+1,o2.set (i+j) (s % 4294967296),s / 4294967296) ⟨by simp only[];omega,by simp only[D0m];omega,B2g e (by omega),by simp only[];omega,?_,fun k hk z=>?_⟩ (by simp only[];omega) (by(try simp only[go_sem,seval])<;>(try simp(disch:=omega) [A4])) (D1G _)
   ·simp only[];rw[G6 _ _ u,←Nat.add_assoc];exact B5q o2 (i+j) i j s _ _ c _ _ hp rfl d hs
   ·simp only[]at hk⊢;rw[List.getElem_set_ne (by omega)];exact g k (by simpa using hk) z
  ·have y:decide ((j:Int)<(B4 n).length)=false:=C9s (by omega);have M:j=(B4 n).length:=by omega
   subst M;have hp:i+(B4 n).length<o2.length:=by omega
   have L:(i:Int)+((B4 n).length:Int)=((i+(B4 n).length:Nat):Int):=by omega
   have J:IntKind.u32.wrap (c:Int)=(c:Int):=B8z (by omega) (by omega);have e1:(Rw F1 o2).set (i+(B4 n).length) [.int .u32 (c:Int)]=Rw F1 (o2.set (i+(B4 n).length) c):=X7 _ _ _ _ rfl;repeat' (first|with_reducible apply C9p|simp only[go_sem,seval,y,L,A9 _ _ hp,C1 _ _ hp,J,e1]|simp(disch:=omega) only[A4,A9,J2]|omega)
   refine C2 (i+1,o2.set (i+(B4 n).length) c) ⟨by simp only[];omega,by simp only[D0m];omega,B2g e hc,?_,fun k hk z=>?_⟩ (by simp only[];omega) (by(try simp only[go_sem,seval])<;>(try simp(disch:=omega) [A4])) (D1G _)
   ·simp only[];rw[C94 (l:=B4 n) (by omega),J7]at d;rw[B8x o2 _ c _ _ hp (g _ hp (by omega)) d,G6 _ _ r,Nat.add_mul]
   ·simp only[]at hk z⊢;rw[List.getElem_set_ne (by omega)];exact g k (by simpa using hk) (by omega)
 ·have x:decide ((i:Int)<(B4 m).length)=false:=C9s (by omega);rw[C94 (by omega),J7]at d;repeat' simp only[go_sem,seval,x]
  refine A4B out G _ _ (by rw[o];omega) (by omega) (A2 _ _) ?_;repeat' simp only[go_sem,seval]
  refine A1u (l:=out) e (by rw[o];omega) (A2 _ _) ?_;rw[d,E9 I];exact D1K h
theorem C8P{q:Nat}(h:q<18446744073709551616):IntKind.u64.wrap (q:Int)=q:=A0B (by omega) (by omega)
theorem C8Q{q:Nat}(h:q<4294967296):IntKind.u32.wrap (q:Int)=q:=B8z (by omega) (by omega)
theorem B5y{Q}(m n:Nat)(hm:(B4 m).length≤100000)(h0:n≠0)(hn:n<4294967296)(H:Heap)(h:Q (.tuple [W5 (m / n),W5 (m % n)]) H):D7 278 [W5 m,W5 n] H Q:=by
 refine A8 [(26,.par)] A5 Tryz.func278 rfl ?_;simp only[go_sem,seval,Tryz.results278];have y:B4 n= [n]:=A3O hn h0;have a0:(B4 n).length=1:=by rw[y];rfl
 have z:0<(B4 n).length:=by omega
 have hg:(B4 n)[0]=n:=by simp[y]
 by_cases o:m<n
 ·repeat' (first|with_reducible apply C9p|simp only[go_sem,seval]|simp(disch:=omega) only[A4,A9,J2]|intro q|omega)
  refine B5v m n (by omega) (by omega) _ fun c hc=>?_;have u:decide (c<0)=true:=C9r (hc.1.2 o);repeat' simp only[go_sem,seval,u]
  rw[Nat.div_eq_of_lt o,D0q o]at h;refine Fin.nilsl 1 _ ?_;exact D1K (by rw[show W5 0= .sl 1 []by rw[C2e,J0];rfl]at h;exact h)
 ·repeat' (first|with_reducible apply C9p|simp only[go_sem,seval]|simp(disch:=omega) only[A4,A9,J2]|intro q|omega)
  refine B5v m n (by omega) (by omega) _ fun c hc=>?_;have u:decide (c<0)=false:=C9s (fun g=>o (hc.1.1 g));have A:((B4 n).length:Int)=1:=by omega
  repeat' (first|with_reducible apply C9p|simp only[go_sem,seval,u,A]|simp(disch:=omega) only[A4,A9,J2]|intro q|omega)
  rename_i J;have M:=q;clear q;have C:List.replicate (B4 m).length [D.int .u32 0]=Rw F1 (A3P [] (B4 m).length):=by rw[B5o];exact A5n _ _ _ rfl
  rw[C];refine C9 [0,1,6] (fun(p:Nat×List Nat×Nat)=>[(8,.int .i64 ((p.1:Int)-1)),(7,.int .u64 p.2.2)]) (fun(p:Nat×List Nat×Nat)=>H.set J (.vec 1 (Rw F1 (A3P p.2.1 (B4 m).length)))) (fun(p:Nat×List Nat×Nat)=>p.2.1.length+p.1=(B4 m).length∧Dig p.2.1∧p.2.2<n∧E8 p.2.1*n+p.2.2=E8 ((B4 m).drop p.1)) (fun(p:Nat×List Nat×Nat)=>p.1) (((B4 m).length,[],0)) (⟨by simp,by simp[Dig],by simp only[];omega,by simp[E8]⟩) (by(try simp only[go_sem,seval])<;>(try simp(disch:=omega) [A4])) (by first|exact D1G _|exact A0 (by assumption)|exact B2 (by assumption)|simp only[Heap.Le,Heap.set,Heap.del]at* <;>grind) ?_;rintro Ec rfl ⟨k,L,r⟩ ⟨hk,O,hr,hv⟩;simp only at hk O hr hv;have T:=B5m L (B4 m).length (by omega);by_cases a4:0<k
  ·obtain⟨j,rfl⟩: ∃j,k=j+1:=⟨k-1,by omega⟩
   have I:j<(B4 m).length:=by omega
   have ek:(((j+1:Nat):Int)-1)=(j:Int):=by omega
   have U:decide ((0:Int)≤(j:Int))=true:=C9r (by omega);have x1:=J2 (O9 m) I;have w1:IntKind.u64.wrap (((B4 m)[j]:Nat):Int)=(((B4 m)[j]:Nat):Int):=A0B (by omega) (by omega);have w2:IntKind.u64.wrap ((r:Int)*4294967296)=(r:Int)*4294967296:=A0B (by omega) (by omega);have X:=C2g (r:=r) (x:=(B4 m)[j]) (by omega) x1;obtain⟨s,hs⟩: ∃s,s=r*4294967296+(B4 m)[j]:=⟨_,rfl⟩
   rw[←hs]at X;have G:s / n<4294967296:=by
    rw[Nat.div_lt_iff_lt_mul (by omega)];have:=Nat.mul_le_mul_left 4294967296 (show r+1≤n by omega);omega
   have w4:IntKind.u64.wrap ((n:Nat):Int)=(n:Int):=A0B (by omega) (by omega);have V:s<18446744073709551616:=by omega
   have w5:IntKind.u64.wrap ((s:Int).tdiv (n:Int))=((s / n:Nat):Int):=by rw[←Int.ofNat_tdiv];exact C8P (Nat.lt_of_le_of_lt (Nat.div_le_self s n) V)
   have w6:IntKind.u32.wrap ((s / n:Nat):Int)=((s / n:Nat):Int):=C8Q G;have w7:(s:Int).tmod (n:Int)=((s % n:Nat):Int):=(Int.ofNat_tmod s n).symm;have nz: ¬((n:Int)=0):=by omega
   have e1:(Rw F1 (A3P L (B4 m).length)).set j [.int .u32 ((s / n:Nat):Int)]=Rw F1 (A3P ((s / n)::L) (B4 m).length):=by rw[←B5n L _ _ j (by omega)];exact X7 _ _ _ _ rfl
   repeat' (first|with_reducible apply C9p|simp only[go_sem,seval,ek,U,T,A9 _ _ I,C1 _ _ I,A9 _ _ z,C1 _ _ z,hg,w1,w2,X,w4,w5,w6,w7,nz,e1]|simp(disch:=omega) only[A4,A9,J2]|omega)
   refine C2 (j,s / n::L,s % n) ⟨by simp only[C9u];omega,fun x hx=>?_,Nat.mod_lt _ (by omega),?_⟩ (by simp only[];omega) (by simp only[go_sem,seval]) (D1G _)
   ·rcases D0H.1 hx with rfl|g
    ·exact G
    ·exact O x g
   ·simp only[E8];rw[A2K _ _ I,hs];exact B5p (by omega) hv
  ·have e:k=0:=by omega
   subst e;have U:decide ((0:Int)≤(((0:Nat):Int)-1))=false:=by decide
   rw[List.drop_zero,J7]at hv;obtain⟨q1,q2⟩:=B8w hr hv;have e1:A3P L (B4 m).length=L:=B3r _ _ (by omega);repeat' simp only[go_sem,seval,U,e1]
   refine A4B L J _ _ (by omega) (by omega) (A2 _ _) ?_;repeat' simp only[go_sem,seval]
   refine C2h r (by omega) _ ?_;repeat' simp only[go_sem,seval]
   refine Fin.freeze (b:=J) (A2 _ _) (.tuple _ [.sl 1 (((Rw F1 L).drop 0).take (y5 L (B4 m).length)),W5 r] rfl fun i d d' W Y=>?_) ?_
   ·match i with
    |0=>cases W;cases Y;exact .vec 0 _ (by rw[Nat.zero_add,D6];have:=A9u L (B4 m).length;omega)
    |1=>cases W;cases Y;exact .same _
    |i+2=>cases W
   ·have e2:L.take (y5 L (B4 m).length)=B4 (E8 L):=by have:=A9v O;rwa [show L.length=(B4 m).length by omega]at this
    rw[List.drop_zero,A8B,e2,←q1,←q2,E9 M];exact D1K h
theorem C2j{Q}(m n:Nat)(hm:(B4 m).length≤100000)(hn:n<4294967296)(H:Heap)(h:Q (W5 (Nat.gcd m n)) H):D7 277 [W5 m,W5 n] H Q:=by
 refine A8 [] A5 Tryz.func277 rfl ?_;simp only[go_sem,seval,Tryz.results277];repeat' (first|with_reducible apply C9p|simp only[go_sem,seval]|intro q|omega)
 refine C9 [] (fun(p:Nat×Nat)=>[(0,W5 p.1),(1,W5 p.2)]) (fun(p:Nat×Nat)=>H) (fun(p:Nat×Nat)=>(B4 p.1).length≤100000∧p.2<4294967296∧Nat.gcd p.1 p.2=Nat.gcd m n) (fun(p:Nat×Nat)=>p.2) ((m,n)) (⟨hm,hn,rfl⟩) (by simp only[go_sem,seval]) (by first|exact D1G _|exact A0 (by assumption)|exact B2 (by assumption)|simp only[Heap.Le,Heap.set,Heap.del]at* <;>grind) ?_;rintro r rfl ⟨a,b⟩ ⟨o,hb,i⟩;simp only at o hb i;by_cases d:b=0
 ·subst d;have hl:(B4 0).length=0:=by rw[J0];rfl
  have j:decide ((0:Int)<((B4 0).length:Int))=false:=by rw[hl];rfl
  repeat' simp only[go_sem,seval,j]
  rw[Nat.gcd_zero_right]at i;rw[←i]at h;exact D1K h
 ·have hl:(B4 b).length≠0:=fun e=>d ((I2 b).1 e);have j:decide ((0:Int)<((B4 b).length:Int))=true:=C9r (by omega);repeat' simp only[go_sem,seval,j]
  refine B5y a b o d hb _ ?_;repeat' simp only[go_sem,seval]
  have g:=Nat.mod_lt a (Nat.pos_of_ne_zero d);exact C2 (b,a % b) ⟨by simp only[];exact D0v (A9w b 1 (by simpa using hb)) (by decide),by simp only[];omega,by simp only[];rw[←i,Nat.gcd_comm a b,Nat.gcd_rec b a,Nat.gcd_comm]⟩ (by simp only[];exact g) (by simp only[go_sem,seval]) (D1G _)
end Go.Proofs.YtibphjonmikciaaGreatDoor
namespace Go.Lin
open Go Go.Av
abbrev Sz(n:Int):Prop:=(B4 n.natAbs).length≤100000
theorem A95{n:Int}{k:Nat}(h:n.natAbs<4294967296 ^ k)(hk:k≤100000):Sz n:=D0v (A9w _ k h) hk
theorem G7{n:Int}(h:n.natAbs<340282366920938463463374607431768211456):Sz n:=A95 (k:=4) (by simpa using h) (by decide)
theorem A8P(n:Int):decide ((0:Int)<((B4 n.natAbs).length:Int))=decide (n≠0):=by
 apply D0S.2;have:=I2 n.natAbs;omega
theorem A50(k:Nat):C3 (k:Int)= [.bool false,.sl 1 (Rw F1 (B4 k))]:=by
 unfold C3;rw[C9s (by omega),Int.natAbs_natCast]
theorem V2(n:Int)(k:Nat)(b:Bool)(h1:n.natAbs=k)(d:b=decide (n<0)): [D.bool b,.sl 1 (Rw F1 (B4 k))]=C3 n:=by subst h1;subst d;rfl
theorem A7D(n:Int)(k:Nat)(h:n=(k:Int)): [D.bool false,.sl 1 (Rw F1 (B4 k))]=C3 n:=by subst h;exact(A50 k).symm
theorem A7E(n:Int)(k:Nat)(h:n= -(k:Int)): [D.bool (decide (-(k:Int)<0)),.sl 1 (Rw F1 (B4 k))]=C3 n:=by subst h;exact V2 _ k _ (by omega) rfl
theorem B5z{a b:Int}(h:decide (a<0)=decide (b<0)):decide (a*b<0)=false:=by
 apply C9s;have h:=D0S.1 h;by_cases d:a<0
 ·have:=Int.mul_pos_of_neg_of_neg d (h.1 d);omega
 ·have:=Int.mul_nonneg (show 0≤a by omega) (show 0≤b by have:=mt h.2 d;omega);omega
theorem B50{a b:Int}(h: ¬decide (a<0)=decide (b<0)):decide ((0:Int)<((B4 (a.natAbs*b.natAbs)).length:Int))=decide (a*b<0):=by
 rw[←Int.natAbs_mul,A8P];apply D0S.2;constructor
 ·intro g;have a1:a≠0:=by rintro rfl;exact g (Int.zero_mul _)
  have i:b≠0:=by rintro rfl;exact g (Int.mul_zero _)
  by_cases e:a<0
  ·have d: ¬b<0:=fun d=>h (by rw[C9r e,C9r d]);exact Int.mul_neg_of_neg_of_pos e (by omega)
  ·have d:b<0:=by
    by_cases d:b<0
    ·exact d
    ·exact absurd (by rw[C9s e,C9s d]) h
   exact Int.mul_neg_of_pos_of_neg (by omega) d
 ·omega
theorem A96(a b:Int)(d:b≠0):a.fdiv b=(if b<0 then-a else a) / (b.natAbs:Int):=by
 by_cases hb:b<0
 ·rw[if_pos hb,←Int.neg_fdiv_neg,Int.fdiv_eq_ediv_of_nonneg _ (by omega)]
  congr 1;omega
 ·rw[if_neg hb,Int.fdiv_eq_ediv_of_nonneg _ (by omega)]
  congr 1;omega
theorem A2M(a b:Int)(d:b≠0)(h:decide (a<0)=decide (b<0)∨a=0):a.fdiv b=((a.natAbs / b.natAbs:Nat):Int):=by
 rw[A96 a b d,Int.natCast_ediv]
 congr 1
 rcases h with h|h
 ·have h:=D0S.1 h;split<;>omega
 ·subst h;split<;>simp
theorem B2h{a b q r:Int}(hb:0<b)(h:r+b*q=a)(h1:0≤r)(d:r<b):a / b=q:=((Int.ediv_emod_unique hb).2 ⟨h,h1,d⟩).1
theorem B2i(k:Nat):decide ((0:Int)<((B4 k).length:Int))=decide (-(k:Int)<0):=by
 apply D0S.2;have:=I2 k;omega
theorem A4C(a b:Int)(j:b≠0)(m:a≠0)(h: ¬decide (a<0)=decide (b<0)):a.fdiv b=if a.natAbs % b.natAbs=0 then-((a.natAbs / b.natAbs:Nat):Int)else-((a.natAbs / b.natAbs+1:Nat):Int):=by
 have hs:(if b<0 then-a else a)= -(a.natAbs:Int):=by
  have h: ¬(a<0↔b<0):=fun g=>h (D0S.2 g);split
  ·rename_i hb;have: ¬a<0:=fun g=>h ⟨fun _=>hb,fun _=>g⟩;omega
  ·rename_i hb;by_cases g:a<0
   ·omega
   ·exact absurd ⟨fun q=>absurd q g,fun q=>absurd q hb⟩ h
 rw[A96 a b j,hs];have hb:(0:Int)<(b.natAbs:Int):=by omega
 have e:=Nat.div_add_mod a.natAbs b.natAbs;have d:(a.natAbs:Int)=(b.natAbs:Int)*((a.natAbs / b.natAbs:Nat):Int)+((a.natAbs % b.natAbs:Nat):Int):=by rw[←Int.natCast_mul,←Int.natCast_add,e]
 have hm:=Nat.mod_lt a.natAbs (show 0<b.natAbs by omega);split
 ·rename_i i;refine(B2h hb (r:=0) ?_ (by omega) hb).symm ▸ rfl;rw[i]at d;rw[d,Int.mul_neg];simp
 ·rename_i i;refine(B2h hb (r:=(b.natAbs:Int)-((a.natAbs % b.natAbs:Nat):Int)) ?_ (by omega) (by omega)).symm ▸ rfl;rw[d,Int.natCast_add,Int.mul_neg,Int.mul_add];omega
theorem A8Q:NilR (.agg [.bool false,.nilsl]) (.agg (C3 0)):=by
 have e:C3 0= [.bool false,.sl 1 []]:=by
  unfold C3;rw[show (0:Int).natAbs=0 from rfl,J0];rfl
 rw[e];refine .agg _ _ rfl fun i d d' h1 g=>?_
 match i with
 |0=>cases h1;cases g;exact .same _
 |1=>cases h1;cases g;exact .nil _
 |i+2=>cases h1
end Go.Lin
namespace Go.Proofs.YtibphjonmikciaaGreatDoor
open Go Go.Av Go.Lin
attribute [local irreducible] ACalls W4
theorem K4{Q}(n:Int)(H:Heap)(h:Q (.int .i64 n.sign) H):D7 245 [.agg (C3 n)] H Q:=by
 refine A8 [] A5 Tryz.func245 rfl ?_;simp only[go_sem,seval,Tryz.results245];intro g d;have e1:=A2 (H:=H) g (.box (C3 n));simp only[C2f]at e1;by_cases i:n=0
 ·have e:(B4 n.natAbs).length=0:=(I2 _).2 (by omega);repeat' (first|with_reducible apply C9p|simp only[go_sem,seval,e1,e]|intro j|omega)
  rw[i]at h;exact D1H (A0 d) h
 ·have e: ¬(((B4 n.natAbs).length:Int)=0):=by have:=I2 n.natAbs;omega
  by_cases hn:n<0
  ·repeat' (first|with_reducible apply C9p|simp only[go_sem,seval,e1,e,hn,decide_true,decide_false])
   rw[Int.sign_eq_neg_one_of_neg hn]at h;exact D1H (A0 d) h
  ·repeat' (first|with_reducible apply C9p|simp only[go_sem,seval,e1,e,hn,decide_true,decide_false])
   rw[Int.sign_eq_one_of_pos (by omega)]at h;exact D1H (A0 d) h
theorem B51{Q}(n:Int)(H:Heap)(h:Q (.agg (C3 n.natAbs)) H):D7 254 [.agg (C3 n)] H Q:=by
 refine A8 [] A5 Tryz.func254 rfl ?_;simp only[go_sem,seval,Tryz.results254];rw[A50]at h;repeat' (first|simp only[go_sem,seval]|simp(disch:=first|omega|grind) only[B9]|(intro d;try simp only[A6]at d))
 exact D1H (by simp only[E6,D2,D3]at* <;>grind) h
theorem A4D{Q}(n:Int)(H:Heap)(h:Q (.agg (C3 (-n))) H):D7 259 [.agg (C3 n)] H Q:=by
 refine A8 [] A5 Tryz.func259 rfl ?_;simp only[go_sem,seval,Tryz.results259];by_cases hn:n<0
 ·rw[←V2 (-n) n.natAbs false (by omega) (by rw[C9s (by omega)])]at h;repeat' (first|simp only[go_sem,seval,hn,decide_true]|simp(disch:=first|omega|grind) only[B9]|(intro d;try simp only[A6]at d))
  all_goals exact D1H (by simp only[E6,D2,D3]at* <;>grind) h
 ·by_cases g:n=0
  ·have e:((B4 n.natAbs).length:Int)=0:=by have:=I2 n.natAbs;omega
   rw[←V2 (-n) n.natAbs false (by omega) (by rw[C9s (by omega)])]at h;repeat' (first|simp only[go_sem,seval,hn,decide_false,e]|simp(disch:=first|omega|grind) only[B9]|(intro d;try simp only[A6]at d))
   all_goals exact D1H (by simp only[E6,D2,D3]at* <;>grind) h
  ·have e:(0:Int)<((B4 n.natAbs).length:Int):=by have:=I2 n.natAbs;omega
   rw[←V2 (-n) n.natAbs true (by omega) (by rw[C9r (by omega)])]at h;repeat' (first|simp only[go_sem,seval,hn,decide_false,e,decide_true]|simp(disch:=first|omega|grind) only[B9]|(intro d;try simp only[A6]at d))
   all_goals exact D1H (by simp only[E6,D2,D3]at* <;>grind) h
theorem A97{Q}(n:Int)(H:Heap)(h:Q (.bool (decide (n.natAbs=1))) H):D7 246 [.agg (C3 n)] H Q:=by
 refine A8 [] A5 Tryz.func246 rfl ?_;simp only[go_sem,seval,Tryz.results246];by_cases hl:(B4 n.natAbs).length=1
 ·have i:((B4 n.natAbs).length:Int)=1:=by omega
  have j:0<(B4 n.natAbs).length:=by omega
  have hv:=J7 n.natAbs;obtain⟨d,o⟩:=List.length_eq_one_iff.1 hl;have p:(B4 n.natAbs)[0]=d:=by simp[o]
  rw[o]at hv;simp only[E8,Nat.mul_zero,Nat.add_zero]at hv;have e:decide (n.natAbs=1)=decide ((d:Int)=1):=D0S.2 (by omega);rw[e]at h;repeat' (first|simp only[go_sem,seval,i,A9 _ _ j,C1 _ _ j,p]|intro m)
  all_goals (first|exact D1H (by simp only[E6,D2,D3]at* <;>grind) h|(refine D1H (H':=H) (by simp only[E6,D2,D3]at* <;>grind) ?_;simp_all))
 ·have i: ¬(((B4 n.natAbs).length:Int)=1):=by omega
  have e:decide (n.natAbs=1)=false:=C9s (fun g=>hl (by rw[g,A3O (by decide) (by decide)];rfl));rw[e]at h;repeat' (first|simp only[go_sem,seval,i,decide_false]|intro m)
  all_goals exact D1H (by simp only[E6,D2,D3]at* <;>grind) h
theorem R8{Q}(a b:Int)(g:Sz a)(hb:Sz b)(H:Heap)(h:Q (.agg (C3 (a*b))) H):D7 248 [.agg (C3 a),.agg (C3 b)] H Q:=by
 refine A8 [] A5 Tryz.func248 rfl ?_;simp only[go_sem,seval,Tryz.results248];have d:(a*b).natAbs=a.natAbs*b.natAbs:=Int.natAbs_mul a b;repeat' (first|with_reducible apply C9p|simp only[go_sem,seval]|simp(disch:=first|omega|grind) only[B9]|(intro e;try simp only[A6]at e)|with_reducible refine C2i _ _ g hb _ ?_)
 ·rw[V2 (a*b) _ _ d (B50 (by assumption))];exact D1H (by simp only[E6,D2,D3]at* <;>grind) h
 ·rw[V2 (a*b) _ _ d (B5z (by assumption)).symm];exact D1H (by simp only[E6,D2,D3]at* <;>grind) h
theorem A3U{Q}(a b:Int)(m:Sz a)(g:b≠0)(hb:b.natAbs<4294967296)(H:Heap)(h:Q (.agg (C3 (a.fdiv b))) H):D7 247 [.agg (C3 a),.agg (C3 b)] H Q:=by
 refine A8 [] A5 Tryz.func247 rfl ?_;simp only[go_sem,seval,Tryz.results247];repeat' (first|with_reducible apply C9p|simp only[go_sem,seval]|simp(disch:=first|omega|grind) only[B9,F0]|(intro i;try simp only[A6]at i)|with_reducible refine B5y _ _ m (by omega) hb _ ?_)
 ·have d:a=0:=by have:=I2 a.natAbs;omega
  rw[A7D (a.fdiv b) _ (A2M a b g (.inr d))];exact D1H (by simp only[E6,D2,D3]at* <;>grind) h
 ·have d:a≠0:=by have:=I2 a.natAbs;omega
  have hr: ¬a.natAbs % b.natAbs=0:=by have:=I2 (a.natAbs % b.natAbs);omega
  have e:=A4C a b g d (by assumption);rw[if_neg hr]at e;have h1:Rw F1 (B4 1)= [[D.int .u32 1]]:=by rw[A3O (by decide) (by decide)];rfl
  refine A0Q (es:=Rw F1 (B4 1)) (by rw[h1];exact A2 _ _) (by rw[h1];rfl) ?_;have j:(B4 (a.natAbs / b.natAbs)).length≤100000:=D0v (B3p (Nat.div_le_self _ _)) m;refine B5w _ 1 j (by rw[A3O (by decide) (by decide)];decide) _ ?_;repeat' (first|simp only[go_sem,seval]|simp(disch:=first|omega|grind) only[B9,F0])
  rw[B2i,A7E (a.fdiv b) _ e];exact D1H (by simp only[E6,D2,D3]at* <;>grind) h
 ·have d:a≠0:=by have:=I2 a.natAbs;omega
  have hr:a.natAbs % b.natAbs=0:=by have:=I2 (a.natAbs % b.natAbs);omega
  have e:=A4C a b g d (by assumption);rw[if_pos hr]at e;rw[B2i,A7E (a.fdiv b) _ e];exact D1H (by simp only[E6,D2,D3]at* <;>grind) h
 ·rw[A7D (a.fdiv b) _ (A2M a b g (.inl (by assumption)))];exact D1H (by simp only[E6,D2,D3]at* <;>grind) h
theorem A0L{Q}(a b:Int)(u:Sz a)(hb:Sz b)(H:Heap)(h:Q (.agg (C3 (a+b))) H):D7 255 [.agg (C3 a),.agg (C3 b)] H Q:=by
 refine A8 [(2,.par),(7,.par),(8,.par)] A5 Tryz.func255 rfl ?_;simp only[go_sem,seval,Tryz.results255];intro e y j m L d;simp only[A6]at m d;have p:e∈[e,j]:=by simp
 have q:j∈[e,j]:=by simp
 have z:=d.2.1.symm;have A:=d.1.symm;have C:=m.1.symm;by_cases hs:decide (a<0)=decide (b<0)
 ·have G:=D0S.1 hs;repeat' (first|simp only[go_sem,seval,hs,beq_self_eq_true]|simp(disch:=first|omega|grind) only[B9])
  refine F5 (fun i=>if i=6 then W5 (a.natAbs+b.natAbs)else .undef) [e,j] ?_;repeat' (first|with_reducible apply C9p|simp only[go_sem,seval,p,q]|simp(disch:=first|omega|grind) only[B9]|with_reducible refine R0 (fun H' Q hro hq=>B5w _ _ u hb H' hq) ?_)
  rw[V2 (a+b) _ _ (by omega) (by apply D0S.2;omega)];exact D1H (by simp only[E6,D2,D3]at* <;>grind) h
 ·have G: ¬(a<0↔b<0):=fun g=>hs (D0S.2 g);have r:(decide (a<0)==decide (b<0))=false:=by rw[beq_eq_false_iff_ne];exact hs
  repeat' (first|simp only[go_sem,seval,r]|simp(disch:=first|omega|grind) only[B9])
  refine B5v _ _ (by omega) (by omega) _ fun c hc=>?_;have M:=hc.1;have I:=hc.2;by_cases o:c=0
  ·have J:a+b=0:=by have:=I.1 o;omega
   repeat' simp only[go_sem,seval,o]
   rw[J]at h;exact E3 A8Q (D1H (by simp only[E6,D2,D3]at* <;>grind) h)
  ·by_cases x:0<c
   ·have hsz:b.natAbs≤a.natAbs:=by omega
    repeat' simp only[go_sem,seval,o,x,decide_true,decide_false]
    refine F5 (fun i=>if i=6 then W5 (a.natAbs-b.natAbs)else .undef) [e,j] ?_;repeat' (first|with_reducible apply C9p|simp only[go_sem,seval,p,q]|simp(disch:=first|omega|grind) only[B9]|with_reducible refine R0 (fun H' Q hro hq=>B5x _ _ hsz u H' hq) ?_)
    rw[V2 (a+b) _ _ (by omega) (by apply D0S.2;omega)];exact D1H (by simp only[E6,D2,D3]at* <;>grind) h
   ·have hsz:a.natAbs≤b.natAbs:=by omega
    repeat' simp only[go_sem,seval,o,x,decide_true,decide_false]
    refine F5 (fun i=>if i=6 then W5 (b.natAbs-a.natAbs)else .undef) [e,j] ?_;repeat' (first|with_reducible apply C9p|simp only[go_sem,seval,p,q]|simp(disch:=first|omega|grind) only[B9]|with_reducible refine R0 (fun H' Q hro hq=>B5x _ _ hsz hb H' hq) ?_)
    rw[V2 (a+b) _ _ (by omega) (by apply D0S.2;omega)];exact D1H (by simp only[E6,D2,D3]at* <;>grind) h
theorem y9{Q}(a b:Int)(p:Sz a)(hb:Sz b)(H:Heap)(h:Q (.agg (C3 (a-b))) H):D7 249 [.agg (C3 a),.agg (C3 b)] H Q:=by
 refine A8 [(1,.par)] A5 Tryz.func249 rfl ?_;simp only[go_sem,seval,Tryz.results249];intro j q m g A d;simp only[A6]at g d;have r:j∈[j,m]:=by simp
 have u:m∈[j,m]:=by simp
 have x:=d.2.1.symm;have y:=d.1.symm;have z:=g.1.symm;have o:Sz (-b):=by unfold Sz;rw[Int.natAbs_neg];exact hb
 have e:a+ -b=a-b:=by omega
 rw[←e]at h;refine F5 (fun i=>if i=2 then .agg (C3 (-b))else if i=3 then .agg (C3 (a+ -b))else .undef) [j,m] ?_;repeat' (first|with_reducible apply C9p|simp only[go_sem,seval,r,u]|simp(disch:=first|omega|grind) only[B9]|with_reducible refine R0 (fun H' Q hro hq=>A4D b H' hq) ?_|with_reducible refine R0 (fun H' Q hro hq=>A0L a (-b) p o H' hq) ?_)
 exact D1H (by simp only[E6,D2,D3]at* <;>grind) h
theorem B2j{Q}(a b:Int)(g:Sz a)(hb:Sz b)(H:Heap)(h:Q (.bool (decide (a<b))) H):D7 262 [.agg (C3 a),.agg (C3 b)] H Q:=by
 refine A8 [] A5 Tryz.func262 rfl ?_;simp only[go_sem,seval,Tryz.results262];have e:decide (a<b)=decide ((a-b).sign<0):=by
  apply D0S.2;rw[Int.sign_neg_iff];omega
 rw[e]at h;repeat' (first|simp only[go_sem,seval]|simp(disch:=first|omega|grind) only[B9]|(intro d;try simp only[A6]at d)|with_reducible refine y9 a b g hb _ ?_|with_reducible refine K4 (a-b) _ ?_)
 exact D1H (by simp only[E6,D2,D3]at* <;>grind) h
theorem B52{Q}(a b:Int)(e:Sz a)(hb:b.natAbs<4294967296)(H:Heap)(h:Q (.agg (C3 (Nat.gcd a.natAbs b.natAbs))) H):D7 244 [.agg (C3 a),.agg (C3 b)] H Q:=by
 refine A8 [] A5 Tryz.func244 rfl ?_;simp only[go_sem,seval,Tryz.results244];rw[A50]at h;repeat' (first|simp only[go_sem,seval]|simp(disch:=first|omega|grind) only[B9]|(intro d;try simp only[A6]at d)|with_reducible refine C2j _ _ e hb _ ?_)
 exact D1H (by simp only[E6,D2,D3]at* <;>grind) h
theorem l6{Q}(n:Int)(i: -9223372036854775808≤n)(h1:n≤9223372036854775807)(H:Heap)(h:Q (.agg (C3 n)) H):D7 228 [.int .i64 n] H Q:=by
 refine A8 [] A5 Tryz.func228 rfl ?_;simp only[go_sem,seval,Tryz.results228];by_cases hn:n<0
 ·have d:IntKind.u64.wrap n=n+18446744073709551616:=by rw[IntKind.wrap];simp only[IntKind.signed,IntKind.bits];simp;omega
  have g:IntKind.u64.wrap (0-(n+18446744073709551616))=(n.natAbs:Int):=by rw[IntKind.wrap];simp only[IntKind.signed,IntKind.bits];simp;omega
  rw[←V2 n n.natAbs true rfl (by rw[C9r hn])]at h;repeat' (first|simp only[go_sem,seval,hn,decide_true,d,g]|intro e|with_reducible refine C2h n.natAbs (by omega) _ ?_)
  exact D1H (by simp only[E6,D2,D3]at* <;>grind) h
 ·have d:IntKind.u64.wrap n=(n.natAbs:Int):=by rw[A0B (by omega) (by omega)];omega
  rw[←V2 n n.natAbs false rfl (by rw[C9s hn])]at h;repeat' (first|simp only[go_sem,seval,hn,decide_false,d]|intro e|with_reducible refine C2h n.natAbs (by omega) _ ?_)
  exact D1H (by simp only[E6,D2,D3]at* <;>grind) h
end Go.Proofs.YtibphjonmikciaaGreatDoor
namespace Go.Av
theorem A0p{H u:Heap}{E z:Env}{c m sz s n:Nat}{rest:List D}{es X:List (List D)}(A:Av.Sub z E)(hn:n=es.length)(hc:u c=some (.vec s (X++[.vec m sz 0 n::rest])))(hm:u m=some (.vec sz es))(x:m≠c)
  (C: ∀k o,k≠c→H k=some o→k≠m∧u k=some o):A1D z (H.set c (.vec s (X++[.sl sz es::rest]))) E u:=by
 refine A4Y hm (B5Z A) (fun k o' ho=>?_);unfold Heap.set at ho;by_cases hk:k=c
 ·subst hk;rw[if_pos rfl]at ho;cases ho;refine⟨Ne.symm x,_,hc,.vec _ _ _ (by simp) fun i y J g e=>?_⟩;by_cases G:i<X.length
  ·rw[D0j G]at g e;rw[g]at e;cases e;exact⟨rfl,fun j d d' p h=>by rw[p]at h;cases h;exact .same _⟩
  ·rw[D0k (by omega)]at g e;by_cases r:i-X.length=0
   ·rw[r]at g e;cases g;cases e;refine⟨by simp,fun j d d' p h=>?_⟩;cases j with
    |zero=>cases p;cases h;rw[hn];exact .all
    |succ j=>
     rw[D0L]at p h;rw[p]at h;cases h;exact .same _
   ·obtain⟨q,hq⟩: ∃q,i-X.length=q+1:=⟨_,(Nat.succ_pred r).symm⟩
    rw[hq]at g;cases g
 ·rw[if_neg hk]at ho;obtain⟨h1,I⟩:=C k o' hk ho;exact⟨h1,o',I,.same _⟩
end Go.Av
namespace Go.Lin
open Go Go.Av
theorem B80(a b:Int)(d:b≠0):(a.fdiv b).natAbs≤a.natAbs+1:=by
 have hk:=Nat.div_le_self a.natAbs b.natAbs;by_cases e:a=0
 ·rw[A2M a b d (.inr e),Int.natAbs_natCast];omega
 ·by_cases hs:decide (a<0)=decide (b<0)
  ·rw[A2M a b d (.inl hs),Int.natAbs_natCast];omega
  ·rw[A4C a b d e hs];split
   ·rw[Int.natAbs_neg,Int.natAbs_natCast];omega
   ·rw[Int.natAbs_neg,Int.natAbs_natCast];omega
theorem A1L{a b:Int}{m n:Nat}(d:a.natAbs≤m)(hb:b.natAbs≤n):(a*b).natAbs≤m*n:=by rw[Int.natAbs_mul];exact Nat.mul_le_mul d hb
theorem B2k{H:Heap}{b c:Nat}{A d B:Av.Obj}(h:c≠b):((H.set b d).set c B).Le (((H.set b A).set c B).set b d):=fun q o hq=>by
 by_cases e:q=b
 ·subst e;rw[A3 _ h.symm,A2]at hq;rw[A2];exact hq
 ·rw[A3 _ e];by_cases e2:q=c
  ·subst e2;rw[A2]at hq⊢;exact hq
  ·rw[A3 _ e2,A3 _ e]at hq⊢;exact hq
def zB:List D:=[.bool false,.nilsl]
def Z4(C:List Int)(n i:Nat):List (List D):=Rw C3 (C.take i)++List.replicate (n-i) zB
theorem A3V(C:List Int)(n i:Nat)(h:C.length=n)(d:i≤n):(Z4 C n i).length=n:=by simp[Z4,Rw];omega
theorem A2N(C:List Int)(n:Nat):Z4 C n 0=List.replicate n zB:=by simp[Z4,Rw]
theorem A3W(C:List Int)(n:Nat)(h:C.length=n):Z4 C n n=Rw C3 C:=by simp[Z4,←h]
theorem A1v(C:List Int)(n i:Nat)(h:C.length=n)(d:i<n)(c:List D)(hc:C3 (C[i]'(by omega))=c):(Z4 C n i).set i c=Z4 C n (i+1):=by
 subst hc;unfold Z4;have hl:(Rw C3 (C.take i)).length=i:=by simp[Rw];omega
 have e:n-i=(n-(i+1))+1:=by omega
 rw[List.set_append_right _ _ (by omega),hl,Nat.sub_self,e,List.replicate_succ,List.set_cons_zero,Q3 _ _ (by omega),D0d];rfl
theorem A0q(C:List Int)(n i j:Nat)(h:C.length=n)(d:i≤j)(e:j<n):(Z4 C n i)[j]? =some zB:=by
 unfold Z4;have hl:(Rw C3 (C.take i)).length=i:=by simp[Rw];omega
 rw[D0k (by omega),hl,List.getElem?_replicate,if_pos (by omega)]
theorem A0r(C:List Int)(n i j:Nat)(h:C.length=n)(d:i≤j)(e:j<n):(Z4 C n i).getD j []=zB:=by
 rw[List.getD_eq_getElem?_getD,A0q C n i j h d e];rfl
end Go.Lin
namespace Go.Proofs.YtibphjonmikciaaGreatDoor
open Go Go.Av Go.Lin
attribute [local irreducible] ACalls W4
theorem B53{Q}(a b:Int)(ha:a.natAbs≤18446744073709551616)(G:0<b)(hb:b<2147483648)(H:Heap)(h:Q (.agg (C3 (A0n a b))) H):D7 258 [.agg (C3 a),.agg (C3 b)] H Q:=by
 refine A8 [(2,.par)] A5 Tryz.func258 rfl ?_;simp only[go_sem,seval,Tryz.results258];intro p I q r b4 g;simp only[A6]at r g;have J:=g.2.1.symm;have L:=g.1.symm;have M:=r.1.symm;obtain⟨t,d⟩: ∃t:Int,t=2:=⟨2,rfl⟩
 have hw: ∀(H':Heap) (x:D→Heap→Prop),x (.agg (C3 t)) H'→D7 228 [.int .i64 2] H' x:=fun H' x hq=>l6 2 (by omega) (by omega) H' (by rw[←d];exact hq);repeat' (first|simp only[go_sem,seval]|(intro j;try simp only[A6]at j)|with_reducible refine hw _ _ ?_)
 rename_i b5;have o:=j;clear j;have O:p∈[p,q,b5]:=by simp
 have T:q∈[p,q,b5]:=by simp
 have U:b5∈[p,q,b5]:=by simp
 have V:=o.1;have W:=o.2.1.symm;have X:=o.2.2.1.symm;obtain⟨f,y⟩: ∃f,f=(a*t+b).fdiv (b*t):=⟨_,rfl⟩
 have u:=B80 (a*t+b) (b*t) (by subst d;omega);rw[←y]at u;have u:f.natAbs≤55340232221128654849:=by(have:(a*t+b).natAbs≤55340232221128654848:=by(subst d;omega));omega
 have Y:=A1L (a:=b) (b:=f) (m:=2147483648) (n:=55340232221128654849) (by omega) (by omega);have A:Sz a:=G7 (by omega);have z:Sz b:=G7 (by omega);have C:Sz t:=G7 (by omega);have s4:Sz (a*t):=G7 (by subst d;omega);have s5:Sz (a*t+b):=G7 (by subst d;omega);have s6:Sz f:=G7 (by omega);have s7:Sz (b*f):=G7 (by omega);refine F5 (fun i=>if i=4 then .agg (C3 (a*t))else if i=6 then .agg (C3 (a*t+b))else if i=9 then .agg (C3 (b*t))else if i=10 then .agg (C3 f)else if i=11 then .agg (C3 (b*f))else if i=12 then .agg (C3 (a-b*f))else .undef) [p,q,b5] ?_;repeat' (first|with_reducible apply C9p|simp only[go_sem,seval,O,T,U]|simp(disch:=first|omega|grind) only[B9]|with_reducible refine R0 (fun H' Q hro hq=>R8 a t A C H' hq) ?_|with_reducible refine R0 (fun H' Q hro hq=>A0L (a*t) b s4 z H' hq) ?_|with_reducible refine R0 (fun H' Q hro hq=>R8 b t z C H' hq) ?_|with_reducible refine R0 (fun H' Q hro hq=>A3U (a*t+b) (b*t) s5 (by subst d;omega) (by subst d;omega) H' (by rw[←y];exact hq)) ?_|with_reducible refine R0 (fun H' Q hro hq=>R8 b f z s6 H' hq) ?_|with_reducible refine R0 (fun H' Q hro hq=>y9 a (b*f) A s7 H' hq) ?_)
 have e:A0n a b=a-b*f:=by rw[y,d];rfl
 rw[e]at h;exact D1H (by simp only[E6,D2,D3]at* <;>grind) h
def A4v(r:Row)(m:Nat):Prop:=r.k.natAbs≤m∧∀x∈r.c,x.natAbs≤m
theorem A2t{Q}(a b:Row)(s:Int)(hs:s=1∨s= -1)(hl:a.c.length=b.c.length)(hlen:a.c.length≤1000000)(M:A4v a 18446744073709551616)(hb:A4v b 18446744073709551616)(H:Heap)(h:Q (.bool (A39 a b s)) H):
  D7 281 [.agg (C4 a),.agg (C4 b),.int .i64 s] H Q:=by
 refine A8 [] A5 Tryz.func281 rfl ?_;simp only[go_sem,seval,Tryz.results281];intro y O z A;simp only[A6]at A;have e3:((H.set y (.box (C4 a))).set z (.box (C4 b))) y=some (.box (C4 a)):=by rw[A3 _ A.1.symm,A2]
 have x:((H.set y (.box (C4 a))).set z (.box (C4 b))) z=some (.box (C4 b)):=A2 _ _;have C:H.Le ((H.set y (.box (C4 a))).set z (.box (C4 b))):=(by simp only[E6,D2,D3]at* <;>grind)
 generalize (H.set y (.box (C4 a))).set z (.box (C4 b))=Bs at e3 x C⊢;repeat' simp only[go_sem,seval,e3,x]
 have key:A39 a b s=true↔∀(k:Nat) (h1:k<a.c.length) (o:k<b.c.length),a.c[k]=b.c[k]*s:=by
  unfold A39;rw[beq_iff_eq];constructor
  ·intro e k h1 o;have:=List.getElem_of_eq e h1;rw[this,D0f]
  ·intro e;apply D1A (by simpa using hl);intro k h1 o;rw[D0f];exact e k h1 (by simpa using o)
 refine C9 [2,4,11,12] (fun(i:Nat)=>[(13,.int .i64 i)]) (fun(i:Nat)=>Bs) (fun(i:Nat)=>i≤a.c.length∧∀(k:Nat) (h1:k<a.c.length) (o:k<b.c.length),k<i→a.c[k]=b.c[k]*s) (fun(i:Nat)=>a.c.length-i) (0) (⟨D0A _,fun k _ _ h=>absurd h (Nat.not_lt_zero _)⟩) (by(try simp only[go_sem,seval])<;>(try simp(disch:=omega) [A4])) (by first|exact D1G _|exact A0 (by assumption)|exact B2 (by assumption)|simp only[Heap.Le,Heap.set,Heap.del]at* <;>grind) ?_;rintro T rfl i ⟨U,q⟩;by_cases d:i<a.c.length
 ·have p:decide ((i:Int)<a.c.length)=true:=C9r (by omega);have j:i<b.c.length:=by omega
  have a1:=M.2 _ (C93 d);have V:=hb.2 _ (C93 j);have J:Sz a.c[i]:=G7 (by omega);have L:Sz b.c[i]:=G7 (by omega);have r:(i:Int)<b.c.length:=by omega
  have G:Sz (-b.c[i]):=G7 (by omega);rcases hs with rfl|rfl
  ·have I:b.c[i]*1=b.c[i]:=by omega
   by_cases he:a.c[i]=b.c[i]
   ·have u:(a.c[i]-b.c[i]).sign=0:=by rw[he,Int.sub_self];rfl
    repeat' (first|with_reducible apply C9p|simp only[go_sem,seval,p,e3,x,r,A9 _ _ d,C1 _ _ d,A9 _ _ j,C1 _ _ j,u]|simp(disch:=omega) only[A4,A9]|simp(disch:=first|omega|grind) only[B9]|(intro m;try simp only[A6]at m)|with_reducible refine y9 _ _ J L _ ?_|with_reducible refine K4 _ _ ?_|omega)
    refine C2 (i+1) ⟨by omega,fun k h1 o hk=>?_⟩ (by omega) (by(try simp only[go_sem,seval])<;>(try simp(disch:=omega) [A4])) (by simp only[E6,D2,D3]at* <;>grind);by_cases e:k=i
    ·subst e;rw[I];exact he
    ·exact q k h1 o (by omega)
   ·have u: ¬((a.c[i]-b.c[i]).sign=0):=by rw[Int.sign_eq_zero_iff_zero];omega
    have h1:A39 a b (1)=false:=by rw[←D1B];exact fun g=>he (by rw[←I];exact key.1 g i d j)
    have o:((a.c[i]-b.c[i]).sign != 0)=true:=by rw[bne_iff_ne];exact u
    repeat' (first|with_reducible apply C9p|simp only[go_sem,seval,p,e3,x,r,A9 _ _ d,C1 _ _ d,A9 _ _ j,C1 _ _ j,o]|simp(disch:=omega) only[A4,A9]|simp(disch:=first|omega|grind) only[B9]|(intro m;try simp only[A6]at m)|with_reducible refine y9 _ _ J L _ ?_|with_reducible refine K4 _ _ ?_|omega)
    rw[h1]at h;exact D1H (by simp only[E6,D2,D3]at* <;>grind) h
  ·have I:b.c[i]* -1= -b.c[i]:=by omega
   by_cases he:a.c[i]= -b.c[i]
   ·have u:(a.c[i]- -b.c[i]).sign=0:=by rw[he,Int.sub_self];rfl
    repeat' (first|with_reducible apply C9p|simp only[go_sem,seval,p,e3,x,r,A9 _ _ d,C1 _ _ d,A9 _ _ j,C1 _ _ j,u]|simp(disch:=omega) only[A4,A9]|simp(disch:=first|omega|grind) only[B9]|(intro m;try simp only[A6]at m)|with_reducible refine A4D _ _ ?_|with_reducible refine y9 _ _ J G _ ?_|with_reducible refine K4 _ _ ?_|omega)
    refine C2 (i+1) ⟨by omega,fun k h1 o hk=>?_⟩ (by omega) (by(try simp only[go_sem,seval])<;>(try simp(disch:=omega) [A4])) (by simp only[E6,D2,D3]at* <;>grind);by_cases e:k=i
    ·subst e;rw[I];exact he
    ·exact q k h1 o (by omega)
   ·have u: ¬((a.c[i]- -b.c[i]).sign=0):=by rw[Int.sign_eq_zero_iff_zero];omega
    have h1:A39 a b (-1)=false:=by rw[←D1B];exact fun g=>he (by rw[←I];exact key.1 g i d j)
    have o:((a.c[i]- -b.c[i]).sign != 0)=true:=by rw[bne_iff_ne];exact u
    repeat' (first|with_reducible apply C9p|simp only[go_sem,seval,p,e3,x,r,A9 _ _ d,C1 _ _ d,A9 _ _ j,C1 _ _ j,o]|simp(disch:=omega) only[A4,A9]|simp(disch:=first|omega|grind) only[B9]|(intro m;try simp only[A6]at m)|with_reducible refine A4D _ _ ?_|with_reducible refine y9 _ _ J G _ ?_|with_reducible refine K4 _ _ ?_|omega)
    rw[h1]at h;exact D1H (by simp only[E6,D2,D3]at* <;>grind) h
 ·have p:decide ((i:Int)<a.c.length)=false:=C9s (by omega);repeat' simp only[go_sem,seval,p]
  rw[key.2 (fun k h1 o=>q k h1 o (by omega))]at h;exact D1H C h
set_option maxHeartbeats 1000000 in
theorem B54{Q}(x y:Row)(a b:Int)(hl:x.c.length=y.c.length)(hlen:x.c.length≤1000000)(hx:A4v x 18446744073709551616)(hy:A4v y 18446744073709551616)(ha:a.natAbs≤18446744073709551616)(hb:b.natAbs≤18446744073709551616)(H:Heap)
  (h:Q (.agg (C4 (A1s x a y b))) H):D7 264 [.agg (C4 x),.agg (C3 a),.agg (C4 y),.agg (C3 b)] H Q:=by
 refine A8 [(1,.par),(5,.par)] A5 Tryz.func264 rfl ?_;simp only[go_sem,seval,Tryz.results264];intro g h4 b5 h5 j h6 m h7 G h8;simp only[A6]at h5 h6 h7 h8;have O:(((((H.set g (.box (C4 x))).set b5 (.box (C3 a))).set j (.box (C4 y))).set m (.box (C3 b))).set G (.box [.nilsl,.bool false,.nilsl,.bool false])) g=some (.box (C4 x)):=by simp(disch:=first|omega|grind) only[B9,A2]
 have e5:(((((H.set g (.box (C4 x))).set b5 (.box (C3 a))).set j (.box (C4 y))).set m (.box (C3 b))).set G (.box [.nilsl,.bool false,.nilsl,.bool false])) b5=some (.box (C3 a)):=by simp(disch:=first|omega|grind) only[B9,A2]
 have T:(((((H.set g (.box (C4 x))).set b5 (.box (C3 a))).set j (.box (C4 y))).set m (.box (C3 b))).set G (.box [.nilsl,.bool false,.nilsl,.bool false])) j=some (.box (C4 y)):=by simp(disch:=first|omega|grind) only[B9,A2]
 have U:(((((H.set g (.box (C4 x))).set b5 (.box (C3 a))).set j (.box (C4 y))).set m (.box (C3 b))).set G (.box [.nilsl,.bool false,.nilsl,.bool false])) m=some (.box (C3 b)):=by simp(disch:=first|omega|grind) only[B9,A2]
 have e8:(((((H.set g (.box (C4 x))).set b5 (.box (C3 a))).set j (.box (C4 y))).set m (.box (C3 b))).set G (.box [.nilsl,.bool false,.nilsl,.bool false])) G=some (.box [.nilsl,.bool false,.nilsl,.bool false]):=A2 _ _;have V:H.Le ((((H.set g (.box (C4 x))).set b5 (.box (C3 a))).set j (.box (C4 y))).set m (.box (C3 b))):=(by simp only[E6,D2,D3]at* <;>grind)
 have W:((((H.set g (.box (C4 x))).set b5 (.box (C3 a))).set j (.box (C4 y))).set m (.box (C3 b))) G=none:=by simp only[A6];exact h8
 have L:=V.trans (A0 (o:=.box [.nilsl,.bool false,.nilsl,.bool false]) W);have b1:H G=none:=V.none W;generalize (((((H.set g (.box (C4 x))).set b5 (.box (C3 a))).set j (.box (C4 y))).set m (.box (C3 b))).set G (.box [.nilsl,.bool false,.nilsl,.bool false]))=Bs at O e5 T U e8 L⊢;clear V W h4 h5 h6 h7 h8;have xk:=hx.1;have yk:=hy.1;have m1:=A1L xk ha;have m2:=A1L yk hb;have s1:Sz x.k:=G7 (by omega);have s2:Sz y.k:=G7 (by omega);have s3:Sz a:=G7 (by omega);have s4:Sz b:=G7 (by omega);have s5:Sz (x.k*a):=A95 (k:=5) (by omega) (by decide);have s6:Sz (y.k*b):=A95 (k:=5) (by omega) (by decide);have q4:g∈[g,b5,j,m]:=by simp
 have q5:b5∈[g,b5,j,m]:=by simp
 have q6:j∈[g,b5,j,m]:=by simp
 have q7:m∈[g,b5,j,m]:=by simp
 refine F5 (fun i=>if i=7 then .agg (C3 (x.k*a))else if i=11 then .agg (C3 (y.k*b))else if i=12 then .agg (C3 (x.k*a+y.k*b))else .undef) [g,b5,j,m] ?_;repeat' (first|with_reducible apply C9p|simp only[go_sem,seval,O,e5,T,U,q4,q5,q6,q7]|simp(disch:=first|omega|grind) only[B9,F0]|(intro X;try simp only[A6]at X)|with_reducible refine R0 (fun H' Q hro hq=>R8 x.k a s1 s3 H' hq) ?_|with_reducible refine R0 (fun H' Q hro hq=>R8 y.k b s2 s4 H' hq) ?_|with_reducible refine R0 (fun H' Q hro hq=>A0L (x.k*a) (y.k*b) s5 s6 H' hq) ?_|omega)
 rename_i I u r;have Y:=X;clear X;obtain⟨C,hC⟩: ∃C,C=List.zipWith (fun p q=>p*a+q*b) x.c y.c:=⟨_,rfl⟩
 have z:C.length=x.c.length:=by rw[hC];simp[hl]
 have a9:List.replicate x.c.length [D.bool false,.nilsl]=Z4 C x.c.length 0:=(A2N _ _).symm;rw[a9];obtain⟨k,hk⟩: ∃k,k=x.k*a+y.k*b:=⟨_,rfl⟩
 have n9:r≠I:=Y.1;have f4:g≠I:=fun e=>by rw[e,u]at O;cases O
 have f5:b5≠I:=fun e=>by rw[e,u]at e5;cases e5
 have f6:j≠I:=fun e=>by rw[e,u]at T;cases T
 have f7:m≠I:=fun e=>by rw[e,u]at U;cases U
 have f8:G≠I:=fun e=>by rw[e,u]at e8;cases e8
 have g4:g≠r:=fun e=>by rw[e,Y.2]at O;cases O
 have g5:b5≠r:=fun e=>by rw[e,Y.2]at e5;cases e5
 have g6:j≠r:=fun e=>by rw[e,Y.2]at T;cases T
 have g7:m≠r:=fun e=>by rw[e,Y.2]at U;cases U
 have g8:G≠r:=fun e=>by rw[e,Y.2]at e8;cases e8
 refine C9 [4,5,6,7,8,9,29] (fun(i:Nat)=>[(30,.int .i64 i)]) (fun(i:Nat)=>(Bs.set I (.vec 2 (Z4 C x.c.length i))).set r (.box [.vec I 2 0 x.c.length,.bool (decide (x.k*a+y.k*b<0)),.sl 1 (Rw F1 (B4 (x.k*a+y.k*b).natAbs)),.bool x.eq])) (fun(i:Nat)=>i≤x.c.length) (fun(i:Nat)=>x.c.length-i) (0) (D0A _) (by(try simp only[go_sem,seval])<;>(try simp(disch:=omega) [A4])) (by first|exact D1G _|exact A0 (by assumption)|exact B2 (by assumption)|simp only[Heap.Le,Heap.set,Heap.del]at* <;>grind) ?_;rintro Ec rfl i hi;have b2:=A3V C x.c.length i z hi;by_cases A:i<x.c.length
 ·have a0:decide ((i:Int)<x.c.length)=true:=C9r (by omega);have a4:i<y.c.length:=by omega
  have b3:(i:Int)<y.c.length:=by omega
  have c3:i<C.length:=by omega
  have x1:=hx.2 _ (C93 A);have y1:=hy.2 _ (C93 a4);have p1:=A1L x1 ha;have p2:=A1L y1 hb;have t1:Sz x.c[i]:=G7 (by omega);have t2:Sz y.c[i]:=G7 (by omega);have t3:Sz (x.c[i]*a):=A95 (k:=5) (by omega) (by decide);have t4:Sz (y.c[i]*b):=A95 (k:=5) (by omega) (by decide);have c0:C[i]=x.c[i]*a+y.c[i]*b:=by simp only[hC,List.getElem_zipWith]
  have M:=A1v C x.c.length i z A (C3 (x.c[i]*a+y.c[i]*b)) (by rw[c0]);have c1:=A0r C x.c.length i i z (C99 _) A;have b0:=A0q C x.c.length i i z (C99 _) A;have r4:g∈[g,b5,j,m,r]:=by simp
  have r5:b5∈[g,b5,j,m,r]:=by simp
  have r6:j∈[g,b5,j,m,r]:=by simp
  have r7:m∈[g,b5,j,m,r]:=by simp
  have r9:r∈[g,b5,j,m,r]:=by simp
  repeat' simp only[go_sem,seval,a0]
  refine F5 (fun i'=>if i'=9 then .agg (C3 (x.c[i]*a))else if i'=16 then .agg (C3 (y.c[i]*b))else if i'=17 then .agg (C3 (x.c[i]*a+y.c[i]*b))else .undef) [g,b5,j,m,r] ?_;repeat' (first|with_reducible apply C9p|simp only[go_sem,seval,O,e5,T,U,r4,r5,r6,r7,r9,b3,b2,c1,b0,A9 _ _ A,C1 _ _ A,A9 _ _ a4,C1 _ _ a4,M]|simp(disch:=omega) only[A4,A9]|simp(disch:=first|omega|grind) only[B9,F0]|with_reducible refine R0 (fun H' Q hro hq=>R8 x.c[i] a t1 s3 H' hq) ?_|with_reducible refine R0 (fun H' Q hro hq=>R8 y.c[i] b t2 s4 H' hq) ?_|with_reducible refine R0 (fun H' Q hro hq=>A0L (x.c[i]*a) (y.c[i]*b) t3 t4 H' hq) ?_|omega)
  refine C2 (i+1) (by omega) (by omega) (by(try simp only[go_sem,seval])<;>(try simp(disch:=omega) [A4])) ?_;have a5:(Z4 C x.c.length i).set i ((zB.set 0 (D.bool (decide (x.c[i]*a+y.c[i]*b<0)))).set 1 (D.sl 1 (Rw F1 (B4 (x.c[i]*a+y.c[i]*b).natAbs))))=Z4 C x.c.length (i+1):=M;rw[a5];exact B2k n9
 ·have a0:decide ((i:Int)<x.c.length)=false:=C9s (by omega);have c2:i=x.c.length:=by omega
  subst c2;rw[A3W C _ z];repeat' (first|simp only[go_sem,seval,a0,e8]|simp(disch:=first|omega|grind) only[B9,F0])
  have a6:x.c.length=(Rw C3 C).length:=by rw[D6,z]
  refine T6 (b:=I) (sz:=2) (es:=Rw C3 C) (cs':=C4 (A1s x a y b)) (by rw[A3 _ f8.symm,A3 _ n9.symm,A2]) rfl (fun i d d' e1 e2=>?_) (D1H (fun q o hq=>?_) h)
  ·match i with
   |0=>
    cases e1;cases e2;show Fz I 2 (Rw C3 C) (.vec I 2 0 x.c.length) (.sl 2 (Rw C3 (List.zipWith (fun p q=>p*a+q*b) x.c y.c)));rw[←hC,a6];exact .all
   |1=>cases e1;cases e2;exact .same _
   |2=>cases e1;cases e2;exact .same _
   |3=>cases e1;cases e2;exact .same _
   |i+4=>cases e1
  ·have J:=L q o hq;have d1:q≠I:=fun e=>by rw[e,u]at J;cases J
   have d2:q≠r:=fun e=>by rw[e,Y.2]at J;cases J
   have d3:q≠G:=fun e=>by rw[e,b1]at hq;cases hq
   rw[F0 d1,A3 _ d3,A3 _ d2,A3 _ d1];exact J
end Go.Proofs.YtibphjonmikciaaGreatDoor
namespace Go.Lin
open Go Go.Av Go.Lexs
open Classical in
noncomputable def I1(ks:List ByteArray)(s:ByteArray):List ByteArray:=if s∈ks then ks else ks++[s]
theorem A2u{ks:List ByteArray}{s:ByteArray}(h:ks.Nodup):(I1 ks s).Nodup:=by
 unfold I1;split
 ·exact h
 ·rename_i g;exact List.nodup_append.2 ⟨h,by simp,fun a d b hb=>by simp at hb;subst hb;exact fun e=>g (e ▸ d)⟩
theorem A98{ks:List ByteArray}{s x:ByteArray}:x∈I1 ks s↔x∈ks∨x=s:=by
 unfold I1;split
 ·rename_i g;constructor
  ·exact .inl
  ·rintro(h|rfl);exact h;exact g
 ·simp
theorem B55(ks:List ByteArray)(s:ByteArray):(I1 ks s).length≤ks.length+1:=by
 unfold I1;split<;>simp
theorem T0(m:List ByteArray): ∀ks:List ByteArray,ks.Nodup→(m.foldl I1 ks).Nodup:=by
 induction m with
 |nil=>exact fun ks h=>h
 |cons s m d=>exact fun ks h=>d _ (A2u h)
theorem A7F(m:List ByteArray)(x:ByteArray): ∀ks:List ByteArray,x∈m.foldl I1 ks↔x∈ks∨x∈m:=by
 induction m with
 |nil=>intro ks;simp
 |cons s m d=>intro ks;rw[List.foldl_cons,d,A98,D0H,or_assoc]
theorem A7G(m:List ByteArray): ∀ks:List ByteArray,(m.foldl I1 ks).length≤ks.length+m.length:=by
 induction m with
 |nil=>intro ks;simp
 |cons s m d=>intro ks;have:=d (I1 ks s);have:=B55 ks s;simp only[List.foldl_cons,C9u];omega
theorem B3u(f:ByteArray→D)(s:ByteArray)(ks:List ByteArray):C7 f (s::ks)=(.str s,f s)::C7 f ks:=rfl
theorem find_strM(f:ByteArray→D)(s:ByteArray): ∀(ks:List ByteArray) (i:Nat),(s∉ks∧O8 (.one .str) (.str s) (C7 f ks) i=some none)∨∃j,∃h:j<ks.length,ks[j]=s∧O8 (.one .str) (.str s) (C7 f ks) i=some (some (i+j,f s))
 | [],i=>.inl ⟨by simp,rfl⟩
 |t::ks,i=>by
  have e:A4T (.one .str) (.str s) (.str t)=some (decide (s=t)):=by
   rw[A4T,T8]
   congr 1
   rw[Bool.eq_iff_iff,beq_iff_eq,D0B];exact⟨fun g=>i7 g,fun g=>by rw[g]⟩
  rw[B3u,O8];simp only[e,D0J,D0B];by_cases c:s=t
  ·subst c;rw[if_pos rfl];exact .inr ⟨0,by simp,rfl,rfl⟩
  ·rw[if_neg c];rcases find_strM f s ks (i+1)with⟨h1,d⟩|⟨j,h,h1,d⟩
   ·exact .inl ⟨by rw[D0H,not_or];exact⟨c,h1⟩,d⟩
   ·exact .inr ⟨j+1,by simpa using h,by simpa using h1,by rw[d];congr 3;omega⟩
def A99(f:ByteArray→D)(s:ByteArray)(x:D):ByteArray→D:=fun t=>if t=s then x else f t
theorem B56(f:ByteArray→D)(s:ByteArray)(x:D)(ks:List ByteArray)(hn:ks.Nodup):(O8 (.one .str) (.str s) (C7 f ks) 0).map (fun r=>A5R (C7 f ks) (.str s) x r)=some (C7 (A99 f s x) (I1 ks s)):=by
 rcases find_strM f s ks 0 with⟨h1,d⟩|⟨j,h,h1,d⟩
 ·rw[d];show some (C7 f ks++[(.str s,x)])=_;unfold I1;rw[if_neg h1];unfold C7;rw[D0p]
  congr 2
  ·refine List.map_congr_left fun t o=>?_;have:t≠s:=fun e=>h1 (e ▸ o);simp[A99,this]
  ·simp[A99]
 ·rw[d];show some ((C7 f ks).set (0+j) (.str s,x))=_;have hm:s∈ks:=by rw[←h1];exact C93 h
  unfold I1;rw[if_pos hm,Nat.zero_add]
  congr 1
  apply D1A
  ·simp[C7]
  ·intro i u p;have m:i<ks.length:=by simpa [C7]using p
   by_cases e:j=i
   ·subst e;rw[List.getElem_set_self];simp[C7,A99,h1]
   ·rw[List.getElem_set_ne e];have:ks[i]≠s:=fun g=>by
     have hp:=List.pairwise_iff_getElem.1 hn;rcases Nat.lt_or_gt_of_ne e with q|q
     ·exact hp j i h m q (h1.trans g.symm)
     ·exact hp i j m h q (g.trans h1.symm)
    simp[C7,A99,this]
theorem X9{H:Heap}{b:Nat}(f:ByteArray→D)(s:ByteArray)(x:D)(ks:List ByteArray)(hn:ks.Nodup):(O8 (.one .str) (.str s) (C7 f ks) 0).map (fun r=>H.set b (.map (A5R (C7 f ks) (.str s) x r)))=some (H.set b (.map (C7 (A99 f s x) (I1 ks s)))):=by
 have:=congrArg (Option.map fun m=>H.set b (.map m)) (B56 f s x ks hn);rw[Option.map_map]at this;exact this
open Classical in
theorem A2O(f:ByteArray→D)(s:ByteArray)(z:D)(ks:List ByteArray):(O8 (.one .str) (.str s) (C7 f ks) 0).map (A2f false z)=some (if s∈ks then f s else z):=by
 rcases find_strM f s ks 0 with⟨h1,d⟩|⟨j,e,h1,d⟩
 ·rw[d,if_neg h1];rfl
 ·have hm:s∈ks:=by rw[←h1];exact C93 e
  rw[d,if_pos hm];rfl
abbrev tt:ByteArray→D:=fun _=>.bool true
theorem A2v(s:ByteArray):A99 tt s (.bool true)=tt:=by
 funext t;unfold A99;split<;>rfl
def A0M(l:List LinV)(i j:Nat):List ByteArray:=O4 (l.take i)++(((l.getD i default).t.take j).map (·.v))
theorem B1T(l:List LinV)(i:Nat)(h:i<l.length):A0M l i l[i].t.length=A0M l (i+1) 0:=by
 unfold A0M O4;rw[C98 h,List.flatMap_append];simp[h]
theorem B1U(l:List LinV)(i j:Nat)(h:i<l.length)(d:j<l[i].t.length):A0M l i (j+1)=A0M l i j++[l[i].t[j].v]:=by
 unfold A0M;rw[show l.getD i default=l[i]by simp[h],C98 d,D0p,←D0d];rfl
theorem B3v(l:List LinV):A0M l l.length 0=O4 l:=by simp[A0M]
theorem B1V(m:List ByteArray)(s:ByteArray):(m++[s]).foldl I1 []=I1 (m.foldl I1 []) s:=by rw[D0h];rfl
end Go.Lin
namespace Go.Proofs.YtibphjonmikciaaGreatDoor
open Go Go.Av Go.Lexs Go.Lin
attribute [local irreducible] ACalls W4
theorem C2k{Q}(l:List LinV)(hlen:l.length≤1000000000)(M:(O4 l).length≤1000000000)(hst: ∀s∈O4 l,s.size≤4611686018427387904)(C: ∀c∈l,c.t.length≤1000000000)(H:Heap)(h:Q (.sl 1 (Rw a7 (A1n l))) H):D7 198 [.sl 3 (Rw E4 l)] H Q:=by
 refine A8 [] A5 Tryz.func198 rfl ?_;simp only[go_sem,seval,Tryz.results198];repeat' (intro d;try simp only[A6]at d)
 rename_i g;have O:=d;clear d;rw[show ([]:List (D×D))=C7 tt ((A0M l 0 0).foldl I1 [])from rfl];refine C9 [3,9,10] (fun(i:Nat)=>[(11,.int .i64 i)]) (fun(i:Nat)=>H.set g (.map (C7 tt ((A0M l i 0).foldl I1 [])))) (fun(i:Nat)=>i≤l.length) (fun(i:Nat)=>l.length-i) (0) (D0A _) (by(try simp only[go_sem,seval])<;>(try simp(disch:=omega) [A4])) (by first|exact D1G _|exact A0 (by assumption)|exact B2 (by assumption)|simp only[Heap.Le,Heap.set,Heap.del]at* <;>grind) ?_;rintro T rfl i hi;by_cases m:i<l.length
 ·have q:decide ((i:Int)<l.length)=true:=C9r (by omega);have U:(i:Int)<l.length:=by omega
  have V:=C _ (C93 m);repeat' (first|with_reducible apply C9p|simp only[go_sem,seval,q,A9 _ _ m,C1 _ _ m]|(intro d;try simp only[A6]at d)|omega)
  rename_i b5;have h5:=d;clear d;have W:(H.set g (.map (C7 tt ((A0M l i 0).foldl I1 [])))).Le ((H.set g (.map (C7 tt ((A0M l i 0).foldl I1 [])))).set b5 (.box (E4 l[i]))):=(by simp only[E6,D2,D3]at* <;>grind)
  refine C9 [3,9,10,11,16,17] (fun(j:Nat)=>[(18,.int .i64 j)]) (fun(j:Nat)=>H.set g (.map (C7 tt ((A0M l i j).foldl I1 [])))) (fun(j:Nat)=>j≤l[i].t.length) (fun(j:Nat)=>l[i].t.length-j) (0) (D0A _) (by(try simp only[go_sem,seval])<;>(try simp(disch:=omega) [A4])) (by first|exact D1G _|exact A0 (by assumption)|exact B2 (by assumption)|simp only[Heap.Le,Heap.set,Heap.del]at* <;>grind) ?_;rintro T rfl j hj;by_cases r:j<l[i].t.length
  ·have p:decide ((j:Int)<l[i].t.length)=true:=C9r (by omega);have G:(j:Int)<l[i].t.length:=by omega
   have u:((A0M l i j).foldl I1 []).Nodup:=T0 _ [] List.nodup_nil;have X:=B1U l i j m r;repeat' (first|with_reducible apply C9p|simp only[go_sem,seval,p,G,A9 _ _ r,C1 _ _ r,X9 _ _ _ _ u,A2v]|simp(disch:=omega) only[A4,A9]|simp(disch:=first|omega|grind) only[B9]|(intro d;try simp only[A6]at d)|omega)
   rename_i Y;have L:=d;clear d;refine C2 (j+1) (by omega) (by omega) (by(try simp only[go_sem,seval])<;>(try simp(disch:=omega) [A4])) ?_;rw[X,B1V];refine Heap.Le.trans (A0 (b:=Y) (o:=.box (Q7 l[i].t[j])) (by simp only[A6];exact L)) (B2k L.1)
  ·have p:decide ((j:Int)<l[i].t.length)=false:=C9s (by omega);have I:j=l[i].t.length:=by omega
   subst I;rw[B1T l i m];repeat' (first|simp only[go_sem,seval,p]|simp(disch:=omega) only[A4,A9])
   exact C2 (i+1) (by omega) (by omega) (by(try simp only[go_sem,seval])<;>(try simp(disch:=omega) [A4])) (D1G _)
 ·have q:decide ((i:Int)<l.length)=false:=C9s (by omega);have J:i=l.length:=by omega
  subst J;rw[B3v];have u:((O4 l).foldl I1 []).Nodup:=T0 _ [] List.nodup_nil;have y:=A7G (O4 l) [];rw[C9w,Nat.zero_add]at y;have x: ∀s,s∈(O4 l).foldl I1 []↔s∈O4 l:=fun s=>by rw[A7F];simp
  generalize (O4 l).foldl I1 []=ks at u y x⊢;repeat' simp only[go_sem,seval,q]
  refine B8o g _ fun A z=>?_;have f1:((H.set g (.map (C7 tt ks))).set A (.box [.map g])) A=some (.box [.map g]):=A2 _ _;have f2:((H.set g (.map (C7 tt ks))).set A (.box [.map g])) g=some (.map (C7 tt ks)):=(A0 z) _ _ (A2 _ _);repeat' simp only[go_sem,seval]
  refine B8p A g tt ks (by omega) (fun s hs=>hst s ((x s).1 hs)) _ f1 f2 fun v hv hm=>?_;have e:v=A1n l:=A5p hv (A9n l) fun s=>by rw[hm,x,A66]
  rw[e];repeat' simp only[go_sem,seval]
  exact D1H ((A0 O).trans (A0 z)) h
end Go.Proofs.YtibphjonmikciaaGreatDoor
namespace Go.Fo
open Go Go.Av Go.Lexs Go.Lin
theorem A0N{f k:Fm}(h:k∈f.ks):SizeOf.sizeOf k<SizeOf.sizeOf f:=by
 cases f with
 |mk o n l s ks=>
  have:SizeOf.sizeOf k<SizeOf.sizeOf ks:=List.sizeOf_lt_of_mem h;simp only[Fm.mk.sizeOf_spec];omega
def K9:Fm→Nat
 | .mk _ _ l _ ks=>1+l.t.length+wtL ks
where wtL:List Fm→Nat
 | []=>0
 |f::fs=>K9 f+wtL fs
theorem L2(f:Fm):K9 f=1+f.l.t.length+K9.wtL f.ks:=by cases f;rw[K9];rfl
theorem B2l(l m:List Fm):K9.wtL (l++m)=K9.wtL l+K9.wtL m:=by
 induction l with
 |nil=>simp[K9.wtL]
 |cons f l d=>simp only[D00,K9.wtL,d];omega
theorem B81(l:List Fm):l.length≤K9.wtL l:=by
 induction l with
 |nil=>simp
 |cons f l d=>rw[K9.wtL,C9u,L2];omega
theorem B57(l:List Fm)(i:Nat)(h:i<l.length):K9.wtL (l.drop i)=K9 l[i]+K9.wtL (l.drop (i+1)):=by
 rw[D0K h,K9.wtL]
theorem FmFit.inv{f:Fm}(h:FmFit f):W3 f.op∧W3 f.n∧a8 f.l∧f.s.size≤140737488351232∧f.ks.length≤1466015503658∧∀k∈f.ks,FmFit k:=by
 cases h with
 |mk o n l s ks ho hn hl hs hk h=>exact⟨ho,hn,hl,hs,hk,h⟩
theorem FmFit.kid{f:Fm}(h:FmFit f){k:Fm}(hk:k∈f.ks):FmFit k:=h.inv.2.2.2.2.2 k hk
theorem FmFit.lin{f:Fm}(h:FmFit f):a8 f.l:=h.inv.2.2.1
theorem FmFit.txt{f:Fm}(h:FmFit f):f.s.size≤140737488351232:=h.inv.2.2.2.1
theorem FmFit.kl{f:Fm}(h:FmFit f):f.ks.length≤1466015503658:=h.inv.2.2.2.2.1
theorem B3w(f:Fm):I8 f≤K9 f:=by
 induction f using P2 with
 |h o n l s ks d=>
  rw[I8,K9];have key: ∀m:List Fm,(∀k∈m,I8 k≤K9 k)→I8.nodesL m≤K9.wtL m:=by
   intro m
   induction m with
   |nil=>intro _;simp[I8.nodesL]
   |cons f fs d=>intro h;rw[I8.nodesL,K9.wtL];have:=d (fun k hk=>h k (C97 _ hk));have:=h f (C90 ..);omega
  have:=key ks d;omega
def foldF{σ :Type}(step: σ →Fm→Int→ σ):Fm→Int→ σ → σ
 | .mk o n l s ks,d,a=>foldK step ks (IntKind.i64.wrap (d+1)) (step a (.mk o n l s ks) d)
where foldK {σ :Type} (step: σ →Fm→Int→ σ):List Fm→Int→ σ → σ
 | [],_,a=>a
 |f::fs,d,a=>foldK step fs d (foldF step f d a)
theorem A1w{σ :Type}(step: σ →Fm→Int→ σ)(f:Fm)(d:Int)(a: σ):foldF step f d a=foldF.foldK step f.ks (IntKind.i64.wrap (d+1)) (step a f d):=by cases f;rw[foldF];rfl
theorem B3x{σ :Type}(step: σ →Fm→Int→ σ)(l m:List Fm)(d:Int)(a: σ):foldF.foldK step (l++m) d a=foldF.foldK step m d (foldF.foldK step l d a):=by
 induction l generalizing a with
 |nil=>rfl
 |cons f l e=>simp only[D00,foldF.foldK,e]
theorem D0{σ :Type}(step: σ →Fm→Int→ σ)(l:List Fm)(i:Nat)(h:i<l.length)(d:Int)(a: σ):foldF.foldK step (l.take (i+1)) d a=foldF step l[i] d (foldF.foldK step (l.take i) d a):=by
 rw[C98 h,B3x];rfl
theorem B3y{σ :Type}(step: σ →Fm→Int→ σ)(I: σ →Prop)(m: ∀a g d,I a→I (step a g d)): ∀f d a,I a→I (foldF step f d a):=by
 intro f
 induction f using P2 with
 |h o n l s ks j=>
  intro d a h;rw[A1w];have e:=m _ (.mk o n l s ks) d h;revert e;generalize step a (.mk o n l s ks) d=b;show I b→I (foldF.foldK step ks _ b);generalize IntKind.i64.wrap (d+1)=d1;clear h
  induction ks generalizing b with
  |nil=>intro e;exact e
  |cons f fs i=>
   intro e;rw[foldF.foldK];exact i (fun k hk=>j k (C97 _ hk)) _ (j f (C90 ..) _ _ e)
def A0a(a:Int×Int)(_:Fm)(d:Int):Int×Int:=(IntKind.i64.wrap (a.1+1),max a.2 d)
theorem B58: ∀(f:Fm) (d:Int) (a:Int×Int),0≤d→d+K9 f≤2000000→0≤a.1→a.1+K9 f≤2000000→foldF A0a f d a=(a.1+I8 f,max a.2 (d+P3 f-1)):=by
 intro f
 induction f using P2 with
 |h o n l s ks j=>
  intro d a p q r u;have hw:K9 (.mk o n l s ks)=1+l.t.length+K9.wtL ks:=L2 _;rw[hw]at q u;have x:IntKind.i64.wrap (d+1)=d+1:=A4 (by omega) (by omega);have e:IntKind.i64.wrap (a.1+1)=a.1+1:=A4 (by omega) (by omega);rw[A1w,I8,P3,x];have key: ∀(m:List Fm),(∀k∈m,k∈ks)→K9.wtL m≤K9.wtL ks→∀a:Int×Int,0≤a.1→a.1+K9.wtL m≤2000000→foldF.foldK A0a m (d+1) a=(a.1+I8.nodesL m,if m= []then a.2 else max a.2 (d+P3.deepL m)):=by
   intro m
   induction m with
   |nil=>intro _ _ a _ _;simp[foldF.foldK,I8.nodesL]
   |cons f fs i=>
    intro hm hl a y h1;rw[K9.wtL]at hl h1;have hn:=B3w f;rw[foldF.foldK,j f (hm f (C90 ..)) (d+1) a (by omega) (by omega) y (by omega),i (fun k hk=>hm k (C97 _ hk)) (by omega) _ (by simp only[];omega) (by simp only[];omega),I8.nodesL,P3.deepL];have h1:1≤P3 f:=by cases f;rw[P3];omega
    refine Prod.ext ?_ ?_
    ·show a.1+_+_=a.1+_;push_cast;omega
    ·simp only[reduceCtorEq,if_false];cases fs with
     |nil=>simp only[if_true,P3.deepL];push_cast;omega
     |cons g fs=>simp only[reduceCtorEq,if_false];push_cast;omega
  show foldF.foldK A0a ks (d+1) (A0a a _ d)=_;rw[key ks (fun _ h=>h) (C99 _) _ (by unfold A0a;simp only[e];omega) (by unfold A0a;simp only[e];omega)];unfold A0a;simp only[e];refine Prod.ext ?_ ?_
  ·show a.1+1+_=a.1+_;push_cast;omega
  ·cases ks with
   |nil=>simp only[if_true,P3.deepL];push_cast;omega
   |cons g fs=>simp only[reduceCtorEq,if_false];push_cast;omega
def A8R(p:Fm→Bool)(a:Bool)(f:Fm)(_:Int):Bool:=a&&p f
theorem B59(p:Fm→Bool): ∀(f:Fm) (d:Int) (a:Bool),foldF (A8R p) f d a=(a&&G8 p f):=by
 intro f
 induction f using P2 with
 |h o n l s ks i=>
  intro d a;rw[A1w,G8];have key: ∀(m:List Fm),(∀k∈m,k∈ks)→∀(e:Int) (a:Bool),foldF.foldK (A8R p) m e a=(a&&G8.allK p m):=by
   intro m
   induction m with
   |nil=>intro _ e a;simp[foldF.foldK,G8.allK]
   |cons f fs g=>
    intro hm e a;rw[foldF.foldK,i f (hm f (C90 ..)),g (fun k hk=>hm k (C97 _ hk)),G8.allK,Bool.and_assoc]
  show foldF.foldK (A8R p) ks _ (A8R p a _ d)=_;rw[key ks (fun _ h=>h)];unfold A8R;rw[Bool.and_assoc]
theorem A2P(p:Fm→Bool)(f:Fm):G8 p f=(p f&&f.ks.all (G8 p)):=by
 cases f with
 |mk o n l s ks=>
  rw[G8]
  congr 1
  show G8.allK p ks=ks.all (G8 p)
  induction ks with
  |nil=>rfl
  |cons f fs d=>rw[G8.allK,d,D0s]
theorem B0A(f:Fm)(d:Nat):(P3 f≤d)↔1≤d∧∀k∈f.ks,P3 k≤d-1:=by
 cases f with
 |mk o n l s ks=>
  rw[P3];have key: ∀(m:List Fm) (e:Nat),P3.deepL m≤e↔∀k∈m,P3 k≤e:=by
   intro m e
   induction m with
   |nil=>simp[P3.deepL]
   |cons f fs g=>rw[P3.deepL,List.forall_mem_cons,←g];omega
  show _↔1≤d∧∀k∈ks,_;rw[←key];omega
theorem B1W(l m:List Fm):I8.nodesL (l++m)=I8.nodesL l+I8.nodesL m:=by
 induction l with
 |nil=>simp[I8.nodesL]
 |cons f l d=>simp only[D00,I8.nodesL,d];omega
theorem B3z(l:List Fm)(i:Nat)(h:i<l.length):I8.nodesL (l.take (i+1))=I8.nodesL (l.take i)+I8 l[i]:=by
 rw[C98 h,B1W];simp[I8.nodesL]
def D4:Fm→List ByteArray
 | .mk _ _ l _ ks=>l.t.map (·.v)++intsL ks
where intsL:List Fm→List ByteArray
 | []=>[]
 |f::fs=>D4 f++intsL fs
def C5:Fm→List ByteArray
 | .mk o _ _ s ks=>(if o=3 then [s]else [])++boolsL ks
where boolsL:List Fm→List ByteArray
 | []=>[]
 |f::fs=>C5 f++boolsL fs
theorem B6A(f:Fm):D4 f=f.l.t.map (·.v)++D4.intsL f.ks:=by cases f;rw[D4];rfl
theorem B30(f:Fm):C5 f=(if f.op=3 then [f.s]else [])++C5.boolsL f.ks:=by cases f;rw[C5];rfl
theorem B31(l m:List Fm):D4.intsL (l++m)=D4.intsL l++D4.intsL m:=by
 induction l with
 |nil=>rfl
 |cons f l d=>simp only[D00,D4.intsL,d,D0d]
theorem B1X(l m:List Fm):C5.boolsL (l++m)=C5.boolsL l++C5.boolsL m:=by
 induction l with
 |nil=>rfl
 |cons f l d=>simp only[D00,C5.boolsL,d,D0d]
theorem A51(l:List Fm)(i:Nat)(h:i<l.length):D4.intsL (l.take (i+1))=D4.intsL (l.take i)++D4 l[i]:=by
 rw[C98 h,B31];simp[D4.intsL]
theorem A4E(l:List Fm)(i:Nat)(h:i<l.length):C5.boolsL (l.take (i+1))=C5.boolsL (l.take i)++C5 l[i]:=by
 rw[C98 h,B1X];simp[C5.boolsL]
theorem B0B(f:Fm):(D4 f).length+(C5 f).length≤K9 f:=by
 induction f using P2 with
 |h o n l s ks d=>
  rw[D4,C5,K9];have key: ∀m:List Fm,(∀k∈m,(D4 k).length+(C5 k).length≤K9 k)→(D4.intsL m).length+(C5.boolsL m).length≤K9.wtL m:=by
   intro m
   induction m with
   |nil=>intro _;simp[D4.intsL,C5.boolsL]
   |cons f fs d=>intro h;rw[D4.intsL,C5.boolsL,K9.wtL,C9v,C9v];have:=d (fun k hk=>h k (C97 _ hk));have:=h f (C90 ..);omega
  have:=key ks d;simp only[C9v,D0Y];split<;>simp<;>omega
theorem B32{f:Fm}(h:FmFit f): ∀s∈D4 f,s.size≤140737488351232:=by
 induction f using P2 with
 |h o n l s ks e=>
  rw[D4];intro x hx;rcases D0F.1 hx with hx|hx
  ·obtain⟨t,g,rfl⟩:=D0n.1 hx;exact h.lin.str t g
  ·have key: ∀m:List Fm,(∀k∈m,k∈ks)→∀s∈D4.intsL m,s.size≤140737488351232:=by
    intro m
    induction m with
    |nil=>intro _ s hs;cases hs
    |cons f fs d=>
     intro hm s hs;rcases D0F.1 hs with hs|hs
     ·exact e f (hm f (C90 ..)) (h.kid (hm f (C90 ..))) s hs
     ·exact d (fun k hk=>hm k (C97 _ hk)) s hs
   exact key ks (fun _ h=>h) x hx
theorem B1Y{f:Fm}(h:FmFit f): ∀s∈C5 f,s.size≤140737488351232:=by
 induction f using P2 with
 |h o n l s ks e=>
  rw[C5];intro x hx;rcases D0F.1 hx with hx|hx
  ·split at hx
   ·rw[D0G]at hx;subst hx;exact h.txt
   ·cases hx
  ·have key: ∀m:List Fm,(∀k∈m,k∈ks)→∀s∈C5.boolsL m,s.size≤140737488351232:=by
    intro m
    induction m with
    |nil=>intro _ s hs;cases hs
    |cons f fs d=>
     intro hm s hs;rcases D0F.1 hs with hs|hs
     ·exact e f (hm f (C90 ..)) (h.kid (hm f (C90 ..))) s hs
     ·exact d (fun k hk=>hm k (C97 _ hk)) s hs
   exact key ks (fun _ h=>h) x hx
theorem B0C: ∀(f:Fm) (p:List ByteArray×List ByteArray),A0Y f p=((D4 f).foldl P6 p.1,(C5 f).foldl P6 p.2):=by
 intro f
 induction f using P2 with
 |h o n l s ks e=>
  rintro⟨a,b⟩;rw[A0Y,D4,C5];have key: ∀m:List Fm,(∀k∈m,k∈ks)→∀p,A0Y.namesK m p=((D4.intsL m).foldl P6 p.1,(C5.boolsL m).foldl P6 p.2):=by
   intro m
   induction m with
   |nil=>intro _ p;rfl
   |cons f fs d=>
    intro hm p;rw[A0Y.namesK,d (fun k hk=>hm k (C97 _ hk)),e f (hm f (C90 ..)),D4.intsL,C5.boolsL,D0h,D0h]
  rw[key ks (fun _ h=>h),D0h,D0h];refine Prod.ext rfl ?_;show List.foldl P6 (if o=3 then P6 b s else b) _=_;split<;>rfl
noncomputable def A4w(a:List ByteArray×List ByteArray)(f:Fm)(_:Int):List ByteArray×List ByteArray:=((f.l.t.map (·.v)).foldl I1 a.1,if f.op=3 then I1 a.2 f.s else a.2)
theorem B6B: ∀(f:Fm) (d:Int) (p:List ByteArray×List ByteArray),foldF A4w f d p=((D4 f).foldl I1 p.1,(C5 f).foldl I1 p.2):=by
 intro f
 induction f using P2 with
 |h o n l s ks i=>
  rintro d ⟨a,b⟩;rw[A1w,D4,C5];have key: ∀m:List Fm,(∀k∈m,k∈ks)→∀(e:Int) p,foldF.foldK A4w m e p=((D4.intsL m).foldl I1 p.1,(C5.boolsL m).foldl I1 p.2):=by
   intro m
   induction m with
   |nil=>intro _ e p;rfl
   |cons f fs g=>
    intro hm e p;rw[foldF.foldK,g (fun k hk=>hm k (C97 _ hk)),i f (hm f (C90 ..)),D4.intsL,C5.boolsL,D0h,D0h]
  show foldF.foldK A4w ks _ _=_;rw[key ks (fun _ h=>h),D0h,D0h];refine Prod.ext rfl ?_;show List.foldl I1 (if o=3 then I1 b s else b) _=_;split<;>rfl
def upS(l:List ByteArray):List ByteArray:=l.foldl P6 []
theorem A8S(l:List ByteArray):(upS l).Pairwise fun x y=>j8 x y=true:=A9m _ _ .nil
theorem S3(l:List ByteArray)(x:ByteArray):x∈upS l↔x∈l:=by unfold upS;rw[A65];simp
noncomputable def I9(l:List ByteArray):List ByteArray:=l.foldl I1 []
theorem A1M(l:List ByteArray):(I9 l).Nodup:=T0 _ _ List.nodup_nil
theorem F9(l:List ByteArray)(x:ByteArray):x∈I9 l↔x∈l:=by unfold I9;rw[Go.Lin.A7F];simp
theorem B6C{l:List ByteArray}(h:l.Pairwise fun x y=>j8 x y=true):l.Nodup:=h.imp fun {a b} g e=>by subst e;rw[j9]at g;cases g
theorem A3X(l:List ByteArray):(I9 l).length=(upS l).length:=((List.perm_ext_iff_of_nodup (A1M l) (B6C (A8S l))).2 fun x=>by rw[F9,S3]).length_eq
theorem A49(l:List ByteArray):(I9 l).length≤l.length:=by have:=A7G l [];simpa [I9]using this
theorem A3Y(l m:List ByteArray):meetL l m=true↔∃x,x∈l∧x∈m:=by
 unfold meetL;simp only[List.any_eq_true,D0B];constructor
 ·rintro⟨x,hx,y,d,rfl⟩;exact⟨x,hx,d⟩
 ·rintro⟨x,hx,d⟩;exact⟨x,hx,x,d,rfl⟩
theorem A1N{l m l' m':List ByteArray}(h1: ∀x,x∈l↔x∈l')(d: ∀x,x∈m↔x∈m'):meetL l m=meetL l' m':=by
 rw[Bool.eq_iff_iff,A3Y,A3Y];exact exists_congr fun x=>by rw[h1,d]
def ivF(f:Fm):List ByteArray:=upS (D4 f)
def bvF(f:Fm):List ByteArray:=upS (C5 f)
theorem B1Z(f:Fm):A0Y f ([],[])=(ivF f,bvF f):=B0C f _
theorem A2Q(f:Fm):E5 f=(G8 D5 f&&decide (P3 f≤60)&&decide (I8 f≤200)&& !meetL (ivF f) (bvF f)&&decide ((ivF f).length+(bvF f).length≤12)):=by
 unfold E5;rw[B1Z]
end Go.Fo
namespace Go.Av
inductive View(H:Heap):D→D→Prop
 |same (d:D):View H d d
 |vec (b sz n:Nat) (es es':List (List D)) (hb:H b=some (.vec sz es)) (hn:n=es.length) (hl:es.length=es'.length) (h1: ∀(i:Nat) (e e':List D),es[i]? =some e→es'[i]? =some e'→e.length=e'.length)
   (h: ∀(i:Nat) (e e':List D) (j:Nat) (d d':D),es[i]? =some e→es'[i]? =some e'→e[j]? =some d→e'[j]? =some d'→View H d d'):View H (.vec b sz 0 n) (.sl sz es')
 |nil (sz:Nat):View H .nilsl (.sl sz [])
 |box (b:Nat) (cs cs':List D) (Z:Option TypeId) (hb:H b=some (.box cs Z)) (hl:cs.length=cs'.length) (h: ∀(i:Nat) (d d':D),cs[i]? =some d→cs'[i]? =some d'→View H d d'):View H (.box b 0) (.ro cs')
 |agg (cs cs':List D) (hl:cs.length=cs'.length) (h: ∀(i:Nat) (d d':D),cs[i]? =some d→cs'[i]? =some d'→View H d d'):View H (.agg cs) (.agg cs')
 |map (b:Nat) (kvs:List (D×D)) (hb:H b=some (.map kvs)):View H (.map b) (.fm kvs)
theorem B2m{H H':Heap}{w:World}(hs:Sat H w){b:Nat}{kvs:List (D×D)}(hb:H b=some (.map kvs))(hl:H'.Le H)(hn:H'.held b=false){v:Value}(hr:R w H (.map b) v):R w H' (.fm kvs) v:=by
 obtain⟨es,ck,e,g,h,d⟩:=hs b _ hb;cases hr;exact .fm kvs b es ck e hn g h (fun i p hp=>(d i p hp).1) (fun i p hp=>(d i p hp).2.1.less hl) (fun i p hp=>(d i p hp).2.2.less hl)
theorem View.one{H:Heap}{d d':D}(h:View H d d')(ho:d.one=true):d'.one=true:=by
 cases h with
 |same=>exact ho
 |vec=>rfl
 |nil=>rfl
 |box=>rfl
 |map=>rfl
 |agg=>cases ho
theorem View.R{H:Heap}{w:World}(hs:Sat H w){d d':D}(h:View H d d'): ∀{v:Value},R w H d v→R w (roH H) d' v:=by
 induction h with
 |same d=>exact fun hr=>hr.less (A73 H)
 |vec b sz n es es' hb hn hl h1 h r=>
  intro v hr;have q:=hs.lt hb
  --the block itself
  obtain⟨c,T,x,y,u,_,C,z,G,A⟩:=hs b _ hb;cases hr with
  |vec0 b sz lo off=>
   have:es'= []:=D0D (by omega);subst this;exact .sl0 _ _ _
  |vec _ _ _ _ cap V m I J hsz L=>
   rw[hn,hl];refine .sl sz es' b _ cap (fun i j=>c.getD (i*sz+j) Go.undef) q (A3G H b) (fun i e' o=>?_) (by omega) (fun i j M O=>?_) (fun i e' j d' o g=>?_) (fun i e' j d' o g=>?_)
   ·obtain⟨e,he⟩:=F8 hl o;rw[←h1 i e e' he o];exact G i e he
   ·have h5:(i+1)*sz≤es.length*sz:=D0V _ (by omega);rw[Nat.add_mul,Nat.one_mul]at h5;rw[Nat.zero_mul,Nat.zero_add,S2 u];have hsz:i*sz+j<c.size:=by omega
    simp[hsz]
   ·obtain⟨e,he⟩:=F8 hl o;obtain⟨d,p⟩:=F8 (h1 i e e' he o) g;exact(h i e e' j d d' he o p g).one (A i e j d he p).1
   ·obtain⟨e,he⟩:=F8 hl o;obtain⟨d,p⟩:=F8 (h1 i e e' he o) g;exact r i e e' j d d' he o p g (A i e j d he p).2
 |nil sz=>intro v hr;cases hr;exact .sl0 _ _ _
 |map b kvs hb=>exact fun hr=>B2m hs hb (A73 H) (A3G H b) hr
 |box b cs cs' Z hb hl h r=>
  intro v hr;have q:=hs.lt hb;obtain⟨c,T,lo,M,u,_,C,z,_⟩:=hs b _ hb;cases hr;refine .ro cs' b 0 (fun j=>c.getD j Go.undef) q (A3G H b) (fun j O=>?_) (fun j d' g=>?_) (fun j d' g=>?_)
  ·rw[Nat.zero_add,S2 u];have:j<c.size:=by omega
   simp[this]
  ·obtain⟨d,p⟩:=F8 hl g;exact(h j d d' p g).one (z j d p).1
  ·obtain⟨d,p⟩:=F8 hl g;exact r j d d' p g (z j d p).2
 |agg cs cs' hl h r=>
  intro v hr;cases hr with
  |agg _ vs U ho hr=>
   refine .agg cs' vs (by omega) (fun i d' g=>?_) (fun i d' g=>?_)
   ·obtain⟨d,p⟩:=F8 hl g;exact(h i d d' p g).one (ho i d p)
   ·obtain⟨d,p⟩:=F8 hl g;exact r i d d' p g (hr i d p)
def B2n:D→Bool
 | .tuple ds=>ds.all A9F
 |d=>A9F d
theorem C2l{w:World}{H H':Heap}{d:D}{v:Value}(e:A9F d=true)(hr:R w H d v):R w H' d v:=by
 cases hr<;>first|(cases e;done)|constructor
theorem B82{w:World}{H H':Heap}{d:D}{v:Value}(e:B2n d=true)(hr:R w H d v):R w H' d v:=by
 cases hr with
 |tuple ds vs hl hr=>exact .tuple ds vs hl fun i d g=>C2l (D0Q.1 e d (D0M g)) (hr i d g)
 |_=>first|(cases e;done)|constructor
theorem B33{H e:Heap}{w w':World}{K:D→Heap→Prop}{v:Value}(hs:Sat H w)(m:e.Le H)(h:Post e w (fun d _=>B2n d=true∧K d (H.sub e)) v w'):Post H w K v w':=by
 obtain⟨d,r,hr,q,he,u,p,hk⟩:=h;have g:Ext H w w':=⟨he.os,he.tape,he.output,he.size,fun k hk hn=>he.block k hk (m.held hn),he.shape⟩
 have i:From w H (H.sub e):=fun k hk hn=>(A7t H e).held hn;refine⟨d,H.sub e,B82 p hr,fun b o hb=>?_,g,i,hk⟩;have hc:e.held b=false:=by
  unfold Heap.sub at hb;split at hb
  ·cases hb
  ·rename_i h;simpa using h
 have j:=A7t H e b o hb;exact(hs b o j).mono g i (he.block b (hs.lt j) hc)
theorem A3j{P:Program}{f:Nat}{args args':List D}{H:Heap}{Q:D→Heap→Prop}(hl:args.length=args'.length)(hv: ∀(i:Nat) d d',args[i]? =some d→args'[i]? =some d'→View H d d')
  (h:ACalls P f args' (roH H) (fun d _=>B2n d=true∧Q d H)):ACalls P f args H Q:=by
 refine⟨h.1,fun w vs h1 o j=>?_⟩;refine(h.2 w vs (by omega) (fun i d' g=>?_) (j.less (A73 H))).mono fun e w' ⟨v,he,hp⟩=>⟨v,he,B33 j (A73 H) (by rw[C1x];exact hp)⟩
 obtain⟨d,m⟩:=F8 hl g;exact(hv i d d' m g).R j (o i d m)
theorem B4k{H:Heap}{n sz:Nat}{es:List (List D)}{ob:Option Nat}{ds:List D}(hn:n=es.length)(ho:OutAt H sz es ob):View H (.agg (J1 sz n ob::ds)) (.agg (.sl sz es::ds)):=by
 refine .agg _ _ rfl fun i d d' h1 g=>?_
 match i with
 |0=>
  cases h1;cases g;cases ob with
  |none=>rw[show es= []from ho];exact .nil sz
  |some b=>exact .vec b sz n es es ho hn rfl (fun i e e' h1 g=>by rw[h1]at g;cases g;rfl) (fun i e e' j d d' h1 g m h=>by rw[h1]at g;cases g;rw[m]at h;cases h;exact .same _)
 |i+1=>simp only[D0L]at h1 g;rw[h1]at g;cases g;exact .same _
theorem A8u{P:Program}{f n sz:Nat}{es:List (List D)}{ob:Option Nat}{ds g:List D}{H:Heap}{Q:D→Heap→Prop}(hn:n=es.length)(ho:OutAt H sz es ob)(h:ACalls P f (.agg (.sl sz es::ds)::g) (roH H) (fun d _=>B2n d=true∧Q d H)):
  ACalls P f (.agg (J1 sz n ob::ds)::g) H Q:=by
 refine A3j (args':=.agg (.sl sz es::ds)::g) rfl (fun i d d' h1 e=>?_) h
 match i with
 |0=>cases h1;cases e;exact B4k hn ho
 |i+1=>simp only[D0L]at h1 e;rw[h1]at e;cases e;exact .same _
end Go.Av
namespace Go.Fo
open Go Go.Av Go.Lexs Go.Lin
@[go_sem] theorem d9(o n:Int)(l:LinV)(s:ByteArray)(ks:List Fm):C0 (.mk o n l s ks)= [.int .i64 o,.int .i64 n,.sl 2 (Rw Q7 l.t),.int .i64 l.k,.bool l.e,.str s,.sl 7 (Rw C0 ks)]:=N3 _
@[go_sem] theorem B83(f:Fm):(C0 f).length=7:=by rw[N3];rfl
@[go_sem] theorem C6J(f:Fm):(C0 f).take 7=C0 f:=by rw[N3];rfl
theorem B84(f:Fm):(C0 f).all D.one=true:=by rw[N3];rfl
attribute [go_sem] B84
@[go_sem] theorem C9J(f:Fm):(C0 f).head?=some (.int .i64 f.op):=by rw[N3];rfl
@[go_sem] theorem C9K(f:Fm):((C0 f).drop 1).head?=some (.int .i64 f.n):=by rw[N3];rfl
@[go_sem] theorem C9L(f:Fm):((C0 f).drop 2).head?=some (.sl 2 (Rw Q7 f.l.t)):=by rw[N3];rfl
@[go_sem] theorem C9M(f:Fm):((C0 f).drop 3).head?=some (.int .i64 f.l.k):=by rw[N3];rfl
@[go_sem] theorem C9N(f:Fm):((C0 f).drop 4).head?=some (.bool f.l.e):=by rw[N3];rfl
@[go_sem] theorem C9O(f:Fm):((C0 f).drop 5).head?=some (.str f.s):=by rw[N3];rfl
@[go_sem] theorem C9P(f:Fm):((C0 f).drop 6).head?=some (.sl 7 (Rw C0 f.ks)):=by rw[N3];rfl
@[go_sem] theorem C9Q(f:Fm):((C0 f).drop 2).take 3=E4 f.l:=by rw[N3];rfl
@[go_sem] theorem B85(a b c d e f g:D)(t:Fm):O7 [a,b,c,d,e,f,g] 0 (C0 t)=C0 t:=by rw[N3];rfl
theorem B1a{g h j m o p q r u:D}(x:NilR j m)(y:NilR r u):NilR (.agg [g,h,j,o,p,q,r]) (.agg [g,h,m,o,p,q,u]):=by
 refine .agg _ _ rfl fun i d d' h1 e=>?_
 match i with
 |0=>cases h1;cases e;exact .same _
 |1=>cases h1;cases e;exact .same _
 |2=>cases h1;cases e;exact x
 |3=>cases h1;cases e;exact .same _
 |4=>cases h1;cases e;exact .same _
 |5=>cases h1;cases e;exact .same _
 |6=>cases h1;cases e;exact y
 |i+7=>cases h1
theorem C2m{x y z:D}(h:NilR x y):NilR (.tuple [x,z]) (.tuple [y,z]):=by
 refine .tuple _ _ rfl fun i d d' h1 e=>?_
 match i with
 |0=>cases h1;cases e;exact h
 |1=>cases h1;cases e;exact .same _
 |i+2=>cases h1
theorem A4F(o n k:Int)(e:Bool)(s:ByteArray):NilR (.agg [.int .i64 o,.int .i64 n,.nilsl,.int .i64 k,.bool e,.str s,.nilsl]) (.agg (C0 (.mk o n ⟨[],k,e⟩ s []))):=by
 rw[d9];exact B1a (.nil 2) (.nil 7)
theorem B1b(o n k:Int)(e:Bool)(s:ByteArray)(ks:List Fm):NilR (.agg [.int .i64 o,.int .i64 n,.nilsl,.int .i64 k,.bool e,.str s,.sl 7 (Rw C0 ks)]) (.agg (C0 (.mk o n ⟨[],k,e⟩ s ks))):=by
 rw[d9];exact B1a (.nil 2) (.same _)
theorem C2n(o n:Int)(l:LinV)(s:ByteArray):NilR (.agg [.int .i64 o,.int .i64 n,.sl 2 (Rw Q7 l.t),.int .i64 l.k,.bool l.e,.str s,.nilsl]) (.agg (C0 (.mk o n l s []))):=by
 rw[d9];exact B1a (.same _) (.nil 7)
theorem fz7{b sz:Nat}{es:List (List D)}{g h j m o p q r u:D}(x:Fz b sz es j m)(y:Fz b sz es r u): ∀(i:Nat) d d',[g,h,j,o,p,q,r][i]? =some d→[g,h,m,o,p,q,u][i]? =some d'→Fz b sz es d d':=by
 intro i d d' h1 e
 match i with
 |0=>cases h1;cases e;exact .same _
 |1=>cases h1;cases e;exact .same _
 |2=>cases h1;cases e;exact x
 |3=>cases h1;cases e;exact .same _
 |4=>cases h1;cases e;exact .same _
 |5=>cases h1;cases e;exact .same _
 |6=>cases h1;cases e;exact y
 |i+7=>cases h1
theorem A8U{Q:D→Heap→Prop}{H:Heap}{n:Nat}{ob:Option Nat}{o m k:Int}{e:Bool}{s:ByteArray}{ks:List Fm}(hn:n=ks.length)(ho:OutAt H 7 (Rw C0 ks) ob)(h:Fin Q (.agg (C0 (.mk o m ⟨[],k,e⟩ s ks))) (K7 H ob)):
  Fin Q (.agg [.int .i64 o,.int .i64 m,.nilsl,.int .i64 k,.bool e,.str s,J1 7 n ob]) H:=by
 rw[d9]at h;cases ob with
 |none=>
  have d:Rw C0 ks= []:=ho;refine E3 ?_ h;rw[d];exact B1a (.nil 2) (.nil 7)
 |some b=>
  have hb:H b=some (.vec 7 (Rw C0 ks)):=ho;subst hn;refine T6 (cs':=[.int .i64 o,.int .i64 m,.sl 2 [],.int .i64 k,.bool e,.str s,.sl 7 (Rw C0 ks)]) hb rfl (fz7 (.nil 2) ?_) h;show Fz b 7 (Rw C0 ks) (.vec b 7 0 ks.length) _;have:=Fz.all (b:=b) (sz:=7) (es:=Rw C0 ks);rwa [D6]at this
theorem B86{H:Heap}{n:Nat}{ob:Option Nat}{o m k:Int}{e:Bool}{s:ByteArray}{ks:List Fm}(hn:n=ks.length)(ho:OutAt H 7 (Rw C0 ks) ob):
  View H (.agg [.int .i64 o,.int .i64 m,.nilsl,.int .i64 k,.bool e,.str s,J1 7 n ob]) (.agg (C0 (.mk o m ⟨[],k,e⟩ s ks))):=by
 rw[d9];refine .agg _ _ rfl fun i d d' h1 g=>?_
 match i with
 |0=>cases h1;cases g;exact .same _
 |1=>cases h1;cases g;exact .same _
 |2=>cases h1;cases g;exact .nil 2
 |3=>cases h1;cases g;exact .same _
 |4=>cases h1;cases g;exact .same _
 |5=>cases h1;cases g;exact .same _
 |6=>
  cases h1;cases g;cases ob with
  |none=>rw[show Rw C0 ks= []from ho];exact .nil 7
  |some b=>exact .vec b 7 n _ _ ho (by rw[D6];exact hn) rfl (fun i e e' h1 g=>by rw[h1]at g;cases g;rfl) (fun i e e' j d d' h1 g p h=>by rw[h1]at g;cases g;rw[p]at h;cases h;exact .same _)
 |i+7=>cases h1
end Go.Fo
namespace Go.Proofs.YtibphjonmikciaaGreatDoor
section
open Go Go.Shelf Go.RowKit
set_option maxHeartbeats 4000000 in
set_option maxRecDepth 100000 in
theorem B87(n:Nat)(hn:0<n)(hb:n*96≤140737488355328)(w:World):
  Calls Tryz.prog 190 #[.slice none 0 0,.int .i64 n] w fun e w'=>∃(cs:Array Value) (G:Nat),e= .returned (.slice (some ⟨w.heap.size,0,none⟩) 0 G)∧w'=w.drew.alloc (.cells cs 28)∧cs.size=G*7∧n≤G:=by
 obtain⟨i,m,y,hs,o⟩: ∃i,Tryz.prog.info? 28=some i∧i.zero=some (Value.agg #[.int .i64 0,.int .i64 0,.slice none 0 0,.int .i64 0,.bool false,.string ⟨#[]⟩,.slice none 0 0])∧i.size=7∧i.bytes=96:=by
  have h:(Tryz.prog.info? 28).map (fun i=>(i.zero,i.size,i.bytes))=some (some (Value.agg #[.int .i64 0,.int .i64 0,.slice none 0 0,.int .i64 0,.bool false,.string ⟨#[]⟩,.slice none 0 0]),7,96):=by kernel_rfl
  obtain⟨i,m,e⟩:=C9y.1 h;simp only[Prod.mk.injEq]at e;exact⟨i,m,e.1,e.2.1,e.2.2⟩
 have p:Tryz.prog.follows .mixedOrders=true:=by kernel_rfl
 have r:=Tryz.underlying26;have a1:=Tryz.isAgg26;have C:=Tryz.sizeOf26;have v1:=Tryz.zeroValue26;have I:=run_underlying r;have u:=Tryz.underlying3;have a3:=Tryz.isAgg3;have J:=Tryz.sizeOf3;have v3:=Tryz.zeroValue3;have L:=run_underlying u;have z:=Tryz.underlying4;have M:=Tryz.isAgg4;have O:=Tryz.sizeOf4;have v4:=Tryz.zeroValue4;have T:=run_underlying z;have A:=Tryz.underlying28;have U:=Tryz.isAgg28;have V:=Tryz.sizeOf28;have W:=Tryz.zeroValue28;have X:=run_underlying A;have h1: ¬((n:Int)<0):=by omega
 have Y:RowKit.wrap64 ((n:Int)-0)=(n:Int):=by unfold RowKit.wrap64;omega
 have h4:(n:Int) > 0:=by omega
 have d:=Lib.run_append_nil_zeros w 26 3 26 28 i _ .i64 .i64 r u m y n hn (by omega) (by omega) (by rw[o];omega);obtain⟨G,q⟩: ∃G,G=grownCap w n 0 28:=⟨_,rfl⟩
 have j:n≤grownCap w n 0 28:=grownCap_ge w _ _ _;have x:G≤9223372036854775807:=by
  have:=grownCap_le_maxLen w n 0 28 (by unfold maxLen;omega);rw[←q]at this;unfold maxLen at this;omega
 rw[←q]at d j;obtain⟨cs,g⟩: ∃cs,cs=Builtin.zeroCells (Value.agg #[.int .i64 0,.int .i64 0,.slice none 0 0,.int .i64 0,.bool false,.string ⟨#[]⟩,.slice none 0 0]).cells n++Builtin.zeroCells (Value.agg #[.int .i64 0,.int .i64 0,.slice none 0 0,.int .i64 0,.bool false,.string ⟨#[]⟩,.slice none 0 0]).cells (G-n):=⟨_,rfl⟩
 have hsz:cs.size=G*7:=by
  rw[g,Array.size_append,size_zeroCells,size_zeroCells];show n*7+(G-n)*7=G*7;omega
 rw[←g]at d;clear q g
 go_enter Tryz.func190,Tryz.ntmps190
 go_wp2_with (at_builtin;refine Lib.wpList_append_run _ rfl _ _ _ _ rfl _ _ rfl rfl _ _ d ?_)
 all_goals (go_ret;exact⟨cs,G,rfl,rfl,by first|exact hsz|simpa using hsz,j⟩)
end
section
open Go Go.Av Go.Lin Go.Fo
theorem B6D{Q}(H:Heap)(d:Q .nilsl H):D7 190 [.nilsl,.int .i64 0] H Q:=by
 refine A8 [] A5 Tryz.func190 rfl ?_;simp only[go_sem,seval,Tryz.results190];repeat' (first|with_reducible apply C9p|simp only[go_sem,seval]|simp(disch:=omega) only[A4,D0])
 all_goals exact D1K d
theorem B2o{Q}(n:Nat)(hb:n*96≤140737488355328)(H:Heap)(o:n=0→Q .nilsl H)(h:n≠0→∀b,H b=none→Q (.vec b 7 0 0) (H.set b (.vec 7 []))):D7 190 [.nilsl,.int .i64 n] H Q:=by
 by_cases hn:n=0
 ·subst hn;exact B6D H (o rfl)
 ·refine⟨by kernel_rfl,fun w vs hl hr hs=>?_⟩;obtain⟨a,b,rfl,p,g⟩:=x9 hl hr;have q:a= .slice none 0 0:=by cases p;rfl
  rw[q,g.int_inv];refine(B87 n (by omega) hb w).mono ?_;rintro e w' ⟨cs,G,rfl,rfl,hsz,r⟩;have m:=hs.same (w':=w.drew) rfl (Ext.drewN H w 1);obtain⟨d,H',u,x,y,z,A⟩:=s8 (w:=w.drew) (K:=Q) m (sz:=7) (es:=[]) (vs:=cs) 28 0 G (by omega) ⟨by simp,fun i e he=>by simp at he,fun i e j d he=>by simp at he,fun i e j d he=>by simp at he⟩ (D0A _) hsz (fun b hb=>h hn b hb);exact⟨_,rfl,d,H',u,x,(Ext.drewN H w 1).trans (D1M _ _) y,z,A⟩
theorem A7H{Q}(l m:List Fm)(hb:(l.length+m.length)*96≤140737488355328)(H:Heap)(h:Q (.sl 7 (Rw C0 (l++m))) H):D7 153 [.sl 1 [[.sl 7 (Rw C0 l)],[.sl 7 (Rw C0 m)]]] H Q:=by
 refine A8 [] A5 Tryz.func153 rfl ?_;simp only[go_sem,seval,Tryz.results153];refine C9 [0,9,10] (fun(p:Nat×Int)=>[(11,.int .i64 p.1),(3,.int .i64 p.2)]) (fun(p:Nat×Int)=>H) (fun(p:Nat×Int)=>p.1≤2∧(p.1=0→p.2=0)∧(p.1=1→p.2=l.length)∧(p.1=2→p.2=(l.length:Int)+m.length)) (fun(p:Nat×Int)=>2-p.1) ((0,0)) (⟨by simp,by simp,by simp,by simp⟩) (by(try simp only[go_sem,seval])<;>(try simp(disch:=omega) [A4])) (by first|exact D1G _|exact A0 (by assumption)|exact B2 (by assumption)|simp only[Heap.Le,Heap.set,Heap.del]at* <;>grind) ?_;rintro y rfl ⟨k,z⟩ ⟨o,g,i,j⟩;simp only at o g i j
 match k,o,g,i,j with
 |0,o,g,i,j=>
  have q:=g rfl;subst q;repeat' (first|with_reducible apply C9p|simp only[go_sem,seval,D0O]|simp(disch:=omega) only[A4,D0]|intro d|omega)
  exact C2 (1,(l.length:Int)) ⟨by simp,by simp,by simp,by simp⟩ (by simp) (by(try simp only[go_sem,seval])<;>(try simp(disch:=omega) [A4])) (D1G _)
 |1,o,g,i,j=>
  have q:=i rfl;subst q;repeat' (first|with_reducible apply C9p|simp only[go_sem,seval,D0O,D0P]|simp(disch:=omega) only[A4,D0]|intro d|omega)
  exact C2 (2,(l.length:Int)+m.length) ⟨by simp,by simp,by simp,by simp⟩ (by simp) (by(try simp only[go_sem,seval])<;>(try simp(disch:=omega) [A4])) (D1G _)
 |2,o,g,i,j=>
  have q:=j rfl;subst q;have A:(l.length:Int)+m.length=((l.length+m.length:Nat):Int):=by omega
  by_cases r:l.length+m.length=0
  ·have el:l= []:=D0D (by omega);have C:m= []:=D0D (by omega);subst el;subst C;repeat' (first|with_reducible apply C9p|simp only[go_sem,seval,A]|intro d|omega)
   refine B2o 0 (by omega) H (fun _=>?_) (fun e=>absurd rfl e);repeat' simp only[go_sem,seval]
   refine C9 [25,26] (fun(k:Nat)=>[(27,.int .i64 k),(6,.nilsl)]) (fun(k:Nat)=>H) (fun(k:Nat)=>k≤2) (fun(k:Nat)=>2-k) (0) (by omega) (by(try simp only[go_sem,seval])<;>(try simp(disch:=omega) [A4])) (by first|exact D1G _|exact A0 (by assumption)|exact B2 (by assumption)|simp only[Heap.Le,Heap.set,Heap.del]at* <;>grind) ?_;rintro y rfl k hk
   match k,hk with
   |0,_=>
    repeat' (first|with_reducible apply C9p|simp only[go_sem,seval,D0O,A0X]|simp(disch:=omega) only[A4,D0]|intro d|omega)
    exact C2 1 (by omega) (by omega) (by(try simp only[go_sem,seval])<;>(try simp(disch:=omega) [A4])) (D1G _)
   |1,_=>
    repeat' (first|with_reducible apply C9p|simp only[go_sem,seval,D0O,D0P,A0X]|simp(disch:=omega) only[A4,D0]|intro d|omega)
    exact C2 2 (by omega) (by omega) (by(try simp only[go_sem,seval])<;>(try simp(disch:=omega) [A4])) (D1G _)
   |2,_=>
    repeat' (first|with_reducible apply C9p|simp only[go_sem,seval]|intro d|omega)
    exact Fin.out (n:=0) (ob:=none) rfl rfl (D1H (D1G _) h)
   |k+3,hk=>omega
  repeat' (first|with_reducible apply C9p|simp only[go_sem,seval,A]|intro d|omega)
  refine B2o _ hb H (fun e=>absurd e r) fun _ b u=>?_;repeat' simp only[go_sem,seval]
  refine C9 [25,26] (fun(p:Nat×Nat×List Fm)=>[(27,.int .i64 p.1),(6,.vec p.2.1 7 0 p.2.2.length)]) (fun(p:Nat×Nat×List Fm)=>H.set p.2.1 (.vec 7 (Rw C0 p.2.2))) (fun(p:Nat×Nat×List Fm)=>p.1≤2∧H p.2.1=none∧(p.1=0→p.2.2= [])∧(p.1=1→p.2.2=l)∧(p.1=2→p.2.2=l++m)) (fun(p:Nat×Nat×List Fm)=>2-p.1) ((0,b,[])) (⟨by simp,u,by simp,by simp,by simp⟩) (by(try simp only[go_sem,seval])<;>(try simp(disch:=omega) [A4])) (by first|exact D1G _|exact A0 (by assumption)|exact B2 (by assumption)|simp only[Heap.Le,Heap.set,Heap.del]at* <;>grind) ?_;rintro y rfl ⟨k,c,X⟩ ⟨o,hc,g,i,j⟩;simp only at o hc g i j
  match k,o,g,i,j with
  |0,o,g,i,j=>
   have q:=g rfl;subst q;repeat' (first|with_reducible apply C9p|simp only[go_sem,seval,D0O,E9 hc]|simp(disch:=omega) only[A4,D0]|intro d|omega)
   rename_i x;exact C2 (1,x,l) ⟨by simp,d,by simp,by simp,by simp⟩ (by simp) (by(try simp only[go_sem,seval])<;>(try simp(disch:=omega) [A4])) (D1G _)
  |1,o,g,i,j=>
   have q:=(i rfl).symm;subst q;repeat' (first|with_reducible apply C9p|simp only[go_sem,seval,D0O,D0P,E9 hc]|simp(disch:=omega) only[A4,D0]|intro d|omega)
   rename_i x;exact C2 (2,x,l++m) ⟨by simp,d,by simp,by simp,by simp⟩ (by simp) (by(try simp only[go_sem,seval,C9v])<;>(try simp(disch:=omega) [A4])) (by simp only[];rw[←O2,C94 (by rw[D6];exact C99 _)];exact D1G _)
  |2,o,g,i,j=>
   have q:=j rfl;subst q;repeat' (first|with_reducible apply C9p|simp only[go_sem,seval]|intro d|omega)
   exact Fin.out (ob:=some c) (by rw[D6,C9v]) (A2 _ _) (D1H (by show H.Le ((H.set c _).del c);rw[E9 hc];exact D1G _) h)
end
end Go.Proofs.YtibphjonmikciaaGreatDoor
namespace Go.Fo
open Go Go.Av Go.Lin
@[go_sem] theorem C9R(o n:Int)(l:LinV)(s:ByteArray)(ks:List Fm):(Fm.mk o n l s ks).op=o:=rfl
@[go_sem] theorem C9e(o n:Int)(l:LinV)(s:ByteArray)(ks:List Fm):(Fm.mk o n l s ks).n=n:=rfl
@[go_sem] theorem C9f(o n:Int)(l:LinV)(s:ByteArray)(ks:List Fm):(Fm.mk o n l s ks).l=l:=rfl
@[go_sem] theorem C9g(o n:Int)(l:LinV)(s:ByteArray)(ks:List Fm):(Fm.mk o n l s ks).s=s:=rfl
@[go_sem] theorem C9S(o n:Int)(l:LinV)(s:ByteArray)(ks:List Fm):(Fm.mk o n l s ks).ks=ks:=rfl
end Go.Fo
namespace Go.Proofs.YtibphjonmikciaaGreatDoor
section
open Go Go.Shelf Go.RowKit
set_option maxHeartbeats 4000000 in
set_option maxRecDepth 100000 in
theorem B88(n:Nat)(hn:0<n)(hb:n*64≤140737488355328)(w:World):
  Calls Tryz.prog 282 #[.slice none 0 0,.int .i64 n] w fun e w'=>∃(cs:Array Value) (G:Nat),e= .returned (.slice (some ⟨w.heap.size,0,none⟩) 0 G)∧w'=w.drew.alloc (.cells cs 246)∧cs.size=G*4∧n≤G:=by
 obtain⟨i,m,y,hs,o⟩: ∃i,Tryz.prog.info? 246=some i∧i.zero=some (Value.agg #[.slice none 0 0,.bool false,.slice none 0 0,.bool false])∧i.size=4∧i.bytes=64:=by
  have h:(Tryz.prog.info? 246).map (fun i=>(i.zero,i.size,i.bytes))=some (some (Value.agg #[.slice none 0 0,.bool false,.slice none 0 0,.bool false]),4,64):=by kernel_rfl
  obtain⟨i,m,e⟩:=C9y.1 h;simp only[Prod.mk.injEq]at e;exact⟨i,m,e.1,e.2.1,e.2.2⟩
 have p:Tryz.prog.follows .mixedOrders=true:=by kernel_rfl
 have r:=Tryz.underlying216;have a1:=Tryz.isAgg216;have C:=Tryz.sizeOf216;have v1:=Tryz.zeroValue216;have I:=run_underlying r;have u:=Tryz.underlying3;have a3:=Tryz.isAgg3;have J:=Tryz.sizeOf3;have v3:=Tryz.zeroValue3;have L:=run_underlying u;have z:=Tryz.underlying4;have M:=Tryz.isAgg4;have O:=Tryz.sizeOf4;have v4:=Tryz.zeroValue4;have T:=run_underlying z;have A:=Tryz.underlying246;have U:=Tryz.isAgg246;have V:=Tryz.sizeOf246;have W:=Tryz.zeroValue246;have X:=run_underlying A;have h1: ¬((n:Int)<0):=by omega
 have Y:RowKit.wrap64 ((n:Int)-0)=(n:Int):=by unfold RowKit.wrap64;omega
 have h4:(n:Int) > 0:=by omega
 have d:=Lib.run_append_nil_zeros w 216 3 216 246 i _ .i64 .i64 r u m y n hn (by omega) (by omega) (by rw[o];omega);obtain⟨G,q⟩: ∃G,G=grownCap w n 0 246:=⟨_,rfl⟩
 have j:n≤grownCap w n 0 246:=grownCap_ge w _ _ _;have x:G≤9223372036854775807:=by
  have:=grownCap_le_maxLen w n 0 246 (by unfold maxLen;omega);rw[←q]at this;unfold maxLen at this;omega
 rw[←q]at d j;obtain⟨cs,g⟩: ∃cs,cs=Builtin.zeroCells (Value.agg #[.slice none 0 0,.bool false,.slice none 0 0,.bool false]).cells n++Builtin.zeroCells (Value.agg #[.slice none 0 0,.bool false,.slice none 0 0,.bool false]).cells (G-n):=⟨_,rfl⟩
 have hsz:cs.size=G*4:=by
  rw[g,Array.size_append,size_zeroCells,size_zeroCells];show n*4+(G-n)*4=G*4;omega
 rw[←g]at d;clear q g
 go_enter Tryz.func282,Tryz.ntmps282
 go_wp2_with (at_builtin;refine Lib.wpList_append_run _ rfl _ _ _ _ rfl _ _ rfl rfl _ _ d ?_)
 all_goals (go_ret;exact⟨cs,G,rfl,rfl,by first|exact hsz|simpa using hsz,j⟩)
end
section
open Go Go.Av Go.Lin
theorem B6E{Q}(H:Heap)(d:Q .nilsl H):D7 282 [.nilsl,.int .i64 0] H Q:=by
 refine A8 [] A5 Tryz.func282 rfl ?_;simp only[go_sem,seval,Tryz.results282];repeat' (first|with_reducible apply C9p|simp only[go_sem,seval]|simp(disch:=omega) only[A4])
 all_goals exact D1K d
theorem B2p{Q}(n:Nat)(hb:n*64≤140737488355328)(H:Heap)(o:n=0→Q .nilsl H)(h:n≠0→∀b,H b=none→Q (.vec b 4 0 0) (H.set b (.vec 4 []))):D7 282 [.nilsl,.int .i64 n] H Q:=by
 by_cases hn:n=0
 ·subst hn;exact B6E H (o rfl)
 ·refine⟨by kernel_rfl,fun w vs hl hr hs=>?_⟩;obtain⟨a,b,rfl,p,g⟩:=x9 hl hr;have q:a= .slice none 0 0:=by cases p;rfl
  rw[q,g.int_inv];refine(B88 n (by omega) hb w).mono ?_;rintro e w' ⟨cs,G,rfl,rfl,hsz,r⟩;have m:=hs.same (w':=w.drew) rfl (Ext.drewN H w 1);obtain⟨d,H',u,x,y,z,A⟩:=s8 (w:=w.drew) (K:=Q) m (sz:=4) (es:=[]) (vs:=cs) 246 0 G (by omega) ⟨by simp,fun i e he=>by simp at he,fun i e j d he=>by simp at he,fun i e j d he=>by simp at he⟩ (D0A _) hsz (fun b hb=>h hn b hb);exact⟨_,rfl,d,H',u,x,(Ext.drewN H w 1).trans (D1M _ _) y,z,A⟩
theorem A7I{Q}(l m:List Row)(hb:(l.length+m.length)*64≤140737488355328)(H:Heap)(h:Q (.sl 4 (Rw C4 (l++m))) H):D7 251 [.sl 1 [[.sl 4 (Rw C4 l)],[.sl 4 (Rw C4 m)]]] H Q:=by
 refine A8 [] A5 Tryz.func251 rfl ?_;simp only[go_sem,seval,Tryz.results251];refine C9 [0,9,10] (fun(p:Nat×Int)=>[(11,.int .i64 p.1),(3,.int .i64 p.2)]) (fun(p:Nat×Int)=>H) (fun(p:Nat×Int)=>p.1≤2∧(p.1=0→p.2=0)∧(p.1=1→p.2=l.length)∧(p.1=2→p.2=(l.length:Int)+m.length)) (fun(p:Nat×Int)=>2-p.1) ((0,0)) (⟨by simp,by simp,by simp,by simp⟩) (by(try simp only[go_sem,seval])<;>(try simp(disch:=omega) [A4])) (by first|exact D1G _|exact A0 (by assumption)|exact B2 (by assumption)|simp only[Heap.Le,Heap.set,Heap.del]at* <;>grind) ?_;rintro y rfl ⟨k,z⟩ ⟨o,g,i,j⟩;simp only at o g i j
 match k,o,g,i,j with
 |0,o,g,i,j=>
  have q:=g rfl;subst q;repeat' (first|with_reducible apply C9p|simp only[go_sem,seval,D0O]|simp(disch:=omega) only[A4]|intro d|omega)
  exact C2 (1,(l.length:Int)) ⟨by simp,by simp,by simp,by simp⟩ (by simp) (by(try simp only[go_sem,seval])<;>(try simp(disch:=omega) [A4])) (D1G _)
 |1,o,g,i,j=>
  have q:=i rfl;subst q;repeat' (first|with_reducible apply C9p|simp only[go_sem,seval,D0O,D0P]|simp(disch:=omega) only[A4]|intro d|omega)
  exact C2 (2,(l.length:Int)+m.length) ⟨by simp,by simp,by simp,by simp⟩ (by simp) (by(try simp only[go_sem,seval])<;>(try simp(disch:=omega) [A4])) (D1G _)
 |2,o,g,i,j=>
  have q:=j rfl;subst q;have A:(l.length:Int)+m.length=((l.length+m.length:Nat):Int):=by omega
  by_cases r:l.length+m.length=0
  ·have el:l= []:=D0D (by omega);have C:m= []:=D0D (by omega);subst el;subst C;repeat' (first|with_reducible apply C9p|simp only[go_sem,seval,A]|intro d|omega)
   refine B2p 0 (by omega) H (fun _=>?_) (fun e=>absurd rfl e);repeat' simp only[go_sem,seval]
   refine C9 [25,26] (fun(k:Nat)=>[(27,.int .i64 k),(6,.nilsl)]) (fun(k:Nat)=>H) (fun(k:Nat)=>k≤2) (fun(k:Nat)=>2-k) (0) (by omega) (by(try simp only[go_sem,seval])<;>(try simp(disch:=omega) [A4])) (by first|exact D1G _|exact A0 (by assumption)|exact B2 (by assumption)|simp only[Heap.Le,Heap.set,Heap.del]at* <;>grind) ?_;rintro y rfl k hk
   match k,hk with
   |0,_=>
    repeat' (first|with_reducible apply C9p|simp only[go_sem,seval,D0O,A0X]|simp(disch:=omega) only[A4]|intro d|omega)
    exact C2 1 (by omega) (by omega) (by(try simp only[go_sem,seval])<;>(try simp(disch:=omega) [A4])) (D1G _)
   |1,_=>
    repeat' (first|with_reducible apply C9p|simp only[go_sem,seval,D0O,D0P,A0X]|simp(disch:=omega) only[A4]|intro d|omega)
    exact C2 2 (by omega) (by omega) (by(try simp only[go_sem,seval])<;>(try simp(disch:=omega) [A4])) (D1G _)
   |2,_=>
    repeat' (first|with_reducible apply C9p|simp only[go_sem,seval]|intro d|omega)
    exact Fin.out (n:=0) (ob:=none) rfl rfl (D1H (D1G _) h)
   |k+3,hk=>omega
  repeat' (first|with_reducible apply C9p|simp only[go_sem,seval,A]|intro d|omega)
  refine B2p _ hb H (fun e=>absurd e r) fun _ b u=>?_;repeat' simp only[go_sem,seval]
  refine C9 [25,26] (fun(p:Nat×Nat×List Row)=>[(27,.int .i64 p.1),(6,.vec p.2.1 4 0 p.2.2.length)]) (fun(p:Nat×Nat×List Row)=>H.set p.2.1 (.vec 4 (Rw C4 p.2.2))) (fun(p:Nat×Nat×List Row)=>p.1≤2∧H p.2.1=none∧(p.1=0→p.2.2= [])∧(p.1=1→p.2.2=l)∧(p.1=2→p.2.2=l++m)) (fun(p:Nat×Nat×List Row)=>2-p.1) ((0,b,[])) (⟨by simp,u,by simp,by simp,by simp⟩) (by(try simp only[go_sem,seval])<;>(try simp(disch:=omega) [A4])) (by first|exact D1G _|exact A0 (by assumption)|exact B2 (by assumption)|simp only[Heap.Le,Heap.set,Heap.del]at* <;>grind) ?_;rintro y rfl ⟨k,c,X⟩ ⟨o,hc,g,i,j⟩;simp only at o hc g i j
  match k,o,g,i,j with
  |0,o,g,i,j=>
   have q:=g rfl;subst q;repeat' (first|with_reducible apply C9p|simp only[go_sem,seval,D0O,E9 hc]|simp(disch:=omega) only[A4]|intro d|omega)
   rename_i x;exact C2 (1,x,l) ⟨by simp,d,by simp,by simp,by simp⟩ (by simp) (by(try simp only[go_sem,seval])<;>(try simp(disch:=omega) [A4])) (D1G _)
  |1,o,g,i,j=>
   have q:=(i rfl).symm;subst q;repeat' (first|with_reducible apply C9p|simp only[go_sem,seval,D0O,D0P,E9 hc]|simp(disch:=omega) only[A4]|intro d|omega)
   rename_i x;exact C2 (2,x,l++m) ⟨by simp,d,by simp,by simp,by simp⟩ (by simp) (by(try simp only[go_sem,seval,C9v])<;>(try simp(disch:=omega) [A4])) (by simp only[];rw[←O2,C94 (by rw[D6];exact C99 _)];exact D1G _)
  |2,o,g,i,j=>
   have q:=j rfl;subst q;repeat' (first|with_reducible apply C9p|simp only[go_sem,seval]|intro d|omega)
   exact Fin.out (ob:=some c) (by rw[D6,C9v]) (A2 _ _) (D1H (by show H.Le ((H.set c _).del c);rw[E9 hc];exact D1G _) h)
end
section
open Go Go.Shelf Go.RowKit
set_option maxHeartbeats 4000000 in
set_option maxRecDepth 100000 in
theorem B89(n:Nat)(hn:0<n)(hb:n*40≤140737488355328)(w:World):
  Calls Tryz.prog 189 #[.slice none 0 0,.int .i64 n] w fun e w'=>∃(cs:Array Value) (G:Nat),e= .returned (.slice (some ⟨w.heap.size,0,none⟩) 0 G)∧w'=w.drew.alloc (.cells cs 25)∧cs.size=G*3∧n≤G:=by
 obtain⟨i,m,y,hs,o⟩: ∃i,Tryz.prog.info? 25=some i∧i.zero=some (Value.agg #[.slice none 0 0,.int .i64 0,.bool false])∧i.size=3∧i.bytes=40:=by
  have h:(Tryz.prog.info? 25).map (fun i=>(i.zero,i.size,i.bytes))=some (some (Value.agg #[.slice none 0 0,.int .i64 0,.bool false]),3,40):=by kernel_rfl
  obtain⟨i,m,e⟩:=C9y.1 h;simp only[Prod.mk.injEq]at e;exact⟨i,m,e.1,e.2.1,e.2.2⟩
 have p:Tryz.prog.follows .mixedOrders=true:=by kernel_rfl
 have r:=Tryz.underlying110;have a1:=Tryz.isAgg110;have C:=Tryz.sizeOf110;have v1:=Tryz.zeroValue110;have I:=run_underlying r;have u:=Tryz.underlying3;have a3:=Tryz.isAgg3;have J:=Tryz.sizeOf3;have v3:=Tryz.zeroValue3;have L:=run_underlying u;have z:=Tryz.underlying4;have M:=Tryz.isAgg4;have O:=Tryz.sizeOf4;have v4:=Tryz.zeroValue4;have T:=run_underlying z;have A:=Tryz.underlying25;have U:=Tryz.isAgg25;have V:=Tryz.sizeOf25;have W:=Tryz.zeroValue25;have X:=run_underlying A;have h1: ¬((n:Int)<0):=by omega
 have Y:RowKit.wrap64 ((n:Int)-0)=(n:Int):=by unfold RowKit.wrap64;omega
 have h4:(n:Int) > 0:=by omega
 have d:=Lib.run_append_nil_zeros w 110 3 110 25 i _ .i64 .i64 r u m y n hn (by omega) (by omega) (by rw[o];omega);obtain⟨G,q⟩: ∃G,G=grownCap w n 0 25:=⟨_,rfl⟩
 have j:n≤grownCap w n 0 25:=grownCap_ge w _ _ _;have x:G≤9223372036854775807:=by
  have:=grownCap_le_maxLen w n 0 25 (by unfold maxLen;omega);rw[←q]at this;unfold maxLen at this;omega
 rw[←q]at d j;obtain⟨cs,g⟩: ∃cs,cs=Builtin.zeroCells (Value.agg #[.slice none 0 0,.int .i64 0,.bool false]).cells n++Builtin.zeroCells (Value.agg #[.slice none 0 0,.int .i64 0,.bool false]).cells (G-n):=⟨_,rfl⟩
 have hsz:cs.size=G*3:=by
  rw[g,Array.size_append,size_zeroCells,size_zeroCells];show n*3+(G-n)*3=G*3;omega
 rw[←g]at d;clear q g
 go_enter Tryz.func189,Tryz.ntmps189
 go_wp2_with (at_builtin;refine Lib.wpList_append_run _ rfl _ _ _ _ rfl _ _ rfl rfl _ _ d ?_)
 all_goals (go_ret;exact⟨cs,G,rfl,rfl,by first|exact hsz|simpa using hsz,j⟩)
end
section
open Go Go.Av Go.Lin
theorem B6F{Q}(H:Heap)(d:Q .nilsl H):D7 189 [.nilsl,.int .i64 0] H Q:=by
 refine A8 [] A5 Tryz.func189 rfl ?_;simp only[go_sem,seval,Tryz.results189];repeat' (first|with_reducible apply C9p|simp only[go_sem,seval]|simp(disch:=omega) only[A4])
 all_goals exact D1K d
theorem B2q{Q}(n:Nat)(hb:n*40≤140737488355328)(H:Heap)(o:n=0→Q .nilsl H)(h:n≠0→∀b,H b=none→Q (.vec b 3 0 0) (H.set b (.vec 3 []))):D7 189 [.nilsl,.int .i64 n] H Q:=by
 by_cases hn:n=0
 ·subst hn;exact B6F H (o rfl)
 ·refine⟨by kernel_rfl,fun w vs hl hr hs=>?_⟩;obtain⟨a,b,rfl,p,g⟩:=x9 hl hr;have q:a= .slice none 0 0:=by cases p;rfl
  rw[q,g.int_inv];refine(B89 n (by omega) hb w).mono ?_;rintro e w' ⟨cs,G,rfl,rfl,hsz,r⟩;have m:=hs.same (w':=w.drew) rfl (Ext.drewN H w 1);obtain⟨d,H',u,x,y,z,A⟩:=s8 (w:=w.drew) (K:=Q) m (sz:=3) (es:=[]) (vs:=cs) 25 0 G (by omega) ⟨by simp,fun i e he=>by simp at he,fun i e j d he=>by simp at he,fun i e j d he=>by simp at he⟩ (D0A _) hsz (fun b hb=>h hn b hb);exact⟨_,rfl,d,H',u,x,(Ext.drewN H w 1).trans (D1M _ _) y,z,A⟩
theorem A7J{Q}(l m:List LinV)(hb:(l.length+m.length)*40≤140737488355328)(H:Heap)(h:Q (.sl 3 (Rw E4 (l++m))) H):D7 152 [.sl 1 [[.sl 3 (Rw E4 l)],[.sl 3 (Rw E4 m)]]] H Q:=by
 refine A8 [] A5 Tryz.func152 rfl ?_;simp only[go_sem,seval,Tryz.results152];refine C9 [0,9,10] (fun(p:Nat×Int)=>[(11,.int .i64 p.1),(3,.int .i64 p.2)]) (fun(p:Nat×Int)=>H) (fun(p:Nat×Int)=>p.1≤2∧(p.1=0→p.2=0)∧(p.1=1→p.2=l.length)∧(p.1=2→p.2=(l.length:Int)+m.length)) (fun(p:Nat×Int)=>2-p.1) ((0,0)) (⟨by simp,by simp,by simp,by simp⟩) (by(try simp only[go_sem,seval])<;>(try simp(disch:=omega) [A4])) (by first|exact D1G _|exact A0 (by assumption)|exact B2 (by assumption)|simp only[Heap.Le,Heap.set,Heap.del]at* <;>grind) ?_;rintro y rfl ⟨k,z⟩ ⟨o,g,i,j⟩;simp only at o g i j
 match k,o,g,i,j with
 |0,o,g,i,j=>
  have q:=g rfl;subst q;repeat' (first|with_reducible apply C9p|simp only[go_sem,seval,D0O]|simp(disch:=omega) only[A4]|intro d|omega)
  exact C2 (1,(l.length:Int)) ⟨by simp,by simp,by simp,by simp⟩ (by simp) (by(try simp only[go_sem,seval])<;>(try simp(disch:=omega) [A4])) (D1G _)
 |1,o,g,i,j=>
  have q:=i rfl;subst q;repeat' (first|with_reducible apply C9p|simp only[go_sem,seval,D0O,D0P]|simp(disch:=omega) only[A4]|intro d|omega)
  exact C2 (2,(l.length:Int)+m.length) ⟨by simp,by simp,by simp,by simp⟩ (by simp) (by(try simp only[go_sem,seval])<;>(try simp(disch:=omega) [A4])) (D1G _)
 |2,o,g,i,j=>
  have q:=j rfl;subst q;have A:(l.length:Int)+m.length=((l.length+m.length:Nat):Int):=by omega
  by_cases r:l.length+m.length=0
  ·have el:l= []:=D0D (by omega);have C:m= []:=D0D (by omega);subst el;subst C;repeat' (first|with_reducible apply C9p|simp only[go_sem,seval,A]|intro d|omega)
   refine B2q 0 (by omega) H (fun _=>?_) (fun e=>absurd rfl e);repeat' simp only[go_sem,seval]
   refine C9 [25,26] (fun(k:Nat)=>[(27,.int .i64 k),(6,.nilsl)]) (fun(k:Nat)=>H) (fun(k:Nat)=>k≤2) (fun(k:Nat)=>2-k) (0) (by omega) (by(try simp only[go_sem,seval])<;>(try simp(disch:=omega) [A4])) (by first|exact D1G _|exact A0 (by assumption)|exact B2 (by assumption)|simp only[Heap.Le,Heap.set,Heap.del]at* <;>grind) ?_;rintro y rfl k hk
   match k,hk with
   |0,_=>
    repeat' (first|with_reducible apply C9p|simp only[go_sem,seval,D0O,A0X]|simp(disch:=omega) only[A4]|intro d|omega)
    exact C2 1 (by omega) (by omega) (by(try simp only[go_sem,seval])<;>(try simp(disch:=omega) [A4])) (D1G _)
   |1,_=>
    repeat' (first|with_reducible apply C9p|simp only[go_sem,seval,D0O,D0P,A0X]|simp(disch:=omega) only[A4]|intro d|omega)
    exact C2 2 (by omega) (by omega) (by(try simp only[go_sem,seval])<;>(try simp(disch:=omega) [A4])) (D1G _)
   |2,_=>
    repeat' (first|with_reducible apply C9p|simp only[go_sem,seval]|intro d|omega)
    exact Fin.out (n:=0) (ob:=none) rfl rfl (D1H (D1G _) h)
   |k+3,hk=>omega
  repeat' (first|with_reducible apply C9p|simp only[go_sem,seval,A]|intro d|omega)
  refine B2q _ hb H (fun e=>absurd e r) fun _ b u=>?_;repeat' simp only[go_sem,seval]
  refine C9 [25,26] (fun(p:Nat×Nat×List LinV)=>[(27,.int .i64 p.1),(6,.vec p.2.1 3 0 p.2.2.length)]) (fun(p:Nat×Nat×List LinV)=>H.set p.2.1 (.vec 3 (Rw E4 p.2.2))) (fun(p:Nat×Nat×List LinV)=>p.1≤2∧H p.2.1=none∧(p.1=0→p.2.2= [])∧(p.1=1→p.2.2=l)∧(p.1=2→p.2.2=l++m)) (fun(p:Nat×Nat×List LinV)=>2-p.1) ((0,b,[])) (⟨by simp,u,by simp,by simp,by simp⟩) (by(try simp only[go_sem,seval])<;>(try simp(disch:=omega) [A4])) (by first|exact D1G _|exact A0 (by assumption)|exact B2 (by assumption)|simp only[Heap.Le,Heap.set,Heap.del]at* <;>grind) ?_;rintro y rfl ⟨k,c,X⟩ ⟨o,hc,g,i,j⟩;simp only at o hc g i j
  match k,o,g,i,j with
  |0,o,g,i,j=>
   have q:=g rfl;subst q;repeat' (first|with_reducible apply C9p|simp only[go_sem,seval,D0O,E9 hc]|simp(disch:=omega) only[A4]|intro d|omega)
   rename_i x;exact C2 (1,x,l) ⟨by simp,d,by simp,by simp,by simp⟩ (by simp) (by(try simp only[go_sem,seval])<;>(try simp(disch:=omega) [A4])) (D1G _)
  |1,o,g,i,j=>
   have q:=(i rfl).symm;subst q;repeat' (first|with_reducible apply C9p|simp only[go_sem,seval,D0O,D0P,E9 hc]|simp(disch:=omega) only[A4]|intro d|omega)
   rename_i x;exact C2 (2,x,l++m) ⟨by simp,d,by simp,by simp,by simp⟩ (by simp) (by(try simp only[go_sem,seval,C9v])<;>(try simp(disch:=omega) [A4])) (by simp only[];rw[←O2,C94 (by rw[D6];exact C99 _)];exact D1G _)
  |2,o,g,i,j=>
   have q:=j rfl;subst q;repeat' (first|with_reducible apply C9p|simp only[go_sem,seval]|intro d|omega)
   exact Fin.out (ob:=some c) (by rw[D6,C9v]) (A2 _ _) (D1H (by show H.Le ((H.set c _).del c);rw[E9 hc];exact D1G _) h)
end
section
open Go Go.Shelf Go.RowKit
end
section
open Go Go.Av Go.Lin
end
end Go.Proofs.YtibphjonmikciaaGreatDoor
namespace Go.Av
theorem B0D{P:Program}{c:CR}{bl:Bl}{ev:Operand→D}{H:Heap}{j:D→Heap→Prop}{s x:Operand}{t I:Nat}(e g:Nat){sz n m bx:Nat}{ob:Option Nat}{es xs:List (List D)}
  (J:G3 P t=some (e,sz,g)) (L:0<sz) (h1:apT (C6 P I)) (M:apZ (G1 P e) sz) (hs:ev s=J1 sz n ob) (hx:ev x= .vec bx sz 0 m) (o:H bx=some (.vec sz xs)) (hm:m=xs.length) (O:xs≠[])
  (i:OutAt H sz es ob) (hn:n=es.length) (p:bx∉bl.l) (u:ob≠some bx) (y: ∀c,ob=some c→c∉bl.l)
  (z:(n+xs.length)*g≤140737488355328) (A:n+xs.length≤9223372036854775807)
  (h: ∀b',K7 (H.del bx) ob b'=none→j (.vec b' sz 0 (n+xs.length)) ((K7 (H.del bx) ob).set b' (.vec sz (es++xs)))):pOp P c bl ev H j (.call ⟨.builtin .append,#[s,x],#[t,I]⟩):=by
 refine A9j ?_;rw[J,B5X];refine⟨L,h1,M,?_⟩;have C:M3 H sz (ev x)=some xs:=by
  rw[hx];unfold M3;simp[o,hm]
 have ho:R3 bl.l [bx]= [bx]:=by rw[A9i bx [] p,w9]
 have r:xOk bl H [bx]:=B2X bx _ o rfl (.inl p);rw[C,B5W,hs,hx];show paS _ bl [bx] sz g xs H j;cases ob with
 |none=>
  have T:es= []:=i;subst T;subst hn;simp only[C9w,Nat.zero_add,D01]at z A h;show paS .nilsl bl [bx] sz g xs H j;rw[B8g];refine⟨z,A,by cases xs<;>simp_all,r,fun b hb=>?_⟩;rw[ho,A1E,F4];refine h b ?_;show (H.del bx) b=none;unfold Heap.del;rw[ho]at hb;rcases hb with hb|hb
  ·split<;>simp_all
  ·simp at hb;rw[if_pos hb]
 |some k=>
  have hk:H k=some (.vec sz es):=i;have U:k≠bx:=fun e=>u (by rw[e]);show paS (.vec k sz 0 n) bl [bx] sz g xs H j;rw[B8h,hk,B8f];refine⟨rfl,rfl,rfl,by omega,z,A,.inl (y k rfl),r,fun b' d=>?_⟩;rw[ho,C94 (by omega),A1E,A1E,F4];have G:(H.del k).del bx=(H.del bx).del k:=by funext q;simp only[Heap.del];split<;>split<;>rfl
  rw[G];refine h b' ?_;show ((H.del bx).del k) b'=none;rw[ho]at d;simp only[Heap.del];rcases d with d|d
  ·split
   ·rfl
   ·split
    ·rfl
    ·exact d
  ·simp at d;rcases d with d|d
   ·rw[if_pos d]
   ·split
    ·rfl
    ·first|rfl|rw[if_pos d]
end Go.Av
namespace Go.Fo
open Go Go.Av Go.Lexs Go.Lin
structure AH(sz:Nat)(Cs:Heap)(bx:Nat)(ac:D→List D)(es:List (List D))(n:Nat)(ob:Option Nat)(Hp:Heap):Prop where
 box:Hp bx=some (.box (ac (J1 sz n ob)))
 out:OutAt Hp sz es ob
 keep: ∀q o,q≠bx→Cs q=some o→Hp q=some o
 fresh: ∀b,ob=some b→Cs b=none∧b≠bx
theorem A16{sz:Nat}{Cs:Heap}{bx:Nat}{ac:D→List D}(h:Cs bx=some (.box (ac .nilsl))):AH sz Cs bx ac [] 0 none Cs:=⟨h,rfl,fun _ _ _ h=>h,fun _ e=>by cases e⟩
theorem AH.ne7{sz:Nat}{Cs:Heap}{bx:Nat}{ac:D→List D}{es:List (List D)}{n:Nat}{ob:Option Nat}{Hp:Heap}(h:AH sz Cs bx ac es n ob Hp){b:Nat}(hb:Hp b=none):bx≠b:=fun e=>by rw[←e,h.box]at hb;cases hb
theorem AH.at7{sz:Nat}{Cs:Heap}{bx:Nat}{ac:D→List D}{es:List (List D)}{n:Nat}{ob:Option Nat}{Hp:Heap}(h:AH sz Cs bx ac es n ob Hp){b:Nat}(hb:Hp b=none)(o:Av.Obj):(Hp.set b o) bx=some (.box (ac (J1 sz n ob)))∧(Hp.set b o) b=some o∧OutAt (Hp.set b o) sz es ob∧∀c,ob=some c→c≠b:=by
 refine⟨by rw[A3 _ (h.ne7 hb)];exact h.box,A2 _ _,?_,fun c e g=>?_⟩
 ·cases ob with
  |none=>exact h.out
  |some c=>
   have hc:Hp c=some _:=h.out;have:c≠b:=fun e=>by rw[e,hb]at hc;cases hc
   show (Hp.set b o) c=_;rw[A3 _ this];exact hc
 ·subst e;have hc:Hp c=some _:=h.out;rw[g,hb]at hc;cases hc
theorem AH.step{sz:Nat}{Cs:Heap}{bx:Nat}{ac:D→List D}{es:List (List D)}{n:Nat}{ob:Option Nat}{Hp:Heap}(h:AH sz Cs bx ac es n ob Hp){b d:Nat}(hb:Hp b=none)(o:Av.Obj)(j:K7 (Hp.set b o) ob d=none)(c:List D):
  d≠bx∧((K7 (Hp.set b o) ob).set d (.vec sz (es++[c]))) bx=some (.box (ac (J1 sz n ob)))∧AH sz Cs bx ac (es++[c]) (n+1) (some d) (((K7 (Hp.set b o) ob).set d (.vec sz (es++[c]))).set bx (.box (ac (.vec d sz 0 (n+1))))):=by
 obtain⟨x,z,A,C⟩:=h.at7 hb o;have y:K7 (Hp.set b o) ob bx=some (.box (ac (J1 sz n ob))):=by
  cases ob with
  |none=>exact x
  |some q=>
   have:=(h.fresh q rfl).2;show Heap.del _ q bx=_;rw[F0 this.symm];exact x
 have i:d≠bx:=fun e=>by rw[e,y]at j;cases j
 have hk: ∀q o',q≠bx→Cs q=some o'→K7 (Hp.set b o) ob q=some o':=fun q o' hq m=>by
  have h1:=h.keep q o' hq m;have p:q≠b:=fun e=>by rw[e,hb]at h1;cases h1
  cases ob with
  |none=>show (Hp.set b o) q=_;rw[A3 _ p];exact h1
  |some r=>
   have u:q≠r:=fun e=>by have:=(h.fresh r rfl).1;rw[←e,m]at this;cases this
   show Heap.del _ r q=_;rw[F0 u,A3 _ p];exact h1
 refine⟨i,by rw[A3 _ i.symm];exact y,A2 _ _,?_,fun q o' hq m=>?_,fun q e=>?_⟩
 ·show (Heap.set _ bx _) d=_;rw[A3 _ i];exact A2 _ _
 ·have h1:=hk q o' hq m;have p:q≠d:=fun e=>by rw[e,j]at h1;cases h1
  rw[A3 _ hq,A3 _ p];exact h1
 ·cases e;refine⟨?_,i⟩;cases g:Cs d with
  |none=>rfl
  |some o'=>have:=hk d o' i g;rw[j]at this;cases this
theorem AH.more{sz:Nat}{Cs:Heap}{bx:Nat}{ac:D→List D}{es:List (List D)}{n:Nat}{ob:Option Nat}{Hp:Heap}(h:AH sz Cs bx ac es n ob Hp){b:Nat}(hb:Hp b=none)(o:Av.Obj):AH sz Cs bx ac es n ob (Hp.set b o):=by
 obtain⟨g,j,i,m⟩:=h.at7 hb o;refine⟨g,i,fun q o' hq d=>?_,h.fresh⟩;have h1:=h.keep q o' hq d;have:q≠b:=fun e=>by rw[e,hb]at h1;cases h1
 rw[A3 _ this];exact h1
theorem AH.le{sz:Nat}{Cs H:Heap}{bx:Nat}{ac:D→List D}{es:List (List D)}{n:Nat}{ob:Option Nat}{Hp:Heap}(h:AH sz Cs bx ac es n ob Hp)(d:H.Le Cs)(hx:H bx=none):H.Le (K7 Hp ob):=fun k o hk=>by
 have g:k≠bx:=fun e=>by rw[e,hx]at hk;cases hk
 have h1:=h.keep k o g (d _ _ hk);cases ob with
 |none=>exact h1
 |some c=>
  have:k≠c:=fun e=>by have:=(h.fresh c rfl).1;rw[←e,d _ _ hk]at this;cases this
  show Heap.del _ c k=_;rw[F0 this];exact h1
theorem AH.le2{sz:Nat}{Cs H:Heap}{bx g:Nat}{ac:D→List D}{es:List (List D)}{n:Nat}{ob:Option Nat}{Hp:Heap}(h:AH sz Cs bx ac es n ob Hp)(d:H.Le Cs)(hx:H bx=none)(m:H g=none)(o:Av.Obj):H.Le (K7 (Hp.set g o) ob):=fun k q hk=>by
 have i:k≠g:=fun e=>by rw[e,m]at hk;cases hk
 have h1:=h.le d hx _ _ hk;cases ob with
 |none=>show (Hp.set g o) k=_;rw[A3 _ i];exact h1
 |some c=>
  have j:k≠c:=fun e=>by have:=(h.fresh c rfl).1;rw[←e,d _ _ hk]at this;cases this
  have h1:Heap.del Hp c k=some q:=h1;rw[F0 j]at h1;show Heap.del _ c k=_;rw[F0 j,A3 _ i];exact h1
theorem AH.out2{sz:Nat}{Cs:Heap}{bx d:Nat}{ac:D→List D}{es:List (List D)}{n:Nat}{ob:Option Nat}{Hp:Heap}(h:AH sz Cs bx ac es n ob Hp){g:Av.Obj}(i:Cs d=some g)(o:Av.Obj):OutAt (Hp.set d o) sz es ob:=by
 cases ob with
 |none=>exact h.out
 |some c=>
  have:c≠d:=fun e=>by have:=(h.fresh c rfl).1;rw[e,i]at this;cases this
  show (Hp.set d o) c=_;rw[A3 _ this];exact h.out
theorem A5A{H:Heap}{sz:Nat}{es:List (List D)}{ob:Option Nat}(h:OutAt H sz es ob){x:Nat}(hx:H x=none)(o:Av.Obj):OutAt (H.set x o) sz es ob∧ob≠some x:=by
 cases ob with
 |none=>exact⟨h,by simp⟩
 |some c=>
  have hc:H c=some _:=h;have:c≠x:=fun e=>by rw[e,hx]at hc;cases hc
  refine⟨?_,fun e=>this (by injection e)⟩;show (H.set x o) c=_;rw[A3 _ this];exact hc
theorem B2r{H:Heap}{b:Nat}{o:Av.Obj}(h:H b=some o):H.set b o=H:=by
 funext k
 unfold Av.Heap.set;by_cases e:k=b
 ·subst e;rw[if_pos rfl,h]
 ·rw[if_neg e]
theorem C2o{Q:D→Heap→Prop}{H:Heap}{n:Nat}{ob:Option Nat}{l:LinV}(hn:n=l.t.length)(ho:OutAt H 2 (Rw Q7 l.t) ob)(h:Fin Q (.agg (E4 l)) (K7 H ob)):Fin Q (.agg [J1 2 n ob,.int .i64 l.k,.bool l.e]) H:=by
 have j: ∀(i:Nat) d d',[D.int .i64 l.k,.bool l.e][i]? =some d→[D.int .i64 l.k,.bool l.e][i]? =some d'→d=d':=fun i d d' h1 g=>by rw[h1]at g;injection g
 cases ob with
 |none=>
  have m:Rw Q7 l.t= []:=ho;rw[B1P,m]at h;refine E3 (d':=.agg [.sl 2 [],.int .i64 l.k,.bool l.e]) (.agg _ _ rfl fun i d d' h1 g=>?_) h
  match i with
  |0=>cases h1;cases g;exact .nil 2
  |i+1=>
   simp only[D0L]at h1 g;rw[j i d d' h1 g];exact .same _
 |some b=>
  have hb:H b=some (.vec 2 (Rw Q7 l.t)):=ho;subst hn;refine T6 (cs':=E4 l) hb rfl (fun i d d' h1 g=>?_) h
  match i with
  |0=>
   cases h1;cases g;show Fz b 2 (Rw Q7 l.t) (.vec b 2 0 l.t.length) _;have:=Fz.all (b:=b) (sz:=2) (es:=Rw Q7 l.t);rwa [D6]at this
  |i+1=>
   simp only[B1P,D0L]at h1 g;rw[j i d d' h1 g];exact .same _
theorem B6G(f:Fm):(C0 f).set 2 (.sl 2 (Rw Q7 f.l.t))=C0 f:=by rw[N3];rfl
theorem B6H(f:Fm)(x:D):(C0 f).set 6 x= [.int .i64 f.op,.int .i64 f.n,.sl 2 (Rw Q7 f.l.t),.int .i64 f.l.k,.bool f.l.e,.str f.s,x]:=by rw[N3];rfl
abbrev ac6(f:Fm)(x:D):List D:=[.int .i64 f.op,.int .i64 f.n,.sl 2 (Rw Q7 f.l.t),.int .i64 f.l.k,.bool f.l.e,.str f.s,x]
theorem C2p{Q:D→Heap→Prop}{H:Heap}{n:Nat}{ob:Option Nat}{f:Fm}{ks:List Fm}(hn:n=ks.length)(ho:OutAt H 7 (Rw C0 ks) ob)(h:Fin Q (.agg (C0 (.mk f.op f.n f.l f.s ks))) (K7 H ob)):Fin Q (.agg (ac6 f (J1 7 n ob))) H:=by
 rw[d9]at h;cases ob with
 |none=>
  have d:Rw C0 ks= []:=ho;refine E3 ?_ h;rw[d];exact B1a (.same _) (.nil 7)
 |some b=>
  have hb:H b=some (.vec 7 (Rw C0 ks)):=ho;subst hn;refine T6 (cs':=ac6 f (.sl 7 (Rw C0 ks))) hb rfl (fz7 (.same _) ?_) h;show Fz b 7 (Rw C0 ks) (.vec b 7 0 ks.length) _;have:=Fz.all (b:=b) (sz:=7) (es:=Rw C0 ks);rwa [D6]at this
end Go.Fo
namespace Go.Av
theorem Q6{P:Program}{f b n sz:Nat}{es:List (List D)}{ds:List D}{H0:Heap}{Q:D→Heap→Prop}(d:H0 b=none)(hn:n=es.length)(h:ACalls P f (.sl sz es::ds) H0 Q):ACalls P f (.vec b sz 0 n::ds) (H0.set b (.vec sz es)) Q:=
 T5 (A2 _ _) hn (by rw[E9 d];exact h)
theorem A8v{P:Program}{f b n sz:Nat}{es:List (List D)}{a:D}{ds:List D}{H0:Heap}{Q:D→Heap→Prop}(d:H0 b=none)(hn:n=es.length)(h:ACalls P f (a:: .sl sz es::ds) H0 Q):ACalls P f (a:: .vec b sz 0 n::ds) (H0.set b (.vec sz es)) Q:=
 A0Q (A2 _ _) hn (by rw[E9 d];exact h)
theorem A6X{P:Program}{f m:Nat}{kvs:List (D×D)}{x:D}{ds:List D}{H:Heap}{Q:D→Heap→Prop}(hm:H m=some (.map kvs))(h:ACalls P f (.agg [x,.fm kvs]::ds) (H.del m) Q):ACalls P f (.agg [x,.map m]::ds) H Q:=by
 refine ACalls.shift (args':=.agg [x,.fm kvs]::ds) (fun w vs h1 p hs=>?_) h;have g:=D9 H m;refine⟨by simpa using h1,fun i d q=>?_,hs.less g,fun k hn=>g.held hn⟩
 match i with
 |0=>
  cases q;have j:=p 0 _ rfl;revert j;generalize vs.getD 0 undef=v1;intro j;cases j with
  |agg _ us o ho hr=>
   refine .agg _ us (by simpa using o) (fun i d' e=>?_) (fun i d' e=>?_)
   ·match i with
    |0=>exact ho 0 d' e
    |1=>cases e;rfl
    |i+2=>simp at e
   ·match i with
    |0=>exact(hr 0 d' e).less g
    |1=>
     cases e;exact B2m hs hm g (G9 (by simp[Heap.del])) (hr 1 _ rfl)
    |i+2=>simp at e
 |i+1=>exact(p (i+1) d (by simpa using q)).less g
end Go.Av
namespace Go.Proofs.YtibphjonmikciaaGreatDoor
open Go Go.Av Go.Lexs Go.Lin Go.Fo
attribute [local irreducible] ACalls W4
theorem B1c{Q}(f:Fm)(H:Heap)(h:Q (.int .i64 (if f.op=6 then 1 else 0)) H):D7 193 [.agg (C0 f)] H Q:=by
 refine A8 [] A5 Tryz.func193 rfl ?_;simp only[go_sem,seval,Tryz.results193];by_cases c:f.op=6
 ·rw[if_pos c]at h;repeat' (first|simp only[go_sem,seval,c]|intro d)
  exact D1H (A0 (by assumption)) h
 ·rw[if_neg c]at h;repeat' (first|simp only[go_sem,seval,c]|intro d)
  exact D1H (A0 (by assumption)) h
theorem C2q{Q}(l:List Fm)(n:Int)(h1:n≤1)(g:D)(H:Heap)(h:Q (.tuple []) H):D7 242 [.sl 7 (Rw C0 l),.int .i64 0,.int .i64 n,g] H Q:=by
 refine A8 [(4,.rg),(6,.rd true)] A5 Tryz.func242 rfl ?_;simp only[go_sem,seval,Tryz.results242];have c: ¬1<n:=by omega
 repeat' simp(disch:=omega) only[A4,A3B,okRest_at,S2,A3s,A9,okRestE_at,A0k,B1E,A72,B8Q,B57,D0,B3z,A51,A4E,J2,A8J,A0o]
 refine C9 [0,1,2,3] (fun(k:Nat)=>[(8,.int .i64 1)]) (fun(k:Nat)=>H) (fun(k:Nat)=>True) (fun(k:Nat)=>0) (0) (trivial) (by simp only[go_sem,seval]) (by first|exact D1G _|exact A0 (by assumption)|exact B2 (by assumption)|simp only[Heap.Le,Heap.set,Heap.del]at* <;>grind) ?_;rintro d rfl k _;repeat' simp only[go_sem,seval,c]
 exact D1K h
theorem B6I{Q}(l:List Fm)(hl:l.length≤1)(g:D)(H:Heap)(h:Q (.tuple []) H):D7 219 [.sl 7 (Rw C0 l),.int .i64 l.length,g] H Q:=by
 refine A8 [] A5 Tryz.func219 rfl ?_;simp only[go_sem,seval,Tryz.results219];have c: ¬(20:Int)≤l.length:=by omega
 have d: ¬(20:Int)<l.length:=by omega
 repeat' (first|with_reducible apply C9p|simp only[go_sem,seval]|simp(disch:=omega) only[D0]|intro e|omega)
 refine C9 [0,1,2,6] (fun(k:Nat)=>[(7,.int .i64 0),(8,.int .i64 20)]) (fun(k:Nat)=>H) (fun(k:Nat)=>True) (fun(k:Nat)=>0) (0) (trivial) (by simp only[go_sem,seval]) (by first|exact D1G _|exact A0 (by assumption)|exact B2 (by assumption)|simp only[Heap.Le,Heap.set,Heap.del]at* <;>grind) ?_;rintro i rfl k _;repeat' (first|simp only[go_sem,seval,c]|with_reducible refine C2q l _ (by omega) _ _ ?_)
 refine C9 [0,1,2] (fun(k:Nat)=>[(6,.int .i64 20)]) (fun(k:Nat)=>H) (fun(k:Nat)=>True) (fun(k:Nat)=>0) (0) (trivial) (by simp only[go_sem,seval]) (by first|exact D1G _|exact A0 (by assumption)|exact B2 (by assumption)|simp only[Heap.Le,Heap.set,Heap.del]at* <;>grind) ?_;rintro i rfl k _;repeat' simp only[go_sem,seval,d]
 exact D1K h
theorem A3Z{Q}(l:List Fm)(hl:l.length≤1)(g:D)(H:Heap)(h:Q (.tuple []) H):D7 191 [.sl 7 (Rw C0 l),g] H Q:=by
 refine A8 [] A5 Tryz.func191 rfl ?_;simp only[go_sem,seval,Tryz.results191];repeat' (first|simp only[go_sem,seval]|with_reducible refine B6I l hl _ _ ?_)
 exact D1K h
theorem B6J{Q}(c:List Fm)(hc:c≠[])(hl:c.length≤1000000)(H:Heap)(h: ∀b,H b=none→Q (.vec b 7 0 c.length) (H.set b (.vec 7 (Rw C0 c)))):D7 194 [.sl 7 (Rw C0 c)] H Q:=by
 have i:Rw C0 c≠[]:=fun e=>hc (D0D (by rw[←D6 (f:=C0),e];rfl));refine A8 [] A5 Tryz.func194 rfl ?_;simp only[go_sem,seval,Tryz.results194];have hq: ∀(x:Nat),K1 Tryz.prog .eql 26 (J9 (.tmp x)||J9 (.const (.slice none 0 0))) (.sl 7 (Rw C0 c)) .nilsl=some (.bool false):=fun x=>A5k i (by kernel_rfl);repeat' (first|with_reducible apply C9p|simp only[go_sem,seval,hq]|intro d|omega)
 rename_i m j o;have g:=d;clear d;rw[E9 j]at g⊢;exact D1K (h _ g)
theorem B6K{Q}(cs c:List LinV)(m:D)(hm:(∃k,m= .fm k)∨∃b,m= .map b)(hb:(cs.length+c.length)*40≤140737488355328)(H:Heap)(h:Q (.agg [.sl 3 (Rw E4 (cs++c)),m]) H):D7 123 [.agg [.sl 3 (Rw E4 cs),m],.sl 3 (Rw E4 c)] H Q:=by
 refine A8 [] A5 Tryz.func123 rfl ?_;simp only[go_sem,seval,Tryz.results123];rcases hm with⟨k,rfl⟩|⟨b,rfl⟩
 ·repeat' (first|with_reducible apply C9p|simp only[go_sem,seval]|simp(disch:=first|omega|grind) only[B9]|(intro d;try simp only[A6]at d))
  rename_i e g i j x;have hx:=d;clear d;refine Q6 (es:=[[.sl 3 (Rw E4 cs)],[.sl 3 (Rw E4 c)]]) (A6.2 ⟨hx.1,A6.2 hx.2⟩) rfl ?_;refine A7J cs c hb _ ?_;repeat' (first|simp only[go_sem,seval]|simp(disch:=first|omega|grind) only[B9])
  exact D1H (by simp only[E6,D2,D3]at* <;>grind) h
 ·repeat' (first|with_reducible apply C9p|simp only[go_sem,seval]|simp(disch:=first|omega|grind) only[B9]|(intro d;try simp only[A6]at d))
  rename_i e g i j x;have hx:=d;clear d;refine Q6 (es:=[[.sl 3 (Rw E4 cs)],[.sl 3 (Rw E4 c)]]) (A6.2 ⟨hx.1,A6.2 hx.2⟩) rfl ?_;refine A7J cs c hb _ ?_;repeat' (first|simp only[go_sem,seval]|simp(disch:=first|omega|grind) only[B9])
  exact D1H (by simp only[E6,D2,D3]at* <;>grind) h
end Go.Proofs.YtibphjonmikciaaGreatDoor
namespace Go.Av
section
variable {P:Program} {ops:Array Oper}
def C6K(P:Program)(o:Oper)(K:Kg)(F:FEnv)(H:Heap):Prop:=o.guard=none∧C8 P F.ev H (fun d H'=>K (F.put o.dst d) H') o.op
def B9A(P:Program)(ops:Array Oper)(K:Kg):Nat→Array Bool→Kg
 |0,listed=>fun F H=>Region.ready .any ops listed= []∧K F H
 |fuel+1,listed=>fun F H=>(Region.ready .any ops listed= []→K F H)∧∀i∈Region.ready .any ops listed,∃o,ops[i]? =some o∧C6K P o (B9A P ops K fuel (listed.setIfInBounds i true)) F H
theorem B1d{N:Nat}{w0:World}{H0:Heap}{o:Oper}{K:Kg}{F:FEnv}{H:Heap}{a:Act}{w:World}(q: ∀t,o.dst=some t→t<N)(h:C6K P o K F H)(hst:StO N w0 H0 F H a w):
  opSem P none o a w fun v w'=>∃p H',StO N w0 H0 p H' (a.put o.dst v) w'∧K p H':=by
 refine(N0 (o:=o) hst.sat hst.evR h.2).mono fun v w' hp=>?_;obtain⟨d,H',r,u,j,m,hk⟩:=hp;refine⟨F.put o.dst d,H',⟨?_,?_,fun i=>?_,u,hst.ext.trans hst.frm j,hst.frm.trans hst.ext.size m⟩,hk⟩
 ·cases e:o.dst<;>simp[Act.put,hst.size]
 ·cases e:o.dst<;>simp[Act.put,hst.defers]
 ·cases e:o.dst with
  |none=>exact(hst.env i).mono j m
  |some t=>
   have x:=q t e;simp only[FEnv.put];by_cases g:t=i
   ·subst g;rw[if_pos rfl];have:(a.put (some t) v).eval (.tmp t)=v:=by
     have y:t<a.tmps.size:=by rw[hst.size];exact x
     simp[Act.eval,Act.put,y]
    rw[this];exact r
   ·rw[if_neg g];have:(a.put (some t) v).eval (.tmp i)=a.eval (.tmp i):=by
     simp[Act.eval,Act.put,D0T g]
    rw[this];exact(hst.env i).mono j m
theorem A52{N:Nat}{w0:World}{H0:Heap}{K:Kg}{Q:Exit→Act→World→Prop}(p: ∀o∈ops.toList,∀t,o.dst=some t→t<N)
  (m: ∀F H a w,StO N w0 H0 F H a w→K F H→Q .normal a w): ∀(fuel:Nat) (d:Array Bool) (F:FEnv) (H:Heap) (a:Act) (w:World),
  B9A P ops K fuel d F H→StO N w0 H0 F H a w→Go.wpAny P .any ops Q fuel d a w
 |0,_,F,H,a,w,h,hst=>⟨h.1,m _ _ _ _ hst h.2⟩
 |fuel+1,d,F,H,a,w,h,hst=>⟨fun q=>m _ _ _ _ hst (h.1 q),fun i r=>by
   obtain⟨o,ho,h1⟩:=h.2 i r;unfold Go.wpOp;split
   ·rename_i hn;rw[hn]at ho;cases ho
   ·rename_i o' e;rw[ho]at e;cases e;have g:o∈ops.toList:=by rw[D0U];exact Array.mem_of_getElem? ho
    rw[if_pos (by simp[Region.wanted,h1.1])];exact .inl (opSem.wp ((B1d (p o g) h1 hst).mono fun v w' hv=>by
     obtain⟨u,H',j,hk⟩:=hv;exact A52 p m fuel _ _ _ _ _ hk j))⟩
theorem B1e{f:Nat}{fn:Func}{c:Code}{id:Nat}{args:List D}{H:Heap}{Q:D→Heap→Prop}(hm:P.follows .mixedOrders=true)(I:P.funcs[f]? =some fn)(hb:fn.body=some (.seq c (.region id ops true)))(p:A1c P f=true)(hn:args.length≤fn.ntmps)
  (q:fn.results= #[]) (u:N1 P [] fn.ntmps c=true) (J:(ops.toList.all fun o=>match o.dst with|some t=>decide (t<fn.ntmps)|none=>true)=true)
  (h:wp P [] c (fun x E H=>x= .normal∧B9A P ops (fun _ H=>Fin Q (.tuple []) H) ops.size (Array.replicate ops.size false) E.get H) (U6 0 args) H):ACalls P f args H Q:=by
 refine⟨p,fun w vs hl L hs=>calls_of_wp I hb ?_⟩;have hst:St fn.ntmps w H (U6 0 args) H {tmps:=vs++Array.replicate (fn.ntmps-vs.size) undef,defers:=[]} w:=by
  refine⟨by simp;omega,rfl,fun i=>?_,hs,D1N _ _,D1M _ _⟩;rw[t8,if_pos (D0A _),Nat.sub_zero];cases C:args[i]? with
  |none=>exact .undef _
  |some d=>
   have M:=(C9z.1 C).1;have:({tmps:=vs++Array.replicate (fn.ntmps-vs.size) undef,defers:=[]}:Act).eval (.tmp i)=vs.getD i undef:=by
    simp only[Act.eval];exact F7 (by omega)
   rw[this];exact L i d C
 refine Go.wp_seq (Go.wp_mono (t7 hm c _ _ _ _ _ u h hst) fun e a w' he=>?_);cases e with
 |normal=>
  obtain⟨E,H',g,_,hq⟩:=he;refine wp_region_any hm ?_;have he:Ext H' w' {w' with drawn:=w'.drawn+1}:=Ext.drewN H' w' 1;have y:=g.sat.same (w':={w' with drawn:=w'.drawn+1}) rfl he;refine A52 (N:=fn.ntmps) (w0:=w) (H0:=H) (fun o ho t O=>?_) (fun F T a1 G j hk=>?_) _ _ E.get H' a _ hq ⟨g.size,g.defers,fun i=>(g.env i).mono he (D1M _ _),y,g.ext.trans g.frm he,g.frm⟩
  ·have:=D0Q.1 J o ho;rw[O]at this;simpa using this
  ·unfold Fin at hk;obtain⟨U,V,z,W⟩:=hk;have m:St fn.ntmps w H [] T a1 G:=⟨j.size,j.defers,fun i=>.undef _,j.sat,j.ext,j.frm⟩
   obtain⟨v,hv,A⟩:=A2F (P:=P) (fn:=fn) (r:=.tuple []) m (by rw[q];rfl);obtain⟨X,Y,k3⟩:=z G v A j.sat;exact⟨j.defers,v,hv,v,rfl,V,U,X,Y,j.ext,fun k hk hn=>k3 k (j.frm k hk hn),W⟩
 |exit id=>obtain⟨E,H',g,hq⟩:=he;exact absurd hq.1 (by simp)
 |ret=>obtain⟨E,H',g,hq⟩:=he;exact absurd hq.1 (by simp)
 |_=>exact he.elim
def J4(o:Oper):List Nat:=(o.after.toList.filter fun e=>Region.binds .any e).map (·.on)
theorem A1O{g:Array Bool}{i:Nat}(h:i∈Region.ready .any ops g):g.getD i true=false∧∃o,ops[i]? =some o∧∀d∈J4 o,g.getD d false=true:=by
 obtain⟨h1,o,ho,p⟩:=mem_ready.1 h;refine⟨h1,o,ho,fun d q=>?_⟩;obtain⟨e,he,rfl⟩:=D0n.1 q;obtain⟨j,m⟩:=List.mem_filter.1 he;exact p e (by simpa using j) m
theorem A53{g:Array Bool}{i:Nat}{o:Oper}(h1:g.getD i true=false)(ho:ops[i]? =some o)(h: ∀d∈J4 o,g.getD d false=true):i∈Region.ready .any ops g:=
 mem_ready.2 ⟨h1,o,ho,fun e he hb=>h e.on (D0n.2 ⟨e,List.mem_filter.2 ⟨by simpa using he,hb⟩,rfl⟩)⟩
end
section
variable {P:Program} {ops:Array Oper}
structure EvC(ev:Operand→D):Prop where
 const: ∀v,ev (.const v)=D.ofValue v
 func: ∀f,ev (.func f)= .fn (.func f) [] []
def B0E(P:Program)(ops:Array Oper)(vals:Nat→D)(B:Heap)(E0:FEnv):Prop:=∀i o,ops[i]? =some o→o.guard=none∧∀F:FEnv,(∀j oj,ops[j]? =some oj→j∈J4 o→∀t,oj.dst=some t→F t=vals j)→(∀t,(ops.toList.all fun oj=>oj.dst != some t)=true→F t=E0 t)→
 C8 P F.ev B (Fin fun d H=>d=vals i∧H=B) o.op
structure C2r(ops:Array Oper)(vals:Nat→D)(E0:FEnv)(l:Array Bool)(F:FEnv):Prop where
 size:l.size=ops.size
 set: ∀j oj,ops[j]? =some oj→l.getD j false=true→∀t,oj.dst=some t→F t=vals j
 els: ∀t,(ops.toList.all fun oj=>oj.dst != some t)=true→F t=E0 t
theorem B34{N:Nat}{w0:World}{H0 B:Heap}{vals:Nat→D}{E0:FEnv}{Q:Exit→Act→World→Prop}(hd: ∀o∈ops.toList,∀t,o.dst=some t→t<N)(C: ∀(i j:Nat) (oi oj:Oper),ops[i]? =some oi→ops[j]? =some oj→∀t,oi.dst=some t→oj.dst=some t→i=j)
  (G:B0E P ops vals B E0) (J: ∀l:Array Bool,l.size=ops.size→Region.ready .any ops l= []→∀i,i<ops.size→l.getD i false=true)
  (hQ: ∀F a w,StO N w0 H0 F B a w→C2r ops vals E0 (Array.replicate ops.size true) F→Q .normal a w): ∀(fuel:Nat) (g:Array Bool) (F:FEnv) (a:Act) (w:World),
  (g.toList.filter (!·)).length≤fuel→C2r ops vals E0 g F→StO N w0 H0 F B a w→Go.wpAny P .any ops Q fuel g a w:=by
 have fin: ∀(l:Array Bool) (F:FEnv) (a:Act) (w:World),C2r ops vals E0 l F→StO N w0 H0 F B a w→Region.ready .any ops l= []→Q .normal a w:=fun l F a w I hst O=>by
  refine hQ F a w hst ⟨by simp,fun j oj u _=>I.set j oj u (J l I.size O j (D0E.1 u).1),I.els⟩
 intro fuel
 induction fuel with
 |zero=>
  intro l F a w hc I hst;have hr:Region.ready .any ops l= []:=by
   cases hr:Region.ready .any ops l with
   |nil=>rfl
   |cons i r=>
    exfalso;obtain⟨h1,o,ho,_⟩:=A1O (by rw[hr];exact C90 .. :i∈Region.ready .any ops l);have hi:=(D0E.1 ho).1;have:=I.size;have hl:l.toList[i]? =some false:=by
     have:i<l.size:=by omega
     simp[this]at h1⊢;exact h1
    have hm:false∈l.toList.filter (!·):=List.mem_filter.2 ⟨D0M hl,rfl⟩;have:=List.length_pos_of_mem hm;omega
  exact⟨hr,fin l F a w I hst hr⟩
 |succ n T=>
  intro l F a w hc I hst;refine⟨fun O=>fin l F a w I hst O,fun i hi=>?_⟩;obtain⟨hu,o,ho,U⟩:=A1O hi;have a5:=(D0E.1 ho).1;have V:=I.size;have W:i<l.size:=by omega
  obtain⟨hg,X⟩:=G i o ho;have x:o∈ops.toList:=by rw[D0U];exact Array.mem_of_getElem? ho
  unfold Go.wpOp;split
  ·rename_i hn;rw[hn]at ho;cases ho
  ·rename_i o' L;rw[ho]at L;cases L;rw[if_pos (by simp[Region.wanted,hg])];refine .inl (opSem.wp ((N0 (o:=o) hst.sat hst.evR (X F (fun j oj u hm t q=>I.set j oj u (U j hm) t q) I.els)).mono fun v w' hp=>?_));obtain⟨d,H',hR,hS,hE,hF,hk⟩:=hp;unfold Fin at hk;obtain⟨H2,d2,M,Y,a0⟩:=hk;rw[Y,a0]at M;obtain⟨k1,k2,k3⟩:=M w' v hR hS;have a4:Ext H0 w0 w':=hst.ext.trans hst.frm hE;refine T _ (F.put o.dst (vals i)) _ _ ?_ ⟨by simpa using V,fun j oj u hm t q=>?_,fun t q=>?_⟩ ⟨?_,?_,fun s=>?_,k2,a4,fun k hk hn=>k3 k ((hst.frm.trans hst.ext.size hF) k hk hn)⟩
   ·have key: ∀(m:List Bool) (i:Nat),m[i]? =some false→((m.set i true).filter (!·)).length+1=(m.filter (!·)).length:=by
     intro m
     induction m with
     |nil=>intro i h;simp at h
     |cons b m T=>
      intro i h;cases i with
      |zero=>simp at h;subst h;simp
      |succ i=>
       have:=T i (by simpa using h);cases b<;>simp[List.set_cons_succ]<;>omega
    have hl:l.toList[i]? =some false:=by
     simp[W]at hu⊢;exact hu
    have:=key l.toList i hl;rw[Array.toList_setIfInBounds];omega
   ·by_cases e:i=j
    ·subst e;rw[ho]at u;cases u;rw[q];simp[FEnv.put]
    ·have y:o.dst≠some t:=fun e2=>e (C i j o oj ho u t e2 q);have hp:F.put o.dst (vals i) t=F t:=by
      cases z:o.dst with
      |none=>rfl
      |some s=>
       have:s≠t:=fun e=>y (by rw[z,e]);simp[FEnv.put,this]
     rw[hp];refine I.set j oj u ?_ t q;rw[getD_set_ne false e]at hm;exact hm
   ·have y:o.dst≠some t:=fun e=>by
     have:=D0Q.1 q o x;rw[e]at this;simp at this
    have hp:F.put o.dst (vals i) t=F t:=by
     cases z:o.dst with
     |none=>rfl
     |some s=>
      have:s≠t:=fun e=>y (by rw[z,e]);simp[FEnv.put,this]
    rw[hp];exact I.els t q
   ·cases p:o.dst<;>simp[Act.put,hst.size]
   ·cases p:o.dst<;>simp[Act.put,hst.defers]
   ·have old: ∀s,R w' B (F s) (a.eval (.tmp s)):=fun s=>(hst.env s).mono hE (fun k hk hn=>k3 k (hF k hk hn));cases p:o.dst with
    |none=>exact old s
    |some t=>
     have q:=hd o x t p;simp only[FEnv.put];by_cases A:t=s
     ·subst A;rw[if_pos rfl];have:(a.put (some t) v).eval (.tmp t)=v:=by
       have h':t<a.tmps.size:=by rw[hst.size];exact q
       simp[Act.eval,Act.put,h']
      rw[this];exact k1
     ·rw[if_neg A];have:(a.put (some t) v).eval (.tmp s)=a.eval (.tmp s):=by
       simp[Act.eval,Act.put,D0T A]
      rw[this];exact old s
def C2s(ops:Array Oper):Bool:=(List.range ops.size).all fun i=>(List.range ops.size).all fun j=>i==j||((ops[i]?.bind (·.dst)).isNone||(ops[i]?.bind (·.dst)) != (ops[j]?.bind (·.dst)))
def B6L(ops:Array Oper):Bool:=(List.range ops.size).all fun i=>match ops[i]? with
 |some o=>(J4 o).all fun d=>decide (d<i)
 |none=>true
theorem B9B(g:B6L ops=true): ∀l:Array Bool,l.size=ops.size→Region.ready .any ops l= []→∀i,i<ops.size→l.getD i false=true:=by
 intro l hs h i
 induction i using Nat.strongRecOn with
 |_ i j=>
  intro e;cases hc:l.getD i false with
  |true=>rfl
  |false=>
   exfalso;have ho:ops[i]? =some ops[i]:=Array.getElem?_eq_getElem e;have h1:=D0Q.1 g i (List.mem_range.2 e);rw[ho]at h1;have m:l.getD i true=false:=by
    have:i<l.size:=by omega
    simp[this]at hc⊢;exact hc
   have:=A53 m ho fun d o=>by
    have:=D0Q.1 h1 d o;simp only[D0B]at this;exact j d this (by omega)
   rw[h]at this;cases this
theorem A2w{f:Nat}{fn:Func}{c:Code}{id:Nat}{args:List D}{H:Heap}{Q:D→Heap→Prop}(hm:P.follows .mixedOrders=true)(hf:P.funcs[f]? =some fn)(hb:fn.body=some (.seq c (.seq (.region id ops true) .ret)))(L:A1c P f=true)(hn:args.length≤fn.ntmps)
  (i t:Nat) (M:fn.results= #[.tmp t]) (G:(ops[i]?.map (·.dst))=some (some t)) (O:N1 P [] fn.ntmps c=true) (hd:(ops.toList.all fun o=>match o.dst with|some t=>decide (t<fn.ntmps)|none=>true)=true) (u:C2s ops=true) (y:B6L ops=true)
  (h:wp P [] c (fun x E H'=>x= .normal∧∃vals:Nat→D,B0E P ops vals H' E.get∧Fin Q (vals i) H') (U6 0 args) H):ACalls P f args H Q:=by
 refine⟨L,fun w vs hl hR hs=>calls_of_wp hf hb ?_⟩;have hst:St fn.ntmps w H (U6 0 args) H {tmps:=vs++Array.replicate (fn.ntmps-vs.size) undef,defers:=[]} w:=by
  refine⟨by simp;omega,rfl,fun i=>?_,hs,D1N _ _,D1M _ _⟩;rw[t8,if_pos (D0A _),Nat.sub_zero];cases G:args[i]? with
  |none=>exact .undef _
  |some d=>
   have a9:=(C9z.1 G).1;have:({tmps:=vs++Array.replicate (fn.ntmps-vs.size) undef,defers:=[]}:Act).eval (.tmp i)=vs.getD i undef:=by
    simp only[Act.eval];exact F7 (by omega)
   rw[this];exact hR i d G
 refine Go.wp_seq (Go.wp_mono (t7 hm c _ _ _ _ _ O h hst) fun e a w' he=>?_);cases e with
 |normal=>
  obtain⟨E,H',g,_,vals,hq,p⟩:=he;refine Go.wp_seq (wp_region_any hm ?_);have he:Ext H' w' {w' with drawn:=w'.drawn+1}:=Ext.drewN H' w' 1;have T:=g.sat.same (w':={w' with drawn:=w'.drawn+1}) rfl he;refine B34 (N:=fn.ntmps) (w0:=w) (H0:=H) (B:=H') (vals:=vals) (E0:=E.get) (fun o ho t ht=>?_) (fun i j oi oj z A t U V=>?_) hq (B9B y) (fun F a1 w1 m I=>?_) ops.size _ E.get a _ ?_ ⟨by simp,fun j oj hj hm=>?_,fun _ _=>rfl⟩ ⟨g.size,g.defers,fun i=>(g.env i).mono he (D1M _ _),T,g.ext.trans g.frm he,g.frm⟩
  ·have:=D0Q.1 hd o ho;rw[ht]at this;simpa using this
  ·have W:=(D0E.1 z).1;have X:=(D0E.1 A).1;have:=D0Q.1 (D0Q.1 u i (List.mem_range.2 W)) j (List.mem_range.2 X);rw[z,A]at this;simp only[D0J,U,V,Option.isNone_some,bne_self_eq_false,Bool.or_self,Bool.or_false,beq_iff_eq]at this;exact this
  ·obtain⟨o,ho,Y⟩:=C9y.1 G;have hF:F t=vals i:=I.set i o ho (by
    have:=(D0E.1 ho).1;simp[this]) t Y
   unfold Fin at p;obtain⟨H2,q,a0,p⟩:=p;have C:St fn.ntmps w H [(t,vals i)] H' a1 w1:=⟨m.size,m.defers,fun j=>by
    by_cases e:t=j
    ·subst e;have:Env.get [(t,vals i)] t=vals i:=by simp[Env.get]
     rw[this,←hF];exact m.env t
    ·have:Env.get [(t,vals i)] j= .undef:=by simp[Env.get,e]
     rw[this];exact .undef _,m.sat,m.ext,m.frm⟩
   refine Go.wp_mono (t7 (P:=P) (Z:=[]) hm .ret (A7z P fn.results.toList Q) _ _ _ _ rfl ⟨vals i,by rw[M];simp[A2k,A0H,Env.get],H2,q,a0,p⟩ C) fun x a w' he=>?_
   have fin: ∀(x:AX) (E:Env) (H':Heap) (a:Act) (w':World),(x= .normal∨x= .ret)→St fn.ntmps w H E H' a w'→A7z P fn.results.toList Q x E H'→
     a.defers= []∧∃v,(results fn a.tmps).run P w'= .ok v w'∧∃v',Ending.returned v= .returned v'∧Post H w Q v' w':=by
    intro x E H' a w' hx g hq;have a4: ∃r,A2k P fn.results.toList E H'=some r∧∃J q,Shift H' r J q∧Q q J:=by rcases hx with rfl|rfl<;>exact hq
    obtain⟨r,hr,J,q,a5,p⟩:=a4;obtain⟨v,hv,a6⟩:=A2F (P:=P) g hr;obtain⟨k1,k2,k3⟩:=a5 _ _ a6 g.sat;exact⟨g.defers,v,hv,v,rfl,q,J,k1,k2,g.ext,fun k hk hn=>k3 k (g.frm k hk hn),p⟩
   cases x with
   |normal=>obtain⟨E,H',g,hq⟩:=he;exact fin .normal E H' a w' (.inl rfl) g hq
   |ret=>obtain⟨E,H',g,hq⟩:=he;exact fin .ret E H' a w' (.inr rfl) g hq
   |exit id=>obtain⟨E,H',g,hq⟩:=he;exact hq.elim
   |_=>exact he.elim
  ·have: ∀n:Nat,((Array.replicate n false).toList.filter (!·)).length≤n:=fun n=>by simp
   exact this _
  ·rw[show (Array.replicate ops.size false).getD j false=false by simp[Array.getElem?_replicate];split<;>simp]at hm;cases hm
 |exit id=>obtain⟨E,H',g,hq⟩:=he;exact absurd hq.1 (by simp)
 |ret=>obtain⟨E,H',g,hq⟩:=he;exact absurd hq.1 (by simp)
 |_=>exact he.elim
end
end Go.Av
