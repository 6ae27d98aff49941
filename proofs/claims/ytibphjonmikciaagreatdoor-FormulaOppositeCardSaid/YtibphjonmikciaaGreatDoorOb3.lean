/- Part of the proof: what the last text builds on. No condition stands here. -/
import Derived.Test.YtibphjonmikciaaGreatDoorProg
import Derived.Test.YtibphjonmikciaaGreatDoorRows
import Derived.Test.YtibphjonmikciaaGreatDoorCards
import Derived.Test.YtibphjonmikciaaGreatDoorTie
import Derived.Test.YtibphjonmikciaaGreatDoorOb2
set_option linter.unusedSimpArgs false
set_option linter.unusedVariables false
section
namespace Go.Proofs
open Go.Shelf
def Tryz.lays106_ren:Go.Shelf.Ren:=⟨fun|106=>106|213=>139|265=>174|n=>n,fun|9=>9|3=>3|n=>n,fun|n=>n⟩
theorem A8v:Go.Proofs.Lays.n106 Tryz.prog Tryz.lays106_ren:={
 mixed:=by kernel_rfl
 f106:=Tryz.func106.trans (congrArg some (by kernel_rfl))
 f213:=Tryz.func139.trans (congrArg some (by kernel_rfl))
 f265:=Tryz.func174.trans (congrArg some (by kernel_rfl))
 t3:=Tryz.underlying3
 a3:=Tryz.isAgg3
 z3:=Tryz.sizeOf3
 v3:=Tryz.zeroValue3
 t9:=Tryz.underlying9
 a9:=Tryz.isAgg9
 z9:=Tryz.sizeOf9
 v9:=Tryz.zeroValue9}
open Go.RowKit in
theorem Tryz.strings_Compare(a b:ByteArray)(w:World):
  Calls Tryz.prog 106 #[.string a,.string b] w fun e w'=>e= .returned (.int .i64 (Lib.compareBytes a.data.toList b.data.toList))∧w'=w:=Any.strings_Compare A8v a b w
def Tryz.lays137_ren:Go.Shelf.Ren:=⟨fun|137=>138|217=>173|266=>209|n=>n,fun|9=>9|5=>5|3=>3|n=>n,fun|n=>n⟩
theorem A8w:Go.Proofs.Lays.n137 Tryz.prog Tryz.lays137_ren:={
 mixed:=by kernel_rfl
 f137:=Tryz.func138.trans (congrArg some (by kernel_rfl))
 f217:=Tryz.func173.trans (congrArg some (by kernel_rfl))
 f266:=Tryz.func209.trans (congrArg some (by kernel_rfl))
 t3:=Tryz.underlying3
 a3:=Tryz.isAgg3
 z3:=Tryz.sizeOf3
 v3:=Tryz.zeroValue3
 t5:=Tryz.underlying5
 a5:=Tryz.isAgg5
 z5:=Tryz.sizeOf5
 v5:=Tryz.zeroValue5
 t9:=Tryz.underlying9
 a9:=Tryz.isAgg9
 z9:=Tryz.sizeOf9
 v9:=Tryz.zeroValue9}
open Go.RowKit in
theorem Tryz.strings_IndexByte(s:ByteArray)(c:Int)(w:World):
  Calls Tryz.prog 138 #[.string s,.int .u8 c] w fun e w'=>e= .returned (.int .i64 (Lib.indexByte s.data.toList c.toNat.toUInt8))∧w'=w:=Any.strings_IndexByte A8w s c w
def Tryz.lays103_ren:Go.Shelf.Ren:=⟨fun|103=>145|210=>177|206=>211|n=>n,fun|9=>9|4=>4|24=>171|3=>3|n=>n,fun|n=>n⟩
theorem A8t:Go.Proofs.Lays.n103 Tryz.prog Tryz.lays103_ren:={
 mixed:=by kernel_rfl
 f103:=Tryz.func145.trans (congrArg some (by kernel_rfl))
 f206:=Tryz.func211.trans (congrArg some (by kernel_rfl))
 f210:=Tryz.func177.trans (congrArg some (by kernel_rfl))
 t3:=Tryz.underlying3
 a3:=Tryz.isAgg3
 z3:=Tryz.sizeOf3
 v3:=Tryz.zeroValue3
 t4:=Tryz.underlying4
 a4:=Tryz.isAgg4
 z4:=Tryz.sizeOf4
 v4:=Tryz.zeroValue4
 t9:=Tryz.underlying9
 a9:=Tryz.isAgg9
 z9:=Tryz.sizeOf9
 v9:=Tryz.zeroValue9
 t24:=Tryz.underlying171
 a24:=Tryz.isAgg171
 z24:=Tryz.sizeOf171
 v24:=Tryz.zeroValue171}
open Go.RowKit in
theorem Tryz.strings_CutPrefix(s p:ByteArray)(w:World):
  Calls Tryz.prog 145 #[.string s,.string p] w fun e w'=>e= .returned (.tuple #[.string ⟨(Lib.trimPrefix s.data.toList p.data.toList).toArray⟩,.bool (Lib.hasPrefix s.data.toList p.data.toList)])∧w'=w:=Any.strings_CutPrefix A8t s p w
def Tryz.lays104_ren:Go.Shelf.Ren:=⟨fun|104=>147|211=>182|207=>184|n=>n,fun|9=>9|4=>4|24=>171|3=>3|n=>n,fun|n=>n⟩
theorem A8u:Go.Proofs.Lays.n104 Tryz.prog Tryz.lays104_ren:={
 mixed:=by kernel_rfl
 f104:=Tryz.func147.trans (congrArg some (by kernel_rfl))
 f207:=Tryz.func184.trans (congrArg some (by kernel_rfl))
 f211:=Tryz.func182.trans (congrArg some (by kernel_rfl))
 t3:=Tryz.underlying3
 a3:=Tryz.isAgg3
 z3:=Tryz.sizeOf3
 v3:=Tryz.zeroValue3
 t4:=Tryz.underlying4
 a4:=Tryz.isAgg4
 z4:=Tryz.sizeOf4
 v4:=Tryz.zeroValue4
 t9:=Tryz.underlying9
 a9:=Tryz.isAgg9
 z9:=Tryz.sizeOf9
 v9:=Tryz.zeroValue9
 t24:=Tryz.underlying171
 a24:=Tryz.isAgg171
 z24:=Tryz.sizeOf171
 v24:=Tryz.zeroValue171}
open Go.RowKit in
theorem Tryz.strings_CutSuffix(s p:ByteArray)(w:World)(hs:s.size≤9223372036854775807):
  Calls Tryz.prog 147 #[.string s,.string p] w fun e w'=>e= .returned (.tuple #[.string ⟨(Lib.trimSuffix s.data.toList p.data.toList).toArray⟩,.bool (Lib.hasSuffix s.data.toList p.data.toList)])∧w'=w:=Any.strings_CutSuffix A8u s p w hs
def Tryz.laysM171_ren:Go.Shelf.Ren:=⟨fun|171=>142|243=>176|246=>210|283=>232|284=>233|285=>234|286=>235|129=>170|317=>268|318=>269|319=>270|320=>271|337=>289|338=>290|n=>n,fun|3=>3|9=>9|2=>2|4=>4|171=>259|0=>0|53=>196|37=>95|5=>5|173=>261|212=>288|51=>194|20=>20|213=>289|46=>163|232=>316|233=>317|n=>n,fun|17=>1|18=>4|19=>5|n=>n⟩
theorem A6h:Go.Proofs.LaysM.n171 Tryz.prog Tryz.laysM171_ren:={
 mixed:=by kernel_rfl
 f129:=Tryz.func170.trans (congrArg some (by kernel_rfl))
 f171:=Tryz.func142.trans (congrArg some (by kernel_rfl))
 f243:=Tryz.func176.trans (congrArg some (by kernel_rfl))
 f246:=Tryz.func210.trans (congrArg some (by kernel_rfl))
 f283:=Tryz.func232.trans (congrArg some (by kernel_rfl))
 f284:=Tryz.func233.trans (congrArg some (by kernel_rfl))
 f285:=Tryz.func234.trans (congrArg some (by kernel_rfl))
 f286:=Tryz.func235.trans (congrArg some (by kernel_rfl))
 f317:=Tryz.func268.trans (congrArg some (by kernel_rfl))
 f318:=Tryz.func269.trans (congrArg some (by kernel_rfl))
 f319:=Tryz.func270.trans (congrArg some (by kernel_rfl))
 f320:=Tryz.func271.trans (congrArg some (by kernel_rfl))
 f337:=Tryz.func289.trans (congrArg some (by kernel_rfl))
 f338:=Tryz.func290.trans (congrArg some (by kernel_rfl))
 t0:=Tryz.underlying0
 a0:=Tryz.isAgg0
 z0:=Tryz.sizeOf0
 v0:=Tryz.zeroValue0
 t2:=Tryz.underlying2
 a2:=Tryz.isAgg2
 z2:=Tryz.sizeOf2
 v2:=Tryz.zeroValue2
 t3:=Tryz.underlying3
 a3:=Tryz.isAgg3
 z3:=Tryz.sizeOf3
 v3:=Tryz.zeroValue3
 t4:=Tryz.underlying4
 a4:=Tryz.isAgg4
 z4:=Tryz.sizeOf4
 v4:=Tryz.zeroValue4
 t5:=Tryz.underlying5
 a5:=Tryz.isAgg5
 z5:=Tryz.sizeOf5
 v5:=Tryz.zeroValue5
 t9:=Tryz.underlying9
 a9:=Tryz.isAgg9
 z9:=Tryz.sizeOf9
 v9:=Tryz.zeroValue9
 t20:=Tryz.underlying20
 a20:=Tryz.isAgg20
 z20:=Tryz.sizeOf20
 v20:=Tryz.zeroValue20
 t37:=Tryz.underlying95
 a37:=Tryz.isAgg95
 z37:=Tryz.sizeOf95
 v37:=Tryz.zeroValue95
 t46:=Tryz.underlying163
 a46:=Tryz.isAgg163
 z46:=Tryz.sizeOf163
 v46:=Tryz.zeroValue163
 t51:=Tryz.underlying194
 a51:=Tryz.isAgg194
 z51:=Tryz.sizeOf194
 v51:=Tryz.zeroValue194
 t53:=Tryz.underlying196
 a53:=Tryz.isAgg196
 z53:=Tryz.sizeOf196
 v53:=Tryz.zeroValue196
 t171:=Tryz.underlying259
 a171:=Tryz.isAgg259
 z171:=Tryz.sizeOf259
 v171:=Tryz.zeroValue259
 t173:=Tryz.underlying261
 a173:=Tryz.isAgg261
 z173:=Tryz.sizeOf261
 v173:=Tryz.zeroValue261
 t212:=Tryz.underlying288
 a212:=Tryz.isAgg288
 z212:=Tryz.sizeOf288
 v212:=Tryz.zeroValue288
 t213:=Tryz.underlying289
 a213:=Tryz.isAgg289
 z213:=Tryz.sizeOf289
 t232:=Tryz.underlying316
 a232:=Tryz.isAgg316
 z232:=Tryz.sizeOf316
 v232:=Tryz.zeroValue316
 t233:=Tryz.underlying317
 a233:=Tryz.isAgg317
 z233:=Tryz.sizeOf317
 v233:=Tryz.zeroValue317
 g17:=by kernel_rfl
 g18:=by kernel_rfl
 g19:=by kernel_rfl
 i0:=by kernel_rfl
 i2:=by kernel_rfl
 i3:=by kernel_rfl
 i4:=by kernel_rfl
 i5:=by kernel_rfl
 i9:=by kernel_rfl
 i20:=by kernel_rfl
 i37:=by kernel_rfl
 i46:=by kernel_rfl
 i51:=by kernel_rfl
 i53:=by kernel_rfl
 i171:=by kernel_rfl
 i173:=by kernel_rfl
 i212:=by kernel_rfl
 i232:=by kernel_rfl
 i233:=by kernel_rfl
 m17:=by kernel_rfl
 m18:=by kernel_rfl
 m19:=by kernel_rfl}
open Go.RowKit Go.Sort Go.Lib in
theorem Tryz.strconv_Itoa(n:Int)(h0: -9223372036854775808≤n)(h1:n≤9223372036854775807)(w:World)(htab:Lib.TabIs Tryz.prog w "internal/strconv.uint64pow10" .u64 Lib.pow10Tab):
  Calls Tryz.prog 142 #[.int .i64 n] w fun e w'=>e= .returned (.string ⟨(Lib.itoa n).toArray⟩)∧∃k os,w'=grow (w.drewN k) os:=Any.strconv_Itoa A6h n h0 h1 w htab
def Tryz.laysC172_ren:Go.Shelf.Ren:=⟨fun|172=>188|244=>217|245=>218|247=>237|279=>238|280=>239|281=>240|282=>241|287=>273|316=>274|171=>142|205=>275|321=>292|322=>293|243=>176|246=>210|283=>232|284=>233|285=>234|286=>235|129=>170|317=>268|318=>269|319=>270|320=>271|337=>289|338=>290|n=>n,fun|9=>9|3=>3|75=>140|76=>141|4=>4|5=>5|167=>263|37=>95|0=>0|85=>264|2=>2|168=>266|53=>196|175=>290|46=>163|210=>294|127=>144|145=>312|143=>310|21=>21|171=>259|173=>261|212=>288|51=>194|20=>20|213=>289|232=>316|233=>317|80=>99|n=>n,fun|15=>2|16=>3|17=>1|18=>4|19=>5|n=>n⟩
theorem A0c:Go.Proofs.LaysC.n172 Tryz.prog Tryz.laysC172_ren:={
 mixed:=by kernel_rfl
 f129:=Tryz.func170.trans (congrArg some (by kernel_rfl))
 f171:=Tryz.func142.trans (congrArg some (by kernel_rfl))
 f172:=Tryz.func188.trans (congrArg some (by kernel_rfl))
 f205:=Tryz.func275.trans (congrArg some (by kernel_rfl))
 f243:=Tryz.func176.trans (congrArg some (by kernel_rfl))
 f244:=Tryz.func217.trans (congrArg some (by kernel_rfl))
 f245:=Tryz.func218.trans (congrArg some (by kernel_rfl))
 f246:=Tryz.func210.trans (congrArg some (by kernel_rfl))
 f247:=Tryz.func237.trans (congrArg some (by kernel_rfl))
 f279:=Tryz.func238.trans (congrArg some (by kernel_rfl))
 f280:=Tryz.func239.trans (congrArg some (by kernel_rfl))
 f281:=Tryz.func240.trans (congrArg some (by kernel_rfl))
 f282:=Tryz.func241.trans (congrArg some (by kernel_rfl))
 f283:=Tryz.func232.trans (congrArg some (by kernel_rfl))
 f284:=Tryz.func233.trans (congrArg some (by kernel_rfl))
 f285:=Tryz.func234.trans (congrArg some (by kernel_rfl))
 f286:=Tryz.func235.trans (congrArg some (by kernel_rfl))
 f287:=Tryz.func273.trans (congrArg some (by kernel_rfl))
 f316:=Tryz.func274.trans (congrArg some (by kernel_rfl))
 f317:=Tryz.func268.trans (congrArg some (by kernel_rfl))
 f318:=Tryz.func269.trans (congrArg some (by kernel_rfl))
 f319:=Tryz.func270.trans (congrArg some (by kernel_rfl))
 f320:=Tryz.func271.trans (congrArg some (by kernel_rfl))
 f321:=Tryz.func292.trans (congrArg some (by kernel_rfl))
 f322:=Tryz.func293.trans (congrArg some (by kernel_rfl))
 f337:=Tryz.func289.trans (congrArg some (by kernel_rfl))
 f338:=Tryz.func290.trans (congrArg some (by kernel_rfl))
 t0:=Tryz.underlying0
 a0:=Tryz.isAgg0
 z0:=Tryz.sizeOf0
 v0:=Tryz.zeroValue0
 t2:=Tryz.underlying2
 a2:=Tryz.isAgg2
 z2:=Tryz.sizeOf2
 v2:=Tryz.zeroValue2
 t3:=Tryz.underlying3
 a3:=Tryz.isAgg3
 z3:=Tryz.sizeOf3
 v3:=Tryz.zeroValue3
 t4:=Tryz.underlying4
 a4:=Tryz.isAgg4
 z4:=Tryz.sizeOf4
 v4:=Tryz.zeroValue4
 t5:=Tryz.underlying5
 a5:=Tryz.isAgg5
 z5:=Tryz.sizeOf5
 v5:=Tryz.zeroValue5
 t9:=Tryz.underlying9
 a9:=Tryz.isAgg9
 z9:=Tryz.sizeOf9
 v9:=Tryz.zeroValue9
 t20:=Tryz.underlying20
 a20:=Tryz.isAgg20
 z20:=Tryz.sizeOf20
 v20:=Tryz.zeroValue20
 t21:=Tryz.underlying21
 a21:=Tryz.isAgg21
 z21:=Tryz.sizeOf21
 v21:=Tryz.zeroValue21
 t37:=Tryz.underlying95
 a37:=Tryz.isAgg95
 z37:=Tryz.sizeOf95
 v37:=Tryz.zeroValue95
 t46:=Tryz.underlying163
 a46:=Tryz.isAgg163
 z46:=Tryz.sizeOf163
 v46:=Tryz.zeroValue163
 t51:=Tryz.underlying194
 a51:=Tryz.isAgg194
 z51:=Tryz.sizeOf194
 v51:=Tryz.zeroValue194
 t53:=Tryz.underlying196
 a53:=Tryz.isAgg196
 z53:=Tryz.sizeOf196
 v53:=Tryz.zeroValue196
 t75:=Tryz.underlying140
 a75:=Tryz.isAgg140
 z75:=Tryz.sizeOf140
 v75:=Tryz.zeroValue140
 t76:=Tryz.underlying141
 a76:=Tryz.isAgg141
 z76:=Tryz.sizeOf141
 v76:=Tryz.zeroValue141
 t85:=Tryz.underlying264
 a85:=Tryz.isAgg264
 z85:=Tryz.sizeOf264
 v85:=Tryz.zeroValue264
 t127:=Tryz.underlying144
 a127:=Tryz.isAgg144
 z127:=Tryz.sizeOf144
 v127:=Tryz.zeroValue144
 t143:=Tryz.underlying310
 a143:=Tryz.isAgg310
 z143:=Tryz.sizeOf310
 v143:=Tryz.zeroValue310
 t145:=Tryz.underlying312
 a145:=Tryz.isAgg312
 z145:=Tryz.sizeOf312
 v145:=Tryz.zeroValue312
 t167:=Tryz.underlying263
 a167:=Tryz.isAgg263
 z167:=Tryz.sizeOf263
 v167:=Tryz.zeroValue263
 t168:=Tryz.underlying266
 a168:=Tryz.isAgg266
 z168:=Tryz.sizeOf266
 v168:=Tryz.zeroValue266
 t171:=Tryz.underlying259
 a171:=Tryz.isAgg259
 z171:=Tryz.sizeOf259
 v171:=Tryz.zeroValue259
 t173:=Tryz.underlying261
 a173:=Tryz.isAgg261
 z173:=Tryz.sizeOf261
 v173:=Tryz.zeroValue261
 t175:=Tryz.underlying290
 a175:=Tryz.isAgg290
 z175:=Tryz.sizeOf290
 v175:=Tryz.zeroValue290
 t210:=Tryz.underlying294
 a210:=Tryz.isAgg294
 z210:=Tryz.sizeOf294
 v210:=Tryz.zeroValue294
 t212:=Tryz.underlying288
 a212:=Tryz.isAgg288
 z212:=Tryz.sizeOf288
 v212:=Tryz.zeroValue288
 t213:=Tryz.underlying289
 a213:=Tryz.isAgg289
 z213:=Tryz.sizeOf289
 t232:=Tryz.underlying316
 a232:=Tryz.isAgg316
 z232:=Tryz.sizeOf316
 v232:=Tryz.zeroValue316
 t233:=Tryz.underlying317
 a233:=Tryz.isAgg317
 z233:=Tryz.sizeOf317
 v233:=Tryz.zeroValue317
 g15:=by kernel_rfl
 g16:=by kernel_rfl
 g17:=by kernel_rfl
 g18:=by kernel_rfl
 g19:=by kernel_rfl
 t80:=Tryz.underlying99
 a80:=Tryz.isAgg99
 z80:=Tryz.sizeOf99
 v80:=Tryz.zeroValue99
 i0:=by kernel_rfl
 i2:=by kernel_rfl
 i3:=by kernel_rfl
 i4:=by kernel_rfl
 i5:=by kernel_rfl
 i9:=by kernel_rfl
 i20:=by kernel_rfl
 i21:=by kernel_rfl
 i37:=by kernel_rfl
 i46:=by kernel_rfl
 i51:=by kernel_rfl
 i53:=by kernel_rfl
 i75:=by kernel_rfl
 i76:=by kernel_rfl
 i80:=by kernel_rfl
 i85:=by kernel_rfl
 i127:=by kernel_rfl
 i143:=by kernel_rfl
 i145:=by kernel_rfl
 i167:=by kernel_rfl
 i168:=by kernel_rfl
 i171:=by kernel_rfl
 i173:=by kernel_rfl
 i175:=by kernel_rfl
 i210:=by kernel_rfl
 i212:=by kernel_rfl
 i232:=by kernel_rfl
 i233:=by kernel_rfl
 m15:=by kernel_rfl
 m16:=by kernel_rfl
 m17:=by kernel_rfl
 m18:=by kernel_rfl
 m19:=by kernel_rfl
 c0:=by kernel_rfl
 c2:=by kernel_rfl
 c3:=by kernel_rfl
 c4:=by kernel_rfl
 c5:=by kernel_rfl
 c9:=by kernel_rfl
 c20:=by kernel_rfl
 c21:=by kernel_rfl
 c37:=by kernel_rfl
 c46:=by kernel_rfl
 c51:=by kernel_rfl
 c53:=by kernel_rfl
 c75:=by kernel_rfl
 c76:=by kernel_rfl
 c80:=by kernel_rfl
 c85:=by kernel_rfl
 c127:=by kernel_rfl
 c143:=by kernel_rfl
 c145:=by kernel_rfl
 c167:=by kernel_rfl
 c168:=by kernel_rfl
 c171:=by kernel_rfl
 c173:=by kernel_rfl
 c175:=by kernel_rfl
 c210:=by kernel_rfl
 c212:=by kernel_rfl
 c213:=by kernel_rfl
 c232:=by kernel_rfl
 c233:=by kernel_rfl}
open Go.RowKit in
theorem Tryz.strconv_Atoi_ok(s:ByteArray)(hmax:s.size≤9223372036854775806)(v:Int)(h:Lib.atoiAll s.data.toList= .ok v)(w:World):
  Calls Tryz.prog 188 #[.string s] w fun e w'=>e= .returned (.tuple #[.int .i64 v,.nilIface])∧(w'=w∨∃t,w'=Lib.bytesWorld w 5 t):=Any.strconv_Atoi_ok A0c s hmax v h w
open Go.RowKit in
theorem Tryz.strconv_Atoi_syntax(s:ByteArray)(hlim:s.size≤281474976710656)(h:Lib.atoiAll s.data.toList= .«syntax»)(ev:Value)(w:World)(hv:w.cell? ⟨2,0,none⟩=some ev)(hev:ev= .nilIface∨∃te pe,ev= .iface te pe):
  Calls Tryz.prog 188 #[.string s] w fun e w'=>∃N,e= .returned (.tuple #[.int .i64 (0),.iface 266 (.pointer (some ⟨N,0,none⟩))])∧w.heap.size≤N∧w'.heap[N]? =some (.cells #[.string ⟨#[65,116,111,105]⟩,.string s,ev] 294 (0,0))∧Below w.heap.size w w':=Any.strconv_Atoi_syntax A0c s hlim h ev w hv hev
open Go.RowKit in
theorem Tryz.strconv_Atoi_range(s:ByteArray)(hlim:s.size≤281474976710656)(h:Lib.atoiAll s.data.toList= .range)(ev:Value)(w:World)(hv:w.cell? ⟨3,0,none⟩=some ev)(hev:ev= .nilIface∨∃te pe,ev= .iface te pe):
  Calls Tryz.prog 188 #[.string s] w fun e w'=>∃N,e= .returned (.tuple #[.int .i64 (Lib.atoiSat s.data.toList),.iface 266 (.pointer (some ⟨N,0,none⟩))])∧w.heap.size≤N∧w'.heap[N]? =some (.cells #[.string ⟨#[65,116,111,105]⟩,.string s,ev] 294 (0,0))∧Below w.heap.size w w':=Any.strconv_Atoi_range A0c s hlim h ev w hv hev
def Tryz.lays219_ren:Go.Shelf.Ren:=⟨fun|219=>236|217=>173|225=>214|224=>213|267=>272|266=>209|314=>291|n=>n,fun|9=>9|3=>3|4=>4|5=>5|46=>163|146=>307|51=>194|n=>n,fun|1=>0|n=>n⟩
theorem A8z:Go.Proofs.Lays.n219 Tryz.prog Tryz.lays219_ren:={
 mixed:=by kernel_rfl
 f217:=Tryz.func173.trans (congrArg some (by kernel_rfl))
 f219:=Tryz.func236.trans (congrArg some (by kernel_rfl))
 f224:=Tryz.func213.trans (congrArg some (by kernel_rfl))
 f225:=Tryz.func214.trans (congrArg some (by kernel_rfl))
 f266:=Tryz.func209.trans (congrArg some (by kernel_rfl))
 f267:=Tryz.func272.trans (congrArg some (by kernel_rfl))
 f314:=Tryz.func291.trans (congrArg some (by kernel_rfl))
 t3:=Tryz.underlying3
 a3:=Tryz.isAgg3
 z3:=Tryz.sizeOf3
 v3:=Tryz.zeroValue3
 t4:=Tryz.underlying4
 a4:=Tryz.isAgg4
 z4:=Tryz.sizeOf4
 v4:=Tryz.zeroValue4
 t5:=Tryz.underlying5
 a5:=Tryz.isAgg5
 z5:=Tryz.sizeOf5
 v5:=Tryz.zeroValue5
 t9:=Tryz.underlying9
 a9:=Tryz.isAgg9
 z9:=Tryz.sizeOf9
 v9:=Tryz.zeroValue9
 t46:=Tryz.underlying163
 a46:=Tryz.isAgg163
 z46:=Tryz.sizeOf163
 v46:=Tryz.zeroValue163
 t51:=Tryz.underlying194
 a51:=Tryz.isAgg194
 z51:=Tryz.sizeOf194
 v51:=Tryz.zeroValue194
 t146:=Tryz.underlying307
 a146:=Tryz.isAgg307
 z146:=Tryz.sizeOf307
 v146:=Tryz.zeroValue307
 g1:=by kernel_rfl}
open Go.RowKit Go.Lib in
theorem Tryz.stringslite_Index_one(s:ByteArray)(c:UInt8)(w:World):
  Calls Tryz.prog 236 #[.string s,.string ⟨#[c]⟩] w fun e w'=>e= .returned (.int .i64 (Lib.indexByte s.data.toList c))∧w'=w:=Any.stringslite_Index_one A8z s c w
def Tryz.lays99_ren:Go.Shelf.Ren:=⟨fun|99=>186|206=>211|n=>n,fun|9=>9|4=>4|3=>3|n=>n,fun|n=>n⟩
theorem B0r:Go.Proofs.Lays.n99 Tryz.prog Tryz.lays99_ren:={
 mixed:=by kernel_rfl
 f99:=Tryz.func186.trans (congrArg some (by kernel_rfl))
 f206:=Tryz.func211.trans (congrArg some (by kernel_rfl))
 t3:=Tryz.underlying3
 a3:=Tryz.isAgg3
 z3:=Tryz.sizeOf3
 v3:=Tryz.zeroValue3
 t4:=Tryz.underlying4
 a4:=Tryz.isAgg4
 z4:=Tryz.sizeOf4
 v4:=Tryz.zeroValue4
 t9:=Tryz.underlying9
 a9:=Tryz.isAgg9
 z9:=Tryz.sizeOf9
 v9:=Tryz.zeroValue9}
open Go.RowKit Go.Lib in
theorem Tryz.strings_HasPrefix(s p:ByteArray)(w:World):
  Calls Tryz.prog 186 #[.string s,.string p] w fun e w'=>e= .returned (.bool (Lib.hasPrefix s.data.toList p.data.toList))∧w'=w:=Any.strings_HasPrefix B0r s p w
def Tryz.lays100_ren:Go.Shelf.Ren:=⟨fun|100=>149|207=>184|n=>n,fun|9=>9|4=>4|3=>3|n=>n,fun|n=>n⟩
theorem A8q:Go.Proofs.Lays.n100 Tryz.prog Tryz.lays100_ren:={
 mixed:=by kernel_rfl
 f100:=Tryz.func149.trans (congrArg some (by kernel_rfl))
 f207:=Tryz.func184.trans (congrArg some (by kernel_rfl))
 t3:=Tryz.underlying3
 a3:=Tryz.isAgg3
 z3:=Tryz.sizeOf3
 v3:=Tryz.zeroValue3
 t4:=Tryz.underlying4
 a4:=Tryz.isAgg4
 z4:=Tryz.sizeOf4
 v4:=Tryz.zeroValue4
 t9:=Tryz.underlying9
 a9:=Tryz.isAgg9
 z9:=Tryz.sizeOf9
 v9:=Tryz.zeroValue9}
open Go.RowKit Go.Lib in
theorem Tryz.strings_HasSuffix(s p:ByteArray)(w:World)(hs:s.size≤9223372036854775807):
  Calls Tryz.prog 149 #[.string s,.string p] w fun e w'=>e= .returned (.bool (Lib.hasSuffix s.data.toList p.data.toList))∧w'=w:=Any.strings_HasSuffix A8q s p w hs
def Tryz.lays101_ren:Go.Shelf.Ren:=⟨fun|101=>185|208=>215|206=>211|n=>n,fun|9=>9|4=>4|3=>3|n=>n,fun|n=>n⟩
theorem A8r:Go.Proofs.Lays.n101 Tryz.prog Tryz.lays101_ren:={
 mixed:=by kernel_rfl
 f101:=Tryz.func185.trans (congrArg some (by kernel_rfl))
 f206:=Tryz.func211.trans (congrArg some (by kernel_rfl))
 f208:=Tryz.func215.trans (congrArg some (by kernel_rfl))
 t3:=Tryz.underlying3
 a3:=Tryz.isAgg3
 z3:=Tryz.sizeOf3
 v3:=Tryz.zeroValue3
 t4:=Tryz.underlying4
 a4:=Tryz.isAgg4
 z4:=Tryz.sizeOf4
 v4:=Tryz.zeroValue4
 t9:=Tryz.underlying9
 a9:=Tryz.isAgg9
 z9:=Tryz.sizeOf9
 v9:=Tryz.zeroValue9}
open Go.RowKit Go.Lib in
theorem Tryz.strings_TrimPrefix(s p:ByteArray)(w:World):
  Calls Tryz.prog 185 #[.string s,.string p] w fun e w'=>e= .returned (.string ⟨(Lib.trimPrefix s.data.toList p.data.toList).toArray⟩)∧w'=w:=Any.strings_TrimPrefix A8r s p w
def Tryz.lays102_ren:Go.Shelf.Ren:=⟨fun|102=>148|209=>183|207=>184|n=>n,fun|9=>9|4=>4|3=>3|n=>n,fun|n=>n⟩
theorem A8s:Go.Proofs.Lays.n102 Tryz.prog Tryz.lays102_ren:={
 mixed:=by kernel_rfl
 f102:=Tryz.func148.trans (congrArg some (by kernel_rfl))
 f207:=Tryz.func184.trans (congrArg some (by kernel_rfl))
 f209:=Tryz.func183.trans (congrArg some (by kernel_rfl))
 t3:=Tryz.underlying3
 a3:=Tryz.isAgg3
 z3:=Tryz.sizeOf3
 v3:=Tryz.zeroValue3
 t4:=Tryz.underlying4
 a4:=Tryz.isAgg4
 z4:=Tryz.sizeOf4
 v4:=Tryz.zeroValue4
 t9:=Tryz.underlying9
 a9:=Tryz.isAgg9
 z9:=Tryz.sizeOf9
 v9:=Tryz.zeroValue9}
open Go.RowKit Go.Lib in
theorem Tryz.strings_TrimSuffix(s p:ByteArray)(w:World)(hs:s.size≤9223372036854775807):
  Calls Tryz.prog 148 #[.string s,.string p] w fun e w'=>e= .returned (.string ⟨(Lib.trimSuffix s.data.toList p.data.toList).toArray⟩)∧w'=w:=Any.strings_TrimSuffix A8s s p w hs
def Tryz.lays153_ren:Go.Shelf.Ren:=⟨fun|153=>146|152=>178|226=>179|227=>180|228=>181|137=>138|119=>212|224=>213|225=>214|217=>173|266=>209|n=>n,fun|9=>9|3=>3|4=>4|5=>5|21=>21|117=>203|116=>202|0=>0|46=>163|124=>234|n=>n,fun|n=>n⟩
theorem A8y:Go.Proofs.Lays.n153 Tryz.prog Tryz.lays153_ren:={
 mixed:=by kernel_rfl
 f119:=Tryz.func212.trans (congrArg some (by kernel_rfl))
 f137:=Tryz.func138.trans (congrArg some (by kernel_rfl))
 f152:=Tryz.func178.trans (congrArg some (by kernel_rfl))
 f153:=Tryz.func146.trans (congrArg some (by kernel_rfl))
 f217:=Tryz.func173.trans (congrArg some (by kernel_rfl))
 f224:=Tryz.func213.trans (congrArg some (by kernel_rfl))
 f225:=Tryz.func214.trans (congrArg some (by kernel_rfl))
 f226:=Tryz.func179.trans (congrArg some (by kernel_rfl))
 f227:=Tryz.func180.trans (congrArg some (by kernel_rfl))
 f228:=Tryz.func181.trans (congrArg some (by kernel_rfl))
 f266:=Tryz.func209.trans (congrArg some (by kernel_rfl))
 t0:=Tryz.underlying0
 a0:=Tryz.isAgg0
 z0:=Tryz.sizeOf0
 v0:=Tryz.zeroValue0
 t3:=Tryz.underlying3
 a3:=Tryz.isAgg3
 z3:=Tryz.sizeOf3
 v3:=Tryz.zeroValue3
 t4:=Tryz.underlying4
 a4:=Tryz.isAgg4
 z4:=Tryz.sizeOf4
 v4:=Tryz.zeroValue4
 t5:=Tryz.underlying5
 a5:=Tryz.isAgg5
 z5:=Tryz.sizeOf5
 v5:=Tryz.zeroValue5
 t9:=Tryz.underlying9
 a9:=Tryz.isAgg9
 z9:=Tryz.sizeOf9
 v9:=Tryz.zeroValue9
 t21:=Tryz.underlying21
 a21:=Tryz.isAgg21
 z21:=Tryz.sizeOf21
 v21:=Tryz.zeroValue21
 t46:=Tryz.underlying163
 a46:=Tryz.isAgg163
 z46:=Tryz.sizeOf163
 v46:=Tryz.zeroValue163
 t116:=Tryz.underlying202
 a116:=Tryz.isAgg202
 z116:=Tryz.sizeOf202
 t117:=Tryz.underlying203
 a117:=Tryz.isAgg203
 z117:=Tryz.sizeOf203
 v117:=Tryz.zeroValue203
 t124:=Tryz.underlying234
 a124:=Tryz.isAgg234
 z124:=Tryz.sizeOf234
 v124:=Tryz.zeroValue234}
def Tryz.lays150_ren:Go.Shelf.Ren:=⟨fun|150=>137|153=>146|152=>178|226=>179|227=>180|228=>181|137=>138|119=>212|224=>213|225=>214|217=>173|266=>209|n=>n,fun|9=>9|4=>4|3=>3|5=>5|21=>21|117=>203|116=>202|0=>0|46=>163|124=>234|n=>n,fun|n=>n⟩
theorem A8x:Go.Proofs.Lays.n150 Tryz.prog Tryz.lays150_ren:={
 mixed:=by kernel_rfl
 f119:=Tryz.func212.trans (congrArg some (by kernel_rfl))
 f137:=Tryz.func138.trans (congrArg some (by kernel_rfl))
 f150:=Tryz.func137.trans (congrArg some (by kernel_rfl))
 f152:=Tryz.func178.trans (congrArg some (by kernel_rfl))
 f153:=Tryz.func146.trans (congrArg some (by kernel_rfl))
 f217:=Tryz.func173.trans (congrArg some (by kernel_rfl))
 f224:=Tryz.func213.trans (congrArg some (by kernel_rfl))
 f225:=Tryz.func214.trans (congrArg some (by kernel_rfl))
 f226:=Tryz.func179.trans (congrArg some (by kernel_rfl))
 f227:=Tryz.func180.trans (congrArg some (by kernel_rfl))
 f228:=Tryz.func181.trans (congrArg some (by kernel_rfl))
 f266:=Tryz.func209.trans (congrArg some (by kernel_rfl))
 t0:=Tryz.underlying0
 a0:=Tryz.isAgg0
 z0:=Tryz.sizeOf0
 v0:=Tryz.zeroValue0
 t3:=Tryz.underlying3
 a3:=Tryz.isAgg3
 z3:=Tryz.sizeOf3
 v3:=Tryz.zeroValue3
 t4:=Tryz.underlying4
 a4:=Tryz.isAgg4
 z4:=Tryz.sizeOf4
 v4:=Tryz.zeroValue4
 t5:=Tryz.underlying5
 a5:=Tryz.isAgg5
 z5:=Tryz.sizeOf5
 v5:=Tryz.zeroValue5
 t9:=Tryz.underlying9
 a9:=Tryz.isAgg9
 z9:=Tryz.sizeOf9
 v9:=Tryz.zeroValue9
 t21:=Tryz.underlying21
 a21:=Tryz.isAgg21
 z21:=Tryz.sizeOf21
 v21:=Tryz.zeroValue21
 t46:=Tryz.underlying163
 a46:=Tryz.isAgg163
 z46:=Tryz.sizeOf163
 v46:=Tryz.zeroValue163
 t116:=Tryz.underlying202
 a116:=Tryz.isAgg202
 z116:=Tryz.sizeOf202
 t117:=Tryz.underlying203
 a117:=Tryz.isAgg203
 z117:=Tryz.sizeOf203
 v117:=Tryz.zeroValue203
 t124:=Tryz.underlying234
 a124:=Tryz.isAgg234
 z124:=Tryz.sizeOf234
 v124:=Tryz.zeroValue234}
open Go.RowKit Go.Lib in
theorem Tryz.strings_IndexAny_laid(s chars:ByteArray)(w:World)(hs:s.size<4294967281)(hcs:chars.size<4294967281)(has: ∀(j:Nat) b,s.data.toList[j]? =some b→b.toNat<128)(hac: ∀(j:Nat) b,chars.data.toList[j]? =some b→b.toNat<128):
  Calls Tryz.prog 146 #[.string s,.string chars] w fun e w'=>e= .returned (.int .i64 (Lib.indexAny s.data.toList chars.data.toList))∧Below w.heap.size w w':=Any.strings_IndexAny_laid A8y (by kernel_rfl) s chars w hs hcs has hac
open Go.RowKit Go.Lib in
theorem Tryz.strings_ContainsAny_laid(s chars:ByteArray)(w:World)(hs:s.size<4294967281)(hcs:chars.size<4294967281)(has: ∀(j:Nat) b,s.data.toList[j]? =some b→b.toNat<128)(hac: ∀(j:Nat) b,chars.data.toList[j]? =some b→b.toNat<128):
  Calls Tryz.prog 137 #[.string s,.string chars] w fun e w'=>e= .returned (.bool (Lib.containsAny s.data.toList chars.data.toList))∧Below w.heap.size w w':=Any.strings_ContainsAny_laid A8x (by kernel_rfl) s chars w hs hcs has hac
end Go.Proofs
end
section
namespace Go.Lexs
open Go.Av
theorem B8f(s:ByteArray)(i:Int):W4 s i=nth (B s) i.toNat:=rfl
end Go.Lexs
end
section
namespace Go.Lin
open Go Go.Av Go.Lexs
abbrev dec(n:Nat):List UInt8:=Lib.decDigits n
theorem A31{n:Nat}(h:n<10):dec n= [UInt8.ofNat (48+n)]:=by rw[dec,Lib.decDigits,dif_pos h]
theorem A5l{n:Nat}(h: ¬n<10):dec n=dec (n / 10)++[UInt8.ofNat (48+n % 10)]:=by rw[dec,Lib.decDigits,dif_neg h]
theorem A0l{d:Nat}(h:d<10):(UInt8.ofNat (48+d)).toNat=48+d:=by
 rw[UInt8.toNat_ofNat'];omega
theorem P0(n:Nat): ∀c∈dec n,48≤c.toNat∧c.toNat≤57:=by
 induction n using Nat.strongRecOn with
 |ind n ih=>
  intro c hc
  by_cases h:n<10
  ·rw[A31 h,C9q]at hc;subst hc;rw[A0l h];omega
  ·rw[A5l h]at hc
   rcases C9p.1 hc with g|g
   ·exact ih (n / 10) (by omega) c g
   ·rw[C9q]at g;subst g;rw[A0l (by omega)];omega
theorem A76(n:Nat):dec n≠[]:=by
 by_cases h:n<10
 ·rw[A31 h];simp
 ·rw[A5l h];simp
theorem A42(k n:Nat)(h:n<10 ^ (k+1)):(dec n).length≤k+1:=by
 induction k generalizing n with
 |zero=>rw[A31 (by omega)];simp
 |succ k ih=>
  by_cases hn:n<10
  ·rw[A31 hn];simp
  ·rw[A5l hn,C9V,C9X]
   have:=ih (n / 10) (by rw[Nat.pow_succ]at h;omega)
   omega
theorem A5m(l:List UInt8)(d:Nat)(hd:d<10): ∀(acc u:Nat),Lib.parseUint10 acc l= .ok u→u*10+d<18446744073709551616→Lib.parseUint10 acc (l++[UInt8.ofNat (48+d)])= .ok (u*10+d):=by
 induction l with
 |nil=>
  intro acc u h hu
  simp only[Lib.parseUint10]at h
  injection h with h
  subst h
  simp only[D0b,Lib.parseUint10,A0l hd]
  rw[if_pos (by omega),if_neg (by omega),if_neg (by omega)]
  congr 1;omega
 |cons c l ih=>
  intro acc u h hu
  simp only[Lib.parseUint10,D0a]at h⊢
  split at h
  ·rename_i h1
   rw[if_pos h1]
   split at h
   ·cases h
   ·rename_i h2
    rw[if_neg h2]
    split at h
    ·cases h
    ·rename_i h3
     rw[if_neg h3]
     exact ih _ u h hu
  ·cases h
theorem B3c(n:Nat)(h:n<18446744073709551616):Lib.parseUint10 0 (dec n)= .ok n:=by
 induction n using Nat.strongRecOn with
 |ind n ih=>
  by_cases h1:n<10
  ·rw[A31 h1]
   have:=A5m [] n h1 0 0 rfl (by omega)
   simpa using this
  ·rw[A5l h1]
   have:=A5m (dec (n / 10)) (n % 10) (by omega) 0 (n / 10) (ih _ (by omega) (by omega)) (by omega)
   rw[this];congr 1;omega
theorem A9j(n:Nat)(h:n<9223372036854775808):Lib.atoiAll (dec n)= .ok (n:Int):=by
 cases hd:dec n with
 |nil=>exact absurd hd (A76 n)
 |cons c r=>
  have hc:=P0 n c (by rw[hd];exact C9a ..)
  have hp:=B3c n (by omega)
  rw[hd]at hp
  unfold Lib.atoiAll
  simp only[]
  rw[if_neg (by omega)]
  have hm:Lib.parseMag (c::r)= .ok n:=by unfold Lib.parseMag;rw[if_neg (by simp)];exact hp
  rw[hm]
  simp only[]
  rw[if_neg (by omega),if_neg (by omega),if_neg (by omega)]
def B8g(l:List UInt8):Int:=l.foldl (fun n c=>10*n+(c.toNat:Int)-48) 0
def B8h(l:List UInt8):Int:=B8g (l.take 14)
theorem B5X(n:Nat):B8g (dec n)=n:=by
 induction n using Nat.strongRecOn with
 |ind n ih=>
  by_cases h:n<10
  ·rw[A31 h];simp only[B8g,List.foldl_cons,List.foldl_nil,A0l h];omega
  ·rw[A5l h]
   have e:=ih (n / 10) (by omega)
   unfold B8g at e⊢
   rw[D0H,e]
   simp only[List.foldl_cons,List.foldl_nil,A0l (show n % 10<10 by omega)]
   omega
theorem A9k(n:Nat)(h:n<100000000000000):B8h (dec n)=n:=by
 unfold B8h
 rw[C9e (A42 13 n (by omega)),B5X]
def S5(f:Bool)(t:LTm):List UInt8:=(if t.c<0 then [45]else if f=true then []else [43])++((if t.c.natAbs=1 then []else dec t.c.natAbs++[42])++B t.v)
def K8:Bool→List LTm→List UInt8
 |_,[]=>[]
 |f,t::l=>S5 f t++K8 false l
def A0A(f:Bool)(k:Int):List UInt8:=(if k<0 then [45]else if f=true then []else [43])++dec k.natAbs
def R0(a:LinV):List UInt8:=if a.t= []∨a.k≠0 then A0A a.t.isEmpty a.k else []
def L7(a:LinV):List UInt8:=K8 true a.t++R0 a
def F1(a:LinV):List UInt8:=L7 a++if a.e=true then [61,48]else [62,61,48]
theorem A9l(l:List LTm)(t:LTm): ∀f,K8 f (l++[t])=K8 f l++S5 (f&&l.isEmpty) t:=by
 induction l with
 |nil=>intro f;simp[K8]
 |cons x l ih=>intro f;simp[K8,ih]
def sgn(c:UInt8):Bool:=c==43||c==45
def O5(l:List UInt8):List (List UInt8):=match l with
 | []=>[]
 |x::r=>(x::r.takeWhile (!sgn ·))::O5 (r.dropWhile (!sgn ·))
termination_by l.length
decreasing_by
 have:=(List.dropWhile_sublist (!sgn ·) (l:=r)).length_le
 simp only[C9U];omega
theorem A2m:O5 []= []:=by unfold O5;rfl
theorem A1l(x:UInt8)(r:List UInt8):O5 (x::r)=(x::r.takeWhile (!sgn ·))::O5 (r.dropWhile (!sgn ·)):=by rw[O5]
def Sg(l:List UInt8):Prop:=∀c r,l=c::r→sgn c=true
theorem R5{p:UInt8→Bool}{l R:List UInt8}(h: ∀c∈l,p c=true)(hR: ∀c r,R=c::r→p c=false):(l++R).takeWhile p=l∧(l++R).dropWhile p=R:=by
 induction l with
 |nil=>
  cases R with
  |nil=>simp
  |cons c r=>simp[hR c r rfl]
 |cons x l ih=>
  have h1:=h x (C9a ..)
  have h2:=ih (fun c hc=>h c (C9h _ hc))
  simp[h1,h2.1,h2.2]
theorem A5n{x:UInt8}{l R:List UInt8}(h: ∀c∈l,sgn c=false)(hR:Sg R):O5 (x::(l++R))=(x::l)::O5 R:=by
 have:=R5 (p:=(!sgn ·)) (l:=l) (R:=R) (fun c hc=>by simp[h c hc]) (fun c r e=>by simp[hR c r e])
 rw[A1l,this.1,this.2]
def A0B(l:List UInt8):Option (List UInt8×List UInt8):=if(42:UInt8)∈l then some (l.takeWhile (· != 42),(l.dropWhile (· != 42)).drop 1)else none
def P1(l:List UInt8):Bool:=decide (l≠[])&&U6 (nth l 0)
def i7(x:List UInt8):Bool×List UInt8:=
 let b:=Lib.trimPrefix x [43]
 if Lib.hasPrefix b [45]=true then(true,b.drop 1)else(false,b)
def y4(b:List UInt8):Option (List UInt8×List UInt8):=match A0B b with
 |some (c,n)=>some (c,n)
 |none=>if P1 b=true then some (b,[])else if b= []then none else some ([49],b)
def M4(x:List UInt8):Option (List UInt8×Int):=match y4 (i7 x).2 with
 |none=>none
 |some (c,n)=>match Lib.atoiAll c with
  | .ok v=>some (n,IntKind.i64.wrap ((if(i7 x).1=true then-1 else 1)*v))
  |_=>none
def A64(x:List UInt8):Bool×List UInt8:=match x with
 | []=>(false,[])
 |c::r=>if c=45 then(true,r)else if c=43 then(false,r)else(false,c::r)
def A2n(x:List UInt8):List UInt8×Int:=
 let b:=(A64 x).2
 let p:Int×List UInt8:=match A0B b with
  |some (c,n)=>(B8h c,n)
  |none=>(1,b)
 let q:Int×List UInt8:=if p.2= []∨P1 p.2=true then(B8h p.2,[])else p
 (q.2,if(A64 x).1=true then-q.1 else q.1)
def A6Z(a:LinV)(p:List UInt8×Int):LinV:=if p.1= []then {a with k:=p.2}else {a with t:=a.t++[⟨S p.1,p.2⟩]}
theorem B2S{p:Int→Bool}{l:List UInt8}(h:l.all (ofB p)=true): ∀c∈l,p (c.toNat:Int)=true:=fun c hc=>C90.1 h c hc
theorem A5o{l:List UInt8}(h:H8 l=true): ∀c∈l,33≤c.toNat∧c.toNat≤126∧c.toNat≠43∧c.toNat≠45∧c.toNat≠42∧c.toNat≠62∧c.toNat≠61:=fun c hc=>by
 unfold H8 at h
 simp only[C9c]at h
 have:=(A60 _).1 (B2S h.2 c hc)
 omega
theorem A3I{l:List UInt8}(h:H8 l=true):l≠[]:=by
 unfold H8 at h
 simp only[C9c,C9l]at h
 exact h.1.1.1
theorem A65{l:List UInt8}(h:H8 l=true):P1 l=false:=by
 unfold H8 at h
 simp only[C9c,Bool.not_eq_true']at h
 unfold P1
 rw[h.1.2,Bool.and_false]
theorem C2L{c:UInt8}(h1:c.toNat≠43)(h2:c.toNat≠45):sgn c=false:=by
 unfold sgn
 simp only[Bool.or_eq_false_iff,beq_eq_false_iff_ne]
 exact⟨fun e=>h1 (by rw[e];rfl),fun e=>h2 (by rw[e];rfl)⟩
def A1U(t:LTm):List UInt8:=(if t.c.natAbs=1 then []else dec t.c.natAbs++[42])++B t.v
theorem B2T(t:LTm)(h:H8 (B t.v)=true):A1U t≠[]:=by
 unfold A1U
 have:=A3I h
 intro e
 exact this (List.append_eq_nil_iff.1 e).2
theorem A1m(t:LTm)(h:H8 (B t.v)=true): ∀c∈A1U t,c.toNat≠43∧c.toNat≠45∧c.toNat≠62∧c.toNat≠61:=fun c hc=>by
 unfold A1U at hc
 rcases C9p.1 hc with g|g
 ·split at g
  ·cases g
  ·rcases C9p.1 g with g|g
   ·have:=P0 _ c g;omega
   ·rw[C9q]at g;subst g;decide
 ·have:=A5o h c g;omega
theorem A4W(s:List UInt8)(b R:List UInt8)(hs:s= []∨s= [43]∨s= [45])(hb:b≠[])(hm: ∀c∈b,c.toNat≠43∧c.toNat≠45)(hR:Sg R):O5 (s++b++R)=(s++b)::O5 R:=by
 have hn: ∀c∈b,sgn c=false:=fun c hc=>C2L (hm c hc).1 (hm c hc).2
 rcases hs with rfl|hs
 ·cases b with
  |nil=>exact absurd rfl hb
  |cons x b=>exact A5n (x:=x) (fun c hc=>hn c (C9h _ hc)) hR
 ·rcases hs with rfl|rfl<;>exact A5n hn hR
theorem sign_or(f:Bool)(c:Int):(if c<0 then [45]else if f=true then([]:List UInt8)else [43])= []∨(if c<0 then [45]else if f=true then([]:List UInt8)else [43])= [43]∨(if c<0 then [45]else if f=true then([]:List UInt8)else [43])= [45]:=by
 split
 ·exact .inr (.inr rfl)
 ·split
  ·exact .inl rfl
  ·exact .inr (.inl rfl)
theorem B2U(f:Bool)(c:Int){b:List UInt8}(hb:b≠[])(hm: ∀x∈b,x.toNat≠43∧x.toNat≠45):
    i7 ((if c<0 then [45]else if f=true then []else [43])++b)=(decide (c<0),b)∧A64 ((if c<0 then [45]else if f=true then []else [43])++b)=(decide (c<0),b):=by
  cases b with
  |nil=>exact absurd rfl hb
  |cons x b=>
    have hx:=hm x (C9a ..)
    have n43:x≠43:=fun e=>hx.1 (by rw[e];rfl)
    have n45:x≠45:=fun e=>hx.2 (by rw[e];rfl)
    by_cases h:c<0
    · rw[if_pos h,C9R h]
      constructor
      · simp[i7,Lib.trimPrefix,Lib.hasPrefix]
      · simp[A64]
    · rw[if_neg h,C9S h]
      cases f with
      | true => constructor
                · simp[i7,Lib.trimPrefix,Lib.hasPrefix,n43.symm,n45.symm]
                · simp[A64,n43,n45]
      | false => constructor
                 · simp[i7,Lib.trimPrefix,Lib.hasPrefix,n45.symm]
                 · simp[A64]
theorem B5Y{d n:List UInt8}(h: ∀c∈d,c.toNat≠42):A0B (d++[42]++n)=some (d,n):=by
 unfold A0B
 have e:=R5 (p:=(· != 42)) (l:=d) (R:=42::n) (fun c hc=>by
  have:=h c hc
  simp only[bne_iff_ne,ne_eq];intro e;exact this (by rw[e];rfl)) (fun c r e=>by cases e;decide)
 rw[if_pos (by simp),D0D,List.singleton_append,e.1,e.2];rfl
theorem B2V{d:List UInt8}(h: ∀c∈d,c.toNat≠42):A0B d=none:=by
 unfold A0B
 rw[if_neg (fun hm=>h _ hm rfl)]
theorem signed{c:Int}:(if decide (c<0)=true then-1 else 1)*(c.natAbs:Int)=c:=by
 by_cases h:c<0
 ·rw[C9R h,if_pos rfl];omega
 ·rw[C9S h,if_neg (by decide)];omega
theorem A77{c:Int}:(if decide (c<0)=true then-(c.natAbs:Int)else(c.natAbs:Int))=c:=by
 by_cases h:c<0
 ·rw[C9R h,if_pos rfl];omega
 ·rw[C9S h,if_neg (by decide)];omega
theorem A78{n:Int}(h0: -9223372036854775808≤n)(h1:n≤9223372036854775807):IntKind.i64.wrap n=n:=by simp(disch:=omega) only[A0]
theorem B1K(f:Bool)(t:LTm)(hn:H8 (B t.v)=true)(h0:t.c≠0)(hc:t.c.natAbs≤1048576):M4 (S5 f t)=some (B t.v,t.c)∧A2n (S5 f t)=(B t.v,t.c):=by
 have hb:=B2U f t.c (B2T t hn) (fun x hx=>⟨(A1m t hn x hx).1,(A1m t hn x hx).2.1⟩)
 have e:S5 f t=(if t.c<0 then [45]else if f=true then []else [43])++A1U t:=rfl
 unfold M4 A2n
 rw[e,hb.1,hb.2]
 by_cases h1:t.c.natAbs=1
 ·have et:A1U t=B t.v:=by unfold A1U;rw[if_pos h1,D0b]
  have hcut:A0B (B t.v)=none:=B2V fun c hc=>(A5o hn c hc).2.2.2.2.1
  have e1:Lib.atoiAll [49]= .ok 1:=by decide
  have e2:(if decide (t.c<0)=true then-1 else 1)*(1:Int)=t.c:=by have:=signed (c:=t.c);rwa [h1]at this
  have e3:(if decide (t.c<0)=true then-(1:Int)else 1)=t.c:=by have:=A77 (c:=t.c);rwa [h1]at this
  simp only[et,y4,hcut,A65 hn,if_neg (A3I hn),C9f,if_false,e1,e2]
  refine⟨by rw[A78 (by omega) (by omega)],?_⟩
  rw[if_neg (by simp[A3I hn])]
  simp only[e3]
 ·have et:A1U t=dec t.c.natAbs++[42]++B t.v:=by unfold A1U;rw[if_neg h1]
  have hcut:A0B (dec t.c.natAbs++[42]++B t.v)=some (dec t.c.natAbs,B t.v):=B5Y fun c hc=>by have:=P0 _ c hc;omega
  simp only[et,y4,hcut,A9j t.c.natAbs (by omega),signed]
  refine⟨by rw[A78 (by omega) (by omega)],?_⟩
  rw[if_neg (by simp[A3I hn,A65 hn])]
  simp only[A9k t.c.natAbs (by omega),A77]
theorem B5Z(n:Nat):P1 (dec n)=true:=by
 unfold P1
 cases h:dec n with
 |nil=>exact absurd h (A76 n)
 |cons c r=>
  have:=P0 n c (by rw[h];exact C9a ..)
  have e:nth (c::r) 0=(c.toNat:Int):=rfl
  rw[e]
  simp[U6];omega
theorem A2F(f:Bool)(k:Int)(hk:k.natAbs≤1099511627776):M4 (A0A f k)=some ([],k)∧A2n (A0A f k)=([],k):=by
 have hm: ∀x∈dec k.natAbs,x.toNat≠43∧x.toNat≠45:=fun x hx=>by have:=P0 _ x hx;omega
 have hb:=B2U f k (A76 k.natAbs) hm
 have e:A0A f k=(if k<0 then [45]else if f=true then []else [43])++dec k.natAbs:=rfl
 have hcut:A0B (dec k.natAbs)=none:=B2V fun c hc=>by have:=P0 _ c hc;omega
 unfold M4 A2n
 rw[e,hb.1,hb.2]
 simp only[y4,hcut,B5Z,if_true,A9j k.natAbs (by omega),signed]
 refine⟨by rw[A78 (by omega) (by omega)],?_⟩
 rw[if_pos (.inr trivial)]
 simp only[A9k k.natAbs (by omega),A77]
theorem A1n{l:List LTm}(h:l4 l=true){i:Nat}(hi:i<l.length):H8 (B l[i].v)=true∧l[i].c≠0∧l[i].c.natAbs≤1048576∧(∀hj:i-1<l.length,0<i→j8 l[i-1].v l[i].v=true):=by
 unfold l4 at h
 have:=C90.1 h i (List.mem_range.2 hi)
 unfold A6Y N1 at this
 have e:l.getD i default=l[i]:=by simp[hi]
 have e2: ∀hj:i-1<l.length,l.getD (i-1) default=l[i-1]:=fun hj=>by simp[hj]
 rw[e]at this
 simp only[C9c,D0m,C9l]at this
 refine⟨this.1.1.1,this.1.2,by omega,fun hj h0=>?_⟩
 rcases this.1.1.2 with g|g
 ·omega
 ·rw[e2 hj]at g;exact g
theorem M7{l:List LTm}(h:l4 l=true): ∀t∈l,H8 (B t.v)=true∧t.c≠0∧t.c.natAbs≤1048576:=fun t ht=>by
 obtain⟨i,hi,rfl⟩:=List.getElem_of_mem ht
 have:=A1n h hi
 exact⟨this.1,this.2.1,this.2.2.1⟩
theorem B8i(k:Int):Sg (A0A false k):=fun c r e=>by
 unfold A0A at e
 split at e
 ·cases e;decide
 ·cases e;decide
theorem B5a(t:LTm)(l:List UInt8):Sg (S5 false t++l):=fun c r e=>by
 unfold S5 at e
 split at e
 ·cases e;decide
 ·cases e;decide
theorem A1F: ∀(l:List LTm) (f:Bool) (R:List UInt8),(∀t∈l,H8 (B t.v)=true∧t.c≠0∧t.c.natAbs≤1048576)→Sg R→
  ∃ps,O5 (K8 f l++R)=ps++O5 R∧ps.mapM M4=some (l.map fun t=>(B t.v,t.c))∧ps.map A2n=l.map fun t=>(B t.v,t.c)
 | [],f,R,_,_=>⟨[],by simp[K8],rfl,rfl⟩
 |t::l,f,R,h,hR=>by
  have ht:=h t (C9a ..)
  obtain⟨ps,h1,h2,h3⟩:=A1F l false R (fun x hx=>h x (C9h _ hx)) hR
  have hp:=B1K f t ht.1 ht.2.1 ht.2.2
  have hsg:Sg (K8 false l++R):=by
   cases l with
   |nil=>exact hR
   |cons y l=>rw[K8,D0D];exact B5a y _
  refine⟨S5 f t::ps,?_,?_,?_⟩
  ·rw[K8,D0D]
   have e:S5 f t=(if t.c<0 then [45]else if f=true then []else [43])++A1U t:=rfl
   have:=A4W (if t.c<0 then [45]else if f=true then []else [43]) (A1U t) (K8 false l++R) (sign_or f t.c) (B2T t ht.1) (fun c hc=>⟨(A1m t ht.1 c hc).1,(A1m t ht.1 c hc).2.1⟩) hsg
   rw[←e]at this
   rw[this,h1];rfl
  ·rw[List.mapM_cons,hp.1,h2];rfl
  ·rw[D0g,hp.2,h3];rfl
def A1G(a:LinV)(ps:List (List UInt8×Int)):LinV:=ps.foldl A6Z a
theorem A3J(l:List LTm): ∀(a:LinV),(∀t∈l,H8 (B t.v)=true)→A1G a (l.map fun t=>(B t.v,t.c))= {a with t:=a.t++l}:=by
 induction l with
 |nil=>intro a _;simp[A1G]
 |cons x l ih=>
  intro a h
  have hx:=A3I (h x (C9a ..))
  unfold A1G at ih⊢
  rw[D0g,List.foldl_cons]
  have e:A6Z a (B x.v,x.c)= {a with t:=a.t++[x]}:=by unfold A6Z;rw[if_neg hx,S_B]
  rw[e,ih _ (fun t ht=>h t (C9h _ ht))]
  simp
theorem A9m(a:LinV)(ha:validL a=true): ∃ps,(O5 (L7 a)).mapM M4=some ps∧(O5 (L7 a)).map A2n=ps∧∀e,A1G ⟨[],0,e⟩ ps=⟨a.t,a.k,e⟩:=by
 unfold validL N1 at ha
 simp only[C9c,C9l]at ha
 have hk:a.k.natAbs≤1099511627776:=by omega
 have hm:=M7 ha.1.1
 have hd: ∀x∈dec a.k.natAbs,x.toNat≠43∧x.toNat≠45:=fun x hx=>by have:=P0 _ x hx;omega
 have hkon: ∀f,O5 (A0A f a.k)= [A0A f a.k]:=fun f=>by
  have:=A4W (if a.k<0 then [45]else if f=true then []else [43]) (dec a.k.natAbs) [] (sign_or f a.k) (A76 _) hd (fun c r e=>by cases e)
  rw[D0E,A2m]at this
  exact this
 by_cases hn:a.t= []
 ·have e:L7 a=A0A true a.k:=by unfold L7 R0;rw[hn];simp[K8]
  refine⟨[([],a.k)],?_,?_,fun e=>?_⟩
  ·rw[e,hkon,List.mapM_cons,(A2F true a.k hk).1];rfl
  ·rw[e,hkon];simp only[D0g,List.map_nil,(A2F true a.k hk).2]
  ·rw[hn];simp[A1G,A6Z]
 ·have he:a.t.isEmpty=false:=by simp[hn]
  by_cases h0:a.k=0
  ·have e:L7 a=K8 true a.t++[]:=by unfold L7 R0;rw[if_neg (by simp[hn,h0])]
   obtain⟨ps,h1,h2,h3⟩:=A1F a.t true [] hm (fun c r e=>by cases e)
   rw[A2m,D0E ps]at h1
   refine⟨a.t.map fun t=>(B t.v,t.c),?_,?_,fun e=>?_⟩
   ·rw[e,h1];exact h2
   ·rw[e,h1];exact h3
   ·rw[A3J _ _ (fun t ht=>(hm t ht).1),h0];simp
  ·have e:L7 a=K8 true a.t++A0A false a.k:=by unfold L7 R0;rw[if_pos (.inr h0),he]
   obtain⟨ps,h1,h2,h3⟩:=A1F a.t true (A0A false a.k) hm (B8i a.k)
   rw[hkon]at h1
   refine⟨(a.t.map fun t=>(B t.v,t.c))++[([],a.k)],?_,?_,fun e=>?_⟩
   ·rw[e,h1,List.mapM_append,h2,List.mapM_cons,(A2F false a.k hk).1];rfl
   ·rw[e,h1,D0P,h3,D0g,List.map_nil,(A2F false a.k hk).2]
   ·have:=A3J a.t ⟨[],0,e⟩ (fun t ht=>(hm t ht).1)
    unfold A1G at this⊢
    rw[D0H,this]
    simp[A6Z]
theorem B5b(a:LinV)(ha:validL a=true): ∀c∈L7 a,c.toNat≠61∧c.toNat≠62:=by
 unfold validL at ha
 simp only[C9c]at ha
 have hm:=M7 ha.1.1
 have key: ∀(l:List LTm) (f:Bool),(∀t∈l,H8 (B t.v)=true)→∀c∈K8 f l,c.toNat≠61∧c.toNat≠62:=by
  intro l
  induction l with
  |nil=>intro f _ c hc;cases hc
  |cons t l ih=>
   intro f h c hc
   rw[K8]at hc
   rcases C9p.1 hc with g|g
   ·have e:S5 f t=(if t.c<0 then [45]else if f=true then []else [43])++A1U t:=rfl
    rw[e]at g
    rcases C9p.1 g with g|g
    ·rcases sign_or f t.c with q|q|q<;>rw[q]at g
     ·cases g
     ·rw[C9q]at g;subst g;decide
     ·rw[C9q]at g;subst g;decide
    ·have:=A1m t (h t (C9a ..)) c g;exact⟨this.2.2.2,this.2.2.1⟩
   ·exact ih false (fun x hx=>h x (C9h _ hx)) c g
 intro c hc
 unfold L7 at hc
 rcases C9p.1 hc with g|g
 ·exact key a.t true (fun t ht=>(hm t ht).1) c g
 ·unfold R0 at g
  split at g
  ·unfold A0A at g
   rcases C9p.1 g with g|g
   ·rcases sign_or a.t.isEmpty a.k with q|q|q<;>rw[q]at g
    ·cases g
    ·rw[C9q]at g;subst g;decide
    ·rw[C9q]at g;subst g;decide
   ·have:=P0 _ c g;omega
  ·cases g
def A4X(s:List UInt8):Option LinV:=
 if Lib.hasSuffix s [61,48]=true then
  let b:=Lib.trimSuffix s [61,48]
  ((O5 (Lib.trimSuffix b [62])).mapM M4).map (A1G ⟨[],0,!Lib.hasSuffix b [62]⟩)
 else none
def A66(c:UInt8):Bool:=c==61||c==62
def A4Y(s:List UInt8):LinV:=
 A1G ⟨[],0,decide ((s.dropWhile (!A66 ·)).head?=some 61)⟩ ((O5 (s.takeWhile (!A66 ·))).map A2n)
theorem A79(l m:List UInt8):Lib.hasSuffix (l++m) m=true∧Lib.trimSuffix (l++m) m=l:=by
 have h:Lib.hasSuffix (l++m) m=true:=by unfold Lib.hasSuffix;rw[List.isSuffixOf_iff_suffix];exact List.suffix_append ..
 refine⟨h,?_⟩
 unfold Lib.trimSuffix
 rw[if_pos h];simp
theorem C2M(l:List UInt8)(c:UInt8)(h: ∀x∈l,x≠c):Lib.hasSuffix l [c]=false∧Lib.trimSuffix l [c]=l:=by
 have h:Lib.hasSuffix l [c]=false:=by
  rw[←D0l]
  unfold Lib.hasSuffix
  rw[List.isSuffixOf_iff_suffix]
  rintro⟨r,e⟩
  exact h c (by rw[←e];simp) rfl
 refine⟨h,?_⟩
 unfold Lib.trimSuffix
 rw[if_neg (by simp[h])]
theorem A67(a:LinV)(ha:validL a=true):A4X (F1 a)=some a∧A4Y (F1 a)=a:=by
 have hb:=B5b a ha
 obtain⟨ps,h1,h2,h3⟩:=A9m a ha
 have n62: ∀x∈L7 a,x≠62:=fun x hx e=>(hb x hx).2 (by rw[e];rfl)
 have nst: ∀x∈L7 a,(!A66 x)=true:=fun x hx=>by
  have:=hb x hx
  have e1:x≠61:=fun e=>this.1 (by rw[e];rfl)
  have e2:x≠62:=fun e=>this.2 (by rw[e];rfl)
  simp[A66,e1,e2]
 unfold A4X A4Y F1
 cases he:a.e with
 |true=>
  simp only[if_true]
  have s1:=A79 (L7 a) [61,48]
  have s2:=C2M (L7 a) 62 n62
  have tw:=R5 (p:=(!A66 ·)) (l:=L7 a) (R:=[61,48]) nst (fun c r e=>by cases e;decide)
  rw[if_pos s1.1,s1.2,s2.2,s2.1,tw.1,tw.2,h1,h2]
  have:=h3 true
  refine⟨?_,?_⟩
  ·simp only[Option.map_some,D0o,this];cases a;simp_all
  ·simp only[List.head?_cons,decide_true,this];cases a;simp_all
 |false=>
  simp only[C9f,if_false]
  have e2:L7 a++[62,61,48]=L7 a++[62]++[61,48]:=by simp
  have s1:=A79 (L7 a++[62]) [61,48]
  have s2:=A79 (L7 a) [62]
  have tw:=R5 (p:=(!A66 ·)) (l:=L7 a) (R:=[62,61,48]) nst (fun c r e=>by cases e;decide)
  rw[tw.1,tw.2,h2,e2,if_pos s1.1,s1.2,s2.2,s2.1,h1]
  have:=h3 false
  refine⟨?_,?_⟩
  ·simp only[Option.map_some,D0n,this];cases a;simp_all
  ·have e3:decide ((62::[61,48]:List UInt8).head?=some 61)=false:=by decide
   rw[e3,this];cases a;simp_all
def A0Z(s:List UInt8):Option LinV:=(A4X s).bind fun a=>if validL a=true∧F1 a=s then some a else none
theorem B5c(s:List UInt8):A0Z s=if validL (A4Y s)=true∧F1 (A4Y s)=s then some (A4Y s)else none:=by
 unfold A0Z
 by_cases h: ∃a,validL a=true∧F1 a=s
 ·obtain⟨a,ha,rfl⟩:=h
  obtain⟨h1,h2⟩:=A67 a ha
  rw[h1,h2];rfl
 ·have n: ∀a,¬(validL a=true∧F1 a=s):=fun a g=>h ⟨a,g⟩
  rw[if_neg (n _)]
  cases A4X s with
  |none=>rfl
  |some a=>show (if _ then _ else _)=_;rw[if_neg (n a)]
theorem A9n(a:LinV)(ha:validL a=true):A0Z (F1 a)=some a:=by
 unfold A0Z
 rw[(A67 a ha).1]
 show (if _ then _ else _)=_
 rw[if_pos ⟨ha,rfl⟩]
end Go.Lin
end
section
namespace Go.Lin
open Go Go.Av
def E6:List Nat→Nat
 | []=>0
 |d::l=>d+4294967296*E6 l
def C0(n:Nat):List Nat:=if h:n=0 then []else n % 4294967296::C0 (n / 4294967296)
termination_by n
decreasing_by exact Nat.div_lt_self (Nat.pos_of_ne_zero h) (by decide)
def E9(d:Nat):List D:=[.int .u32 d]
@[go_sem] theorem C7z(n:Nat):E9 n= [.int .u32 n]:=rfl
abbrev W3(n:Nat):D:=.sl 1 (Rw E9 (C0 n))
def Dig(l:List Nat):Prop:=∀d∈l,d<4294967296
theorem I9:C0 0= []:=by unfold C0;simp
theorem y5{n:Nat}(h:n≠0):C0 n=n % 4294967296::C0 (n / 4294967296):=by rw[C0];simp[h]
theorem O9(n:Nat):Dig (C0 n):=by
 induction n using Nat.strongRecOn with
 |ind n ih=>
  intro d hd
  by_cases h:n=0
  ·subst h;rw[I9]at hd;cases hd
  ·rw[y5 h]at hd
   rcases C9r.1 hd with rfl|hd
   ·exact Nat.mod_lt _ (by decide)
   ·exact ih (n / 4294967296) (Nat.div_lt_self (Nat.pos_of_ne_zero h) (by decide)) d hd
theorem J5(n:Nat):E6 (C0 n)=n:=by
 induction n using Nat.strongRecOn with
 |ind n ih=>
  by_cases h:n=0
  ·subst h;rw[I9];rfl
  ·rw[y5 h,E6,ih _ (Nat.div_lt_self (Nat.pos_of_ne_zero h) (by decide))]
   exact Nat.mod_add_div n 4294967296
theorem Z1(l m:List Nat):E6 (l++m)=E6 l+4294967296 ^ l.length*E6 m:=by
 induction l with
 |nil=>simp[E6]
 |cons d l ih=>
  rw[D0a,E6,ih,E6,C9U,Nat.pow_succ,Nat.mul_add,Nat.mul_comm (4294967296 ^ l.length) 4294967296,Nat.mul_assoc,Nat.add_assoc]
theorem m0(l:List Nat)(d:Nat):E6 (l++[d])=E6 l+4294967296 ^ l.length*d:=by rw[Z1];simp[E6]
theorem G5(l:List Nat)(i:Nat)(h:i<l.length):E6 (l.take (i+1))=E6 (l.take i)+4294967296 ^ i*l[i]:=by
 rw[C9i h,m0,C97,Nat.min_eq_left (by omega)]
theorem A2G(l:List Nat)(i:Nat)(h:i<l.length):E6 (l.drop i)=l[i]+4294967296*E6 (l.drop (i+1)):=by
 rw[C9u h,E6]
theorem B1L(n:Nat):E6 (List.replicate n 0)=0:=by
 induction n with
 |zero=>rfl
 |succ n ih=>rw[List.replicate_succ,E6,ih]
theorem A8A{l:List Nat}(h:Dig l):E6 l<4294967296 ^ l.length:=by
 induction l with
 |nil=>simp[E6]
 |cons d l ih=>
  have h1:=h d (C9a ..)
  have h2:=ih (fun x hx=>h x (C9h _ hx))
  rw[E6,C9U,Nat.pow_succ]
  calc d+4294967296*E6 l<4294967296+4294967296*E6 l:=by omega
   _=4294967296*(E6 l+1):=by rw[Nat.mul_add];omega
   _≤4294967296*4294967296 ^ l.length:=Nat.mul_le_mul_left _ h2
   _=4294967296 ^ l.length*4294967296:=Nat.mul_comm _ _
theorem B8j{l:List Nat}(h:Dig l)(hl: ∀(hn:l≠[]),l.getLast hn≠0):C0 (E6 l)=l:=by
 induction l with
 |nil=>rw[E6,I9]
 |cons d l ih=>
  have h1:d<4294967296:=h d (C9a ..)
  have h2:=ih (fun x hx=>h x (C9h _ hx)) (fun hn=>by
   have:=hl (List.cons_ne_nil _ _)
   rwa [List.getLast_cons hn]at this)
  have hne:E6 (d::l)≠0:=by
   rw[E6]
   cases l with
   |nil=>
    have:=hl (List.cons_ne_nil _ _)
    simp at this
    simp[E6,this]
   |cons e l=>
    intro h0
    have hz:E6 (e::l)=0:=by
     have:4294967296*E6 (e::l)=0:=by omega
     rcases Nat.mul_eq_zero.1 this with g|g
     ·exact absurd g (by decide)
     ·exact g
    rw[hz,I9]at h2
    cases h2
  rw[y5 hne]
  have e1:E6 (d::l) % 4294967296=d:=by rw[E6,Nat.add_mul_mod_self_left];exact D0Q h1
  have e2:E6 (d::l) / 4294967296=E6 l:=by rw[E6,Nat.add_mul_div_left _ _ (by decide),Nat.div_eq_of_lt h1,Nat.zero_add]
  rw[e1,e2,h2]
theorem B3d(n:Nat): ∀(hn:C0 n≠[]),(C0 n).getLast hn≠0:=by
 induction n using Nat.strongRecOn with
 |ind n ih=>
  intro hn
  by_cases h:n=0
  ·subst h;rw[I9]at hn;exact absurd rfl hn
  ·have e:=y5 h
   by_cases h2:n / 4294967296=0
   ·have e2:C0 n= [n % 4294967296]:=by rw[e,h2,I9]
    have:n % 4294967296=n:=D0Q (by rcases Nat.div_eq_zero_iff.1 h2 with g|g;exact absurd g (by decide);exact g)
    simp only[e2,List.getLast_singleton,this];exact h
   ·have hne:C0 (n / 4294967296)≠[]:=by rw[y5 h2];exact List.cons_ne_nil _ _
    have g:=ih (n / 4294967296) (Nat.div_lt_self (Nat.pos_of_ne_zero h) (by decide)) hne
    have e3:(C0 n).getLast hn=(n % 4294967296::C0 (n / 4294967296)).getLast (List.cons_ne_nil _ _):=by congr 1
    rw[e3,List.getLast_cons hne];exact g
theorem B8k{l m:List Nat}{x:Nat}(e:l=m++[x])(h:l≠[]):l.getLast h=x:=by subst e;simp
def y7:List Nat→Nat→Nat
 |_,0=>0
 |l,n+1=>if l.getD n 0=0 then y7 l n else n+1
theorem A9o(l:List Nat)(n:Nat):y7 l n≤n:=by
 induction n with
 |zero=>exact C9j _
 |succ n ih=>unfold y7;split;omega;exact C9j _
theorem A5p{l:List Nat}(h:Dig l): ∀n,n≤l.length→l.take (y7 l n)=C0 (E6 (l.take n))
 |0,_=>by simp[y7,E6,I9]
 |n+1,hn=>by
  have hl:n<l.length:=by omega
  have hg:l.getD n 0=l[n]:=by simp[hl]
  unfold y7
  rw[hg]
  split
  ·rename_i h0
   rw[A5p h n (by omega),G5 l n hl,h0,Nat.mul_zero,Nat.add_zero]
  ·rename_i h0
   refine(B8j (fun d hd=>h d (List.mem_of_mem_take hd)) fun hne=>?_).symm
   rw[B8k (C9i hl) hne];exact h0
theorem A9p{l:List Nat}(h:Dig l):l.take (y7 l l.length)=C0 (E6 l):=by
 have:=A5p h l.length (C9j _)
 rwa [List.take_length]at this
theorem A9q(n k:Nat)(h:n<4294967296 ^ k):(C0 n).length≤k:=by
  induction k generalizing n with
  | zero => have:n=0:=by simpa using h
            subst this;rw[I9];exact C9j _
  |succ k ih=>
    by_cases h0:n=0
    · subst h0;rw[I9];exact C9k _
    · rw[y5 h0,C9U]
      have:=ih (n / 4294967296) (Nat.div_lt_of_lt_mul (by rw[Nat.pow_succ,Nat.mul_comm]at h;exact h))
      omega
theorem I2(n:Nat):(C0 n).length=0↔n=0:=by
 constructor
 ·intro h
  have:=J5 n
  rw[C9n h]at this
  exact this.symm
 ·rintro rfl;rw[I9];rfl
theorem A3K{n:Nat}(h:n<4294967296)(h0:n≠0):C0 n= [n]:=by
 rw[y5 h0,D0Q h,Nat.div_eq_of_lt h,I9]
theorem A0K{a b:Nat}(h:(C0 a).length<(C0 b).length):a<b:=by
 by_cases hb:b=0
 ·subst hb;rw[I9]at h;simp at h
 ·have h1:a<4294967296 ^ (C0 a).length:=by have:=A8A (O9 a);rwa [J5]at this
  have hne:C0 b≠[]:=by intro e;rw[e]at h;simp at h
  have h2:4294967296 ^ ((C0 b).length-1)≤b:=by
   have e:=List.dropLast_concat_getLast hne
   have g:=J5 b
   rw[←e,m0]at g
   have l:=B3d b hne
   have:4294967296 ^ (C0 b).dropLast.length*1≤4294967296 ^ (C0 b).dropLast.length*(C0 b).getLast hne:=Nat.mul_le_mul_left _ (by omega)
   rw[List.length_dropLast]at this
   rw[List.length_dropLast]at g
   omega
  exact D0L h1 (D0V (Nat.pow_le_pow_right (by decide) (by omega)) h2)
theorem B3e{a b:Nat}(h:a≤b):(C0 a).length≤(C0 b).length:=by
 by_cases g:(C0 b).length<(C0 a).length
 ·have:=A0K g;omega
 ·omega
theorem A9r{l m:List Nat}(hl:Dig l)(hm:Dig m)(he:l.length=m.length){i:Nat}(hi:i<l.length)(hd:l.drop (i+1)=m.drop (i+1)):l[i]<m[i]'(by omega)→E6 l<E6 m:=fun h=>by
 have e1:E6 l=E6 (l.take i)+4294967296 ^ i*(l[i]+4294967296*E6 (l.drop (i+1))):=by
  conv=>lhs;rw[←List.take_append_drop i l,Z1,A2G l i hi,C97,Nat.min_eq_left (by omega)]
 have e2:E6 m=E6 (m.take i)+4294967296 ^ i*(m[i]+4294967296*E6 (m.drop (i+1))):=by
  conv=>lhs;rw[←List.take_append_drop i m,Z1,A2G m i (by omega),C97,Nat.min_eq_left (by omega)]
 have h3:=A8A (l:=l.take i) (fun d hd=>hl d (List.mem_of_mem_take hd))
 rw[C97,Nat.min_eq_left (by omega)]at h3
 rw[e1,e2,hd]
 calc E6 (l.take i)+4294967296 ^ i*(l[i]+4294967296*E6 (m.drop (i+1)))<4294967296 ^ i+4294967296 ^ i*(l[i]+4294967296*E6 (m.drop (i+1))):=by omega
  _=4294967296 ^ i*(l[i]+1+4294967296*E6 (m.drop (i+1))):=by rw[Nat.mul_add,Nat.mul_add,Nat.mul_add];omega
  _≤4294967296 ^ i*(m[i]+4294967296*E6 (m.drop (i+1))):=Nat.mul_le_mul_left _ (by omega)
  _≤_:=Nat.le_add_left _ _
theorem A1H(L:List Nat)(s:Nat):E6 (L++[s % 4294967296])+4294967296 ^ (L.length+1)*(s / 4294967296)=E6 L+4294967296 ^ L.length*s:=by
 rw[m0,Nat.pow_succ,Nat.add_assoc,Nat.mul_assoc,←Nat.mul_add,Nat.mod_add_div]
theorem A4Z(L:List Nat)(s:Int):(E6 (L++[(s % (4294967296:Int)).toNat]):Int)+(4294967296:Int) ^ (L.length+1)*(s / (4294967296:Int))=E6 L+(4294967296:Int) ^ L.length*s:=by
 have h0:0≤s % (4294967296:Int):=Int.emod_nonneg _ (by decide)
 have h1:((s % (4294967296:Int)).toNat:Int)=s % (4294967296:Int):=Int.toNat_of_nonneg h0
 have h2:(((4294967296:Nat) ^ L.length:Nat):Int)=(4294967296:Int) ^ L.length:=Int.natCast_pow _ _
 rw[m0,Int.natCast_add,Int.natCast_mul,h1,h2,Int.pow_succ,Int.add_assoc,Int.mul_assoc,←Int.mul_add,Int.emod_add_mul_ediv]
theorem A9s(l:List Nat)(p d:Nat)(h:p<l.length):E6 (l.set p d)+4294967296 ^ p*l[p]=E6 l+4294967296 ^ p*d:=by
 have e1:l.set p d=l.take p++d::l.drop (p+1):=by rw[List.set_eq_take_append_cons_drop,if_pos h]
 have e2:E6 l=E6 (l.take p)+4294967296 ^ p*(l[p]+4294967296*E6 (l.drop (p+1))):=by
  conv=>lhs;rw[←List.take_append_drop p l,Z1,A2G l p h,C97,Nat.min_eq_left (by omega)]
 rw[e1,Z1,E6,C97,Nat.min_eq_left (by omega),e2,Nat.mul_add,Nat.mul_add]
 omega
theorem B2W{l:List Nat}(h:Dig l){p d:Nat}(hd:d<4294967296):Dig (l.set p d):=fun x hx=>by
 rcases List.mem_or_eq_of_mem_set hx with g|rfl
 ·exact h x g
 ·exact hd
theorem Z2{l:List Nat}(h:Dig l){d:Nat}(hd:d<4294967296):Dig (l++[d]):=fun x hx=>by
 rcases C9p.1 hx with g|g
 ·exact h x g
 ·rw[C9q]at g;rw[g];exact hd
theorem F9{l:List Nat}(h:Dig l){i:Nat}(hi:i<l.length):l[i]<4294967296:=h _ (C9d hi)
theorem B3f(n:Nat):Dig (List.replicate n 0):=fun x hx=>by rw[(List.mem_replicate.1 hx).2];decide
def R6(L:List Nat)(n:Nat):List Nat:=L++List.replicate (n-L.length) 0
theorem A5q(L:List Nat)(n:Nat)(h:L.length≤n):(R6 L n).length=n:=by simp[R6];omega
theorem Z3(L:List Nat)(n d:Nat)(h:L.length<n):(R6 L n).set L.length d=R6 (L++[d]) n:=by
 unfold R6
 rw[List.set_append_right _ _ (C9j _),Nat.sub_self,C9V,C9X]
 have e:n-L.length=(n-(L.length+1))+1:=by omega
 rw[e,List.replicate_succ,List.set_cons_zero,D0D];rfl
theorem A5r(n:Nat):R6 [] n=List.replicate n 0:=by simp[R6]
theorem A32(L:List Nat)(n:Nat)(h:L.length=n):R6 L n=L:=by simp[R6,h]
def A3L(L:List Nat)(n:Nat):List Nat:=List.replicate (n-L.length) 0++L
theorem B5d(L:List Nat)(n:Nat)(h:L.length≤n):(A3L L n).length=n:=by simp[A3L];omega
theorem B5e(L:List Nat)(n d k:Nat)(h:L.length+k+1=n):(A3L L n).set k d=A3L (d::L) n:=by
 unfold A3L
 have e:n-L.length=k+1:=by omega
 have e2:n-(d::L).length=k:=by simp;omega
 rw[e,e2,List.replicate_succ',D0D,List.set_append_right _ _ (by simp)]
 simp
theorem B5f(n:Nat):A3L [] n=List.replicate n 0:=by simp[A3L]
theorem B3g(L:List Nat)(n:Nat)(h:L.length=n):A3L L n=L:=by simp[A3L,h]
theorem B5g{b r V A x:Nat}(hb:0<b)(h:V*b+r=A):((r*4294967296+x) / b+4294967296*V)*b+(r*4294967296+x) % b=x+4294967296*A:=by
 have e:=Nat.div_add_mod (r*4294967296+x) b
 have e1:(r*4294967296+x) / b*b=b*((r*4294967296+x) / b):=Nat.mul_comm _ _
 have e2:4294967296*A=4294967296*V*b+4294967296*r:=by rw[←h,Nat.mul_add,Nat.mul_assoc]
 have e3:r*4294967296=4294967296*r:=Nat.mul_comm _ _
 rw[Nat.add_mul,e2]
 omega
theorem B8l{b r V A:Nat}(hb:r<b)(h:V*b+r=A):A / b=V∧A % b=r:=by
 subst h
 constructor
 ·rw[Nat.mul_comm,Nat.mul_add_div (by omega),Nat.div_eq_of_lt hb,Nat.add_zero]
 ·rw[Nat.mul_comm,Nat.mul_add_mod,D0Q hb]
theorem B5h(l:List Nat)(p i j s x y c T A:Nat)(h:p<l.length)(hp:p=i+j)(hv:E6 l+4294967296 ^ p*c=T+4294967296 ^ i*x*A)(hs:s=c+(x*y+l[p])):
  E6 (l.set p (s % 4294967296))+4294967296 ^ (p+1)*(s / 4294967296)=T+4294967296 ^ i*x*(A+4294967296 ^ j*y):=by
 have e1:=A9s l p (s % 4294967296) h
 have e2:4294967296 ^ (p+1)*(s / 4294967296)=4294967296 ^ p*(4294967296*(s / 4294967296)):=by rw[Nat.pow_succ,Nat.mul_assoc]
 have e3:4294967296 ^ p*(s % 4294967296)+4294967296 ^ p*(4294967296*(s / 4294967296))=4294967296 ^ p*c+4294967296 ^ p*(x*y)+4294967296 ^ p*l[p]:=by
  rw[←Nat.mul_add,Nat.mod_add_div,hs,Nat.mul_add,Nat.mul_add,Nat.add_assoc]
 have e4:4294967296 ^ i*x*(4294967296 ^ j*y)=4294967296 ^ p*(x*y):=by
  rw[hp,Nat.pow_add];simp only[Nat.mul_assoc,Nat.mul_left_comm,Nat.mul_comm]
 rw[Nat.mul_add,e4,e2]
 omega
theorem B8m(l:List Nat)(p c T X:Nat)(h:p<l.length)(h0:l[p]=0)(hv:E6 l+4294967296 ^ p*c=T+X):E6 (l.set p c)=T+X:=by
 have e1:=A9s l p c h
 rw[h0,Nat.mul_zero]at e1
 omega
theorem C2N{x y o c:Nat}(hx:x<4294967296)(hy:y<4294967296)(ho:o<4294967296)(hc:c<4294967296):c+(x*y+o)<18446744073709551616∧x*y<18446744073709551616:=by
 have:=Nat.mul_le_mul (show x≤4294967295 by omega) (show y≤4294967295 by omega)
 constructor<;>omega
end Go.Lin
end
section
namespace Go.Lin
open Go Go.Av Go.Lexs
def nilL:LinV:=⟨[],0,false⟩
def A9t(l:List LTm)(s:ByteArray):Int:=match l with
 | []=>0
 |t::l=>if t.v=s then t.c else A9t l s
theorem B1M{l:List LTm}(h:l4 l=true):l.Pairwise fun x y=>j8 x.v y.v=true:=by
 have key: ∀(j i:Nat) (hi:i<l.length) (hj:i+j+1<l.length),j8 l[i].v l[i+j+1].v=true:=by
  intro j
  induction j with
  |zero=>intro i hi hj;exact(A1n h hj).2.2.2 (by omega) (by omega)
  |succ j ih=>intro i hi hj;exact X8 (ih i hi (by omega)) ((A1n h hj).2.2.2 (by omega) (by omega))
 rw[List.pairwise_iff_getElem]
 intro i j hi hj hij
 have:=key (j-i-1) i hi (by omega)
 have e:i+(j-i-1)+1=j:=by omega
 simp only[e]at this
 exact this
def C2O(a:LinV)(n:Int):LinV:=⟨if n=0 then []else a.t.map fun t=>⟨t.v,t.c*n⟩,a.k*n,a.e⟩
def y8(a:LinV)(n:Int):Bool:=decide (n=0)||(decide (0<n)&& !a.e)
def okV(l:List VlV)(i:Nat):Bool:=H8 (B (l.getD i default).v)&&(decide (i=0)||j8 (l.getD (i-1) default).v (l.getD i default).v)&&N1 (l.getD i default).n 2147483647
def M2(l:List VlV):Bool:=(List.range l.length).all (okV l)&&decide (l.length≤24)
def L4(l:List VlV)(s:ByteArray):Option Int:=match l with
 | []=>none
 |x::l=>if x.v=s then some x.n else L4 l s
def J0(k:Int)(l:List LTm)(vs:List VlV):Option Int:=match l with
 | []=>some k
 |t::l=>match L4 vs t.v with
  |none=>none
  |some n=>J0 (k+t.c*n) l vs
theorem B3h{l:List VlV}{s:ByteArray}(h: ∀x∈l,x.v≠s):L4 l s=none:=by
 induction l with
 |nil=>rfl
 |cons x l ih=>rw[L4,if_neg (h x (C9a ..)),ih (fun y hy=>h y (C9h _ hy))]
theorem A8B{l:List VlV}(h:M2 l=true){i:Nat}(hi:i<l.length):H8 (B l[i].v)=true∧l[i].n.natAbs≤2147483647∧(∀hj:i-1<l.length,0<i→j8 l[i-1].v l[i].v=true):=by
 unfold M2 at h
 rw[C9c]at h
 have:=C90.1 h.1 i (List.mem_range.2 hi)
 unfold okV N1 at this
 have e:l.getD i default=l[i]:=by simp[hi]
 have e2: ∀hj:i-1<l.length,l.getD (i-1) default=l[i-1]:=fun hj=>by simp[hj]
 rw[e]at this
 simp only[C9c,D0m,C9l]at this
 refine⟨this.1.1,by omega,fun hj h0=>?_⟩
 rcases this.1.2 with g|g
 ·omega
 ·rw[e2 hj]at g;exact g
theorem A68{l:List VlV}(h:M2 l=true): ∀(i j:Nat) (hi:i<l.length) (hj:j<l.length),i<j→j8 l[i].v l[j].v=true:=by
 have key: ∀(j i:Nat) (hi:i<l.length) (hj:i+j+1<l.length),j8 l[i].v l[i+j+1].v=true:=by
  intro j
  induction j with
  |zero=>intro i hi hj;exact(A8B h hj).2.2 (by omega) (by omega)
  |succ j ih=>intro i hi hj;exact X8 (ih i hi (by omega)) ((A8B h hj).2.2 (by omega) (by omega))
 intro i j hi hj hij
 have:=key (j-i-1) i hi (by omega)
 have e:i+(j-i-1)+1=j:=by omega
 simp only[e]at this
 exact this
theorem A3M{l:List VlV}(h:M2 l=true){s:ByteArray}{i:Nat}(hi:i≤l.length)(h1: ∀(k:Nat) (hk:k<l.length),k<i→j8 l[k].v s=true)(h2: ∀hk:i<l.length,j8 l[i].v s=false):
  L4 l s=if hk:i<l.length then(if l[i].v=s then some l[i].n else none)else none:=by
 have key: ∀(m:List VlV) (i:Nat),(∀(k:Nat) (hk:k<m.length),k<i→m[k].v≠s)→(∀(k:Nat) (hk:k<m.length),i<k→m[k].v≠s)→L4 m s=if hk:i<m.length then(if m[i].v=s then some m[i].n else none)else none:=by
  intro m
  induction m with
  |nil=>intro i _ _;simp[L4]
  |cons x m ih=>
   intro i a b
   rw[L4]
   cases i with
   |zero=>
    have e:L4 m s=none:=B3h fun y hy=>by
     obtain⟨k,hk,rfl⟩:=List.getElem_of_mem hy
     exact b (k+1) (by simpa using hk) (by omega)
    rw[e];simp
   |succ i=>
    rw[if_neg (show¬x.v=s from a 0 (by simp) (by omega)),ih i (fun k hk hlt=>a (k+1) (by simpa using hk) (by omega)) (fun k hk hlt=>b (k+1) (by simpa using hk) (by omega))]
    simp
 refine key l i (fun k hk hlt e=>?_) (fun k hk hlt e=>?_)
 ·have:=h1 k hk hlt;rw[e,j9]at this;cases this
 ·have g1:=A68 h i k (by omega) hk hlt
  have g2:=h2 (by omega)
  rw[e]at g1;rw[g1]at g2;cases g2
end Go.Lin
end
section
namespace Go.Lin
open Go Go.Av Go.Lexs
structure Row where
 c:List Int
 k:Int
 eq:Bool
 deriving DecidableEq
instance:Inhabited Row:=⟨⟨[],0,false⟩⟩
def U8(l:List Int)(i:Nat):Int:=l.getD i 0
def A1o(x:Row)(a:Int)(y:Row)(b:Int):Row:=⟨List.zipWith (fun p q=>p*a+q*b) x.c y.c,x.k*a+y.k*b,x.eq⟩
def gcdR(l:List Int):Nat:=l.foldl (fun g c=>Nat.gcd c.natAbs g) 0
def W7:List Row→Option (List Row)
 | []=>some []
 |r::l=>
  let g:=gcdR r.c
  if g=0 then(if r.k<0∨(r.eq=true∧0<r.k)then none else W7 l)
  else if g=1 then(W7 l).map (r:: ·)
  else
   let k:=r.k.fdiv g
   if r.eq=true∧k*g-r.k≠0 then none
   else(W7 l).map (⟨r.c.map (Int.fdiv · g),k,r.eq⟩:: ·)
def A33(a b:Row)(sign:Int):Bool:=a.c==b.c.map (· *sign)
def A3N(r:Row):List Row→List Row
 | []=>[r]
 |s::l=>if r.eq=false∧s.eq=false∧A33 r s 1=true then(if r.k<s.k then {s with k:=r.k}else s)::l else s::A3N r l
def pairs1(l:List Row):List Row:=l.foldl (fun out r=>A3N r out) []
def A4o(r:Row):List Row→Option Row
 | []=>some r
 |s::l=>if r.eq=true∨s.eq=true∨A33 r s (-1)=false then A4o r l
  else if r.k+s.k<0 then none else if r.k+s.k=0 then A4o {r with eq:=true} l else A4o r l
def y9:List Row→List Row→Option (List Row)
 |done,[]=>some done
 |done,r::l=>match A4o r done with
  |none=>none
  |some r'=>y9 (done++[r']) l
def A9u(l:List Row):Option (List Row):=(W7 l).bind fun l=>y9 [] (pairs1 l)
def A5s(c:List Int):List Int→Nat→Option Nat→Option Nat
 | [],_,b=>b
 |x::l,i,b=>A5s c l (i+1) (if x≠0∧(match b with|none=>true|some j=>decide (x.natAbs<(U8 c j).natAbs))=true then some i else b)
def A34(r:Row):Option Nat:=A5s r.c r.c 0 none
def R7(e:Row)(k:Nat)(r:Row):Row:=if U8 r.c k=0 then r else A1o r 1 e (-(U8 r.c k*U8 e.c k))
def A0m(a b:Int):Int:=a-b*Int.fdiv (a*2+b) (b*2)
def A2W(r:Row):Row:={r with c:=r.c++[0]}
def n8(l:List Row)(i:Nat):List Row:=
 let e:=l.getD i default
 let rest:=l.take i++l.drop (i+1)
 let k:=(A34 e).getD 0
 if(U8 e.c k).natAbs=1 then rest.map (R7 e k)
 else
  let m:Int:=(U8 e.c k).natAbs+1
  let f:Row:=⟨e.c.map (A0m · m)++[-m],A0m e.k m,true⟩
  ((rest++[e]).map A2W).map (R7 f k)
def I3(l:List Row)(k:Nat):List Row:=l.filter fun r=>decide (0<U8 r.c k)
def F0(l:List Row)(k:Nat):List Row:=l.filter fun r=>decide (U8 r.c k<0)
def S6(l:List Row)(k:Nat):List Row:=l.filter fun r=>decide (U8 r.c k=0)
def A1p(l:List Row)(k:Nat):Bool:=l.all fun r=>(U8 r.c k).natAbs==1
structure Ch where
 best:Option Nat
 sure:Bool
 cost:Int
def A3O(l:List Row)(b:Ch)(k:Nat):Ch:=
 let low:=I3 l k;let high:=F0 l k
 if low.length+high.length=0 then b
 else
  let ex:=A1p low k||A1p high k
  let n:Int:=(low.length:Int)*high.length-low.length-high.length
  if b.best=none∨(ex=true∧b.sure=false)∨(ex=b.sure∧n<b.cost)then⟨some k,ex,n⟩else b
def Y2(l:List Row):Ch:=(List.range (l.headD default).c.length).foldl (A3O l) ⟨none,false,0⟩
def A1I(a b:Row)(k:Nat)(dark:Bool):Row:=
 let p:=U8 a.c k;let q:= -(U8 b.c k)
 let r:=A1o a q b p
 if dark then {r with k:=r.k-(p-1)*(q-1)}else r
def A2H(l:List Row)(k:Nat)(dark:Bool):List Row:=S6 l k++(I3 l k).flatMap fun a=>(F0 l k).map fun b=>A1I a b k dark
def C0t(n:Nat)(r:Row):Bool:=r.c.length==n&&r.c.all (fun x=>x.natAbs<2^30)&&decide (r.k.natAbs<2^62)
def A8C(l:List Row):Bool:=decide (l.length<10000)&&match l with| []=>true|r::_=>decide (r.c.length<1000)&&l.all (C0t r.c.length)
def A4a:Nat→List Row→Option Bool
 |0,_=>none
 |n+1,l=>if A8C l=true then match A9u l with
   |none=>some false
   |some []=>some true
   |some (r::l')=>if A8C (r::l')=true then match (r::l').findIdx? (·.eq)with
    |some i=>if(A34 ((r::l').getD i default)).isSome=true then A4a n (n8 (r::l') i)else none
    |none=>match Y2 (r::l')with
     |⟨some k,true,_⟩=>A4a n (A2H (r::l') k false)
     |_=>none
    else none
  else none
def A69(n i:Nat)(s:Int):List Int:=(List.range n).map fun j=>if j=i then s else 0
def C2P(n i:Nat):List Row:=[⟨A69 n i 1,2147483647,false⟩,⟨A69 n i (-1),2147483647,false⟩]
def C5x(names:List ByteArray)(a:LinV):Row:=⟨names.map (A9t a.t),a.k,a.e⟩
def A9v(l:List LinV)(names:List ByteArray):List Row:=l.map (C5x names)++(List.range names.length).flatMap (C2P names.length)
def C0u(l:List LinV):Option Bool:=A4a 100 (A9v l (A1j l))
def U9(s:ByteArray)(n:Int):LinV:=⟨[⟨s,1⟩],-n,false⟩
def l5(s:ByteArray)(n:Int):LinV:=⟨[⟨s,-1⟩],n,false⟩
def A3P(can:List LinV→Option Bool)(s:ByteArray):Nat→Int→Int→Option Int
 |0,_,_=>none
 |f+1,low,high=>if low<high then
   match can [U9 s (-((low+high).tdiv 2)),l5 s ((low+high).tdiv 2)]with
   |none=>none
   |some true=>A3P can s f low ((low+high).tdiv 2)
   |some false=>A3P can s f ((low+high).tdiv 2+1) high
  else some low
def B5i(can:List LinV→Option Bool)(s:ByteArray):Option Int:=match A3P can s 40 0 2147483647 with
 |none=>none
 |some low=>if 0<low then(match can [U9 s low,l5 s low]with
   |none=>none
   |some true=>some low
   |some false=>some (-low))else some low
def C8w(c:LinV):LinV:={C2O c (-1)with k:=c.k* -1-1,e:=false}
end Go.Lin
end
section
namespace Go.Lin
open Go Go.Av
theorem C2Q(n:Nat):W3 n= .sl 1 (Rw E9 (C0 n)):=rfl
abbrev C4(n:Int):List D:=[.bool (decide (n<0)),.sl 1 (Rw E9 (C0 n.natAbs))]
theorem C2R(n:Int):C4 n= [.bool (decide (n<0)),.sl 1 (Rw E9 (C0 n.natAbs))]:=rfl
abbrev C5(r:Row):List D:=[.sl 2 (Rw C4 r.c),.bool (decide (r.k<0)),.sl 1 (Rw E9 (C0 r.k.natAbs)),.bool r.eq]
theorem B5j(r:Row):C5 r= [.sl 2 (Rw C4 r.c),.bool (decide (r.k<0)),.sl 1 (Rw E9 (C0 r.k.natAbs)),.bool r.eq]:=rfl
end Go.Lin
end
section
namespace Go.Proofs.YtibphjonmikciaaGreatDoor
open Go Go.Av Go.RowKit Go.Lin
theorem A0L{Q}(s:ByteArray)(c:Int)(H:Heap)(h:Q (.int .i64 (Lib.indexByte (B s) c.toNat.toUInt8)) H):ACalls Tryz.prog 138 [.str s,.int .u8 c] H Q:=
 I4 (by kernel_rfl) (fun w vs hl hr hs=>by
  obtain⟨a,b,rfl,ha,hb⟩:=y0 hl hr
  rw[ha.str_inv,hb.int_inv]
  refine(Tryz.strings_IndexByte s c w).mono fun e w' ⟨he,hw⟩=>?_
  subst hw
  exact⟨_,he,Below.refl _ _,.int _ _⟩) h
theorem A9w{Q}(s p:ByteArray)(H:Heap)(h:Q (.bool ((B p).isPrefixOf (B s))) H):ACalls Tryz.prog 186 [.str s,.str p] H Q:=
 I4 (by kernel_rfl) (fun w vs hl hr hs=>by
  obtain⟨a,b,rfl,ha,hb⟩:=y0 hl hr
  rw[ha.str_inv,hb.str_inv]
  refine(Tryz.strings_HasPrefix s p w).mono fun e w' ⟨he,hw⟩=>?_
  subst hw
  exact⟨_,he,Below.refl _ _,.bool _⟩) h
theorem A8D{Q}(s p:ByteArray)(H:Heap)(h:Q (.str (S (Lib.trimPrefix (B s) (B p)))) H):ACalls Tryz.prog 185 [.str s,.str p] H Q:=
 I4 (by kernel_rfl) (fun w vs hl hr hs=>by
  obtain⟨a,b,rfl,ha,hb⟩:=y0 hl hr
  rw[ha.str_inv,hb.str_inv]
  refine(Tryz.strings_TrimPrefix s p w).mono fun e w' ⟨he,hw⟩=>?_
  subst hw
  exact⟨_,he,Below.refl _ _,.str _⟩) h
theorem A8E{Q}(s p:ByteArray)(hsz:s.size≤1000000000000)(H:Heap)(h:Q (.str (S (Lib.trimSuffix (B s) (B p)))) H):ACalls Tryz.prog 148 [.str s,.str p] H Q:=
 I4 (by kernel_rfl) (fun w vs hl hr hs=>by
  obtain⟨a,b,rfl,ha,hb⟩:=y0 hl hr
  rw[ha.str_inv,hb.str_inv]
  refine(Tryz.strings_TrimSuffix s p w (by omega)).mono fun e w' ⟨he,hw⟩=>?_
  subst hw
  exact⟨_,he,Below.refl _ _,.str _⟩) h
theorem A9x{Q}(s p:ByteArray)(hsz:s.size≤1000000000000)(H:Heap)(h:Q (.bool (Lib.hasSuffix (B s) (B p))) H):ACalls Tryz.prog 149 [.str s,.str p] H Q:=
 I4 (by kernel_rfl) (fun w vs hl hr hs=>by
  obtain⟨a,b,rfl,ha,hb⟩:=y0 hl hr
  rw[ha.str_inv,hb.str_inv]
  refine(Tryz.strings_HasSuffix s p w (by omega)).mono fun e w' ⟨he,hw⟩=>?_
  subst hw
  exact⟨_,he,Below.refl _ _,.bool _⟩) h
theorem A9y{Q}(s p:ByteArray)(hsz:s.size≤1000000000000)(H:Heap)(h:Q (.tuple [.str (S (Lib.trimSuffix (B s) (B p))),.bool (Lib.hasSuffix (B s) (B p))]) H):ACalls Tryz.prog 147 [.str s,.str p] H Q:=
 I4 (by kernel_rfl) (fun w vs hl hr hs=>by
  obtain⟨a,b,rfl,ha,hb⟩:=y0 hl hr
  rw[ha.str_inv,hb.str_inv]
  refine(Tryz.strings_CutSuffix s p w (by omega)).mono fun e w' ⟨he,hw⟩=>?_
  subst hw
  exact⟨_,he,Below.refl _ _,.tuple _ _ rfl fun i d hd=>(match i,hd with|0,hd=>by simp at hd;subst hd;exact .str _|1,hd=>by simp at hd;subst hd;exact .bool _|i+2,hd=>by simp at hd)⟩) h
theorem B3i{Q}(s p:ByteArray)(H:Heap)(h:Q (.int .i64 (Lib.compareBytes (B s) (B p))) H):ACalls Tryz.prog 106 [.str s,.str p] H Q:=
 I4 (by kernel_rfl) (fun w vs hl hr hs=>by
  obtain⟨a,b,rfl,ha,hb⟩:=y0 hl hr
  rw[ha.str_inv,hb.str_inv]
  refine(Tryz.strings_Compare s p w).mono fun e w' ⟨he,hw⟩=>?_
  subst hw
  exact⟨_,he,Below.refl _ _,.int _ _⟩) h
structure Tabs(H:Heap):Prop where
 pow:H 1=some (.ro (A9e .u64 Lib.pow10Tab))
 syn: ∃t,H 2=some (.ro [.iface t .undef])
 rng: ∃t,H 3=some (.ro [.iface t .undef])
theorem Tabs.le{H H':Heap}(h:Tabs H)(hl:H.Le H'):Tabs H':=⟨hl _ _ h.pow,let ⟨t,e⟩:=h.syn;⟨t,hl _ _ e⟩,let ⟨t,e⟩:=h.rng;⟨t,hl _ _ e⟩⟩
theorem V0{Q}(n:Int)(h0: -9223372036854775808≤n)(h1:n≤9223372036854775807)(H:Heap)(hT:Tabs H)(h:Q (.str (S (Lib.itoa n))) H):ACalls Tryz.prog 142 [.int .i64 n] H Q:=
 I4 (by kernel_rfl) (fun w vs hl' hr hs=>by
  obtain⟨a,rfl,ha⟩:=A1i hl' hr
  rw[ha.int_inv]
  refine(Tryz.strconv_Itoa n h0 h1 w (B5R (g:=1) (by kernel_rfl) hs hT.pow)).mono fun e w' ⟨he,k,os,hw⟩=>?_
  subst hw
  exact⟨_,he,B1I _ _ _,.str _⟩) h
end Go.Proofs.YtibphjonmikciaaGreatDoor
end
section
set_option maxRecDepth 20000
namespace Go.Lin
open Go Go.Av Go.Lexs
theorem H6(s:ByteArray)(i:Nat)(h:i<s.size):(E5 s).getD i []= [.int .u8 (nth (B s) i)]:=by
 have h2:i<s.data.toList.length:=by rw[D0G];exact h
 unfold E5 nth B
 rw[List.getD_eq_getElem?_getD,C9m,List.getD_eq_getElem?_getD,C9g h2];rfl
theorem A5t(s:ByteArray)(i:Nat)(h:i<s.size):(E5 s)[i]? =some [.int .u8 (nth (B s) i)]:=by
 have h2:i<s.data.toList.length:=by rw[D0G];exact h
 unfold E5 nth B
 rw[C9m,List.getD_eq_getElem?_getD,C9g h2];rfl
theorem A2o(s:ByteArray):(E5 s).length=s.size:=by unfold E5;rw[C98,D0G];rfl
def A8F:List UInt8:=[43,45,42,60,62,61]
theorem A4b{x:Int}(h0:33≤x)(h1:x≤126):decide (0≤Lib.indexByte A8F x.toNat.toUInt8)= !U7 x:=by
 obtain⟨n,rfl⟩: ∃n:Nat,x=n:=⟨x.toNat,by omega⟩
 have key: ∀n:Fin 127,33≤n.val→decide (0≤Lib.indexByte A8F (n.val:Int).toNat.toUInt8)= !U7 (n.val:Int):=by decide+kernel
 exact key ⟨n,by omega⟩ (by simpa using(by omega:33≤n))
end Go.Lin
namespace Go.Proofs.YtibphjonmikciaaGreatDoor
open Go Go.Av Go.Lexs Go.Lin
attribute [local irreducible] ACalls W4
theorem K9{Q}(n m:Int)(h0: -9223372036854775807≤m)(h1:m≤9223372036854775807)(H:Heap)(h:Q (.bool (N1 n m)) H):ACalls Tryz.prog 103 [.int .i64 n,.int .i64 m] H Q:=by
 refine B2 [] B3 Tryz.func103 rfl (by kernel_rfl) (C9Q (by kernel_rfl)) (by kernel_rfl) ?_
 simp only[go_sem,Tryz.results103]
 unfold N1 at h
 have w:IntKind.i64.wrap (0-m)= -m:=by rw[A0 (by omega) (by omega)];omega
 repeat' (first|with_reducible apply C9P|simp only[go_sem,w]|simp(disch:=omega) only[A0]|intro hx_|omega)
 all_goals exact D0u (by simpa [*]using h)
theorem N4{Q}(s:ByteArray)(H:Heap)(h:Q (.bool (H8 (B s))) H):ACalls Tryz.prog 102 [.str s] H Q:=by
 refine B2 [] B3 Tryz.func102 rfl (by kernel_rfl) (C9Q (by kernel_rfl)) (by kernel_rfl) ?_
 simp only[go_sem,Tryz.results102]
 have hl:=Y7 s
 have hbl:=A2o s
 have hd0:W4 s 0=nth (B s) 0:=B5K s
 by_cases hv:B s≠[]∧s.size≤200∧U6 (nth (B s) 0)=false
 ·obtain⟨v1,v2,v3⟩:=hv
  have v2i: ¬((200:Int)<s.size):=by omega
  have v4: ¬(48≤nth (B s) 0∧nth (B s) 0≤57):=fun g=>by have:=(A1E _).2 g;rw[this]at v3;cases v3
  have vs:0<s.size:=by have:=List.length_pos_iff.2 v1;omega
  have vsi:(0:Int)<s.size:=by omega
  have hnb:H8 (B s)=(B s).all (ofB U7):=by unfold H8;rw[C9R v1,v3,C9R (by omega)];rfl
  rw[hnb]at h
  by_cases q1:48≤nth (B s) 0
  ·have q2: ¬nth (B s) 0≤57:=fun g=>v4 ⟨q1,g⟩
   repeat' (first|with_reducible apply C9P|simp only[go_sem,v1,v2i,vsi,hd0,q1,q2,decide_true,decide_false]|simp(disch:=omega) only[A0,H6]|intro hx_|omega)
   refine A6w _ _ _ (by kernel_rfl) (by kernel_rfl) ?_
   repeat' (first|with_reducible apply C9P|simp only[go_sem]|simp(disch:=omega) only[A0,H6]|intro hx_|omega)
   rename_i b
   have hb:=hx_
   clear hx_
   refine D1 [23,24] (fun(i:Nat)=>[(25,.int .i64 i)]) (fun(i:Nat)=>H.set b (.vec 1 (E5 s))) (fun(i:Nat)=>i≤s.size∧((B s).take i).all (ofB U7)=true) (fun(i:Nat)=>s.size-i) (0) (⟨C9k _,by simp⟩) (by(try simp only[go_sem])<;>(try simp(disch:=omega) [A0])<;>(try omega)) (by first|exact D0q _|exact A2 (by assumption)|exact B4 (by assumption)|simp only[Heap.Le,Heap.set,Heap.del]at* <;>grind) ?_
   rintro Ec rfl i ⟨hi,hall⟩
   by_cases hlt:i<s.size
   ·have hkd:decide ((i:Int)<s.size)=true:=C9R (by omega)
    have hlb:i<(B s).length:=by omega
    have bg:=A5t s i hlt
    have bd:=H6 s i hlt
    obtain⟨x,hx⟩: ∃x,x=nth (B s) i:=⟨_,rfl⟩
    have bad:U7 x=false→(B s).all (ofB U7)=false:=fun g=>A3E U7 (B s) i hlb (by rw[←hx];exact g)
    rw[←hx]at bg bd
    have hsi:decide ((i:Int)<(E5 s).length)=true:=C9R (by rw[A2o];omega)
    by_cases c1:x<33
    ·rw[bad (A3G (by omega))]at h
     repeat' (first|with_reducible apply C9P|simp only[go_sem,hkd,bg,bd,hbl,c1,decide_true]|simp(disch:=omega) only[A0,H6]|intro hx_|omega)
     exact D0r (A2 hb) h
    ·by_cases c2:126<x
     ·rw[bad (A3G (by omega))]at h
      repeat' (first|with_reducible apply C9P|simp only[go_sem,hkd,bg,bd,hbl,c1,c2,decide_true,decide_false]|simp(disch:=omega) only[A0,H6]|intro hx_|omega)
      exact D0r (A2 hb) h
     ·have c3:=A4b (x:=x) (by omega) (by omega)
      have hS:B ({data:= #[43,45,42,60,62,61]}:ByteArray)=A8F:=rfl
      by_cases c4:U7 x=true
      ·rw[c4]at c3
       repeat' (first|with_reducible apply C9P|simp only[go_sem,hkd,bg,bd,hbl,c1,c2,hS,c3,decide_true,decide_false]|simp(disch:=omega) only[A0,H6]|intro hx_|with_reducible refine A0L _ _ _ ?_|omega)
       exact C3 (i+1) ⟨by omega,by rw[A2V _ _ _ hlb,hall,←hx,c4];rfl⟩ (by omega) (by(try simp only[go_sem])<;>(try simp(disch:=omega) [A0])<;>(try omega)) (D0q _)
      ·have c4:U7 x=false:=by simpa using c4
       rw[c4]at c3
       rw[bad c4]at h
       repeat' (first|with_reducible apply C9P|simp only[go_sem,hkd,bg,bd,hbl,c1,c2,hS,c3,decide_true,decide_false]|simp(disch:=omega) only[A0,H6]|intro hx_|with_reducible refine A0L _ _ _ ?_|omega)
       exact D0r (A2 hb) h
   ·have hkd:decide ((i:Int)<s.size)=false:=C9S (by omega)
    rw[C9e (by omega)]at hall
    rw[hall]at h
    repeat' (first|with_reducible apply C9P|simp only[go_sem,hkd]|simp(disch:=omega) only[A0,H6]|intro hx_|omega)
    exact D0r (A2 hb) h
  ·repeat' (first|with_reducible apply C9P|simp only[go_sem,v1,v2i,vsi,hd0,q1,decide_true,decide_false]|simp(disch:=omega) only[A0,H6]|intro hx_|omega)
   refine A6w _ _ _ (by kernel_rfl) (by kernel_rfl) ?_
   repeat' (first|with_reducible apply C9P|simp only[go_sem]|simp(disch:=omega) only[A0,H6]|intro hx_|omega)
   rename_i b
   have hb:=hx_
   clear hx_
   refine D1 [23,24] (fun(i:Nat)=>[(25,.int .i64 i)]) (fun(i:Nat)=>H.set b (.vec 1 (E5 s))) (fun(i:Nat)=>i≤s.size∧((B s).take i).all (ofB U7)=true) (fun(i:Nat)=>s.size-i) (0) (⟨C9k _,by simp⟩) (by(try simp only[go_sem])<;>(try simp(disch:=omega) [A0])<;>(try omega)) (by first|exact D0q _|exact A2 (by assumption)|exact B4 (by assumption)|simp only[Heap.Le,Heap.set,Heap.del]at* <;>grind) ?_
   rintro Ec rfl i ⟨hi,hall⟩
   by_cases hlt:i<s.size
   ·have hkd:decide ((i:Int)<s.size)=true:=C9R (by omega)
    have hlb:i<(B s).length:=by omega
    have bg:=A5t s i hlt
    have bd:=H6 s i hlt
    obtain⟨x,hx⟩: ∃x,x=nth (B s) i:=⟨_,rfl⟩
    have bad:U7 x=false→(B s).all (ofB U7)=false:=fun g=>A3E U7 (B s) i hlb (by rw[←hx];exact g)
    rw[←hx]at bg bd
    have hsi:decide ((i:Int)<(E5 s).length)=true:=C9R (by rw[A2o];omega)
    by_cases c1:x<33
    ·rw[bad (A3G (by omega))]at h
     repeat' (first|with_reducible apply C9P|simp only[go_sem,hkd,bg,bd,hbl,c1,decide_true]|simp(disch:=omega) only[A0,H6]|intro hx_|omega)
     exact D0r (A2 hb) h
    ·by_cases c2:126<x
     ·rw[bad (A3G (by omega))]at h
      repeat' (first|with_reducible apply C9P|simp only[go_sem,hkd,bg,bd,hbl,c1,c2,decide_true,decide_false]|simp(disch:=omega) only[A0,H6]|intro hx_|omega)
      exact D0r (A2 hb) h
     ·have c3:=A4b (x:=x) (by omega) (by omega)
      have hS:B ({data:= #[43,45,42,60,62,61]}:ByteArray)=A8F:=rfl
      by_cases c4:U7 x=true
      ·rw[c4]at c3
       repeat' (first|with_reducible apply C9P|simp only[go_sem,hkd,bg,bd,hbl,c1,c2,hS,c3,decide_true,decide_false]|simp(disch:=omega) only[A0,H6]|intro hx_|with_reducible refine A0L _ _ _ ?_|omega)
       exact C3 (i+1) ⟨by omega,by rw[A2V _ _ _ hlb,hall,←hx,c4];rfl⟩ (by omega) (by(try simp only[go_sem])<;>(try simp(disch:=omega) [A0])<;>(try omega)) (D0q _)
      ·have c4:U7 x=false:=by simpa using c4
       rw[c4]at c3
       rw[bad c4]at h
       repeat' (first|with_reducible apply C9P|simp only[go_sem,hkd,bg,bd,hbl,c1,c2,hS,c3,decide_true,decide_false]|simp(disch:=omega) only[A0,H6]|intro hx_|with_reducible refine A0L _ _ _ ?_|omega)
       exact D0r (A2 hb) h
   ·have hkd:decide ((i:Int)<s.size)=false:=C9S (by omega)
    rw[C9e (by omega)]at hall
    rw[hall]at h
    repeat' (first|with_reducible apply C9P|simp only[go_sem,hkd]|simp(disch:=omega) only[A0,H6]|intro hx_|omega)
    exact D0r (A2 hb) h
 ·have hf:H8 (B s)=false:=by
   rw[←D0l]
   intro g
   unfold H8 at g
   simp only[C9c,C9l,Bool.not_eq_true']at g
   exact hv ⟨g.1.1.1,by omega,g.1.2⟩
  rw[hf]at h
  by_cases v1:B s= []
  ·repeat' (first|with_reducible apply C9P|simp only[go_sem,v1,decide_true]|simp(disch:=omega) only[A0,H6]|intro hx_|omega)
   exact D0u h
  ·have vsi:(0:Int)<s.size:=by have:=List.length_pos_iff.2 v1;omega
   by_cases v2:(200:Int)<s.size
   ·repeat' (first|with_reducible apply C9P|simp only[go_sem,v1,v2,vsi,decide_true,decide_false]|simp(disch:=omega) only[A0,H6]|intro hx_|omega)
    exact D0u h
   ·have v3:48≤nth (B s) 0∧nth (B s) 0≤57:=by
     rw[←A1E]
     cases g:U6 (nth (B s) 0)with
     |true=>rfl
     |false=>exact absurd ⟨v1,by omega,g⟩ hv
    repeat' (first|with_reducible apply C9P|simp only[go_sem,v1,v2,vsi,hd0,v3.1,v3.2,decide_true,decide_false]|simp(disch:=omega) only[A0,H6]|intro hx_|omega)
    exact D0u h
theorem A2p(P:Program)(t:TypeId)(c:Bool)(x y:ByteArray):J8 P .geq t c (.str x) (.str y)=some (.bool (!Op.bytesLess x.data.toList y.data.toList)):=rfl
theorem A8G{Q}(a:LinV)(fa:a7 a)(H:Heap)(h:Q (.bool (validL a)) H):ACalls Tryz.prog 96 [.agg (E3 a)] H Q:=by
 refine B2 [] B3 Tryz.func96 rfl (by kernel_rfl) (C9Q (by kernel_rfl)) (by kernel_rfl) ?_
 simp only[go_sem,Tryz.results96]
 intro b1 hb1
 have e1:(H.set b1 (.box (E3 a))) b1=some (.box (E3 a)):=A5 _ _
 have hle:H.Le (H.set b1 (.box (E3 a))):=A2 hb1
 generalize H.set b1 (.box (E3 a))=Bs at e1 hle⊢
 have hlen:=fa.len
 repeat' (first|with_reducible apply C9P|simp only[go_sem,e1]|simp(disch:=omega) only[A0,A9]|simp(disch:=first|omega|grind) only[A6]|intro hx_|omega)
 refine D1 [1,6,7] (fun(i:Nat)=>[(8,.int .i64 i)]) (fun(i:Nat)=>Bs) (fun(i:Nat)=>i≤a.t.length∧(List.range i).all (A6Y a.t)=true) (fun(i:Nat)=>a.t.length-i) (0) (⟨C9k _,rfl⟩) (by(try simp only[go_sem])<;>(try simp(disch:=omega) [A0])<;>(try omega)) (by first|exact D0q _|exact A2 (by assumption)|exact B4 (by assumption)|simp only[Heap.Le,Heap.set,Heap.del]at* <;>grind) ?_
 rintro Ec rfl i ⟨hi,hall⟩
 by_cases hlt:i<a.t.length
 ·have hkd:decide ((i:Int)<a.t.length)=true:=C9R (by omega)
  have hti:(i:Int)<a.t.length:=by omega
  have hco:=fa.co _ (C9d hlt)
  have e:a.t.getD i default=a.t[i]:=by simp[hlt]
  have e2: ∀hj:i-1<a.t.length,a.t.getD (i-1) default=a.t[i-1]:=fun hj=>by simp[hj]
  have hok:A6Y a.t i=(H8 (B a.t[i].v)&&(decide (i=0)||j8 (a.t.getD (i-1) default).v a.t[i].v)&&decide (a.t[i].c≠0)&&N1 a.t[i].c 1048576):=by unfold A6Y;rw[e]
  have bad:A6Y a.t i=false→validL a=false:=fun g=>by
   unfold validL l4
   have:(List.range a.t.length).all (A6Y a.t)=false:=by rw[List.all_eq_false];exact⟨i,List.mem_range.2 hlt,by rw[g];decide⟩
   rw[this];rfl
  by_cases n1:H8 (B a.t[i].v)=true
  ·by_cases n2:i=0
   ·have z0: ¬((0:Int)<i):=by omega
    have okp:(H8 (B a.t[i].v)&&(decide (i=0)||j8 (a.t.getD (i-1) default).v a.t[i].v))=true:=by rw[n1,C9R n2];rfl
    by_cases c0:a.t[i].c=0
    ·rw[bad (by rw[hok,okp,c0];simp)]at h
     repeat' (first|with_reducible apply C9P|simp only[go_sem,hkd,e1,n1,A9 _ _ hlt,C2 _ _ hlt,z0,c0,decide_true,decide_false]|simp(disch:=omega) only[A0,A9]|simp(disch:=first|omega|grind) only[A6]|intro hx_|with_reducible refine N4 _ _ ?_|with_reducible refine K9 _ _ (by omega) (by omega) _ ?_|omega)
     exact D0r (by simp only[Go.Av.Heap.Le,Go.Av.Heap.set,Go.Av.Heap.del]at* <;>grind) h
    ·by_cases w:N1 a.t[i].c 1048576=true
     ·have okt:A6Y a.t i=true:=by rw[hok,okp,w,C9R (show a.t[i].c≠0 from c0)];rfl
      repeat' (first|with_reducible apply C9P|simp only[go_sem,hkd,e1,n1,A9 _ _ hlt,C2 _ _ hlt,z0,c0,w,decide_true,decide_false]|simp(disch:=omega) only[A0,A9]|simp(disch:=first|omega|grind) only[A6]|intro hx_|with_reducible refine N4 _ _ ?_|with_reducible refine K9 _ _ (by omega) (by omega) _ ?_|omega)
      exact C3 (i+1) ⟨by omega,by rw[List.range_succ,D0T,hall];simp[okt]⟩ (by omega) (by(try simp only[go_sem])<;>(try simp(disch:=omega) [A0])<;>(try omega)) (by simp only[Go.Av.Heap.Le,Go.Av.Heap.set,Go.Av.Heap.del]at* <;>grind)
     ·have w:N1 a.t[i].c 1048576=false:=by simpa using w
      rw[bad (by rw[hok,okp,w,Bool.and_false])]at h
      repeat' (first|with_reducible apply C9P|simp only[go_sem,hkd,e1,n1,A9 _ _ hlt,C2 _ _ hlt,z0,c0,w,decide_true,decide_false]|simp(disch:=omega) only[A0,A9]|simp(disch:=first|omega|grind) only[A6]|intro hx_|with_reducible refine N4 _ _ ?_|with_reducible refine K9 _ _ (by omega) (by omega) _ ?_|omega)
      exact D0r (by simp only[Go.Av.Heap.Le,Go.Av.Heap.set,Go.Av.Heap.del]at* <;>grind) h
   ·have hj:i-1<a.t.length:=by omega
    have z0:(0:Int)<i:=by omega
    have ek:(i:Int)-1=((i-1:Nat):Int):=by omega
    have hji:((i-1:Nat):Int)<a.t.length:=by omega
    by_cases l:j8 a.t[i-1].v a.t[i].v=true
    ·have okp:(H8 (B a.t[i].v)&&(decide (i=0)||j8 (a.t.getD (i-1) default).v a.t[i].v))=true:=by rw[n1,e2 hj,l,Bool.or_true];rfl
     have lb:Op.bytesLess a.t[i-1].v.data.toList a.t[i].v.data.toList=true:=l
     by_cases c0:a.t[i].c=0
     ·rw[bad (by rw[hok,okp,c0];simp)]at h
      repeat' (first|with_reducible apply C9P|simp only[go_sem,hkd,e1,n1,A9 _ _ hlt,C2 _ _ hlt,z0,ek,hji,A9 _ _ hj,C2 _ _ hj,A2p,lb,D0n,D0o,c0,decide_true,decide_false]|simp(disch:=omega) only[A0,A9]|simp(disch:=first|omega|grind) only[A6]|intro hx_|with_reducible refine N4 _ _ ?_|with_reducible refine K9 _ _ (by omega) (by omega) _ ?_|omega)
      exact D0r (by simp only[Go.Av.Heap.Le,Go.Av.Heap.set,Go.Av.Heap.del]at* <;>grind) h
     ·by_cases w:N1 a.t[i].c 1048576=true
      ·have okt:A6Y a.t i=true:=by rw[hok,okp,w,C9R (show a.t[i].c≠0 from c0)];rfl
       repeat' (first|with_reducible apply C9P|simp only[go_sem,hkd,e1,n1,A9 _ _ hlt,C2 _ _ hlt,z0,ek,hji,A9 _ _ hj,C2 _ _ hj,A2p,lb,D0n,D0o,c0,w,decide_true,decide_false]|simp(disch:=omega) only[A0,A9]|simp(disch:=first|omega|grind) only[A6]|intro hx_|with_reducible refine N4 _ _ ?_|with_reducible refine K9 _ _ (by omega) (by omega) _ ?_|omega)
       exact C3 (i+1) ⟨by omega,by rw[List.range_succ,D0T,hall];simp[okt]⟩ (by omega) (by(try simp only[go_sem])<;>(try simp(disch:=omega) [A0])<;>(try omega)) (by simp only[Go.Av.Heap.Le,Go.Av.Heap.set,Go.Av.Heap.del]at* <;>grind)
      ·have w:N1 a.t[i].c 1048576=false:=by simpa using w
       rw[bad (by rw[hok,okp,w,Bool.and_false])]at h
       repeat' (first|with_reducible apply C9P|simp only[go_sem,hkd,e1,n1,A9 _ _ hlt,C2 _ _ hlt,z0,ek,hji,A9 _ _ hj,C2 _ _ hj,A2p,lb,D0n,D0o,c0,w,decide_true,decide_false]|simp(disch:=omega) only[A0,A9]|simp(disch:=first|omega|grind) only[A6]|intro hx_|with_reducible refine N4 _ _ ?_|with_reducible refine K9 _ _ (by omega) (by omega) _ ?_|omega)
       exact D0r (by simp only[Go.Av.Heap.Le,Go.Av.Heap.set,Go.Av.Heap.del]at* <;>grind) h
    ·have l:j8 a.t[i-1].v a.t[i].v=false:=by simpa using l
     have lb:Op.bytesLess a.t[i-1].v.data.toList a.t[i].v.data.toList=false:=l
     rw[bad (by rw[hok,n1,e2 hj,l,C9S n2];rfl)]at h
     repeat' (first|with_reducible apply C9P|simp only[go_sem,hkd,e1,n1,A9 _ _ hlt,C2 _ _ hlt,z0,ek,hji,A9 _ _ hj,C2 _ _ hj,A2p,lb,D0n,D0o,decide_true,decide_false]|simp(disch:=omega) only[A0,A9]|simp(disch:=first|omega|grind) only[A6]|intro hx_|with_reducible refine N4 _ _ ?_|with_reducible refine K9 _ _ (by omega) (by omega) _ ?_|omega)
     exact D0r (by simp only[Go.Av.Heap.Le,Go.Av.Heap.set,Go.Av.Heap.del]at* <;>grind) h
  ·have n1:H8 (B a.t[i].v)=false:=by simpa using n1
   rw[bad (by rw[hok,n1];rfl)]at h
   repeat' (first|with_reducible apply C9P|simp only[go_sem,hkd,e1,n1,A9 _ _ hlt,C2 _ _ hlt]|simp(disch:=omega) only[A0,A9]|simp(disch:=first|omega|grind) only[A6]|intro hx_|with_reducible refine N4 _ _ ?_|with_reducible refine K9 _ _ (by omega) (by omega) _ ?_|omega)
   exact D0r (by simp only[Go.Av.Heap.Le,Go.Av.Heap.set,Go.Av.Heap.del]at* <;>grind) h
 ·have hkd:decide ((i:Int)<a.t.length)=false:=C9S (by omega)
  have hie:i=a.t.length:=by omega
  subst hie
  have hv:validL a=(decide (a.t.length≤12)&&N1 a.k 1099511627776):=by unfold validL l4;rw[hall];rfl
  rw[hv]at h
  by_cases c1:(a.t.length:Int)≤12
  ·rw[C9R (show a.t.length≤12 by omega)]at h
   repeat' (first|with_reducible apply C9P|simp only[go_sem,hkd,e1,c1,decide_true]|simp(disch:=omega) only[A0,A9]|simp(disch:=first|omega|grind) only[A6]|intro hx_|with_reducible refine K9 _ _ (by omega) (by omega) _ ?_|omega)
   all_goals exact D0r (by simp only[Go.Av.Heap.Le,Go.Av.Heap.set,Go.Av.Heap.del]at* <;>grind) h
  ·rw[C9S (show¬a.t.length≤12 by omega)]at h
   repeat' (first|with_reducible apply C9P|simp only[go_sem,hkd,e1,c1,decide_false]|simp(disch:=omega) only[A0,A9]|simp(disch:=first|omega|grind) only[A6]|intro hx_|with_reducible refine K9 _ _ (by omega) (by omega) _ ?_|omega)
   all_goals exact D0r (by simp only[Go.Av.Heap.Le,Go.Av.Heap.set,Go.Av.Heap.del]at* <;>grind) h
end Go.Proofs.YtibphjonmikciaaGreatDoor
end
section
namespace Go.Av
theorem T3{Q:D→Heap→Prop}{cs cs':List D}{H:Heap}{b sz:Nat}{es:List (List D)}(hb:H b=some (.vec sz es))(hl:cs.length=cs'.length)
  (hz: ∀(i:Nat) d d',cs[i]? =some d→cs'[i]? =some d'→Fz b sz es d d') (h:Fin Q (.agg cs') (H.del b)):Fin Q (.agg cs) H:=by
 unfold Fin at h⊢
 obtain⟨H1,d1,h1,h2⟩:=h
 refine⟨H1,d1,Shift.trans (fun w v hr hs=>?_) h1,h2⟩
 refine⟨?_,hs.less (D8 H b),fun k hn=>(D8 H b).held hn⟩
 cases hr with
 |agg _ vs hlv ho hr=>
  have key: ∀(i:Nat) d',cs'[i]? =some d'→∃d,cs[i]? =some d∧Fz b sz es d d':=fun i d' hd'=>by
   have hi:=(C9Z.1 hd').1
   have hi':i<cs.length:=by omega
   exact⟨cs[i],C9g hi',hz i _ _ (C9g hi') hd'⟩
  refine .agg cs' vs (by omega) (fun i d' hd'=>?_) (fun i d' hd'=>?_)
  ·obtain⟨d,hd,hf⟩:=key i d' hd'
   exact hf.one (ho i d hd)
  ·obtain⟨d,hd,hf⟩:=key i d' hd'
   exact hf.R hs hb (hr i d hd)
theorem C70{P:Program}{H0:Heap}{KD:D→Heap→Prop}{bl:Bl}{g b:Nat}{al:List D}{c:D}{o:Obj}(h0:H0 b=none)(hr:o.rw=true)(hn:b∉bl.l)(h: ∀(H':Heap) (Q:D→Heap→Prop),(∀k cs,(H0.set b o) k=some (.ro cs)→H' k=some (.ro cs))→H' b=some o→Q c (H'.del b)→ACalls P g al H' Q)(hk:KD c H0):pcB P (.c c) bl g al [b] (H0.set b o) KD:=
 pc1 (A5 _ _) hr hn h (by rw[E7 h0];exact hk)
end Go.Av
end
section
namespace Go.Av
theorem C5y{Hd:Heap}{ob:Option Nat}{b' k:Nat}{x o:Obj}(h1:Hd k=some o)(h2:ob≠some k)(h3:K5 Hd ob b'=none):((K5 Hd ob).set b' x) k=some o:=by
 have hd:K5 Hd ob k=some o:=by
  cases ob with
  |none=>exact h1
  |some c=>
   show (Hd.del c) k=_
   rw[C8 (by rintro rfl;exact h2 rfl)];exact h1
 rw[A8 _ (by rintro rfl;rw[hd]at h3;cases h3)];exact hd
theorem newK{Hd:Heap}{ob:Option Nat}{b':Nat}(h3:K5 Hd ob b'=none):Hd b'=none∨ob=some b':=by
 cases ob with
 |none=>exact .inl h3
 |some c=>
  change (Hd.del c) b'=none at h3
  simp only[Heap.del]at h3
  by_cases e:b'=c
  ·exact .inr (by rw[e])
  ·rw[if_neg e]at h3;exact .inl h3
def Apd(H0:Heap)(sz:Nat)(ob:Option Nat)(es:List (List D))(b':Nat)(H':Heap):Prop:=
 H' b'=some (.vec sz es)∧(∀q o,H0 q=some o→ob≠some q→H' q=some o)∧(H0 b'=none∨ob=some b')
theorem A5u{P:Program}{KD:D→Heap→Prop}{H0:Heap}{sz by_ n bx:Nat}{ob:Option Nat}{o:Obj}{es xs:List (List D)}(hx0:H0 bx=none)(hne:xs≠[])(hout:OutAt H0 sz es ob)(hn:n=es.length)(h1:(n+xs.length)*by_≤140737488355328)(h2:n+xs.length≤9223372036854775807)
  (h: ∀b' H',Apd H0 sz ob (es++xs) b' H'→KD (.vec b' sz 0 (n+xs.length)) H'):apS (J4 sz n ob) sz by_ xs (H0.set bx o) KD:=by
 have hob:ob≠some bx:=fun e=>by subst e;have:H0 bx=some (.vec sz es):=hout;rw[hx0]at this;cases this
 have hout2:OutAt (H0.set bx o) sz es ob:=by
  cases ob with
  |none=>exact hout
  |some c=>show Heap.set _ bx _ c=_;rw[A8 _ (fun e=>hob (by rw[e]))];exact hout
 refine A73 es hne hn hout2 h1 h2 fun b' hb'=>?_
 refine h b' _ ⟨A5 _ _,fun q x hq hqo=>C5y (by rw[A8 _ (by rintro rfl;rw[hx0]at hq;cases hq)];exact hq) hqo hb',?_⟩
 rcases newK hb' with g|g
 ·exact .inl ((A2 hx0).none g)
 ·exact .inr g
theorem A4h{Q:D→Heap→Prop}{cs cs':List D}{x:D}{H:Heap}{b sz:Nat}{es:List (List D)}(hb:H b=some (.vec sz es))(hl:cs.length=cs'.length)
  (hz: ∀(i:Nat) d d',cs[i]? =some d→cs'[i]? =some d'→Fz b sz es d d') (h:Fin Q (.tuple [.agg cs',x]) (H.del b)):Fin Q (.tuple [.agg cs,x]) H:=by
 unfold Fin at h⊢
 obtain⟨H1,d1,h1,h2⟩:=h
 refine⟨H1,d1,Shift.trans (fun w v hr hs=>?_) h1,h2⟩
 refine⟨?_,hs.less (D8 H b),fun k hn=>(D8 H b).held hn⟩
 cases hr with
 |tuple _ us hlu hru=>
  refine .tuple [.agg cs',x] us hlu (fun q d' hd'=>?_)
  match q with
  |0=>
   cases hd'
   have hr0:=hru 0 (.agg cs) rfl
   revert hr0
   generalize us.getD 0 undef=v0
   intro hr0
   cases hr0 with
   |agg _ vs hlv ho hr=>
    have key: ∀(i:Nat) d',cs'[i]? =some d'→∃d,cs[i]? =some d∧Fz b sz es d d':=fun i d' hd'=>by
     have hi:=(C9Z.1 hd').1
     have hi':i<cs.length:=by omega
     exact⟨cs[i],C9g hi',hz i _ _ (C9g hi') hd'⟩
    refine .agg cs' vs (by omega) (fun i d' hd'=>?_) (fun i d' hd'=>?_)
    ·obtain⟨d,hd,hf⟩:=key i d' hd'
     exact hf.one (ho i d hd)
    ·obtain⟨d,hd,hf⟩:=key i d' hd'
     exact hf.R hs hb (hr i d hd)
  |1=>cases hd';exact(hru 1 _ rfl).less (D8 H b)
  |q+2=>cases hd'
theorem A6Q{P:Program}{f b sz:Nat}{es:List (List D)}{args:List D}{H H':Heap}{Q:D→Heap→Prop}(hb:H b=some (.vec sz es))
  (hH: ∀k o',H' k=some o'→k≠b∧∃o,H k=some o∧OFz b sz es o o') (h:ACalls P f args H' Q):ACalls P f args H Q:=by
 refine ACalls.shift (fun w vs h1 h2 hs=>?_) h
 have hheld: ∀k,H.held k=false→H'.held k=false:=fun k hk=>by
  cases ho:H' k with
  |none=>exact G8 ho
  |some o'=>
   obtain⟨_,o,h1,h2⟩:=hH k o' ho
   rw[I6 h1]at hk
   rw[I6 ho]
   cases h2<;>exact hk
 have hR: ∀{d d':D} {v:Value},Fz b sz es d d'→R w H d v→R w H' d' v:=fun hf hr=>(hf.R hs hb hr).mono (D0x _ _) fun k _ hk=>by
  by_cases hkb:k=b
  ·subst hkb
   cases ho:H' k with
   |none=>exact G8 ho
   |some o'=>exact absurd rfl (hH k o' ho).1
  ·refine hheld k ?_
   rw[←A0E (H:=H) (H':=H.del b) (k:=k) (by unfold Heap.del;rw[if_neg hkb])]
   exact hk
 refine⟨h1,fun i d hd=>hR (.same d) (h2 i d hd),fun k o' ho=>?_,hheld⟩
 obtain⟨_,o,h1,h2⟩:=hH k o' ho
 have hok:=hs k o h1
 cases h2 with
 |same=>exact hok.mono (D0x H w) (fun k _ hk=>hheld k hk) rfl
 |box cs cs' Z hl hf=>
  obtain⟨c,T,lo,hi,k1,k2,k3,k4,k5⟩:=hok
  refine⟨c,T,lo,hi,k1,k2,by omega,fun j d' hd'=>?_,k5⟩
  have hj:=(C9Z.1 hd').1
  have hd:cs[j]? =some (cs[j]'(by omega)):=C9g _
  have hfz:=hf j _ _ hd hd'
  exact⟨hfz.one (k4 j _ hd).1,hR hfz (k4 j _ hd).2⟩
 |vec s xs xs' hl hf=>
  obtain⟨c,T,lo,hi,k1,k2,k3,k4,k5,k6⟩:=hok
  refine⟨c,T,lo,hi,k1,k2,k3,by rw[←hl];exact k4,fun i x' hx'=>?_,fun i x' j d' hx' hd'=>?_⟩
  ·have hi':=(C9Z.1 hx').1
   have hx:xs[i]? =some (xs[i]'(by omega)):=C9g _
   rw[←(hf i _ _ hx hx').1];exact k5 i _ hx
  ·have hi':=(C9Z.1 hx').1
   have hx:xs[i]? =some (xs[i]'(by omega)):=C9g _
   have hlen:=(hf i _ _ hx hx').1
   have hj:=(C9Z.1 hd').1
   have hd:(xs[i]'(by omega))[j]? =some ((xs[i]'(by omega))[j]'(by omega)):=C9g _
   have hfz:=(hf i _ _ hx hx').2 j _ _ hd hd'
   exact⟨hfz.one (k6 i _ j _ hx hd).1,hR hfz (k6 i _ j _ hx hd).2⟩
inductive NilR:D→D→Prop
 |same (d:D):NilR d d
 |nil (z:Nat):NilR .nilsl (.sl z [])
 |agg (cs cs':List D) (hl:cs.length=cs'.length) (h: ∀(i:Nat) d d',cs[i]? =some d→cs'[i]? =some d'→NilR d d'):NilR (.agg cs) (.agg cs')
 |tuple (cs cs':List D) (hl:cs.length=cs'.length) (h: ∀(i:Nat) d d',cs[i]? =some d→cs'[i]? =some d'→NilR d d'):NilR (.tuple cs) (.tuple cs')
 |sl (sz:Nat) (es es':List (List D)) (hl:es.length=es'.length) (h1: ∀(i:Nat) (e e':List D),es[i]? =some e→es'[i]? =some e'→e.length=e'.length)
   (h: ∀(i:Nat) (e e':List D) (j:Nat) (d d':D),es[i]? =some e→es'[i]? =some e'→e[j]? =some d→e'[j]? =some d'→NilR d d'):NilR (.sl sz es) (.sl sz es')
theorem NilR.one{d d':D}(h:NilR d d')(ho:d.one=true):d'.one=true:=by
 cases h with
 |same=>exact ho
 |nil=>rfl
 |agg=>cases ho
 |tuple=>cases ho
 |sl=>rfl
theorem F6{α β :Type}{l:List α}{m:List β}(hl:l.length=m.length){i:Nat}{y: β}(h:m[i]? =some y): ∃x,l[i]? =some x:=by
 have hi:=(C9Z.1 h).1
 exact⟨l[i]'(by omega),C9g _⟩
theorem NilR.R{d d':D}(h:NilR d d'): ∀{w:World} {H:Heap} {v:Value},R w H d v→R w H d' v:=by
 induction h with
 |same d=>exact fun hr=>hr
 |nil z=>intro w H v hr;cases hr;exact .sl0 _ _ _
 |agg cs cs' hl h ih=>
  intro w H v hr
  cases hr with
  |agg _ vs hlv ho hr=>
   refine .agg cs' vs (by omega) (fun i d' hd'=>?_) (fun i d' hd'=>?_)
   ·obtain⟨d,hd⟩:=F6 hl hd'
    exact(h i d d' hd hd').one (ho i d hd)
   ·obtain⟨d,hd⟩:=F6 hl hd'
    exact ih i d d' hd hd' (hr i d hd)
 |tuple cs cs' hl h ih=>
  intro w H v hr
  cases hr with
  |tuple _ vs hlv hr=>
   refine .tuple cs' vs (by omega) (fun i d' hd'=>?_)
   obtain⟨d,hd⟩:=F6 hl hd'
   exact ih i d d' hd hd' (hr i d hd)
 |sl sz es es' hl h1 h ih=>
  intro w H v hr
  cases hr with
  |sl0 _ a cap=>
   have:es'= []:=C9n (by simpa using hl.symm)
   subst this
   exact .sl0 _ _ _
  |sl _ _ b off cap u hb hn hlen hcap hc ho hr=>
   rw[hl]
   refine .sl sz es' b off cap u hb hn (fun i e' he'=>?_) (by omega) (fun i j hi hj=>hc i j (by omega) hj) (fun i e' j d' he' hd'=>?_) (fun i e' j d' he' hd'=>?_)
   ·obtain⟨e,he⟩:=F6 hl he'
    rw[←h1 i e e' he he'];exact hlen i e he
   ·obtain⟨e,he⟩:=F6 hl he'
    obtain⟨d,hd⟩:=F6 (h1 i e e' he he') hd'
    exact(h i e e' j d d' he he' hd hd').one (ho i e j d he hd)
   ·obtain⟨e,he⟩:=F6 hl he'
    obtain⟨d,hd⟩:=F6 (h1 i e e' he he') hd'
    exact ih i e e' j d d' he he' hd hd' (hr i e j d he hd)
theorem NilR.rw{α :Type}{f g: α →List D}(sz:Nat)(l:List α)(h1: ∀x∈l,(f x).length=(g x).length)(h: ∀x∈l,∀(j:Nat) d d',(f x)[j]? =some d→(g x)[j]? =some d'→NilR d d'):NilR (.sl sz (Rw f l)) (.sl sz (Rw g l)):=by
 refine .sl sz _ _ (by simp[Rw]) (fun i e e' he he'=>?_) (fun i e e' j d d' he he' hd hd'=>?_)
 ·simp only[Rw,C9m,C9Y]at he he'
  obtain⟨x,hx,rfl⟩:=he
  obtain⟨y,hy,rfl⟩:=he'
  rw[hx]at hy;cases hy
  exact h1 x (C9w hx)
 ·simp only[Rw,C9m,C9Y]at he he'
  obtain⟨x,hx,rfl⟩:=he
  obtain⟨y,hy,rfl⟩:=he'
  rw[hx]at hy;cases hy
  exact h x (C9w hx) j d d' hd hd'
theorem D9{Q:D→Heap→Prop}{d d':D}{H:Heap}(hn:NilR d d')(h:Fin Q d' H):Fin Q d H:=by
 unfold Fin at h⊢
 obtain⟨H1,d1,h1,h2⟩:=h
 exact⟨H1,d1,Shift.trans (fun w v hr hs=>⟨hn.R hr,hs,fun k hk=>hk⟩) h1,h2⟩
theorem Z8{P:Program}{f:Nat}{args args':List D}{H:Heap}{Q:D→Heap→Prop}(hl:args.length=args'.length)(hn: ∀(i:Nat) d d',args[i]? =some d→args'[i]? =some d'→NilR d d')(h:ACalls P f args' H Q):ACalls P f args H Q:=
 ACalls.shift (args':=args') (fun w vs h1 h2 h3=>⟨by omega,fun i d' hd'=>by
  obtain⟨d,hd⟩:=F6 hl hd'
  exact(hn i d d' hd hd').R (h2 i d hd),h3,fun _ hk=>hk⟩) h
end Go.Av
end
section
set_option maxRecDepth 20000
namespace Go.Lin
open Go Go.Av Go.Lexs
theorem A3Q(k n:Int)(e:Bool):NilR (.tuple [.agg [.nilsl,.int .i64 k,.bool e],.int .i64 n]) (.tuple [.agg (E3 ⟨[],k,e⟩),.int .i64 n]):=by
 refine .tuple _ _ rfl fun i d d' h1 h2=>?_
 match i with
 |0=>
  cases h1;cases h2
  refine .agg _ _ rfl fun i d d' h1 h2=>?_
  match i with
  |0=>cases h1;cases h2;exact .nil _
  |1=>cases h1;cases h2;exact .same _
  |2=>cases h1;cases h2;exact .same _
  |i+3=>cases h1
 |1=>cases h1;cases h2;exact .same _
 |i+2=>cases h1
end Go.Lin
namespace Go.Proofs.YtibphjonmikciaaGreatDoor
open Go Go.Av Go.Lexs Go.Lin
attribute [local irreducible] ACalls W4
theorem B5l{Q}(l:List VlV)(fl:A4U l)(H:Heap)(h:Q (.bool (M2 l)) H):ACalls Tryz.prog 61 [.sl 2 (Rw vlC l)] H Q:=by
 refine B2 [] B3 Tryz.func61 rfl (by kernel_rfl) (C9Q (by kernel_rfl)) (by kernel_rfl) ?_
 simp only[go_sem,Tryz.results61]
 have hlen:=fl.len
 refine D1 [0,5,6] (fun(i:Nat)=>[(7,.int .i64 i)]) (fun(i:Nat)=>H) (fun(i:Nat)=>i≤l.length∧(List.range i).all (okV l)=true) (fun(i:Nat)=>l.length-i) (0) (⟨C9k _,rfl⟩) (by(try simp only[go_sem])<;>(try simp(disch:=omega) [A0])<;>(try omega)) (by first|exact D0q _|exact A2 (by assumption)|exact B4 (by assumption)|simp only[Heap.Le,Heap.set,Heap.del]at* <;>grind) ?_
 rintro Ec rfl i ⟨hi,hall⟩
 by_cases hlt:i<l.length
 ·have hkd:decide ((i:Int)<l.length)=true:=C9R (by omega)
  have hti:(i:Int)<l.length:=by omega
  have e:l.getD i default=l[i]:=by simp[hlt]
  have e2: ∀hj:i-1<l.length,l.getD (i-1) default=l[i-1]:=fun hj=>by simp[hj]
  have hok:okV l i=(H8 (B l[i].v)&&(decide (i=0)||j8 (l.getD (i-1) default).v l[i].v)&&N1 l[i].n 2147483647):=by unfold okV;rw[e]
  have bad:okV l i=false→M2 l=false:=fun g=>by
   unfold M2
   have:(List.range l.length).all (okV l)=false:=by rw[List.all_eq_false];exact⟨i,List.mem_range.2 hlt,by rw[g];decide⟩
   rw[this];rfl
  by_cases n1:H8 (B l[i].v)=true
  ·by_cases n2:i=0
   ·have z0: ¬((0:Int)<i):=by omega
    by_cases w:N1 l[i].n 2147483647=true
    ·have okt:okV l i=true:=by rw[hok,n1,w,C9R n2];rfl
     repeat' (first|with_reducible apply C9P|simp only[go_sem,hkd,n1,A9 _ _ hlt,C2 _ _ hlt,z0,w,D0n,D0o,decide_true,decide_false]|simp(disch:=omega) only[A0,A9]|intro hx_|with_reducible refine N4 _ _ ?_|with_reducible refine K9 _ _ (by omega) (by omega) _ ?_|omega)
     exact C3 (i+1) ⟨by omega,by rw[List.range_succ,D0T,hall];simp[okt]⟩ (by omega) (by(try simp only[go_sem])<;>(try simp(disch:=omega) [A0])<;>(try omega)) (by simp only[Go.Av.Heap.Le,Go.Av.Heap.set,Go.Av.Heap.del]at* <;>grind)
    ·have w:N1 l[i].n 2147483647=false:=by simpa using w
     rw[bad (by rw[hok,w,Bool.and_false])]at h
     repeat' (first|with_reducible apply C9P|simp only[go_sem,hkd,n1,A9 _ _ hlt,C2 _ _ hlt,z0,w,D0n,D0o,decide_true,decide_false]|simp(disch:=omega) only[A0,A9]|intro hx_|with_reducible refine N4 _ _ ?_|with_reducible refine K9 _ _ (by omega) (by omega) _ ?_|omega)
     exact D0r (by simp only[Go.Av.Heap.Le,Go.Av.Heap.set,Go.Av.Heap.del]at* <;>grind) h
   ·have hj:i-1<l.length:=by omega
    have z0:(0:Int)<i:=by omega
    have ek:(i:Int)-1=((i-1:Nat):Int):=by omega
    have hji:((i-1:Nat):Int)<l.length:=by omega
    by_cases g:j8 l[i-1].v l[i].v=true
    ·have lb:Op.bytesLess l[i-1].v.data.toList l[i].v.data.toList=true:=g
     by_cases w:N1 l[i].n 2147483647=true
     ·have okt:okV l i=true:=by rw[hok,n1,w,e2 hj,g,Bool.or_true];rfl
      repeat' (first|with_reducible apply C9P|simp only[go_sem,hkd,n1,A9 _ _ hlt,C2 _ _ hlt,z0,ek,hji,A9 _ _ hj,C2 _ _ hj,A2p,lb,w,D0n,D0o,decide_true,decide_false]|simp(disch:=omega) only[A0,A9]|intro hx_|with_reducible refine N4 _ _ ?_|with_reducible refine K9 _ _ (by omega) (by omega) _ ?_|omega)
      exact C3 (i+1) ⟨by omega,by rw[List.range_succ,D0T,hall];simp[okt]⟩ (by omega) (by(try simp only[go_sem])<;>(try simp(disch:=omega) [A0])<;>(try omega)) (by simp only[Go.Av.Heap.Le,Go.Av.Heap.set,Go.Av.Heap.del]at* <;>grind)
     ·have w:N1 l[i].n 2147483647=false:=by simpa using w
      rw[bad (by rw[hok,w,Bool.and_false])]at h
      repeat' (first|with_reducible apply C9P|simp only[go_sem,hkd,n1,A9 _ _ hlt,C2 _ _ hlt,z0,ek,hji,A9 _ _ hj,C2 _ _ hj,A2p,lb,w,D0n,D0o,decide_true,decide_false]|simp(disch:=omega) only[A0,A9]|intro hx_|with_reducible refine N4 _ _ ?_|with_reducible refine K9 _ _ (by omega) (by omega) _ ?_|omega)
      exact D0r (by simp only[Go.Av.Heap.Le,Go.Av.Heap.set,Go.Av.Heap.del]at* <;>grind) h
    ·have g:j8 l[i-1].v l[i].v=false:=by simpa using g
     have lb:Op.bytesLess l[i-1].v.data.toList l[i].v.data.toList=false:=g
     rw[bad (by rw[hok,n1,e2 hj,g,C9S n2];rfl)]at h
     repeat' (first|with_reducible apply C9P|simp only[go_sem,hkd,n1,A9 _ _ hlt,C2 _ _ hlt,z0,ek,hji,A9 _ _ hj,C2 _ _ hj,A2p,lb,D0n,D0o,decide_true,decide_false]|simp(disch:=omega) only[A0,A9]|intro hx_|with_reducible refine N4 _ _ ?_|with_reducible refine K9 _ _ (by omega) (by omega) _ ?_|omega)
     exact D0r (by simp only[Go.Av.Heap.Le,Go.Av.Heap.set,Go.Av.Heap.del]at* <;>grind) h
  ·have n1:H8 (B l[i].v)=false:=by simpa using n1
   rw[bad (by rw[hok,n1];rfl)]at h
   repeat' (first|with_reducible apply C9P|simp only[go_sem,hkd,n1,A9 _ _ hlt,C2 _ _ hlt,D0n,D0o,decide_true,decide_false]|simp(disch:=omega) only[A0,A9]|intro hx_|with_reducible refine N4 _ _ ?_|with_reducible refine K9 _ _ (by omega) (by omega) _ ?_|omega)
   exact D0r (by simp only[Go.Av.Heap.Le,Go.Av.Heap.set,Go.Av.Heap.del]at* <;>grind) h
 ·have hkd:decide ((i:Int)<l.length)=false:=C9S (by omega)
  have hie:i=l.length:=by omega
  subst hie
  have hv:M2 l=decide ((l.length:Int)≤24):=by
   unfold M2;rw[hall];by_cases g:l.length≤24
   ·rw[C9R g,C9R (show (l.length:Int)≤24 by omega)];rfl
   ·rw[C9S g,C9S (show¬(l.length:Int)≤24 by omega)];rfl
  rw[hv]at h
  repeat' (first|with_reducible apply C9P|simp only[go_sem,hkd]|simp(disch:=omega) only[A0,A9]|intro hx_|omega)
  exact D0r (by simp only[Go.Av.Heap.Le,Go.Av.Heap.set,Go.Av.Heap.del]at* <;>grind) h
end Go.Proofs.YtibphjonmikciaaGreatDoor
end
section
namespace Go.Lin
open Go Go.Av
theorem A0C{n:Int}(h0:0≤n)(h1:n<18446744073709551616):IntKind.u64.wrap n=n:=by
 simp only[IntKind.wrap,IntKind.signed,IntKind.bits]
 simp
 omega
theorem A6a{n:Int}:IntKind.u32.wrap n=n % 4294967296:=by
 simp only[IntKind.wrap,IntKind.signed,IntKind.bits]
 simp
theorem B8o{n:Int}(h0:0≤n)(h1:n<4294967296):IntKind.u32.wrap n=n:=by rw[A6a];omega
theorem C2S{r x:Nat}(hr:r<4294967296)(hx:x<4294967296):IntKind.u64.wrap (((BitVec.ofInt 64 ((r:Int)*4294967296)|||BitVec.ofInt 64 (x:Int)).toNat:Nat):Int)=((r*4294967296+x:Nat):Int):=by
 have e1:BitVec.ofInt 64 ((r:Int)*4294967296)=BitVec.ofNat 64 (r*4294967296):=by
  rw[show ((r:Int)*4294967296)=((r*4294967296:Nat):Int)by omega,BitVec.ofInt_natCast]
 rw[e1,BitVec.ofInt_natCast,BitVec.toNat_or,BitVec.toNat_ofNat,BitVec.toNat_ofNat,D0Q (by omega),D0Q (by omega)]
 have e2:r*4294967296|||x=r*4294967296+x:=by
  have:=Nat.two_pow_add_eq_or_of_lt (i:=32) (b:=x) (by simpa using hx) r
  rw[show r*4294967296=2 ^ 32*r by omega]
  exact this.symm
 rw[e2]
 exact A0C (by omega) (by omega)
section
variable {P:Program} {t:Nat} {c:Bool}
@[go_sem] theorem C66(a:Int):J8 P .shr t c (.int .u64 a) (.int .u64 32)=some (.int .u64 (a / 4294967296)):=by
 show (if(32:Int)<0 then none else some (D.int .u64 (a.fdiv (2 ^ (min (32:Int).toNat IntKind.u64.bits)))))=_
 rw[if_neg (by decide)]
 have e:(2:Int) ^ (min (32:Int).toNat IntKind.u64.bits)=4294967296:=by decide
 rw[e,Int.fdiv_eq_ediv_of_nonneg _ (by decide)]
@[go_sem] theorem C71(a:Int):J8 P .shr t c (.int .i64 a) (.int .u64 32)=some (.int .i64 (a / 4294967296)):=by
 show (if(32:Int)<0 then none else some (D.int .i64 (a.fdiv (2 ^ (min (32:Int).toNat IntKind.i64.bits)))))=_
 rw[if_neg (by decide)]
 have e:(2:Int) ^ (min (32:Int).toNat IntKind.i64.bits)=4294967296:=by decide
 rw[e,Int.fdiv_eq_ediv_of_nonneg _ (by decide)]
@[go_sem] theorem C67(a:Int):J8 P .shl t c (.int .u64 a) (.int .u64 32)=some (.int .u64 (IntKind.u64.wrap (a*4294967296))):=by
 show (if(32:Int)<0 then none else some (D.int .u64 (IntKind.u64.wrap (a*(2 ^ (min (32:Int).toNat IntKind.u64.bits))))))=_
 rw[if_neg (by decide)]
 have e:(2:Int) ^ (min (32:Int).toNat IntKind.u64.bits)=4294967296:=by decide
 rw[e]
@[go_sem] theorem C72(a b:Int):J8 P .or t c (.int .u64 a) (.int .u64 b)=some (.int .u64 (IntKind.u64.wrap ((BitVec.ofInt 64 a|||BitVec.ofInt 64 b).toNat:Nat))):=rfl
end
end Go.Lin
end
section
set_option maxRecDepth 20000
namespace Go.Proofs.YtibphjonmikciaaGreatDoor
open Go Go.Av Go.Lin
attribute [local irreducible] ACalls W4
theorem A35{Q}(l:List Nat)(b:Nat)(H:Heap)(n:Nat)(hn:n=l.length)(hl:l.length≤1000000)(hb:H b=some (.vec 1 (Rw E9 l)))(h:Q (.vec b 1 0 (y7 l n)) H):ACalls Tryz.prog 287 [.vec b 1 0 n] H Q:=by
 subst hn
 refine B2 [] B3 Tryz.func287 rfl (by kernel_rfl) (C9Q (by kernel_rfl)) (by kernel_rfl) ?_
 simp only[go_sem,Tryz.results287]
 repeat' (first|with_reducible apply C9P|simp only[go_sem]|simp(disch:=omega) only[A0]|intro hx_|omega)
 refine D1 [] (fun(m:Nat)=>[(0,.vec b 1 0 m)]) (fun(m:Nat)=>H) (fun(m:Nat)=>m≤l.length∧y7 l m=y7 l l.length) (fun(m:Nat)=>m) (l.length) (⟨C9j _,rfl⟩) (by(try simp only[go_sem])<;>(try simp(disch:=omega) [A0])<;>(try omega)) (by first|exact D0q _|exact A2 (by assumption)|exact B4 (by assumption)|simp only[Heap.Le,Heap.set,Heap.del]at* <;>grind) ?_
 rintro Ec rfl m ⟨hm,ht⟩
 by_cases h0:0<m
 ·obtain⟨k,rfl⟩: ∃k,m=k+1:=⟨m-1,by omega⟩
  have hk:k<l.length:=by omega
  have hg:l.getD k 0=l[k]:=by simp[hk]
  have ek:(((k+1:Nat):Int)-1)=(k:Int):=by omega
  rw[y7,hg]at ht
  by_cases hz:l[k]=0
  ·rw[if_pos hz]at ht
   repeat' (first|with_reducible apply C9P|simp only[go_sem,hb,A9 _ _ hk,C2 _ _ hk,ek,hz,decide_true]|simp(disch:=omega) only[A0]|intro hx_|omega)
   exact C3 k ⟨by omega,ht⟩ (by omega) (by(try simp only[go_sem])<;>(try simp(disch:=omega) [A0])<;>(try omega)) (D0q _)
  ·rw[if_neg hz]at ht
   have hzi: ¬((l[k]:Nat):Int)=0:=by omega
   repeat' (first|with_reducible apply C9P|simp only[go_sem,hb,A9 _ _ hk,C2 _ _ hk,ek,hzi,decide_false]|simp(disch:=omega) only[A0]|intro hx_|omega)
   rw[←ht]at h
   exact D0u h
 ·have e:m=0:=by omega
  subst e
  rw[y7]at ht
  repeat' (first|with_reducible apply C9P|simp only[go_sem]|simp(disch:=omega) only[A0]|intro hx_|omega)
  rw[←ht]at h
  exact D0u h
theorem A1q{Q:D→Heap→Prop}{H:Heap}{b n:Nat}{l:List Nat}(hd:Dig l)(hn:n=l.length)(hb:H b=some (.vec 1 (Rw E9 l)))(h:Av.Fin Q (W3 (E6 l)) (H.del b)):Av.Fin Q (.vec b 1 0 (y7 l n)) H:=by
 subst hn
 refine Fin.freeze hb (.vec 0 _ (by rw[Nat.zero_add,D6];exact A9o _ _)) ?_
 rw[List.drop_zero,A74,A9p hd]
 exact h
theorem C2T{Q}(n:Nat)(hn:n<18446744073709551616)(H:Heap)(h:Q (W3 n) H):ACalls Tryz.prog 265 [.int .u64 n] H Q:=by
 refine B2 [] B3 Tryz.func265 rfl (by kernel_rfl) (C9Q (by kernel_rfl)) (by kernel_rfl) ?_
 simp only[go_sem,Tryz.results265]
 repeat' (first|with_reducible apply C9P|simp only[go_sem]|intro hx_|omega)
 rename_i b
 have hb:=hx_
 clear hx_
 have e1:IntKind.u32.wrap (n:Int)=((n % 4294967296:Nat):Int):=by rw[A6a];omega
 have e2:IntKind.u32.wrap ((n:Int) / 4294967296)=((n / 4294967296:Nat):Int):=by rw[A6a];omega
 have hd:Dig [n % 4294967296,n / 4294967296]:=fun x hx=>by
  simp only[C9r,C9s,or_false]at hx
  rcases hx with rfl|rfl<;>omega
 have hv:E6 [n % 4294967296,n / 4294967296]=n:=by simp only[E6];omega
 rw[e1,e2]
 refine A35 [n % 4294967296,n / 4294967296] b _ 2 rfl (by simp) (A5 _ _) ?_
 repeat' (first|with_reducible apply C9P|simp only[go_sem]|intro hx_|omega)
 refine A1q hd rfl (A5 _ _) ?_
 rw[hv,E7 hb]
 exact D0u h
def C5z(a b:Nat)(c:Int):Prop:=(c<0↔a<b)∧(c=0↔a=b)
theorem B5m{Q}(a b:Nat)(ha:(C0 a).length≤1000000)(hb:(C0 b).length≤1000000)(H:Heap)(h: ∀c:Int,C5z a b c→Q (.int .i64 c) H):ACalls Tryz.prog 283 [W3 a,W3 b] H Q:=by
 refine B2 [] B3 Tryz.func283 rfl (by kernel_rfl) (C9Q (by kernel_rfl)) (by kernel_rfl) ?_
 simp only[go_sem,Tryz.results283]
 have va:=J5 a
 have vb:=J5 b
 have da:=O9 a
 have db:=O9 b
 by_cases hl:(C0 a).length=(C0 b).length
 ·have hl2:((C0 a).length:Int)=(C0 b).length:=by omega
  repeat' (first|with_reducible apply C9P|simp only[go_sem,hl2,bne_self_eq_false]|simp(disch:=omega) only[A0,A9]|intro hx_|omega)
  refine D1 [0,1] (fun(k:Nat)=>[(5,.int .i64 ((k:Int)-1))]) (fun(k:Nat)=>H) (fun(k:Nat)=>k≤(C0 a).length∧(C0 a).drop k=(C0 b).drop k) (fun(k:Nat)=>k) ((C0 b).length) (⟨by omega,by rw[List.drop_length,List.drop_eq_nil_of_le (by omega)]⟩) (by(try simp only[go_sem])<;>(try simp(disch:=omega) [A0])<;>(try omega)) (by first|exact D0q _|exact A2 (by assumption)|exact B4 (by assumption)|simp only[Heap.Le,Heap.set,Heap.del]at* <;>grind) ?_
  rintro Ec rfl k ⟨hk,hdr⟩
  by_cases h0:0<k
  ·obtain⟨j,rfl⟩: ∃j,k=j+1:=⟨k-1,by omega⟩
   have ja:j<(C0 a).length:=by omega
   have jb:j<(C0 b).length:=by omega
   have ek:(((j+1:Nat):Int)-1)=(j:Int):=by omega
   have k0:decide ((0:Int)≤(j:Int))=true:=C9R (by omega)
   by_cases he:(C0 a)[j]=(C0 b)[j]
   ·have hei:((((C0 a)[j]:Nat):Int) != (((C0 b)[j]:Nat):Int))=false:=by rw[he];exact bne_self_eq_false _
    repeat' (first|with_reducible apply C9P|simp only[go_sem,A9 _ _ ja,C2 _ _ ja,A9 _ _ jb,C2 _ _ jb,ek,k0,hei]|simp(disch:=omega) only[A0,A9]|intro hx_|omega)
    exact C3 j ⟨by omega,by rw[C9u ja,C9u jb,hdr,he]⟩ (by omega) (by(try simp only[go_sem])<;>(try simp(disch:=omega) [A0])<;>(try omega)) (D0q _)
   ·have hei:((((C0 a)[j]:Nat):Int) != (((C0 b)[j]:Nat):Int))=true:=by rw[bne_iff_ne];omega
    by_cases hlt:(C0 a)[j]<(C0 b)[j]
    ·have hld:decide ((((C0 a)[j]:Nat):Int)<(((C0 b)[j]:Nat):Int))=true:=C9R (by omega)
     repeat' (first|with_reducible apply C9P|simp only[go_sem,A9 _ _ ja,C2 _ _ ja,A9 _ _ jb,C2 _ _ jb,ek,k0,hei,hld]|simp(disch:=omega) only[A0,A9]|intro hx_|omega)
     have:=A9r da db hl ja hdr hlt
     rw[va,vb]at this
     exact D0u (h _ ⟨by omega,by omega⟩)
    ·have hld:decide ((((C0 a)[j]:Nat):Int)<(((C0 b)[j]:Nat):Int))=false:=C9S (by omega)
     repeat' (first|with_reducible apply C9P|simp only[go_sem,A9 _ _ ja,C2 _ _ ja,A9 _ _ jb,C2 _ _ jb,ek,k0,hei,hld]|simp(disch:=omega) only[A0,A9]|intro hx_|omega)
     have:=A9r db da hl.symm jb hdr.symm (by omega)
     rw[va,vb]at this
     exact D0u (h _ ⟨by omega,by omega⟩)
  ·have e:k=0:=by omega
   subst e
   have k0:decide ((0:Int)≤(((0:Nat):Int)-1))=false:=by decide
   rw[List.drop_zero,List.drop_zero]at hdr
   have hab:a=b:=by rw[←va,←vb,hdr]
   repeat' (first|with_reducible apply C9P|simp only[go_sem,k0]|simp(disch:=omega) only[A0,A9]|intro hx_|omega)
   exact D0u (h _ ⟨by omega,by omega⟩)
 ·have hln:((((C0 a).length:Nat):Int) != (((C0 b).length:Nat):Int))=true:=by rw[bne_iff_ne];omega
  repeat' (first|with_reducible apply C9P|simp only[go_sem,hln]|simp(disch:=omega) only[A0,A9]|intro hx_|omega)
  refine D0u (h _ ?_)
  rcases Nat.lt_or_gt_of_ne hl with g|g
  ·have:=A0K g;exact⟨by omega,by omega⟩
  ·have:=A0K g;exact⟨by omega,by omega⟩
theorem B5n{Q}(m n:Nat)(hm:(C0 m).length≤100000)(hn:(C0 n).length≤100000)(H:Heap)(h:Q (W3 (m+n)) H):ACalls Tryz.prog 279 [W3 m,W3 n] H Q:=by
 refine B2 [] B3 Tryz.func279 rfl (by kernel_rfl) (C9Q (by kernel_rfl)) (by kernel_rfl) ?_
 simp only[go_sem,Tryz.results279]
 by_cases hsw:(C0 m).length<(C0 n).length
 ·have hswd:decide (((C0 m).length:Int)<(C0 n).length)=true:=C9R (by omega)
  repeat' (first|with_reducible apply C9P|simp only[go_sem,hswd]|simp(disch:=omega) only[A0,A9,F9]|intro hx_|omega)
  rename_i bo
  have hbo:=hx_
  clear hx_
  have hrep:([D.int .u32 0]::List.replicate (C0 n).length [D.int .u32 0])=Rw E9 (R6 [] ((C0 n).length+1)):=by rw[←List.replicate_succ,A5r];exact A5i _ _ _ rfl
  rw[hrep]
  refine D1 [0,1,5,20] (fun(p:List Nat×Nat)=>[(21,.int .i64 p.1.length),(6,.int .u64 p.2)]) (fun(p:List Nat×Nat)=>H.set bo (.vec 1 (Rw E9 (R6 p.1 ((C0 n).length+1))))) (fun(p:List Nat×Nat)=>p.1.length≤(C0 n).length∧Dig p.1∧p.2≤1∧E6 p.1+4294967296 ^ p.1.length*p.2=E6 ((C0 n).take p.1.length)+E6 ((C0 m).take p.1.length)) (fun(p:List Nat×Nat)=>(C0 n).length-p.1.length) (([],0)) (⟨C9k _,by simp[Dig],by simp,by simp[E6]⟩) (by(try simp only[go_sem])<;>(try simp(disch:=omega) [A0])<;>(try omega)) (by first|exact D0q _|exact A2 (by assumption)|exact B4 (by assumption)|simp only[Heap.Le,Heap.set,Heap.del]at* <;>grind) ?_
  rintro Ec rfl ⟨L,c⟩ ⟨hL,dL,hc,hv⟩
  simp only at hL dL hc hv
  have hpl:=A5q L ((C0 n).length+1) (by omega)
  by_cases hlt:L.length<(C0 n).length
  ·have hkd:decide ((L.length:Int)<(C0 n).length)=true:=C9R (by omega)
   have x1:=F9 (O9 n) hlt
   have w1:IntKind.u64.wrap (((C0 n)[L.length]:Nat):Int)=(((C0 n)[L.length]:Nat):Int):=A0C (by omega) (by omega)
   have w2:IntKind.u64.wrap ((c:Int)+((C0 n)[L.length]:Nat))=((c+(C0 n)[L.length]:Nat):Int):=by rw[A0C (by omega) (by omega)];omega
   have hset:L.length<(R6 L ((C0 n).length+1)).length:=by omega
   by_cases hy:L.length<(C0 m).length
   ·have hyd:decide ((L.length:Int)<(C0 m).length)=true:=C9R (by omega)
    have y1:=F9 (O9 m) hy
    have w3:IntKind.u64.wrap (((C0 m)[L.length]:Nat):Int)=(((C0 m)[L.length]:Nat):Int):=A0C (by omega) (by omega)
    obtain⟨s,hs⟩: ∃s,s=c+(C0 n)[L.length]+(C0 m)[L.length]:=⟨_,rfl⟩
    have w4:IntKind.u64.wrap (((c+(C0 n)[L.length]:Nat):Int)+((C0 m)[L.length]:Nat))=(s:Int):=by rw[A0C (by omega) (by omega)];omega
    have w5:IntKind.u32.wrap (s:Int)=((s % 4294967296:Nat):Int):=by rw[A6a];omega
    have w6:(s:Int) / 4294967296=((s / 4294967296:Nat):Int):=by omega
    have e1:(Rw E9 (R6 L ((C0 n).length+1))).set L.length [.int .u32 ((s % 4294967296:Nat):Int)]=Rw E9 (R6 (L++[s % 4294967296]) ((C0 n).length+1)):=by rw[←Z3 L _ _ (by omega)];exact X7 _ _ _ _ rfl
    repeat' (first|with_reducible apply C9P|simp only[go_sem,hkd,hyd,hpl,A9 _ _ hlt,C2 _ _ hlt,A9 _ _ hy,C2 _ _ hy,w1,w2,w3,w4,w5,w6,e1]|simp(disch:=omega) only[A0,A9,F9]|intro hx_|omega)
    refine C3 (L++[s % 4294967296],s / 4294967296) ⟨by simp only[C9V,C9X];omega,Z2 dL (by omega),by simp only[];omega,?_⟩ (by simp only[C9V,C9X];omega) (by(try simp only[go_sem,C9V,C9X])<;>(try simp(disch:=omega) [A0])<;>(try omega)) (D0q _)
    simp only[C9V,C9X]
    rw[A1H,G5 _ _ hlt,G5 _ _ hy,hs,Nat.mul_add,Nat.mul_add]
    omega
   ·have hyd:decide ((L.length:Int)<(C0 m).length)=false:=C9S (by omega)
    obtain⟨s,hs⟩: ∃s,s=c+(C0 n)[L.length]:=⟨_,rfl⟩
    rw[←hs]at w2
    have w5:IntKind.u32.wrap (s:Int)=((s % 4294967296:Nat):Int):=by rw[A6a];omega
    have w6:(s:Int) / 4294967296=((s / 4294967296:Nat):Int):=by omega
    have e1:(Rw E9 (R6 L ((C0 n).length+1))).set L.length [.int .u32 ((s % 4294967296:Nat):Int)]=Rw E9 (R6 (L++[s % 4294967296]) ((C0 n).length+1)):=by rw[←Z3 L _ _ (by omega)];exact X7 _ _ _ _ rfl
    repeat' (first|with_reducible apply C9P|simp only[go_sem,hkd,hyd,hpl,A9 _ _ hlt,C2 _ _ hlt,w1,w2,w5,w6,e1]|simp(disch:=omega) only[A0,A9,F9]|intro hx_|omega)
    refine C3 (L++[s % 4294967296],s / 4294967296) ⟨by simp only[C9V,C9X];omega,Z2 dL (by omega),by simp only[];omega,?_⟩ (by simp only[C9V,C9X];omega) (by(try simp only[go_sem,C9V,C9X])<;>(try simp(disch:=omega) [A0])<;>(try omega)) (D0q _)
    simp only[C9V,C9X]
    rw[C9e (l:=C0 m) (by omega)]at hv
    rw[A1H,G5 _ _ hlt,C9e (l:=C0 m) (by omega),hs,Nat.mul_add]
    omega
  ·have hkd:decide ((L.length:Int)<(C0 n).length)=false:=C9S (by omega)
   have hLe:L.length=(C0 n).length:=by omega
   have w5:IntKind.u32.wrap (c:Int)=((c:Nat):Int):=B8o (by omega) (by omega)
   have e1:(Rw E9 (R6 L ((C0 n).length+1))).set (C0 n).length [.int .u32 ((c:Nat):Int)]=Rw E9 (L++[c]):=by
    rw[←hLe,←A32 (L++[c]) (L.length+1) (by simp),←Z3 L _ _ (by omega)];exact X7 _ _ _ _ rfl
   have hval:E6 (L++[c])=m+n:=by
    rw[m0,hv,C9e (by omega),C9e (by omega),J5,J5];omega
   repeat' (first|with_reducible apply C9P|simp only[go_sem,hkd,hpl,w5,e1]|simp(disch:=omega) only[A0,A9,F9]|intro hx_|omega)
   refine A35 (L++[c]) bo _ _ (by simp[hLe]) (by simp;omega) (A5 _ _) ?_
   repeat' (first|with_reducible apply C9P|simp only[go_sem]|simp(disch:=omega) only[A0,A9,F9]|intro hx_|omega)
   refine A1q (l:=L++[c]) (Z2 dL (show c<4294967296 by omega)) (by simp[hLe]) (A5 _ _) ?_
   rw[hval,E7 hbo]
   exact D0u h
 ·have hswd:decide (((C0 m).length:Int)<(C0 n).length)=false:=C9S (by omega)
  repeat' (first|with_reducible apply C9P|simp only[go_sem,hswd]|simp(disch:=omega) only[A0,A9,F9]|intro hx_|omega)
  rename_i bo
  have hbo:=hx_
  clear hx_
  have hrep:([D.int .u32 0]::List.replicate (C0 m).length [D.int .u32 0])=Rw E9 (R6 [] ((C0 m).length+1)):=by rw[←List.replicate_succ,A5r];exact A5i _ _ _ rfl
  rw[hrep]
  refine D1 [0,1,5,20] (fun(p:List Nat×Nat)=>[(21,.int .i64 p.1.length),(6,.int .u64 p.2)]) (fun(p:List Nat×Nat)=>H.set bo (.vec 1 (Rw E9 (R6 p.1 ((C0 m).length+1))))) (fun(p:List Nat×Nat)=>p.1.length≤(C0 m).length∧Dig p.1∧p.2≤1∧E6 p.1+4294967296 ^ p.1.length*p.2=E6 ((C0 m).take p.1.length)+E6 ((C0 n).take p.1.length)) (fun(p:List Nat×Nat)=>(C0 m).length-p.1.length) (([],0)) (⟨C9k _,by simp[Dig],by simp,by simp[E6]⟩) (by(try simp only[go_sem])<;>(try simp(disch:=omega) [A0])<;>(try omega)) (by first|exact D0q _|exact A2 (by assumption)|exact B4 (by assumption)|simp only[Heap.Le,Heap.set,Heap.del]at* <;>grind) ?_
  rintro Ec rfl ⟨L,c⟩ ⟨hL,dL,hc,hv⟩
  simp only at hL dL hc hv
  have hpl:=A5q L ((C0 m).length+1) (by omega)
  by_cases hlt:L.length<(C0 m).length
  ·have hkd:decide ((L.length:Int)<(C0 m).length)=true:=C9R (by omega)
   have x1:=F9 (O9 m) hlt
   have w1:IntKind.u64.wrap (((C0 m)[L.length]:Nat):Int)=(((C0 m)[L.length]:Nat):Int):=A0C (by omega) (by omega)
   have w2:IntKind.u64.wrap ((c:Int)+((C0 m)[L.length]:Nat))=((c+(C0 m)[L.length]:Nat):Int):=by rw[A0C (by omega) (by omega)];omega
   have hset:L.length<(R6 L ((C0 m).length+1)).length:=by omega
   by_cases hy:L.length<(C0 n).length
   ·have hyd:decide ((L.length:Int)<(C0 n).length)=true:=C9R (by omega)
    have y1:=F9 (O9 n) hy
    have w3:IntKind.u64.wrap (((C0 n)[L.length]:Nat):Int)=(((C0 n)[L.length]:Nat):Int):=A0C (by omega) (by omega)
    obtain⟨s,hs⟩: ∃s,s=c+(C0 m)[L.length]+(C0 n)[L.length]:=⟨_,rfl⟩
    have w4:IntKind.u64.wrap (((c+(C0 m)[L.length]:Nat):Int)+((C0 n)[L.length]:Nat))=(s:Int):=by rw[A0C (by omega) (by omega)];omega
    have w5:IntKind.u32.wrap (s:Int)=((s % 4294967296:Nat):Int):=by rw[A6a];omega
    have w6:(s:Int) / 4294967296=((s / 4294967296:Nat):Int):=by omega
    have e1:(Rw E9 (R6 L ((C0 m).length+1))).set L.length [.int .u32 ((s % 4294967296:Nat):Int)]=Rw E9 (R6 (L++[s % 4294967296]) ((C0 m).length+1)):=by rw[←Z3 L _ _ (by omega)];exact X7 _ _ _ _ rfl
    repeat' (first|with_reducible apply C9P|simp only[go_sem,hkd,hyd,hpl,A9 _ _ hlt,C2 _ _ hlt,A9 _ _ hy,C2 _ _ hy,w1,w2,w3,w4,w5,w6,e1]|simp(disch:=omega) only[A0,A9,F9]|intro hx_|omega)
    refine C3 (L++[s % 4294967296],s / 4294967296) ⟨by simp only[C9V,C9X];omega,Z2 dL (by omega),by simp only[];omega,?_⟩ (by simp only[C9V,C9X];omega) (by(try simp only[go_sem,C9V,C9X])<;>(try simp(disch:=omega) [A0])<;>(try omega)) (D0q _)
    simp only[C9V,C9X]
    rw[A1H,G5 _ _ hlt,G5 _ _ hy,hs,Nat.mul_add,Nat.mul_add]
    omega
   ·have hyd:decide ((L.length:Int)<(C0 n).length)=false:=C9S (by omega)
    obtain⟨s,hs⟩: ∃s,s=c+(C0 m)[L.length]:=⟨_,rfl⟩
    rw[←hs]at w2
    have w5:IntKind.u32.wrap (s:Int)=((s % 4294967296:Nat):Int):=by rw[A6a];omega
    have w6:(s:Int) / 4294967296=((s / 4294967296:Nat):Int):=by omega
    have e1:(Rw E9 (R6 L ((C0 m).length+1))).set L.length [.int .u32 ((s % 4294967296:Nat):Int)]=Rw E9 (R6 (L++[s % 4294967296]) ((C0 m).length+1)):=by rw[←Z3 L _ _ (by omega)];exact X7 _ _ _ _ rfl
    repeat' (first|with_reducible apply C9P|simp only[go_sem,hkd,hyd,hpl,A9 _ _ hlt,C2 _ _ hlt,w1,w2,w5,w6,e1]|simp(disch:=omega) only[A0,A9,F9]|intro hx_|omega)
    refine C3 (L++[s % 4294967296],s / 4294967296) ⟨by simp only[C9V,C9X];omega,Z2 dL (by omega),by simp only[];omega,?_⟩ (by simp only[C9V,C9X];omega) (by(try simp only[go_sem,C9V,C9X])<;>(try simp(disch:=omega) [A0])<;>(try omega)) (D0q _)
    simp only[C9V,C9X]
    rw[C9e (l:=C0 n) (by omega)]at hv
    rw[A1H,G5 _ _ hlt,C9e (l:=C0 n) (by omega),hs,Nat.mul_add]
    omega
  ·have hkd:decide ((L.length:Int)<(C0 m).length)=false:=C9S (by omega)
   have hLe:L.length=(C0 m).length:=by omega
   have w5:IntKind.u32.wrap (c:Int)=((c:Nat):Int):=B8o (by omega) (by omega)
   have e1:(Rw E9 (R6 L ((C0 m).length+1))).set (C0 m).length [.int .u32 ((c:Nat):Int)]=Rw E9 (L++[c]):=by
    rw[←hLe,←A32 (L++[c]) (L.length+1) (by simp),←Z3 L _ _ (by omega)];exact X7 _ _ _ _ rfl
   have hval:E6 (L++[c])=m+n:=by
    rw[m0,hv,C9e (by omega),C9e (by omega),J5,J5]
   repeat' (first|with_reducible apply C9P|simp only[go_sem,hkd,hpl,w5,e1]|simp(disch:=omega) only[A0,A9,F9]|intro hx_|omega)
   refine A35 (L++[c]) bo _ _ (by simp[hLe]) (by simp;omega) (A5 _ _) ?_
   repeat' (first|with_reducible apply C9P|simp only[go_sem]|simp(disch:=omega) only[A0,A9,F9]|intro hx_|omega)
   refine A1q (l:=L++[c]) (Z2 dL (show c<4294967296 by omega)) (by simp[hLe]) (A5 _ _) ?_
   rw[hval,E7 hbo]
   exact D0u h
theorem B5o{Q}(m n:Nat)(hle:n≤m)(hm:(C0 m).length≤100000)(H:Heap)(h:Q (W3 (m-n)) H):ACalls Tryz.prog 284 [W3 m,W3 n] H Q:=by
 refine B2 [] B3 Tryz.func284 rfl (by kernel_rfl) (C9Q (by kernel_rfl)) (by kernel_rfl) ?_
 simp only[go_sem,Tryz.results284]
 have hln:(C0 n).length≤(C0 m).length:=by
  by_cases g:(C0 m).length<(C0 n).length
  ·have:=A0K g;omega
  ·omega
 repeat' (first|with_reducible apply C9P|simp only[go_sem]|simp(disch:=omega) only[A0,A9,F9]|intro hx_|omega)
 rename_i bo
 have hbo:=hx_
 clear hx_
 have hrep:List.replicate (C0 m).length [D.int .u32 0]=Rw E9 (R6 [] (C0 m).length):=by rw[A5r];exact A5i _ _ _ rfl
 rw[hrep]
 refine D1 [0,1,5,12] (fun(p:List Nat×Int)=>[(13,.int .i64 p.1.length),(6,.int .i64 p.2)]) (fun(p:List Nat×Int)=>H.set bo (.vec 1 (Rw E9 (R6 p.1 (C0 m).length)))) (fun(p:List Nat×Int)=>p.1.length≤(C0 m).length∧Dig p.1∧(-1≤p.2∧p.2≤0)∧(E6 p.1:Int)+(4294967296:Int) ^ p.1.length*p.2=E6 ((C0 m).take p.1.length)-E6 ((C0 n).take p.1.length)) (fun(p:List Nat×Int)=>(C0 m).length-p.1.length) (([],0)) (⟨C9k _,by simp[Dig],by simp,by simp[E6]⟩) (by(try simp only[go_sem])<;>(try simp(disch:=omega) [A0])<;>(try omega)) (by first|exact D0q _|exact A2 (by assumption)|exact B4 (by assumption)|simp only[Heap.Le,Heap.set,Heap.del]at* <;>grind) ?_
 rintro Ec rfl ⟨L,c⟩ ⟨hL,dL,hc,hv⟩
 simp only at hL dL hc hv
 have hpl:=A5q L (C0 m).length (by omega)
 by_cases hlt:L.length<(C0 m).length
 ·have hkd:decide ((L.length:Int)<(C0 m).length)=true:=C9R (by omega)
  have x1:=F9 (O9 m) hlt
  have w1:IntKind.i64.wrap (((C0 m)[L.length]:Nat):Int)=(((C0 m)[L.length]:Nat):Int):=A0 (by omega) (by omega)
  have w2:IntKind.i64.wrap (c+((C0 m)[L.length]:Nat))=c+((C0 m)[L.length]:Nat):=A0 (by omega) (by omega)
  have tx:(E6 ((C0 m).take (L.length+1)):Int)=E6 ((C0 m).take L.length)+(4294967296:Int) ^ L.length*((C0 m)[L.length]:Nat):=by
   rw[G5 _ _ hlt,Int.natCast_add,Int.natCast_mul,Int.natCast_pow];rfl
  by_cases hy:L.length<(C0 n).length
  ·have hyd:decide ((L.length:Int)<(C0 n).length)=true:=C9R (by omega)
   have y1:=F9 (O9 n) hy
   have w3:IntKind.i64.wrap (((C0 n)[L.length]:Nat):Int)=(((C0 n)[L.length]:Nat):Int):=A0 (by omega) (by omega)
   have ty:(E6 ((C0 n).take (L.length+1)):Int)=E6 ((C0 n).take L.length)+(4294967296:Int) ^ L.length*((C0 n)[L.length]:Nat):=by
    rw[G5 _ _ hy,Int.natCast_add,Int.natCast_mul,Int.natCast_pow];rfl
   obtain⟨s,hs⟩: ∃s,s=c+((C0 m)[L.length]:Nat)-((C0 n)[L.length]:Nat):=⟨_,rfl⟩
   have w4:IntKind.i64.wrap (c+((C0 m)[L.length]:Nat)-((C0 n)[L.length]:Nat))=s:=by rw[A0 (by omega) (by omega)];omega
   have w5:IntKind.u32.wrap s=(((s % 4294967296).toNat:Nat):Int):=by rw[A6a];omega
   have e1:(Rw E9 (R6 L (C0 m).length)).set L.length [.int .u32 (((s % 4294967296).toNat:Nat):Int)]=Rw E9 (R6 (L++[(s % 4294967296).toNat]) (C0 m).length):=by rw[←Z3 L _ _ (by omega)];exact X7 _ _ _ _ rfl
   repeat' (first|with_reducible apply C9P|simp only[go_sem,hkd,hyd,hpl,A9 _ _ hlt,C2 _ _ hlt,A9 _ _ hy,C2 _ _ hy,w1,w2,w3,w4,w5,e1]|simp(disch:=omega) only[A0,A9,F9]|intro hx_|omega)
   refine C3 (L++[(s % 4294967296).toNat],s / 4294967296) ⟨by simp only[C9V,C9X];omega,Z2 dL (by omega),by simp only[];omega,?_⟩ (by simp only[C9V,C9X];omega) (by(try simp only[go_sem,C9V,C9X])<;>(try simp(disch:=omega) [A0])<;>(try omega)) (D0q _)
   simp only[C9V,C9X]
   have:=A4Z L s
   rw[tx,ty]
   rw[hs]at this⊢
   rw[Int.mul_sub,Int.mul_add]at this
   omega
  ·have hyd:decide ((L.length:Int)<(C0 n).length)=false:=C9S (by omega)
   obtain⟨s,hs⟩: ∃s,s=c+((C0 m)[L.length]:Nat):=⟨_,rfl⟩
   rw[←hs]at w2
   have w5:IntKind.u32.wrap s=(((s % 4294967296).toNat:Nat):Int):=by rw[A6a];omega
   have e1:(Rw E9 (R6 L (C0 m).length)).set L.length [.int .u32 (((s % 4294967296).toNat:Nat):Int)]=Rw E9 (R6 (L++[(s % 4294967296).toNat]) (C0 m).length):=by rw[←Z3 L _ _ (by omega)];exact X7 _ _ _ _ rfl
   repeat' (first|with_reducible apply C9P|simp only[go_sem,hkd,hyd,hpl,A9 _ _ hlt,C2 _ _ hlt,w1,←hs,w2,w5,e1]|simp(disch:=omega) only[A0,A9,F9]|intro hx_|omega)
   refine C3 (L++[(s % 4294967296).toNat],s / 4294967296) ⟨by simp only[C9V,C9X];omega,Z2 dL (by omega),by simp only[];omega,?_⟩ (by simp only[C9V,C9X];omega) (by(try simp only[go_sem,C9V,C9X])<;>(try simp(disch:=omega) [A0])<;>(try omega)) (D0q _)
   simp only[C9V,C9X]
   have:=A4Z L s
   rw[C9e (l:=C0 n) (by omega)]at hv
   rw[tx,C9e (l:=C0 n) (by omega)]
   rw[hs]at this⊢
   rw[Int.mul_add]at this
   omega
 ·have hkd:decide ((L.length:Int)<(C0 m).length)=false:=C9S (by omega)
  have hLe:L.length=(C0 m).length:=by omega
  have e1:Rw E9 (R6 L (C0 m).length)=Rw E9 L:=by rw[A32 _ _ hLe]
  rw[C9e (by omega),C9e (by omega),J5,J5]at hv
  have hlt2:=A8A dL
  have hval:E6 L=m-n:=by
   have hp:((4294967296 ^ L.length:Nat):Int)=(4294967296:Int) ^ L.length:=Int.natCast_pow _ _
   have hc2:c=0∨c= -1:=by omega
   rcases hc2 with rfl|rfl
   ·omega
   ·rw[←hp]at hv;omega
  repeat' (first|with_reducible apply C9P|simp only[go_sem,hkd,e1]|simp(disch:=omega) only[A0,A9,F9]|intro hx_|omega)
  refine A35 L bo _ _ (by simp[hLe]) (by omega) (A5 _ _) ?_
  repeat' (first|with_reducible apply C9P|simp only[go_sem]|simp(disch:=omega) only[A0,A9,F9]|intro hx_|omega)
  refine A1q (l:=L) dL (by simp[hLe]) (A5 _ _) ?_
  rw[hval,E7 hbo]
  exact D0u h
set_option maxHeartbeats 1000000 in
theorem C2U{Q}(m n:Nat)(hm:(C0 m).length≤100000)(hn:(C0 n).length≤100000)(H:Heap)(h:Q (W3 (m*n)) H):ACalls Tryz.prog 280 [W3 m,W3 n] H Q:=by
 refine B2 [] B3 Tryz.func280 rfl (by kernel_rfl) (C9Q (by kernel_rfl)) (by kernel_rfl) ?_
 simp only[go_sem,Tryz.results280]
 repeat' (first|with_reducible apply C9P|simp only[go_sem]|simp(disch:=omega) only[A0,A9,F9]|intro hx_|omega)
 rename_i bo
 have hbo:=hx_
 clear hx_
 have hrep:List.replicate (((C0 m).length:Int)+(C0 n).length).toNat [D.int .u32 0]=Rw E9 (List.replicate ((C0 m).length+(C0 n).length) 0):=by rw[show (((C0 m).length:Int)+(C0 n).length).toNat=(C0 m).length+(C0 n).length by omega];exact A5i _ _ _ rfl
 rw[hrep]
 refine D1 [1,5,17,18] (fun(p:Nat×List Nat)=>[(19,.int .i64 p.1)]) (fun(p:Nat×List Nat)=>H.set bo (.vec 1 (Rw E9 p.2))) (fun(p:Nat×List Nat)=>p.1≤(C0 m).length∧p.2.length=(C0 m).length+(C0 n).length∧Dig p.2∧E6 p.2=E6 ((C0 m).take p.1)*n∧∀(k:Nat) (hk:k<p.2.length),p.1+(C0 n).length≤k→p.2[k]=0) (fun(p:Nat×List Nat)=>(C0 m).length-p.1) ((0,List.replicate ((C0 m).length+(C0 n).length) 0)) (⟨C9k _,by simp,B3f _,by simp[B1L,E6],fun k hk _=>by simp⟩) (by(try simp only[go_sem])<;>(try simp(disch:=omega) [A0])<;>(try omega)) (by first|exact D0q _|exact A2 (by assumption)|exact B4 (by assumption)|simp only[Heap.Le,Heap.set,Heap.del]at* <;>grind) ?_
 rintro Ec rfl ⟨i,out⟩ ⟨hi,hol,hod,hov,hoz⟩
 simp only at hi hol hod hov hoz
 by_cases hlt:i<(C0 m).length
 ·have hkd:decide ((i:Int)<(C0 m).length)=true:=C9R (by omega)
  have x1:=F9 (O9 m) hlt
  repeat' (first|with_reducible apply C9P|simp only[go_sem,hkd,A9 _ _ hlt,C2 _ _ hlt]|simp(disch:=omega) only[A0,A9,F9]|intro hx_|omega)
  refine D1 [1,5,6,7,17,18,19,24,25] (fun(q:Nat×List Nat×Nat)=>[(26,.int .i64 q.1),(8,.int .u64 q.2.2)]) (fun(q:Nat×List Nat×Nat)=>H.set bo (.vec 1 (Rw E9 q.2.1))) (fun(q:Nat×List Nat×Nat)=>q.1≤(C0 n).length∧q.2.1.length=(C0 m).length+(C0 n).length∧Dig q.2.1∧q.2.2<4294967296∧E6 q.2.1+4294967296 ^ (i+q.1)*q.2.2=E6 ((C0 m).take i)*n+4294967296 ^ i*(C0 m)[i]*E6 ((C0 n).take q.1)∧∀(k:Nat) (hk:k<q.2.1.length),i+(C0 n).length≤k→q.2.1[k]=0) (fun(q:Nat×List Nat×Nat)=>(C0 n).length-q.1) ((0,out,0)) (⟨C9k _,hol,hod,by simp,by simp[hov,E6],hoz⟩) (by(try simp only[go_sem])<;>(try simp(disch:=omega) [A0])<;>(try omega)) (by first|exact D0q _|exact A2 (by assumption)|exact B4 (by assumption)|simp only[Heap.Le,Heap.set,Heap.del]at* <;>grind) ?_
  clear hol hod hov hoz
  rintro Ec1 rfl ⟨j,o2,c⟩ ⟨hj,hol,hod,hc,hov,hoz⟩
  simp only at hj hol hod hc hov hoz
  by_cases hjl:j<(C0 n).length
  ·have hjd:decide ((j:Int)<(C0 n).length)=true:=C9R (by omega)
   have y1:=F9 (O9 n) hjl
   have hp:i+j<o2.length:=by omega
   have o1:=F9 hod hp
   obtain⟨s,hs⟩: ∃s,s=c+((C0 m)[i]*(C0 n)[j]+o2[i+j]):=⟨_,rfl⟩
   obtain⟨m1,m2⟩:=C2N x1 y1 o1 hc
   have w1:IntKind.u64.wrap (((C0 m)[i]:Nat):Int)=(((C0 m)[i]:Nat):Int):=A0C (by omega) (by omega)
   have w2:IntKind.u64.wrap (((C0 n)[j]:Nat):Int)=(((C0 n)[j]:Nat):Int):=A0C (by omega) (by omega)
   have w3:IntKind.u64.wrap ((o2[i+j]:Nat):Int)=((o2[i+j]:Nat):Int):=A0C (by omega) (by omega)
   have w4:IntKind.u64.wrap ((((C0 m)[i]:Nat):Int)*(((C0 n)[j]:Nat):Int))=(((C0 m)[i]*(C0 n)[j]:Nat):Int):=by rw[←Int.natCast_mul];exact A0C (by omega) (by omega)
   have w5:IntKind.u64.wrap ((((C0 m)[i]*(C0 n)[j]:Nat):Int)+((o2[i+j]:Nat):Int))=(((C0 m)[i]*(C0 n)[j]+o2[i+j]:Nat):Int):=by rw[←Int.natCast_add];exact A0C (by omega) (by omega)
   have w6:IntKind.u64.wrap ((c:Int)+(((C0 m)[i]*(C0 n)[j]+o2[i+j]:Nat):Int))=(s:Int):=by rw[←Int.natCast_add,←hs];exact A0C (by omega) (by omega)
   have w7:IntKind.u32.wrap (s:Int)=((s % 4294967296:Nat):Int):=by rw[A6a];omega
   have w8:(s:Int) / 4294967296=((s / 4294967296:Nat):Int):=by omega
   have wi:(i:Int)+(j:Int)=((i+j:Nat):Int):=by omega
   have e1:(Rw E9 o2).set (i+j) [.int .u32 ((s % 4294967296:Nat):Int)]=Rw E9 (o2.set (i+j) (s % 4294967296)):=X7 _ _ _ _ rfl
   repeat' (first|with_reducible apply C9P|simp only[go_sem,hjd,wi,A9 _ _ hlt,C2 _ _ hlt,A9 _ _ hjl,C2 _ _ hjl,A9 _ _ hp,C2 _ _ hp,w1,w2,w3,w4,w5,w6,w7,w8,e1]|simp(disch:=omega) only[A0,A9,F9]|intro hx_|omega)
   refine C3 (j+1,o2.set (i+j) (s % 4294967296),s / 4294967296) ⟨by simp only[];omega,by simp only[D0M];omega,B2W hod (by omega),by simp only[];omega,?_,fun k hk hik=>?_⟩ (by simp only[];omega) (by(try simp only[go_sem])<;>(try simp(disch:=omega) [A0])<;>(try omega)) (D0q _)
   ·simp only[]
    rw[G5 _ _ hjl,←Nat.add_assoc]
    exact B5h o2 (i+j) i j s _ _ c _ _ hp rfl hov hs
   ·simp only[]at hk⊢
    rw[List.getElem_set_ne (by omega)]
    exact hoz k (by simpa using hk) hik
  ·have hjd:decide ((j:Int)<(C0 n).length)=false:=C9S (by omega)
   have hje:j=(C0 n).length:=by omega
   subst hje
   have hp:i+(C0 n).length<o2.length:=by omega
   have wi:(i:Int)+((C0 n).length:Int)=((i+(C0 n).length:Nat):Int):=by omega
   have w7:IntKind.u32.wrap (c:Int)=(c:Int):=B8o (by omega) (by omega)
   have e1:(Rw E9 o2).set (i+(C0 n).length) [.int .u32 (c:Int)]=Rw E9 (o2.set (i+(C0 n).length) c):=X7 _ _ _ _ rfl
   repeat' (first|with_reducible apply C9P|simp only[go_sem,hjd,wi,A9 _ _ hp,C2 _ _ hp,w7,e1]|simp(disch:=omega) only[A0,A9,F9]|intro hx_|omega)
   refine C3 (i+1,o2.set (i+(C0 n).length) c) ⟨by simp only[];omega,by simp only[D0M];omega,B2W hod hc,?_,fun k hk hik=>?_⟩ (by simp only[];omega) (by(try simp only[go_sem])<;>(try simp(disch:=omega) [A0])<;>(try omega)) (D0q _)
   ·simp only[]
    rw[C9e (l:=C0 n) (by omega),J5]at hov
    rw[B8m o2 _ c _ _ hp (hoz _ hp (by omega)) hov,G5 _ _ hlt,Nat.add_mul]
   ·simp only[]at hk hik⊢
    rw[List.getElem_set_ne (by omega)]
    exact hoz k (by simpa using hk) (by omega)
 ·have hkd:decide ((i:Int)<(C0 m).length)=false:=C9S (by omega)
  rw[C9e (by omega),J5]at hov
  repeat' (first|with_reducible apply C9P|simp only[go_sem,hkd]|simp(disch:=omega) only[A0,A9,F9]|intro hx_|omega)
  refine A35 out bo _ _ (by rw[hol];omega) (by omega) (A5 _ _) ?_
  repeat' (first|with_reducible apply C9P|simp only[go_sem]|simp(disch:=omega) only[A0,A9,F9]|intro hx_|omega)
  refine A1q (l:=out) hod (by rw[hol];omega) (A5 _ _) ?_
  rw[hov,E7 hbo]
  exact D0u h
theorem C73{q:Nat}(h:q<18446744073709551616):IntKind.u64.wrap (q:Int)=q:=A0C (by omega) (by omega)
theorem C74{q:Nat}(h:q<4294967296):IntKind.u32.wrap (q:Int)=q:=B8o (by omega) (by omega)
theorem B5p{Q}(m n:Nat)(hm:(C0 m).length≤100000)(h0:n≠0)(hn:n<4294967296)(H:Heap)(h:Q (.tuple [W3 (m / n),W3 (m % n)]) H):ACalls Tryz.prog 278 [W3 m,W3 n] H Q:=by
 refine B2 [(26,.par)] B3 Tryz.func278 rfl (by kernel_rfl) (C9Q (by kernel_rfl)) (by kernel_rfl) ?_
 simp only[go_sem,Tryz.results278]
 have hdn:C0 n= [n]:=A3K hn h0
 have hnl:(C0 n).length=1:=by rw[hdn];rfl
 have hn0:0<(C0 n).length:=by omega
 have hg:(C0 n)[0]=n:=by simp[hdn]
 by_cases hlt:m<n
 ·repeat' (first|with_reducible apply C9P|simp only[go_sem]|simp(disch:=omega) only[A0,A9,F9]|intro hx_|omega)
  refine B5m m n (by omega) (by omega) _ fun c hc=>?_
  have hcd:decide (c<0)=true:=C9R (hc.1.2 hlt)
  repeat' (first|with_reducible apply C9P|simp only[go_sem,hcd]|simp(disch:=omega) only[A0,A9,F9]|intro hx_|omega)
  rw[Nat.div_eq_of_lt hlt,D0Q hlt]at h
  refine Fin.nilsl 1 _ ?_
  exact D0u (by rw[show W3 0= .sl 1 []by rw[C2Q,I9];rfl]at h;exact h)
 ·repeat' (first|with_reducible apply C9P|simp only[go_sem]|simp(disch:=omega) only[A0,A9,F9]|intro hx_|omega)
  refine B5m m n (by omega) (by omega) _ fun c hc=>?_
  have hcd:decide (c<0)=false:=C9S (fun g=>hlt (hc.1.1 g))
  have hnli:((C0 n).length:Int)=1:=by omega
  repeat' (first|with_reducible apply C9P|simp only[go_sem,hcd,hnli]|simp(disch:=omega) only[A0,A9,F9]|intro hx_|omega)
  rename_i bo
  have hbo:=hx_
  clear hx_
  have hrep:List.replicate (C0 m).length [D.int .u32 0]=Rw E9 (A3L [] (C0 m).length):=by rw[B5f];exact A5i _ _ _ rfl
  rw[hrep]
  refine D1 [0,1,6] (fun(p:Nat×List Nat×Nat)=>[(8,.int .i64 ((p.1:Int)-1)),(7,.int .u64 p.2.2)]) (fun(p:Nat×List Nat×Nat)=>H.set bo (.vec 1 (Rw E9 (A3L p.2.1 (C0 m).length)))) (fun(p:Nat×List Nat×Nat)=>p.2.1.length+p.1=(C0 m).length∧Dig p.2.1∧p.2.2<n∧E6 p.2.1*n+p.2.2=E6 ((C0 m).drop p.1)) (fun(p:Nat×List Nat×Nat)=>p.1) (((C0 m).length,[],0)) (⟨by simp,by simp[Dig],by simp only[];omega,by simp[E6]⟩) (by(try simp only[go_sem])<;>(try simp(disch:=omega) [A0])<;>(try omega)) (by first|exact D0q _|exact A2 (by assumption)|exact B4 (by assumption)|simp only[Heap.Le,Heap.set,Heap.del]at* <;>grind) ?_
  rintro Ec rfl ⟨k,L,r⟩ ⟨hk,dL,hr,hv⟩
  simp only at hk dL hr hv
  have hpl:=B5d L (C0 m).length (by omega)
  by_cases hk0:0<k
  ·obtain⟨j,rfl⟩: ∃j,k=j+1:=⟨k-1,by omega⟩
   have hj:j<(C0 m).length:=by omega
   have ek:(((j+1:Nat):Int)-1)=(j:Int):=by omega
   have k0:decide ((0:Int)≤(j:Int))=true:=C9R (by omega)
   have x1:=F9 (O9 m) hj
   have w1:IntKind.u64.wrap (((C0 m)[j]:Nat):Int)=(((C0 m)[j]:Nat):Int):=A0C (by omega) (by omega)
   have w2:IntKind.u64.wrap ((r:Int)*4294967296)=(r:Int)*4294967296:=A0C (by omega) (by omega)
   have w3:=C2S (r:=r) (x:=(C0 m)[j]) (by omega) x1
   obtain⟨s,hs⟩: ∃s,s=r*4294967296+(C0 m)[j]:=⟨_,rfl⟩
   rw[←hs]at w3
   have hsn:s / n<4294967296:=by
    rw[Nat.div_lt_iff_lt_mul (by omega)]
    have:=Nat.mul_le_mul_left 4294967296 (show r+1≤n by omega)
    omega
   have w4:IntKind.u64.wrap ((n:Nat):Int)=(n:Int):=A0C (by omega) (by omega)
   have hsl:s<18446744073709551616:=by omega
   have w5:IntKind.u64.wrap ((s:Int).tdiv (n:Int))=((s / n:Nat):Int):=by rw[←Int.ofNat_tdiv];exact C73 (Nat.lt_of_le_of_lt (Nat.div_le_self s n) hsl)
   have w6:IntKind.u32.wrap ((s / n:Nat):Int)=((s / n:Nat):Int):=C74 hsn
   have w7:(s:Int).tmod (n:Int)=((s % n:Nat):Int):=(Int.ofNat_tmod s n).symm
   have nz: ¬((n:Int)=0):=by omega
   have e1:(Rw E9 (A3L L (C0 m).length)).set j [.int .u32 ((s / n:Nat):Int)]=Rw E9 (A3L ((s / n)::L) (C0 m).length):=by rw[←B5e L _ _ j (by omega)];exact X7 _ _ _ _ rfl
   repeat' (first|with_reducible apply C9P|simp only[go_sem,ek,k0,hpl,A9 _ _ hj,C2 _ _ hj,A9 _ _ hn0,C2 _ _ hn0,hg,w1,w2,w3,w4,w5,w6,w7,nz,e1]|simp(disch:=omega) only[A0,A9,F9]|intro hx_|omega)
   refine C3 (j,s / n::L,s % n) ⟨by simp only[C9U];omega,fun x hx=>?_,Nat.mod_lt _ (by omega),?_⟩ (by simp only[];omega) (by(try simp only[go_sem])<;>(try simp(disch:=omega) [A0])<;>(try omega)) (D0q _)
   ·rcases C9r.1 hx with rfl|g
    ·exact hsn
    ·exact dL x g
   ·simp only[E6]
    rw[A2G _ _ hj,hs]
    exact B5g (by omega) hv
  ·have e:k=0:=by omega
   subst e
   have k0:decide ((0:Int)≤(((0:Nat):Int)-1))=false:=by decide
   rw[List.drop_zero,J5]at hv
   obtain⟨q1,q2⟩:=B8l hr hv
   have e1:A3L L (C0 m).length=L:=B3g _ _ (by omega)
   repeat' (first|with_reducible apply C9P|simp only[go_sem,k0,e1]|simp(disch:=omega) only[A0,A9,F9]|intro hx_|omega)
   refine A35 L bo _ _ (by omega) (by omega) (A5 _ _) ?_
   repeat' (first|with_reducible apply C9P|simp only[go_sem]|simp(disch:=omega) only[A0,A9,F9]|intro hx_|omega)
   refine C2T r (by omega) _ ?_
   repeat' (first|with_reducible apply C9P|simp only[go_sem]|simp(disch:=omega) only[A0,A9,F9]|intro hx_|omega)
   refine Fin.freeze (b:=bo) (A5 _ _) (.tuple _ [.sl 1 (((Rw E9 L).drop 0).take (y7 L (C0 m).length)),W3 r] rfl fun i d d' g1 g2=>?_) ?_
   ·match i with
    |0=>cases g1;cases g2;exact .vec 0 _ (by rw[Nat.zero_add,D6];have:=A9o L (C0 m).length;omega)
    |1=>cases g1;cases g2;exact .same _
    |i+2=>cases g1
   ·have e2:L.take (y7 L (C0 m).length)=C0 (E6 L):=by have:=A9p dL;rwa [show L.length=(C0 m).length by omega]at this
    rw[List.drop_zero,A74,e2,←q1,←q2,E7 hbo]
    exact D0u h
theorem C2V{Q}(m n:Nat)(hm:(C0 m).length≤100000)(hn:n<4294967296)(H:Heap)(h:Q (W3 (Nat.gcd m n)) H):ACalls Tryz.prog 277 [W3 m,W3 n] H Q:=by
 refine B2 [] B3 Tryz.func277 rfl (by kernel_rfl) (C9Q (by kernel_rfl)) (by kernel_rfl) ?_
 simp only[go_sem,Tryz.results277]
 repeat' (first|with_reducible apply C9P|simp only[go_sem]|intro hx_|omega)
 refine D1 [] (fun(p:Nat×Nat)=>[(0,W3 p.1),(1,W3 p.2)]) (fun(p:Nat×Nat)=>H) (fun(p:Nat×Nat)=>(C0 p.1).length≤100000∧p.2<4294967296∧Nat.gcd p.1 p.2=Nat.gcd m n) (fun(p:Nat×Nat)=>p.2) ((m,n)) (⟨hm,hn,rfl⟩) (by(try simp only[go_sem])<;>(try simp(disch:=omega) [A0])<;>(try omega)) (by first|exact D0q _|exact A2 (by assumption)|exact B4 (by assumption)|simp only[Heap.Le,Heap.set,Heap.del]at* <;>grind) ?_
 rintro Ec rfl ⟨a,b⟩ ⟨ha,hb,hg⟩
 simp only at ha hb hg
 by_cases hb0:b=0
 ·subst hb0
  have hl:(C0 0).length=0:=by rw[I9];rfl
  have hd:decide ((0:Int)<((C0 0).length:Int))=false:=by rw[hl];rfl
  repeat' (first|with_reducible apply C9P|simp only[go_sem,hd]|intro hx_|omega)
  rw[Nat.gcd_zero_right]at hg
  rw[←hg]at h
  exact D0u h
 ·have hl:(C0 b).length≠0:=fun e=>hb0 ((I2 b).1 e)
  have hd:decide ((0:Int)<((C0 b).length:Int))=true:=C9R (by omega)
  repeat' (first|with_reducible apply C9P|simp only[go_sem,hd]|intro hx_|omega)
  refine B5p a b ha hb0 hb _ ?_
  repeat' (first|with_reducible apply C9P|simp only[go_sem]|intro hx_|omega)
  have hmod:=Nat.mod_lt a (Nat.pos_of_ne_zero hb0)
  exact C3 (b,a % b) ⟨by simp only[];exact D0V (A9q b 1 (by simpa using hb)) (by decide),by simp only[];omega,by simp only[];rw[←hg,Nat.gcd_comm a b,Nat.gcd_rec b a,Nat.gcd_comm]⟩ (by simp only[];exact hmod) (by(try simp only[go_sem])<;>(try simp(disch:=omega) [A0])<;>(try omega)) (D0q _)
end Go.Proofs.YtibphjonmikciaaGreatDoor
namespace Go.Lin
open Go Go.Av
abbrev Sz(n:Int):Prop:=(C0 n.natAbs).length≤100000
theorem A9z{n:Int}{k:Nat}(h:n.natAbs<4294967296 ^ k)(hk:k≤100000):Sz n:=D0V (A9q _ k h) hk
theorem G6{n:Int}(h:n.natAbs<340282366920938463463374607431768211456):Sz n:=A9z (k:=4) (by simpa using h) (by decide)
theorem A8H(n:Int):decide ((0:Int)<((C0 n.natAbs).length:Int))=decide (n≠0):=by
 apply C92.2
 have:=I2 n.natAbs
 omega
theorem A5v(k:Nat):C4 (k:Int)= [.bool false,.sl 1 (Rw E9 (C0 k))]:=by
 unfold C4
 rw[C9S (by omega),Int.natAbs_natCast]
theorem V1(n:Int)(k:Nat)(b:Bool)(h1:n.natAbs=k)(h2:b=decide (n<0)): [D.bool b,.sl 1 (Rw E9 (C0 k))]=C4 n:=by subst h1;subst h2;rfl
theorem A7A(n:Int)(k:Nat)(h:n=(k:Int)): [D.bool false,.sl 1 (Rw E9 (C0 k))]=C4 n:=by subst h;exact(A5v k).symm
theorem A7B(n:Int)(k:Nat)(h:n= -(k:Int)): [D.bool (decide (-(k:Int)<0)),.sl 1 (Rw E9 (C0 k))]=C4 n:=by subst h;exact V1 _ k _ (by omega) rfl
theorem B5q{a b:Int}(h:decide (a<0)=decide (b<0)):decide (a*b<0)=false:=by
 apply C9S
 have h:=C92.1 h
 by_cases a0:a<0
 ·have:=Int.mul_pos_of_neg_of_neg a0 (h.1 a0)
  omega
 ·have:=Int.mul_nonneg (show 0≤a by omega) (show 0≤b by have:=mt h.2 a0;omega)
  omega
theorem B5r{a b:Int}(h: ¬decide (a<0)=decide (b<0)):decide ((0:Int)<((C0 (a.natAbs*b.natAbs)).length:Int))=decide (a*b<0):=by
 rw[←Int.natAbs_mul,A8H]
 apply C92.2
 constructor
 ·intro g
  have a1:a≠0:=by rintro rfl;exact g (Int.zero_mul _)
  have b1:b≠0:=by rintro rfl;exact g (Int.mul_zero _)
  by_cases a0:a<0
  ·have b0: ¬b<0:=fun b0=>h (by rw[C9R a0,C9R b0])
   exact Int.mul_neg_of_neg_of_pos a0 (by omega)
  ·have b0:b<0:=by
    by_cases b0:b<0
    ·exact b0
    ·exact absurd (by rw[C9S a0,C9S b0]) h
   exact Int.mul_neg_of_pos_of_neg (by omega) b0
 ·omega
theorem A90(a b:Int)(h0:b≠0):a.fdiv b=(if b<0 then-a else a) / (b.natAbs:Int):=by
 by_cases hb:b<0
 ·rw[if_pos hb,←Int.neg_fdiv_neg,Int.fdiv_eq_ediv_of_nonneg _ (by omega)]
  congr 1;omega
 ·rw[if_neg hb,Int.fdiv_eq_ediv_of_nonneg _ (by omega)]
  congr 1;omega
theorem A2I(a b:Int)(h0:b≠0)(h:decide (a<0)=decide (b<0)∨a=0):a.fdiv b=((a.natAbs / b.natAbs:Nat):Int):=by
 rw[A90 a b h0,Int.natCast_ediv]
 congr 1
 rcases h with h|h
 ·have h:=C92.1 h
  split<;>omega
 ·subst h;split<;>simp
theorem B2X{a b q r:Int}(hb:0<b)(h:r+b*q=a)(h1:0≤r)(h2:r<b):a / b=q:=((Int.ediv_emod_unique hb).2 ⟨h,h1,h2⟩).1
theorem B2Y(k:Nat):decide ((0:Int)<((C0 k).length:Int))=decide (-(k:Int)<0):=by
 apply C92.2
 have:=I2 k
 omega
theorem A36(a b:Int)(h0:b≠0)(ha:a≠0)(h: ¬decide (a<0)=decide (b<0)):a.fdiv b=if a.natAbs % b.natAbs=0 then-((a.natAbs / b.natAbs:Nat):Int)else-((a.natAbs / b.natAbs+1:Nat):Int):=by
 have hs:(if b<0 then-a else a)= -(a.natAbs:Int):=by
  have h: ¬(a<0↔b<0):=fun g=>h (C92.2 g)
  split
  ·rename_i hb;have: ¬a<0:=fun g=>h ⟨fun _=>hb,fun _=>g⟩;omega
  ·rename_i hb
   by_cases g:a<0
   ·omega
   ·exact absurd ⟨fun q=>absurd q g,fun q=>absurd q hb⟩ h
 rw[A90 a b h0,hs]
 have hb:(0:Int)<(b.natAbs:Int):=by omega
 have e:=Nat.div_add_mod a.natAbs b.natAbs
 have ei:(a.natAbs:Int)=(b.natAbs:Int)*((a.natAbs / b.natAbs:Nat):Int)+((a.natAbs % b.natAbs:Nat):Int):=by rw[←Int.natCast_mul,←Int.natCast_add,e]
 have hm:=Nat.mod_lt a.natAbs (show 0<b.natAbs by omega)
 split
 ·rename_i hz
  refine(B2X hb (r:=0) ?_ (by omega) hb).symm ▸ rfl
  rw[hz]at ei
  rw[ei,Int.mul_neg];simp
 ·rename_i hz
  refine(B2X hb (r:=(b.natAbs:Int)-((a.natAbs % b.natAbs:Nat):Int)) ?_ (by omega) (by omega)).symm ▸ rfl
  rw[ei,Int.natCast_add,Int.mul_neg,Int.mul_add]
  omega
theorem A8I:NilR (.agg [.bool false,.nilsl]) (.agg (C4 0)):=by
 have e:C4 0= [.bool false,.sl 1 []]:=by
  unfold C4
  rw[show (0:Int).natAbs=0 from rfl,I9];rfl
 rw[e]
 refine .agg _ _ rfl fun i d d' h1 h2=>?_
 match i with
 |0=>cases h1;cases h2;exact .same _
 |1=>cases h1;cases h2;exact .nil _
 |i+2=>cases h1
end Go.Lin
namespace Go.Proofs.YtibphjonmikciaaGreatDoor
open Go Go.Av Go.Lin
attribute [local irreducible] ACalls W4
theorem K2{Q}(n:Int)(H:Heap)(h:Q (.int .i64 n.sign) H):ACalls Tryz.prog 245 [.agg (C4 n)] H Q:=by
 refine B2 [] B3 Tryz.func245 rfl (by kernel_rfl) (C9Q (by kernel_rfl)) (by kernel_rfl) ?_
 simp only[go_sem,Tryz.results245]
 intro b1 hb1
 have e1:=A5 (H:=H) b1 (.box (C4 n))
 simp only[C2R]at e1
 by_cases h0:n=0
 ·have hz:(C0 n.natAbs).length=0:=(I2 _).2 (by omega)
  repeat' (first|with_reducible apply C9P|simp only[go_sem,e1,hz]|intro hx_|omega)
  rw[h0]at h
  exact D0r (A2 hb1) h
 ·have hz: ¬(((C0 n.natAbs).length:Int)=0):=by have:=I2 n.natAbs;omega
  by_cases hn:n<0
  ·repeat' (first|with_reducible apply C9P|simp only[go_sem,e1,hz,hn,decide_true,decide_false]|intro hx_|omega)
   rw[Int.sign_eq_neg_one_of_neg hn]at h
   exact D0r (A2 hb1) h
  ·repeat' (first|with_reducible apply C9P|simp only[go_sem,e1,hz,hn,decide_true,decide_false]|intro hx_|omega)
   rw[Int.sign_eq_one_of_pos (by omega)]at h
   exact D0r (A2 hb1) h
theorem B5s{Q}(n:Int)(H:Heap)(h:Q (.agg (C4 n.natAbs)) H):ACalls Tryz.prog 254 [.agg (C4 n)] H Q:=by
 refine B2 [] B3 Tryz.func254 rfl (by kernel_rfl) (C9Q (by kernel_rfl)) (by kernel_rfl) ?_
 simp only[go_sem,Tryz.results254]
 rw[A5v]at h
 repeat' (first|with_reducible apply C9P|simp only[go_sem]|simp(disch:=first|omega|grind) only[A6]|(intro hx_;try simp only[A4]at hx_)|omega)
 exact D0r (by simp only[Go.Av.Heap.Le,Go.Av.Heap.set,Go.Av.Heap.del]at* <;>grind) h
theorem A37{Q}(n:Int)(H:Heap)(h:Q (.agg (C4 (-n))) H):ACalls Tryz.prog 259 [.agg (C4 n)] H Q:=by
 refine B2 [] B3 Tryz.func259 rfl (by kernel_rfl) (C9Q (by kernel_rfl)) (by kernel_rfl) ?_
 simp only[go_sem,Tryz.results259]
 by_cases hn:n<0
 ·rw[←V1 (-n) n.natAbs false (by omega) (by rw[C9S (by omega)])]at h
  repeat' (first|with_reducible apply C9P|simp only[go_sem,hn,decide_true]|simp(disch:=first|omega|grind) only[A6]|(intro hx_;try simp only[A4]at hx_)|omega)
  all_goals exact D0r (by simp only[Go.Av.Heap.Le,Go.Av.Heap.set,Go.Av.Heap.del]at* <;>grind) h
 ·by_cases h0:n=0
  ·have hz:((C0 n.natAbs).length:Int)=0:=by have:=I2 n.natAbs;omega
   rw[←V1 (-n) n.natAbs false (by omega) (by rw[C9S (by omega)])]at h
   repeat' (first|with_reducible apply C9P|simp only[go_sem,hn,decide_false,hz]|simp(disch:=first|omega|grind) only[A6]|(intro hx_;try simp only[A4]at hx_)|omega)
   all_goals exact D0r (by simp only[Go.Av.Heap.Le,Go.Av.Heap.set,Go.Av.Heap.del]at* <;>grind) h
  ·have hz:(0:Int)<((C0 n.natAbs).length:Int):=by have:=I2 n.natAbs;omega
   rw[←V1 (-n) n.natAbs true (by omega) (by rw[C9R (by omega)])]at h
   repeat' (first|with_reducible apply C9P|simp only[go_sem,hn,decide_false,hz,decide_true]|simp(disch:=first|omega|grind) only[A6]|(intro hx_;try simp only[A4]at hx_)|omega)
   all_goals exact D0r (by simp only[Go.Av.Heap.Le,Go.Av.Heap.set,Go.Av.Heap.del]at* <;>grind) h
theorem A91{Q}(n:Int)(H:Heap)(h:Q (.bool (decide (n.natAbs=1))) H):ACalls Tryz.prog 246 [.agg (C4 n)] H Q:=by
 refine B2 [] B3 Tryz.func246 rfl (by kernel_rfl) (C9Q (by kernel_rfl)) (by kernel_rfl) ?_
 simp only[go_sem,Tryz.results246]
 by_cases hl:(C0 n.natAbs).length=1
 ·have hl1:((C0 n.natAbs).length:Int)=1:=by omega
  have hl0:0<(C0 n.natAbs).length:=by omega
  have hv:=J5 n.natAbs
  obtain⟨d,hd⟩:=List.length_eq_one_iff.1 hl
  have hg:(C0 n.natAbs)[0]=d:=by simp[hd]
  rw[hd]at hv
  simp only[E6,Nat.mul_zero,Nat.add_zero]at hv
  have e:decide (n.natAbs=1)=decide ((d:Int)=1):=C92.2 (by omega)
  rw[e]at h
  repeat' (first|with_reducible apply C9P|simp only[go_sem,hl1,A9 _ _ hl0,C2 _ _ hl0,hg]|simp(disch:=omega) only[A9]|intro hx_|omega)
  all_goals (first|exact D0r (by simp only[Go.Av.Heap.Le,Go.Av.Heap.set,Go.Av.Heap.del]at* <;>grind) h|(refine D0r (H':=H) (by simp only[Go.Av.Heap.Le,Go.Av.Heap.set,Go.Av.Heap.del]at* <;>grind) ?_;simp_all))
 ·have hl1: ¬(((C0 n.natAbs).length:Int)=1):=by omega
  have e:decide (n.natAbs=1)=false:=C9S (fun g=>hl (by rw[g,A3K (by decide) (by decide)];rfl))
  rw[e]at h
  repeat' (first|with_reducible apply C9P|simp only[go_sem,hl1,decide_false]|simp(disch:=omega) only[A9]|intro hx_|omega)
  all_goals exact D0r (by simp only[Go.Av.Heap.Le,Go.Av.Heap.set,Go.Av.Heap.del]at* <;>grind) h
theorem R8{Q}(a b:Int)(ha:Sz a)(hb:Sz b)(H:Heap)(h:Q (.agg (C4 (a*b))) H):ACalls Tryz.prog 248 [.agg (C4 a),.agg (C4 b)] H Q:=by
 refine B2 [] B3 Tryz.func248 rfl (by kernel_rfl) (C9Q (by kernel_rfl)) (by kernel_rfl) ?_
 simp only[go_sem,Tryz.results248]
 have hab:(a*b).natAbs=a.natAbs*b.natAbs:=Int.natAbs_mul a b
 repeat' (first|with_reducible apply C9P|simp only[go_sem]|simp(disch:=first|omega|grind) only[A6]|(intro hx_;try simp only[A4]at hx_)|with_reducible refine C2U _ _ ha hb _ ?_|omega)
 ·rw[V1 (a*b) _ _ hab (B5r (by assumption))]
  exact D0r (by simp only[Go.Av.Heap.Le,Go.Av.Heap.set,Go.Av.Heap.del]at* <;>grind) h
 ·rw[V1 (a*b) _ _ hab (B5q (by assumption)).symm]
  exact D0r (by simp only[Go.Av.Heap.Le,Go.Av.Heap.set,Go.Av.Heap.del]at* <;>grind) h
theorem A3R{Q}(a b:Int)(ha:Sz a)(h0:b≠0)(hb:b.natAbs<4294967296)(H:Heap)(h:Q (.agg (C4 (a.fdiv b))) H):ACalls Tryz.prog 247 [.agg (C4 a),.agg (C4 b)] H Q:=by
 refine B2 [] B3 Tryz.func247 rfl (by kernel_rfl) (C9Q (by kernel_rfl)) (by kernel_rfl) ?_
 simp only[go_sem,Tryz.results247]
 repeat' (first|with_reducible apply C9P|simp only[go_sem]|simp(disch:=first|omega|grind) only[A6,C8]|(intro hx_;try simp only[A4]at hx_)|with_reducible refine B5p _ _ ha (by omega) hb _ ?_|omega)
 ·have hz:a=0:=by have:=I2 a.natAbs;omega
  rw[A7A (a.fdiv b) _ (A2I a b h0 (.inr hz))]
  exact D0r (by simp only[Go.Av.Heap.Le,Go.Av.Heap.set,Go.Av.Heap.del]at* <;>grind) h
 ·have hz:a≠0:=by have:=I2 a.natAbs;omega
  have hr: ¬a.natAbs % b.natAbs=0:=by have:=I2 (a.natAbs % b.natAbs);omega
  have hf:=A36 a b h0 hz (by assumption)
  rw[if_neg hr]at hf
  have h1:Rw E9 (C0 1)= [[D.int .u32 1]]:=by rw[A3K (by decide) (by decide)];rfl
  refine A0Q (es:=Rw E9 (C0 1)) (by rw[h1];exact A5 _ _) (by rw[h1];rfl) ?_
  have hql:(C0 (a.natAbs / b.natAbs)).length≤100000:=D0V (B3e (Nat.div_le_self _ _)) ha
  refine B5n _ 1 hql (by rw[A3K (by decide) (by decide)];decide) _ ?_
  repeat' (first|with_reducible apply C9P|simp only[go_sem]|simp(disch:=first|omega|grind) only[A6,C8]|(intro hx_;try simp only[A4]at hx_)|omega)
  rw[B2Y,A7B (a.fdiv b) _ hf]
  exact D0r (by simp only[Go.Av.Heap.Le,Go.Av.Heap.set,Go.Av.Heap.del]at* <;>grind) h
 ·have hz:a≠0:=by have:=I2 a.natAbs;omega
  have hr:a.natAbs % b.natAbs=0:=by have:=I2 (a.natAbs % b.natAbs);omega
  have hf:=A36 a b h0 hz (by assumption)
  rw[if_pos hr]at hf
  rw[B2Y,A7B (a.fdiv b) _ hf]
  exact D0r (by simp only[Go.Av.Heap.Le,Go.Av.Heap.set,Go.Av.Heap.del]at* <;>grind) h
 ·rw[A7A (a.fdiv b) _ (A2I a b h0 (.inl (by assumption)))]
  exact D0r (by simp only[Go.Av.Heap.Le,Go.Av.Heap.set,Go.Av.Heap.del]at* <;>grind) h
theorem A0M{Q}(a b:Int)(ha:Sz a)(hb:Sz b)(H:Heap)(h:Q (.agg (C4 (a+b))) H):ACalls Tryz.prog 255 [.agg (C4 a),.agg (C4 b)] H Q:=by
 refine B2 [(2,.par),(7,.par),(8,.par)] B3 Tryz.func255 rfl (by kernel_rfl) (C9Q (by kernel_rfl)) (by kernel_rfl) ?_
 simp only[go_sem,Tryz.results255]
 intro b2 hb2 b3 hb3 b4 hb4
 simp only[A4]at hb3 hb4
 have m2:b2∈[b2,b3]:=by simp
 have m3:b3∈[b2,b3]:=by simp
 have n24:=hb4.2.1.symm
 have n34:=hb4.1.symm
 have n23:=hb3.1.symm
 by_cases hs:decide (a<0)=decide (b<0)
 ·have hi:=C92.1 hs
  repeat' (first|with_reducible apply C9P|simp only[go_sem,hs,beq_self_eq_true]|simp(disch:=first|omega|grind) only[A6]|(intro hx_;try simp only[A4]at hx_)|omega)
  refine F4 (fun i=>if i=6 then W3 (a.natAbs+b.natAbs)else .undef) [b2,b3] ?_
  repeat' (first|with_reducible apply C9P|simp only[go_sem,m2,m3]|simp(disch:=first|omega|grind) only[A6]|(intro hx_;try simp only[A4]at hx_)|with_reducible refine Q9 (fun H' Q hro hq=>B5n _ _ ha hb H' hq) ?_|omega)
  rw[V1 (a+b) _ _ (by omega) (by apply C92.2;omega)]
  exact D0r (by simp only[Go.Av.Heap.Le,Go.Av.Heap.set,Go.Av.Heap.del]at* <;>grind) h
 ·have hi: ¬(a<0↔b<0):=fun g=>hs (C92.2 g)
  have hsb:(decide (a<0)==decide (b<0))=false:=by rw[beq_eq_false_iff_ne];exact hs
  repeat' (first|with_reducible apply C9P|simp only[go_sem,hsb]|simp(disch:=first|omega|grind) only[A6]|(intro hx_;try simp only[A4]at hx_)|omega)
  refine B5m _ _ (by omega) (by omega) _ fun c hc=>?_
  have c1:=hc.1
  have c2:=hc.2
  by_cases c0:c=0
  ·have hz:a+b=0:=by have:=c2.1 c0;omega
   repeat' (first|with_reducible apply C9P|simp only[go_sem,c0]|simp(disch:=first|omega|grind) only[A6]|(intro hx_;try simp only[A4]at hx_)|omega)
   rw[hz]at h
   exact D9 A8I (D0r (by simp only[Go.Av.Heap.Le,Go.Av.Heap.set,Go.Av.Heap.del]at* <;>grind) h)
  ·by_cases cp:0<c
   ·have hsz:b.natAbs≤a.natAbs:=by omega
    repeat' (first|with_reducible apply C9P|simp only[go_sem,c0,cp,decide_true,decide_false]|simp(disch:=first|omega|grind) only[A6]|(intro hx_;try simp only[A4]at hx_)|omega)
    refine F4 (fun i=>if i=6 then W3 (a.natAbs-b.natAbs)else .undef) [b2,b3] ?_
    repeat' (first|with_reducible apply C9P|simp only[go_sem,m2,m3]|simp(disch:=first|omega|grind) only[A6]|(intro hx_;try simp only[A4]at hx_)|with_reducible refine Q9 (fun H' Q hro hq=>B5o _ _ hsz ha H' hq) ?_|omega)
    rw[V1 (a+b) _ _ (by omega) (by apply C92.2;omega)]
    exact D0r (by simp only[Go.Av.Heap.Le,Go.Av.Heap.set,Go.Av.Heap.del]at* <;>grind) h
   ·have hsz:a.natAbs≤b.natAbs:=by omega
    repeat' (first|with_reducible apply C9P|simp only[go_sem,c0,cp,decide_true,decide_false]|simp(disch:=first|omega|grind) only[A6]|(intro hx_;try simp only[A4]at hx_)|omega)
    refine F4 (fun i=>if i=6 then W3 (b.natAbs-a.natAbs)else .undef) [b2,b3] ?_
    repeat' (first|with_reducible apply C9P|simp only[go_sem,m2,m3]|simp(disch:=first|omega|grind) only[A6]|(intro hx_;try simp only[A4]at hx_)|with_reducible refine Q9 (fun H' Q hro hq=>B5o _ _ hsz hb H' hq) ?_|omega)
    rw[V1 (a+b) _ _ (by omega) (by apply C92.2;omega)]
    exact D0r (by simp only[Go.Av.Heap.Le,Go.Av.Heap.set,Go.Av.Heap.del]at* <;>grind) h
theorem z7{Q}(a b:Int)(ha:Sz a)(hb:Sz b)(H:Heap)(h:Q (.agg (C4 (a-b))) H):ACalls Tryz.prog 249 [.agg (C4 a),.agg (C4 b)] H Q:=by
 refine B2 [(1,.par)] B3 Tryz.func249 rfl (by kernel_rfl) (C9Q (by kernel_rfl)) (by kernel_rfl) ?_
 simp only[go_sem,Tryz.results249]
 intro b2 hb2 b3 hb3 b4 hb4
 simp only[A4]at hb3 hb4
 have m2:b2∈[b2,b3]:=by simp
 have m3:b3∈[b2,b3]:=by simp
 have n24:=hb4.2.1.symm
 have n34:=hb4.1.symm
 have n23:=hb3.1.symm
 have hnb:Sz (-b):=by unfold Sz;rw[Int.natAbs_neg];exact hb
 have e:a+ -b=a-b:=by omega
 rw[←e]at h
 refine F4 (fun i=>if i=2 then .agg (C4 (-b))else if i=3 then .agg (C4 (a+ -b))else .undef) [b2,b3] ?_
 repeat' (first|with_reducible apply C9P|simp only[go_sem,m2,m3]|simp(disch:=first|omega|grind) only[A6]|(intro hx_;try simp only[A4]at hx_)|with_reducible refine Q9 (fun H' Q hro hq=>A37 b H' hq) ?_|with_reducible refine Q9 (fun H' Q hro hq=>A0M a (-b) ha hnb H' hq) ?_|omega)
 exact D0r (by simp only[Go.Av.Heap.Le,Go.Av.Heap.set,Go.Av.Heap.del]at* <;>grind) h
theorem B2Z{Q}(a b:Int)(ha:Sz a)(hb:Sz b)(H:Heap)(h:Q (.bool (decide (a<b))) H):ACalls Tryz.prog 262 [.agg (C4 a),.agg (C4 b)] H Q:=by
 refine B2 [] B3 Tryz.func262 rfl (by kernel_rfl) (C9Q (by kernel_rfl)) (by kernel_rfl) ?_
 simp only[go_sem,Tryz.results262]
 have e:decide (a<b)=decide ((a-b).sign<0):=by
  apply C92.2
  rw[Int.sign_neg_iff];omega
 rw[e]at h
 repeat' (first|with_reducible apply C9P|simp only[go_sem]|simp(disch:=first|omega|grind) only[A6]|(intro hx_;try simp only[A4]at hx_)|with_reducible refine z7 a b ha hb _ ?_|with_reducible refine K2 (a-b) _ ?_|omega)
 exact D0r (by simp only[Go.Av.Heap.Le,Go.Av.Heap.set,Go.Av.Heap.del]at* <;>grind) h
theorem B5t{Q}(a b:Int)(ha:Sz a)(hb:b.natAbs<4294967296)(H:Heap)(h:Q (.agg (C4 (Nat.gcd a.natAbs b.natAbs))) H):ACalls Tryz.prog 244 [.agg (C4 a),.agg (C4 b)] H Q:=by
 refine B2 [] B3 Tryz.func244 rfl (by kernel_rfl) (C9Q (by kernel_rfl)) (by kernel_rfl) ?_
 simp only[go_sem,Tryz.results244]
 rw[A5v]at h
 repeat' (first|with_reducible apply C9P|simp only[go_sem]|simp(disch:=first|omega|grind) only[A6]|(intro hx_;try simp only[A4]at hx_)|with_reducible refine C2V _ _ ha hb _ ?_|omega)
 exact D0r (by simp only[Go.Av.Heap.Le,Go.Av.Heap.set,Go.Av.Heap.del]at* <;>grind) h
theorem l6{Q}(n:Int)(h0: -9223372036854775808≤n)(h1:n≤9223372036854775807)(H:Heap)(h:Q (.agg (C4 n)) H):ACalls Tryz.prog 228 [.int .i64 n] H Q:=by
 refine B2 [] B3 Tryz.func228 rfl (by kernel_rfl) (C9Q (by kernel_rfl)) (by kernel_rfl) ?_
 simp only[go_sem,Tryz.results228]
 by_cases hn:n<0
 ·have w1:IntKind.u64.wrap n=n+18446744073709551616:=by rw[IntKind.wrap];simp only[IntKind.signed,IntKind.bits];simp;omega
  have w2:IntKind.u64.wrap (0-(n+18446744073709551616))=(n.natAbs:Int):=by rw[IntKind.wrap];simp only[IntKind.signed,IntKind.bits];simp;omega
  rw[←V1 n n.natAbs true rfl (by rw[C9R hn])]at h
  repeat' (first|with_reducible apply C9P|simp only[go_sem,hn,decide_true,w1,w2]|intro hx_|with_reducible refine C2T n.natAbs (by omega) _ ?_|omega)
  exact D0r (by simp only[Go.Av.Heap.Le,Go.Av.Heap.set,Go.Av.Heap.del]at* <;>grind) h
 ·have w1:IntKind.u64.wrap n=(n.natAbs:Int):=by rw[A0C (by omega) (by omega)];omega
  rw[←V1 n n.natAbs false rfl (by rw[C9S hn])]at h
  repeat' (first|with_reducible apply C9P|simp only[go_sem,hn,decide_false,w1]|intro hx_|with_reducible refine C2T n.natAbs (by omega) _ ?_|omega)
  exact D0r (by simp only[Go.Av.Heap.Le,Go.Av.Heap.set,Go.Av.Heap.del]at* <;>grind) h
end Go.Proofs.YtibphjonmikciaaGreatDoor
end
section
namespace Go.Av
theorem A0n{H Hd:Heap}{E E':Env}{c m sz s n:Nat}{rest:List D}{es X:List (List D)}(hS:Av.Sub E' E)(hn:n=es.length)(hc:Hd c=some (.vec s (X++[.vec m sz 0 n::rest])))(hm:Hd m=some (.vec sz es))(hne:m≠c)
  (hH: ∀k o,k≠c→H k=some o→k≠m∧Hd k=some o):A1C E' (H.set c (.vec s (X++[.sl sz es::rest]))) E Hd:=by
 refine A4R hm (B5Q hS) (fun k o' ho=>?_)
 unfold Heap.set at ho
 by_cases hk:k=c
 ·subst hk
  rw[if_pos rfl]at ho
  cases ho
  refine⟨Ne.symm hne,_,hc,.vec _ _ _ (by simp) fun i y y' hy hy'=>?_⟩
  by_cases hi:i<X.length
  ·rw[D0J hi]at hy hy'
   rw[hy]at hy';cases hy'
   exact⟨rfl,fun j d d' h3 h4=>by rw[h3]at h4;cases h4;exact .same _⟩
  ·rw[D0K (by omega)]at hy hy'
   by_cases hi2:i-X.length=0
   ·rw[hi2]at hy hy'
    cases hy;cases hy'
    refine⟨by simp,fun j d d' h3 h4=>?_⟩
    cases j with
    |zero=>cases h3;cases h4;rw[hn];exact .all
    |succ j=>
     rw[C9v]at h3 h4
     rw[h3]at h4;cases h4;exact .same _
   ·obtain⟨q,hq⟩: ∃q,i-X.length=q+1:=⟨_,(Nat.succ_pred hi2).symm⟩
    rw[hq]at hy;cases hy
 ·rw[if_neg hk]at ho
  obtain⟨h1,h2⟩:=hH k o' hk ho
  exact⟨h1,o',h2,.same _⟩
end Go.Av
end
section
set_option maxRecDepth 20000
namespace Go.Lin
open Go Go.Av
theorem B8p(a b:Int)(h0:b≠0):(a.fdiv b).natAbs≤a.natAbs+1:=by
 have hk:=Nat.div_le_self a.natAbs b.natAbs
 by_cases ha:a=0
 ·rw[A2I a b h0 (.inr ha),Int.natAbs_natCast];omega
 ·by_cases hs:decide (a<0)=decide (b<0)
  ·rw[A2I a b h0 (.inl hs),Int.natAbs_natCast];omega
  ·rw[A36 a b h0 ha hs]
   split
   ·rw[Int.natAbs_neg,Int.natAbs_natCast];omega
   ·rw[Int.natAbs_neg,Int.natAbs_natCast];omega
theorem A1J{a b:Int}{m n:Nat}(ha:a.natAbs≤m)(hb:b.natAbs≤n):(a*b).natAbs≤m*n:=by rw[Int.natAbs_mul];exact Nat.mul_le_mul ha hb
theorem B2a{H:Heap}{b c:Nat}{A A' B:Av.Obj}(h:c≠b):((H.set b A').set c B).Le (((H.set b A).set c B).set b A'):=fun q o hq=>by
 by_cases e:q=b
 ·subst e
  rw[A8 _ h.symm,A5]at hq
  rw[A5];exact hq
 ·rw[A8 _ e]
  by_cases e2:q=c
  ·subst e2;rw[A5]at hq⊢;exact hq
  ·rw[A8 _ e2,A8 _ e]at hq⊢;exact hq
def zB:List D:=[.bool false,.nilsl]
def Z4(C:List Int)(n i:Nat):List (List D):=Rw C4 (C.take i)++List.replicate (n-i) zB
theorem A3S(C:List Int)(n i:Nat)(h:C.length=n)(hi:i≤n):(Z4 C n i).length=n:=by simp[Z4,Rw];omega
theorem A2J(C:List Int)(n:Nat):Z4 C n 0=List.replicate n zB:=by simp[Z4,Rw]
theorem A3T(C:List Int)(n:Nat)(h:C.length=n):Z4 C n n=Rw C4 C:=by simp[Z4,←h]
theorem A1r(C:List Int)(n i:Nat)(h:C.length=n)(hi:i<n)(c:List D)(hc:C4 (C[i]'(by omega))=c):(Z4 C n i).set i c=Z4 C n (i+1):=by
 subst hc
 unfold Z4
 have hl:(Rw C4 (C.take i)).length=i:=by simp[Rw];omega
 have e:n-i=(n-(i+1))+1:=by omega
 rw[List.set_append_right _ _ (by omega),hl,Nat.sub_self,e,List.replicate_succ,List.set_cons_zero,Q3 _ _ (by omega),D0D];rfl
theorem A0o(C:List Int)(n i j:Nat)(h:C.length=n)(hi:i≤j)(hj:j<n):(Z4 C n i)[j]? =some zB:=by
 unfold Z4
 have hl:(Rw C4 (C.take i)).length=i:=by simp[Rw];omega
 rw[D0K (by omega),hl,List.getElem?_replicate,if_pos (by omega)]
theorem A0p(C:List Int)(n i j:Nat)(h:C.length=n)(hi:i≤j)(hj:j<n):(Z4 C n i).getD j []=zB:=by
 rw[List.getD_eq_getElem?_getD,A0o C n i j h hi hj];rfl
end Go.Lin
namespace Go.Proofs.YtibphjonmikciaaGreatDoor
open Go Go.Av Go.Lin
attribute [local irreducible] ACalls W4
theorem B5u{Q}(a b:Int)(ha:a.natAbs≤18446744073709551616)(hb0:0<b)(hb:b<2147483648)(H:Heap)(h:Q (.agg (C4 (A0m a b))) H):ACalls Tryz.prog 258 [.agg (C4 a),.agg (C4 b)] H Q:=by
 refine B2 [(2,.par)] B3 Tryz.func258 rfl (by kernel_rfl) (C9Q (by kernel_rfl)) (by kernel_rfl) ?_
 simp only[go_sem,Tryz.results258]
 intro b2 hb2 b3 hb3 b4 hb4
 simp only[A4]at hb3 hb4
 have n24:=hb4.2.1.symm
 have n34:=hb4.1.symm
 have n23:=hb3.1.symm
 obtain⟨t,ht⟩: ∃t:Int,t=2:=⟨2,rfl⟩
 have hw: ∀(H':Heap) (Q':D→Heap→Prop),Q' (.agg (C4 t)) H'→ACalls Tryz.prog 228 [.int .i64 2] H' Q':=fun H' Q' hq=>l6 2 (by omega) (by omega) H' (by rw[←ht];exact hq)
 repeat' (first|with_reducible apply C9P|simp only[go_sem]|simp(disch:=first|omega|grind) only[A6]|(intro hx_;try simp only[A4]at hx_)|with_reducible refine hw _ _ ?_|omega)
 rename_i b5
 have hb5:=hx_
 clear hx_
 have m2:b2∈[b2,b3,b5]:=by simp
 have m3:b3∈[b2,b3,b5]:=by simp
 have m5:b5∈[b2,b3,b5]:=by simp
 have n45:=hb5.1
 have n35:=hb5.2.1.symm
 have n25:=hb5.2.2.1.symm
 obtain⟨f,hf⟩: ∃f,f=(a*t+b).fdiv (b*t):=⟨_,rfl⟩
 have hfl:=B8p (a*t+b) (b*t) (by subst ht;omega)
 rw[←hf]at hfl
 have hfl:f.natAbs≤55340232221128654849:=by(have:(a*t+b).natAbs≤55340232221128654848:=by(subst ht;omega));omega
 have hbf:=A1J (a:=b) (b:=f) (m:=2147483648) (n:=55340232221128654849) (by omega) (by omega)
 have s1:Sz a:=G6 (by omega)
 have s2:Sz b:=G6 (by omega)
 have s3:Sz t:=G6 (by omega)
 have s4:Sz (a*t):=G6 (by subst ht;omega)
 have s5:Sz (a*t+b):=G6 (by subst ht;omega)
 have s6:Sz f:=G6 (by omega)
 have s7:Sz (b*f):=G6 (by omega)
 refine F4 (fun i=>if i=4 then .agg (C4 (a*t))else if i=6 then .agg (C4 (a*t+b))else if i=9 then .agg (C4 (b*t))else if i=10 then .agg (C4 f)else if i=11 then .agg (C4 (b*f))else if i=12 then .agg (C4 (a-b*f))else .undef) [b2,b3,b5] ?_
 repeat' (first|with_reducible apply C9P|simp only[go_sem,m2,m3,m5]|simp(disch:=first|omega|grind) only[A6]|(intro hx_;try simp only[A4]at hx_)|with_reducible refine Q9 (fun H' Q hro hq=>R8 a t s1 s3 H' hq) ?_|with_reducible refine Q9 (fun H' Q hro hq=>A0M (a*t) b s4 s2 H' hq) ?_|with_reducible refine Q9 (fun H' Q hro hq=>R8 b t s2 s3 H' hq) ?_|with_reducible refine Q9 (fun H' Q hro hq=>A3R (a*t+b) (b*t) s5 (by subst ht;omega) (by subst ht;omega) H' (by rw[←hf];exact hq)) ?_|with_reducible refine Q9 (fun H' Q hro hq=>R8 b f s2 s6 H' hq) ?_|with_reducible refine Q9 (fun H' Q hro hq=>z7 a (b*f) s1 s7 H' hq) ?_|omega)
 have e:A0m a b=a-b*f:=by rw[hf,ht];rfl
 rw[e]at h
 exact D0r (by simp only[Go.Av.Heap.Le,Go.Av.Heap.set,Go.Av.Heap.del]at* <;>grind) h
def A4p(r:Row)(m:Nat):Prop:=r.k.natAbs≤m∧∀x∈r.c,x.natAbs≤m
theorem A2q{Q}(a b:Row)(s:Int)(hs:s=1∨s= -1)(hl:a.c.length=b.c.length)(hlen:a.c.length≤1000000)(ha:A4p a 18446744073709551616)(hb:A4p b 18446744073709551616)(H:Heap)(h:Q (.bool (A33 a b s)) H):
  ACalls Tryz.prog 281 [.agg (C5 a),.agg (C5 b),.int .i64 s] H Q:=by
 refine B2 [] B3 Tryz.func281 rfl (by kernel_rfl) (C9Q (by kernel_rfl)) (by kernel_rfl) ?_
 simp only[go_sem,Tryz.results281]
 intro b3 hb3 b4 hb4
 simp only[A4]at hb4
 have e3:((H.set b3 (.box (C5 a))).set b4 (.box (C5 b))) b3=some (.box (C5 a)):=by rw[A8 _ hb4.1.symm,A5]
 have e4:((H.set b3 (.box (C5 a))).set b4 (.box (C5 b))) b4=some (.box (C5 b)):=A5 _ _
 have hle:H.Le ((H.set b3 (.box (C5 a))).set b4 (.box (C5 b))):=(by simp only[Go.Av.Heap.Le,Go.Av.Heap.set,Go.Av.Heap.del]at* <;>grind)
 generalize (H.set b3 (.box (C5 a))).set b4 (.box (C5 b))=Bs at e3 e4 hle⊢
 repeat' (first|with_reducible apply C9P|simp only[go_sem,e3,e4]|simp(disch:=omega) only[A0,A9]|simp(disch:=first|omega|grind) only[A6]|(intro hx_;try simp only[A4]at hx_)|omega)
 have key:A33 a b s=true↔∀(k:Nat) (h1:k<a.c.length) (h2:k<b.c.length),a.c[k]=b.c[k]*s:=by
  unfold A33
  rw[beq_iff_eq]
  constructor
  ·intro e k h1 h2
   have:=List.getElem_of_eq e h1
   rw[this,D0F]
  ·intro e
   apply D0k (by simpa using hl)
   intro k h1 h2
   rw[D0F]
   exact e k h1 (by simpa using h2)
 refine D1 [2,4,11,12] (fun(i:Nat)=>[(13,.int .i64 i)]) (fun(i:Nat)=>Bs) (fun(i:Nat)=>i≤a.c.length∧∀(k:Nat) (h1:k<a.c.length) (h2:k<b.c.length),k<i→a.c[k]=b.c[k]*s) (fun(i:Nat)=>a.c.length-i) (0) (⟨C9k _,fun k _ _ h=>absurd h (Nat.not_lt_zero _)⟩) (by(try simp only[go_sem])<;>(try simp(disch:=omega) [A0])<;>(try omega)) (by first|exact D0q _|exact A2 (by assumption)|exact B4 (by assumption)|simp only[Heap.Le,Heap.set,Heap.del]at* <;>grind) ?_
 rintro Ec rfl i ⟨hi,hall⟩
 by_cases hlt:i<a.c.length
 ·have hkd:decide ((i:Int)<a.c.length)=true:=C9R (by omega)
  have hlb:i<b.c.length:=by omega
  have a1:=ha.2 _ (C9d hlt)
  have b1:=hb.2 _ (C9d hlb)
  have sa:Sz a.c[i]:=G6 (by omega)
  have sb:Sz b.c[i]:=G6 (by omega)
  have hib:(i:Int)<b.c.length:=by omega
  have snb:Sz (-b.c[i]):=G6 (by omega)
  rcases hs with rfl|rfl
  ·have eb:b.c[i]*1=b.c[i]:=by omega
   by_cases he:a.c[i]=b.c[i]
   ·have h0:(a.c[i]-b.c[i]).sign=0:=by rw[he,Int.sub_self];rfl
    repeat' (first|with_reducible apply C9P|simp only[go_sem,hkd,e3,e4,hib,A9 _ _ hlt,C2 _ _ hlt,A9 _ _ hlb,C2 _ _ hlb,h0]|simp(disch:=omega) only[A0,A9]|simp(disch:=first|omega|grind) only[A6]|(intro hx_;try simp only[A4]at hx_)|with_reducible refine z7 _ _ sa sb _ ?_|with_reducible refine K2 _ _ ?_|omega)
    refine C3 (i+1) ⟨by omega,fun k h1 h2 hk=>?_⟩ (by omega) (by(try simp only[go_sem])<;>(try simp(disch:=omega) [A0])<;>(try omega)) (by simp only[Go.Av.Heap.Le,Go.Av.Heap.set,Go.Av.Heap.del]at* <;>grind)
    by_cases e:k=i
    ·subst e;rw[eb];exact he
    ·exact hall k h1 h2 (by omega)
   ·have h0: ¬((a.c[i]-b.c[i]).sign=0):=by rw[Int.sign_eq_zero_iff_zero];omega
    have h1:A33 a b (1)=false:=by rw[←D0l];exact fun g=>he (by rw[←eb];exact key.1 g i hlt hlb)
    have h2:((a.c[i]-b.c[i]).sign != 0)=true:=by rw[bne_iff_ne];exact h0
    repeat' (first|with_reducible apply C9P|simp only[go_sem,hkd,e3,e4,hib,A9 _ _ hlt,C2 _ _ hlt,A9 _ _ hlb,C2 _ _ hlb,h2]|simp(disch:=omega) only[A0,A9]|simp(disch:=first|omega|grind) only[A6]|(intro hx_;try simp only[A4]at hx_)|with_reducible refine z7 _ _ sa sb _ ?_|with_reducible refine K2 _ _ ?_|omega)
    rw[h1]at h
    exact D0r (by simp only[Go.Av.Heap.Le,Go.Av.Heap.set,Go.Av.Heap.del]at* <;>grind) h
  ·have eb:b.c[i]* -1= -b.c[i]:=by omega
   by_cases he:a.c[i]= -b.c[i]
   ·have h0:(a.c[i]- -b.c[i]).sign=0:=by rw[he,Int.sub_self];rfl
    repeat' (first|with_reducible apply C9P|simp only[go_sem,hkd,e3,e4,hib,A9 _ _ hlt,C2 _ _ hlt,A9 _ _ hlb,C2 _ _ hlb,h0]|simp(disch:=omega) only[A0,A9]|simp(disch:=first|omega|grind) only[A6]|(intro hx_;try simp only[A4]at hx_)|with_reducible refine A37 _ _ ?_|with_reducible refine z7 _ _ sa snb _ ?_|with_reducible refine K2 _ _ ?_|omega)
    refine C3 (i+1) ⟨by omega,fun k h1 h2 hk=>?_⟩ (by omega) (by(try simp only[go_sem])<;>(try simp(disch:=omega) [A0])<;>(try omega)) (by simp only[Go.Av.Heap.Le,Go.Av.Heap.set,Go.Av.Heap.del]at* <;>grind)
    by_cases e:k=i
    ·subst e;rw[eb];exact he
    ·exact hall k h1 h2 (by omega)
   ·have h0: ¬((a.c[i]- -b.c[i]).sign=0):=by rw[Int.sign_eq_zero_iff_zero];omega
    have h1:A33 a b (-1)=false:=by rw[←D0l];exact fun g=>he (by rw[←eb];exact key.1 g i hlt hlb)
    have h2:((a.c[i]- -b.c[i]).sign != 0)=true:=by rw[bne_iff_ne];exact h0
    repeat' (first|with_reducible apply C9P|simp only[go_sem,hkd,e3,e4,hib,A9 _ _ hlt,C2 _ _ hlt,A9 _ _ hlb,C2 _ _ hlb,h2]|simp(disch:=omega) only[A0,A9]|simp(disch:=first|omega|grind) only[A6]|(intro hx_;try simp only[A4]at hx_)|with_reducible refine A37 _ _ ?_|with_reducible refine z7 _ _ sa snb _ ?_|with_reducible refine K2 _ _ ?_|omega)
    rw[h1]at h
    exact D0r (by simp only[Go.Av.Heap.Le,Go.Av.Heap.set,Go.Av.Heap.del]at* <;>grind) h
 ·have hkd:decide ((i:Int)<a.c.length)=false:=C9S (by omega)
  repeat' (first|with_reducible apply C9P|simp only[go_sem,hkd]|simp(disch:=omega) only[A0,A9]|simp(disch:=first|omega|grind) only[A6]|(intro hx_;try simp only[A4]at hx_)|omega)
  rw[key.2 (fun k h1 h2=>hall k h1 h2 (by omega))]at h
  exact D0r hle h
set_option maxHeartbeats 1000000 in
theorem B5v{Q}(x y:Row)(a b:Int)(hl:x.c.length=y.c.length)(hlen:x.c.length≤1000000)(hx:A4p x 18446744073709551616)(hy:A4p y 18446744073709551616)(ha:a.natAbs≤18446744073709551616)(hb:b.natAbs≤18446744073709551616)(H:Heap)
  (h:Q (.agg (C5 (A1o x a y b))) H):ACalls Tryz.prog 264 [.agg (C5 x),.agg (C4 a),.agg (C5 y),.agg (C4 b)] H Q:=by
 refine B2 [(1,.par),(5,.par)] B3 Tryz.func264 rfl (by kernel_rfl) (C9Q (by kernel_rfl)) (by kernel_rfl) ?_
 simp only[go_sem,Tryz.results264]
 intro b4 h4 b5 h5 b6 h6 b7 h7 b8 h8
 simp only[A4]at h5 h6 h7 h8
 have e4:(((((H.set b4 (.box (C5 x))).set b5 (.box (C4 a))).set b6 (.box (C5 y))).set b7 (.box (C4 b))).set b8 (.box [.nilsl,.bool false,.nilsl,.bool false])) b4=some (.box (C5 x)):=by simp(disch:=first|omega|grind) only[A6,A5]
 have e5:(((((H.set b4 (.box (C5 x))).set b5 (.box (C4 a))).set b6 (.box (C5 y))).set b7 (.box (C4 b))).set b8 (.box [.nilsl,.bool false,.nilsl,.bool false])) b5=some (.box (C4 a)):=by simp(disch:=first|omega|grind) only[A6,A5]
 have e6:(((((H.set b4 (.box (C5 x))).set b5 (.box (C4 a))).set b6 (.box (C5 y))).set b7 (.box (C4 b))).set b8 (.box [.nilsl,.bool false,.nilsl,.bool false])) b6=some (.box (C5 y)):=by simp(disch:=first|omega|grind) only[A6,A5]
 have e7:(((((H.set b4 (.box (C5 x))).set b5 (.box (C4 a))).set b6 (.box (C5 y))).set b7 (.box (C4 b))).set b8 (.box [.nilsl,.bool false,.nilsl,.bool false])) b7=some (.box (C4 b)):=by simp(disch:=first|omega|grind) only[A6,A5]
 have e8:(((((H.set b4 (.box (C5 x))).set b5 (.box (C4 a))).set b6 (.box (C5 y))).set b7 (.box (C4 b))).set b8 (.box [.nilsl,.bool false,.nilsl,.bool false])) b8=some (.box [.nilsl,.bool false,.nilsl,.bool false]):=A5 _ _
 have hle:H.Le ((((H.set b4 (.box (C5 x))).set b5 (.box (C4 a))).set b6 (.box (C5 y))).set b7 (.box (C4 b))):=(by simp only[Go.Av.Heap.Le,Go.Av.Heap.set,Go.Av.Heap.del]at* <;>grind)
 have h8':((((H.set b4 (.box (C5 x))).set b5 (.box (C4 a))).set b6 (.box (C5 y))).set b7 (.box (C4 b))) b8=none:=by simp only[A4];exact h8
 have hle2:=hle.trans (A2 (o:=.box [.nilsl,.bool false,.nilsl,.bool false]) h8')
 have hb8:H b8=none:=hle.none h8'
 generalize (((((H.set b4 (.box (C5 x))).set b5 (.box (C4 a))).set b6 (.box (C5 y))).set b7 (.box (C4 b))).set b8 (.box [.nilsl,.bool false,.nilsl,.bool false]))=Bs at e4 e5 e6 e7 e8 hle2⊢
 clear hle h8' h4 h5 h6 h7 h8
 have xk:=hx.1
 have yk:=hy.1
 have m1:=A1J xk ha
 have m2:=A1J yk hb
 have s1:Sz x.k:=G6 (by omega)
 have s2:Sz y.k:=G6 (by omega)
 have s3:Sz a:=G6 (by omega)
 have s4:Sz b:=G6 (by omega)
 have s5:Sz (x.k*a):=A9z (k:=5) (by omega) (by decide)
 have s6:Sz (y.k*b):=A9z (k:=5) (by omega) (by decide)
 have q4:b4∈[b4,b5,b6,b7]:=by simp
 have q5:b5∈[b4,b5,b6,b7]:=by simp
 have q6:b6∈[b4,b5,b6,b7]:=by simp
 have q7:b7∈[b4,b5,b6,b7]:=by simp
 refine F4 (fun i=>if i=7 then .agg (C4 (x.k*a))else if i=11 then .agg (C4 (y.k*b))else if i=12 then .agg (C4 (x.k*a+y.k*b))else .undef) [b4,b5,b6,b7] ?_
 repeat' (first|with_reducible apply C9P|simp only[go_sem,e4,e5,e6,e7,q4,q5,q6,q7]|simp(disch:=omega) only[A0,A9]|simp(disch:=first|omega|grind) only[A6,C8]|(intro hx_;try simp only[A4]at hx_)|with_reducible refine Q9 (fun H' Q hro hq=>R8 x.k a s1 s3 H' hq) ?_|with_reducible refine Q9 (fun H' Q hro hq=>R8 y.k b s2 s4 H' hq) ?_|with_reducible refine Q9 (fun H' Q hro hq=>A0M (x.k*a) (y.k*b) s5 s6 H' hq) ?_|omega)
 rename_i bo hbo b9
 have h9:=hx_
 clear hx_
 obtain⟨C,hC⟩: ∃C,C=List.zipWith (fun p q=>p*a+q*b) x.c y.c:=⟨_,rfl⟩
 have hCl:C.length=x.c.length:=by rw[hC];simp[hl]
 have hrep:List.replicate x.c.length [D.bool false,.nilsl]=Z4 C x.c.length 0:=(A2J _ _).symm
 rw[hrep]
 obtain⟨k,hk⟩: ∃k,k=x.k*a+y.k*b:=⟨_,rfl⟩
 have n9:b9≠bo:=h9.1
 have f4:b4≠bo:=fun e=>by rw[e,hbo]at e4;cases e4
 have f5:b5≠bo:=fun e=>by rw[e,hbo]at e5;cases e5
 have f6:b6≠bo:=fun e=>by rw[e,hbo]at e6;cases e6
 have f7:b7≠bo:=fun e=>by rw[e,hbo]at e7;cases e7
 have f8:b8≠bo:=fun e=>by rw[e,hbo]at e8;cases e8
 have g4:b4≠b9:=fun e=>by rw[e,h9.2]at e4;cases e4
 have g5:b5≠b9:=fun e=>by rw[e,h9.2]at e5;cases e5
 have g6:b6≠b9:=fun e=>by rw[e,h9.2]at e6;cases e6
 have g7:b7≠b9:=fun e=>by rw[e,h9.2]at e7;cases e7
 have g8:b8≠b9:=fun e=>by rw[e,h9.2]at e8;cases e8
 refine D1 [4,5,6,7,8,9,29] (fun(i:Nat)=>[(30,.int .i64 i)]) (fun(i:Nat)=>(Bs.set bo (.vec 2 (Z4 C x.c.length i))).set b9 (.box [.vec bo 2 0 x.c.length,.bool (decide (x.k*a+y.k*b<0)),.sl 1 (Rw E9 (C0 (x.k*a+y.k*b).natAbs)),.bool x.eq])) (fun(i:Nat)=>i≤x.c.length) (fun(i:Nat)=>x.c.length-i) (0) (C9k _) (by(try simp only[go_sem])<;>(try simp(disch:=omega) [A0])<;>(try omega)) (by first|exact D0q _|exact A2 (by assumption)|exact B4 (by assumption)|simp only[Heap.Le,Heap.set,Heap.del]at* <;>grind) ?_
 rintro Ec rfl i hi
 have hpl:=A3S C x.c.length i hCl hi
 by_cases hlt:i<x.c.length
 ·have hkd:decide ((i:Int)<x.c.length)=true:=C9R (by omega)
  have hly:i<y.c.length:=by omega
  have hiy:(i:Int)<y.c.length:=by omega
  have hiC:i<C.length:=by omega
  have x1:=hx.2 _ (C9d hlt)
  have y1:=hy.2 _ (C9d hly)
  have p1:=A1J x1 ha
  have p2:=A1J y1 hb
  have t1:Sz x.c[i]:=G6 (by omega)
  have t2:Sz y.c[i]:=G6 (by omega)
  have t3:Sz (x.c[i]*a):=A9z (k:=5) (by omega) (by decide)
  have t4:Sz (y.c[i]*b):=A9z (k:=5) (by omega) (by decide)
  have hci:C[i]=x.c[i]*a+y.c[i]*b:=by simp only[hC,List.getElem_zipWith]
  have hset:=A1r C x.c.length i hCl hlt (C4 (x.c[i]*a+y.c[i]*b)) (by rw[hci])
  have hpg:=A0p C x.c.length i i hCl (C9j _) hlt
  have hpg2:=A0o C x.c.length i i hCl (C9j _) hlt
  have r4:b4∈[b4,b5,b6,b7,b9]:=by simp
  have r5:b5∈[b4,b5,b6,b7,b9]:=by simp
  have r6:b6∈[b4,b5,b6,b7,b9]:=by simp
  have r7:b7∈[b4,b5,b6,b7,b9]:=by simp
  have r9:b9∈[b4,b5,b6,b7,b9]:=by simp
  repeat' (first|with_reducible apply C9P|simp only[go_sem,hkd]|simp(disch:=omega) only[A0,A9]|simp(disch:=first|omega|grind) only[A6,C8]|(intro hx_;try simp only[A4]at hx_)|omega)
  refine F4 (fun i'=>if i'=9 then .agg (C4 (x.c[i]*a))else if i'=16 then .agg (C4 (y.c[i]*b))else if i'=17 then .agg (C4 (x.c[i]*a+y.c[i]*b))else .undef) [b4,b5,b6,b7,b9] ?_
  repeat' (first|with_reducible apply C9P|simp only[go_sem,e4,e5,e6,e7,r4,r5,r6,r7,r9,hiy,hpl,hpg,hpg2,A9 _ _ hlt,C2 _ _ hlt,A9 _ _ hly,C2 _ _ hly,hset]|simp(disch:=omega) only[A0,A9]|simp(disch:=first|omega|grind) only[A6,C8]|(intro hx_;try simp only[A4]at hx_)|with_reducible refine Q9 (fun H' Q hro hq=>R8 x.c[i] a t1 s3 H' hq) ?_|with_reducible refine Q9 (fun H' Q hro hq=>R8 y.c[i] b t2 s4 H' hq) ?_|with_reducible refine Q9 (fun H' Q hro hq=>A0M (x.c[i]*a) (y.c[i]*b) t3 t4 H' hq) ?_|omega)
  refine C3 (i+1) (by omega) (by omega) (by(try simp only[go_sem])<;>(try simp(disch:=omega) [A0])<;>(try omega)) ?_
  have hset2:(Z4 C x.c.length i).set i ((zB.set 0 (D.bool (decide (x.c[i]*a+y.c[i]*b<0)))).set 1 (D.sl 1 (Rw E9 (C0 (x.c[i]*a+y.c[i]*b).natAbs))))=Z4 C x.c.length (i+1):=hset
  rw[hset2]
  exact B2a n9
 ·have hkd:decide ((i:Int)<x.c.length)=false:=C9S (by omega)
  have hie:i=x.c.length:=by omega
  subst hie
  rw[A3T C _ hCl]
  repeat' (first|with_reducible apply C9P|simp only[go_sem,hkd,e8]|simp(disch:=omega) only[A0,A9]|simp(disch:=first|omega|grind) only[A6,C8]|(intro hx_;try simp only[A4]at hx_)|omega)
  have hlen2:x.c.length=(Rw C4 C).length:=by rw[D6,hCl]
  refine T3 (b:=bo) (sz:=2) (es:=Rw C4 C) (cs':=C5 (A1o x a y b)) (by rw[A8 _ f8.symm,A8 _ n9.symm,A5]) rfl (fun i d d' e1 e2=>?_) (D0r (fun q o hq=>?_) h)
  ·match i with
   |0=>
    cases e1;cases e2
    show Fz bo 2 (Rw C4 C) (.vec bo 2 0 x.c.length) (.sl 2 (Rw C4 (List.zipWith (fun p q=>p*a+q*b) x.c y.c)))
    rw[←hC,hlen2];exact .all
   |1=>cases e1;cases e2;exact .same _
   |2=>cases e1;cases e2;exact .same _
   |3=>cases e1;cases e2;exact .same _
   |i+4=>cases e1
  ·have hq2:=hle2 q o hq
   have d1:q≠bo:=fun e=>by rw[e,hbo]at hq2;cases hq2
   have d2:q≠b9:=fun e=>by rw[e,h9.2]at hq2;cases hq2
   have d3:q≠b8:=fun e=>by rw[e,hb8]at hq;cases hq
   rw[C8 d1,A8 _ d3,A8 _ d2,A8 _ d1];exact hq2
end Go.Proofs.YtibphjonmikciaaGreatDoor
namespace Go.Lin
open Go Go.Av Go.Lexs
open Classical in
noncomputable def I0(ks:List ByteArray)(s:ByteArray):List ByteArray:=if s∈ks then ks else ks++[s]
theorem A2r{ks:List ByteArray}{s:ByteArray}(h:ks.Nodup):(I0 ks s).Nodup:=by
 unfold I0
 split
 ·exact h
 ·rename_i g
  exact List.nodup_append.2 ⟨h,by simp,fun a ha b hb=>by simp at hb;subst hb;exact fun e=>g (e ▸ ha)⟩
theorem A92{ks:List ByteArray}{s x:ByteArray}:x∈I0 ks s↔x∈ks∨x=s:=by
 unfold I0
 split
 ·rename_i g;constructor
  ·exact .inl
  ·rintro(h|rfl);exact h;exact g
 ·simp
theorem B5w(ks:List ByteArray)(s:ByteArray):(I0 ks s).length≤ks.length+1:=by
 unfold I0;split<;>simp
theorem S7(m:List ByteArray): ∀ks:List ByteArray,ks.Nodup→(m.foldl I0 ks).Nodup:=by
 induction m with
 |nil=>exact fun ks h=>h
 |cons s m ih=>exact fun ks h=>ih _ (A2r h)
theorem A7C(m:List ByteArray)(x:ByteArray): ∀ks:List ByteArray,x∈m.foldl I0 ks↔x∈ks∨x∈m:=by
 induction m with
 |nil=>intro ks;simp
 |cons s m ih=>intro ks;rw[List.foldl_cons,ih,A92,C9r,or_assoc]
theorem A7D(m:List ByteArray): ∀ks:List ByteArray,(m.foldl I0 ks).length≤ks.length+m.length:=by
 induction m with
 |nil=>intro ks;simp
 |cons s m ih=>intro ks;have:=ih (I0 ks s);have:=B5w ks s;simp only[List.foldl_cons,C9U];omega
theorem B3j(f:ByteArray→D)(s:ByteArray)(ks:List ByteArray):C9 f (s::ks)=(.str s,f s)::C9 f ks:=rfl
theorem find_strM(f:ByteArray→D)(s:ByteArray): ∀(ks:List ByteArray) (i:Nat),(s∉ks∧O8 (.one .str) (.str s) (C9 f ks) i=some none)∨∃j,∃hj:j<ks.length,ks[j]=s∧O8 (.one .str) (.str s) (C9 f ks) i=some (some (i+j,f s))
 | [],i=>.inl ⟨by simp,rfl⟩
 |t::ks,i=>by
  have e:A4M (.one .str) (.str s) (.str t)=some (decide (s=t)):=by
   rw[A4M,T6]
   congr 1
   rw[Bool.eq_iff_iff,beq_iff_eq,C9l]
   exact⟨fun g=>i6 g,fun g=>by rw[g]⟩
  rw[B3j,O8]
  simp only[e,C9t,C9l]
  by_cases c:s=t
  ·subst c
   rw[if_pos rfl]
   exact .inr ⟨0,by simp,rfl,rfl⟩
  ·rw[if_neg c]
   rcases find_strM f s ks (i+1)with⟨h1,h2⟩|⟨j,hj,h1,h2⟩
   ·exact .inl ⟨by rw[C9r,not_or];exact⟨c,h1⟩,h2⟩
   ·exact .inr ⟨j+1,by simpa using hj,by simpa using h1,by rw[h2];congr 3;omega⟩
def A93(f:ByteArray→D)(s:ByteArray)(x:D):ByteArray→D:=fun t=>if t=s then x else f t
theorem B5x(f:ByteArray→D)(s:ByteArray)(x:D)(ks:List ByteArray)(hn:ks.Nodup):(O8 (.one .str) (.str s) (C9 f ks) 0).map (fun r=>A5L (C9 f ks) (.str s) x r)=some (C9 (A93 f s x) (I0 ks s)):=by
 rcases find_strM f s ks 0 with⟨h1,h2⟩|⟨j,hj,h1,h2⟩
 ·rw[h2]
  show some (C9 f ks++[(.str s,x)])=_
  unfold I0
  rw[if_neg h1]
  unfold C9
  rw[D0P]
  congr 2
  ·refine List.map_congr_left fun t ht=>?_
   have:t≠s:=fun e=>h1 (e ▸ ht)
   simp[A93,this]
  ·simp[A93]
 ·rw[h2]
  show some ((C9 f ks).set (0+j) (.str s,x))=_
  have hm:s∈ks:=by rw[←h1];exact C9d hj
  unfold I0
  rw[if_pos hm,Nat.zero_add]
  congr 1
  apply D0k
  ·simp[C9]
  ·intro i h3 h4
   have hi:i<ks.length:=by simpa [C9]using h4
   by_cases e:j=i
   ·subst e
    rw[List.getElem_set_self]
    simp[C9,A93,h1]
   ·rw[List.getElem_set_ne e]
    have:ks[i]≠s:=fun g=>by
     have hp:=List.pairwise_iff_getElem.1 hn
     rcases Nat.lt_or_gt_of_ne e with q|q
     ·exact hp j i hj hi q (h1.trans g.symm)
     ·exact hp i j hi hj q (g.trans h1.symm)
    simp[C9,A93,this]
theorem X9{H:Heap}{b:Nat}(f:ByteArray→D)(s:ByteArray)(x:D)(ks:List ByteArray)(hn:ks.Nodup):(O8 (.one .str) (.str s) (C9 f ks) 0).map (fun r=>H.set b (.map (A5L (C9 f ks) (.str s) x r)))=some (H.set b (.map (C9 (A93 f s x) (I0 ks s)))):=by
 have:=congrArg (Option.map fun m=>H.set b (.map m)) (B5x f s x ks hn)
 rw[Option.map_map]at this
 exact this
open Classical in
theorem A2K(f:ByteArray→D)(s:ByteArray)(z:D)(ks:List ByteArray):(O8 (.one .str) (.str s) (C9 f ks) 0).map (A2c false z)=some (if s∈ks then f s else z):=by
 rcases find_strM f s ks 0 with⟨h1,h2⟩|⟨j,hj,h1,h2⟩
 ·rw[h2,if_neg h1];rfl
 ·have hm:s∈ks:=by rw[←h1];exact C9d hj
  rw[h2,if_pos hm];rfl
abbrev tt:ByteArray→D:=fun _=>.bool true
theorem A2s(s:ByteArray):A93 tt s (.bool true)=tt:=by
 funext t;unfold A93;split<;>rfl
def A0N(l:List LinV)(i j:Nat):List ByteArray:=O4 (l.take i)++(((l.getD i default).t.take j).map (·.v))
theorem B1N(l:List LinV)(i:Nat)(h:i<l.length):A0N l i l[i].t.length=A0N l (i+1) 0:=by
 unfold A0N O4
 rw[C9i h,List.flatMap_append]
 simp[h]
theorem B1O(l:List LinV)(i j:Nat)(h:i<l.length)(hj:j<l[i].t.length):A0N l i (j+1)=A0N l i j++[l[i].t[j].v]:=by
 unfold A0N
 rw[show l.getD i default=l[i]by simp[h],C9i hj,D0P,←D0D];rfl
theorem B3k(l:List LinV):A0N l l.length 0=O4 l:=by simp[A0N]
theorem B1P(m:List ByteArray)(s:ByteArray):(m++[s]).foldl I0 []=I0 (m.foldl I0 []) s:=by rw[D0H];rfl
end Go.Lin
namespace Go.Proofs.YtibphjonmikciaaGreatDoor
open Go Go.Av Go.Lexs Go.Lin
attribute [local irreducible] ACalls W4
theorem C2W{Q}(l:List LinV)(hlen:l.length≤1000000000)(hnm:(O4 l).length≤1000000000)(hst: ∀s∈O4 l,s.size≤4611686018427387904)(hts: ∀c∈l,c.t.length≤1000000000)(H:Heap)(h:Q (.sl 1 (Rw j7 (A1j l))) H):ACalls Tryz.prog 198 [.sl 3 (Rw E3 l)] H Q:=by
 refine B2 [] B3 Tryz.func198 rfl (by kernel_rfl) (C9Q (by kernel_rfl)) (by kernel_rfl) ?_
 simp only[go_sem,Tryz.results198]
 repeat' (first|with_reducible apply C9P|simp only[go_sem]|simp(disch:=omega) only[A0,A9]|simp(disch:=first|omega|grind) only[A6]|(intro hx_;try simp only[A4]at hx_)|omega)
 rename_i b3
 have h3:=hx_
 clear hx_
 rw[show ([]:List (D×D))=C9 tt ((A0N l 0 0).foldl I0 [])from rfl]
 refine D1 [3,9,10] (fun(i:Nat)=>[(11,.int .i64 i)]) (fun(i:Nat)=>H.set b3 (.map (C9 tt ((A0N l i 0).foldl I0 [])))) (fun(i:Nat)=>i≤l.length) (fun(i:Nat)=>l.length-i) (0) (C9k _) (by(try simp only[go_sem])<;>(try simp(disch:=omega) [A0])<;>(try omega)) (by first|exact D0q _|exact A2 (by assumption)|exact B4 (by assumption)|simp only[Heap.Le,Heap.set,Heap.del]at* <;>grind) ?_
 rintro Ec rfl i hi
 by_cases hlt:i<l.length
 ·have hkd:decide ((i:Int)<l.length)=true:=C9R (by omega)
  have hti:(i:Int)<l.length:=by omega
  have htl:=hts _ (C9d hlt)
  repeat' (first|with_reducible apply C9P|simp only[go_sem,hkd,A9 _ _ hlt,C2 _ _ hlt]|simp(disch:=omega) only[A0,A9]|simp(disch:=first|omega|grind) only[A6]|(intro hx_;try simp only[A4]at hx_)|omega)
  rename_i b5
  have h5:=hx_
  clear hx_
  have hle:(H.set b3 (.map (C9 tt ((A0N l i 0).foldl I0 [])))).Le ((H.set b3 (.map (C9 tt ((A0N l i 0).foldl I0 [])))).set b5 (.box (E3 l[i]))):=(by simp only[Go.Av.Heap.Le,Go.Av.Heap.set,Go.Av.Heap.del]at* <;>grind)
  refine D1 [3,9,10,11,16,17] (fun(j:Nat)=>[(18,.int .i64 j)]) (fun(j:Nat)=>H.set b3 (.map (C9 tt ((A0N l i j).foldl I0 [])))) (fun(j:Nat)=>j≤l[i].t.length) (fun(j:Nat)=>l[i].t.length-j) (0) (C9k _) (by(try simp only[go_sem])<;>(try simp(disch:=omega) [A0])<;>(try omega)) (by first|exact D0q _|exact A2 (by assumption)|exact B4 (by assumption)|simp only[Heap.Le,Heap.set,Heap.del]at* <;>grind) ?_
  rintro Ec rfl j hj
  by_cases hjt:j<l[i].t.length
  ·have hkd2:decide ((j:Int)<l[i].t.length)=true:=C9R (by omega)
   have hjr:(j:Int)<l[i].t.length:=by omega
   have hnd:((A0N l i j).foldl I0 []).Nodup:=S7 _ [] List.nodup_nil
   have ns:=B1O l i j hlt hjt
   repeat' (first|with_reducible apply C9P|simp only[go_sem,hkd2,hjr,A9 _ _ hjt,C2 _ _ hjt,X9 _ _ _ _ hnd,A2s]|simp(disch:=omega) only[A0,A9]|simp(disch:=first|omega|grind) only[A6]|(intro hx_;try simp only[A4]at hx_)|omega)
   rename_i b7
   have h7:=hx_
   clear hx_
   refine C3 (j+1) (by omega) (by omega) (by(try simp only[go_sem])<;>(try simp(disch:=omega) [A0])<;>(try omega)) ?_
   rw[ns,B1P]
   refine Heap.Le.trans (A2 (b:=b7) (o:=.box (Q7 l[i].t[j])) (by simp only[A4];exact h7)) (B2a h7.1)
  ·have hkd2:decide ((j:Int)<l[i].t.length)=false:=C9S (by omega)
   have hje:j=l[i].t.length:=by omega
   subst hje
   rw[B1N l i hlt]
   repeat' (first|with_reducible apply C9P|simp only[go_sem,hkd2]|simp(disch:=omega) only[A0,A9]|simp(disch:=first|omega|grind) only[A6]|(intro hx_;try simp only[A4]at hx_)|omega)
   exact C3 (i+1) (by omega) (by omega) (by(try simp only[go_sem])<;>(try simp(disch:=omega) [A0])<;>(try omega)) (D0q _)
 ·have hkd:decide ((i:Int)<l.length)=false:=C9S (by omega)
  have hie:i=l.length:=by omega
  subst hie
  rw[B3k]
  have hnd:((O4 l).foldl I0 []).Nodup:=S7 _ [] List.nodup_nil
  have hlk:=A7D (O4 l) []
  rw[C9W,Nat.zero_add]at hlk
  have hmk: ∀s,s∈(O4 l).foldl I0 []↔s∈O4 l:=fun s=>by rw[A7C];simp
  generalize (O4 l).foldl I0 []=ks at hnd hlk hmk⊢
  repeat' (first|with_reducible apply C9P|simp only[go_sem,hkd]|simp(disch:=omega) only[A0,A9]|simp(disch:=first|omega|grind) only[A6]|(intro hx_;try simp only[A4]at hx_)|omega)
  refine B8d b3 _ fun bk hbk=>?_
  have f1:((H.set b3 (.map (C9 tt ks))).set bk (.box [.map b3])) bk=some (.box [.map b3]):=A5 _ _
  have f2:((H.set b3 (.map (C9 tt ks))).set bk (.box [.map b3])) b3=some (.map (C9 tt ks)):=(A2 hbk) _ _ (A5 _ _)
  repeat' (first|with_reducible apply C9P|simp only[go_sem]|simp(disch:=omega) only[A0,A9]|simp(disch:=first|omega|grind) only[A6]|(intro hx_;try simp only[A4]at hx_)|omega)
  refine B8e bk b3 tt ks (by omega) (fun s hs=>hst s ((hmk s).1 hs)) _ f1 f2 fun v hv hm=>?_
  have e:v=A1j l:=A5k hv (A9h l) fun s=>by rw[hm,hmk,A63]
  rw[e]
  repeat' (first|with_reducible apply C9P|simp only[go_sem]|simp(disch:=omega) only[A0,A9]|simp(disch:=first|omega|grind) only[A6]|(intro hx_;try simp only[A4]at hx_)|omega)
  exact D0r ((A2 h3).trans (A2 hbk)) h
end Go.Proofs.YtibphjonmikciaaGreatDoor
end
section
namespace Go.Fo
open Go Go.Av Go.Lexs Go.Lin
theorem A0O{f k:Fm}(h:k∈f.ks):SizeOf.sizeOf k<SizeOf.sizeOf f:=by
 cases f with
 |mk o n l s ks=>
  have:SizeOf.sizeOf k<SizeOf.sizeOf ks:=List.sizeOf_lt_of_mem h
  simp only[Fm.mk.sizeOf_spec];omega
def K7:Fm→Nat
 | .mk _ _ l _ ks=>1+l.t.length+wtL ks
where wtL:List Fm→Nat
 | []=>0
 |f::fs=>K7 f+wtL fs
theorem L1(f:Fm):K7 f=1+f.l.t.length+K7.wtL f.ks:=by cases f;rw[K7];rfl
theorem B2b(l m:List Fm):K7.wtL (l++m)=K7.wtL l+K7.wtL m:=by
 induction l with
 |nil=>simp[K7.wtL]
 |cons f l ih=>simp only[D0a,K7.wtL,ih];omega
theorem B8q(l:List Fm):l.length≤K7.wtL l:=by
 induction l with
 |nil=>simp
 |cons f l ih=>rw[K7.wtL,C9U,L1];omega
theorem C2X(l:List Fm)(i:Nat)(h:i<l.length):K7.wtL (l.drop i)=K7 l[i]+K7.wtL (l.drop (i+1)):=by
 rw[C9u h,K7.wtL]
theorem FmFit.inv{f:Fm}(h:FmFit f):W0 f.op∧W0 f.n∧a7 f.l∧f.s.size≤140737488351232∧f.ks.length≤1466015503658∧∀k∈f.ks,FmFit k:=by
 cases h with
 |mk o n l s ks ho hn hl hs hk h=>exact⟨ho,hn,hl,hs,hk,h⟩
theorem FmFit.kid{f:Fm}(h:FmFit f){k:Fm}(hk:k∈f.ks):FmFit k:=h.inv.2.2.2.2.2 k hk
theorem FmFit.lin{f:Fm}(h:FmFit f):a7 f.l:=h.inv.2.2.1
theorem FmFit.txt{f:Fm}(h:FmFit f):f.s.size≤140737488351232:=h.inv.2.2.2.1
theorem FmFit.kl{f:Fm}(h:FmFit f):f.ks.length≤1466015503658:=h.inv.2.2.2.2.1
theorem B3l(f:Fm):N7 f≤K7 f:=by
 induction f using P2 with
 |h o n l s ks ih=>
  rw[N7,K7]
  have key: ∀m:List Fm,(∀k∈m,N7 k≤K7 k)→N7.nodesL m≤K7.wtL m:=by
   intro m
   induction m with
   |nil=>intro _;simp[N7.nodesL]
   |cons f fs ih=>intro h;rw[N7.nodesL,K7.wtL];have:=ih (fun k hk=>h k (C9h _ hk));have:=h f (C9a ..);omega
  have:=key ks ih;omega
def foldF{σ :Type}(step: σ →Fm→Int→ σ):Fm→Int→ σ → σ
 | .mk o n l s ks,d,a=>foldK step ks (IntKind.i64.wrap (d+1)) (step a (.mk o n l s ks) d)
where foldK {σ :Type} (step: σ →Fm→Int→ σ):List Fm→Int→ σ → σ
 | [],_,a=>a
 |f::fs,d,a=>foldK step fs d (foldF step f d a)
theorem A1s{σ :Type}(step: σ →Fm→Int→ σ)(f:Fm)(d:Int)(a: σ):foldF step f d a=foldF.foldK step f.ks (IntKind.i64.wrap (d+1)) (step a f d):=by cases f;rw[foldF];rfl
theorem B3m{σ :Type}(step: σ →Fm→Int→ σ)(l m:List Fm)(d:Int)(a: σ):foldF.foldK step (l++m) d a=foldF.foldK step m d (foldF.foldK step l d a):=by
 induction l generalizing a with
 |nil=>rfl
 |cons f l ih=>simp only[D0a,foldF.foldK,ih]
theorem A3{σ :Type}(step: σ →Fm→Int→ σ)(l:List Fm)(i:Nat)(h:i<l.length)(d:Int)(a: σ):foldF.foldK step (l.take (i+1)) d a=foldF step l[i] d (foldF.foldK step (l.take i) d a):=by
 rw[C9i h,B3m];rfl
theorem B3n{σ :Type}(step: σ →Fm→Int→ σ)(I: σ →Prop)(hI: ∀a g d,I a→I (step a g d)): ∀f d a,I a→I (foldF step f d a):=by
 intro f
 induction f using P2 with
 |h o n l s ks ih=>
  intro d a h
  rw[A1s]
  have h2:=hI _ (.mk o n l s ks) d h
  revert h2
  generalize step a (.mk o n l s ks) d=b
  show I b→I (foldF.foldK step ks _ b)
  generalize IntKind.i64.wrap (d+1)=d1
  clear h
  induction ks generalizing b with
  |nil=>intro h2;exact h2
  |cons f fs ih2=>
   intro h2
   rw[foldF.foldK]
   exact ih2 (fun k hk=>ih k (C9h _ hk)) _ (ih f (C9a ..) _ _ h2)
def A0a(a:Int×Int)(_:Fm)(d:Int):Int×Int:=(IntKind.i64.wrap (a.1+1),max a.2 d)
theorem B5y: ∀(f:Fm) (d:Int) (a:Int×Int),0≤d→d+K7 f≤2000000→0≤a.1→a.1+K7 f≤2000000→foldF A0a f d a=(a.1+N7 f,max a.2 (d+P3 f-1)):=by
 intro f
 induction f using P2 with
 |h o n l s ks ih=>
  intro d a hd0 hd ha0 ha
  have hw:K7 (.mk o n l s ks)=1+l.t.length+K7.wtL ks:=L1 _
  rw[hw]at hd ha
  have w1:IntKind.i64.wrap (d+1)=d+1:=A0 (by omega) (by omega)
  have w2:IntKind.i64.wrap (a.1+1)=a.1+1:=A0 (by omega) (by omega)
  rw[A1s,N7,P3,w1]
  have key: ∀(m:List Fm),(∀k∈m,k∈ks)→K7.wtL m≤K7.wtL ks→∀a:Int×Int,0≤a.1→a.1+K7.wtL m≤2000000→foldF.foldK A0a m (d+1) a=(a.1+N7.nodesL m,if m= []then a.2 else max a.2 (d+P3.deepL m)):=by
   intro m
   induction m with
   |nil=>intro _ _ a _ _;simp[foldF.foldK,N7.nodesL]
   |cons f fs ih2=>
    intro hm hl a h0 h1
    rw[K7.wtL]at hl h1
    have hn:=B3l f
    rw[foldF.foldK,ih f (hm f (C9a ..)) (d+1) a (by omega) (by omega) h0 (by omega),ih2 (fun k hk=>hm k (C9h _ hk)) (by omega) _ (by simp only[];omega) (by simp only[];omega),N7.nodesL,P3.deepL]
    have h1:1≤P3 f:=by cases f;rw[P3];omega
    refine Prod.ext ?_ ?_
    ·show a.1+_+_=a.1+_;push_cast;omega
    ·simp only[reduceCtorEq,if_false]
     cases fs with
     |nil=>simp only[if_true,P3.deepL];push_cast;omega
     |cons g fs=>simp only[reduceCtorEq,if_false];push_cast;omega
  show foldF.foldK A0a ks (d+1) (A0a a _ d)=_
  rw[key ks (fun _ h=>h) (C9j _) _ (by unfold A0a;simp only[w2];omega) (by unfold A0a;simp only[w2];omega)]
  unfold A0a
  simp only[w2]
  refine Prod.ext ?_ ?_
  ·show a.1+1+_=a.1+_;push_cast;omega
  ·cases ks with
   |nil=>simp only[if_true,P3.deepL];push_cast;omega
   |cons g fs=>simp only[reduceCtorEq,if_false];push_cast;omega
def A8J(p:Fm→Bool)(a:Bool)(f:Fm)(_:Int):Bool:=a&&p f
theorem B5z(p:Fm→Bool): ∀(f:Fm) (d:Int) (a:Bool),foldF (A8J p) f d a=(a&&G7 p f):=by
 intro f
 induction f using P2 with
 |h o n l s ks ih=>
  intro d a
  rw[A1s,G7]
  have key: ∀(m:List Fm),(∀k∈m,k∈ks)→∀(e:Int) (a:Bool),foldF.foldK (A8J p) m e a=(a&&G7.allK p m):=by
   intro m
   induction m with
   |nil=>intro _ e a;simp[foldF.foldK,G7.allK]
   |cons f fs ih2=>
    intro hm e a
    rw[foldF.foldK,ih f (hm f (C9a ..)),ih2 (fun k hk=>hm k (C9h _ hk)),G7.allK,Bool.and_assoc]
  show foldF.foldK (A8J p) ks _ (A8J p a _ d)=_
  rw[key ks (fun _ h=>h)]
  unfold A8J
  rw[Bool.and_assoc]
theorem A2L(p:Fm→Bool)(f:Fm):G7 p f=(p f&&f.ks.all (G7 p)):=by
 cases f with
 |mk o n l s ks=>
  rw[G7]
  congr 1
  show G7.allK p ks=ks.all (G7 p)
  induction ks with
  |nil=>rfl
  |cons f fs ih=>rw[G7.allK,ih,D0S]
theorem A94(f:Fm)(d:Nat):(P3 f≤d)↔1≤d∧∀k∈f.ks,P3 k≤d-1:=by
 cases f with
 |mk o n l s ks=>
  rw[P3]
  have key: ∀(m:List Fm) (e:Nat),P3.deepL m≤e↔∀k∈m,P3 k≤e:=by
   intro m e
   induction m with
   |nil=>simp[P3.deepL]
   |cons f fs ih=>rw[P3.deepL,List.forall_mem_cons,←ih];omega
  show _↔1≤d∧∀k∈ks,_
  rw[←key];omega
def D3:Fm→List ByteArray
 | .mk _ _ l _ ks=>l.t.map (·.v)++intsL ks
where intsL:List Fm→List ByteArray
 | []=>[]
 |f::fs=>D3 f++intsL fs
def C6:Fm→List ByteArray
 | .mk o _ _ s ks=>(if o=3 then [s]else [])++boolsL ks
where boolsL:List Fm→List ByteArray
 | []=>[]
 |f::fs=>C6 f++boolsL fs
theorem B50(f:Fm):D3 f=f.l.t.map (·.v)++D3.intsL f.ks:=by cases f;rw[D3];rfl
theorem B3o(f:Fm):C6 f=(if f.op=3 then [f.s]else [])++C6.boolsL f.ks:=by cases f;rw[C6];rfl
theorem B3p(l m:List Fm):D3.intsL (l++m)=D3.intsL l++D3.intsL m:=by
 induction l with
 |nil=>rfl
 |cons f l ih=>simp only[D0a,D3.intsL,ih,D0D]
theorem B1Q(l m:List Fm):C6.boolsL (l++m)=C6.boolsL l++C6.boolsL m:=by
 induction l with
 |nil=>rfl
 |cons f l ih=>simp only[D0a,C6.boolsL,ih,D0D]
theorem A0q(l:List Fm)(i:Nat)(h:i<l.length):D3.intsL (l.take (i+1))=D3.intsL (l.take i)++D3 l[i]:=by
 rw[C9i h,B3p];simp[D3.intsL]
theorem o9(l:List Fm)(i:Nat)(h:i<l.length):C6.boolsL (l.take (i+1))=C6.boolsL (l.take i)++C6 l[i]:=by
 rw[C9i h,B1Q];simp[C6.boolsL]
theorem A95(f:Fm):(D3 f).length+(C6 f).length≤K7 f:=by
 induction f using P2 with
 |h o n l s ks ih=>
  rw[D3,C6,K7]
  have key: ∀m:List Fm,(∀k∈m,(D3 k).length+(C6 k).length≤K7 k)→(D3.intsL m).length+(C6.boolsL m).length≤K7.wtL m:=by
   intro m
   induction m with
   |nil=>intro _;simp[D3.intsL,C6.boolsL]
   |cons f fs ih=>intro h;rw[D3.intsL,C6.boolsL,K7.wtL,C9V,C9V];have:=ih (fun k hk=>h k (C9h _ hk));have:=h f (C9a ..);omega
  have:=key ks ih
  simp only[C9V,C98]
  split<;>simp<;>omega
theorem B3q{f:Fm}(h:FmFit f): ∀s∈D3 f,s.size≤140737488351232:=by
 induction f using P2 with
 |h o n l s ks ih=>
  rw[D3]
  intro x hx
  rcases C9p.1 hx with hx|hx
  ·obtain⟨t,ht,rfl⟩:=D0N.1 hx
   exact h.lin.str t ht
  ·have key: ∀m:List Fm,(∀k∈m,k∈ks)→∀s∈D3.intsL m,s.size≤140737488351232:=by
    intro m
    induction m with
    |nil=>intro _ s hs;cases hs
    |cons f fs ih2=>
     intro hm s hs
     rcases C9p.1 hs with hs|hs
     ·exact ih f (hm f (C9a ..)) (h.kid (hm f (C9a ..))) s hs
     ·exact ih2 (fun k hk=>hm k (C9h _ hk)) s hs
   exact key ks (fun _ h=>h) x hx
theorem B1R{f:Fm}(h:FmFit f): ∀s∈C6 f,s.size≤140737488351232:=by
 induction f using P2 with
 |h o n l s ks ih=>
  rw[C6]
  intro x hx
  rcases C9p.1 hx with hx|hx
  ·split at hx
   ·rw[C9q]at hx;subst hx;exact h.txt
   ·cases hx
  ·have key: ∀m:List Fm,(∀k∈m,k∈ks)→∀s∈C6.boolsL m,s.size≤140737488351232:=by
    intro m
    induction m with
    |nil=>intro _ s hs;cases hs
    |cons f fs ih2=>
     intro hm s hs
     rcases C9p.1 hs with hs|hs
     ·exact ih f (hm f (C9a ..)) (h.kid (hm f (C9a ..))) s hs
     ·exact ih2 (fun k hk=>hm k (C9h _ hk)) s hs
   exact key ks (fun _ h=>h) x hx
theorem A96: ∀(f:Fm) (p:List ByteArray×List ByteArray),A0Y f p=((D3 f).foldl P6 p.1,(C6 f).foldl P6 p.2):=by
 intro f
 induction f using P2 with
 |h o n l s ks ih=>
  rintro⟨a,b⟩
  rw[A0Y,D3,C6]
  have key: ∀m:List Fm,(∀k∈m,k∈ks)→∀p,A0Y.namesK m p=((D3.intsL m).foldl P6 p.1,(C6.boolsL m).foldl P6 p.2):=by
   intro m
   induction m with
   |nil=>intro _ p;rfl
   |cons f fs ih2=>
    intro hm p
    rw[A0Y.namesK,ih2 (fun k hk=>hm k (C9h _ hk)),ih f (hm f (C9a ..)),D3.intsL,C6.boolsL,D0H,D0H]
  rw[key ks (fun _ h=>h),D0H,D0H]
  refine Prod.ext rfl ?_
  show List.foldl P6 (if o=3 then P6 b s else b) _=_
  split<;>rfl
noncomputable def A4q(a:List ByteArray×List ByteArray)(f:Fm)(_:Int):List ByteArray×List ByteArray:=((f.l.t.map (·.v)).foldl I0 a.1,if f.op=3 then I0 a.2 f.s else a.2)
theorem B51: ∀(f:Fm) (d:Int) (p:List ByteArray×List ByteArray),foldF A4q f d p=((D3 f).foldl I0 p.1,(C6 f).foldl I0 p.2):=by
 intro f
 induction f using P2 with
 |h o n l s ks ih=>
  rintro d ⟨a,b⟩
  rw[A1s,D3,C6]
  have key: ∀m:List Fm,(∀k∈m,k∈ks)→∀(e:Int) p,foldF.foldK A4q m e p=((D3.intsL m).foldl I0 p.1,(C6.boolsL m).foldl I0 p.2):=by
   intro m
   induction m with
   |nil=>intro _ e p;rfl
   |cons f fs ih2=>
    intro hm e p
    rw[foldF.foldK,ih2 (fun k hk=>hm k (C9h _ hk)),ih f (hm f (C9a ..)),D3.intsL,C6.boolsL,D0H,D0H]
  show foldF.foldK A4q ks _ _=_
  rw[key ks (fun _ h=>h),D0H,D0H]
  refine Prod.ext rfl ?_
  show List.foldl I0 (if o=3 then I0 b s else b) _=_
  split<;>rfl
def upS(l:List ByteArray):List ByteArray:=l.foldl P6 []
theorem A8K(l:List ByteArray):(upS l).Pairwise fun x y=>j8 x y=true:=A9g _ _ .nil
theorem S2(l:List ByteArray)(x:ByteArray):x∈upS l↔x∈l:=by unfold upS;rw[A62];simp
noncomputable def I8(l:List ByteArray):List ByteArray:=l.foldl I0 []
theorem A1K(l:List ByteArray):(I8 l).Nodup:=S7 _ _ List.nodup_nil
theorem F7(l:List ByteArray)(x:ByteArray):x∈I8 l↔x∈l:=by unfold I8;rw[Go.Lin.A7C];simp
theorem B52{l:List ByteArray}(h:l.Pairwise fun x y=>j8 x y=true):l.Nodup:=h.imp fun {a b} g e=>by subst e;rw[j9]at g;cases g
theorem A3U(l:List ByteArray):(I8 l).length=(upS l).length:=((List.perm_ext_iff_of_nodup (A1K l) (B52 (A8K l))).2 fun x=>by rw[F7,S2]).length_eq
theorem A43(l:List ByteArray):(I8 l).length≤l.length:=by have:=A7D l [];simpa [I8]using this
theorem A3V(l m:List ByteArray):meetL l m=true↔∃x,x∈l∧x∈m:=by
 unfold meetL
 simp only[List.any_eq_true,C9l]
 constructor
 ·rintro⟨x,hx,y,hy,rfl⟩;exact⟨x,hx,hy⟩
 ·rintro⟨x,hx,hy⟩;exact⟨x,hx,x,hy,rfl⟩
theorem A1L{l m l' m':List ByteArray}(h1: ∀x,x∈l↔x∈l')(h2: ∀x,x∈m↔x∈m'):meetL l m=meetL l' m':=by
 rw[Bool.eq_iff_iff,A3V,A3V]
 exact exists_congr fun x=>by rw[h1,h2]
def ivF(f:Fm):List ByteArray:=upS (D3 f)
def bvF(f:Fm):List ByteArray:=upS (C6 f)
theorem B1S(f:Fm):A0Y f ([],[])=(ivF f,bvF f):=A96 f _
theorem A2M(f:Fm):E4 f=(G7 D5 f&&decide (P3 f≤60)&&decide (N7 f≤200)&& !meetL (ivF f) (bvF f)&&decide ((ivF f).length+(bvF f).length≤12)):=by
 unfold E4;rw[B1S]
end Go.Fo
end
section
namespace Go.Av
inductive View(H:Heap):D→D→Prop
 |same (d:D):View H d d
 |vec (b sz n:Nat) (es es':List (List D)) (hb:H b=some (.vec sz es)) (hn:n=es.length) (hl:es.length=es'.length) (h1: ∀(i:Nat) (e e':List D),es[i]? =some e→es'[i]? =some e'→e.length=e'.length)
   (h: ∀(i:Nat) (e e':List D) (j:Nat) (d d':D),es[i]? =some e→es'[i]? =some e'→e[j]? =some d→e'[j]? =some d'→View H d d'):View H (.vec b sz 0 n) (.sl sz es')
 |nil (sz:Nat):View H .nilsl (.sl sz [])
 |box (b:Nat) (cs cs':List D) (Z:Option TypeId) (hb:H b=some (.box cs Z)) (hl:cs.length=cs'.length) (h: ∀(i:Nat) (d d':D),cs[i]? =some d→cs'[i]? =some d'→View H d d'):View H (.box b 0) (.ro cs')
 |agg (cs cs':List D) (hl:cs.length=cs'.length) (h: ∀(i:Nat) (d d':D),cs[i]? =some d→cs'[i]? =some d'→View H d d'):View H (.agg cs) (.agg cs')
 |map (b:Nat) (kvs:List (D×D)) (hb:H b=some (.map kvs)):View H (.map b) (.fm kvs)
theorem B2c{H H':Heap}{w:World}(hs:Sat H w){b:Nat}{kvs:List (D×D)}(hb:H b=some (.map kvs))(hl:H'.Le H)(hn:H'.held b=false){v:Value}(hr:R w H (.map b) v):R w H' (.fm kvs) v:=by
 obtain⟨es,ck,k1,k2,k3,k4⟩:=hs b _ hb
 cases hr
 exact .fm kvs b es ck k1 hn k2 k3 (fun i p hp=>(k4 i p hp).1) (fun i p hp=>(k4 i p hp).2.1.less hl) (fun i p hp=>(k4 i p hp).2.2.less hl)
theorem View.one{H:Heap}{d d':D}(h:View H d d')(ho:d.one=true):d'.one=true:=by
 cases h with
 |same=>exact ho
 |vec=>rfl
 |nil=>rfl
 |box=>rfl
 |map=>rfl
 |agg=>cases ho
theorem View.R{H:Heap}{w:World}(hs:Sat H w){d d':D}(h:View H d d'): ∀{v:Value},R w H d v→R w (roH H) d' v:=by
 induction h with
 |same d=>exact fun hr=>hr.less (A7x H)
 |vec b sz n es es' hb hn hl h1 h ih=>
  intro v hr
  have hlt:=hs.lt hb
  --the block itself
  obtain⟨c,T,x,y,k1,_,k3,k4,k5,k6⟩:=hs b _ hb
  cases hr with
  |vec0 b sz lo off=>
   have:es'= []:=C9n (by omega)
   subst this
   exact .sl0 _ _ _
  |vec _ _ _ _ cap T2 m hb' hs' hsz hn'=>
   rw[hn,hl]
   refine .sl sz es' b _ cap (fun i j=>c.getD (i*sz+j) Go.undef) hlt (A3C H b) (fun i e' he'=>?_) (by omega) (fun i j hi hj=>?_) (fun i e' j d' he' hd'=>?_) (fun i e' j d' he' hd'=>?_)
   ·obtain⟨e,he⟩:=F6 hl he'
    rw[←h1 i e e' he he'];exact k5 i e he
   ·have h5:(i+1)*sz≤es.length*sz:=C95 _ (by omega)
    rw[Nat.add_mul,Nat.one_mul]at h5
    rw[Nat.zero_mul,Nat.zero_add,U2 k1]
    have hsz:i*sz+j<c.size:=by omega
    simp[hsz]
   ·obtain⟨e,he⟩:=F6 hl he'
    obtain⟨d,hd⟩:=F6 (h1 i e e' he he') hd'
    exact(h i e e' j d d' he he' hd hd').one (k6 i e j d he hd).1
   ·obtain⟨e,he⟩:=F6 hl he'
    obtain⟨d,hd⟩:=F6 (h1 i e e' he he') hd'
    exact ih i e e' j d d' he he' hd hd' (k6 i e j d he hd).2
 |nil sz=>intro v hr;cases hr;exact .sl0 _ _ _
 |map b kvs hb=>exact fun hr=>B2c hs hb (A7x H) (A3C H b) hr
 |box b cs cs' Z hb hl h ih=>
  intro v hr
  have hlt:=hs.lt hb
  obtain⟨c,T,lo,hi,k1,_,k3,k4,_⟩:=hs b _ hb
  cases hr
  refine .ro cs' b 0 (fun j=>c.getD j Go.undef) hlt (A3C H b) (fun j hj=>?_) (fun j d' hd'=>?_) (fun j d' hd'=>?_)
  ·rw[Nat.zero_add,U2 k1]
   have:j<c.size:=by omega
   simp[this]
  ·obtain⟨d,hd⟩:=F6 hl hd'
   exact(h j d d' hd hd').one (k4 j d hd).1
  ·obtain⟨d,hd⟩:=F6 hl hd'
   exact ih j d d' hd hd' (k4 j d hd).2
 |agg cs cs' hl h ih=>
  intro v hr
  cases hr with
  |agg _ vs hlv ho hr=>
   refine .agg cs' vs (by omega) (fun i d' hd'=>?_) (fun i d' hd'=>?_)
   ·obtain⟨d,hd⟩:=F6 hl hd'
    exact(h i d d' hd hd').one (ho i d hd)
   ·obtain⟨d,hd⟩:=F6 hl hd'
    exact ih i d d' hd hd' (hr i d hd)
end Go.Av
end
section
namespace Go.Av
def B2d:D→Bool
 | .tuple ds=>ds.all A88
 |d=>A88 d
theorem C2Y{w:World}{H H':Heap}{d:D}{v:Value}(hf:A88 d=true)(hr:R w H d v):R w H' d v:=by
 cases hr<;>first|(cases hf;done)|constructor
theorem B8r{w:World}{H H':Heap}{d:D}{v:Value}(hf:B2d d=true)(hr:R w H d v):R w H' d v:=by
 cases hr with
 |tuple ds vs hl hr=>exact .tuple ds vs hl fun i d hd=>C2Y (C90.1 hf d (C9w hd)) (hr i d hd)
 |_=>first|(cases hf;done)|constructor
theorem B3r{H Hc:Heap}{w w':World}{K:D→Heap→Prop}{v:Value}(hs:Sat H w)(hle:Hc.Le H)(h:Post Hc w (fun d _=>B2d d=true∧K d (H.sub Hc)) v w'):Post H w K v w':=by
 obtain⟨d,H1,hr,hs1,he,hf,hfl,hk⟩:=h
 have heH:Ext H w w':=⟨he.os,he.tape,he.output,he.size,fun k hk hn=>he.block k hk (hle.held hn),he.shape⟩
 have hfH:From w H (H.sub Hc):=fun k hk hn=>(A7q H Hc).held hn
 refine⟨d,H.sub Hc,B8r hfl hr,fun b o hb=>?_,heH,hfH,hk⟩
 have hc:Hc.held b=false:=by
  unfold Heap.sub at hb
  split at hb
  ·cases hb
  ·rename_i h;simpa using h
 have hb':=A7q H Hc b o hb
 exact(hs b o hb').mono heH hfH (he.block b (hs.lt hb') hc)
theorem A3g{P:Program}{f:Nat}{args args':List D}{H:Heap}{Q:D→Heap→Prop}(hl:args.length=args'.length)(hv: ∀(i:Nat) d d',args[i]? =some d→args'[i]? =some d'→View H d d')
  (h:ACalls P f args' (roH H) (fun d _=>B2d d=true∧Q d H)):ACalls P f args H Q:=by
 refine⟨h.1,fun w vs h1 h2 h3=>?_⟩
 refine(h.2 w vs (by omega) (fun i d' hd'=>?_) (h3.less (A7x H))).mono fun e w' ⟨v,he,hp⟩=>⟨v,he,B3r h3 (A7x H) (by rw[C1m];exact hp)⟩
 obtain⟨d,hd⟩:=F6 hl hd'
 exact(hv i d d' hd hd').R h3 (h2 i d hd)
theorem B4Y{H:Heap}{n sz:Nat}{es:List (List D)}{ob:Option Nat}{ds:List D}(hn:n=es.length)(ho:OutAt H sz es ob):View H (.agg (J4 sz n ob::ds)) (.agg (.sl sz es::ds)):=by
 refine .agg _ _ rfl fun i d d' h1 h2=>?_
 match i with
 |0=>
  cases h1;cases h2
  cases ob with
  |none=>rw[show es= []from ho];exact .nil sz
  |some b=>exact .vec b sz n es es ho hn rfl (fun i e e' h1 h2=>by rw[h1]at h2;cases h2;rfl) (fun i e e' j d d' h1 h2 h3 h4=>by rw[h1]at h2;cases h2;rw[h3]at h4;cases h4;exact .same _)
 |i+1=>simp only[C9v]at h1 h2;rw[h1]at h2;cases h2;exact .same _
theorem A8n{P:Program}{f n sz:Nat}{es:List (List D)}{ob:Option Nat}{ds rs:List D}{H:Heap}{Q:D→Heap→Prop}(hn:n=es.length)(ho:OutAt H sz es ob)(h:ACalls P f (.agg (.sl sz es::ds)::rs) (roH H) (fun d _=>B2d d=true∧Q d H)):
  ACalls P f (.agg (J4 sz n ob::ds)::rs) H Q:=by
 refine A3g (args':=.agg (.sl sz es::ds)::rs) rfl (fun i d d' h1 h2=>?_) h
 match i with
 |0=>cases h1;cases h2;exact B4Y hn ho
 |i+1=>simp only[C9v]at h1 h2;rw[h1]at h2;cases h2;exact .same _
end Go.Av
end
section
namespace Go.Fo
open Go Go.Av Go.Lexs Go.Lin
@[go_sem] theorem a8(o n:Int)(l:LinV)(s:ByteArray)(ks:List Fm):C1 (.mk o n l s ks)= [.int .i64 o,.int .i64 n,.sl 2 (Rw Q7 l.t),.int .i64 l.k,.bool l.e,.str s,.sl 7 (Rw C1 ks)]:=N2 _
@[go_sem] theorem B8s(f:Fm):(C1 f).length=7:=by rw[N2];rfl
@[go_sem] theorem C50(f:Fm):(C1 f).take 7=C1 f:=by rw[N2];rfl
theorem B8t(f:Fm):(C1 f).all D.one=true:=by rw[N2];rfl
attribute [go_sem] B8t
@[go_sem] theorem C8x(f:Fm):(C1 f).head?=some (.int .i64 f.op):=by rw[N2];rfl
@[go_sem] theorem C8y(f:Fm):((C1 f).drop 1).head?=some (.int .i64 f.n):=by rw[N2];rfl
@[go_sem] theorem C8z(f:Fm):((C1 f).drop 2).head?=some (.sl 2 (Rw Q7 f.l.t)):=by rw[N2];rfl
@[go_sem] theorem C80(f:Fm):((C1 f).drop 3).head?=some (.int .i64 f.l.k):=by rw[N2];rfl
@[go_sem] theorem C81(f:Fm):((C1 f).drop 4).head?=some (.bool f.l.e):=by rw[N2];rfl
@[go_sem] theorem C82(f:Fm):((C1 f).drop 5).head?=some (.str f.s):=by rw[N2];rfl
@[go_sem] theorem C83(f:Fm):((C1 f).drop 6).head?=some (.sl 7 (Rw C1 f.ks)):=by rw[N2];rfl
@[go_sem] theorem C84(f:Fm):((C1 f).drop 2).take 3=E3 f.l:=by rw[N2];rfl
@[go_sem] theorem B8u(a b c d e f g:D)(t:Fm):O7 [a,b,c,d,e,f,g] 0 (C1 t)=C1 t:=by rw[N2];rfl
theorem B1T{x0 x1 x2 y2 x3 x4 x5 x6 y6:D}(h2:NilR x2 y2)(h6:NilR x6 y6):NilR (.agg [x0,x1,x2,x3,x4,x5,x6]) (.agg [x0,x1,y2,x3,x4,x5,y6]):=by
 refine .agg _ _ rfl fun i d d' h1 h2'=>?_
 match i with
 |0=>cases h1;cases h2';exact .same _
 |1=>cases h1;cases h2';exact .same _
 |2=>cases h1;cases h2';exact h2
 |3=>cases h1;cases h2';exact .same _
 |4=>cases h1;cases h2';exact .same _
 |5=>cases h1;cases h2';exact .same _
 |6=>cases h1;cases h2';exact h6
 |i+7=>cases h1
theorem C2Z{x y z:D}(h:NilR x y):NilR (.tuple [x,z]) (.tuple [y,z]):=by
 refine .tuple _ _ rfl fun i d d' h1 h2=>?_
 match i with
 |0=>cases h1;cases h2;exact h
 |1=>cases h1;cases h2;exact .same _
 |i+2=>cases h1
theorem A38(o n k:Int)(e:Bool)(s:ByteArray):NilR (.agg [.int .i64 o,.int .i64 n,.nilsl,.int .i64 k,.bool e,.str s,.nilsl]) (.agg (C1 (.mk o n ⟨[],k,e⟩ s []))):=by
 rw[a8];exact B1T (.nil 2) (.nil 7)
theorem B1U(o n k:Int)(e:Bool)(s:ByteArray)(ks:List Fm):NilR (.agg [.int .i64 o,.int .i64 n,.nilsl,.int .i64 k,.bool e,.str s,.sl 7 (Rw C1 ks)]) (.agg (C1 (.mk o n ⟨[],k,e⟩ s ks))):=by
 rw[a8];exact B1T (.nil 2) (.same _)
theorem C2a(o n:Int)(l:LinV)(s:ByteArray):NilR (.agg [.int .i64 o,.int .i64 n,.sl 2 (Rw Q7 l.t),.int .i64 l.k,.bool l.e,.str s,.nilsl]) (.agg (C1 (.mk o n l s []))):=by
 rw[a8];exact B1T (.same _) (.nil 7)
theorem fz7{b sz:Nat}{es:List (List D)}{x0 x1 x2 y2 x3 x4 x5 x6 y6:D}(h2:Fz b sz es x2 y2)(h6:Fz b sz es x6 y6): ∀(i:Nat) d d',[x0,x1,x2,x3,x4,x5,x6][i]? =some d→[x0,x1,y2,x3,x4,x5,y6][i]? =some d'→Fz b sz es d d':=by
 intro i d d' h1 h2'
 match i with
 |0=>cases h1;cases h2';exact .same _
 |1=>cases h1;cases h2';exact .same _
 |2=>cases h1;cases h2';exact h2
 |3=>cases h1;cases h2';exact .same _
 |4=>cases h1;cases h2';exact .same _
 |5=>cases h1;cases h2';exact .same _
 |6=>cases h1;cases h2';exact h6
 |i+7=>cases h1
theorem A8M{Q:D→Heap→Prop}{H:Heap}{n:Nat}{ob:Option Nat}{o m k:Int}{e:Bool}{s:ByteArray}{ks:List Fm}(hn:n=ks.length)(ho:OutAt H 7 (Rw C1 ks) ob)(h:Fin Q (.agg (C1 (.mk o m ⟨[],k,e⟩ s ks))) (K5 H ob)):
  Fin Q (.agg [.int .i64 o,.int .i64 m,.nilsl,.int .i64 k,.bool e,.str s,J4 7 n ob]) H:=by
 rw[a8]at h
 cases ob with
 |none=>
  have hz:Rw C1 ks= []:=ho
  refine D9 ?_ h
  rw[hz]
  exact B1T (.nil 2) (.nil 7)
 |some b=>
  have hb:H b=some (.vec 7 (Rw C1 ks)):=ho
  subst hn
  refine T3 (cs':=[.int .i64 o,.int .i64 m,.sl 2 [],.int .i64 k,.bool e,.str s,.sl 7 (Rw C1 ks)]) hb rfl (fz7 (.nil 2) ?_) h
  show Fz b 7 (Rw C1 ks) (.vec b 7 0 ks.length) _
  have:=Fz.all (b:=b) (sz:=7) (es:=Rw C1 ks)
  rwa [D6]at this
theorem B8v{H:Heap}{n:Nat}{ob:Option Nat}{o m k:Int}{e:Bool}{s:ByteArray}{ks:List Fm}(hn:n=ks.length)(ho:OutAt H 7 (Rw C1 ks) ob):
  View H (.agg [.int .i64 o,.int .i64 m,.nilsl,.int .i64 k,.bool e,.str s,J4 7 n ob]) (.agg (C1 (.mk o m ⟨[],k,e⟩ s ks))):=by
 rw[a8]
 refine .agg _ _ rfl fun i d d' h1 h2=>?_
 match i with
 |0=>cases h1;cases h2;exact .same _
 |1=>cases h1;cases h2;exact .same _
 |2=>cases h1;cases h2;exact .nil 2
 |3=>cases h1;cases h2;exact .same _
 |4=>cases h1;cases h2;exact .same _
 |5=>cases h1;cases h2;exact .same _
 |6=>
  cases h1;cases h2
  cases ob with
  |none=>rw[show Rw C1 ks= []from ho];exact .nil 7
  |some b=>exact .vec b 7 n _ _ ho (by rw[D6];exact hn) rfl (fun i e e' h1 h2=>by rw[h1]at h2;cases h2;rfl) (fun i e e' j d d' h1 h2 h3 h4=>by rw[h1]at h2;cases h2;rw[h3]at h4;cases h4;exact .same _)
 |i+7=>cases h1
end Go.Fo
end
section
namespace Go.Proofs.YtibphjonmikciaaGreatDoor
section
open Go Go.Shelf Go.RowKit
set_option maxHeartbeats 4000000 in
set_option maxRecDepth 100000 in
theorem B8w(n:Nat)(hn:0<n)(hb:n*96≤140737488355328)(w:World):
  Calls Tryz.prog 190 #[.slice none 0 0,.int .i64 n] w fun e w'=>∃(cs:Array Value) (G:Nat),e= .returned (.slice (some ⟨w.heap.size,0,none⟩) 0 G)∧w'=w.drew.alloc (.cells cs 28)∧cs.size=G*7∧n≤G:=by
 obtain⟨i,hi,hz,hs,hby⟩: ∃i,Tryz.prog.info? 28=some i∧i.zero=some (Value.agg #[.int .i64 0,.int .i64 0,.slice none 0 0,.int .i64 0,.bool false,.string ⟨#[]⟩,.slice none 0 0])∧i.size=7∧i.bytes=96:=by
  have h:(Tryz.prog.info? 28).map (fun i=>(i.zero,i.size,i.bytes))=some (some (Value.agg #[.int .i64 0,.int .i64 0,.slice none 0 0,.int .i64 0,.bool false,.string ⟨#[]⟩,.slice none 0 0]),7,96):=by kernel_rfl
  obtain⟨i,hi,e⟩:=C9Y.1 h
  simp only[Prod.mk.injEq]at e
  exact⟨i,hi,e.1,e.2.1,e.2.2⟩
 have mixed:Tryz.prog.follows .mixedOrders=true:=by kernel_rfl
 have t1:=Tryz.underlying26;have a1:=Tryz.isAgg26;have z1:=Tryz.sizeOf26;have v1:=Tryz.zeroValue26;have u1:=run_underlying t1
 have t3:=Tryz.underlying3;have a3:=Tryz.isAgg3;have z3:=Tryz.sizeOf3;have v3:=Tryz.zeroValue3;have u3:=run_underlying t3
 have t4:=Tryz.underlying4;have a4:=Tryz.isAgg4;have z4:=Tryz.sizeOf4;have v4:=Tryz.zeroValue4;have u4:=run_underlying t4
 have t6:=Tryz.underlying28;have a6:=Tryz.isAgg28;have z6:=Tryz.sizeOf28;have v6:=Tryz.zeroValue28;have u6:=run_underlying t6
 have h1: ¬((n:Int)<0):=by omega
 have h3:RowKit.wrap64 ((n:Int)-0)=(n:Int):=by unfold RowKit.wrap64;omega
 have h4:(n:Int) > 0:=by omega
 have hrun:=Lib.run_append_nil_zeros w 26 3 26 28 i _ .i64 .i64 t1 t3 hi hz n hn (by omega) (by omega) (by rw[hby];omega)
 obtain⟨G,hG⟩: ∃G,G=grownCap w n 0 28:=⟨_,rfl⟩
 have hGn:n≤grownCap w n 0 28:=grownCap_ge w _ _ _
 have hG63:G≤9223372036854775807:=by
  have:=grownCap_le_maxLen w n 0 28 (by unfold maxLen;omega)
  rw[←hG]at this
  unfold maxLen at this
  omega
 rw[←hG]at hrun hGn
 obtain⟨cs,hcs⟩: ∃cs,cs=Builtin.zeroCells (Value.agg #[.int .i64 0,.int .i64 0,.slice none 0 0,.int .i64 0,.bool false,.string ⟨#[]⟩,.slice none 0 0]).cells n++Builtin.zeroCells (Value.agg #[.int .i64 0,.int .i64 0,.slice none 0 0,.int .i64 0,.bool false,.string ⟨#[]⟩,.slice none 0 0]).cells (G-n):=⟨_,rfl⟩
 have hsz:cs.size=G*7:=by
  rw[hcs,Array.size_append,size_zeroCells,size_zeroCells]
  show n*7+(G-n)*7=G*7
  omega
 rw[←hcs]at hrun
 clear hG hcs
 go_enter Tryz.func190,Tryz.ntmps190
 go_wp2_with (at_builtin;refine Lib.wpList_append_run _ rfl _ _ _ _ rfl _ _ rfl rfl _ _ hrun ?_)
 all_goals (go_ret;exact⟨cs,G,rfl,rfl,by first|exact hsz|simpa using hsz,hGn⟩)
end
section
open Go Go.Av Go.Lin Go.Fo
theorem B53{Q}(H:Heap)(h0:Q .nilsl H):ACalls Tryz.prog 190 [.nilsl,.int .i64 0] H Q:=by
 refine B2 [] B3 Tryz.func190 rfl (by kernel_rfl) (C9Q (by kernel_rfl)) (by kernel_rfl) ?_
 simp only[go_sem,Tryz.results190]
 repeat' (first|with_reducible apply C9P|simp only[go_sem]|simp(disch:=omega) only[A0,A3]|intro hx_|omega)
 all_goals exact D0u h0
theorem B2e{Q}(n:Nat)(hb:n*96≤140737488355328)(H:Heap)(h0:n=0→Q .nilsl H)(h:n≠0→∀b,H b=none→Q (.vec b 7 0 0) (H.set b (.vec 7 []))):ACalls Tryz.prog 190 [.nilsl,.int .i64 n] H Q:=by
 by_cases hn:n=0
 ·subst hn
  exact B53 H (h0 rfl)
 ·refine⟨by kernel_rfl,fun w vs hl hr hs=>?_⟩
  obtain⟨a,b,rfl,ha,hb'⟩:=y0 hl hr
  have ea:a= .slice none 0 0:=by cases ha;rfl
  rw[ea,hb'.int_inv]
  refine(B8w n (by omega) hb w).mono ?_
  rintro e w' ⟨cs,G,rfl,rfl,hsz,hGn⟩
  have hs1:=hs.same (w':=w.drew) rfl (Ext.drewN H w 1)
  obtain⟨d,H',k1,k2,k3,k4,k5⟩:=s9 (w:=w.drew) (K:=Q) hs1 (sz:=7) (es:=[]) (vs:=cs) 28 0 G (by omega) ⟨by simp,fun i e he=>by simp at he,fun i e j d he=>by simp at he,fun i e j d he=>by simp at he⟩ (C9k _) hsz (fun b hb=>h hn b hb)
  exact⟨_,rfl,d,H',k1,k2,(Ext.drewN H w 1).trans (D0w _ _) k3,k4,k5⟩
theorem A7E{Q}(l m:List Fm)(hb:(l.length+m.length)*96≤140737488355328)(H:Heap)(h:Q (.sl 7 (Rw C1 (l++m))) H):ACalls Tryz.prog 153 [.sl 1 [[.sl 7 (Rw C1 l)],[.sl 7 (Rw C1 m)]]] H Q:=by
 refine B2 [] B3 Tryz.func153 rfl (by kernel_rfl) (C9Q (by kernel_rfl)) (by kernel_rfl) ?_
 simp only[go_sem,Tryz.results153]
 refine D1 [0,9,10] (fun(p:Nat×Int)=>[(11,.int .i64 p.1),(3,.int .i64 p.2)]) (fun(p:Nat×Int)=>H) (fun(p:Nat×Int)=>p.1≤2∧(p.1=0→p.2=0)∧(p.1=1→p.2=l.length)∧(p.1=2→p.2=(l.length:Int)+m.length)) (fun(p:Nat×Int)=>2-p.1) ((0,0)) (⟨by simp,by simp,by simp,by simp⟩) (by(try simp only[go_sem])<;>(try simp(disch:=omega) [A0])<;>(try omega)) (by first|exact D0q _|exact A2 (by assumption)|exact B4 (by assumption)|simp only[Heap.Le,Heap.set,Heap.del]at* <;>grind) ?_
 rintro Ec rfl ⟨k,z⟩ ⟨q1,q2,q3,q4⟩
 simp only at q1 q2 q3 q4
 match k,q1,q2,q3,q4 with
 |0,q1,q2,q3,q4=>
  have hz:=q2 rfl
  subst hz
  repeat' (first|with_reducible apply C9P|simp only[go_sem,C9y]|simp(disch:=omega) only[A0,A3]|intro hx_|omega)
  exact C3 (1,(l.length:Int)) ⟨by simp,by simp,by simp,by simp⟩ (by simp) (by(try simp only[go_sem])<;>(try simp(disch:=omega) [A0])<;>(try omega)) (D0q _)
 |1,q1,q2,q3,q4=>
  have hz:=q3 rfl
  subst hz
  repeat' (first|with_reducible apply C9P|simp only[go_sem,C9y,C9z]|simp(disch:=omega) only[A0,A3]|intro hx_|omega)
  exact C3 (2,(l.length:Int)+m.length) ⟨by simp,by simp,by simp,by simp⟩ (by simp) (by(try simp only[go_sem])<;>(try simp(disch:=omega) [A0])<;>(try omega)) (D0q _)
 |2,q1,q2,q3,q4=>
  have hz:=q4 rfl
  subst hz
  have en:(l.length:Int)+m.length=((l.length+m.length:Nat):Int):=by omega
  by_cases hne:l.length+m.length=0
  ·have el:l= []:=C9n (by omega)
   have em:m= []:=C9n (by omega)
   subst el;subst em
   repeat' (first|with_reducible apply C9P|simp only[go_sem,en]|simp(disch:=omega) only[A0,A3]|intro hx_|omega)
   refine B2e 0 (by omega) H (fun _=>?_) (fun e=>absurd rfl e)
   repeat' (first|with_reducible apply C9P|simp only[go_sem]|simp(disch:=omega) only[A0,A3]|intro hx_|omega)
   refine D1 [25,26] (fun(k:Nat)=>[(27,.int .i64 k),(6,.nilsl)]) (fun(k:Nat)=>H) (fun(k:Nat)=>k≤2) (fun(k:Nat)=>2-k) (0) (by omega) (by(try simp only[go_sem])<;>(try simp(disch:=omega) [A0])<;>(try omega)) (by first|exact D0q _|exact A2 (by assumption)|exact B4 (by assumption)|simp only[Heap.Le,Heap.set,Heap.del]at* <;>grind) ?_
   rintro Ec rfl k hk
   match k,hk with
   |0,_=>
    repeat' (first|with_reducible apply C9P|simp only[go_sem,C9y,A0X]|simp(disch:=omega) only[A0,A3]|intro hx_|omega)
    exact C3 1 (by omega) (by omega) (by(try simp only[go_sem])<;>(try simp(disch:=omega) [A0])<;>(try omega)) (D0q _)
   |1,_=>
    repeat' (first|with_reducible apply C9P|simp only[go_sem,C9y,C9z,A0X]|simp(disch:=omega) only[A0,A3]|intro hx_|omega)
    exact C3 2 (by omega) (by omega) (by(try simp only[go_sem])<;>(try simp(disch:=omega) [A0])<;>(try omega)) (D0q _)
   |2,_=>
    repeat' (first|with_reducible apply C9P|simp only[go_sem]|simp(disch:=omega) only[A0,A3]|intro hx_|omega)
    exact Fin.out (n:=0) (ob:=none) rfl rfl (D0r (D0q _) h)
   |k+3,hk=>omega
  repeat' (first|with_reducible apply C9P|simp only[go_sem,en]|simp(disch:=omega) only[A0,A3]|intro hx_|omega)
  refine B2e _ hb H (fun e=>absurd e hne) fun _ b hbn=>?_
  repeat' (first|with_reducible apply C9P|simp only[go_sem]|simp(disch:=omega) only[A0,A3]|intro hx_|omega)
  refine D1 [25,26] (fun(p:Nat×Nat×List Fm)=>[(27,.int .i64 p.1),(6,.vec p.2.1 7 0 p.2.2.length)]) (fun(p:Nat×Nat×List Fm)=>H.set p.2.1 (.vec 7 (Rw C1 p.2.2))) (fun(p:Nat×Nat×List Fm)=>p.1≤2∧H p.2.1=none∧(p.1=0→p.2.2= [])∧(p.1=1→p.2.2=l)∧(p.1=2→p.2.2=l++m)) (fun(p:Nat×Nat×List Fm)=>2-p.1) ((0,b,[])) (⟨by simp,hbn,by simp,by simp,by simp⟩) (by(try simp only[go_sem])<;>(try simp(disch:=omega) [A0])<;>(try omega)) (by first|exact D0q _|exact A2 (by assumption)|exact B4 (by assumption)|simp only[Heap.Le,Heap.set,Heap.del]at* <;>grind) ?_
  rintro Ec rfl ⟨k,c,X⟩ ⟨q1,hc,q2,q3,q4⟩
  simp only at q1 hc q2 q3 q4
  match k,q1,q2,q3,q4 with
  |0,q1,q2,q3,q4=>
   have hz:=q2 rfl
   subst hz
   repeat' (first|with_reducible apply C9P|simp only[go_sem,C9y,E7 hc]|simp(disch:=omega) only[A0,A3]|intro hx_|omega)
   rename_i b6
   exact C3 (1,b6,l) ⟨by simp,hx_,by simp,by simp,by simp⟩ (by simp) (by(try simp only[go_sem])<;>(try simp(disch:=omega) [A0])<;>(try omega)) (D0q _)
  |1,q1,q2,q3,q4=>
   have hz:=(q3 rfl).symm
   subst hz
   repeat' (first|with_reducible apply C9P|simp only[go_sem,C9y,C9z,E7 hc]|simp(disch:=omega) only[A0,A3]|intro hx_|omega)
   rename_i b6
   exact C3 (2,b6,l++m) ⟨by simp,hx_,by simp,by simp,by simp⟩ (by simp) (by(try simp only[go_sem,C9V])<;>(try simp(disch:=omega) [A0])<;>(try omega)) (by simp only[];rw[←O2,C9e (by rw[D6];exact C9j _)];exact D0q _)
  |2,q1,q2,q3,q4=>
   have hz:=q4 rfl
   subst hz
   repeat' (first|with_reducible apply C9P|simp only[go_sem]|simp(disch:=omega) only[A0,A3]|intro hx_|omega)
   exact Fin.out (ob:=some c) (by rw[D6,C9V]) (A5 _ _) (D0r (by show H.Le ((H.set c _).del c);rw[E7 hc];exact D0q _) h)
end
end Go.Proofs.YtibphjonmikciaaGreatDoor
end
section
namespace Go.Fo
open Go Go.Av Go.Lin
@[go_sem] theorem C85(o n:Int)(l:LinV)(s:ByteArray)(ks:List Fm):(Fm.mk o n l s ks).op=o:=rfl
@[go_sem] theorem C9G(o n:Int)(l:LinV)(s:ByteArray)(ks:List Fm):(Fm.mk o n l s ks).l=l:=rfl
@[go_sem] theorem C9H(o n:Int)(l:LinV)(s:ByteArray)(ks:List Fm):(Fm.mk o n l s ks).s=s:=rfl
end Go.Fo
end
section
namespace Go.Proofs.YtibphjonmikciaaGreatDoor
section
open Go Go.Shelf Go.RowKit
set_option maxHeartbeats 4000000 in
set_option maxRecDepth 100000 in
theorem B8x(n:Nat)(hn:0<n)(hb:n*64≤140737488355328)(w:World):
  Calls Tryz.prog 282 #[.slice none 0 0,.int .i64 n] w fun e w'=>∃(cs:Array Value) (G:Nat),e= .returned (.slice (some ⟨w.heap.size,0,none⟩) 0 G)∧w'=w.drew.alloc (.cells cs 246)∧cs.size=G*4∧n≤G:=by
 obtain⟨i,hi,hz,hs,hby⟩: ∃i,Tryz.prog.info? 246=some i∧i.zero=some (Value.agg #[.slice none 0 0,.bool false,.slice none 0 0,.bool false])∧i.size=4∧i.bytes=64:=by
  have h:(Tryz.prog.info? 246).map (fun i=>(i.zero,i.size,i.bytes))=some (some (Value.agg #[.slice none 0 0,.bool false,.slice none 0 0,.bool false]),4,64):=by kernel_rfl
  obtain⟨i,hi,e⟩:=C9Y.1 h
  simp only[Prod.mk.injEq]at e
  exact⟨i,hi,e.1,e.2.1,e.2.2⟩
 have mixed:Tryz.prog.follows .mixedOrders=true:=by kernel_rfl
 have t1:=Tryz.underlying216;have a1:=Tryz.isAgg216;have z1:=Tryz.sizeOf216;have v1:=Tryz.zeroValue216;have u1:=run_underlying t1
 have t3:=Tryz.underlying3;have a3:=Tryz.isAgg3;have z3:=Tryz.sizeOf3;have v3:=Tryz.zeroValue3;have u3:=run_underlying t3
 have t4:=Tryz.underlying4;have a4:=Tryz.isAgg4;have z4:=Tryz.sizeOf4;have v4:=Tryz.zeroValue4;have u4:=run_underlying t4
 have t6:=Tryz.underlying246;have a6:=Tryz.isAgg246;have z6:=Tryz.sizeOf246;have v6:=Tryz.zeroValue246;have u6:=run_underlying t6
 have h1: ¬((n:Int)<0):=by omega
 have h3:RowKit.wrap64 ((n:Int)-0)=(n:Int):=by unfold RowKit.wrap64;omega
 have h4:(n:Int) > 0:=by omega
 have hrun:=Lib.run_append_nil_zeros w 216 3 216 246 i _ .i64 .i64 t1 t3 hi hz n hn (by omega) (by omega) (by rw[hby];omega)
 obtain⟨G,hG⟩: ∃G,G=grownCap w n 0 246:=⟨_,rfl⟩
 have hGn:n≤grownCap w n 0 246:=grownCap_ge w _ _ _
 have hG63:G≤9223372036854775807:=by
  have:=grownCap_le_maxLen w n 0 246 (by unfold maxLen;omega)
  rw[←hG]at this
  unfold maxLen at this
  omega
 rw[←hG]at hrun hGn
 obtain⟨cs,hcs⟩: ∃cs,cs=Builtin.zeroCells (Value.agg #[.slice none 0 0,.bool false,.slice none 0 0,.bool false]).cells n++Builtin.zeroCells (Value.agg #[.slice none 0 0,.bool false,.slice none 0 0,.bool false]).cells (G-n):=⟨_,rfl⟩
 have hsz:cs.size=G*4:=by
  rw[hcs,Array.size_append,size_zeroCells,size_zeroCells]
  show n*4+(G-n)*4=G*4
  omega
 rw[←hcs]at hrun
 clear hG hcs
 go_enter Tryz.func282,Tryz.ntmps282
 go_wp2_with (at_builtin;refine Lib.wpList_append_run _ rfl _ _ _ _ rfl _ _ rfl rfl _ _ hrun ?_)
 all_goals (go_ret;exact⟨cs,G,rfl,rfl,by first|exact hsz|simpa using hsz,hGn⟩)
end
section
open Go Go.Av Go.Lin
theorem B54{Q}(H:Heap)(h0:Q .nilsl H):ACalls Tryz.prog 282 [.nilsl,.int .i64 0] H Q:=by
 refine B2 [] B3 Tryz.func282 rfl (by kernel_rfl) (C9Q (by kernel_rfl)) (by kernel_rfl) ?_
 simp only[go_sem,Tryz.results282]
 repeat' (first|with_reducible apply C9P|simp only[go_sem]|simp(disch:=omega) only[A0]|intro hx_|omega)
 all_goals exact D0u h0
theorem B2f{Q}(n:Nat)(hb:n*64≤140737488355328)(H:Heap)(h0:n=0→Q .nilsl H)(h:n≠0→∀b,H b=none→Q (.vec b 4 0 0) (H.set b (.vec 4 []))):ACalls Tryz.prog 282 [.nilsl,.int .i64 n] H Q:=by
 by_cases hn:n=0
 ·subst hn
  exact B54 H (h0 rfl)
 ·refine⟨by kernel_rfl,fun w vs hl hr hs=>?_⟩
  obtain⟨a,b,rfl,ha,hb'⟩:=y0 hl hr
  have ea:a= .slice none 0 0:=by cases ha;rfl
  rw[ea,hb'.int_inv]
  refine(B8x n (by omega) hb w).mono ?_
  rintro e w' ⟨cs,G,rfl,rfl,hsz,hGn⟩
  have hs1:=hs.same (w':=w.drew) rfl (Ext.drewN H w 1)
  obtain⟨d,H',k1,k2,k3,k4,k5⟩:=s9 (w:=w.drew) (K:=Q) hs1 (sz:=4) (es:=[]) (vs:=cs) 246 0 G (by omega) ⟨by simp,fun i e he=>by simp at he,fun i e j d he=>by simp at he,fun i e j d he=>by simp at he⟩ (C9k _) hsz (fun b hb=>h hn b hb)
  exact⟨_,rfl,d,H',k1,k2,(Ext.drewN H w 1).trans (D0w _ _) k3,k4,k5⟩
theorem A7F{Q}(l m:List Row)(hb:(l.length+m.length)*64≤140737488355328)(H:Heap)(h:Q (.sl 4 (Rw C5 (l++m))) H):ACalls Tryz.prog 251 [.sl 1 [[.sl 4 (Rw C5 l)],[.sl 4 (Rw C5 m)]]] H Q:=by
 refine B2 [] B3 Tryz.func251 rfl (by kernel_rfl) (C9Q (by kernel_rfl)) (by kernel_rfl) ?_
 simp only[go_sem,Tryz.results251]
 refine D1 [0,9,10] (fun(p:Nat×Int)=>[(11,.int .i64 p.1),(3,.int .i64 p.2)]) (fun(p:Nat×Int)=>H) (fun(p:Nat×Int)=>p.1≤2∧(p.1=0→p.2=0)∧(p.1=1→p.2=l.length)∧(p.1=2→p.2=(l.length:Int)+m.length)) (fun(p:Nat×Int)=>2-p.1) ((0,0)) (⟨by simp,by simp,by simp,by simp⟩) (by(try simp only[go_sem])<;>(try simp(disch:=omega) [A0])<;>(try omega)) (by first|exact D0q _|exact A2 (by assumption)|exact B4 (by assumption)|simp only[Heap.Le,Heap.set,Heap.del]at* <;>grind) ?_
 rintro Ec rfl ⟨k,z⟩ ⟨q1,q2,q3,q4⟩
 simp only at q1 q2 q3 q4
 match k,q1,q2,q3,q4 with
 |0,q1,q2,q3,q4=>
  have hz:=q2 rfl
  subst hz
  repeat' (first|with_reducible apply C9P|simp only[go_sem,C9y]|simp(disch:=omega) only[A0]|intro hx_|omega)
  exact C3 (1,(l.length:Int)) ⟨by simp,by simp,by simp,by simp⟩ (by simp) (by(try simp only[go_sem])<;>(try simp(disch:=omega) [A0])<;>(try omega)) (D0q _)
 |1,q1,q2,q3,q4=>
  have hz:=q3 rfl
  subst hz
  repeat' (first|with_reducible apply C9P|simp only[go_sem,C9y,C9z]|simp(disch:=omega) only[A0]|intro hx_|omega)
  exact C3 (2,(l.length:Int)+m.length) ⟨by simp,by simp,by simp,by simp⟩ (by simp) (by(try simp only[go_sem])<;>(try simp(disch:=omega) [A0])<;>(try omega)) (D0q _)
 |2,q1,q2,q3,q4=>
  have hz:=q4 rfl
  subst hz
  have en:(l.length:Int)+m.length=((l.length+m.length:Nat):Int):=by omega
  by_cases hne:l.length+m.length=0
  ·have el:l= []:=C9n (by omega)
   have em:m= []:=C9n (by omega)
   subst el;subst em
   repeat' (first|with_reducible apply C9P|simp only[go_sem,en]|simp(disch:=omega) only[A0]|intro hx_|omega)
   refine B2f 0 (by omega) H (fun _=>?_) (fun e=>absurd rfl e)
   repeat' (first|with_reducible apply C9P|simp only[go_sem]|simp(disch:=omega) only[A0]|intro hx_|omega)
   refine D1 [25,26] (fun(k:Nat)=>[(27,.int .i64 k),(6,.nilsl)]) (fun(k:Nat)=>H) (fun(k:Nat)=>k≤2) (fun(k:Nat)=>2-k) (0) (by omega) (by(try simp only[go_sem])<;>(try simp(disch:=omega) [A0])<;>(try omega)) (by first|exact D0q _|exact A2 (by assumption)|exact B4 (by assumption)|simp only[Heap.Le,Heap.set,Heap.del]at* <;>grind) ?_
   rintro Ec rfl k hk
   match k,hk with
   |0,_=>
    repeat' (first|with_reducible apply C9P|simp only[go_sem,C9y,A0X]|simp(disch:=omega) only[A0]|intro hx_|omega)
    exact C3 1 (by omega) (by omega) (by(try simp only[go_sem])<;>(try simp(disch:=omega) [A0])<;>(try omega)) (D0q _)
   |1,_=>
    repeat' (first|with_reducible apply C9P|simp only[go_sem,C9y,C9z,A0X]|simp(disch:=omega) only[A0]|intro hx_|omega)
    exact C3 2 (by omega) (by omega) (by(try simp only[go_sem])<;>(try simp(disch:=omega) [A0])<;>(try omega)) (D0q _)
   |2,_=>
    repeat' (first|with_reducible apply C9P|simp only[go_sem]|simp(disch:=omega) only[A0]|intro hx_|omega)
    exact Fin.out (n:=0) (ob:=none) rfl rfl (D0r (D0q _) h)
   |k+3,hk=>omega
  repeat' (first|with_reducible apply C9P|simp only[go_sem,en]|simp(disch:=omega) only[A0]|intro hx_|omega)
  refine B2f _ hb H (fun e=>absurd e hne) fun _ b hbn=>?_
  repeat' (first|with_reducible apply C9P|simp only[go_sem]|simp(disch:=omega) only[A0]|intro hx_|omega)
  refine D1 [25,26] (fun(p:Nat×Nat×List Row)=>[(27,.int .i64 p.1),(6,.vec p.2.1 4 0 p.2.2.length)]) (fun(p:Nat×Nat×List Row)=>H.set p.2.1 (.vec 4 (Rw C5 p.2.2))) (fun(p:Nat×Nat×List Row)=>p.1≤2∧H p.2.1=none∧(p.1=0→p.2.2= [])∧(p.1=1→p.2.2=l)∧(p.1=2→p.2.2=l++m)) (fun(p:Nat×Nat×List Row)=>2-p.1) ((0,b,[])) (⟨by simp,hbn,by simp,by simp,by simp⟩) (by(try simp only[go_sem])<;>(try simp(disch:=omega) [A0])<;>(try omega)) (by first|exact D0q _|exact A2 (by assumption)|exact B4 (by assumption)|simp only[Heap.Le,Heap.set,Heap.del]at* <;>grind) ?_
  rintro Ec rfl ⟨k,c,X⟩ ⟨q1,hc,q2,q3,q4⟩
  simp only at q1 hc q2 q3 q4
  match k,q1,q2,q3,q4 with
  |0,q1,q2,q3,q4=>
   have hz:=q2 rfl
   subst hz
   repeat' (first|with_reducible apply C9P|simp only[go_sem,C9y,E7 hc]|simp(disch:=omega) only[A0]|intro hx_|omega)
   rename_i b6
   exact C3 (1,b6,l) ⟨by simp,hx_,by simp,by simp,by simp⟩ (by simp) (by(try simp only[go_sem])<;>(try simp(disch:=omega) [A0])<;>(try omega)) (D0q _)
  |1,q1,q2,q3,q4=>
   have hz:=(q3 rfl).symm
   subst hz
   repeat' (first|with_reducible apply C9P|simp only[go_sem,C9y,C9z,E7 hc]|simp(disch:=omega) only[A0]|intro hx_|omega)
   rename_i b6
   exact C3 (2,b6,l++m) ⟨by simp,hx_,by simp,by simp,by simp⟩ (by simp) (by(try simp only[go_sem,C9V])<;>(try simp(disch:=omega) [A0])<;>(try omega)) (by simp only[];rw[←O2,C9e (by rw[D6];exact C9j _)];exact D0q _)
  |2,q1,q2,q3,q4=>
   have hz:=q4 rfl
   subst hz
   repeat' (first|with_reducible apply C9P|simp only[go_sem]|simp(disch:=omega) only[A0]|intro hx_|omega)
   exact Fin.out (ob:=some c) (by rw[D6,C9V]) (A5 _ _) (D0r (by show H.Le ((H.set c _).del c);rw[E7 hc];exact D0q _) h)
end
section
open Go Go.Shelf Go.RowKit
set_option maxHeartbeats 4000000 in
set_option maxRecDepth 100000 in
theorem B8y(n:Nat)(hn:0<n)(hb:n*40≤140737488355328)(w:World):
  Calls Tryz.prog 189 #[.slice none 0 0,.int .i64 n] w fun e w'=>∃(cs:Array Value) (G:Nat),e= .returned (.slice (some ⟨w.heap.size,0,none⟩) 0 G)∧w'=w.drew.alloc (.cells cs 25)∧cs.size=G*3∧n≤G:=by
 obtain⟨i,hi,hz,hs,hby⟩: ∃i,Tryz.prog.info? 25=some i∧i.zero=some (Value.agg #[.slice none 0 0,.int .i64 0,.bool false])∧i.size=3∧i.bytes=40:=by
  have h:(Tryz.prog.info? 25).map (fun i=>(i.zero,i.size,i.bytes))=some (some (Value.agg #[.slice none 0 0,.int .i64 0,.bool false]),3,40):=by kernel_rfl
  obtain⟨i,hi,e⟩:=C9Y.1 h
  simp only[Prod.mk.injEq]at e
  exact⟨i,hi,e.1,e.2.1,e.2.2⟩
 have mixed:Tryz.prog.follows .mixedOrders=true:=by kernel_rfl
 have t1:=Tryz.underlying110;have a1:=Tryz.isAgg110;have z1:=Tryz.sizeOf110;have v1:=Tryz.zeroValue110;have u1:=run_underlying t1
 have t3:=Tryz.underlying3;have a3:=Tryz.isAgg3;have z3:=Tryz.sizeOf3;have v3:=Tryz.zeroValue3;have u3:=run_underlying t3
 have t4:=Tryz.underlying4;have a4:=Tryz.isAgg4;have z4:=Tryz.sizeOf4;have v4:=Tryz.zeroValue4;have u4:=run_underlying t4
 have t6:=Tryz.underlying25;have a6:=Tryz.isAgg25;have z6:=Tryz.sizeOf25;have v6:=Tryz.zeroValue25;have u6:=run_underlying t6
 have h1: ¬((n:Int)<0):=by omega
 have h3:RowKit.wrap64 ((n:Int)-0)=(n:Int):=by unfold RowKit.wrap64;omega
 have h4:(n:Int) > 0:=by omega
 have hrun:=Lib.run_append_nil_zeros w 110 3 110 25 i _ .i64 .i64 t1 t3 hi hz n hn (by omega) (by omega) (by rw[hby];omega)
 obtain⟨G,hG⟩: ∃G,G=grownCap w n 0 25:=⟨_,rfl⟩
 have hGn:n≤grownCap w n 0 25:=grownCap_ge w _ _ _
 have hG63:G≤9223372036854775807:=by
  have:=grownCap_le_maxLen w n 0 25 (by unfold maxLen;omega)
  rw[←hG]at this
  unfold maxLen at this
  omega
 rw[←hG]at hrun hGn
 obtain⟨cs,hcs⟩: ∃cs,cs=Builtin.zeroCells (Value.agg #[.slice none 0 0,.int .i64 0,.bool false]).cells n++Builtin.zeroCells (Value.agg #[.slice none 0 0,.int .i64 0,.bool false]).cells (G-n):=⟨_,rfl⟩
 have hsz:cs.size=G*3:=by
  rw[hcs,Array.size_append,size_zeroCells,size_zeroCells]
  show n*3+(G-n)*3=G*3
  omega
 rw[←hcs]at hrun
 clear hG hcs
 go_enter Tryz.func189,Tryz.ntmps189
 go_wp2_with (at_builtin;refine Lib.wpList_append_run _ rfl _ _ _ _ rfl _ _ rfl rfl _ _ hrun ?_)
 all_goals (go_ret;exact⟨cs,G,rfl,rfl,by first|exact hsz|simpa using hsz,hGn⟩)
end
section
open Go Go.Av Go.Lin
theorem B55{Q}(H:Heap)(h0:Q .nilsl H):ACalls Tryz.prog 189 [.nilsl,.int .i64 0] H Q:=by
 refine B2 [] B3 Tryz.func189 rfl (by kernel_rfl) (C9Q (by kernel_rfl)) (by kernel_rfl) ?_
 simp only[go_sem,Tryz.results189]
 repeat' (first|with_reducible apply C9P|simp only[go_sem]|simp(disch:=omega) only[A0]|intro hx_|omega)
 all_goals exact D0u h0
theorem B2g{Q}(n:Nat)(hb:n*40≤140737488355328)(H:Heap)(h0:n=0→Q .nilsl H)(h:n≠0→∀b,H b=none→Q (.vec b 3 0 0) (H.set b (.vec 3 []))):ACalls Tryz.prog 189 [.nilsl,.int .i64 n] H Q:=by
 by_cases hn:n=0
 ·subst hn
  exact B55 H (h0 rfl)
 ·refine⟨by kernel_rfl,fun w vs hl hr hs=>?_⟩
  obtain⟨a,b,rfl,ha,hb'⟩:=y0 hl hr
  have ea:a= .slice none 0 0:=by cases ha;rfl
  rw[ea,hb'.int_inv]
  refine(B8y n (by omega) hb w).mono ?_
  rintro e w' ⟨cs,G,rfl,rfl,hsz,hGn⟩
  have hs1:=hs.same (w':=w.drew) rfl (Ext.drewN H w 1)
  obtain⟨d,H',k1,k2,k3,k4,k5⟩:=s9 (w:=w.drew) (K:=Q) hs1 (sz:=3) (es:=[]) (vs:=cs) 25 0 G (by omega) ⟨by simp,fun i e he=>by simp at he,fun i e j d he=>by simp at he,fun i e j d he=>by simp at he⟩ (C9k _) hsz (fun b hb=>h hn b hb)
  exact⟨_,rfl,d,H',k1,k2,(Ext.drewN H w 1).trans (D0w _ _) k3,k4,k5⟩
theorem A7G{Q}(l m:List LinV)(hb:(l.length+m.length)*40≤140737488355328)(H:Heap)(h:Q (.sl 3 (Rw E3 (l++m))) H):ACalls Tryz.prog 152 [.sl 1 [[.sl 3 (Rw E3 l)],[.sl 3 (Rw E3 m)]]] H Q:=by
 refine B2 [] B3 Tryz.func152 rfl (by kernel_rfl) (C9Q (by kernel_rfl)) (by kernel_rfl) ?_
 simp only[go_sem,Tryz.results152]
 refine D1 [0,9,10] (fun(p:Nat×Int)=>[(11,.int .i64 p.1),(3,.int .i64 p.2)]) (fun(p:Nat×Int)=>H) (fun(p:Nat×Int)=>p.1≤2∧(p.1=0→p.2=0)∧(p.1=1→p.2=l.length)∧(p.1=2→p.2=(l.length:Int)+m.length)) (fun(p:Nat×Int)=>2-p.1) ((0,0)) (⟨by simp,by simp,by simp,by simp⟩) (by(try simp only[go_sem])<;>(try simp(disch:=omega) [A0])<;>(try omega)) (by first|exact D0q _|exact A2 (by assumption)|exact B4 (by assumption)|simp only[Heap.Le,Heap.set,Heap.del]at* <;>grind) ?_
 rintro Ec rfl ⟨k,z⟩ ⟨q1,q2,q3,q4⟩
 simp only at q1 q2 q3 q4
 match k,q1,q2,q3,q4 with
 |0,q1,q2,q3,q4=>
  have hz:=q2 rfl
  subst hz
  repeat' (first|with_reducible apply C9P|simp only[go_sem,C9y]|simp(disch:=omega) only[A0]|intro hx_|omega)
  exact C3 (1,(l.length:Int)) ⟨by simp,by simp,by simp,by simp⟩ (by simp) (by(try simp only[go_sem])<;>(try simp(disch:=omega) [A0])<;>(try omega)) (D0q _)
 |1,q1,q2,q3,q4=>
  have hz:=q3 rfl
  subst hz
  repeat' (first|with_reducible apply C9P|simp only[go_sem,C9y,C9z]|simp(disch:=omega) only[A0]|intro hx_|omega)
  exact C3 (2,(l.length:Int)+m.length) ⟨by simp,by simp,by simp,by simp⟩ (by simp) (by(try simp only[go_sem])<;>(try simp(disch:=omega) [A0])<;>(try omega)) (D0q _)
 |2,q1,q2,q3,q4=>
  have hz:=q4 rfl
  subst hz
  have en:(l.length:Int)+m.length=((l.length+m.length:Nat):Int):=by omega
  by_cases hne:l.length+m.length=0
  ·have el:l= []:=C9n (by omega)
   have em:m= []:=C9n (by omega)
   subst el;subst em
   repeat' (first|with_reducible apply C9P|simp only[go_sem,en]|simp(disch:=omega) only[A0]|intro hx_|omega)
   refine B2g 0 (by omega) H (fun _=>?_) (fun e=>absurd rfl e)
   repeat' (first|with_reducible apply C9P|simp only[go_sem]|simp(disch:=omega) only[A0]|intro hx_|omega)
   refine D1 [25,26] (fun(k:Nat)=>[(27,.int .i64 k),(6,.nilsl)]) (fun(k:Nat)=>H) (fun(k:Nat)=>k≤2) (fun(k:Nat)=>2-k) (0) (by omega) (by(try simp only[go_sem])<;>(try simp(disch:=omega) [A0])<;>(try omega)) (by first|exact D0q _|exact A2 (by assumption)|exact B4 (by assumption)|simp only[Heap.Le,Heap.set,Heap.del]at* <;>grind) ?_
   rintro Ec rfl k hk
   match k,hk with
   |0,_=>
    repeat' (first|with_reducible apply C9P|simp only[go_sem,C9y,A0X]|simp(disch:=omega) only[A0]|intro hx_|omega)
    exact C3 1 (by omega) (by omega) (by(try simp only[go_sem])<;>(try simp(disch:=omega) [A0])<;>(try omega)) (D0q _)
   |1,_=>
    repeat' (first|with_reducible apply C9P|simp only[go_sem,C9y,C9z,A0X]|simp(disch:=omega) only[A0]|intro hx_|omega)
    exact C3 2 (by omega) (by omega) (by(try simp only[go_sem])<;>(try simp(disch:=omega) [A0])<;>(try omega)) (D0q _)
   |2,_=>
    repeat' (first|with_reducible apply C9P|simp only[go_sem]|simp(disch:=omega) only[A0]|intro hx_|omega)
    exact Fin.out (n:=0) (ob:=none) rfl rfl (D0r (D0q _) h)
   |k+3,hk=>omega
  repeat' (first|with_reducible apply C9P|simp only[go_sem,en]|simp(disch:=omega) only[A0]|intro hx_|omega)
  refine B2g _ hb H (fun e=>absurd e hne) fun _ b hbn=>?_
  repeat' (first|with_reducible apply C9P|simp only[go_sem]|simp(disch:=omega) only[A0]|intro hx_|omega)
  refine D1 [25,26] (fun(p:Nat×Nat×List LinV)=>[(27,.int .i64 p.1),(6,.vec p.2.1 3 0 p.2.2.length)]) (fun(p:Nat×Nat×List LinV)=>H.set p.2.1 (.vec 3 (Rw E3 p.2.2))) (fun(p:Nat×Nat×List LinV)=>p.1≤2∧H p.2.1=none∧(p.1=0→p.2.2= [])∧(p.1=1→p.2.2=l)∧(p.1=2→p.2.2=l++m)) (fun(p:Nat×Nat×List LinV)=>2-p.1) ((0,b,[])) (⟨by simp,hbn,by simp,by simp,by simp⟩) (by(try simp only[go_sem])<;>(try simp(disch:=omega) [A0])<;>(try omega)) (by first|exact D0q _|exact A2 (by assumption)|exact B4 (by assumption)|simp only[Heap.Le,Heap.set,Heap.del]at* <;>grind) ?_
  rintro Ec rfl ⟨k,c,X⟩ ⟨q1,hc,q2,q3,q4⟩
  simp only at q1 hc q2 q3 q4
  match k,q1,q2,q3,q4 with
  |0,q1,q2,q3,q4=>
   have hz:=q2 rfl
   subst hz
   repeat' (first|with_reducible apply C9P|simp only[go_sem,C9y,E7 hc]|simp(disch:=omega) only[A0]|intro hx_|omega)
   rename_i b6
   exact C3 (1,b6,l) ⟨by simp,hx_,by simp,by simp,by simp⟩ (by simp) (by(try simp only[go_sem])<;>(try simp(disch:=omega) [A0])<;>(try omega)) (D0q _)
  |1,q1,q2,q3,q4=>
   have hz:=(q3 rfl).symm
   subst hz
   repeat' (first|with_reducible apply C9P|simp only[go_sem,C9y,C9z,E7 hc]|simp(disch:=omega) only[A0]|intro hx_|omega)
   rename_i b6
   exact C3 (2,b6,l++m) ⟨by simp,hx_,by simp,by simp,by simp⟩ (by simp) (by(try simp only[go_sem,C9V])<;>(try simp(disch:=omega) [A0])<;>(try omega)) (by simp only[];rw[←O2,C9e (by rw[D6];exact C9j _)];exact D0q _)
  |2,q1,q2,q3,q4=>
   have hz:=q4 rfl
   subst hz
   repeat' (first|with_reducible apply C9P|simp only[go_sem]|simp(disch:=omega) only[A0]|intro hx_|omega)
   exact Fin.out (ob:=some c) (by rw[D6,C9V]) (A5 _ _) (D0r (by show H.Le ((H.set c _).del c);rw[E7 hc];exact D0q _) h)
end
section
open Go Go.Shelf Go.RowKit
end
section
open Go Go.Av Go.Lin
end
end Go.Proofs.YtibphjonmikciaaGreatDoor
end
section
namespace Go.Av
theorem A97{P:Program}{c:CR}{bl:Bl}{ev:Operand→D}{H:Heap}{KD:D→Heap→Prop}{s x:Operand}{t t':Nat}(e by_:Nat){sz n m bx:Nat}{ob:Option Nat}{es xs:List (List D)}
  (hT:G2 P t=some (e,sz,by_)) (hz:0<sz) (h1:apT (C7 P t')) (h2:apZ (F8 P e) sz) (hs:ev s=J4 sz n ob) (hx:ev x= .vec bx sz 0 m) (hbx:H bx=some (.vec sz xs)) (hm:m=xs.length) (hne:xs≠[])
  (hout:OutAt H sz es ob) (hn:n=es.length) (hxb:bx∉bl.l) (hob:ob≠some bx) (hcb: ∀c,ob=some c→c∉bl.l)
  (h3:(n+xs.length)*by_≤140737488355328) (h4:n+xs.length≤9223372036854775807)
  (h: ∀b',K5 (H.del bx) ob b'=none→KD (.vec b' sz 0 (n+xs.length)) ((K5 (H.del bx) ob).set b' (.vec sz (es++xs)))):pOp P c bl ev H KD (.call ⟨.builtin .append,#[s,x],#[t,t']⟩):=by
 refine A9d ?_
 rw[hT,B5O]
 refine⟨hz,h1,h2,?_⟩
 have hel:M3 H sz (ev x)=some xs:=by
  rw[hx];unfold M3;simp[hbx,hm]
 have ho:R3 bl.l [bx]= [bx]:=by rw[A9c bx [] hxb,x9]
 have hxk:xOk bl H [bx]:=B2N bx _ hbx rfl (.inl hxb)
 rw[hel,B5N,hs,hx]
 show paS _ bl [bx] sz by_ xs H KD
 cases ob with
 |none=>
  have e0:es= []:=hout
  subst e0
  subst hn
  simp only[C9W,Nat.zero_add,D0b]at h3 h4 h
  show paS .nilsl bl [bx] sz by_ xs H KD
  rw[B8V]
  refine⟨h3,h4,by cases xs<;>simp_all,hxk,fun b hb=>?_⟩
  rw[ho,A1D,F3]
  refine h b ?_
  show (H.del bx) b=none
  unfold Heap.del
  rw[ho]at hb
  rcases hb with hb|hb
  ·split<;>simp_all
  ·simp at hb;rw[if_pos hb]
 |some k=>
  have hk:H k=some (.vec sz es):=hout
  have hkb:k≠bx:=fun e=>hob (by rw[e])
  show paS (.vec k sz 0 n) bl [bx] sz by_ xs H KD
  rw[B8W,hk,B8U]
  refine⟨rfl,rfl,rfl,by omega,h3,h4,.inl (hcb k rfl),hxk,fun b' hb'=>?_⟩
  rw[ho,C9e (by omega),A1D,A1D,F3]
  have hdd:(H.del k).del bx=(H.del bx).del k:=by funext q;simp only[Heap.del];split<;>split<;>rfl
  rw[hdd]
  refine h b' ?_
  show ((H.del bx).del k) b'=none
  rw[ho]at hb'
  simp only[Heap.del]
  rcases hb' with hb'|hb'
  ·split
   ·rfl
   ·split
    ·rfl
    ·exact hb'
  ·simp at hb'
   rcases hb' with hb'|hb'
   ·rw[if_pos hb']
   ·split
    ·rfl
    ·first|rfl|rw[if_pos hb']
end Go.Av
end
section
namespace Go.Fo
open Go Go.Av Go.Lexs Go.Lin
structure AH(sz:Nat)(Cs:Heap)(bx:Nat)(ac:D→List D)(es:List (List D))(n:Nat)(ob:Option Nat)(Hp:Heap):Prop where
 box:Hp bx=some (.box (ac (J4 sz n ob)))
 out:OutAt Hp sz es ob
 keep: ∀q o,q≠bx→Cs q=some o→Hp q=some o
 fresh: ∀b,ob=some b→Cs b=none∧b≠bx
theorem A11{sz:Nat}{Cs:Heap}{bx:Nat}{ac:D→List D}(h:Cs bx=some (.box (ac .nilsl))):AH sz Cs bx ac [] 0 none Cs:=⟨h,rfl,fun _ _ _ h=>h,fun _ e=>by cases e⟩
theorem AH.ne7{sz:Nat}{Cs:Heap}{bx:Nat}{ac:D→List D}{es:List (List D)}{n:Nat}{ob:Option Nat}{Hp:Heap}(h:AH sz Cs bx ac es n ob Hp){b:Nat}(hb:Hp b=none):bx≠b:=fun e=>by rw[←e,h.box]at hb;cases hb
theorem AH.at7{sz:Nat}{Cs:Heap}{bx:Nat}{ac:D→List D}{es:List (List D)}{n:Nat}{ob:Option Nat}{Hp:Heap}(h:AH sz Cs bx ac es n ob Hp){b:Nat}(hb:Hp b=none)(o:Av.Obj):(Hp.set b o) bx=some (.box (ac (J4 sz n ob)))∧(Hp.set b o) b=some o∧OutAt (Hp.set b o) sz es ob∧∀c,ob=some c→c≠b:=by
 refine⟨by rw[A8 _ (h.ne7 hb)];exact h.box,A5 _ _,?_,fun c e g=>?_⟩
 ·cases ob with
  |none=>exact h.out
  |some c=>
   have hc:Hp c=some _:=h.out
   have:c≠b:=fun e=>by rw[e,hb]at hc;cases hc
   show (Hp.set b o) c=_
   rw[A8 _ this];exact hc
 ·subst e
  have hc:Hp c=some _:=h.out
  rw[g,hb]at hc;cases hc
theorem AH.step{sz:Nat}{Cs:Heap}{bx:Nat}{ac:D→List D}{es:List (List D)}{n:Nat}{ob:Option Nat}{Hp:Heap}(h:AH sz Cs bx ac es n ob Hp){b b':Nat}(hb:Hp b=none)(o:Av.Obj)(hb':K5 (Hp.set b o) ob b'=none)(c:List D):
  b'≠bx∧((K5 (Hp.set b o) ob).set b' (.vec sz (es++[c]))) bx=some (.box (ac (J4 sz n ob)))∧AH sz Cs bx ac (es++[c]) (n+1) (some b') (((K5 (Hp.set b o) ob).set b' (.vec sz (es++[c]))).set bx (.box (ac (.vec b' sz 0 (n+1))))):=by
 obtain⟨k1,k2,k3,k4⟩:=h.at7 hb o
 have kx:K5 (Hp.set b o) ob bx=some (.box (ac (J4 sz n ob))):=by
  cases ob with
  |none=>exact k1
  |some q=>
   have:=(h.fresh q rfl).2
   show Heap.del _ q bx=_
   rw[C8 this.symm];exact k1
 have hne:b'≠bx:=fun e=>by rw[e,kx]at hb';cases hb'
 have hk: ∀q o',q≠bx→Cs q=some o'→K5 (Hp.set b o) ob q=some o':=fun q o' hq hqo=>by
  have h1:=h.keep q o' hq hqo
  have hqb:q≠b:=fun e=>by rw[e,hb]at h1;cases h1
  cases ob with
  |none=>show (Hp.set b o) q=_;rw[A8 _ hqb];exact h1
  |some r=>
   have hqr:q≠r:=fun e=>by have:=(h.fresh r rfl).1;rw[←e,hqo]at this;cases this
   show Heap.del _ r q=_
   rw[C8 hqr,A8 _ hqb];exact h1
 refine⟨hne,by rw[A8 _ hne.symm];exact kx,A5 _ _,?_,fun q o' hq hqo=>?_,fun q e=>?_⟩
 ·show (Heap.set _ bx _) b'=_
  rw[A8 _ hne];exact A5 _ _
 ·have h1:=hk q o' hq hqo
  have hqb:q≠b':=fun e=>by rw[e,hb']at h1;cases h1
  rw[A8 _ hq,A8 _ hqb];exact h1
 ·cases e
  refine⟨?_,hne⟩
  cases g:Cs b' with
  |none=>rfl
  |some o'=>have:=hk b' o' hne g;rw[hb']at this;cases this
theorem AH.more{sz:Nat}{Cs:Heap}{bx:Nat}{ac:D→List D}{es:List (List D)}{n:Nat}{ob:Option Nat}{Hp:Heap}(h:AH sz Cs bx ac es n ob Hp){b:Nat}(hb:Hp b=none)(o:Av.Obj):AH sz Cs bx ac es n ob (Hp.set b o):=by
 obtain⟨k1,k2,k3,k4⟩:=h.at7 hb o
 refine⟨k1,k3,fun q o' hq hqo=>?_,h.fresh⟩
 have h1:=h.keep q o' hq hqo
 have:q≠b:=fun e=>by rw[e,hb]at h1;cases h1
 rw[A8 _ this];exact h1
theorem AH.le{sz:Nat}{Cs H:Heap}{bx:Nat}{ac:D→List D}{es:List (List D)}{n:Nat}{ob:Option Nat}{Hp:Heap}(h:AH sz Cs bx ac es n ob Hp)(hle:H.Le Cs)(hx:H bx=none):H.Le (K5 Hp ob):=fun k o hk=>by
 have k1:k≠bx:=fun e=>by rw[e,hx]at hk;cases hk
 have h1:=h.keep k o k1 (hle _ _ hk)
 cases ob with
 |none=>exact h1
 |some c=>
  have:k≠c:=fun e=>by have:=(h.fresh c rfl).1;rw[←e,hle _ _ hk]at this;cases this
  show Heap.del _ c k=_
  rw[C8 this];exact h1
theorem AH.le2{sz:Nat}{Cs H:Heap}{bx b2:Nat}{ac:D→List D}{es:List (List D)}{n:Nat}{ob:Option Nat}{Hp:Heap}(h:AH sz Cs bx ac es n ob Hp)(hle:H.Le Cs)(hx:H bx=none)(h2:H b2=none)(o:Av.Obj):H.Le (K5 (Hp.set b2 o) ob):=fun k q hk=>by
 have k2:k≠b2:=fun e=>by rw[e,h2]at hk;cases hk
 have h1:=h.le hle hx _ _ hk
 cases ob with
 |none=>show (Hp.set b2 o) k=_;rw[A8 _ k2];exact h1
 |some c=>
  have kc:k≠c:=fun e=>by have:=(h.fresh c rfl).1;rw[←e,hle _ _ hk]at this;cases this
  have h1:Heap.del Hp c k=some q:=h1
  rw[C8 kc]at h1
  show Heap.del _ c k=_
  rw[C8 kc,A8 _ k2];exact h1
theorem AH.out2{sz:Nat}{Cs:Heap}{bx b2:Nat}{ac:D→List D}{es:List (List D)}{n:Nat}{ob:Option Nat}{Hp:Heap}(h:AH sz Cs bx ac es n ob Hp){o0:Av.Obj}(h2:Cs b2=some o0)(o:Av.Obj):OutAt (Hp.set b2 o) sz es ob:=by
 cases ob with
 |none=>exact h.out
 |some c=>
  have:c≠b2:=fun e=>by have:=(h.fresh c rfl).1;rw[e,h2]at this;cases this
  show (Hp.set b2 o) c=_
  rw[A8 _ this];exact h.out
theorem A44{H:Heap}{sz:Nat}{es:List (List D)}{ob:Option Nat}(h:OutAt H sz es ob){x:Nat}(hx:H x=none)(o:Av.Obj):OutAt (H.set x o) sz es ob∧ob≠some x:=by
 cases ob with
 |none=>exact⟨h,by simp⟩
 |some c=>
  have hc:H c=some _:=h
  have:c≠x:=fun e=>by rw[e,hx]at hc;cases hc
  refine⟨?_,fun e=>this (by injection e)⟩
  show (H.set x o) c=_
  rw[A8 _ this];exact hc
theorem B2h{H:Heap}{b:Nat}{o:Av.Obj}(h:H b=some o):H.set b o=H:=by
 funext k
 unfold Av.Heap.set
 by_cases e:k=b
 ·subst e;rw[if_pos rfl,h]
 ·rw[if_neg e]
theorem C2b{Q:D→Heap→Prop}{H:Heap}{n:Nat}{ob:Option Nat}{l:LinV}(hn:n=l.t.length)(ho:OutAt H 2 (Rw Q7 l.t) ob)(h:Fin Q (.agg (E3 l)) (K5 H ob)):Fin Q (.agg [J4 2 n ob,.int .i64 l.k,.bool l.e]) H:=by
 have nl: ∀(i:Nat) d d',[D.int .i64 l.k,.bool l.e][i]? =some d→[D.int .i64 l.k,.bool l.e][i]? =some d'→d=d':=fun i d d' h1 h2=>by rw[h1]at h2;injection h2
 cases ob with
 |none=>
  have hz:Rw Q7 l.t= []:=ho
  rw[B1J,hz]at h
  refine D9 (d':=.agg [.sl 2 [],.int .i64 l.k,.bool l.e]) (.agg _ _ rfl fun i d d' h1 h2=>?_) h
  match i with
  |0=>cases h1;cases h2;exact .nil 2
  |i+1=>
   simp only[C9v]at h1 h2
   rw[nl i d d' h1 h2];exact .same _
 |some b=>
  have hb:H b=some (.vec 2 (Rw Q7 l.t)):=ho
  subst hn
  refine T3 (cs':=E3 l) hb rfl (fun i d d' h1 h2=>?_) h
  match i with
  |0=>
   cases h1;cases h2
   show Fz b 2 (Rw Q7 l.t) (.vec b 2 0 l.t.length) _
   have:=Fz.all (b:=b) (sz:=2) (es:=Rw Q7 l.t)
   rwa [D6]at this
  |i+1=>
   simp only[B1J,C9v]at h1 h2
   rw[nl i d d' h1 h2];exact .same _
theorem B56(f:Fm):(C1 f).set 2 (.sl 2 (Rw Q7 f.l.t))=C1 f:=by rw[N2];rfl
theorem B57(f:Fm)(x:D):(C1 f).set 6 x= [.int .i64 f.op,.int .i64 f.n,.sl 2 (Rw Q7 f.l.t),.int .i64 f.l.k,.bool f.l.e,.str f.s,x]:=by rw[N2];rfl
abbrev ac6(f:Fm)(x:D):List D:=[.int .i64 f.op,.int .i64 f.n,.sl 2 (Rw Q7 f.l.t),.int .i64 f.l.k,.bool f.l.e,.str f.s,x]
theorem C2c{Q:D→Heap→Prop}{H:Heap}{n:Nat}{ob:Option Nat}{f:Fm}{ks:List Fm}(hn:n=ks.length)(ho:OutAt H 7 (Rw C1 ks) ob)(h:Fin Q (.agg (C1 (.mk f.op f.n f.l f.s ks))) (K5 H ob)):Fin Q (.agg (ac6 f (J4 7 n ob))) H:=by
 rw[a8]at h
 cases ob with
 |none=>
  have hz:Rw C1 ks= []:=ho
  refine D9 ?_ h
  rw[hz]
  exact B1T (.same _) (.nil 7)
 |some b=>
  have hb:H b=some (.vec 7 (Rw C1 ks)):=ho
  subst hn
  refine T3 (cs':=ac6 f (.sl 7 (Rw C1 ks))) hb rfl (fz7 (.same _) ?_) h
  show Fz b 7 (Rw C1 ks) (.vec b 7 0 ks.length) _
  have:=Fz.all (b:=b) (sz:=7) (es:=Rw C1 ks)
  rwa [D6]at this
end Go.Fo
end
section
set_option maxRecDepth 20000
namespace Go.Av
theorem Q6{P:Program}{f b n sz:Nat}{es:List (List D)}{ds:List D}{H0:Heap}{Q:D→Heap→Prop}(h0:H0 b=none)(hn:n=es.length)(h:ACalls P f (.sl sz es::ds) H0 Q):ACalls P f (.vec b sz 0 n::ds) (H0.set b (.vec sz es)) Q:=
 T1 (A5 _ _) hn (by rw[E7 h0];exact h)
theorem A8o{P:Program}{f b n sz:Nat}{es:List (List D)}{a:D}{ds:List D}{H0:Heap}{Q:D→Heap→Prop}(h0:H0 b=none)(hn:n=es.length)(h:ACalls P f (a:: .sl sz es::ds) H0 Q):ACalls P f (a:: .vec b sz 0 n::ds) (H0.set b (.vec sz es)) Q:=
 A0Q (A5 _ _) hn (by rw[E7 h0];exact h)
theorem A6R{P:Program}{f m:Nat}{kvs:List (D×D)}{x:D}{ds:List D}{H:Heap}{Q:D→Heap→Prop}(hm:H m=some (.map kvs))(h:ACalls P f (.agg [x,.fm kvs]::ds) (H.del m) Q):ACalls P f (.agg [x,.map m]::ds) H Q:=by
 refine ACalls.shift (args':=.agg [x,.fm kvs]::ds) (fun w vs h1 h2 hs=>?_) h
 have hle:=D8 H m
 refine⟨by simpa using h1,fun i d hd=>?_,hs.less hle,fun k hn=>hle.held hn⟩
 match i with
 |0=>
  cases hd
  have hr1:=h2 0 _ rfl
  revert hr1
  generalize vs.getD 0 undef=v1
  intro hr1
  cases hr1 with
  |agg _ us hlv ho hr=>
   refine .agg _ us (by simpa using hlv) (fun i d' hd'=>?_) (fun i d' hd'=>?_)
   ·match i with
    |0=>exact ho 0 d' hd'
    |1=>cases hd';rfl
    |i+2=>simp at hd'
   ·match i with
    |0=>exact(hr 0 d' hd').less hle
    |1=>
     cases hd'
     exact B2c hs hm hle (G8 (by simp[Heap.del])) (hr 1 _ rfl)
    |i+2=>simp at hd'
 |i+1=>exact(h2 (i+1) d (by simpa using hd)).less hle
end Go.Av
namespace Go.Proofs.YtibphjonmikciaaGreatDoor
open Go Go.Av Go.Lexs Go.Lin Go.Fo
attribute [local irreducible] ACalls W4
theorem B1V{Q}(f:Fm)(H:Heap)(h:Q (.int .i64 (if f.op=6 then 1 else 0)) H):ACalls Tryz.prog 193 [.agg (C1 f)] H Q:=by
 refine B2 [] B3 Tryz.func193 rfl (by kernel_rfl) (C9Q (by kernel_rfl)) (by kernel_rfl) ?_
 simp only[go_sem,Tryz.results193]
 by_cases c:f.op=6
 ·rw[if_pos c]at h
  repeat' (first|with_reducible apply C9P|simp only[go_sem,c]|simp(disch:=omega) only[A3]|intro hx_|omega)
  exact D0r (A2 (by assumption)) h
 ·rw[if_neg c]at h
  repeat' (first|with_reducible apply C9P|simp only[go_sem,c]|simp(disch:=omega) only[A3]|intro hx_|omega)
  exact D0r (A2 (by assumption)) h
theorem C2d{Q}(l:List Fm)(n:Int)(h1:n≤1)(g:D)(H:Heap)(h:Q (.tuple []) H):ACalls Tryz.prog 242 [.sl 7 (Rw C1 l),.int .i64 0,.int .i64 n,g] H Q:=by
 refine B2 [(4,.rg),(6,.rd true)] B3 Tryz.func242 rfl (by kernel_rfl) (C9Q (by kernel_rfl)) (by kernel_rfl) ?_
 simp only[go_sem,Tryz.results242]
 have c: ¬1<n:=by omega
 repeat' (first|with_reducible apply C9P|simp only[go_sem]|simp(disch:=omega) only[A0,A3]|intro hx_|omega)
 refine D1 [0,1,2,3] (fun(k:Nat)=>[(8,.int .i64 1)]) (fun(k:Nat)=>H) (fun(k:Nat)=>True) (fun(k:Nat)=>0) (0) (trivial) (by(try simp only[go_sem])<;>(try simp(disch:=omega) [A0])<;>(try omega)) (by first|exact D0q _|exact A2 (by assumption)|exact B4 (by assumption)|simp only[Heap.Le,Heap.set,Heap.del]at* <;>grind) ?_
 rintro Ec rfl k _
 repeat' (first|with_reducible apply C9P|simp only[go_sem,c]|simp(disch:=omega) only[A0,A3]|intro hx_|omega)
 exact D0u h
theorem B58{Q}(l:List Fm)(hl:l.length≤1)(g:D)(H:Heap)(h:Q (.tuple []) H):ACalls Tryz.prog 219 [.sl 7 (Rw C1 l),.int .i64 l.length,g] H Q:=by
 refine B2 [] B3 Tryz.func219 rfl (by kernel_rfl) (C9Q (by kernel_rfl)) (by kernel_rfl) ?_
 simp only[go_sem,Tryz.results219]
 have c: ¬(20:Int)≤l.length:=by omega
 have c2: ¬(20:Int)<l.length:=by omega
 repeat' (first|with_reducible apply C9P|simp only[go_sem]|simp(disch:=omega) only[A3]|intro hx_|omega)
 refine D1 [0,1,2,6] (fun(k:Nat)=>[(7,.int .i64 0),(8,.int .i64 20)]) (fun(k:Nat)=>H) (fun(k:Nat)=>True) (fun(k:Nat)=>0) (0) (trivial) (by(try simp only[go_sem])<;>(try simp(disch:=omega) [A0])<;>(try omega)) (by first|exact D0q _|exact A2 (by assumption)|exact B4 (by assumption)|simp only[Heap.Le,Heap.set,Heap.del]at* <;>grind) ?_
 rintro Ec rfl k _
 repeat' (first|with_reducible apply C9P|simp only[go_sem,c]|simp(disch:=omega) only[A3]|intro hx_|with_reducible refine C2d l _ (by omega) _ _ ?_|omega)
 refine D1 [0,1,2] (fun(k:Nat)=>[(6,.int .i64 20)]) (fun(k:Nat)=>H) (fun(k:Nat)=>True) (fun(k:Nat)=>0) (0) (trivial) (by(try simp only[go_sem])<;>(try simp(disch:=omega) [A0])<;>(try omega)) (by first|exact D0q _|exact A2 (by assumption)|exact B4 (by assumption)|simp only[Heap.Le,Heap.set,Heap.del]at* <;>grind) ?_
 rintro Ec rfl k _
 repeat' (first|with_reducible apply C9P|simp only[go_sem,c2]|simp(disch:=omega) only[A3]|intro hx_|omega)
 exact D0u h
theorem A3W{Q}(l:List Fm)(hl:l.length≤1)(g:D)(H:Heap)(h:Q (.tuple []) H):ACalls Tryz.prog 191 [.sl 7 (Rw C1 l),g] H Q:=by
 refine B2 [] B3 Tryz.func191 rfl (by kernel_rfl) (C9Q (by kernel_rfl)) (by kernel_rfl) ?_
 simp only[go_sem,Tryz.results191]
 repeat' (first|with_reducible apply C9P|simp only[go_sem]|simp(disch:=omega) only[A3]|intro hx_|with_reducible refine B58 l hl _ _ ?_|omega)
 exact D0u h
theorem B59{Q}(c:List Fm)(hc:c≠[])(hl:c.length≤1000000)(H:Heap)(h: ∀b,H b=none→Q (.vec b 7 0 c.length) (H.set b (.vec 7 (Rw C1 c)))):ACalls Tryz.prog 194 [.sl 7 (Rw C1 c)] H Q:=by
 have hne:Rw C1 c≠[]:=fun e=>hc (C9n (by rw[←D6 (f:=C1),e];rfl))
 refine B2 [] B3 Tryz.func194 rfl (by kernel_rfl) (C9Q (by kernel_rfl)) (by kernel_rfl) ?_
 simp only[go_sem,Tryz.results194]
 have hq: ∀(x:Nat),J8 Tryz.prog .eql 26 (J7 (.tmp x)||J7 (.const (.slice none 0 0))) (.sl 7 (Rw C1 c)) .nilsl=some (.bool false):=fun x=>A5f hne (by kernel_rfl)
 repeat' (first|with_reducible apply C9P|simp only[go_sem,hq]|simp(disch:=omega) only[A3]|intro hx_|omega)
 rename_i b0 h0 b'
 have hb':=hx_
 clear hx_
 rw[E7 h0]at hb'⊢
 exact D0u (h _ hb')
theorem B6A{Q}(cs c:List LinV)(m:D)(hm:(∃k,m= .fm k)∨∃b,m= .map b)(hb:(cs.length+c.length)*40≤140737488355328)(H:Heap)(h:Q (.agg [.sl 3 (Rw E3 (cs++c)),m]) H):ACalls Tryz.prog 123 [.agg [.sl 3 (Rw E3 cs),m],.sl 3 (Rw E3 c)] H Q:=by
 refine B2 [] B3 Tryz.func123 rfl (by kernel_rfl) (C9Q (by kernel_rfl)) (by kernel_rfl) ?_
 simp only[go_sem,Tryz.results123]
 rcases hm with⟨k,rfl⟩|⟨b,rfl⟩
 ·repeat' (first|with_reducible apply C9P|simp only[go_sem]|simp(disch:=omega) only[A3]|simp(disch:=first|omega|grind) only[A6]|(intro hx_;try simp only[A4]at hx_)|omega)
  rename_i b2 h2 b4 h4 x
  have hx:=hx_
  clear hx_
  refine Q6 (es:=[[.sl 3 (Rw E3 cs)],[.sl 3 (Rw E3 c)]]) (A4.2 ⟨hx.1,A4.2 hx.2⟩) rfl ?_
  refine A7G cs c hb _ ?_
  repeat' (first|with_reducible apply C9P|simp only[go_sem]|simp(disch:=omega) only[A3]|simp(disch:=first|omega|grind) only[A6]|(intro hx_;try simp only[A4]at hx_)|omega)
  exact D0r (by simp only[Go.Av.Heap.Le,Go.Av.Heap.set,Go.Av.Heap.del]at* <;>grind) h
 ·repeat' (first|with_reducible apply C9P|simp only[go_sem]|simp(disch:=omega) only[A3]|simp(disch:=first|omega|grind) only[A6]|(intro hx_;try simp only[A4]at hx_)|omega)
  rename_i b2 h2 b4 h4 x
  have hx:=hx_
  clear hx_
  refine Q6 (es:=[[.sl 3 (Rw E3 cs)],[.sl 3 (Rw E3 c)]]) (A4.2 ⟨hx.1,A4.2 hx.2⟩) rfl ?_
  refine A7G cs c hb _ ?_
  repeat' (first|with_reducible apply C9P|simp only[go_sem]|simp(disch:=omega) only[A3]|simp(disch:=first|omega|grind) only[A6]|(intro hx_;try simp only[A4]at hx_)|omega)
  exact D0r (by simp only[Go.Av.Heap.Le,Go.Av.Heap.set,Go.Av.Heap.del]at* <;>grind) h
end Go.Proofs.YtibphjonmikciaaGreatDoor
end
section
namespace Go.Av
section
variable {P:Program} {ops:Array Oper}
def C51(P:Program)(o:Oper)(K:Kg)(F:FEnv)(H:Heap):Prop:=o.guard=none∧D0 P F.ev H (fun d H'=>K (F.put o.dst d) H') o.op
def B8z(P:Program)(ops:Array Oper)(K:Kg):Nat→Array Bool→Kg
 |0,listed=>fun F H=>Region.ready .any ops listed= []∧K F H
 |fuel+1,listed=>fun F H=>(Region.ready .any ops listed= []→K F H)∧∀i∈Region.ready .any ops listed,∃o,ops[i]? =some o∧C51 P o (B8z P ops K fuel (listed.setIfInBounds i true)) F H
theorem B1W{N:Nat}{w0:World}{H0:Heap}{o:Oper}{K:Kg}{F:FEnv}{H:Heap}{a:Act}{w:World}(hd: ∀t,o.dst=some t→t<N)(h:C51 P o K F H)(hst:StO N w0 H0 F H a w):
  opSem P none o a w fun v w'=>∃F' H',StO N w0 H0 F' H' (a.put o.dst v) w'∧K F' H':=by
 refine(N0 (o:=o) hst.sat hst.evR h.2).mono fun v w' hp=>?_
 obtain⟨d,H',hR,hS,hE,hF,hk⟩:=hp
 refine⟨F.put o.dst d,H',⟨?_,?_,fun i=>?_,hS,hst.ext.trans hst.frm hE,hst.frm.trans hst.ext.size hF⟩,hk⟩
 ·cases hdst:o.dst<;>simp[Act.put,hst.size]
 ·cases hdst:o.dst<;>simp[Act.put,hst.defers]
 ·cases hdst:o.dst with
  |none=>exact(hst.env i).mono hE hF
  |some t=>
   have ht:=hd t hdst
   simp only[FEnv.put]
   by_cases hti:t=i
   ·subst hti
    rw[if_pos rfl]
    have:(a.put (some t) v).eval (.tmp t)=v:=by
     have h':t<a.tmps.size:=by rw[hst.size];exact ht
     simp[Act.eval,Act.put,h']
    rw[this];exact hR
   ·rw[if_neg hti]
    have:(a.put (some t) v).eval (.tmp i)=a.eval (.tmp i):=by
     simp[Act.eval,Act.put,C93 hti]
    rw[this];exact(hst.env i).mono hE hF
theorem A5w{N:Nat}{w0:World}{H0:Heap}{K:Kg}{Q:Exit→Act→World→Prop}(hd: ∀o∈ops.toList,∀t,o.dst=some t→t<N)
  (hQ: ∀F H a w,StO N w0 H0 F H a w→K F H→Q .normal a w): ∀(fuel:Nat) (listed:Array Bool) (F:FEnv) (H:Heap) (a:Act) (w:World),
  B8z P ops K fuel listed F H→StO N w0 H0 F H a w→Go.wpAny P .any ops Q fuel listed a w
 |0,_,F,H,a,w,h,hst=>⟨h.1,hQ _ _ _ _ hst h.2⟩
 |fuel+1,listed,F,H,a,w,h,hst=>⟨fun h0=>hQ _ _ _ _ hst (h.1 h0),fun i hi=>by
   obtain⟨o,ho,h1⟩:=h.2 i hi
   unfold Go.wpOp
   split
   ·rename_i hn;rw[hn]at ho;cases ho
   ·rename_i o' ho'
    rw[ho]at ho';cases ho'
    have hmem:o∈ops.toList:=by rw[C94];exact Array.mem_of_getElem? ho
    rw[if_pos (by simp[Region.wanted,h1.1])]
    exact .inl (opSem.wp ((B1W (hd o hmem) h1 hst).mono fun v w' hv=>by
     obtain⟨F',H',hst',hk⟩:=hv
     exact A5w hd hQ fuel _ _ _ _ _ hk hst'))⟩
theorem B1X{f:Nat}{fn:Func}{c:Code}{id:Nat}{args:List D}{H:Heap}{Q:D→Heap→Prop}(hm:P.follows .mixedOrders=true)(hf:P.funcs[f]? =some fn)(hb:fn.body=some (.seq c (.region id ops true)))(hbo:A2b P f=true)(hn:args.length≤fn.ntmps)
  (hrs:fn.results= #[]) (hok:N6 P [] fn.ntmps c=true) (hd:(ops.toList.all fun o=>match o.dst with|some t=>decide (t<fn.ntmps)|none=>true)=true)
  (h:wp P [] c (fun x E H=>x= .normal∧B8z P ops (fun _ H=>Fin Q (.tuple []) H) ops.size (Array.replicate ops.size false) E.get H) (X5 0 args) H):ACalls P f args H Q:=by
 refine⟨hbo,fun w vs hl hR hs=>calls_of_wp hf hb ?_⟩
 have hst:St fn.ntmps w H (X5 0 args) H {tmps:=vs++Array.replicate (fn.ntmps-vs.size) undef,defers:=[]} w:=by
  refine⟨by simp;omega,rfl,fun i=>?_,hs,D0x _ _,D0w _ _⟩
  rw[u0,if_pos (C9k _),Nat.sub_zero]
  cases hi:args[i]? with
  |none=>exact .undef _
  |some d=>
   have hlt:=(C9Z.1 hi).1
   have:({tmps:=vs++Array.replicate (fn.ntmps-vs.size) undef,defers:=[]}:Act).eval (.tmp i)=vs.getD i undef:=by
    simp only[Act.eval]
    exact F5 (by omega)
   rw[this]
   exact hR i d hi
 refine Go.wp_seq (Go.wp_mono (t8 hm c _ _ _ _ _ hok h hst) fun e a w' he=>?_)
 cases e with
 |normal=>
  obtain⟨E,H',hst',_,hq⟩:=he
  refine wp_region_any hm ?_
  have he:Ext H' w' {w' with drawn:=w'.drawn+1}:=Ext.drewN H' w' 1
  have hs1:=hst'.sat.same (w':={w' with drawn:=w'.drawn+1}) rfl he
  refine A5w (N:=fn.ntmps) (w0:=w) (H0:=H) (fun o ho t ht=>?_) (fun F H1 a1 w1 hs2 hk=>?_) _ _ E.get H' a _ hq ⟨hst'.size,hst'.defers,fun i=>(hst'.env i).mono he (D0w _ _),hs1,hst'.ext.trans hst'.frm he,hst'.frm⟩
  ·have:=C90.1 hd o ho
   rw[ht]at this
   simpa using this
  ·unfold Fin at hk
   obtain⟨H2,r',hsh,hQ⟩:=hk
   have hst2:St fn.ntmps w H [] H1 a1 w1:=⟨hs2.size,hs2.defers,fun i=>.undef _,hs2.sat,hs2.ext,hs2.frm⟩
   obtain⟨v,hv,hRv⟩:=A2B (P:=P) (fn:=fn) (r:=.tuple []) hst2 (by rw[hrs];rfl)
   obtain⟨k1,k2,k3⟩:=hsh w1 v hRv hs2.sat
   exact⟨hs2.defers,v,hv,v,rfl,r',H2,k1,k2,hs2.ext,fun k hk hn=>k3 k (hs2.frm k hk hn),hQ⟩
 |exit id=>obtain⟨E,H',hst',hq⟩:=he;exact absurd hq.1 (by simp)
 |ret=>obtain⟨E,H',hst',hq⟩:=he;exact absurd hq.1 (by simp)
 |_=>exact he.elim
def J1(o:Oper):List Nat:=(o.after.toList.filter fun e=>Region.binds .any e).map (·.on)
theorem A1M{listed:Array Bool}{i:Nat}(h:i∈Region.ready .any ops listed):listed.getD i true=false∧∃o,ops[i]? =some o∧∀d∈J1 o,listed.getD d false=true:=by
 obtain⟨h1,o,ho,h2⟩:=mem_ready.1 h
 refine⟨h1,o,ho,fun d hd=>?_⟩
 obtain⟨e,he,rfl⟩:=D0N.1 hd
 obtain⟨he1,he2⟩:=List.mem_filter.1 he
 exact h2 e (by simpa using he1) he2
theorem A5x{listed:Array Bool}{i:Nat}{o:Oper}(h1:listed.getD i true=false)(ho:ops[i]? =some o)(h: ∀d∈J1 o,listed.getD d false=true):i∈Region.ready .any ops listed:=
 mem_ready.2 ⟨h1,o,ho,fun e he hb=>h e.on (D0N.2 ⟨e,List.mem_filter.2 ⟨by simpa using he,hb⟩,rfl⟩)⟩
end
end Go.Av
end
