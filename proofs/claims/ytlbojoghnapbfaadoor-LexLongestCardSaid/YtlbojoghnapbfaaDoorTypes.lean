/- Facts on the types of this seat's program, by a program of ours (wip/gen_types.py), each by kernel_rfl. -/
import Derived.Test.YtlbojoghnapbfaaDoorProg
import Derived.Test.YtlbojoghnapbfaaDoorAvSimp
import Derived.KernelRfl
namespace Go.Proofs
open Go.Av
@[go_sem] theorem Tryd.base1 : baseT Tryd.prog 1 = .func := by kernel_rfl
@[go_sem] theorem Tryd.shape1 : shapeT Tryd.prog 1 = some (false, 1) := by kernel_rfl
@[go_sem] theorem Tryd.zero1 : zeroD Tryd.prog 1 = some [.nilfn] := by kernel_rfl
@[go_sem] theorem Tryd.some1 : (Tryd.prog.underlying 1).isNone = false := by kernel_rfl
@[go_sem] theorem Tryd.base2 : baseT Tryd.prog 2 = .int := by kernel_rfl
@[go_sem] theorem Tryd.shape2 : shapeT Tryd.prog 2 = some (false, 1) := by kernel_rfl
@[go_sem] theorem Tryd.int2 : intT Tryd.prog 2 = some .i64 := by kernel_rfl
@[go_sem] theorem Tryd.zero2 : zeroD Tryd.prog 2 = some [.int .i64 0] := by kernel_rfl
@[go_sem] theorem Tryd.some2 : (Tryd.prog.underlying 2).isNone = false := by kernel_rfl
@[go_sem] theorem Tryd.base3 : baseT Tryd.prog 3 = .int := by kernel_rfl
@[go_sem] theorem Tryd.shape3 : shapeT Tryd.prog 3 = some (false, 1) := by kernel_rfl
@[go_sem] theorem Tryd.int3 : intT Tryd.prog 3 = some .i64 := by kernel_rfl
@[go_sem] theorem Tryd.zero3 : zeroD Tryd.prog 3 = some [.int .i64 0] := by kernel_rfl
@[go_sem] theorem Tryd.some3 : (Tryd.prog.underlying 3).isNone = false := by kernel_rfl
@[go_sem] theorem Tryd.base4 : baseT Tryd.prog 4 = .bool := by kernel_rfl
@[go_sem] theorem Tryd.shape4 : shapeT Tryd.prog 4 = some (false, 1) := by kernel_rfl
@[go_sem] theorem Tryd.zero4 : zeroD Tryd.prog 4 = some [.bool false] := by kernel_rfl
@[go_sem] theorem Tryd.some4 : (Tryd.prog.underlying 4).isNone = false := by kernel_rfl
@[go_sem] theorem Tryd.base5 : baseT Tryd.prog 5 = .int := by kernel_rfl
@[go_sem] theorem Tryd.shape5 : shapeT Tryd.prog 5 = some (false, 1) := by kernel_rfl
@[go_sem] theorem Tryd.int5 : intT Tryd.prog 5 = some .u8 := by kernel_rfl
@[go_sem] theorem Tryd.zero5 : zeroD Tryd.prog 5 = some [.int .u8 0] := by kernel_rfl
@[go_sem] theorem Tryd.some5 : (Tryd.prog.underlying 5).isNone = false := by kernel_rfl
@[go_sem] theorem Tryd.base6 : baseT Tryd.prog 6 = .int := by kernel_rfl
@[go_sem] theorem Tryd.shape6 : shapeT Tryd.prog 6 = some (false, 1) := by kernel_rfl
@[go_sem] theorem Tryd.int6 : intT Tryd.prog 6 = some .u8 := by kernel_rfl
@[go_sem] theorem Tryd.zero6 : zeroD Tryd.prog 6 = some [.int .u8 0] := by kernel_rfl
@[go_sem] theorem Tryd.some6 : (Tryd.prog.underlying 6).isNone = false := by kernel_rfl
@[go_sem] theorem Tryd.base7 : baseT Tryd.prog 7 = .struct := by kernel_rfl
@[go_sem] theorem Tryd.shape7 : shapeT Tryd.prog 7 = some (true, 4) := by kernel_rfl
@[go_sem] theorem Tryd.fields7 : fieldsT Tryd.prog 7 = some [(0, false, 1), (1, false, 1), (2, false, 1), (3, false, 1)] := by kernel_rfl
@[go_sem] theorem Tryd.zero7 : zeroD Tryd.prog 7 = some [.int .i64 0, .int .i64 0, .bool false, .int .u8 0] := by kernel_rfl
@[go_sem] theorem Tryd.some7 : (Tryd.prog.underlying 7).isNone = false := by kernel_rfl
@[go_sem] theorem Tryd.base8 : baseT Tryd.prog 8 = .struct := by kernel_rfl
@[go_sem] theorem Tryd.shape8 : shapeT Tryd.prog 8 = some (true, 4) := by kernel_rfl
@[go_sem] theorem Tryd.fields8 : fieldsT Tryd.prog 8 = some [(0, false, 1), (1, false, 1), (2, false, 1), (3, false, 1)] := by kernel_rfl
@[go_sem] theorem Tryd.zero8 : zeroD Tryd.prog 8 = some [.int .i64 0, .int .i64 0, .bool false, .int .u8 0] := by kernel_rfl
@[go_sem] theorem Tryd.some8 : (Tryd.prog.underlying 8).isNone = false := by kernel_rfl
@[go_sem] theorem Tryd.base9 : baseT Tryd.prog 9 = .str := by kernel_rfl
@[go_sem] theorem Tryd.shape9 : shapeT Tryd.prog 9 = some (false, 1) := by kernel_rfl
@[go_sem] theorem Tryd.und9 : Tryd.prog.underlying 9 = some .string := by kernel_rfl
@[go_sem] theorem Tryd.zero9 : zeroD Tryd.prog 9 = some [.str ⟨#[]⟩] := by kernel_rfl
@[go_sem] theorem Tryd.some9 : (Tryd.prog.underlying 9).isNone = false := by kernel_rfl
@[go_sem] theorem Tryd.base10 : baseT Tryd.prog 10 = .str := by kernel_rfl
@[go_sem] theorem Tryd.shape10 : shapeT Tryd.prog 10 = some (false, 1) := by kernel_rfl
@[go_sem] theorem Tryd.und10 : Tryd.prog.underlying 10 = some .string := by kernel_rfl
@[go_sem] theorem Tryd.zero10 : zeroD Tryd.prog 10 = some [.str ⟨#[]⟩] := by kernel_rfl
@[go_sem] theorem Tryd.some10 : (Tryd.prog.underlying 10).isNone = false := by kernel_rfl
@[go_sem] theorem Tryd.base11 : baseT Tryd.prog 11 = .str := by kernel_rfl
@[go_sem] theorem Tryd.shape11 : shapeT Tryd.prog 11 = some (false, 1) := by kernel_rfl
@[go_sem] theorem Tryd.und11 : Tryd.prog.underlying 11 = some .string := by kernel_rfl
@[go_sem] theorem Tryd.zero11 : zeroD Tryd.prog 11 = some [.str ⟨#[]⟩] := by kernel_rfl
@[go_sem] theorem Tryd.some11 : (Tryd.prog.underlying 11).isNone = false := by kernel_rfl
@[go_sem] theorem Tryd.base12 : baseT Tryd.prog 12 = .int := by kernel_rfl
@[go_sem] theorem Tryd.shape12 : shapeT Tryd.prog 12 = some (false, 1) := by kernel_rfl
@[go_sem] theorem Tryd.int12 : intT Tryd.prog 12 = some .u64 := by kernel_rfl
@[go_sem] theorem Tryd.zero12 : zeroD Tryd.prog 12 = some [.int .u64 0] := by kernel_rfl
@[go_sem] theorem Tryd.some12 : (Tryd.prog.underlying 12).isNone = false := by kernel_rfl
@[go_sem] theorem Tryd.base13 : baseT Tryd.prog 13 = .struct := by kernel_rfl
@[go_sem] theorem Tryd.shape13 : shapeT Tryd.prog 13 = some (true, 2) := by kernel_rfl
@[go_sem] theorem Tryd.fields13 : fieldsT Tryd.prog 13 = some [(0, false, 1), (1, false, 1)] := by kernel_rfl
@[go_sem] theorem Tryd.zero13 : zeroD Tryd.prog 13 = some [.str ⟨#[]⟩, .int .u64 0] := by kernel_rfl
@[go_sem] theorem Tryd.some13 : (Tryd.prog.underlying 13).isNone = false := by kernel_rfl
@[go_sem] theorem Tryd.base14 : baseT Tryd.prog 14 = .struct := by kernel_rfl
@[go_sem] theorem Tryd.shape14 : shapeT Tryd.prog 14 = some (true, 2) := by kernel_rfl
@[go_sem] theorem Tryd.fields14 : fieldsT Tryd.prog 14 = some [(0, false, 1), (1, false, 1)] := by kernel_rfl
@[go_sem] theorem Tryd.zero14 : zeroD Tryd.prog 14 = some [.str ⟨#[]⟩, .int .u64 0] := by kernel_rfl
@[go_sem] theorem Tryd.some14 : (Tryd.prog.underlying 14).isNone = false := by kernel_rfl
@[go_sem] theorem Tryd.base15 : baseT Tryd.prog 15 = .ptr := by kernel_rfl
@[go_sem] theorem Tryd.shape15 : shapeT Tryd.prog 15 = some (false, 1) := by kernel_rfl
@[go_sem] theorem Tryd.zero15 : zeroD Tryd.prog 15 = some [.nilp] := by kernel_rfl
@[go_sem] theorem Tryd.some15 : (Tryd.prog.underlying 15).isNone = false := by kernel_rfl
@[go_sem] theorem Tryd.base16 : baseT Tryd.prog 16 = .ptr := by kernel_rfl
@[go_sem] theorem Tryd.shape16 : shapeT Tryd.prog 16 = some (false, 1) := by kernel_rfl
@[go_sem] theorem Tryd.zero16 : zeroD Tryd.prog 16 = some [.nilp] := by kernel_rfl
@[go_sem] theorem Tryd.some16 : (Tryd.prog.underlying 16).isNone = false := by kernel_rfl
@[go_sem] theorem Tryd.base17 : baseT Tryd.prog 17 = .ptr := by kernel_rfl
@[go_sem] theorem Tryd.shape17 : shapeT Tryd.prog 17 = some (false, 1) := by kernel_rfl
@[go_sem] theorem Tryd.zero17 : zeroD Tryd.prog 17 = some [.nilp] := by kernel_rfl
@[go_sem] theorem Tryd.some17 : (Tryd.prog.underlying 17).isNone = false := by kernel_rfl
@[go_sem] theorem Tryd.base18 : baseT Tryd.prog 18 = .struct := by kernel_rfl
@[go_sem] theorem Tryd.shape18 : shapeT Tryd.prog 18 = some (true, 1) := by kernel_rfl
@[go_sem] theorem Tryd.fields18 : fieldsT Tryd.prog 18 = some [(0, false, 1)] := by kernel_rfl
@[go_sem] theorem Tryd.zero18 : zeroD Tryd.prog 18 = some [.nilp] := by kernel_rfl
@[go_sem] theorem Tryd.some18 : (Tryd.prog.underlying 18).isNone = false := by kernel_rfl
@[go_sem] theorem Tryd.base19 : baseT Tryd.prog 19 = .struct := by kernel_rfl
@[go_sem] theorem Tryd.shape19 : shapeT Tryd.prog 19 = some (true, 1) := by kernel_rfl
@[go_sem] theorem Tryd.fields19 : fieldsT Tryd.prog 19 = some [(0, false, 1)] := by kernel_rfl
@[go_sem] theorem Tryd.zero19 : zeroD Tryd.prog 19 = some [.nilp] := by kernel_rfl
@[go_sem] theorem Tryd.some19 : (Tryd.prog.underlying 19).isNone = false := by kernel_rfl
@[go_sem] theorem Tryd.base20 : baseT Tryd.prog 20 = .iface := by kernel_rfl
@[go_sem] theorem Tryd.shape20 : shapeT Tryd.prog 20 = some (false, 1) := by kernel_rfl
@[go_sem] theorem Tryd.zero20 : zeroD Tryd.prog 20 = some [.nilif] := by kernel_rfl
@[go_sem] theorem Tryd.base21 : baseT Tryd.prog 21 = .int := by kernel_rfl
@[go_sem] theorem Tryd.shape21 : shapeT Tryd.prog 21 = some (false, 1) := by kernel_rfl
@[go_sem] theorem Tryd.int21 : intT Tryd.prog 21 = some .i32 := by kernel_rfl
@[go_sem] theorem Tryd.zero21 : zeroD Tryd.prog 21 = some [.int .i32 0] := by kernel_rfl
@[go_sem] theorem Tryd.some21 : (Tryd.prog.underlying 21).isNone = false := by kernel_rfl
@[go_sem] theorem Tryd.base22 : baseT Tryd.prog 22 = .slice := by kernel_rfl
@[go_sem] theorem Tryd.shape22 : shapeT Tryd.prog 22 = some (false, 1) := by kernel_rfl
@[go_sem] theorem Tryd.elem22 : elemT Tryd.prog 22 = some (31, 5, 48) := by kernel_rfl
@[go_sem] theorem Tryd.zero22 : zeroD Tryd.prog 22 = some [.nilsl] := by kernel_rfl
@[go_sem] theorem Tryd.some22 : (Tryd.prog.underlying 22).isNone = false := by kernel_rfl
@[go_sem] theorem Tryd.base23 : baseT Tryd.prog 23 = .func := by kernel_rfl
@[go_sem] theorem Tryd.shape23 : shapeT Tryd.prog 23 = some (false, 1) := by kernel_rfl
@[go_sem] theorem Tryd.zero23 : zeroD Tryd.prog 23 = some [.nilfn] := by kernel_rfl
@[go_sem] theorem Tryd.some23 : (Tryd.prog.underlying 23).isNone = false := by kernel_rfl
@[go_sem] theorem Tryd.base24 : baseT Tryd.prog 24 = .int := by kernel_rfl
@[go_sem] theorem Tryd.shape24 : shapeT Tryd.prog 24 = some (false, 1) := by kernel_rfl
@[go_sem] theorem Tryd.int24 : intT Tryd.prog 24 = some .i64 := by kernel_rfl
@[go_sem] theorem Tryd.zero24 : zeroD Tryd.prog 24 = some [.int .i64 0] := by kernel_rfl
@[go_sem] theorem Tryd.some24 : (Tryd.prog.underlying 24).isNone = false := by kernel_rfl
@[go_sem] theorem Tryd.base26 : baseT Tryd.prog 26 = .func := by kernel_rfl
@[go_sem] theorem Tryd.shape26 : shapeT Tryd.prog 26 = some (false, 1) := by kernel_rfl
@[go_sem] theorem Tryd.zero26 : zeroD Tryd.prog 26 = some [.nilfn] := by kernel_rfl
@[go_sem] theorem Tryd.some26 : (Tryd.prog.underlying 26).isNone = false := by kernel_rfl
@[go_sem] theorem Tryd.base27 : baseT Tryd.prog 27 = .func := by kernel_rfl
@[go_sem] theorem Tryd.shape27 : shapeT Tryd.prog 27 = some (false, 1) := by kernel_rfl
@[go_sem] theorem Tryd.zero27 : zeroD Tryd.prog 27 = some [.nilfn] := by kernel_rfl
@[go_sem] theorem Tryd.some27 : (Tryd.prog.underlying 27).isNone = false := by kernel_rfl
@[go_sem] theorem Tryd.base28 : baseT Tryd.prog 28 = .slice := by kernel_rfl
@[go_sem] theorem Tryd.shape28 : shapeT Tryd.prog 28 = some (false, 1) := by kernel_rfl
@[go_sem] theorem Tryd.elem28 : elemT Tryd.prog 28 = some (9, 1, 16) := by kernel_rfl
@[go_sem] theorem Tryd.zero28 : zeroD Tryd.prog 28 = some [.nilsl] := by kernel_rfl
@[go_sem] theorem Tryd.some28 : (Tryd.prog.underlying 28).isNone = false := by kernel_rfl
@[go_sem] theorem Tryd.base29 : baseT Tryd.prog 29 = .int := by kernel_rfl
@[go_sem] theorem Tryd.shape29 : shapeT Tryd.prog 29 = some (false, 1) := by kernel_rfl
@[go_sem] theorem Tryd.int29 : intT Tryd.prog 29 = some .i64 := by kernel_rfl
@[go_sem] theorem Tryd.zero29 : zeroD Tryd.prog 29 = some [.int .i64 0] := by kernel_rfl
@[go_sem] theorem Tryd.some29 : (Tryd.prog.underlying 29).isNone = false := by kernel_rfl
@[go_sem] theorem Tryd.base30 : baseT Tryd.prog 30 = .struct := by kernel_rfl
@[go_sem] theorem Tryd.shape30 : shapeT Tryd.prog 30 = some (true, 5) := by kernel_rfl
@[go_sem] theorem Tryd.fields30 : fieldsT Tryd.prog 30 = some [(0, false, 1), (1, false, 1), (2, false, 1), (3, false, 1), (4, false, 1)] := by kernel_rfl
@[go_sem] theorem Tryd.zero30 : zeroD Tryd.prog 30 = some [.int .i64 0, .str ⟨#[]⟩, .int .i64 0, .int .i64 0, .int .i64 0] := by kernel_rfl
@[go_sem] theorem Tryd.some30 : (Tryd.prog.underlying 30).isNone = false := by kernel_rfl
@[go_sem] theorem Tryd.base31 : baseT Tryd.prog 31 = .struct := by kernel_rfl
@[go_sem] theorem Tryd.shape31 : shapeT Tryd.prog 31 = some (true, 5) := by kernel_rfl
@[go_sem] theorem Tryd.fields31 : fieldsT Tryd.prog 31 = some [(0, false, 1), (1, false, 1), (2, false, 1), (3, false, 1), (4, false, 1)] := by kernel_rfl
@[go_sem] theorem Tryd.eq31 : flatEq Tryd.prog 31 = some [(0, .int), (1, .str), (2, .int), (3, .int), (4, .int)] := by kernel_rfl
@[go_sem] theorem Tryd.zero31 : zeroD Tryd.prog 31 = some [.int .i64 0, .str ⟨#[]⟩, .int .i64 0, .int .i64 0, .int .i64 0] := by kernel_rfl
@[go_sem] theorem Tryd.some31 : (Tryd.prog.underlying 31).isNone = false := by kernel_rfl
@[go_sem] theorem Tryd.base32 : baseT Tryd.prog 32 = .func := by kernel_rfl
@[go_sem] theorem Tryd.shape32 : shapeT Tryd.prog 32 = some (false, 1) := by kernel_rfl
@[go_sem] theorem Tryd.zero32 : zeroD Tryd.prog 32 = some [.nilfn] := by kernel_rfl
@[go_sem] theorem Tryd.some32 : (Tryd.prog.underlying 32).isNone = false := by kernel_rfl
@[go_sem] theorem Tryd.base33 : baseT Tryd.prog 33 = .struct := by kernel_rfl
@[go_sem] theorem Tryd.shape33 : shapeT Tryd.prog 33 = some (true, 4) := by kernel_rfl
@[go_sem] theorem Tryd.fields33 : fieldsT Tryd.prog 33 = some [(0, false, 1), (1, false, 1), (2, false, 1), (3, false, 1)] := by kernel_rfl
@[go_sem] theorem Tryd.zero33 : zeroD Tryd.prog 33 = some [.int .i64 0, .str ⟨#[]⟩, .int .i64 0, .int .i64 0] := by kernel_rfl
@[go_sem] theorem Tryd.some33 : (Tryd.prog.underlying 33).isNone = false := by kernel_rfl
@[go_sem] theorem Tryd.base34 : baseT Tryd.prog 34 = .struct := by kernel_rfl
@[go_sem] theorem Tryd.shape34 : shapeT Tryd.prog 34 = some (true, 4) := by kernel_rfl
@[go_sem] theorem Tryd.fields34 : fieldsT Tryd.prog 34 = some [(0, false, 1), (1, false, 1), (2, false, 1), (3, false, 1)] := by kernel_rfl
@[go_sem] theorem Tryd.eq34 : flatEq Tryd.prog 34 = some [(0, .int), (1, .str), (2, .int), (3, .int)] := by kernel_rfl
@[go_sem] theorem Tryd.zero34 : zeroD Tryd.prog 34 = some [.int .i64 0, .str ⟨#[]⟩, .int .i64 0, .int .i64 0] := by kernel_rfl
@[go_sem] theorem Tryd.some34 : (Tryd.prog.underlying 34).isNone = false := by kernel_rfl
@[go_sem] theorem Tryd.base36 : baseT Tryd.prog 36 = .func := by kernel_rfl
@[go_sem] theorem Tryd.shape36 : shapeT Tryd.prog 36 = some (false, 1) := by kernel_rfl
@[go_sem] theorem Tryd.zero36 : zeroD Tryd.prog 36 = some [.nilfn] := by kernel_rfl
@[go_sem] theorem Tryd.some36 : (Tryd.prog.underlying 36).isNone = false := by kernel_rfl
@[go_sem] theorem Tryd.base37 : baseT Tryd.prog 37 = .func := by kernel_rfl
@[go_sem] theorem Tryd.shape37 : shapeT Tryd.prog 37 = some (false, 1) := by kernel_rfl
@[go_sem] theorem Tryd.zero37 : zeroD Tryd.prog 37 = some [.nilfn] := by kernel_rfl
@[go_sem] theorem Tryd.some37 : (Tryd.prog.underlying 37).isNone = false := by kernel_rfl
@[go_sem] theorem Tryd.base38 : baseT Tryd.prog 38 = .func := by kernel_rfl
@[go_sem] theorem Tryd.shape38 : shapeT Tryd.prog 38 = some (false, 1) := by kernel_rfl
@[go_sem] theorem Tryd.zero38 : zeroD Tryd.prog 38 = some [.nilfn] := by kernel_rfl
@[go_sem] theorem Tryd.some38 : (Tryd.prog.underlying 38).isNone = false := by kernel_rfl
@[go_sem] theorem Tryd.base39 : baseT Tryd.prog 39 = .func := by kernel_rfl
@[go_sem] theorem Tryd.shape39 : shapeT Tryd.prog 39 = some (false, 1) := by kernel_rfl
@[go_sem] theorem Tryd.zero39 : zeroD Tryd.prog 39 = some [.nilfn] := by kernel_rfl
@[go_sem] theorem Tryd.some39 : (Tryd.prog.underlying 39).isNone = false := by kernel_rfl
@[go_sem] theorem Tryd.base40 : baseT Tryd.prog 40 = .func := by kernel_rfl
@[go_sem] theorem Tryd.shape40 : shapeT Tryd.prog 40 = some (false, 1) := by kernel_rfl
@[go_sem] theorem Tryd.zero40 : zeroD Tryd.prog 40 = some [.nilfn] := by kernel_rfl
@[go_sem] theorem Tryd.some40 : (Tryd.prog.underlying 40).isNone = false := by kernel_rfl
@[go_sem] theorem Tryd.base41 : baseT Tryd.prog 41 = .slice := by kernel_rfl
@[go_sem] theorem Tryd.shape41 : shapeT Tryd.prog 41 = some (false, 1) := by kernel_rfl
@[go_sem] theorem Tryd.elem41 : elemT Tryd.prog 41 = some (42, 1, 24) := by kernel_rfl
@[go_sem] theorem Tryd.zero41 : zeroD Tryd.prog 41 = some [.nilsl] := by kernel_rfl
@[go_sem] theorem Tryd.some41 : (Tryd.prog.underlying 41).isNone = false := by kernel_rfl
@[go_sem] theorem Tryd.base42 : baseT Tryd.prog 42 = .slice := by kernel_rfl
@[go_sem] theorem Tryd.shape42 : shapeT Tryd.prog 42 = some (false, 1) := by kernel_rfl
@[go_sem] theorem Tryd.elem42 : elemT Tryd.prog 42 = some (5, 1, 1) := by kernel_rfl
@[go_sem] theorem Tryd.bytes42 : bytesT Tryd.prog 42 = true := by kernel_rfl
@[go_sem] theorem Tryd.zero42 : zeroD Tryd.prog 42 = some [.nilsl] := by kernel_rfl
@[go_sem] theorem Tryd.some42 : (Tryd.prog.underlying 42).isNone = false := by kernel_rfl
@[go_sem] theorem Tryd.base43 : baseT Tryd.prog 43 = .func := by kernel_rfl
@[go_sem] theorem Tryd.shape43 : shapeT Tryd.prog 43 = some (false, 1) := by kernel_rfl
@[go_sem] theorem Tryd.zero43 : zeroD Tryd.prog 43 = some [.nilfn] := by kernel_rfl
@[go_sem] theorem Tryd.some43 : (Tryd.prog.underlying 43).isNone = false := by kernel_rfl
@[go_sem] theorem Tryd.base44 : baseT Tryd.prog 44 = .func := by kernel_rfl
@[go_sem] theorem Tryd.shape44 : shapeT Tryd.prog 44 = some (false, 1) := by kernel_rfl
@[go_sem] theorem Tryd.zero44 : zeroD Tryd.prog 44 = some [.nilfn] := by kernel_rfl
@[go_sem] theorem Tryd.some44 : (Tryd.prog.underlying 44).isNone = false := by kernel_rfl
@[go_sem] theorem Tryd.base45 : baseT Tryd.prog 45 = .func := by kernel_rfl
@[go_sem] theorem Tryd.shape45 : shapeT Tryd.prog 45 = some (false, 1) := by kernel_rfl
@[go_sem] theorem Tryd.zero45 : zeroD Tryd.prog 45 = some [.nilfn] := by kernel_rfl
@[go_sem] theorem Tryd.some45 : (Tryd.prog.underlying 45).isNone = false := by kernel_rfl
@[go_sem] theorem Tryd.base46 : baseT Tryd.prog 46 = .func := by kernel_rfl
@[go_sem] theorem Tryd.shape46 : shapeT Tryd.prog 46 = some (false, 1) := by kernel_rfl
@[go_sem] theorem Tryd.zero46 : zeroD Tryd.prog 46 = some [.nilfn] := by kernel_rfl
@[go_sem] theorem Tryd.some46 : (Tryd.prog.underlying 46).isNone = false := by kernel_rfl
@[go_sem] theorem Tryd.base47 : baseT Tryd.prog 47 = .func := by kernel_rfl
@[go_sem] theorem Tryd.shape47 : shapeT Tryd.prog 47 = some (false, 1) := by kernel_rfl
@[go_sem] theorem Tryd.zero47 : zeroD Tryd.prog 47 = some [.nilfn] := by kernel_rfl
@[go_sem] theorem Tryd.some47 : (Tryd.prog.underlying 47).isNone = false := by kernel_rfl
@[go_sem] theorem Tryd.base48 : baseT Tryd.prog 48 = .func := by kernel_rfl
@[go_sem] theorem Tryd.shape48 : shapeT Tryd.prog 48 = some (false, 1) := by kernel_rfl
@[go_sem] theorem Tryd.zero48 : zeroD Tryd.prog 48 = some [.nilfn] := by kernel_rfl
@[go_sem] theorem Tryd.some48 : (Tryd.prog.underlying 48).isNone = false := by kernel_rfl
@[go_sem] theorem Tryd.base49 : baseT Tryd.prog 49 = .func := by kernel_rfl
@[go_sem] theorem Tryd.shape49 : shapeT Tryd.prog 49 = some (false, 1) := by kernel_rfl
@[go_sem] theorem Tryd.zero49 : zeroD Tryd.prog 49 = some [.nilfn] := by kernel_rfl
@[go_sem] theorem Tryd.some49 : (Tryd.prog.underlying 49).isNone = false := by kernel_rfl
@[go_sem] theorem Tryd.base50 : baseT Tryd.prog 50 = .ptr := by kernel_rfl
@[go_sem] theorem Tryd.shape50 : shapeT Tryd.prog 50 = some (false, 1) := by kernel_rfl
@[go_sem] theorem Tryd.zero50 : zeroD Tryd.prog 50 = some [.nilp] := by kernel_rfl
@[go_sem] theorem Tryd.some50 : (Tryd.prog.underlying 50).isNone = false := by kernel_rfl
@[go_sem] theorem Tryd.base51 : baseT Tryd.prog 51 = .struct := by kernel_rfl
@[go_sem] theorem Tryd.shape51 : shapeT Tryd.prog 51 = some (true, 6) := by kernel_rfl
@[go_sem] theorem Tryd.fields51 : fieldsT Tryd.prog 51 = some [(0, false, 1), (1, false, 1), (2, false, 1), (3, false, 1), (4, false, 1), (5, false, 1)] := by kernel_rfl
@[go_sem] theorem Tryd.zero51 : zeroD Tryd.prog 51 = some [.str ⟨#[]⟩, .int .i64 0, .int .i64 0, .int .i64 0, .nilsl, .bool false] := by kernel_rfl
@[go_sem] theorem Tryd.some51 : (Tryd.prog.underlying 51).isNone = false := by kernel_rfl
@[go_sem] theorem Tryd.base52 : baseT Tryd.prog 52 = .struct := by kernel_rfl
@[go_sem] theorem Tryd.shape52 : shapeT Tryd.prog 52 = some (true, 6) := by kernel_rfl
@[go_sem] theorem Tryd.fields52 : fieldsT Tryd.prog 52 = some [(0, false, 1), (1, false, 1), (2, false, 1), (3, false, 1), (4, false, 1), (5, false, 1)] := by kernel_rfl
@[go_sem] theorem Tryd.zero52 : zeroD Tryd.prog 52 = some [.str ⟨#[]⟩, .int .i64 0, .int .i64 0, .int .i64 0, .nilsl, .bool false] := by kernel_rfl
@[go_sem] theorem Tryd.some52 : (Tryd.prog.underlying 52).isNone = false := by kernel_rfl
@[go_sem] theorem Tryd.base53 : baseT Tryd.prog 53 = .func := by kernel_rfl
@[go_sem] theorem Tryd.shape53 : shapeT Tryd.prog 53 = some (false, 1) := by kernel_rfl
@[go_sem] theorem Tryd.zero53 : zeroD Tryd.prog 53 = some [.nilfn] := by kernel_rfl
@[go_sem] theorem Tryd.some53 : (Tryd.prog.underlying 53).isNone = false := by kernel_rfl
@[go_sem] theorem Tryd.base54 : baseT Tryd.prog 54 = .func := by kernel_rfl
@[go_sem] theorem Tryd.shape54 : shapeT Tryd.prog 54 = some (false, 1) := by kernel_rfl
@[go_sem] theorem Tryd.zero54 : zeroD Tryd.prog 54 = some [.nilfn] := by kernel_rfl
@[go_sem] theorem Tryd.some54 : (Tryd.prog.underlying 54).isNone = false := by kernel_rfl
@[go_sem] theorem Tryd.base55 : baseT Tryd.prog 55 = .ptr := by kernel_rfl
@[go_sem] theorem Tryd.shape55 : shapeT Tryd.prog 55 = some (false, 1) := by kernel_rfl
@[go_sem] theorem Tryd.zero55 : zeroD Tryd.prog 55 = some [.nilp] := by kernel_rfl
@[go_sem] theorem Tryd.some55 : (Tryd.prog.underlying 55).isNone = false := by kernel_rfl
@[go_sem] theorem Tryd.base56 : baseT Tryd.prog 56 = .struct := by kernel_rfl
@[go_sem] theorem Tryd.shape56 : shapeT Tryd.prog 56 = some (true, 2) := by kernel_rfl
@[go_sem] theorem Tryd.fields56 : fieldsT Tryd.prog 56 = some [(0, false, 1), (1, false, 1)] := by kernel_rfl
@[go_sem] theorem Tryd.zero56 : zeroD Tryd.prog 56 = some [.nilp, .nilsl] := by kernel_rfl
@[go_sem] theorem Tryd.some56 : (Tryd.prog.underlying 56).isNone = false := by kernel_rfl
@[go_sem] theorem Tryd.base57 : baseT Tryd.prog 57 = .struct := by kernel_rfl
@[go_sem] theorem Tryd.shape57 : shapeT Tryd.prog 57 = some (true, 2) := by kernel_rfl
@[go_sem] theorem Tryd.fields57 : fieldsT Tryd.prog 57 = some [(0, false, 1), (1, false, 1)] := by kernel_rfl
@[go_sem] theorem Tryd.zero57 : zeroD Tryd.prog 57 = some [.nilp, .nilsl] := by kernel_rfl
@[go_sem] theorem Tryd.some57 : (Tryd.prog.underlying 57).isNone = false := by kernel_rfl
@[go_sem] theorem Tryd.base58 : baseT Tryd.prog 58 = .func := by kernel_rfl
@[go_sem] theorem Tryd.shape58 : shapeT Tryd.prog 58 = some (false, 1) := by kernel_rfl
@[go_sem] theorem Tryd.zero58 : zeroD Tryd.prog 58 = some [.nilfn] := by kernel_rfl
@[go_sem] theorem Tryd.some58 : (Tryd.prog.underlying 58).isNone = false := by kernel_rfl
@[go_sem] theorem Tryd.base59 : baseT Tryd.prog 59 = .iface := by kernel_rfl
@[go_sem] theorem Tryd.shape59 : shapeT Tryd.prog 59 = some (false, 1) := by kernel_rfl
@[go_sem] theorem Tryd.zero59 : zeroD Tryd.prog 59 = some [.nilif] := by kernel_rfl
@[go_sem] theorem Tryd.base60 : baseT Tryd.prog 60 = .iface := by kernel_rfl
@[go_sem] theorem Tryd.shape60 : shapeT Tryd.prog 60 = some (false, 1) := by kernel_rfl
@[go_sem] theorem Tryd.zero60 : zeroD Tryd.prog 60 = some [.nilif] := by kernel_rfl
@[go_sem] theorem Tryd.base62 : baseT Tryd.prog 62 = .func := by kernel_rfl
@[go_sem] theorem Tryd.shape62 : shapeT Tryd.prog 62 = some (false, 1) := by kernel_rfl
@[go_sem] theorem Tryd.zero62 : zeroD Tryd.prog 62 = some [.nilfn] := by kernel_rfl
@[go_sem] theorem Tryd.some62 : (Tryd.prog.underlying 62).isNone = false := by kernel_rfl
@[go_sem] theorem Tryd.base63 : baseT Tryd.prog 63 = .func := by kernel_rfl
@[go_sem] theorem Tryd.shape63 : shapeT Tryd.prog 63 = some (false, 1) := by kernel_rfl
@[go_sem] theorem Tryd.zero63 : zeroD Tryd.prog 63 = some [.nilfn] := by kernel_rfl
@[go_sem] theorem Tryd.some63 : (Tryd.prog.underlying 63).isNone = false := by kernel_rfl
@[go_sem] theorem Tryd.base64 : baseT Tryd.prog 64 = .func := by kernel_rfl
@[go_sem] theorem Tryd.shape64 : shapeT Tryd.prog 64 = some (false, 1) := by kernel_rfl
@[go_sem] theorem Tryd.zero64 : zeroD Tryd.prog 64 = some [.nilfn] := by kernel_rfl
@[go_sem] theorem Tryd.some64 : (Tryd.prog.underlying 64).isNone = false := by kernel_rfl
@[go_sem] theorem Tryd.base65 : baseT Tryd.prog 65 = .func := by kernel_rfl
@[go_sem] theorem Tryd.shape65 : shapeT Tryd.prog 65 = some (false, 1) := by kernel_rfl
@[go_sem] theorem Tryd.zero65 : zeroD Tryd.prog 65 = some [.nilfn] := by kernel_rfl
@[go_sem] theorem Tryd.some65 : (Tryd.prog.underlying 65).isNone = false := by kernel_rfl
@[go_sem] theorem Tryd.base66 : baseT Tryd.prog 66 = .func := by kernel_rfl
@[go_sem] theorem Tryd.shape66 : shapeT Tryd.prog 66 = some (false, 1) := by kernel_rfl
@[go_sem] theorem Tryd.zero66 : zeroD Tryd.prog 66 = some [.nilfn] := by kernel_rfl
@[go_sem] theorem Tryd.some66 : (Tryd.prog.underlying 66).isNone = false := by kernel_rfl
@[go_sem] theorem Tryd.base68 : baseT Tryd.prog 68 = .func := by kernel_rfl
@[go_sem] theorem Tryd.shape68 : shapeT Tryd.prog 68 = some (false, 1) := by kernel_rfl
@[go_sem] theorem Tryd.zero68 : zeroD Tryd.prog 68 = some [.nilfn] := by kernel_rfl
@[go_sem] theorem Tryd.some68 : (Tryd.prog.underlying 68).isNone = false := by kernel_rfl
@[go_sem] theorem Tryd.base69 : baseT Tryd.prog 69 = .func := by kernel_rfl
@[go_sem] theorem Tryd.shape69 : shapeT Tryd.prog 69 = some (false, 1) := by kernel_rfl
@[go_sem] theorem Tryd.zero69 : zeroD Tryd.prog 69 = some [.nilfn] := by kernel_rfl
@[go_sem] theorem Tryd.some69 : (Tryd.prog.underlying 69).isNone = false := by kernel_rfl
@[go_sem] theorem Tryd.base70 : baseT Tryd.prog 70 = .ptr := by kernel_rfl
@[go_sem] theorem Tryd.shape70 : shapeT Tryd.prog 70 = some (false, 1) := by kernel_rfl
@[go_sem] theorem Tryd.zero70 : zeroD Tryd.prog 70 = some [.nilp] := by kernel_rfl
@[go_sem] theorem Tryd.some70 : (Tryd.prog.underlying 70).isNone = false := by kernel_rfl
@[go_sem] theorem Tryd.base71 : baseT Tryd.prog 71 = .func := by kernel_rfl
@[go_sem] theorem Tryd.shape71 : shapeT Tryd.prog 71 = some (false, 1) := by kernel_rfl
@[go_sem] theorem Tryd.zero71 : zeroD Tryd.prog 71 = some [.nilfn] := by kernel_rfl
@[go_sem] theorem Tryd.some71 : (Tryd.prog.underlying 71).isNone = false := by kernel_rfl
@[go_sem] theorem Tryd.base72 : baseT Tryd.prog 72 = .func := by kernel_rfl
@[go_sem] theorem Tryd.shape72 : shapeT Tryd.prog 72 = some (false, 1) := by kernel_rfl
@[go_sem] theorem Tryd.zero72 : zeroD Tryd.prog 72 = some [.nilfn] := by kernel_rfl
@[go_sem] theorem Tryd.some72 : (Tryd.prog.underlying 72).isNone = false := by kernel_rfl
@[go_sem] theorem Tryd.base73 : baseT Tryd.prog 73 = .func := by kernel_rfl
@[go_sem] theorem Tryd.shape73 : shapeT Tryd.prog 73 = some (false, 1) := by kernel_rfl
@[go_sem] theorem Tryd.zero73 : zeroD Tryd.prog 73 = some [.nilfn] := by kernel_rfl
@[go_sem] theorem Tryd.some73 : (Tryd.prog.underlying 73).isNone = false := by kernel_rfl
@[go_sem] theorem Tryd.base74 : baseT Tryd.prog 74 = .other := by kernel_rfl
@[go_sem] theorem Tryd.shape74 : shapeT Tryd.prog 74 = some (true, 256) := by kernel_rfl
@[go_sem] theorem Tryd.arr74 : arrT Tryd.prog 74 = some (256, 1) := by kernel_rfl
@[go_sem] theorem Tryd.some74 : (Tryd.prog.underlying 74).isNone = false := by kernel_rfl
@[go_sem] theorem Tryd.base75 : baseT Tryd.prog 75 = .func := by kernel_rfl
@[go_sem] theorem Tryd.shape75 : shapeT Tryd.prog 75 = some (false, 1) := by kernel_rfl
@[go_sem] theorem Tryd.zero75 : zeroD Tryd.prog 75 = some [.nilfn] := by kernel_rfl
@[go_sem] theorem Tryd.some75 : (Tryd.prog.underlying 75).isNone = false := by kernel_rfl
@[go_sem] theorem Tryd.base76 : baseT Tryd.prog 76 = .func := by kernel_rfl
@[go_sem] theorem Tryd.shape76 : shapeT Tryd.prog 76 = some (false, 1) := by kernel_rfl
@[go_sem] theorem Tryd.zero76 : zeroD Tryd.prog 76 = some [.nilfn] := by kernel_rfl
@[go_sem] theorem Tryd.some76 : (Tryd.prog.underlying 76).isNone = false := by kernel_rfl
@[go_sem] theorem Tryd.base77 : baseT Tryd.prog 77 = .func := by kernel_rfl
@[go_sem] theorem Tryd.shape77 : shapeT Tryd.prog 77 = some (false, 1) := by kernel_rfl
@[go_sem] theorem Tryd.zero77 : zeroD Tryd.prog 77 = some [.nilfn] := by kernel_rfl
@[go_sem] theorem Tryd.some77 : (Tryd.prog.underlying 77).isNone = false := by kernel_rfl
@[go_sem] theorem Tryd.base78 : baseT Tryd.prog 78 = .other := by kernel_rfl
@[go_sem] theorem Tryd.shape78 : shapeT Tryd.prog 78 = some (false, 1) := by kernel_rfl
@[go_sem] theorem Tryd.zero78 : zeroD Tryd.prog 78 = some [.nilp] := by kernel_rfl
@[go_sem] theorem Tryd.some78 : (Tryd.prog.underlying 78).isNone = false := by kernel_rfl
@[go_sem] theorem Tryd.base79 : baseT Tryd.prog 79 = .func := by kernel_rfl
@[go_sem] theorem Tryd.shape79 : shapeT Tryd.prog 79 = some (false, 1) := by kernel_rfl
@[go_sem] theorem Tryd.zero79 : zeroD Tryd.prog 79 = some [.nilfn] := by kernel_rfl
@[go_sem] theorem Tryd.some79 : (Tryd.prog.underlying 79).isNone = false := by kernel_rfl
@[go_sem] theorem Tryd.base80 : baseT Tryd.prog 80 = .func := by kernel_rfl
@[go_sem] theorem Tryd.shape80 : shapeT Tryd.prog 80 = some (false, 1) := by kernel_rfl
@[go_sem] theorem Tryd.zero80 : zeroD Tryd.prog 80 = some [.nilfn] := by kernel_rfl
@[go_sem] theorem Tryd.some80 : (Tryd.prog.underlying 80).isNone = false := by kernel_rfl
@[go_sem] theorem Tryd.base81 : baseT Tryd.prog 81 = .func := by kernel_rfl
@[go_sem] theorem Tryd.shape81 : shapeT Tryd.prog 81 = some (false, 1) := by kernel_rfl
@[go_sem] theorem Tryd.zero81 : zeroD Tryd.prog 81 = some [.nilfn] := by kernel_rfl
@[go_sem] theorem Tryd.some81 : (Tryd.prog.underlying 81).isNone = false := by kernel_rfl
@[go_sem] theorem Tryd.base82 : baseT Tryd.prog 82 = .slice := by kernel_rfl
@[go_sem] theorem Tryd.shape82 : shapeT Tryd.prog 82 = some (false, 1) := by kernel_rfl
@[go_sem] theorem Tryd.elem82 : elemT Tryd.prog 82 = some (84, 2, 16) := by kernel_rfl
@[go_sem] theorem Tryd.zero82 : zeroD Tryd.prog 82 = some [.nilsl] := by kernel_rfl
@[go_sem] theorem Tryd.some82 : (Tryd.prog.underlying 82).isNone = false := by kernel_rfl
@[go_sem] theorem Tryd.base83 : baseT Tryd.prog 83 = .struct := by kernel_rfl
@[go_sem] theorem Tryd.shape83 : shapeT Tryd.prog 83 = some (true, 2) := by kernel_rfl
@[go_sem] theorem Tryd.fields83 : fieldsT Tryd.prog 83 = some [(0, false, 1), (1, false, 1)] := by kernel_rfl
@[go_sem] theorem Tryd.zero83 : zeroD Tryd.prog 83 = some [.int .i64 0, .int .i64 0] := by kernel_rfl
@[go_sem] theorem Tryd.some83 : (Tryd.prog.underlying 83).isNone = false := by kernel_rfl
@[go_sem] theorem Tryd.base84 : baseT Tryd.prog 84 = .struct := by kernel_rfl
@[go_sem] theorem Tryd.shape84 : shapeT Tryd.prog 84 = some (true, 2) := by kernel_rfl
@[go_sem] theorem Tryd.fields84 : fieldsT Tryd.prog 84 = some [(0, false, 1), (1, false, 1)] := by kernel_rfl
@[go_sem] theorem Tryd.zero84 : zeroD Tryd.prog 84 = some [.int .i64 0, .int .i64 0] := by kernel_rfl
@[go_sem] theorem Tryd.some84 : (Tryd.prog.underlying 84).isNone = false := by kernel_rfl
@[go_sem] theorem Tryd.base85 : baseT Tryd.prog 85 = .int := by kernel_rfl
@[go_sem] theorem Tryd.shape85 : shapeT Tryd.prog 85 = some (false, 1) := by kernel_rfl
@[go_sem] theorem Tryd.int85 : intT Tryd.prog 85 = some .u32 := by kernel_rfl
@[go_sem] theorem Tryd.zero85 : zeroD Tryd.prog 85 = some [.int .u32 0] := by kernel_rfl
@[go_sem] theorem Tryd.some85 : (Tryd.prog.underlying 85).isNone = false := by kernel_rfl
@[go_sem] theorem Tryd.base86 : baseT Tryd.prog 86 = .func := by kernel_rfl
@[go_sem] theorem Tryd.shape86 : shapeT Tryd.prog 86 = some (false, 1) := by kernel_rfl
@[go_sem] theorem Tryd.zero86 : zeroD Tryd.prog 86 = some [.nilfn] := by kernel_rfl
@[go_sem] theorem Tryd.some86 : (Tryd.prog.underlying 86).isNone = false := by kernel_rfl
@[go_sem] theorem Tryd.base87 : baseT Tryd.prog 87 = .ptr := by kernel_rfl
@[go_sem] theorem Tryd.shape87 : shapeT Tryd.prog 87 = some (false, 1) := by kernel_rfl
@[go_sem] theorem Tryd.zero87 : zeroD Tryd.prog 87 = some [.nilp] := by kernel_rfl
@[go_sem] theorem Tryd.some87 : (Tryd.prog.underlying 87).isNone = false := by kernel_rfl
@[go_sem] theorem Tryd.base88 : baseT Tryd.prog 88 = .other := by kernel_rfl
@[go_sem] theorem Tryd.shape88 : shapeT Tryd.prog 88 = some (true, 24) := by kernel_rfl
@[go_sem] theorem Tryd.arr88 : arrT Tryd.prog 88 = some (24, 1) := by kernel_rfl
@[go_sem] theorem Tryd.zero88 : zeroD Tryd.prog 88 = some [.int .u8 0, .int .u8 0, .int .u8 0, .int .u8 0, .int .u8 0, .int .u8 0, .int .u8 0, .int .u8 0, .int .u8 0, .int .u8 0, .int .u8 0, .int .u8 0, .int .u8 0, .int .u8 0, .int .u8 0, .int .u8 0, .int .u8 0, .int .u8 0, .int .u8 0, .int .u8 0, .int .u8 0, .int .u8 0, .int .u8 0, .int .u8 0] := by kernel_rfl
@[go_sem] theorem Tryd.some88 : (Tryd.prog.underlying 88).isNone = false := by kernel_rfl
@[go_sem] theorem Tryd.base89 : baseT Tryd.prog 89 = .int := by kernel_rfl
@[go_sem] theorem Tryd.shape89 : shapeT Tryd.prog 89 = some (false, 1) := by kernel_rfl
@[go_sem] theorem Tryd.int89 : intT Tryd.prog 89 = some .u64 := by kernel_rfl
@[go_sem] theorem Tryd.zero89 : zeroD Tryd.prog 89 = some [.int .u64 0] := by kernel_rfl
@[go_sem] theorem Tryd.some89 : (Tryd.prog.underlying 89).isNone = false := by kernel_rfl
@[go_sem] theorem Tryd.base90 : baseT Tryd.prog 90 = .func := by kernel_rfl
@[go_sem] theorem Tryd.shape90 : shapeT Tryd.prog 90 = some (false, 1) := by kernel_rfl
@[go_sem] theorem Tryd.zero90 : zeroD Tryd.prog 90 = some [.nilfn] := by kernel_rfl
@[go_sem] theorem Tryd.some90 : (Tryd.prog.underlying 90).isNone = false := by kernel_rfl
@[go_sem] theorem Tryd.base91 : baseT Tryd.prog 91 = .func := by kernel_rfl
@[go_sem] theorem Tryd.shape91 : shapeT Tryd.prog 91 = some (false, 1) := by kernel_rfl
@[go_sem] theorem Tryd.zero91 : zeroD Tryd.prog 91 = some [.nilfn] := by kernel_rfl
@[go_sem] theorem Tryd.some91 : (Tryd.prog.underlying 91).isNone = false := by kernel_rfl
@[go_sem] theorem Tryd.base93 : baseT Tryd.prog 93 = .func := by kernel_rfl
@[go_sem] theorem Tryd.shape93 : shapeT Tryd.prog 93 = some (false, 1) := by kernel_rfl
@[go_sem] theorem Tryd.zero93 : zeroD Tryd.prog 93 = some [.nilfn] := by kernel_rfl
@[go_sem] theorem Tryd.some93 : (Tryd.prog.underlying 93).isNone = false := by kernel_rfl
@[go_sem] theorem Tryd.base94 : baseT Tryd.prog 94 = .func := by kernel_rfl
@[go_sem] theorem Tryd.shape94 : shapeT Tryd.prog 94 = some (false, 1) := by kernel_rfl
@[go_sem] theorem Tryd.zero94 : zeroD Tryd.prog 94 = some [.nilfn] := by kernel_rfl
@[go_sem] theorem Tryd.some94 : (Tryd.prog.underlying 94).isNone = false := by kernel_rfl
@[go_sem] theorem Tryd.base95 : baseT Tryd.prog 95 = .other := by kernel_rfl
@[go_sem] theorem Tryd.shape95 : shapeT Tryd.prog 95 = some (true, 256) := by kernel_rfl
@[go_sem] theorem Tryd.arr95 : arrT Tryd.prog 95 = some (256, 1) := by kernel_rfl
@[go_sem] theorem Tryd.some95 : (Tryd.prog.underlying 95).isNone = false := by kernel_rfl
@[go_sem] theorem Tryd.base96 : baseT Tryd.prog 96 = .other := by kernel_rfl
@[go_sem] theorem Tryd.shape96 : shapeT Tryd.prog 96 = some (true, 256) := by kernel_rfl
@[go_sem] theorem Tryd.arr96 : arrT Tryd.prog 96 = some (256, 1) := by kernel_rfl
@[go_sem] theorem Tryd.some96 : (Tryd.prog.underlying 96).isNone = false := by kernel_rfl
@[go_sem] theorem Tryd.base98 : baseT Tryd.prog 98 = .func := by kernel_rfl
@[go_sem] theorem Tryd.shape98 : shapeT Tryd.prog 98 = some (false, 1) := by kernel_rfl
@[go_sem] theorem Tryd.zero98 : zeroD Tryd.prog 98 = some [.nilfn] := by kernel_rfl
@[go_sem] theorem Tryd.some98 : (Tryd.prog.underlying 98).isNone = false := by kernel_rfl
@[go_sem] theorem Tryd.base99 : baseT Tryd.prog 99 = .func := by kernel_rfl
@[go_sem] theorem Tryd.shape99 : shapeT Tryd.prog 99 = some (false, 1) := by kernel_rfl
@[go_sem] theorem Tryd.zero99 : zeroD Tryd.prog 99 = some [.nilfn] := by kernel_rfl
@[go_sem] theorem Tryd.some99 : (Tryd.prog.underlying 99).isNone = false := by kernel_rfl
@[go_sem] theorem Tryd.base100 : baseT Tryd.prog 100 = .ptr := by kernel_rfl
@[go_sem] theorem Tryd.shape100 : shapeT Tryd.prog 100 = some (false, 1) := by kernel_rfl
@[go_sem] theorem Tryd.zero100 : zeroD Tryd.prog 100 = some [.nilp] := by kernel_rfl
@[go_sem] theorem Tryd.some100 : (Tryd.prog.underlying 100).isNone = false := by kernel_rfl
@[go_sem] theorem Tryd.base101 : baseT Tryd.prog 101 = .func := by kernel_rfl
@[go_sem] theorem Tryd.shape101 : shapeT Tryd.prog 101 = some (false, 1) := by kernel_rfl
@[go_sem] theorem Tryd.zero101 : zeroD Tryd.prog 101 = some [.nilfn] := by kernel_rfl
@[go_sem] theorem Tryd.some101 : (Tryd.prog.underlying 101).isNone = false := by kernel_rfl
@[go_sem] theorem Tryd.base102 : baseT Tryd.prog 102 = .slice := by kernel_rfl
@[go_sem] theorem Tryd.shape102 : shapeT Tryd.prog 102 = some (false, 1) := by kernel_rfl
@[go_sem] theorem Tryd.elem102 : elemT Tryd.prog 102 = some (108, 3, 6) := by kernel_rfl
@[go_sem] theorem Tryd.zero102 : zeroD Tryd.prog 102 = some [.nilsl] := by kernel_rfl
@[go_sem] theorem Tryd.some102 : (Tryd.prog.underlying 102).isNone = false := by kernel_rfl
@[go_sem] theorem Tryd.base103 : baseT Tryd.prog 103 = .slice := by kernel_rfl
@[go_sem] theorem Tryd.shape103 : shapeT Tryd.prog 103 = some (false, 1) := by kernel_rfl
@[go_sem] theorem Tryd.elem103 : elemT Tryd.prog 103 = some (111, 3, 12) := by kernel_rfl
@[go_sem] theorem Tryd.zero103 : zeroD Tryd.prog 103 = some [.nilsl] := by kernel_rfl
@[go_sem] theorem Tryd.some103 : (Tryd.prog.underlying 103).isNone = false := by kernel_rfl
@[go_sem] theorem Tryd.base104 : baseT Tryd.prog 104 = .struct := by kernel_rfl
@[go_sem] theorem Tryd.shape104 : shapeT Tryd.prog 104 = some (true, 3) := by kernel_rfl
@[go_sem] theorem Tryd.fields104 : fieldsT Tryd.prog 104 = some [(0, false, 1), (1, false, 1), (2, false, 1)] := by kernel_rfl
@[go_sem] theorem Tryd.zero104 : zeroD Tryd.prog 104 = some [.nilsl, .nilsl, .int .i64 0] := by kernel_rfl
@[go_sem] theorem Tryd.some104 : (Tryd.prog.underlying 104).isNone = false := by kernel_rfl
@[go_sem] theorem Tryd.base105 : baseT Tryd.prog 105 = .struct := by kernel_rfl
@[go_sem] theorem Tryd.shape105 : shapeT Tryd.prog 105 = some (true, 3) := by kernel_rfl
@[go_sem] theorem Tryd.fields105 : fieldsT Tryd.prog 105 = some [(0, false, 1), (1, false, 1), (2, false, 1)] := by kernel_rfl
@[go_sem] theorem Tryd.zero105 : zeroD Tryd.prog 105 = some [.nilsl, .nilsl, .int .i64 0] := by kernel_rfl
@[go_sem] theorem Tryd.some105 : (Tryd.prog.underlying 105).isNone = false := by kernel_rfl
@[go_sem] theorem Tryd.base106 : baseT Tryd.prog 106 = .int := by kernel_rfl
@[go_sem] theorem Tryd.shape106 : shapeT Tryd.prog 106 = some (false, 1) := by kernel_rfl
@[go_sem] theorem Tryd.int106 : intT Tryd.prog 106 = some .u16 := by kernel_rfl
@[go_sem] theorem Tryd.zero106 : zeroD Tryd.prog 106 = some [.int .u16 0] := by kernel_rfl
@[go_sem] theorem Tryd.some106 : (Tryd.prog.underlying 106).isNone = false := by kernel_rfl
@[go_sem] theorem Tryd.base107 : baseT Tryd.prog 107 = .struct := by kernel_rfl
@[go_sem] theorem Tryd.shape107 : shapeT Tryd.prog 107 = some (true, 3) := by kernel_rfl
@[go_sem] theorem Tryd.fields107 : fieldsT Tryd.prog 107 = some [(0, false, 1), (1, false, 1), (2, false, 1)] := by kernel_rfl
@[go_sem] theorem Tryd.zero107 : zeroD Tryd.prog 107 = some [.int .u16 0, .int .u16 0, .int .u16 0] := by kernel_rfl
@[go_sem] theorem Tryd.some107 : (Tryd.prog.underlying 107).isNone = false := by kernel_rfl
@[go_sem] theorem Tryd.base108 : baseT Tryd.prog 108 = .struct := by kernel_rfl
@[go_sem] theorem Tryd.shape108 : shapeT Tryd.prog 108 = some (true, 3) := by kernel_rfl
@[go_sem] theorem Tryd.fields108 : fieldsT Tryd.prog 108 = some [(0, false, 1), (1, false, 1), (2, false, 1)] := by kernel_rfl
@[go_sem] theorem Tryd.zero108 : zeroD Tryd.prog 108 = some [.int .u16 0, .int .u16 0, .int .u16 0] := by kernel_rfl
@[go_sem] theorem Tryd.some108 : (Tryd.prog.underlying 108).isNone = false := by kernel_rfl
@[go_sem] theorem Tryd.base109 : baseT Tryd.prog 109 = .func := by kernel_rfl
@[go_sem] theorem Tryd.shape109 : shapeT Tryd.prog 109 = some (false, 1) := by kernel_rfl
@[go_sem] theorem Tryd.zero109 : zeroD Tryd.prog 109 = some [.nilfn] := by kernel_rfl
@[go_sem] theorem Tryd.some109 : (Tryd.prog.underlying 109).isNone = false := by kernel_rfl
@[go_sem] theorem Tryd.base110 : baseT Tryd.prog 110 = .struct := by kernel_rfl
@[go_sem] theorem Tryd.shape110 : shapeT Tryd.prog 110 = some (true, 3) := by kernel_rfl
@[go_sem] theorem Tryd.fields110 : fieldsT Tryd.prog 110 = some [(0, false, 1), (1, false, 1), (2, false, 1)] := by kernel_rfl
@[go_sem] theorem Tryd.zero110 : zeroD Tryd.prog 110 = some [.int .u32 0, .int .u32 0, .int .u32 0] := by kernel_rfl
@[go_sem] theorem Tryd.some110 : (Tryd.prog.underlying 110).isNone = false := by kernel_rfl
@[go_sem] theorem Tryd.base111 : baseT Tryd.prog 111 = .struct := by kernel_rfl
@[go_sem] theorem Tryd.shape111 : shapeT Tryd.prog 111 = some (true, 3) := by kernel_rfl
@[go_sem] theorem Tryd.fields111 : fieldsT Tryd.prog 111 = some [(0, false, 1), (1, false, 1), (2, false, 1)] := by kernel_rfl
@[go_sem] theorem Tryd.zero111 : zeroD Tryd.prog 111 = some [.int .u32 0, .int .u32 0, .int .u32 0] := by kernel_rfl
@[go_sem] theorem Tryd.some111 : (Tryd.prog.underlying 111).isNone = false := by kernel_rfl
@[go_sem] theorem Tryd.base112 : baseT Tryd.prog 112 = .func := by kernel_rfl
@[go_sem] theorem Tryd.shape112 : shapeT Tryd.prog 112 = some (false, 1) := by kernel_rfl
@[go_sem] theorem Tryd.zero112 : zeroD Tryd.prog 112 = some [.nilfn] := by kernel_rfl
@[go_sem] theorem Tryd.some112 : (Tryd.prog.underlying 112).isNone = false := by kernel_rfl
@[go_sem] theorem Tryd.base113 : baseT Tryd.prog 113 = .func := by kernel_rfl
@[go_sem] theorem Tryd.shape113 : shapeT Tryd.prog 113 = some (false, 1) := by kernel_rfl
@[go_sem] theorem Tryd.zero113 : zeroD Tryd.prog 113 = some [.nilfn] := by kernel_rfl
@[go_sem] theorem Tryd.some113 : (Tryd.prog.underlying 113).isNone = false := by kernel_rfl
@[go_sem] theorem Tryd.base114 : baseT Tryd.prog 114 = .func := by kernel_rfl
@[go_sem] theorem Tryd.shape114 : shapeT Tryd.prog 114 = some (false, 1) := by kernel_rfl
@[go_sem] theorem Tryd.zero114 : zeroD Tryd.prog 114 = some [.nilfn] := by kernel_rfl
@[go_sem] theorem Tryd.some114 : (Tryd.prog.underlying 114).isNone = false := by kernel_rfl
@[go_sem] theorem Tryd.base115 : baseT Tryd.prog 115 = .other := by kernel_rfl
@[go_sem] theorem Tryd.shape115 : shapeT Tryd.prog 115 = some (true, 20) := by kernel_rfl
@[go_sem] theorem Tryd.arr115 : arrT Tryd.prog 115 = some (20, 1) := by kernel_rfl
@[go_sem] theorem Tryd.zero115 : zeroD Tryd.prog 115 = some [.int .u64 0, .int .u64 0, .int .u64 0, .int .u64 0, .int .u64 0, .int .u64 0, .int .u64 0, .int .u64 0, .int .u64 0, .int .u64 0, .int .u64 0, .int .u64 0, .int .u64 0, .int .u64 0, .int .u64 0, .int .u64 0, .int .u64 0, .int .u64 0, .int .u64 0, .int .u64 0] := by kernel_rfl
@[go_sem] theorem Tryd.some115 : (Tryd.prog.underlying 115).isNone = false := by kernel_rfl
@[go_sem] theorem Tryd.base116 : baseT Tryd.prog 116 = .other := by kernel_rfl
@[go_sem] theorem Tryd.shape116 : shapeT Tryd.prog 116 = some (true, 65) := by kernel_rfl
@[go_sem] theorem Tryd.arr116 : arrT Tryd.prog 116 = some (65, 1) := by kernel_rfl
@[go_sem] theorem Tryd.some116 : (Tryd.prog.underlying 116).isNone = false := by kernel_rfl
@[go_sem] theorem Tryd.base117 : baseT Tryd.prog 117 = .func := by kernel_rfl
@[go_sem] theorem Tryd.shape117 : shapeT Tryd.prog 117 = some (false, 1) := by kernel_rfl
@[go_sem] theorem Tryd.zero117 : zeroD Tryd.prog 117 = some [.nilfn] := by kernel_rfl
@[go_sem] theorem Tryd.some117 : (Tryd.prog.underlying 117).isNone = false := by kernel_rfl
@[go_sem] theorem Tryd.base118 : baseT Tryd.prog 118 = .int := by kernel_rfl
@[go_sem] theorem Tryd.shape118 : shapeT Tryd.prog 118 = some (false, 1) := by kernel_rfl
@[go_sem] theorem Tryd.int118 : intT Tryd.prog 118 = some .u64 := by kernel_rfl
@[go_sem] theorem Tryd.zero118 : zeroD Tryd.prog 118 = some [.int .u64 0] := by kernel_rfl
@[go_sem] theorem Tryd.some118 : (Tryd.prog.underlying 118).isNone = false := by kernel_rfl
@[go_sem] theorem Tryd.base119 : baseT Tryd.prog 119 = .func := by kernel_rfl
@[go_sem] theorem Tryd.shape119 : shapeT Tryd.prog 119 = some (false, 1) := by kernel_rfl
@[go_sem] theorem Tryd.zero119 : zeroD Tryd.prog 119 = some [.nilfn] := by kernel_rfl
@[go_sem] theorem Tryd.some119 : (Tryd.prog.underlying 119).isNone = false := by kernel_rfl
@[go_sem] theorem Tryd.base121 : baseT Tryd.prog 121 = .func := by kernel_rfl
@[go_sem] theorem Tryd.shape121 : shapeT Tryd.prog 121 = some (false, 1) := by kernel_rfl
@[go_sem] theorem Tryd.zero121 : zeroD Tryd.prog 121 = some [.nilfn] := by kernel_rfl
@[go_sem] theorem Tryd.some121 : (Tryd.prog.underlying 121).isNone = false := by kernel_rfl
@[go_sem] theorem Tryd.base122 : baseT Tryd.prog 122 = .func := by kernel_rfl
@[go_sem] theorem Tryd.shape122 : shapeT Tryd.prog 122 = some (false, 1) := by kernel_rfl
@[go_sem] theorem Tryd.zero122 : zeroD Tryd.prog 122 = some [.nilfn] := by kernel_rfl
@[go_sem] theorem Tryd.some122 : (Tryd.prog.underlying 122).isNone = false := by kernel_rfl
@[go_sem] theorem Tryd.base123 : baseT Tryd.prog 123 = .int := by kernel_rfl
@[go_sem] theorem Tryd.shape123 : shapeT Tryd.prog 123 = some (false, 1) := by kernel_rfl
@[go_sem] theorem Tryd.int123 : intT Tryd.prog 123 = some .i64 := by kernel_rfl
@[go_sem] theorem Tryd.zero123 : zeroD Tryd.prog 123 = some [.int .i64 0] := by kernel_rfl
@[go_sem] theorem Tryd.some123 : (Tryd.prog.underlying 123).isNone = false := by kernel_rfl
@[go_sem] theorem Tryd.base125 : baseT Tryd.prog 125 = .func := by kernel_rfl
@[go_sem] theorem Tryd.shape125 : shapeT Tryd.prog 125 = some (false, 1) := by kernel_rfl
@[go_sem] theorem Tryd.zero125 : zeroD Tryd.prog 125 = some [.nilfn] := by kernel_rfl
@[go_sem] theorem Tryd.some125 : (Tryd.prog.underlying 125).isNone = false := by kernel_rfl
@[go_sem] theorem Tryd.base126 : baseT Tryd.prog 126 = .ptr := by kernel_rfl
@[go_sem] theorem Tryd.shape126 : shapeT Tryd.prog 126 = some (false, 1) := by kernel_rfl
@[go_sem] theorem Tryd.zero126 : zeroD Tryd.prog 126 = some [.nilp] := by kernel_rfl
@[go_sem] theorem Tryd.some126 : (Tryd.prog.underlying 126).isNone = false := by kernel_rfl
@[go_sem] theorem Tryd.base127 : baseT Tryd.prog 127 = .func := by kernel_rfl
@[go_sem] theorem Tryd.shape127 : shapeT Tryd.prog 127 = some (false, 1) := by kernel_rfl
@[go_sem] theorem Tryd.zero127 : zeroD Tryd.prog 127 = some [.nilfn] := by kernel_rfl
@[go_sem] theorem Tryd.some127 : (Tryd.prog.underlying 127).isNone = false := by kernel_rfl
@[go_sem] theorem Tryd.base128 : baseT Tryd.prog 128 = .func := by kernel_rfl
@[go_sem] theorem Tryd.shape128 : shapeT Tryd.prog 128 = some (false, 1) := by kernel_rfl
@[go_sem] theorem Tryd.zero128 : zeroD Tryd.prog 128 = some [.nilfn] := by kernel_rfl
@[go_sem] theorem Tryd.some128 : (Tryd.prog.underlying 128).isNone = false := by kernel_rfl
@[go_sem] theorem Tryd.base129 : baseT Tryd.prog 129 = .ptr := by kernel_rfl
@[go_sem] theorem Tryd.shape129 : shapeT Tryd.prog 129 = some (false, 1) := by kernel_rfl
@[go_sem] theorem Tryd.zero129 : zeroD Tryd.prog 129 = some [.nilp] := by kernel_rfl
@[go_sem] theorem Tryd.some129 : (Tryd.prog.underlying 129).isNone = false := by kernel_rfl
@[go_sem] theorem Tryd.base130 : baseT Tryd.prog 130 = .ptr := by kernel_rfl
@[go_sem] theorem Tryd.shape130 : shapeT Tryd.prog 130 = some (false, 1) := by kernel_rfl
@[go_sem] theorem Tryd.zero130 : zeroD Tryd.prog 130 = some [.nilp] := by kernel_rfl
@[go_sem] theorem Tryd.some130 : (Tryd.prog.underlying 130).isNone = false := by kernel_rfl
@[go_sem] theorem Tryd.base131 : baseT Tryd.prog 131 = .func := by kernel_rfl
@[go_sem] theorem Tryd.shape131 : shapeT Tryd.prog 131 = some (false, 1) := by kernel_rfl
@[go_sem] theorem Tryd.zero131 : zeroD Tryd.prog 131 = some [.nilfn] := by kernel_rfl
@[go_sem] theorem Tryd.some131 : (Tryd.prog.underlying 131).isNone = false := by kernel_rfl
@[go_sem] theorem Tryd.base132 : baseT Tryd.prog 132 = .func := by kernel_rfl
@[go_sem] theorem Tryd.shape132 : shapeT Tryd.prog 132 = some (false, 1) := by kernel_rfl
@[go_sem] theorem Tryd.zero132 : zeroD Tryd.prog 132 = some [.nilfn] := by kernel_rfl
@[go_sem] theorem Tryd.some132 : (Tryd.prog.underlying 132).isNone = false := by kernel_rfl
@[go_sem] theorem Tryd.base134 : baseT Tryd.prog 134 = .func := by kernel_rfl
@[go_sem] theorem Tryd.shape134 : shapeT Tryd.prog 134 = some (false, 1) := by kernel_rfl
@[go_sem] theorem Tryd.zero134 : zeroD Tryd.prog 134 = some [.nilfn] := by kernel_rfl
@[go_sem] theorem Tryd.some134 : (Tryd.prog.underlying 134).isNone = false := by kernel_rfl
@[go_sem] theorem Tryd.base135 : baseT Tryd.prog 135 = .func := by kernel_rfl
@[go_sem] theorem Tryd.shape135 : shapeT Tryd.prog 135 = some (false, 1) := by kernel_rfl
@[go_sem] theorem Tryd.zero135 : zeroD Tryd.prog 135 = some [.nilfn] := by kernel_rfl
@[go_sem] theorem Tryd.some135 : (Tryd.prog.underlying 135).isNone = false := by kernel_rfl
@[go_sem] theorem Tryd.base136 : baseT Tryd.prog 136 = .struct := by kernel_rfl
@[go_sem] theorem Tryd.shape136 : shapeT Tryd.prog 136 = some (true, 3) := by kernel_rfl
@[go_sem] theorem Tryd.fields136 : fieldsT Tryd.prog 136 = some [(0, false, 1), (1, false, 1), (2, false, 1)] := by kernel_rfl
@[go_sem] theorem Tryd.zero136 : zeroD Tryd.prog 136 = some [.str ⟨#[]⟩, .str ⟨#[]⟩, .nilif] := by kernel_rfl
@[go_sem] theorem Tryd.some136 : (Tryd.prog.underlying 136).isNone = false := by kernel_rfl
@[go_sem] theorem Tryd.base137 : baseT Tryd.prog 137 = .struct := by kernel_rfl
@[go_sem] theorem Tryd.shape137 : shapeT Tryd.prog 137 = some (true, 3) := by kernel_rfl
@[go_sem] theorem Tryd.fields137 : fieldsT Tryd.prog 137 = some [(0, false, 1), (1, false, 1), (2, false, 1)] := by kernel_rfl
@[go_sem] theorem Tryd.zero137 : zeroD Tryd.prog 137 = some [.str ⟨#[]⟩, .str ⟨#[]⟩, .nilif] := by kernel_rfl
@[go_sem] theorem Tryd.some137 : (Tryd.prog.underlying 137).isNone = false := by kernel_rfl
@[go_sem] theorem Tryd.base138 : baseT Tryd.prog 138 = .func := by kernel_rfl
@[go_sem] theorem Tryd.shape138 : shapeT Tryd.prog 138 = some (false, 1) := by kernel_rfl
@[go_sem] theorem Tryd.zero138 : zeroD Tryd.prog 138 = some [.nilfn] := by kernel_rfl
@[go_sem] theorem Tryd.some138 : (Tryd.prog.underlying 138).isNone = false := by kernel_rfl
@[go_sem] theorem Tryd.base139 : baseT Tryd.prog 139 = .other := by kernel_rfl
@[go_sem] theorem Tryd.shape139 : shapeT Tryd.prog 139 = some (true, 32) := by kernel_rfl
@[go_sem] theorem Tryd.arr139 : arrT Tryd.prog 139 = some (32, 1) := by kernel_rfl
@[go_sem] theorem Tryd.zero139 : zeroD Tryd.prog 139 = some [.int .u8 0, .int .u8 0, .int .u8 0, .int .u8 0, .int .u8 0, .int .u8 0, .int .u8 0, .int .u8 0, .int .u8 0, .int .u8 0, .int .u8 0, .int .u8 0, .int .u8 0, .int .u8 0, .int .u8 0, .int .u8 0, .int .u8 0, .int .u8 0, .int .u8 0, .int .u8 0, .int .u8 0, .int .u8 0, .int .u8 0, .int .u8 0, .int .u8 0, .int .u8 0, .int .u8 0, .int .u8 0, .int .u8 0, .int .u8 0, .int .u8 0, .int .u8 0] := by kernel_rfl
@[go_sem] theorem Tryd.some139 : (Tryd.prog.underlying 139).isNone = false := by kernel_rfl
@[go_sem] theorem Tryd.base140 : baseT Tryd.prog 140 = .other := by kernel_rfl
@[go_sem] theorem Tryd.shape140 : shapeT Tryd.prog 140 = some (true, 64) := by kernel_rfl
@[go_sem] theorem Tryd.arr140 : arrT Tryd.prog 140 = some (64, 1) := by kernel_rfl
@[go_sem] theorem Tryd.zero140 : zeroD Tryd.prog 140 = some [.int .u8 0, .int .u8 0, .int .u8 0, .int .u8 0, .int .u8 0, .int .u8 0, .int .u8 0, .int .u8 0, .int .u8 0, .int .u8 0, .int .u8 0, .int .u8 0, .int .u8 0, .int .u8 0, .int .u8 0, .int .u8 0, .int .u8 0, .int .u8 0, .int .u8 0, .int .u8 0, .int .u8 0, .int .u8 0, .int .u8 0, .int .u8 0, .int .u8 0, .int .u8 0, .int .u8 0, .int .u8 0, .int .u8 0, .int .u8 0, .int .u8 0, .int .u8 0, .int .u8 0, .int .u8 0, .int .u8 0, .int .u8 0, .int .u8 0, .int .u8 0, .int .u8 0, .int .u8 0, .int .u8 0, .int .u8 0, .int .u8 0, .int .u8 0, .int .u8 0, .int .u8 0, .int .u8 0, .int .u8 0, .int .u8 0, .int .u8 0, .int .u8 0, .int .u8 0, .int .u8 0, .int .u8 0, .int .u8 0, .int .u8 0, .int .u8 0, .int .u8 0, .int .u8 0, .int .u8 0, .int .u8 0, .int .u8 0, .int .u8 0, .int .u8 0] := by kernel_rfl
@[go_sem] theorem Tryd.some140 : (Tryd.prog.underlying 140).isNone = false := by kernel_rfl
@[go_sem] theorem Tryd.base141 : baseT Tryd.prog 141 = .struct := by kernel_rfl
@[go_sem] theorem Tryd.shape141 : shapeT Tryd.prog 141 = some (true, 2) := by kernel_rfl
@[go_sem] theorem Tryd.fields141 : fieldsT Tryd.prog 141 = some [(0, false, 1), (1, false, 1)] := by kernel_rfl
@[go_sem] theorem Tryd.zero141 : zeroD Tryd.prog 141 = some [.int .u8 0, .int .u8 0] := by kernel_rfl
@[go_sem] theorem Tryd.some141 : (Tryd.prog.underlying 141).isNone = false := by kernel_rfl
@[go_sem] theorem Tryd.base142 : baseT Tryd.prog 142 = .struct := by kernel_rfl
@[go_sem] theorem Tryd.shape142 : shapeT Tryd.prog 142 = some (true, 2) := by kernel_rfl
@[go_sem] theorem Tryd.fields142 : fieldsT Tryd.prog 142 = some [(0, false, 1), (1, false, 1)] := by kernel_rfl
@[go_sem] theorem Tryd.zero142 : zeroD Tryd.prog 142 = some [.int .u8 0, .int .u8 0] := by kernel_rfl
@[go_sem] theorem Tryd.some142 : (Tryd.prog.underlying 142).isNone = false := by kernel_rfl
@[go_sem] theorem Tryd.base143 : baseT Tryd.prog 143 = .other := by kernel_rfl
@[go_sem] theorem Tryd.shape143 : shapeT Tryd.prog 143 = some (true, 32) := by kernel_rfl
@[go_sem] theorem Tryd.arr143 : arrT Tryd.prog 143 = some (16, 2) := by kernel_rfl
@[go_sem] theorem Tryd.zero143 : zeroD Tryd.prog 143 = some [.int .u8 0, .int .u8 0, .int .u8 0, .int .u8 0, .int .u8 0, .int .u8 0, .int .u8 0, .int .u8 0, .int .u8 0, .int .u8 0, .int .u8 0, .int .u8 0, .int .u8 0, .int .u8 0, .int .u8 0, .int .u8 0, .int .u8 0, .int .u8 0, .int .u8 0, .int .u8 0, .int .u8 0, .int .u8 0, .int .u8 0, .int .u8 0, .int .u8 0, .int .u8 0, .int .u8 0, .int .u8 0, .int .u8 0, .int .u8 0, .int .u8 0, .int .u8 0] := by kernel_rfl
@[go_sem] theorem Tryd.some143 : (Tryd.prog.underlying 143).isNone = false := by kernel_rfl
@[go_sem] theorem Tryd.base144 : baseT Tryd.prog 144 = .func := by kernel_rfl
@[go_sem] theorem Tryd.shape144 : shapeT Tryd.prog 144 = some (false, 1) := by kernel_rfl
@[go_sem] theorem Tryd.zero144 : zeroD Tryd.prog 144 = some [.nilfn] := by kernel_rfl
@[go_sem] theorem Tryd.some144 : (Tryd.prog.underlying 144).isNone = false := by kernel_rfl
@[go_sem] theorem Tryd.base145 : baseT Tryd.prog 145 = .func := by kernel_rfl
@[go_sem] theorem Tryd.shape145 : shapeT Tryd.prog 145 = some (false, 1) := by kernel_rfl
@[go_sem] theorem Tryd.zero145 : zeroD Tryd.prog 145 = some [.nilfn] := by kernel_rfl
@[go_sem] theorem Tryd.some145 : (Tryd.prog.underlying 145).isNone = false := by kernel_rfl
@[go_sem] theorem Tryd.base146 : baseT Tryd.prog 146 = .ptr := by kernel_rfl
@[go_sem] theorem Tryd.shape146 : shapeT Tryd.prog 146 = some (false, 1) := by kernel_rfl
@[go_sem] theorem Tryd.zero146 : zeroD Tryd.prog 146 = some [.nilp] := by kernel_rfl
@[go_sem] theorem Tryd.some146 : (Tryd.prog.underlying 146).isNone = false := by kernel_rfl
@[go_sem] theorem Tryd.base147 : baseT Tryd.prog 147 = .struct := by kernel_rfl
@[go_sem] theorem Tryd.shape147 : shapeT Tryd.prog 147 = some (true, 1) := by kernel_rfl
@[go_sem] theorem Tryd.fields147 : fieldsT Tryd.prog 147 = some [(0, false, 1)] := by kernel_rfl
@[go_sem] theorem Tryd.zero147 : zeroD Tryd.prog 147 = some [.str ⟨#[]⟩] := by kernel_rfl
@[go_sem] theorem Tryd.some147 : (Tryd.prog.underlying 147).isNone = false := by kernel_rfl
@[go_sem] theorem Tryd.base148 : baseT Tryd.prog 148 = .struct := by kernel_rfl
@[go_sem] theorem Tryd.shape148 : shapeT Tryd.prog 148 = some (true, 1) := by kernel_rfl
@[go_sem] theorem Tryd.fields148 : fieldsT Tryd.prog 148 = some [(0, false, 1)] := by kernel_rfl
@[go_sem] theorem Tryd.zero148 : zeroD Tryd.prog 148 = some [.str ⟨#[]⟩] := by kernel_rfl
@[go_sem] theorem Tryd.some148 : (Tryd.prog.underlying 148).isNone = false := by kernel_rfl
@[go_sem] theorem Tryd.base149 : baseT Tryd.prog 149 = .struct := by kernel_rfl
@[go_sem] theorem Tryd.shape149 : shapeT Tryd.prog 149 = some (true, 4) := by kernel_rfl
@[go_sem] theorem Tryd.fields149 : fieldsT Tryd.prog 149 = some [(0, false, 1), (1, false, 1), (2, false, 1), (3, false, 1)] := by kernel_rfl
@[go_sem] theorem Tryd.zero149 : zeroD Tryd.prog 149 = some [.nilp, .nilp, .nilp, .str ⟨#[]⟩] := by kernel_rfl
@[go_sem] theorem Tryd.some149 : (Tryd.prog.underlying 149).isNone = false := by kernel_rfl
@[go_sem] theorem Tryd.base150 : baseT Tryd.prog 150 = .struct := by kernel_rfl
@[go_sem] theorem Tryd.shape150 : shapeT Tryd.prog 150 = some (true, 4) := by kernel_rfl
@[go_sem] theorem Tryd.fields150 : fieldsT Tryd.prog 150 = some [(0, false, 1), (1, false, 1), (2, false, 1), (3, false, 1)] := by kernel_rfl
@[go_sem] theorem Tryd.zero150 : zeroD Tryd.prog 150 = some [.nilp, .nilp, .nilp, .str ⟨#[]⟩] := by kernel_rfl
@[go_sem] theorem Tryd.some150 : (Tryd.prog.underlying 150).isNone = false := by kernel_rfl
@[go_sem] theorem Tryd.base151 : baseT Tryd.prog 151 = .other := by kernel_rfl
@[go_sem] theorem Tryd.shape151 : shapeT Tryd.prog 151 = some (true, 0) := by kernel_rfl
@[go_sem] theorem Tryd.arr151 : arrT Tryd.prog 151 = some (0, 1) := by kernel_rfl
@[go_sem] theorem Tryd.zero151 : zeroD Tryd.prog 151 = some [] := by kernel_rfl
@[go_sem] theorem Tryd.some151 : (Tryd.prog.underlying 151).isNone = false := by kernel_rfl
@[go_sem] theorem Tryd.base152 : baseT Tryd.prog 152 = .struct := by kernel_rfl
@[go_sem] theorem Tryd.shape152 : shapeT Tryd.prog 152 = some (true, 0) := by kernel_rfl
@[go_sem] theorem Tryd.fields152 : fieldsT Tryd.prog 152 = some [(0, true, 0)] := by kernel_rfl
@[go_sem] theorem Tryd.zero152 : zeroD Tryd.prog 152 = some [] := by kernel_rfl
@[go_sem] theorem Tryd.some152 : (Tryd.prog.underlying 152).isNone = false := by kernel_rfl
@[go_sem] theorem Tryd.base153 : baseT Tryd.prog 153 = .struct := by kernel_rfl
@[go_sem] theorem Tryd.shape153 : shapeT Tryd.prog 153 = some (true, 0) := by kernel_rfl
@[go_sem] theorem Tryd.fields153 : fieldsT Tryd.prog 153 = some [(0, true, 0)] := by kernel_rfl
@[go_sem] theorem Tryd.zero153 : zeroD Tryd.prog 153 = some [] := by kernel_rfl
@[go_sem] theorem Tryd.some153 : (Tryd.prog.underlying 153).isNone = false := by kernel_rfl
@[go_sem] theorem Tryd.base154 : baseT Tryd.prog 154 = .func := by kernel_rfl
@[go_sem] theorem Tryd.shape154 : shapeT Tryd.prog 154 = some (false, 1) := by kernel_rfl
@[go_sem] theorem Tryd.zero154 : zeroD Tryd.prog 154 = some [.nilfn] := by kernel_rfl
@[go_sem] theorem Tryd.some154 : (Tryd.prog.underlying 154).isNone = false := by kernel_rfl
@[go_sem] theorem Tryd.base155 : baseT Tryd.prog 155 = .int := by kernel_rfl
@[go_sem] theorem Tryd.shape155 : shapeT Tryd.prog 155 = some (false, 1) := by kernel_rfl
@[go_sem] theorem Tryd.int155 : intT Tryd.prog 155 = some .u8 := by kernel_rfl
@[go_sem] theorem Tryd.zero155 : zeroD Tryd.prog 155 = some [.int .u8 0] := by kernel_rfl
@[go_sem] theorem Tryd.some155 : (Tryd.prog.underlying 155).isNone = false := by kernel_rfl
@[go_sem] theorem Tryd.base156 : baseT Tryd.prog 156 = .int := by kernel_rfl
@[go_sem] theorem Tryd.shape156 : shapeT Tryd.prog 156 = some (false, 1) := by kernel_rfl
@[go_sem] theorem Tryd.int156 : intT Tryd.prog 156 = some .u8 := by kernel_rfl
@[go_sem] theorem Tryd.zero156 : zeroD Tryd.prog 156 = some [.int .u8 0] := by kernel_rfl
@[go_sem] theorem Tryd.some156 : (Tryd.prog.underlying 156).isNone = false := by kernel_rfl
@[go_sem] theorem Tryd.base157 : baseT Tryd.prog 157 = .func := by kernel_rfl
@[go_sem] theorem Tryd.shape157 : shapeT Tryd.prog 157 = some (false, 1) := by kernel_rfl
@[go_sem] theorem Tryd.zero157 : zeroD Tryd.prog 157 = some [.nilfn] := by kernel_rfl
@[go_sem] theorem Tryd.some157 : (Tryd.prog.underlying 157).isNone = false := by kernel_rfl
@[go_sem] theorem Tryd.base158 : baseT Tryd.prog 158 = .int := by kernel_rfl
@[go_sem] theorem Tryd.shape158 : shapeT Tryd.prog 158 = some (false, 1) := by kernel_rfl
@[go_sem] theorem Tryd.int158 : intT Tryd.prog 158 = some .i32 := by kernel_rfl
@[go_sem] theorem Tryd.zero158 : zeroD Tryd.prog 158 = some [.int .i32 0] := by kernel_rfl
@[go_sem] theorem Tryd.some158 : (Tryd.prog.underlying 158).isNone = false := by kernel_rfl
@[go_sem] theorem Tryd.base159 : baseT Tryd.prog 159 = .int := by kernel_rfl
@[go_sem] theorem Tryd.shape159 : shapeT Tryd.prog 159 = some (false, 1) := by kernel_rfl
@[go_sem] theorem Tryd.int159 : intT Tryd.prog 159 = some .i32 := by kernel_rfl
@[go_sem] theorem Tryd.zero159 : zeroD Tryd.prog 159 = some [.int .i32 0] := by kernel_rfl
@[go_sem] theorem Tryd.some159 : (Tryd.prog.underlying 159).isNone = false := by kernel_rfl
@[go_sem] theorem Tryd.base160 : baseT Tryd.prog 160 = .struct := by kernel_rfl
@[go_sem] theorem Tryd.shape160 : shapeT Tryd.prog 160 = some (true, 11) := by kernel_rfl
@[go_sem] theorem Tryd.fields160 : fieldsT Tryd.prog 160 = some [(0, false, 1), (1, false, 1), (2, false, 1), (3, false, 1), (4, false, 1), (5, false, 1), (6, false, 1), (7, false, 1), (8, false, 1), (9, false, 1), (10, false, 1)] := by kernel_rfl
@[go_sem] theorem Tryd.zero160 : zeroD Tryd.prog 160 = some [.int .u64 0, .int .u64 0, .int .u32 0, .int .u8 0, .int .u8 0, .int .u8 0, .int .u8 0, .nilfn, .nilp, .int .i32 0, .int .i32 0] := by kernel_rfl
@[go_sem] theorem Tryd.some160 : (Tryd.prog.underlying 160).isNone = false := by kernel_rfl
@[go_sem] theorem Tryd.base161 : baseT Tryd.prog 161 = .struct := by kernel_rfl
@[go_sem] theorem Tryd.shape161 : shapeT Tryd.prog 161 = some (true, 11) := by kernel_rfl
@[go_sem] theorem Tryd.fields161 : fieldsT Tryd.prog 161 = some [(0, false, 1), (1, false, 1), (2, false, 1), (3, false, 1), (4, false, 1), (5, false, 1), (6, false, 1), (7, false, 1), (8, false, 1), (9, false, 1), (10, false, 1)] := by kernel_rfl
@[go_sem] theorem Tryd.zero161 : zeroD Tryd.prog 161 = some [.int .u64 0, .int .u64 0, .int .u32 0, .int .u8 0, .int .u8 0, .int .u8 0, .int .u8 0, .nilfn, .nilp, .int .i32 0, .int .i32 0] := by kernel_rfl
@[go_sem] theorem Tryd.some161 : (Tryd.prog.underlying 161).isNone = false := by kernel_rfl
theorem Tryd.mixed : Tryd.prog.follows .mixedOrders = true := by kernel_rfl
end Go.Proofs
