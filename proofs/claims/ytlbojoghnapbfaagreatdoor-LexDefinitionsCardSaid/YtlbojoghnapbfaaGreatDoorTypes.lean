/- Facts on the types of this seat's program, by a program of ours (wip/gen_types.py), each by kernel_rfl. -/
import Derived.Test.YtlbojoghnapbfaaGreatDoorProg
import Derived.Test.YtlbojoghnapbfaaGreatDoorAvSimp
import Derived.KernelRfl
namespace Go.Proofs
open Go.Av
@[go_sem] theorem Tryz.base1 : baseT Tryz.prog 1 = .func := by kernel_rfl
@[go_sem] theorem Tryz.shape1 : shapeT Tryz.prog 1 = some (false, 1) := by kernel_rfl
@[go_sem] theorem Tryz.zero1 : zeroD Tryz.prog 1 = some [.nilfn] := by kernel_rfl
@[go_sem] theorem Tryz.some1 : (Tryz.prog.underlying 1).isNone = false := by kernel_rfl
@[go_sem] theorem Tryz.base2 : baseT Tryz.prog 2 = .int := by kernel_rfl
@[go_sem] theorem Tryz.shape2 : shapeT Tryz.prog 2 = some (false, 1) := by kernel_rfl
@[go_sem] theorem Tryz.int2 : intT Tryz.prog 2 = some .i64 := by kernel_rfl
@[go_sem] theorem Tryz.zero2 : zeroD Tryz.prog 2 = some [.int .i64 0] := by kernel_rfl
@[go_sem] theorem Tryz.some2 : (Tryz.prog.underlying 2).isNone = false := by kernel_rfl
@[go_sem] theorem Tryz.base3 : baseT Tryz.prog 3 = .int := by kernel_rfl
@[go_sem] theorem Tryz.shape3 : shapeT Tryz.prog 3 = some (false, 1) := by kernel_rfl
@[go_sem] theorem Tryz.int3 : intT Tryz.prog 3 = some .i64 := by kernel_rfl
@[go_sem] theorem Tryz.zero3 : zeroD Tryz.prog 3 = some [.int .i64 0] := by kernel_rfl
@[go_sem] theorem Tryz.some3 : (Tryz.prog.underlying 3).isNone = false := by kernel_rfl
@[go_sem] theorem Tryz.base4 : baseT Tryz.prog 4 = .bool := by kernel_rfl
@[go_sem] theorem Tryz.shape4 : shapeT Tryz.prog 4 = some (false, 1) := by kernel_rfl
@[go_sem] theorem Tryz.zero4 : zeroD Tryz.prog 4 = some [.bool false] := by kernel_rfl
@[go_sem] theorem Tryz.some4 : (Tryz.prog.underlying 4).isNone = false := by kernel_rfl
@[go_sem] theorem Tryz.base5 : baseT Tryz.prog 5 = .int := by kernel_rfl
@[go_sem] theorem Tryz.shape5 : shapeT Tryz.prog 5 = some (false, 1) := by kernel_rfl
@[go_sem] theorem Tryz.int5 : intT Tryz.prog 5 = some .u8 := by kernel_rfl
@[go_sem] theorem Tryz.zero5 : zeroD Tryz.prog 5 = some [.int .u8 0] := by kernel_rfl
@[go_sem] theorem Tryz.some5 : (Tryz.prog.underlying 5).isNone = false := by kernel_rfl
@[go_sem] theorem Tryz.base6 : baseT Tryz.prog 6 = .int := by kernel_rfl
@[go_sem] theorem Tryz.shape6 : shapeT Tryz.prog 6 = some (false, 1) := by kernel_rfl
@[go_sem] theorem Tryz.int6 : intT Tryz.prog 6 = some .u8 := by kernel_rfl
@[go_sem] theorem Tryz.zero6 : zeroD Tryz.prog 6 = some [.int .u8 0] := by kernel_rfl
@[go_sem] theorem Tryz.some6 : (Tryz.prog.underlying 6).isNone = false := by kernel_rfl
@[go_sem] theorem Tryz.base7 : baseT Tryz.prog 7 = .struct := by kernel_rfl
@[go_sem] theorem Tryz.shape7 : shapeT Tryz.prog 7 = some (true, 4) := by kernel_rfl
@[go_sem] theorem Tryz.fields7 : fieldsT Tryz.prog 7 = some [(0, false, 1), (1, false, 1), (2, false, 1), (3, false, 1)] := by kernel_rfl
@[go_sem] theorem Tryz.zero7 : zeroD Tryz.prog 7 = some [.int .i64 0, .int .i64 0, .bool false, .int .u8 0] := by kernel_rfl
@[go_sem] theorem Tryz.some7 : (Tryz.prog.underlying 7).isNone = false := by kernel_rfl
@[go_sem] theorem Tryz.base8 : baseT Tryz.prog 8 = .struct := by kernel_rfl
@[go_sem] theorem Tryz.shape8 : shapeT Tryz.prog 8 = some (true, 4) := by kernel_rfl
@[go_sem] theorem Tryz.fields8 : fieldsT Tryz.prog 8 = some [(0, false, 1), (1, false, 1), (2, false, 1), (3, false, 1)] := by kernel_rfl
@[go_sem] theorem Tryz.zero8 : zeroD Tryz.prog 8 = some [.int .i64 0, .int .i64 0, .bool false, .int .u8 0] := by kernel_rfl
@[go_sem] theorem Tryz.some8 : (Tryz.prog.underlying 8).isNone = false := by kernel_rfl
@[go_sem] theorem Tryz.base9 : baseT Tryz.prog 9 = .str := by kernel_rfl
@[go_sem] theorem Tryz.shape9 : shapeT Tryz.prog 9 = some (false, 1) := by kernel_rfl
@[go_sem] theorem Tryz.und9 : Tryz.prog.underlying 9 = some .string := by kernel_rfl
@[go_sem] theorem Tryz.zero9 : zeroD Tryz.prog 9 = some [.str ⟨#[]⟩] := by kernel_rfl
@[go_sem] theorem Tryz.some9 : (Tryz.prog.underlying 9).isNone = false := by kernel_rfl
@[go_sem] theorem Tryz.base10 : baseT Tryz.prog 10 = .str := by kernel_rfl
@[go_sem] theorem Tryz.shape10 : shapeT Tryz.prog 10 = some (false, 1) := by kernel_rfl
@[go_sem] theorem Tryz.und10 : Tryz.prog.underlying 10 = some .string := by kernel_rfl
@[go_sem] theorem Tryz.zero10 : zeroD Tryz.prog 10 = some [.str ⟨#[]⟩] := by kernel_rfl
@[go_sem] theorem Tryz.some10 : (Tryz.prog.underlying 10).isNone = false := by kernel_rfl
@[go_sem] theorem Tryz.base11 : baseT Tryz.prog 11 = .str := by kernel_rfl
@[go_sem] theorem Tryz.shape11 : shapeT Tryz.prog 11 = some (false, 1) := by kernel_rfl
@[go_sem] theorem Tryz.und11 : Tryz.prog.underlying 11 = some .string := by kernel_rfl
@[go_sem] theorem Tryz.zero11 : zeroD Tryz.prog 11 = some [.str ⟨#[]⟩] := by kernel_rfl
@[go_sem] theorem Tryz.some11 : (Tryz.prog.underlying 11).isNone = false := by kernel_rfl
@[go_sem] theorem Tryz.base12 : baseT Tryz.prog 12 = .int := by kernel_rfl
@[go_sem] theorem Tryz.shape12 : shapeT Tryz.prog 12 = some (false, 1) := by kernel_rfl
@[go_sem] theorem Tryz.int12 : intT Tryz.prog 12 = some .u64 := by kernel_rfl
@[go_sem] theorem Tryz.zero12 : zeroD Tryz.prog 12 = some [.int .u64 0] := by kernel_rfl
@[go_sem] theorem Tryz.some12 : (Tryz.prog.underlying 12).isNone = false := by kernel_rfl
@[go_sem] theorem Tryz.base13 : baseT Tryz.prog 13 = .struct := by kernel_rfl
@[go_sem] theorem Tryz.shape13 : shapeT Tryz.prog 13 = some (true, 2) := by kernel_rfl
@[go_sem] theorem Tryz.fields13 : fieldsT Tryz.prog 13 = some [(0, false, 1), (1, false, 1)] := by kernel_rfl
@[go_sem] theorem Tryz.zero13 : zeroD Tryz.prog 13 = some [.str ⟨#[]⟩, .int .u64 0] := by kernel_rfl
@[go_sem] theorem Tryz.some13 : (Tryz.prog.underlying 13).isNone = false := by kernel_rfl
@[go_sem] theorem Tryz.base14 : baseT Tryz.prog 14 = .struct := by kernel_rfl
@[go_sem] theorem Tryz.shape14 : shapeT Tryz.prog 14 = some (true, 2) := by kernel_rfl
@[go_sem] theorem Tryz.fields14 : fieldsT Tryz.prog 14 = some [(0, false, 1), (1, false, 1)] := by kernel_rfl
@[go_sem] theorem Tryz.zero14 : zeroD Tryz.prog 14 = some [.str ⟨#[]⟩, .int .u64 0] := by kernel_rfl
@[go_sem] theorem Tryz.some14 : (Tryz.prog.underlying 14).isNone = false := by kernel_rfl
@[go_sem] theorem Tryz.base15 : baseT Tryz.prog 15 = .ptr := by kernel_rfl
@[go_sem] theorem Tryz.shape15 : shapeT Tryz.prog 15 = some (false, 1) := by kernel_rfl
@[go_sem] theorem Tryz.zero15 : zeroD Tryz.prog 15 = some [.nilp] := by kernel_rfl
@[go_sem] theorem Tryz.some15 : (Tryz.prog.underlying 15).isNone = false := by kernel_rfl
@[go_sem] theorem Tryz.base16 : baseT Tryz.prog 16 = .ptr := by kernel_rfl
@[go_sem] theorem Tryz.shape16 : shapeT Tryz.prog 16 = some (false, 1) := by kernel_rfl
@[go_sem] theorem Tryz.zero16 : zeroD Tryz.prog 16 = some [.nilp] := by kernel_rfl
@[go_sem] theorem Tryz.some16 : (Tryz.prog.underlying 16).isNone = false := by kernel_rfl
@[go_sem] theorem Tryz.base17 : baseT Tryz.prog 17 = .ptr := by kernel_rfl
@[go_sem] theorem Tryz.shape17 : shapeT Tryz.prog 17 = some (false, 1) := by kernel_rfl
@[go_sem] theorem Tryz.zero17 : zeroD Tryz.prog 17 = some [.nilp] := by kernel_rfl
@[go_sem] theorem Tryz.some17 : (Tryz.prog.underlying 17).isNone = false := by kernel_rfl
@[go_sem] theorem Tryz.base18 : baseT Tryz.prog 18 = .struct := by kernel_rfl
@[go_sem] theorem Tryz.shape18 : shapeT Tryz.prog 18 = some (true, 1) := by kernel_rfl
@[go_sem] theorem Tryz.fields18 : fieldsT Tryz.prog 18 = some [(0, false, 1)] := by kernel_rfl
@[go_sem] theorem Tryz.zero18 : zeroD Tryz.prog 18 = some [.nilp] := by kernel_rfl
@[go_sem] theorem Tryz.some18 : (Tryz.prog.underlying 18).isNone = false := by kernel_rfl
@[go_sem] theorem Tryz.base19 : baseT Tryz.prog 19 = .struct := by kernel_rfl
@[go_sem] theorem Tryz.shape19 : shapeT Tryz.prog 19 = some (true, 1) := by kernel_rfl
@[go_sem] theorem Tryz.fields19 : fieldsT Tryz.prog 19 = some [(0, false, 1)] := by kernel_rfl
@[go_sem] theorem Tryz.zero19 : zeroD Tryz.prog 19 = some [.nilp] := by kernel_rfl
@[go_sem] theorem Tryz.some19 : (Tryz.prog.underlying 19).isNone = false := by kernel_rfl
@[go_sem] theorem Tryz.base20 : baseT Tryz.prog 20 = .iface := by kernel_rfl
@[go_sem] theorem Tryz.shape20 : shapeT Tryz.prog 20 = some (false, 1) := by kernel_rfl
@[go_sem] theorem Tryz.zero20 : zeroD Tryz.prog 20 = some [.nilif] := by kernel_rfl
@[go_sem] theorem Tryz.base21 : baseT Tryz.prog 21 = .int := by kernel_rfl
@[go_sem] theorem Tryz.shape21 : shapeT Tryz.prog 21 = some (false, 1) := by kernel_rfl
@[go_sem] theorem Tryz.int21 : intT Tryz.prog 21 = some .i32 := by kernel_rfl
@[go_sem] theorem Tryz.zero21 : zeroD Tryz.prog 21 = some [.int .i32 0] := by kernel_rfl
@[go_sem] theorem Tryz.some21 : (Tryz.prog.underlying 21).isNone = false := by kernel_rfl
@[go_sem] theorem Tryz.base22 : baseT Tryz.prog 22 = .slice := by kernel_rfl
@[go_sem] theorem Tryz.shape22 : shapeT Tryz.prog 22 = some (false, 1) := by kernel_rfl
@[go_sem] theorem Tryz.elem22 : elemT Tryz.prog 22 = some (9, 1, 16) := by kernel_rfl
@[go_sem] theorem Tryz.zero22 : zeroD Tryz.prog 22 = some [.nilsl] := by kernel_rfl
@[go_sem] theorem Tryz.some22 : (Tryz.prog.underlying 22).isNone = false := by kernel_rfl
@[go_sem] theorem Tryz.base23 : baseT Tryz.prog 23 = .func := by kernel_rfl
@[go_sem] theorem Tryz.shape23 : shapeT Tryz.prog 23 = some (false, 1) := by kernel_rfl
@[go_sem] theorem Tryz.zero23 : zeroD Tryz.prog 23 = some [.nilfn] := by kernel_rfl
@[go_sem] theorem Tryz.some23 : (Tryz.prog.underlying 23).isNone = false := by kernel_rfl
@[go_sem] theorem Tryz.base24 : baseT Tryz.prog 24 = .func := by kernel_rfl
@[go_sem] theorem Tryz.shape24 : shapeT Tryz.prog 24 = some (false, 1) := by kernel_rfl
@[go_sem] theorem Tryz.zero24 : zeroD Tryz.prog 24 = some [.nilfn] := by kernel_rfl
@[go_sem] theorem Tryz.some24 : (Tryz.prog.underlying 24).isNone = false := by kernel_rfl
@[go_sem] theorem Tryz.base25 : baseT Tryz.prog 25 = .slice := by kernel_rfl
@[go_sem] theorem Tryz.shape25 : shapeT Tryz.prog 25 = some (false, 1) := by kernel_rfl
@[go_sem] theorem Tryz.elem25 : elemT Tryz.prog 25 = some (40, 5, 48) := by kernel_rfl
@[go_sem] theorem Tryz.zero25 : zeroD Tryz.prog 25 = some [.nilsl] := by kernel_rfl
@[go_sem] theorem Tryz.some25 : (Tryz.prog.underlying 25).isNone = false := by kernel_rfl
@[go_sem] theorem Tryz.base26 : baseT Tryz.prog 26 = .int := by kernel_rfl
@[go_sem] theorem Tryz.shape26 : shapeT Tryz.prog 26 = some (false, 1) := by kernel_rfl
@[go_sem] theorem Tryz.int26 : intT Tryz.prog 26 = some .i64 := by kernel_rfl
@[go_sem] theorem Tryz.zero26 : zeroD Tryz.prog 26 = some [.int .i64 0] := by kernel_rfl
@[go_sem] theorem Tryz.some26 : (Tryz.prog.underlying 26).isNone = false := by kernel_rfl
@[go_sem] theorem Tryz.base27 : baseT Tryz.prog 27 = .struct := by kernel_rfl
@[go_sem] theorem Tryz.shape27 : shapeT Tryz.prog 27 = some (true, 4) := by kernel_rfl
@[go_sem] theorem Tryz.fields27 : fieldsT Tryz.prog 27 = some [(0, false, 1), (1, false, 1), (2, false, 1), (3, false, 1)] := by kernel_rfl
@[go_sem] theorem Tryz.zero27 : zeroD Tryz.prog 27 = some [.int .i64 0, .str ⟨#[]⟩, .int .i64 0, .int .i64 0] := by kernel_rfl
@[go_sem] theorem Tryz.some27 : (Tryz.prog.underlying 27).isNone = false := by kernel_rfl
@[go_sem] theorem Tryz.base28 : baseT Tryz.prog 28 = .struct := by kernel_rfl
@[go_sem] theorem Tryz.shape28 : shapeT Tryz.prog 28 = some (true, 4) := by kernel_rfl
@[go_sem] theorem Tryz.fields28 : fieldsT Tryz.prog 28 = some [(0, false, 1), (1, false, 1), (2, false, 1), (3, false, 1)] := by kernel_rfl
@[go_sem] theorem Tryz.eq28 : flatEq Tryz.prog 28 = some [(0, .int), (1, .str), (2, .int), (3, .int)] := by kernel_rfl
@[go_sem] theorem Tryz.zero28 : zeroD Tryz.prog 28 = some [.int .i64 0, .str ⟨#[]⟩, .int .i64 0, .int .i64 0] := by kernel_rfl
@[go_sem] theorem Tryz.some28 : (Tryz.prog.underlying 28).isNone = false := by kernel_rfl
@[go_sem] theorem Tryz.base30 : baseT Tryz.prog 30 = .func := by kernel_rfl
@[go_sem] theorem Tryz.shape30 : shapeT Tryz.prog 30 = some (false, 1) := by kernel_rfl
@[go_sem] theorem Tryz.zero30 : zeroD Tryz.prog 30 = some [.nilfn] := by kernel_rfl
@[go_sem] theorem Tryz.some30 : (Tryz.prog.underlying 30).isNone = false := by kernel_rfl
@[go_sem] theorem Tryz.base31 : baseT Tryz.prog 31 = .func := by kernel_rfl
@[go_sem] theorem Tryz.shape31 : shapeT Tryz.prog 31 = some (false, 1) := by kernel_rfl
@[go_sem] theorem Tryz.zero31 : zeroD Tryz.prog 31 = some [.nilfn] := by kernel_rfl
@[go_sem] theorem Tryz.some31 : (Tryz.prog.underlying 31).isNone = false := by kernel_rfl
@[go_sem] theorem Tryz.base32 : baseT Tryz.prog 32 = .func := by kernel_rfl
@[go_sem] theorem Tryz.shape32 : shapeT Tryz.prog 32 = some (false, 1) := by kernel_rfl
@[go_sem] theorem Tryz.zero32 : zeroD Tryz.prog 32 = some [.nilfn] := by kernel_rfl
@[go_sem] theorem Tryz.some32 : (Tryz.prog.underlying 32).isNone = false := by kernel_rfl
@[go_sem] theorem Tryz.base33 : baseT Tryz.prog 33 = .func := by kernel_rfl
@[go_sem] theorem Tryz.shape33 : shapeT Tryz.prog 33 = some (false, 1) := by kernel_rfl
@[go_sem] theorem Tryz.zero33 : zeroD Tryz.prog 33 = some [.nilfn] := by kernel_rfl
@[go_sem] theorem Tryz.some33 : (Tryz.prog.underlying 33).isNone = false := by kernel_rfl
@[go_sem] theorem Tryz.base34 : baseT Tryz.prog 34 = .slice := by kernel_rfl
@[go_sem] theorem Tryz.shape34 : shapeT Tryz.prog 34 = some (false, 1) := by kernel_rfl
@[go_sem] theorem Tryz.elem34 : elemT Tryz.prog 34 = some (5, 1, 1) := by kernel_rfl
@[go_sem] theorem Tryz.bytes34 : bytesT Tryz.prog 34 = true := by kernel_rfl
@[go_sem] theorem Tryz.zero34 : zeroD Tryz.prog 34 = some [.nilsl] := by kernel_rfl
@[go_sem] theorem Tryz.some34 : (Tryz.prog.underlying 34).isNone = false := by kernel_rfl
@[go_sem] theorem Tryz.base35 : baseT Tryz.prog 35 = .func := by kernel_rfl
@[go_sem] theorem Tryz.shape35 : shapeT Tryz.prog 35 = some (false, 1) := by kernel_rfl
@[go_sem] theorem Tryz.zero35 : zeroD Tryz.prog 35 = some [.nilfn] := by kernel_rfl
@[go_sem] theorem Tryz.some35 : (Tryz.prog.underlying 35).isNone = false := by kernel_rfl
@[go_sem] theorem Tryz.base37 : baseT Tryz.prog 37 = .func := by kernel_rfl
@[go_sem] theorem Tryz.shape37 : shapeT Tryz.prog 37 = some (false, 1) := by kernel_rfl
@[go_sem] theorem Tryz.zero37 : zeroD Tryz.prog 37 = some [.nilfn] := by kernel_rfl
@[go_sem] theorem Tryz.some37 : (Tryz.prog.underlying 37).isNone = false := by kernel_rfl
@[go_sem] theorem Tryz.base38 : baseT Tryz.prog 38 = .int := by kernel_rfl
@[go_sem] theorem Tryz.shape38 : shapeT Tryz.prog 38 = some (false, 1) := by kernel_rfl
@[go_sem] theorem Tryz.int38 : intT Tryz.prog 38 = some .i64 := by kernel_rfl
@[go_sem] theorem Tryz.zero38 : zeroD Tryz.prog 38 = some [.int .i64 0] := by kernel_rfl
@[go_sem] theorem Tryz.some38 : (Tryz.prog.underlying 38).isNone = false := by kernel_rfl
@[go_sem] theorem Tryz.base39 : baseT Tryz.prog 39 = .struct := by kernel_rfl
@[go_sem] theorem Tryz.shape39 : shapeT Tryz.prog 39 = some (true, 5) := by kernel_rfl
@[go_sem] theorem Tryz.fields39 : fieldsT Tryz.prog 39 = some [(0, false, 1), (1, false, 1), (2, false, 1), (3, false, 1), (4, false, 1)] := by kernel_rfl
@[go_sem] theorem Tryz.zero39 : zeroD Tryz.prog 39 = some [.int .i64 0, .str ⟨#[]⟩, .int .i64 0, .int .i64 0, .int .i64 0] := by kernel_rfl
@[go_sem] theorem Tryz.some39 : (Tryz.prog.underlying 39).isNone = false := by kernel_rfl
@[go_sem] theorem Tryz.base40 : baseT Tryz.prog 40 = .struct := by kernel_rfl
@[go_sem] theorem Tryz.shape40 : shapeT Tryz.prog 40 = some (true, 5) := by kernel_rfl
@[go_sem] theorem Tryz.fields40 : fieldsT Tryz.prog 40 = some [(0, false, 1), (1, false, 1), (2, false, 1), (3, false, 1), (4, false, 1)] := by kernel_rfl
@[go_sem] theorem Tryz.eq40 : flatEq Tryz.prog 40 = some [(0, .int), (1, .str), (2, .int), (3, .int), (4, .int)] := by kernel_rfl
@[go_sem] theorem Tryz.zero40 : zeroD Tryz.prog 40 = some [.int .i64 0, .str ⟨#[]⟩, .int .i64 0, .int .i64 0, .int .i64 0] := by kernel_rfl
@[go_sem] theorem Tryz.some40 : (Tryz.prog.underlying 40).isNone = false := by kernel_rfl
@[go_sem] theorem Tryz.base41 : baseT Tryz.prog 41 = .func := by kernel_rfl
@[go_sem] theorem Tryz.shape41 : shapeT Tryz.prog 41 = some (false, 1) := by kernel_rfl
@[go_sem] theorem Tryz.zero41 : zeroD Tryz.prog 41 = some [.nilfn] := by kernel_rfl
@[go_sem] theorem Tryz.some41 : (Tryz.prog.underlying 41).isNone = false := by kernel_rfl
@[go_sem] theorem Tryz.base42 : baseT Tryz.prog 42 = .ptr := by kernel_rfl
@[go_sem] theorem Tryz.shape42 : shapeT Tryz.prog 42 = some (false, 1) := by kernel_rfl
@[go_sem] theorem Tryz.zero42 : zeroD Tryz.prog 42 = some [.nilp] := by kernel_rfl
@[go_sem] theorem Tryz.some42 : (Tryz.prog.underlying 42).isNone = false := by kernel_rfl
@[go_sem] theorem Tryz.base43 : baseT Tryz.prog 43 = .struct := by kernel_rfl
@[go_sem] theorem Tryz.shape43 : shapeT Tryz.prog 43 = some (true, 6) := by kernel_rfl
@[go_sem] theorem Tryz.fields43 : fieldsT Tryz.prog 43 = some [(0, false, 1), (1, false, 1), (2, false, 1), (3, false, 1), (4, false, 1), (5, false, 1)] := by kernel_rfl
@[go_sem] theorem Tryz.zero43 : zeroD Tryz.prog 43 = some [.str ⟨#[]⟩, .int .i64 0, .int .i64 0, .int .i64 0, .nilsl, .bool false] := by kernel_rfl
@[go_sem] theorem Tryz.some43 : (Tryz.prog.underlying 43).isNone = false := by kernel_rfl
@[go_sem] theorem Tryz.base44 : baseT Tryz.prog 44 = .struct := by kernel_rfl
@[go_sem] theorem Tryz.shape44 : shapeT Tryz.prog 44 = some (true, 6) := by kernel_rfl
@[go_sem] theorem Tryz.fields44 : fieldsT Tryz.prog 44 = some [(0, false, 1), (1, false, 1), (2, false, 1), (3, false, 1), (4, false, 1), (5, false, 1)] := by kernel_rfl
@[go_sem] theorem Tryz.zero44 : zeroD Tryz.prog 44 = some [.str ⟨#[]⟩, .int .i64 0, .int .i64 0, .int .i64 0, .nilsl, .bool false] := by kernel_rfl
@[go_sem] theorem Tryz.some44 : (Tryz.prog.underlying 44).isNone = false := by kernel_rfl
@[go_sem] theorem Tryz.base45 : baseT Tryz.prog 45 = .func := by kernel_rfl
@[go_sem] theorem Tryz.shape45 : shapeT Tryz.prog 45 = some (false, 1) := by kernel_rfl
@[go_sem] theorem Tryz.zero45 : zeroD Tryz.prog 45 = some [.nilfn] := by kernel_rfl
@[go_sem] theorem Tryz.some45 : (Tryz.prog.underlying 45).isNone = false := by kernel_rfl
@[go_sem] theorem Tryz.base46 : baseT Tryz.prog 46 = .func := by kernel_rfl
@[go_sem] theorem Tryz.shape46 : shapeT Tryz.prog 46 = some (false, 1) := by kernel_rfl
@[go_sem] theorem Tryz.zero46 : zeroD Tryz.prog 46 = some [.nilfn] := by kernel_rfl
@[go_sem] theorem Tryz.some46 : (Tryz.prog.underlying 46).isNone = false := by kernel_rfl
@[go_sem] theorem Tryz.base47 : baseT Tryz.prog 47 = .func := by kernel_rfl
@[go_sem] theorem Tryz.shape47 : shapeT Tryz.prog 47 = some (false, 1) := by kernel_rfl
@[go_sem] theorem Tryz.zero47 : zeroD Tryz.prog 47 = some [.nilfn] := by kernel_rfl
@[go_sem] theorem Tryz.some47 : (Tryz.prog.underlying 47).isNone = false := by kernel_rfl
@[go_sem] theorem Tryz.base48 : baseT Tryz.prog 48 = .func := by kernel_rfl
@[go_sem] theorem Tryz.shape48 : shapeT Tryz.prog 48 = some (false, 1) := by kernel_rfl
@[go_sem] theorem Tryz.zero48 : zeroD Tryz.prog 48 = some [.nilfn] := by kernel_rfl
@[go_sem] theorem Tryz.some48 : (Tryz.prog.underlying 48).isNone = false := by kernel_rfl
@[go_sem] theorem Tryz.base49 : baseT Tryz.prog 49 = .func := by kernel_rfl
@[go_sem] theorem Tryz.shape49 : shapeT Tryz.prog 49 = some (false, 1) := by kernel_rfl
@[go_sem] theorem Tryz.zero49 : zeroD Tryz.prog 49 = some [.nilfn] := by kernel_rfl
@[go_sem] theorem Tryz.some49 : (Tryz.prog.underlying 49).isNone = false := by kernel_rfl
@[go_sem] theorem Tryz.base50 : baseT Tryz.prog 50 = .func := by kernel_rfl
@[go_sem] theorem Tryz.shape50 : shapeT Tryz.prog 50 = some (false, 1) := by kernel_rfl
@[go_sem] theorem Tryz.zero50 : zeroD Tryz.prog 50 = some [.nilfn] := by kernel_rfl
@[go_sem] theorem Tryz.some50 : (Tryz.prog.underlying 50).isNone = false := by kernel_rfl
@[go_sem] theorem Tryz.base51 : baseT Tryz.prog 51 = .func := by kernel_rfl
@[go_sem] theorem Tryz.shape51 : shapeT Tryz.prog 51 = some (false, 1) := by kernel_rfl
@[go_sem] theorem Tryz.zero51 : zeroD Tryz.prog 51 = some [.nilfn] := by kernel_rfl
@[go_sem] theorem Tryz.some51 : (Tryz.prog.underlying 51).isNone = false := by kernel_rfl
@[go_sem] theorem Tryz.base52 : baseT Tryz.prog 52 = .func := by kernel_rfl
@[go_sem] theorem Tryz.shape52 : shapeT Tryz.prog 52 = some (false, 1) := by kernel_rfl
@[go_sem] theorem Tryz.zero52 : zeroD Tryz.prog 52 = some [.nilfn] := by kernel_rfl
@[go_sem] theorem Tryz.some52 : (Tryz.prog.underlying 52).isNone = false := by kernel_rfl
@[go_sem] theorem Tryz.base53 : baseT Tryz.prog 53 = .func := by kernel_rfl
@[go_sem] theorem Tryz.shape53 : shapeT Tryz.prog 53 = some (false, 1) := by kernel_rfl
@[go_sem] theorem Tryz.zero53 : zeroD Tryz.prog 53 = some [.nilfn] := by kernel_rfl
@[go_sem] theorem Tryz.some53 : (Tryz.prog.underlying 53).isNone = false := by kernel_rfl
@[go_sem] theorem Tryz.base54 : baseT Tryz.prog 54 = .func := by kernel_rfl
@[go_sem] theorem Tryz.shape54 : shapeT Tryz.prog 54 = some (false, 1) := by kernel_rfl
@[go_sem] theorem Tryz.zero54 : zeroD Tryz.prog 54 = some [.nilfn] := by kernel_rfl
@[go_sem] theorem Tryz.some54 : (Tryz.prog.underlying 54).isNone = false := by kernel_rfl
@[go_sem] theorem Tryz.base55 : baseT Tryz.prog 55 = .func := by kernel_rfl
@[go_sem] theorem Tryz.shape55 : shapeT Tryz.prog 55 = some (false, 1) := by kernel_rfl
@[go_sem] theorem Tryz.zero55 : zeroD Tryz.prog 55 = some [.nilfn] := by kernel_rfl
@[go_sem] theorem Tryz.some55 : (Tryz.prog.underlying 55).isNone = false := by kernel_rfl
@[go_sem] theorem Tryz.base57 : baseT Tryz.prog 57 = .func := by kernel_rfl
@[go_sem] theorem Tryz.shape57 : shapeT Tryz.prog 57 = some (false, 1) := by kernel_rfl
@[go_sem] theorem Tryz.zero57 : zeroD Tryz.prog 57 = some [.nilfn] := by kernel_rfl
@[go_sem] theorem Tryz.some57 : (Tryz.prog.underlying 57).isNone = false := by kernel_rfl
@[go_sem] theorem Tryz.base58 : baseT Tryz.prog 58 = .func := by kernel_rfl
@[go_sem] theorem Tryz.shape58 : shapeT Tryz.prog 58 = some (false, 1) := by kernel_rfl
@[go_sem] theorem Tryz.zero58 : zeroD Tryz.prog 58 = some [.nilfn] := by kernel_rfl
@[go_sem] theorem Tryz.some58 : (Tryz.prog.underlying 58).isNone = false := by kernel_rfl
@[go_sem] theorem Tryz.base59 : baseT Tryz.prog 59 = .ptr := by kernel_rfl
@[go_sem] theorem Tryz.shape59 : shapeT Tryz.prog 59 = some (false, 1) := by kernel_rfl
@[go_sem] theorem Tryz.zero59 : zeroD Tryz.prog 59 = some [.nilp] := by kernel_rfl
@[go_sem] theorem Tryz.some59 : (Tryz.prog.underlying 59).isNone = false := by kernel_rfl
@[go_sem] theorem Tryz.base60 : baseT Tryz.prog 60 = .struct := by kernel_rfl
@[go_sem] theorem Tryz.shape60 : shapeT Tryz.prog 60 = some (true, 10) := by kernel_rfl
@[go_sem] theorem Tryz.fields60 : fieldsT Tryz.prog 60 = some [(0, false, 1), (1, false, 1), (2, false, 1), (3, false, 1), (4, false, 1), (5, false, 1), (6, true, 4)] := by kernel_rfl
@[go_sem] theorem Tryz.zero60 : zeroD Tryz.prog 60 = some [.str ⟨#[]⟩, .int .i64 0, .int .i64 0, .int .i64 0, .nilsl, .nilsl, .int .i64 0, .str ⟨#[]⟩, .int .i64 0, .int .i64 0] := by kernel_rfl
@[go_sem] theorem Tryz.some60 : (Tryz.prog.underlying 60).isNone = false := by kernel_rfl
@[go_sem] theorem Tryz.base61 : baseT Tryz.prog 61 = .struct := by kernel_rfl
@[go_sem] theorem Tryz.shape61 : shapeT Tryz.prog 61 = some (true, 10) := by kernel_rfl
@[go_sem] theorem Tryz.fields61 : fieldsT Tryz.prog 61 = some [(0, false, 1), (1, false, 1), (2, false, 1), (3, false, 1), (4, false, 1), (5, false, 1), (6, true, 4)] := by kernel_rfl
@[go_sem] theorem Tryz.zero61 : zeroD Tryz.prog 61 = some [.str ⟨#[]⟩, .int .i64 0, .int .i64 0, .int .i64 0, .nilsl, .nilsl, .int .i64 0, .str ⟨#[]⟩, .int .i64 0, .int .i64 0] := by kernel_rfl
@[go_sem] theorem Tryz.some61 : (Tryz.prog.underlying 61).isNone = false := by kernel_rfl
@[go_sem] theorem Tryz.base62 : baseT Tryz.prog 62 = .func := by kernel_rfl
@[go_sem] theorem Tryz.shape62 : shapeT Tryz.prog 62 = some (false, 1) := by kernel_rfl
@[go_sem] theorem Tryz.zero62 : zeroD Tryz.prog 62 = some [.nilfn] := by kernel_rfl
@[go_sem] theorem Tryz.some62 : (Tryz.prog.underlying 62).isNone = false := by kernel_rfl
@[go_sem] theorem Tryz.base63 : baseT Tryz.prog 63 = .func := by kernel_rfl
@[go_sem] theorem Tryz.shape63 : shapeT Tryz.prog 63 = some (false, 1) := by kernel_rfl
@[go_sem] theorem Tryz.zero63 : zeroD Tryz.prog 63 = some [.nilfn] := by kernel_rfl
@[go_sem] theorem Tryz.some63 : (Tryz.prog.underlying 63).isNone = false := by kernel_rfl
@[go_sem] theorem Tryz.base64 : baseT Tryz.prog 64 = .ptr := by kernel_rfl
@[go_sem] theorem Tryz.shape64 : shapeT Tryz.prog 64 = some (false, 1) := by kernel_rfl
@[go_sem] theorem Tryz.zero64 : zeroD Tryz.prog 64 = some [.nilp] := by kernel_rfl
@[go_sem] theorem Tryz.some64 : (Tryz.prog.underlying 64).isNone = false := by kernel_rfl
@[go_sem] theorem Tryz.base65 : baseT Tryz.prog 65 = .struct := by kernel_rfl
@[go_sem] theorem Tryz.shape65 : shapeT Tryz.prog 65 = some (true, 2) := by kernel_rfl
@[go_sem] theorem Tryz.fields65 : fieldsT Tryz.prog 65 = some [(0, false, 1), (1, false, 1)] := by kernel_rfl
@[go_sem] theorem Tryz.zero65 : zeroD Tryz.prog 65 = some [.nilp, .nilsl] := by kernel_rfl
@[go_sem] theorem Tryz.some65 : (Tryz.prog.underlying 65).isNone = false := by kernel_rfl
@[go_sem] theorem Tryz.base66 : baseT Tryz.prog 66 = .struct := by kernel_rfl
@[go_sem] theorem Tryz.shape66 : shapeT Tryz.prog 66 = some (true, 2) := by kernel_rfl
@[go_sem] theorem Tryz.fields66 : fieldsT Tryz.prog 66 = some [(0, false, 1), (1, false, 1)] := by kernel_rfl
@[go_sem] theorem Tryz.zero66 : zeroD Tryz.prog 66 = some [.nilp, .nilsl] := by kernel_rfl
@[go_sem] theorem Tryz.some66 : (Tryz.prog.underlying 66).isNone = false := by kernel_rfl
@[go_sem] theorem Tryz.base67 : baseT Tryz.prog 67 = .iface := by kernel_rfl
@[go_sem] theorem Tryz.shape67 : shapeT Tryz.prog 67 = some (false, 1) := by kernel_rfl
@[go_sem] theorem Tryz.zero67 : zeroD Tryz.prog 67 = some [.nilif] := by kernel_rfl
@[go_sem] theorem Tryz.base68 : baseT Tryz.prog 68 = .iface := by kernel_rfl
@[go_sem] theorem Tryz.shape68 : shapeT Tryz.prog 68 = some (false, 1) := by kernel_rfl
@[go_sem] theorem Tryz.zero68 : zeroD Tryz.prog 68 = some [.nilif] := by kernel_rfl
@[go_sem] theorem Tryz.base70 : baseT Tryz.prog 70 = .func := by kernel_rfl
@[go_sem] theorem Tryz.shape70 : shapeT Tryz.prog 70 = some (false, 1) := by kernel_rfl
@[go_sem] theorem Tryz.zero70 : zeroD Tryz.prog 70 = some [.nilfn] := by kernel_rfl
@[go_sem] theorem Tryz.some70 : (Tryz.prog.underlying 70).isNone = false := by kernel_rfl
@[go_sem] theorem Tryz.base71 : baseT Tryz.prog 71 = .func := by kernel_rfl
@[go_sem] theorem Tryz.shape71 : shapeT Tryz.prog 71 = some (false, 1) := by kernel_rfl
@[go_sem] theorem Tryz.zero71 : zeroD Tryz.prog 71 = some [.nilfn] := by kernel_rfl
@[go_sem] theorem Tryz.some71 : (Tryz.prog.underlying 71).isNone = false := by kernel_rfl
@[go_sem] theorem Tryz.base72 : baseT Tryz.prog 72 = .func := by kernel_rfl
@[go_sem] theorem Tryz.shape72 : shapeT Tryz.prog 72 = some (false, 1) := by kernel_rfl
@[go_sem] theorem Tryz.zero72 : zeroD Tryz.prog 72 = some [.nilfn] := by kernel_rfl
@[go_sem] theorem Tryz.some72 : (Tryz.prog.underlying 72).isNone = false := by kernel_rfl
@[go_sem] theorem Tryz.base73 : baseT Tryz.prog 73 = .func := by kernel_rfl
@[go_sem] theorem Tryz.shape73 : shapeT Tryz.prog 73 = some (false, 1) := by kernel_rfl
@[go_sem] theorem Tryz.zero73 : zeroD Tryz.prog 73 = some [.nilfn] := by kernel_rfl
@[go_sem] theorem Tryz.some73 : (Tryz.prog.underlying 73).isNone = false := by kernel_rfl
@[go_sem] theorem Tryz.base74 : baseT Tryz.prog 74 = .func := by kernel_rfl
@[go_sem] theorem Tryz.shape74 : shapeT Tryz.prog 74 = some (false, 1) := by kernel_rfl
@[go_sem] theorem Tryz.zero74 : zeroD Tryz.prog 74 = some [.nilfn] := by kernel_rfl
@[go_sem] theorem Tryz.some74 : (Tryz.prog.underlying 74).isNone = false := by kernel_rfl
@[go_sem] theorem Tryz.base75 : baseT Tryz.prog 75 = .func := by kernel_rfl
@[go_sem] theorem Tryz.shape75 : shapeT Tryz.prog 75 = some (false, 1) := by kernel_rfl
@[go_sem] theorem Tryz.zero75 : zeroD Tryz.prog 75 = some [.nilfn] := by kernel_rfl
@[go_sem] theorem Tryz.some75 : (Tryz.prog.underlying 75).isNone = false := by kernel_rfl
@[go_sem] theorem Tryz.base76 : baseT Tryz.prog 76 = .func := by kernel_rfl
@[go_sem] theorem Tryz.shape76 : shapeT Tryz.prog 76 = some (false, 1) := by kernel_rfl
@[go_sem] theorem Tryz.zero76 : zeroD Tryz.prog 76 = some [.nilfn] := by kernel_rfl
@[go_sem] theorem Tryz.some76 : (Tryz.prog.underlying 76).isNone = false := by kernel_rfl
@[go_sem] theorem Tryz.base77 : baseT Tryz.prog 77 = .other := by kernel_rfl
@[go_sem] theorem Tryz.shape77 : shapeT Tryz.prog 77 = some (true, 256) := by kernel_rfl
@[go_sem] theorem Tryz.arr77 : arrT Tryz.prog 77 = some (256, 1) := by kernel_rfl
@[go_sem] theorem Tryz.some77 : (Tryz.prog.underlying 77).isNone = false := by kernel_rfl
@[go_sem] theorem Tryz.base78 : baseT Tryz.prog 78 = .func := by kernel_rfl
@[go_sem] theorem Tryz.shape78 : shapeT Tryz.prog 78 = some (false, 1) := by kernel_rfl
@[go_sem] theorem Tryz.zero78 : zeroD Tryz.prog 78 = some [.nilfn] := by kernel_rfl
@[go_sem] theorem Tryz.some78 : (Tryz.prog.underlying 78).isNone = false := by kernel_rfl
@[go_sem] theorem Tryz.base79 : baseT Tryz.prog 79 = .func := by kernel_rfl
@[go_sem] theorem Tryz.shape79 : shapeT Tryz.prog 79 = some (false, 1) := by kernel_rfl
@[go_sem] theorem Tryz.zero79 : zeroD Tryz.prog 79 = some [.nilfn] := by kernel_rfl
@[go_sem] theorem Tryz.some79 : (Tryz.prog.underlying 79).isNone = false := by kernel_rfl
@[go_sem] theorem Tryz.base80 : baseT Tryz.prog 80 = .ptr := by kernel_rfl
@[go_sem] theorem Tryz.shape80 : shapeT Tryz.prog 80 = some (false, 1) := by kernel_rfl
@[go_sem] theorem Tryz.zero80 : zeroD Tryz.prog 80 = some [.nilp] := by kernel_rfl
@[go_sem] theorem Tryz.some80 : (Tryz.prog.underlying 80).isNone = false := by kernel_rfl
@[go_sem] theorem Tryz.base81 : baseT Tryz.prog 81 = .func := by kernel_rfl
@[go_sem] theorem Tryz.shape81 : shapeT Tryz.prog 81 = some (false, 1) := by kernel_rfl
@[go_sem] theorem Tryz.zero81 : zeroD Tryz.prog 81 = some [.nilfn] := by kernel_rfl
@[go_sem] theorem Tryz.some81 : (Tryz.prog.underlying 81).isNone = false := by kernel_rfl
@[go_sem] theorem Tryz.base82 : baseT Tryz.prog 82 = .slice := by kernel_rfl
@[go_sem] theorem Tryz.shape82 : shapeT Tryz.prog 82 = some (false, 1) := by kernel_rfl
@[go_sem] theorem Tryz.elem82 : elemT Tryz.prog 82 = some (84, 2, 16) := by kernel_rfl
@[go_sem] theorem Tryz.zero82 : zeroD Tryz.prog 82 = some [.nilsl] := by kernel_rfl
@[go_sem] theorem Tryz.some82 : (Tryz.prog.underlying 82).isNone = false := by kernel_rfl
@[go_sem] theorem Tryz.base83 : baseT Tryz.prog 83 = .struct := by kernel_rfl
@[go_sem] theorem Tryz.shape83 : shapeT Tryz.prog 83 = some (true, 2) := by kernel_rfl
@[go_sem] theorem Tryz.fields83 : fieldsT Tryz.prog 83 = some [(0, false, 1), (1, false, 1)] := by kernel_rfl
@[go_sem] theorem Tryz.zero83 : zeroD Tryz.prog 83 = some [.int .i64 0, .int .i64 0] := by kernel_rfl
@[go_sem] theorem Tryz.some83 : (Tryz.prog.underlying 83).isNone = false := by kernel_rfl
@[go_sem] theorem Tryz.base84 : baseT Tryz.prog 84 = .struct := by kernel_rfl
@[go_sem] theorem Tryz.shape84 : shapeT Tryz.prog 84 = some (true, 2) := by kernel_rfl
@[go_sem] theorem Tryz.fields84 : fieldsT Tryz.prog 84 = some [(0, false, 1), (1, false, 1)] := by kernel_rfl
@[go_sem] theorem Tryz.zero84 : zeroD Tryz.prog 84 = some [.int .i64 0, .int .i64 0] := by kernel_rfl
@[go_sem] theorem Tryz.some84 : (Tryz.prog.underlying 84).isNone = false := by kernel_rfl
@[go_sem] theorem Tryz.base85 : baseT Tryz.prog 85 = .int := by kernel_rfl
@[go_sem] theorem Tryz.shape85 : shapeT Tryz.prog 85 = some (false, 1) := by kernel_rfl
@[go_sem] theorem Tryz.int85 : intT Tryz.prog 85 = some .u32 := by kernel_rfl
@[go_sem] theorem Tryz.zero85 : zeroD Tryz.prog 85 = some [.int .u32 0] := by kernel_rfl
@[go_sem] theorem Tryz.some85 : (Tryz.prog.underlying 85).isNone = false := by kernel_rfl
@[go_sem] theorem Tryz.base86 : baseT Tryz.prog 86 = .func := by kernel_rfl
@[go_sem] theorem Tryz.shape86 : shapeT Tryz.prog 86 = some (false, 1) := by kernel_rfl
@[go_sem] theorem Tryz.zero86 : zeroD Tryz.prog 86 = some [.nilfn] := by kernel_rfl
@[go_sem] theorem Tryz.some86 : (Tryz.prog.underlying 86).isNone = false := by kernel_rfl
@[go_sem] theorem Tryz.base87 : baseT Tryz.prog 87 = .ptr := by kernel_rfl
@[go_sem] theorem Tryz.shape87 : shapeT Tryz.prog 87 = some (false, 1) := by kernel_rfl
@[go_sem] theorem Tryz.zero87 : zeroD Tryz.prog 87 = some [.nilp] := by kernel_rfl
@[go_sem] theorem Tryz.some87 : (Tryz.prog.underlying 87).isNone = false := by kernel_rfl
@[go_sem] theorem Tryz.base88 : baseT Tryz.prog 88 = .func := by kernel_rfl
@[go_sem] theorem Tryz.shape88 : shapeT Tryz.prog 88 = some (false, 1) := by kernel_rfl
@[go_sem] theorem Tryz.zero88 : zeroD Tryz.prog 88 = some [.nilfn] := by kernel_rfl
@[go_sem] theorem Tryz.some88 : (Tryz.prog.underlying 88).isNone = false := by kernel_rfl
@[go_sem] theorem Tryz.base89 : baseT Tryz.prog 89 = .other := by kernel_rfl
@[go_sem] theorem Tryz.shape89 : shapeT Tryz.prog 89 = some (false, 1) := by kernel_rfl
@[go_sem] theorem Tryz.zero89 : zeroD Tryz.prog 89 = some [.nilp] := by kernel_rfl
@[go_sem] theorem Tryz.some89 : (Tryz.prog.underlying 89).isNone = false := by kernel_rfl
@[go_sem] theorem Tryz.base90 : baseT Tryz.prog 90 = .func := by kernel_rfl
@[go_sem] theorem Tryz.shape90 : shapeT Tryz.prog 90 = some (false, 1) := by kernel_rfl
@[go_sem] theorem Tryz.zero90 : zeroD Tryz.prog 90 = some [.nilfn] := by kernel_rfl
@[go_sem] theorem Tryz.some90 : (Tryz.prog.underlying 90).isNone = false := by kernel_rfl
@[go_sem] theorem Tryz.base91 : baseT Tryz.prog 91 = .func := by kernel_rfl
@[go_sem] theorem Tryz.shape91 : shapeT Tryz.prog 91 = some (false, 1) := by kernel_rfl
@[go_sem] theorem Tryz.zero91 : zeroD Tryz.prog 91 = some [.nilfn] := by kernel_rfl
@[go_sem] theorem Tryz.some91 : (Tryz.prog.underlying 91).isNone = false := by kernel_rfl
@[go_sem] theorem Tryz.base92 : baseT Tryz.prog 92 = .func := by kernel_rfl
@[go_sem] theorem Tryz.shape92 : shapeT Tryz.prog 92 = some (false, 1) := by kernel_rfl
@[go_sem] theorem Tryz.zero92 : zeroD Tryz.prog 92 = some [.nilfn] := by kernel_rfl
@[go_sem] theorem Tryz.some92 : (Tryz.prog.underlying 92).isNone = false := by kernel_rfl
@[go_sem] theorem Tryz.base93 : baseT Tryz.prog 93 = .other := by kernel_rfl
@[go_sem] theorem Tryz.shape93 : shapeT Tryz.prog 93 = some (true, 256) := by kernel_rfl
@[go_sem] theorem Tryz.arr93 : arrT Tryz.prog 93 = some (256, 1) := by kernel_rfl
@[go_sem] theorem Tryz.some93 : (Tryz.prog.underlying 93).isNone = false := by kernel_rfl
@[go_sem] theorem Tryz.base94 : baseT Tryz.prog 94 = .other := by kernel_rfl
@[go_sem] theorem Tryz.shape94 : shapeT Tryz.prog 94 = some (true, 256) := by kernel_rfl
@[go_sem] theorem Tryz.arr94 : arrT Tryz.prog 94 = some (256, 1) := by kernel_rfl
@[go_sem] theorem Tryz.some94 : (Tryz.prog.underlying 94).isNone = false := by kernel_rfl
@[go_sem] theorem Tryz.base96 : baseT Tryz.prog 96 = .func := by kernel_rfl
@[go_sem] theorem Tryz.shape96 : shapeT Tryz.prog 96 = some (false, 1) := by kernel_rfl
@[go_sem] theorem Tryz.zero96 : zeroD Tryz.prog 96 = some [.nilfn] := by kernel_rfl
@[go_sem] theorem Tryz.some96 : (Tryz.prog.underlying 96).isNone = false := by kernel_rfl
@[go_sem] theorem Tryz.base97 : baseT Tryz.prog 97 = .func := by kernel_rfl
@[go_sem] theorem Tryz.shape97 : shapeT Tryz.prog 97 = some (false, 1) := by kernel_rfl
@[go_sem] theorem Tryz.zero97 : zeroD Tryz.prog 97 = some [.nilfn] := by kernel_rfl
@[go_sem] theorem Tryz.some97 : (Tryz.prog.underlying 97).isNone = false := by kernel_rfl
@[go_sem] theorem Tryz.base98 : baseT Tryz.prog 98 = .ptr := by kernel_rfl
@[go_sem] theorem Tryz.shape98 : shapeT Tryz.prog 98 = some (false, 1) := by kernel_rfl
@[go_sem] theorem Tryz.zero98 : zeroD Tryz.prog 98 = some [.nilp] := by kernel_rfl
@[go_sem] theorem Tryz.some98 : (Tryz.prog.underlying 98).isNone = false := by kernel_rfl
@[go_sem] theorem Tryz.base99 : baseT Tryz.prog 99 = .func := by kernel_rfl
@[go_sem] theorem Tryz.shape99 : shapeT Tryz.prog 99 = some (false, 1) := by kernel_rfl
@[go_sem] theorem Tryz.zero99 : zeroD Tryz.prog 99 = some [.nilfn] := by kernel_rfl
@[go_sem] theorem Tryz.some99 : (Tryz.prog.underlying 99).isNone = false := by kernel_rfl
@[go_sem] theorem Tryz.base100 : baseT Tryz.prog 100 = .slice := by kernel_rfl
@[go_sem] theorem Tryz.shape100 : shapeT Tryz.prog 100 = some (false, 1) := by kernel_rfl
@[go_sem] theorem Tryz.elem100 : elemT Tryz.prog 100 = some (106, 3, 6) := by kernel_rfl
@[go_sem] theorem Tryz.zero100 : zeroD Tryz.prog 100 = some [.nilsl] := by kernel_rfl
@[go_sem] theorem Tryz.some100 : (Tryz.prog.underlying 100).isNone = false := by kernel_rfl
@[go_sem] theorem Tryz.base101 : baseT Tryz.prog 101 = .slice := by kernel_rfl
@[go_sem] theorem Tryz.shape101 : shapeT Tryz.prog 101 = some (false, 1) := by kernel_rfl
@[go_sem] theorem Tryz.elem101 : elemT Tryz.prog 101 = some (109, 3, 12) := by kernel_rfl
@[go_sem] theorem Tryz.zero101 : zeroD Tryz.prog 101 = some [.nilsl] := by kernel_rfl
@[go_sem] theorem Tryz.some101 : (Tryz.prog.underlying 101).isNone = false := by kernel_rfl
@[go_sem] theorem Tryz.base102 : baseT Tryz.prog 102 = .struct := by kernel_rfl
@[go_sem] theorem Tryz.shape102 : shapeT Tryz.prog 102 = some (true, 3) := by kernel_rfl
@[go_sem] theorem Tryz.fields102 : fieldsT Tryz.prog 102 = some [(0, false, 1), (1, false, 1), (2, false, 1)] := by kernel_rfl
@[go_sem] theorem Tryz.zero102 : zeroD Tryz.prog 102 = some [.nilsl, .nilsl, .int .i64 0] := by kernel_rfl
@[go_sem] theorem Tryz.some102 : (Tryz.prog.underlying 102).isNone = false := by kernel_rfl
@[go_sem] theorem Tryz.base103 : baseT Tryz.prog 103 = .struct := by kernel_rfl
@[go_sem] theorem Tryz.shape103 : shapeT Tryz.prog 103 = some (true, 3) := by kernel_rfl
@[go_sem] theorem Tryz.fields103 : fieldsT Tryz.prog 103 = some [(0, false, 1), (1, false, 1), (2, false, 1)] := by kernel_rfl
@[go_sem] theorem Tryz.zero103 : zeroD Tryz.prog 103 = some [.nilsl, .nilsl, .int .i64 0] := by kernel_rfl
@[go_sem] theorem Tryz.some103 : (Tryz.prog.underlying 103).isNone = false := by kernel_rfl
@[go_sem] theorem Tryz.base104 : baseT Tryz.prog 104 = .int := by kernel_rfl
@[go_sem] theorem Tryz.shape104 : shapeT Tryz.prog 104 = some (false, 1) := by kernel_rfl
@[go_sem] theorem Tryz.int104 : intT Tryz.prog 104 = some .u16 := by kernel_rfl
@[go_sem] theorem Tryz.zero104 : zeroD Tryz.prog 104 = some [.int .u16 0] := by kernel_rfl
@[go_sem] theorem Tryz.some104 : (Tryz.prog.underlying 104).isNone = false := by kernel_rfl
@[go_sem] theorem Tryz.base105 : baseT Tryz.prog 105 = .struct := by kernel_rfl
@[go_sem] theorem Tryz.shape105 : shapeT Tryz.prog 105 = some (true, 3) := by kernel_rfl
@[go_sem] theorem Tryz.fields105 : fieldsT Tryz.prog 105 = some [(0, false, 1), (1, false, 1), (2, false, 1)] := by kernel_rfl
@[go_sem] theorem Tryz.zero105 : zeroD Tryz.prog 105 = some [.int .u16 0, .int .u16 0, .int .u16 0] := by kernel_rfl
@[go_sem] theorem Tryz.some105 : (Tryz.prog.underlying 105).isNone = false := by kernel_rfl
@[go_sem] theorem Tryz.base106 : baseT Tryz.prog 106 = .struct := by kernel_rfl
@[go_sem] theorem Tryz.shape106 : shapeT Tryz.prog 106 = some (true, 3) := by kernel_rfl
@[go_sem] theorem Tryz.fields106 : fieldsT Tryz.prog 106 = some [(0, false, 1), (1, false, 1), (2, false, 1)] := by kernel_rfl
@[go_sem] theorem Tryz.zero106 : zeroD Tryz.prog 106 = some [.int .u16 0, .int .u16 0, .int .u16 0] := by kernel_rfl
@[go_sem] theorem Tryz.some106 : (Tryz.prog.underlying 106).isNone = false := by kernel_rfl
@[go_sem] theorem Tryz.base107 : baseT Tryz.prog 107 = .func := by kernel_rfl
@[go_sem] theorem Tryz.shape107 : shapeT Tryz.prog 107 = some (false, 1) := by kernel_rfl
@[go_sem] theorem Tryz.zero107 : zeroD Tryz.prog 107 = some [.nilfn] := by kernel_rfl
@[go_sem] theorem Tryz.some107 : (Tryz.prog.underlying 107).isNone = false := by kernel_rfl
@[go_sem] theorem Tryz.base108 : baseT Tryz.prog 108 = .struct := by kernel_rfl
@[go_sem] theorem Tryz.shape108 : shapeT Tryz.prog 108 = some (true, 3) := by kernel_rfl
@[go_sem] theorem Tryz.fields108 : fieldsT Tryz.prog 108 = some [(0, false, 1), (1, false, 1), (2, false, 1)] := by kernel_rfl
@[go_sem] theorem Tryz.zero108 : zeroD Tryz.prog 108 = some [.int .u32 0, .int .u32 0, .int .u32 0] := by kernel_rfl
@[go_sem] theorem Tryz.some108 : (Tryz.prog.underlying 108).isNone = false := by kernel_rfl
@[go_sem] theorem Tryz.base109 : baseT Tryz.prog 109 = .struct := by kernel_rfl
@[go_sem] theorem Tryz.shape109 : shapeT Tryz.prog 109 = some (true, 3) := by kernel_rfl
@[go_sem] theorem Tryz.fields109 : fieldsT Tryz.prog 109 = some [(0, false, 1), (1, false, 1), (2, false, 1)] := by kernel_rfl
@[go_sem] theorem Tryz.zero109 : zeroD Tryz.prog 109 = some [.int .u32 0, .int .u32 0, .int .u32 0] := by kernel_rfl
@[go_sem] theorem Tryz.some109 : (Tryz.prog.underlying 109).isNone = false := by kernel_rfl
@[go_sem] theorem Tryz.base110 : baseT Tryz.prog 110 = .func := by kernel_rfl
@[go_sem] theorem Tryz.shape110 : shapeT Tryz.prog 110 = some (false, 1) := by kernel_rfl
@[go_sem] theorem Tryz.zero110 : zeroD Tryz.prog 110 = some [.nilfn] := by kernel_rfl
@[go_sem] theorem Tryz.some110 : (Tryz.prog.underlying 110).isNone = false := by kernel_rfl
@[go_sem] theorem Tryz.base111 : baseT Tryz.prog 111 = .other := by kernel_rfl
@[go_sem] theorem Tryz.shape111 : shapeT Tryz.prog 111 = some (true, 24) := by kernel_rfl
@[go_sem] theorem Tryz.arr111 : arrT Tryz.prog 111 = some (24, 1) := by kernel_rfl
@[go_sem] theorem Tryz.zero111 : zeroD Tryz.prog 111 = some [.int .u8 0, .int .u8 0, .int .u8 0, .int .u8 0, .int .u8 0, .int .u8 0, .int .u8 0, .int .u8 0, .int .u8 0, .int .u8 0, .int .u8 0, .int .u8 0, .int .u8 0, .int .u8 0, .int .u8 0, .int .u8 0, .int .u8 0, .int .u8 0, .int .u8 0, .int .u8 0, .int .u8 0, .int .u8 0, .int .u8 0, .int .u8 0] := by kernel_rfl
@[go_sem] theorem Tryz.some111 : (Tryz.prog.underlying 111).isNone = false := by kernel_rfl
@[go_sem] theorem Tryz.base112 : baseT Tryz.prog 112 = .int := by kernel_rfl
@[go_sem] theorem Tryz.shape112 : shapeT Tryz.prog 112 = some (false, 1) := by kernel_rfl
@[go_sem] theorem Tryz.int112 : intT Tryz.prog 112 = some .u64 := by kernel_rfl
@[go_sem] theorem Tryz.zero112 : zeroD Tryz.prog 112 = some [.int .u64 0] := by kernel_rfl
@[go_sem] theorem Tryz.some112 : (Tryz.prog.underlying 112).isNone = false := by kernel_rfl
@[go_sem] theorem Tryz.base113 : baseT Tryz.prog 113 = .func := by kernel_rfl
@[go_sem] theorem Tryz.shape113 : shapeT Tryz.prog 113 = some (false, 1) := by kernel_rfl
@[go_sem] theorem Tryz.zero113 : zeroD Tryz.prog 113 = some [.nilfn] := by kernel_rfl
@[go_sem] theorem Tryz.some113 : (Tryz.prog.underlying 113).isNone = false := by kernel_rfl
@[go_sem] theorem Tryz.base114 : baseT Tryz.prog 114 = .func := by kernel_rfl
@[go_sem] theorem Tryz.shape114 : shapeT Tryz.prog 114 = some (false, 1) := by kernel_rfl
@[go_sem] theorem Tryz.zero114 : zeroD Tryz.prog 114 = some [.nilfn] := by kernel_rfl
@[go_sem] theorem Tryz.some114 : (Tryz.prog.underlying 114).isNone = false := by kernel_rfl
@[go_sem] theorem Tryz.base116 : baseT Tryz.prog 116 = .func := by kernel_rfl
@[go_sem] theorem Tryz.shape116 : shapeT Tryz.prog 116 = some (false, 1) := by kernel_rfl
@[go_sem] theorem Tryz.zero116 : zeroD Tryz.prog 116 = some [.nilfn] := by kernel_rfl
@[go_sem] theorem Tryz.some116 : (Tryz.prog.underlying 116).isNone = false := by kernel_rfl
@[go_sem] theorem Tryz.base118 : baseT Tryz.prog 118 = .func := by kernel_rfl
@[go_sem] theorem Tryz.shape118 : shapeT Tryz.prog 118 = some (false, 1) := by kernel_rfl
@[go_sem] theorem Tryz.zero118 : zeroD Tryz.prog 118 = some [.nilfn] := by kernel_rfl
@[go_sem] theorem Tryz.some118 : (Tryz.prog.underlying 118).isNone = false := by kernel_rfl
@[go_sem] theorem Tryz.base119 : baseT Tryz.prog 119 = .func := by kernel_rfl
@[go_sem] theorem Tryz.shape119 : shapeT Tryz.prog 119 = some (false, 1) := by kernel_rfl
@[go_sem] theorem Tryz.zero119 : zeroD Tryz.prog 119 = some [.nilfn] := by kernel_rfl
@[go_sem] theorem Tryz.some119 : (Tryz.prog.underlying 119).isNone = false := by kernel_rfl
@[go_sem] theorem Tryz.base120 : baseT Tryz.prog 120 = .int := by kernel_rfl
@[go_sem] theorem Tryz.shape120 : shapeT Tryz.prog 120 = some (false, 1) := by kernel_rfl
@[go_sem] theorem Tryz.int120 : intT Tryz.prog 120 = some .i64 := by kernel_rfl
@[go_sem] theorem Tryz.zero120 : zeroD Tryz.prog 120 = some [.int .i64 0] := by kernel_rfl
@[go_sem] theorem Tryz.some120 : (Tryz.prog.underlying 120).isNone = false := by kernel_rfl
@[go_sem] theorem Tryz.base122 : baseT Tryz.prog 122 = .func := by kernel_rfl
@[go_sem] theorem Tryz.shape122 : shapeT Tryz.prog 122 = some (false, 1) := by kernel_rfl
@[go_sem] theorem Tryz.zero122 : zeroD Tryz.prog 122 = some [.nilfn] := by kernel_rfl
@[go_sem] theorem Tryz.some122 : (Tryz.prog.underlying 122).isNone = false := by kernel_rfl
@[go_sem] theorem Tryz.base123 : baseT Tryz.prog 123 = .ptr := by kernel_rfl
@[go_sem] theorem Tryz.shape123 : shapeT Tryz.prog 123 = some (false, 1) := by kernel_rfl
@[go_sem] theorem Tryz.zero123 : zeroD Tryz.prog 123 = some [.nilp] := by kernel_rfl
@[go_sem] theorem Tryz.some123 : (Tryz.prog.underlying 123).isNone = false := by kernel_rfl
@[go_sem] theorem Tryz.base124 : baseT Tryz.prog 124 = .func := by kernel_rfl
@[go_sem] theorem Tryz.shape124 : shapeT Tryz.prog 124 = some (false, 1) := by kernel_rfl
@[go_sem] theorem Tryz.zero124 : zeroD Tryz.prog 124 = some [.nilfn] := by kernel_rfl
@[go_sem] theorem Tryz.some124 : (Tryz.prog.underlying 124).isNone = false := by kernel_rfl
@[go_sem] theorem Tryz.base125 : baseT Tryz.prog 125 = .func := by kernel_rfl
@[go_sem] theorem Tryz.shape125 : shapeT Tryz.prog 125 = some (false, 1) := by kernel_rfl
@[go_sem] theorem Tryz.zero125 : zeroD Tryz.prog 125 = some [.nilfn] := by kernel_rfl
@[go_sem] theorem Tryz.some125 : (Tryz.prog.underlying 125).isNone = false := by kernel_rfl
@[go_sem] theorem Tryz.base126 : baseT Tryz.prog 126 = .ptr := by kernel_rfl
@[go_sem] theorem Tryz.shape126 : shapeT Tryz.prog 126 = some (false, 1) := by kernel_rfl
@[go_sem] theorem Tryz.zero126 : zeroD Tryz.prog 126 = some [.nilp] := by kernel_rfl
@[go_sem] theorem Tryz.some126 : (Tryz.prog.underlying 126).isNone = false := by kernel_rfl
@[go_sem] theorem Tryz.base127 : baseT Tryz.prog 127 = .int := by kernel_rfl
@[go_sem] theorem Tryz.shape127 : shapeT Tryz.prog 127 = some (false, 1) := by kernel_rfl
@[go_sem] theorem Tryz.int127 : intT Tryz.prog 127 = some .u64 := by kernel_rfl
@[go_sem] theorem Tryz.zero127 : zeroD Tryz.prog 127 = some [.int .u64 0] := by kernel_rfl
@[go_sem] theorem Tryz.some127 : (Tryz.prog.underlying 127).isNone = false := by kernel_rfl
@[go_sem] theorem Tryz.base128 : baseT Tryz.prog 128 = .ptr := by kernel_rfl
@[go_sem] theorem Tryz.shape128 : shapeT Tryz.prog 128 = some (false, 1) := by kernel_rfl
@[go_sem] theorem Tryz.zero128 : zeroD Tryz.prog 128 = some [.nilp] := by kernel_rfl
@[go_sem] theorem Tryz.some128 : (Tryz.prog.underlying 128).isNone = false := by kernel_rfl
@[go_sem] theorem Tryz.base129 : baseT Tryz.prog 129 = .func := by kernel_rfl
@[go_sem] theorem Tryz.shape129 : shapeT Tryz.prog 129 = some (false, 1) := by kernel_rfl
@[go_sem] theorem Tryz.zero129 : zeroD Tryz.prog 129 = some [.nilfn] := by kernel_rfl
@[go_sem] theorem Tryz.some129 : (Tryz.prog.underlying 129).isNone = false := by kernel_rfl
@[go_sem] theorem Tryz.base130 : baseT Tryz.prog 130 = .other := by kernel_rfl
@[go_sem] theorem Tryz.shape130 : shapeT Tryz.prog 130 = some (true, 20) := by kernel_rfl
@[go_sem] theorem Tryz.arr130 : arrT Tryz.prog 130 = some (20, 1) := by kernel_rfl
@[go_sem] theorem Tryz.zero130 : zeroD Tryz.prog 130 = some [.int .u64 0, .int .u64 0, .int .u64 0, .int .u64 0, .int .u64 0, .int .u64 0, .int .u64 0, .int .u64 0, .int .u64 0, .int .u64 0, .int .u64 0, .int .u64 0, .int .u64 0, .int .u64 0, .int .u64 0, .int .u64 0, .int .u64 0, .int .u64 0, .int .u64 0, .int .u64 0] := by kernel_rfl
@[go_sem] theorem Tryz.some130 : (Tryz.prog.underlying 130).isNone = false := by kernel_rfl
@[go_sem] theorem Tryz.base131 : baseT Tryz.prog 131 = .other := by kernel_rfl
@[go_sem] theorem Tryz.shape131 : shapeT Tryz.prog 131 = some (true, 65) := by kernel_rfl
@[go_sem] theorem Tryz.arr131 : arrT Tryz.prog 131 = some (65, 1) := by kernel_rfl
@[go_sem] theorem Tryz.some131 : (Tryz.prog.underlying 131).isNone = false := by kernel_rfl
@[go_sem] theorem Tryz.base132 : baseT Tryz.prog 132 = .func := by kernel_rfl
@[go_sem] theorem Tryz.shape132 : shapeT Tryz.prog 132 = some (false, 1) := by kernel_rfl
@[go_sem] theorem Tryz.zero132 : zeroD Tryz.prog 132 = some [.nilfn] := by kernel_rfl
@[go_sem] theorem Tryz.some132 : (Tryz.prog.underlying 132).isNone = false := by kernel_rfl
@[go_sem] theorem Tryz.base133 : baseT Tryz.prog 133 = .func := by kernel_rfl
@[go_sem] theorem Tryz.shape133 : shapeT Tryz.prog 133 = some (false, 1) := by kernel_rfl
@[go_sem] theorem Tryz.zero133 : zeroD Tryz.prog 133 = some [.nilfn] := by kernel_rfl
@[go_sem] theorem Tryz.some133 : (Tryz.prog.underlying 133).isNone = false := by kernel_rfl
@[go_sem] theorem Tryz.base134 : baseT Tryz.prog 134 = .func := by kernel_rfl
@[go_sem] theorem Tryz.shape134 : shapeT Tryz.prog 134 = some (false, 1) := by kernel_rfl
@[go_sem] theorem Tryz.zero134 : zeroD Tryz.prog 134 = some [.nilfn] := by kernel_rfl
@[go_sem] theorem Tryz.some134 : (Tryz.prog.underlying 134).isNone = false := by kernel_rfl
@[go_sem] theorem Tryz.base136 : baseT Tryz.prog 136 = .func := by kernel_rfl
@[go_sem] theorem Tryz.shape136 : shapeT Tryz.prog 136 = some (false, 1) := by kernel_rfl
@[go_sem] theorem Tryz.zero136 : zeroD Tryz.prog 136 = some [.nilfn] := by kernel_rfl
@[go_sem] theorem Tryz.some136 : (Tryz.prog.underlying 136).isNone = false := by kernel_rfl
@[go_sem] theorem Tryz.base137 : baseT Tryz.prog 137 = .func := by kernel_rfl
@[go_sem] theorem Tryz.shape137 : shapeT Tryz.prog 137 = some (false, 1) := by kernel_rfl
@[go_sem] theorem Tryz.zero137 : zeroD Tryz.prog 137 = some [.nilfn] := by kernel_rfl
@[go_sem] theorem Tryz.some137 : (Tryz.prog.underlying 137).isNone = false := by kernel_rfl
@[go_sem] theorem Tryz.base138 : baseT Tryz.prog 138 = .struct := by kernel_rfl
@[go_sem] theorem Tryz.shape138 : shapeT Tryz.prog 138 = some (true, 3) := by kernel_rfl
@[go_sem] theorem Tryz.fields138 : fieldsT Tryz.prog 138 = some [(0, false, 1), (1, false, 1), (2, false, 1)] := by kernel_rfl
@[go_sem] theorem Tryz.zero138 : zeroD Tryz.prog 138 = some [.str ⟨#[]⟩, .str ⟨#[]⟩, .nilif] := by kernel_rfl
@[go_sem] theorem Tryz.some138 : (Tryz.prog.underlying 138).isNone = false := by kernel_rfl
@[go_sem] theorem Tryz.base139 : baseT Tryz.prog 139 = .struct := by kernel_rfl
@[go_sem] theorem Tryz.shape139 : shapeT Tryz.prog 139 = some (true, 3) := by kernel_rfl
@[go_sem] theorem Tryz.fields139 : fieldsT Tryz.prog 139 = some [(0, false, 1), (1, false, 1), (2, false, 1)] := by kernel_rfl
@[go_sem] theorem Tryz.zero139 : zeroD Tryz.prog 139 = some [.str ⟨#[]⟩, .str ⟨#[]⟩, .nilif] := by kernel_rfl
@[go_sem] theorem Tryz.some139 : (Tryz.prog.underlying 139).isNone = false := by kernel_rfl
@[go_sem] theorem Tryz.base140 : baseT Tryz.prog 140 = .func := by kernel_rfl
@[go_sem] theorem Tryz.shape140 : shapeT Tryz.prog 140 = some (false, 1) := by kernel_rfl
@[go_sem] theorem Tryz.zero140 : zeroD Tryz.prog 140 = some [.nilfn] := by kernel_rfl
@[go_sem] theorem Tryz.some140 : (Tryz.prog.underlying 140).isNone = false := by kernel_rfl
@[go_sem] theorem Tryz.base141 : baseT Tryz.prog 141 = .func := by kernel_rfl
@[go_sem] theorem Tryz.shape141 : shapeT Tryz.prog 141 = some (false, 1) := by kernel_rfl
@[go_sem] theorem Tryz.zero141 : zeroD Tryz.prog 141 = some [.nilfn] := by kernel_rfl
@[go_sem] theorem Tryz.some141 : (Tryz.prog.underlying 141).isNone = false := by kernel_rfl
@[go_sem] theorem Tryz.base142 : baseT Tryz.prog 142 = .struct := by kernel_rfl
@[go_sem] theorem Tryz.shape142 : shapeT Tryz.prog 142 = some (true, 2) := by kernel_rfl
@[go_sem] theorem Tryz.fields142 : fieldsT Tryz.prog 142 = some [(0, false, 1), (1, false, 1)] := by kernel_rfl
@[go_sem] theorem Tryz.zero142 : zeroD Tryz.prog 142 = some [.int .u8 0, .int .u8 0] := by kernel_rfl
@[go_sem] theorem Tryz.some142 : (Tryz.prog.underlying 142).isNone = false := by kernel_rfl
@[go_sem] theorem Tryz.base143 : baseT Tryz.prog 143 = .struct := by kernel_rfl
@[go_sem] theorem Tryz.shape143 : shapeT Tryz.prog 143 = some (true, 2) := by kernel_rfl
@[go_sem] theorem Tryz.fields143 : fieldsT Tryz.prog 143 = some [(0, false, 1), (1, false, 1)] := by kernel_rfl
@[go_sem] theorem Tryz.zero143 : zeroD Tryz.prog 143 = some [.int .u8 0, .int .u8 0] := by kernel_rfl
@[go_sem] theorem Tryz.some143 : (Tryz.prog.underlying 143).isNone = false := by kernel_rfl
@[go_sem] theorem Tryz.base144 : baseT Tryz.prog 144 = .other := by kernel_rfl
@[go_sem] theorem Tryz.shape144 : shapeT Tryz.prog 144 = some (true, 32) := by kernel_rfl
@[go_sem] theorem Tryz.arr144 : arrT Tryz.prog 144 = some (16, 2) := by kernel_rfl
@[go_sem] theorem Tryz.zero144 : zeroD Tryz.prog 144 = some [.int .u8 0, .int .u8 0, .int .u8 0, .int .u8 0, .int .u8 0, .int .u8 0, .int .u8 0, .int .u8 0, .int .u8 0, .int .u8 0, .int .u8 0, .int .u8 0, .int .u8 0, .int .u8 0, .int .u8 0, .int .u8 0, .int .u8 0, .int .u8 0, .int .u8 0, .int .u8 0, .int .u8 0, .int .u8 0, .int .u8 0, .int .u8 0, .int .u8 0, .int .u8 0, .int .u8 0, .int .u8 0, .int .u8 0, .int .u8 0, .int .u8 0, .int .u8 0] := by kernel_rfl
@[go_sem] theorem Tryz.some144 : (Tryz.prog.underlying 144).isNone = false := by kernel_rfl
@[go_sem] theorem Tryz.base145 : baseT Tryz.prog 145 = .func := by kernel_rfl
@[go_sem] theorem Tryz.shape145 : shapeT Tryz.prog 145 = some (false, 1) := by kernel_rfl
@[go_sem] theorem Tryz.zero145 : zeroD Tryz.prog 145 = some [.nilfn] := by kernel_rfl
@[go_sem] theorem Tryz.some145 : (Tryz.prog.underlying 145).isNone = false := by kernel_rfl
@[go_sem] theorem Tryz.base146 : baseT Tryz.prog 146 = .func := by kernel_rfl
@[go_sem] theorem Tryz.shape146 : shapeT Tryz.prog 146 = some (false, 1) := by kernel_rfl
@[go_sem] theorem Tryz.zero146 : zeroD Tryz.prog 146 = some [.nilfn] := by kernel_rfl
@[go_sem] theorem Tryz.some146 : (Tryz.prog.underlying 146).isNone = false := by kernel_rfl
@[go_sem] theorem Tryz.base147 : baseT Tryz.prog 147 = .ptr := by kernel_rfl
@[go_sem] theorem Tryz.shape147 : shapeT Tryz.prog 147 = some (false, 1) := by kernel_rfl
@[go_sem] theorem Tryz.zero147 : zeroD Tryz.prog 147 = some [.nilp] := by kernel_rfl
@[go_sem] theorem Tryz.some147 : (Tryz.prog.underlying 147).isNone = false := by kernel_rfl
@[go_sem] theorem Tryz.base148 : baseT Tryz.prog 148 = .struct := by kernel_rfl
@[go_sem] theorem Tryz.shape148 : shapeT Tryz.prog 148 = some (true, 1) := by kernel_rfl
@[go_sem] theorem Tryz.fields148 : fieldsT Tryz.prog 148 = some [(0, false, 1)] := by kernel_rfl
@[go_sem] theorem Tryz.zero148 : zeroD Tryz.prog 148 = some [.str ⟨#[]⟩] := by kernel_rfl
@[go_sem] theorem Tryz.some148 : (Tryz.prog.underlying 148).isNone = false := by kernel_rfl
@[go_sem] theorem Tryz.base149 : baseT Tryz.prog 149 = .struct := by kernel_rfl
@[go_sem] theorem Tryz.shape149 : shapeT Tryz.prog 149 = some (true, 1) := by kernel_rfl
@[go_sem] theorem Tryz.fields149 : fieldsT Tryz.prog 149 = some [(0, false, 1)] := by kernel_rfl
@[go_sem] theorem Tryz.zero149 : zeroD Tryz.prog 149 = some [.str ⟨#[]⟩] := by kernel_rfl
@[go_sem] theorem Tryz.some149 : (Tryz.prog.underlying 149).isNone = false := by kernel_rfl
@[go_sem] theorem Tryz.base150 : baseT Tryz.prog 150 = .other := by kernel_rfl
@[go_sem] theorem Tryz.shape150 : shapeT Tryz.prog 150 = some (true, 32) := by kernel_rfl
@[go_sem] theorem Tryz.arr150 : arrT Tryz.prog 150 = some (32, 1) := by kernel_rfl
@[go_sem] theorem Tryz.zero150 : zeroD Tryz.prog 150 = some [.int .u8 0, .int .u8 0, .int .u8 0, .int .u8 0, .int .u8 0, .int .u8 0, .int .u8 0, .int .u8 0, .int .u8 0, .int .u8 0, .int .u8 0, .int .u8 0, .int .u8 0, .int .u8 0, .int .u8 0, .int .u8 0, .int .u8 0, .int .u8 0, .int .u8 0, .int .u8 0, .int .u8 0, .int .u8 0, .int .u8 0, .int .u8 0, .int .u8 0, .int .u8 0, .int .u8 0, .int .u8 0, .int .u8 0, .int .u8 0, .int .u8 0, .int .u8 0] := by kernel_rfl
@[go_sem] theorem Tryz.some150 : (Tryz.prog.underlying 150).isNone = false := by kernel_rfl
@[go_sem] theorem Tryz.base151 : baseT Tryz.prog 151 = .other := by kernel_rfl
@[go_sem] theorem Tryz.shape151 : shapeT Tryz.prog 151 = some (true, 64) := by kernel_rfl
@[go_sem] theorem Tryz.arr151 : arrT Tryz.prog 151 = some (64, 1) := by kernel_rfl
@[go_sem] theorem Tryz.zero151 : zeroD Tryz.prog 151 = some [.int .u8 0, .int .u8 0, .int .u8 0, .int .u8 0, .int .u8 0, .int .u8 0, .int .u8 0, .int .u8 0, .int .u8 0, .int .u8 0, .int .u8 0, .int .u8 0, .int .u8 0, .int .u8 0, .int .u8 0, .int .u8 0, .int .u8 0, .int .u8 0, .int .u8 0, .int .u8 0, .int .u8 0, .int .u8 0, .int .u8 0, .int .u8 0, .int .u8 0, .int .u8 0, .int .u8 0, .int .u8 0, .int .u8 0, .int .u8 0, .int .u8 0, .int .u8 0, .int .u8 0, .int .u8 0, .int .u8 0, .int .u8 0, .int .u8 0, .int .u8 0, .int .u8 0, .int .u8 0, .int .u8 0, .int .u8 0, .int .u8 0, .int .u8 0, .int .u8 0, .int .u8 0, .int .u8 0, .int .u8 0, .int .u8 0, .int .u8 0, .int .u8 0, .int .u8 0, .int .u8 0, .int .u8 0, .int .u8 0, .int .u8 0, .int .u8 0, .int .u8 0, .int .u8 0, .int .u8 0, .int .u8 0, .int .u8 0, .int .u8 0, .int .u8 0] := by kernel_rfl
@[go_sem] theorem Tryz.some151 : (Tryz.prog.underlying 151).isNone = false := by kernel_rfl
@[go_sem] theorem Tryz.base152 : baseT Tryz.prog 152 = .struct := by kernel_rfl
@[go_sem] theorem Tryz.shape152 : shapeT Tryz.prog 152 = some (true, 4) := by kernel_rfl
@[go_sem] theorem Tryz.fields152 : fieldsT Tryz.prog 152 = some [(0, false, 1), (1, false, 1), (2, false, 1), (3, false, 1)] := by kernel_rfl
@[go_sem] theorem Tryz.zero152 : zeroD Tryz.prog 152 = some [.nilp, .nilp, .nilp, .str ⟨#[]⟩] := by kernel_rfl
@[go_sem] theorem Tryz.some152 : (Tryz.prog.underlying 152).isNone = false := by kernel_rfl
@[go_sem] theorem Tryz.base153 : baseT Tryz.prog 153 = .struct := by kernel_rfl
@[go_sem] theorem Tryz.shape153 : shapeT Tryz.prog 153 = some (true, 4) := by kernel_rfl
@[go_sem] theorem Tryz.fields153 : fieldsT Tryz.prog 153 = some [(0, false, 1), (1, false, 1), (2, false, 1), (3, false, 1)] := by kernel_rfl
@[go_sem] theorem Tryz.zero153 : zeroD Tryz.prog 153 = some [.nilp, .nilp, .nilp, .str ⟨#[]⟩] := by kernel_rfl
@[go_sem] theorem Tryz.some153 : (Tryz.prog.underlying 153).isNone = false := by kernel_rfl
@[go_sem] theorem Tryz.base154 : baseT Tryz.prog 154 = .other := by kernel_rfl
@[go_sem] theorem Tryz.shape154 : shapeT Tryz.prog 154 = some (true, 0) := by kernel_rfl
@[go_sem] theorem Tryz.arr154 : arrT Tryz.prog 154 = some (0, 1) := by kernel_rfl
@[go_sem] theorem Tryz.zero154 : zeroD Tryz.prog 154 = some [] := by kernel_rfl
@[go_sem] theorem Tryz.some154 : (Tryz.prog.underlying 154).isNone = false := by kernel_rfl
@[go_sem] theorem Tryz.base155 : baseT Tryz.prog 155 = .struct := by kernel_rfl
@[go_sem] theorem Tryz.shape155 : shapeT Tryz.prog 155 = some (true, 0) := by kernel_rfl
@[go_sem] theorem Tryz.fields155 : fieldsT Tryz.prog 155 = some [(0, true, 0)] := by kernel_rfl
@[go_sem] theorem Tryz.zero155 : zeroD Tryz.prog 155 = some [] := by kernel_rfl
@[go_sem] theorem Tryz.some155 : (Tryz.prog.underlying 155).isNone = false := by kernel_rfl
@[go_sem] theorem Tryz.base156 : baseT Tryz.prog 156 = .struct := by kernel_rfl
@[go_sem] theorem Tryz.shape156 : shapeT Tryz.prog 156 = some (true, 0) := by kernel_rfl
@[go_sem] theorem Tryz.fields156 : fieldsT Tryz.prog 156 = some [(0, true, 0)] := by kernel_rfl
@[go_sem] theorem Tryz.zero156 : zeroD Tryz.prog 156 = some [] := by kernel_rfl
@[go_sem] theorem Tryz.some156 : (Tryz.prog.underlying 156).isNone = false := by kernel_rfl
@[go_sem] theorem Tryz.base157 : baseT Tryz.prog 157 = .func := by kernel_rfl
@[go_sem] theorem Tryz.shape157 : shapeT Tryz.prog 157 = some (false, 1) := by kernel_rfl
@[go_sem] theorem Tryz.zero157 : zeroD Tryz.prog 157 = some [.nilfn] := by kernel_rfl
@[go_sem] theorem Tryz.some157 : (Tryz.prog.underlying 157).isNone = false := by kernel_rfl
@[go_sem] theorem Tryz.base158 : baseT Tryz.prog 158 = .int := by kernel_rfl
@[go_sem] theorem Tryz.shape158 : shapeT Tryz.prog 158 = some (false, 1) := by kernel_rfl
@[go_sem] theorem Tryz.int158 : intT Tryz.prog 158 = some .u8 := by kernel_rfl
@[go_sem] theorem Tryz.zero158 : zeroD Tryz.prog 158 = some [.int .u8 0] := by kernel_rfl
@[go_sem] theorem Tryz.some158 : (Tryz.prog.underlying 158).isNone = false := by kernel_rfl
@[go_sem] theorem Tryz.base159 : baseT Tryz.prog 159 = .int := by kernel_rfl
@[go_sem] theorem Tryz.shape159 : shapeT Tryz.prog 159 = some (false, 1) := by kernel_rfl
@[go_sem] theorem Tryz.int159 : intT Tryz.prog 159 = some .u8 := by kernel_rfl
@[go_sem] theorem Tryz.zero159 : zeroD Tryz.prog 159 = some [.int .u8 0] := by kernel_rfl
@[go_sem] theorem Tryz.some159 : (Tryz.prog.underlying 159).isNone = false := by kernel_rfl
@[go_sem] theorem Tryz.base160 : baseT Tryz.prog 160 = .func := by kernel_rfl
@[go_sem] theorem Tryz.shape160 : shapeT Tryz.prog 160 = some (false, 1) := by kernel_rfl
@[go_sem] theorem Tryz.zero160 : zeroD Tryz.prog 160 = some [.nilfn] := by kernel_rfl
@[go_sem] theorem Tryz.some160 : (Tryz.prog.underlying 160).isNone = false := by kernel_rfl
@[go_sem] theorem Tryz.base161 : baseT Tryz.prog 161 = .int := by kernel_rfl
@[go_sem] theorem Tryz.shape161 : shapeT Tryz.prog 161 = some (false, 1) := by kernel_rfl
@[go_sem] theorem Tryz.int161 : intT Tryz.prog 161 = some .i32 := by kernel_rfl
@[go_sem] theorem Tryz.zero161 : zeroD Tryz.prog 161 = some [.int .i32 0] := by kernel_rfl
@[go_sem] theorem Tryz.some161 : (Tryz.prog.underlying 161).isNone = false := by kernel_rfl
@[go_sem] theorem Tryz.base162 : baseT Tryz.prog 162 = .int := by kernel_rfl
@[go_sem] theorem Tryz.shape162 : shapeT Tryz.prog 162 = some (false, 1) := by kernel_rfl
@[go_sem] theorem Tryz.int162 : intT Tryz.prog 162 = some .i32 := by kernel_rfl
@[go_sem] theorem Tryz.zero162 : zeroD Tryz.prog 162 = some [.int .i32 0] := by kernel_rfl
@[go_sem] theorem Tryz.some162 : (Tryz.prog.underlying 162).isNone = false := by kernel_rfl
@[go_sem] theorem Tryz.base163 : baseT Tryz.prog 163 = .struct := by kernel_rfl
@[go_sem] theorem Tryz.shape163 : shapeT Tryz.prog 163 = some (true, 11) := by kernel_rfl
@[go_sem] theorem Tryz.fields163 : fieldsT Tryz.prog 163 = some [(0, false, 1), (1, false, 1), (2, false, 1), (3, false, 1), (4, false, 1), (5, false, 1), (6, false, 1), (7, false, 1), (8, false, 1), (9, false, 1), (10, false, 1)] := by kernel_rfl
@[go_sem] theorem Tryz.zero163 : zeroD Tryz.prog 163 = some [.int .u64 0, .int .u64 0, .int .u32 0, .int .u8 0, .int .u8 0, .int .u8 0, .int .u8 0, .nilfn, .nilp, .int .i32 0, .int .i32 0] := by kernel_rfl
@[go_sem] theorem Tryz.some163 : (Tryz.prog.underlying 163).isNone = false := by kernel_rfl
@[go_sem] theorem Tryz.base164 : baseT Tryz.prog 164 = .struct := by kernel_rfl
@[go_sem] theorem Tryz.shape164 : shapeT Tryz.prog 164 = some (true, 11) := by kernel_rfl
@[go_sem] theorem Tryz.fields164 : fieldsT Tryz.prog 164 = some [(0, false, 1), (1, false, 1), (2, false, 1), (3, false, 1), (4, false, 1), (5, false, 1), (6, false, 1), (7, false, 1), (8, false, 1), (9, false, 1), (10, false, 1)] := by kernel_rfl
@[go_sem] theorem Tryz.zero164 : zeroD Tryz.prog 164 = some [.int .u64 0, .int .u64 0, .int .u32 0, .int .u8 0, .int .u8 0, .int .u8 0, .int .u8 0, .nilfn, .nilp, .int .i32 0, .int .i32 0] := by kernel_rfl
@[go_sem] theorem Tryz.some164 : (Tryz.prog.underlying 164).isNone = false := by kernel_rfl
theorem Tryz.mixed : Tryz.prog.follows .mixedOrders = true := by kernel_rfl
end Go.Proofs
