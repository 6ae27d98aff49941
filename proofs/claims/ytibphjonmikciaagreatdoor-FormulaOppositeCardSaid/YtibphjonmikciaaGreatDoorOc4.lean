/- Part of the proof: what the last text builds on. No condition stands here. -/
import Derived.Test.YtibphjonmikciaaGreatDoorProg
import Derived.Test.YtibphjonmikciaaGreatDoorRows
import Derived.Test.YtibphjonmikciaaGreatDoorCards
import Derived.Test.YtibphjonmikciaaGreatDoorTie
import Derived.Test.YtibphjonmikciaaGreatDoorOc3
set_option linter.unusedSimpArgs false
set_option linter.unusedVariables false
set_option maxRecDepth 20000
namespace Go.Proofs.YtibphjonmikciaaGreatDoor
open Go Go.Av
noncomputable def svOps:Array Oper:=match Tryz.f73.body with|some (.seq _ (.seq (.region _ ops _) _))=>ops|_=> #[]
theorem C2t{vals:Nat→D}{B:Av.Heap}{E0:FEnv}
  (x: ∀ev:Operand→D,EvC ev→Av.C8 Tryz.prog ev B (Av.Fin fun d H=>d=vals 0∧H=B) (Go.Op.makeMap 72 none))
  (h1: ∀ev:Operand→D,EvC ev→ev (.tmp 5)=vals 0→Av.C8 Tryz.prog ev B (Av.Fin fun d H=>d=vals 1∧H=B) (Go.Op.build 150 #[(1,(Go.Operand.tmp 5))]))
  (y: ∀ev:Operand→D,EvC ev→ev (.tmp 1)=E0 1→Av.C8 Tryz.prog ev B (Av.Fin fun d H=>d=vals 2∧H=B) (Go.Op.move (Go.Operand.tmp 1)))
  (z: ∀ev:Operand→D,EvC ev→ev (.tmp 6)=vals 1→ev (.tmp 7)=vals 2→Av.C8 Tryz.prog ev B (Av.Fin fun d H=>d=vals 3∧H=B) (Go.Op.call {callee:=(Go.Callee.value (Go.Operand.func 123)),args:= #[(Go.Operand.tmp 6),(Go.Operand.tmp 7)],argTypes:= #[150,110]}))
  (A: ∀ev:Operand→D,EvC ev→ev (.tmp 2)=E0 2→Av.C8 Tryz.prog ev B (Av.Fin fun d H=>d=vals 4∧H=B) (Go.Op.load 28 (Go.Operand.tmp 2)))
  (h5: ∀ev:Operand→D,EvC ev→ev (.tmp 9)=vals 4→Av.C8 Tryz.prog ev B (Av.Fin fun d H=>d=vals 5∧H=B) (Go.Op.call {callee:=(Go.Callee.value (Go.Operand.func 50)),args:= #[(Go.Operand.tmp 9),(Go.Operand.const (Go.Value.bool false))],argTypes:= #[28,4]}))
  (C: ∀ev:Operand→D,EvC ev→ev (.tmp 10)=vals 5→Av.C8 Tryz.prog ev B (Av.Fin fun d H=>d=vals 6∧H=B) (Go.Op.buildSlice 26 1 #[(0,(Go.Operand.tmp 10))]))
  (G: ∀ev:Operand→D,EvC ev→ev (.tmp 8)=vals 3→ev (.tmp 11)=vals 6→Av.C8 Tryz.prog ev B (Av.Fin fun d H=>d=vals 7∧H=B) (Go.Op.call {callee:=(Go.Callee.value (Go.Operand.func 124)),args:= #[(Go.Operand.tmp 8),(Go.Operand.tmp 11)],argTypes:= #[150,26]}))
  (I: ∀ev:Operand→D,EvC ev→ev (.tmp 12)=vals 7→Av.C8 Tryz.prog ev B (Av.Fin fun d H=>d=vals 8∧H=B) (Go.Op.assign (Go.Operand.tmp 12)))
  :B0E Tryz.prog svOps vals B E0:=by
 obtain⟨J,g,L,M,O,w0⟩: ∃o,svOps[0]? =some o∧o.dst=some 5∧o.op=(Go.Op.makeMap 72 none)∧o.guard=none∧(∀j∈([]:List Nat),j∈J4 o):=⟨_,rfl,rfl,rfl,rfl,by simp⟩
 obtain⟨T,o1,d1,U,V,W⟩: ∃o,svOps[1]? =some o∧o.dst=some 6∧o.op=(Go.Op.build 150 #[(1,(Go.Operand.tmp 5))])∧o.guard=none∧(∀j∈([0]:List Nat),j∈J4 o):=⟨_,rfl,rfl,rfl,rfl,by decide+kernel⟩
 obtain⟨X,o2,Y,p2,g2,w2⟩: ∃o,svOps[2]? =some o∧o.dst=some 7∧o.op=(Go.Op.move (Go.Operand.tmp 1))∧o.guard=none∧(∀j∈([]:List Nat),j∈J4 o):=⟨_,rfl,rfl,rfl,rfl,by simp⟩
 obtain⟨x3,o3,d3,p3,g3,h⟩: ∃o,svOps[3]? =some o∧o.dst=some 8∧o.op=(Go.Op.call {callee:=(Go.Callee.value (Go.Operand.func 123)),args:= #[(Go.Operand.tmp 6),(Go.Operand.tmp 7)],argTypes:= #[150,110]})∧o.guard=none∧(∀j∈([1,2]:List Nat),j∈J4 o):=⟨_,rfl,rfl,rfl,rfl,by decide+kernel⟩
 obtain⟨x4,m,d4,p4,g4,w4⟩: ∃o,svOps[4]? =some o∧o.dst=some 9∧o.op=(Go.Op.load 28 (Go.Operand.tmp 2))∧o.guard=none∧(∀j∈([]:List Nat),j∈J4 o):=⟨_,rfl,rfl,rfl,rfl,by simp⟩
 obtain⟨x5,p,d5,p5,g5,w5⟩: ∃o,svOps[5]? =some o∧o.dst=some 10∧o.op=(Go.Op.call {callee:=(Go.Callee.value (Go.Operand.func 50)),args:= #[(Go.Operand.tmp 9),(Go.Operand.const (Go.Value.bool false))],argTypes:= #[28,4]})∧o.guard=none∧(∀j∈([4]:List Nat),j∈J4 o):=⟨_,rfl,rfl,rfl,rfl,by decide+kernel⟩
 obtain⟨x6,q,d6,p6,g6,w6⟩: ∃o,svOps[6]? =some o∧o.dst=some 11∧o.op=(Go.Op.buildSlice 26 1 #[(0,(Go.Operand.tmp 10))])∧o.guard=none∧(∀j∈([5]:List Nat),j∈J4 o):=⟨_,rfl,rfl,rfl,rfl,by decide+kernel⟩
 obtain⟨x7,r,d7,p7,g7,u⟩: ∃o,svOps[7]? =some o∧o.dst=some 12∧o.op=(Go.Op.call {callee:=(Go.Callee.value (Go.Operand.func 124)),args:= #[(Go.Operand.tmp 8),(Go.Operand.tmp 11)],argTypes:= #[150,26]})∧o.guard=none∧(∀j∈([3,6]:List Nat),j∈J4 o):=⟨_,rfl,rfl,rfl,rfl,by decide+kernel⟩
 obtain⟨x8,o8,d8,p8,g8,w8⟩: ∃o,svOps[8]? =some o∧o.dst=some 4∧o.op=(Go.Op.assign (Go.Operand.tmp 12))∧o.guard=none∧(∀j∈([7]:List Nat),j∈J4 o):=⟨_,rfl,rfl,rfl,rfl,by decide+kernel⟩
 have hs:svOps.size=9:=by kernel_rfl
 have n1:(svOps.toList.all fun oj=>oj.dst != some 1)=true:=by kernel_rfl
 have n2:(svOps.toList.all fun oj=>oj.dst != some 2)=true:=by kernel_rfl
 generalize svOps=ops at*;intro i o ho;have hi:i<9:=by have:=(D0E.1 ho).1;omega
 match i,hi with
 |0,_=>
  rw[g]at ho;cases ho;exact⟨O,fun F e he=>by rw[M];exact x F.ev ⟨fun _=>rfl,fun _=>rfl⟩⟩
 |1,_=>
  rw[o1]at ho;cases ho;exact⟨V,fun F e he=>by rw[U];exact h1 F.ev ⟨fun _=>rfl,fun _=>rfl⟩ (e 0 J g (W 0 (by simp)) 5 L)⟩
 |2,_=>
  rw[o2]at ho;cases ho;exact⟨g2,fun F e he=>by rw[p2];exact y F.ev ⟨fun _=>rfl,fun _=>rfl⟩ (he 1 n1)⟩
 |3,_=>
  rw[o3]at ho;cases ho;exact⟨g3,fun F e he=>by rw[p3];exact z F.ev ⟨fun _=>rfl,fun _=>rfl⟩ (e 1 T o1 (h 1 (by simp)) 6 d1) (e 2 X o2 (h 2 (by simp)) 7 Y)⟩
 |4,_=>
  rw[m]at ho;cases ho;exact⟨g4,fun F e he=>by rw[p4];exact A F.ev ⟨fun _=>rfl,fun _=>rfl⟩ (he 2 n2)⟩
 |5,_=>
  rw[p]at ho;cases ho;exact⟨g5,fun F e he=>by rw[p5];exact h5 F.ev ⟨fun _=>rfl,fun _=>rfl⟩ (e 4 x4 m (w5 4 (by simp)) 9 d4)⟩
 |6,_=>
  rw[q]at ho;cases ho;exact⟨g6,fun F e he=>by rw[p6];exact C F.ev ⟨fun _=>rfl,fun _=>rfl⟩ (e 5 x5 p (w6 5 (by simp)) 10 d5)⟩
 |7,_=>
  rw[r]at ho;cases ho;exact⟨g7,fun F e he=>by rw[p7];exact G F.ev ⟨fun _=>rfl,fun _=>rfl⟩ (e 3 x3 o3 (u 3 (by simp)) 8 d3) (e 6 x6 q (u 6 (by simp)) 11 d6)⟩
 |8,_=>
  rw[o8]at ho;cases ho;exact⟨g8,fun F e he=>by rw[p8];exact I F.ev ⟨fun _=>rfl,fun _=>rfl⟩ (e 7 x7 r (w8 7 (by simp)) 12 d7)⟩
noncomputable def chOps:Array Oper:=match Tryz.f195.body with|some (.seq _ (.seq (.region _ ops _) _))=>ops|_=> #[]
theorem C2u{vals:Nat→D}{B:Av.Heap}{E0:FEnv}
  (r: ∀ev:Operand→D,EvC ev→ev (.tmp 1)=E0 1→Av.C8 Tryz.prog ev B (Av.Fin fun d H=>d=vals 0∧H=B) (Go.Op.load 150 (Go.Operand.tmp 1)))
  (h1: ∀ev:Operand→D,EvC ev→ev (.tmp 3)=E0 3→Av.C8 Tryz.prog ev B (Av.Fin fun d H=>d=vals 1∧H=B) (Go.Op.load 28 (Go.Operand.tmp 3)))
  (u: ∀ev:Operand→D,EvC ev→ev (.tmp 6)=vals 1→Av.C8 Tryz.prog ev B (Av.Fin fun d H=>d=vals 2∧H=B) (Go.Op.buildSlice 26 1 #[(0,(Go.Operand.tmp 6))]))
  (x: ∀ev:Operand→D,EvC ev→ev (.tmp 2)=E0 2→Av.C8 Tryz.prog ev B (Av.Fin fun d H=>d=vals 3∧H=B) (Go.Op.load 26 (Go.Operand.tmp 2)))
  (y: ∀ev:Operand→D,EvC ev→ev (.tmp 7)=vals 2→ev (.tmp 8)=vals 3→Av.C8 Tryz.prog ev B (Av.Fin fun d H=>d=vals 4∧H=B) (Go.Op.buildSlice 210 2 #[(0,(Go.Operand.tmp 7)),(1,(Go.Operand.tmp 8))]))
  (h5: ∀ev:Operand→D,EvC ev→ev (.tmp 9)=vals 4→Av.C8 Tryz.prog ev B (Av.Fin fun d H=>d=vals 5∧H=B) (Go.Op.call {callee:=(Go.Callee.value (Go.Operand.func 153)),args:= #[(Go.Operand.tmp 9)],argTypes:= #[210]}))
  (z: ∀ev:Operand→D,EvC ev→ev (.tmp 5)=vals 0→ev (.tmp 10)=vals 5→Av.C8 Tryz.prog ev B (Av.Fin fun d H=>d=vals 6∧H=B) (Go.Op.call {callee:=(Go.Callee.value (Go.Operand.func 124)),args:= #[(Go.Operand.tmp 5),(Go.Operand.tmp 10)],argTypes:= #[150,26]}))
  (A: ∀ev:Operand→D,EvC ev→ev (.tmp 11)=vals 6→Av.C8 Tryz.prog ev B (Av.Fin fun d H=>d=vals 7∧H=B) (Go.Op.assign (Go.Operand.tmp 11)))
  :B0E Tryz.prog chOps vals B E0:=by
 obtain⟨C,g,G,I,J,w0⟩: ∃o,chOps[0]? =some o∧o.dst=some 5∧o.op=(Go.Op.load 150 (Go.Operand.tmp 1))∧o.guard=none∧(∀j∈([]:List Nat),j∈J4 o):=⟨_,rfl,rfl,rfl,rfl,by simp⟩
 obtain⟨L,o1,d1,M,O,w1⟩: ∃o,chOps[1]? =some o∧o.dst=some 6∧o.op=(Go.Op.load 28 (Go.Operand.tmp 3))∧o.guard=none∧(∀j∈([]:List Nat),j∈J4 o):=⟨_,rfl,rfl,rfl,rfl,by simp⟩
 obtain⟨T,o2,U,V,W,X⟩: ∃o,chOps[2]? =some o∧o.dst=some 7∧o.op=(Go.Op.buildSlice 26 1 #[(0,(Go.Operand.tmp 6))])∧o.guard=none∧(∀j∈([1]:List Nat),j∈J4 o):=⟨_,rfl,rfl,rfl,rfl,by decide+kernel⟩
 obtain⟨Y,o3,d3,p3,g3,w3⟩: ∃o,chOps[3]? =some o∧o.dst=some 8∧o.op=(Go.Op.load 26 (Go.Operand.tmp 2))∧o.guard=none∧(∀j∈([]:List Nat),j∈J4 o):=⟨_,rfl,rfl,rfl,rfl,by simp⟩
 obtain⟨x4,h,d4,p4,g4,m⟩: ∃o,chOps[4]? =some o∧o.dst=some 9∧o.op=(Go.Op.buildSlice 210 2 #[(0,(Go.Operand.tmp 7)),(1,(Go.Operand.tmp 8))])∧o.guard=none∧(∀j∈([2,3]:List Nat),j∈J4 o):=⟨_,rfl,rfl,rfl,rfl,by decide+kernel⟩
 obtain⟨x5,p,d5,p5,g5,w5⟩: ∃o,chOps[5]? =some o∧o.dst=some 10∧o.op=(Go.Op.call {callee:=(Go.Callee.value (Go.Operand.func 153)),args:= #[(Go.Operand.tmp 9)],argTypes:= #[210]})∧o.guard=none∧(∀j∈([4]:List Nat),j∈J4 o):=⟨_,rfl,rfl,rfl,rfl,by decide+kernel⟩
 obtain⟨x6,q,d6,p6,g6,w6⟩: ∃o,chOps[6]? =some o∧o.dst=some 11∧o.op=(Go.Op.call {callee:=(Go.Callee.value (Go.Operand.func 124)),args:= #[(Go.Operand.tmp 5),(Go.Operand.tmp 10)],argTypes:= #[150,26]})∧o.guard=none∧(∀j∈([0,5]:List Nat),j∈J4 o):=⟨_,rfl,rfl,rfl,rfl,by decide+kernel⟩
 obtain⟨x7,o7,d7,p7,g7,w7⟩: ∃o,chOps[7]? =some o∧o.dst=some 4∧o.op=(Go.Op.assign (Go.Operand.tmp 11))∧o.guard=none∧(∀j∈([6]:List Nat),j∈J4 o):=⟨_,rfl,rfl,rfl,rfl,by decide+kernel⟩
 have hs:chOps.size=8:=by kernel_rfl
 have n1:(chOps.toList.all fun oj=>oj.dst != some 1)=true:=by kernel_rfl
 have n2:(chOps.toList.all fun oj=>oj.dst != some 2)=true:=by kernel_rfl
 have n3:(chOps.toList.all fun oj=>oj.dst != some 3)=true:=by kernel_rfl
 generalize chOps=ops at*;intro i o ho;have hi:i<8:=by have:=(D0E.1 ho).1;omega
 match i,hi with
 |0,_=>
  rw[g]at ho;cases ho;exact⟨J,fun F e he=>by rw[I];exact r F.ev ⟨fun _=>rfl,fun _=>rfl⟩ (he 1 n1)⟩
 |1,_=>
  rw[o1]at ho;cases ho;exact⟨O,fun F e he=>by rw[M];exact h1 F.ev ⟨fun _=>rfl,fun _=>rfl⟩ (he 3 n3)⟩
 |2,_=>
  rw[o2]at ho;cases ho;exact⟨W,fun F e he=>by rw[V];exact u F.ev ⟨fun _=>rfl,fun _=>rfl⟩ (e 1 L o1 (X 1 (by simp)) 6 d1)⟩
 |3,_=>
  rw[o3]at ho;cases ho;exact⟨g3,fun F e he=>by rw[p3];exact x F.ev ⟨fun _=>rfl,fun _=>rfl⟩ (he 2 n2)⟩
 |4,_=>
  rw[h]at ho;cases ho;exact⟨g4,fun F e he=>by rw[p4];exact y F.ev ⟨fun _=>rfl,fun _=>rfl⟩ (e 2 T o2 (m 2 (by simp)) 7 U) (e 3 Y o3 (m 3 (by simp)) 8 d3)⟩
 |5,_=>
  rw[p]at ho;cases ho;exact⟨g5,fun F e he=>by rw[p5];exact h5 F.ev ⟨fun _=>rfl,fun _=>rfl⟩ (e 4 x4 h (w5 4 (by simp)) 9 d4)⟩
 |6,_=>
  rw[q]at ho;cases ho;exact⟨g6,fun F e he=>by rw[p6];exact z F.ev ⟨fun _=>rfl,fun _=>rfl⟩ (e 0 C g (w6 0 (by simp)) 5 G) (e 5 x5 p (w6 5 (by simp)) 10 d5)⟩
 |7,_=>
  rw[o7]at ho;cases ho;exact⟨g7,fun F e he=>by rw[p7];exact A F.ev ⟨fun _=>rfl,fun _=>rfl⟩ (e 6 x6 q (w7 6 (by simp)) 11 d6)⟩
noncomputable def foOps:Array Oper:=match Tryz.f84.body with|some (.seq _ (.seq (.region _ ops _) _))=>ops|_=> #[]
theorem C2v{vals:Nat→D}{B:Av.Heap}{E0:FEnv}
  (r: ∀ev:Operand→D,EvC ev→ev (.tmp 2)=E0 2→Av.C8 Tryz.prog ev B (Av.Fin fun d H=>d=vals 0∧H=B) (Go.Op.load 28 (Go.Operand.tmp 2)))
  (h1: ∀ev:Operand→D,EvC ev→ev (.tmp 3)=E0 3→Av.C8 Tryz.prog ev B (Av.Fin fun d H=>d=vals 1∧H=B) (Go.Op.load 28 (Go.Operand.tmp 3)))
  (u: ∀ev:Operand→D,EvC ev→ev (.tmp 6)=vals 1→Av.C8 Tryz.prog ev B (Av.Fin fun d H=>d=vals 2∧H=B) (Go.Op.call {callee:=(Go.Callee.value (Go.Operand.func 50)),args:= #[(Go.Operand.tmp 6),(Go.Operand.const (Go.Value.bool true))],argTypes:= #[28,4]}))
  (x: ∀ev:Operand→D,EvC ev→ev (.tmp 5)=vals 0→ev (.tmp 7)=vals 2→Av.C8 Tryz.prog ev B (Av.Fin fun d H=>d=vals 3∧H=B) (Go.Op.buildSlice 26 2 #[(0,(Go.Operand.tmp 5)),(1,(Go.Operand.tmp 7))]))
  (y: ∀ev:Operand→D,EvC ev→ev (.tmp 8)=vals 3→Av.C8 Tryz.prog ev B (Av.Fin fun d H=>d=vals 4∧H=B) (Go.Op.build 28 #[(0,(Go.Operand.const (Go.Value.int Go.IntKind.i64 5))),(4,(Go.Operand.tmp 8))]))
  (h5: ∀ev:Operand→D,EvC ev→ev (.tmp 9)=vals 4→Av.C8 Tryz.prog ev B (Av.Fin fun d H=>d=vals 5∧H=B) (Go.Op.call {callee:=(Go.Callee.value (Go.Operand.func 73)),args:= #[(Go.Operand.tmp 9),(Go.Operand.const (Go.Value.slice none 0 0))],argTypes:= #[28,110]}))
  (z: ∀ev:Operand→D,EvC ev→ev (.tmp 10)=vals 5→Av.C8 Tryz.prog ev B (Av.Fin fun d H=>d=vals 6∧H=B) (Go.Op.unOp Go.UnOp.not 4 (Go.Operand.tmp 10)))
  (A: ∀ev:Operand→D,EvC ev→ev (.tmp 11)=vals 6→Av.C8 Tryz.prog ev B (Av.Fin fun d H=>d=vals 7∧H=B) (Go.Op.assign (Go.Operand.tmp 11)))
  :B0E Tryz.prog foOps vals B E0:=by
 obtain⟨C,g,G,I,J,w0⟩: ∃o,foOps[0]? =some o∧o.dst=some 5∧o.op=(Go.Op.load 28 (Go.Operand.tmp 2))∧o.guard=none∧(∀j∈([]:List Nat),j∈J4 o):=⟨_,rfl,rfl,rfl,rfl,by simp⟩
 obtain⟨L,o1,d1,M,O,w1⟩: ∃o,foOps[1]? =some o∧o.dst=some 6∧o.op=(Go.Op.load 28 (Go.Operand.tmp 3))∧o.guard=none∧(∀j∈([]:List Nat),j∈J4 o):=⟨_,rfl,rfl,rfl,rfl,by simp⟩
 obtain⟨T,o2,U,V,W,X⟩: ∃o,foOps[2]? =some o∧o.dst=some 7∧o.op=(Go.Op.call {callee:=(Go.Callee.value (Go.Operand.func 50)),args:= #[(Go.Operand.tmp 6),(Go.Operand.const (Go.Value.bool true))],argTypes:= #[28,4]})∧o.guard=none∧(∀j∈([1]:List Nat),j∈J4 o):=⟨_,rfl,rfl,rfl,rfl,by decide+kernel⟩
 obtain⟨Y,o3,d3,p3,g3,h⟩: ∃o,foOps[3]? =some o∧o.dst=some 8∧o.op=(Go.Op.buildSlice 26 2 #[(0,(Go.Operand.tmp 5)),(1,(Go.Operand.tmp 7))])∧o.guard=none∧(∀j∈([0,2]:List Nat),j∈J4 o):=⟨_,rfl,rfl,rfl,rfl,by decide+kernel⟩
 obtain⟨x4,m,d4,p4,g4,w4⟩: ∃o,foOps[4]? =some o∧o.dst=some 9∧o.op=(Go.Op.build 28 #[(0,(Go.Operand.const (Go.Value.int Go.IntKind.i64 5))),(4,(Go.Operand.tmp 8))])∧o.guard=none∧(∀j∈([3]:List Nat),j∈J4 o):=⟨_,rfl,rfl,rfl,rfl,by decide+kernel⟩
 obtain⟨x5,p,d5,p5,g5,w5⟩: ∃o,foOps[5]? =some o∧o.dst=some 10∧o.op=(Go.Op.call {callee:=(Go.Callee.value (Go.Operand.func 73)),args:= #[(Go.Operand.tmp 9),(Go.Operand.const (Go.Value.slice none 0 0))],argTypes:= #[28,110]})∧o.guard=none∧(∀j∈([4]:List Nat),j∈J4 o):=⟨_,rfl,rfl,rfl,rfl,by decide+kernel⟩
 obtain⟨x6,q,d6,p6,g6,w6⟩: ∃o,foOps[6]? =some o∧o.dst=some 11∧o.op=(Go.Op.unOp Go.UnOp.not 4 (Go.Operand.tmp 10))∧o.guard=none∧(∀j∈([5]:List Nat),j∈J4 o):=⟨_,rfl,rfl,rfl,rfl,by decide+kernel⟩
 obtain⟨x7,o7,d7,p7,g7,w7⟩: ∃o,foOps[7]? =some o∧o.dst=some 4∧o.op=(Go.Op.assign (Go.Operand.tmp 11))∧o.guard=none∧(∀j∈([6]:List Nat),j∈J4 o):=⟨_,rfl,rfl,rfl,rfl,by decide+kernel⟩
 have hs:foOps.size=8:=by kernel_rfl
 have n2:(foOps.toList.all fun oj=>oj.dst != some 2)=true:=by kernel_rfl
 have n3:(foOps.toList.all fun oj=>oj.dst != some 3)=true:=by kernel_rfl
 generalize foOps=ops at*;intro i o ho;have hi:i<8:=by have:=(D0E.1 ho).1;omega
 match i,hi with
 |0,_=>
  rw[g]at ho;cases ho;exact⟨J,fun F e he=>by rw[I];exact r F.ev ⟨fun _=>rfl,fun _=>rfl⟩ (he 2 n2)⟩
 |1,_=>
  rw[o1]at ho;cases ho;exact⟨O,fun F e he=>by rw[M];exact h1 F.ev ⟨fun _=>rfl,fun _=>rfl⟩ (he 3 n3)⟩
 |2,_=>
  rw[o2]at ho;cases ho;exact⟨W,fun F e he=>by rw[V];exact u F.ev ⟨fun _=>rfl,fun _=>rfl⟩ (e 1 L o1 (X 1 (by simp)) 6 d1)⟩
 |3,_=>
  rw[o3]at ho;cases ho;exact⟨g3,fun F e he=>by rw[p3];exact x F.ev ⟨fun _=>rfl,fun _=>rfl⟩ (e 0 C g (h 0 (by simp)) 5 G) (e 2 T o2 (h 2 (by simp)) 7 U)⟩
 |4,_=>
  rw[m]at ho;cases ho;exact⟨g4,fun F e he=>by rw[p4];exact y F.ev ⟨fun _=>rfl,fun _=>rfl⟩ (e 3 Y o3 (w4 3 (by simp)) 8 d3)⟩
 |5,_=>
  rw[p]at ho;cases ho;exact⟨g5,fun F e he=>by rw[p5];exact h5 F.ev ⟨fun _=>rfl,fun _=>rfl⟩ (e 4 x4 m (w5 4 (by simp)) 9 d4)⟩
 |6,_=>
  rw[q]at ho;cases ho;exact⟨g6,fun F e he=>by rw[p6];exact z F.ev ⟨fun _=>rfl,fun _=>rfl⟩ (e 5 x5 p (w6 5 (by simp)) 10 d5)⟩
 |7,_=>
  rw[o7]at ho;cases ho;exact⟨g7,fun F e he=>by rw[p7];exact A F.ev ⟨fun _=>rfl,fun _=>rfl⟩ (e 6 x6 q (w7 6 (by simp)) 11 d6)⟩
end Go.Proofs.YtibphjonmikciaaGreatDoor
namespace Go.Proofs.YtibphjonmikciaaGreatDoor
open Go Go.Shelf Go.RowKit Go.Maps
set_option maxHeartbeats 2000000 in
set_option maxRecDepth 100000 in
theorem A2b(b:Nat)(es:Array MapEntry)(d:Nat)(w:World)(hb:w.heap[b]? =some (.map es d)):
  Calls Tryz.prog 125 #[.map (some b)] w fun e w'=>e= .returned (.map (some w.heap.size))∧w'=w.alloc (.map es d):=by
 have h:Tryz.prog.follows .mixedOrders=true:=by kernel_rfl
 have u:=Tryz.underlying4;have x:=Tryz.isAgg4;have y:=Tryz.sizeOf4;have v4:=Tryz.zeroValue4;have g:=Tryz.underlying72;have i:=Tryz.isAgg72;have j:=Tryz.sizeOf72;have m:=Tryz.zeroValue72;have o:=Tryz.underlying20;have p:=Tryz.isAgg20;have q:=Tryz.sizeOf20;have r:=Tryz.zeroValue20;have hq:=fun w=>run_eql_map_nil_sl (P:=Tryz.prog) w 72 _ _ (some b) g
 go_enter Tryz.func125,Tryz.ntmps125
 go_wp2
 rw[run_callFunc_extern Tryz.func156 (by kernel_rfl) (by kernel_rfl) (by kernel_rfl) (e:=Extern.MapsClone.clone) (by kernel_rfl),run_maps_clone_sl w 72 hb];simp only[Result.andThen];rw[Oper.upon_value]
 go_wp2
 rw[run_typeAssert_map_sl _ 72 20 _ _ _ g];simp only[Result.andThen];rw[Oper.upon_value]
 go_wp2
 go_ret
 exact⟨rfl,rfl⟩
open Go Go.Av
theorem A1P{Q}(kvs:List (D×D))(H:Av.Heap)(h: ∀b,H b=none→Q (.map b) (H.set b (.map kvs))):D7 125 [.fm kvs] H Q:=by
 refine⟨by kernel_rfl,fun w vs hl hr hs=>?_⟩;obtain⟨a,rfl,m⟩:=A1m hl hr;cases m with
 |fm _ b es ck hb hn hst hlen hk g j=>
  refine(A2b b es ck w hb).mono ?_;rintro e w' ⟨rfl,rfl⟩;have he:=Ext.alloc H w (.map es ck);have d:=M8 (H:=H) (C99 w.heap.size) (.map kvs);exact⟨_,rfl,.map w.heap.size,H.set w.heap.size (.map kvs),.map _,hs.update he d (fun k hk _=>Go.RowKit.Below.heap_alloc _ _ _ hk) ⟨es,ck,L6 w _,hst,hlen,fun i p hp=>⟨hk i p hp,(g i p hp).mono he d,(j i p hp).mono he d⟩⟩,he,d,h _ (hs.fresh (C99 _))⟩
theorem A2c{Q}(m:Nat)(kvs:List (D×D))(H:Av.Heap)(hm:H m=some (.map kvs))(h: ∀b,H b=none→Q (.map b) (H.set b (.map kvs))):D7 125 [.map m] H Q:=by
 refine⟨by kernel_rfl,fun w vs hl hr hs=>?_⟩;obtain⟨a,rfl,j⟩:=A1m hl hr;cases j;obtain⟨es,ck,hb,hst,hlen,d⟩:=hs m _ hm;refine(A2b m es ck w hb).mono ?_;rintro e w' ⟨rfl,rfl⟩;have he:=Ext.alloc H w (.map es ck);have g:=M8 (H:=H) (C99 w.heap.size) (.map kvs);exact⟨_,rfl,.map w.heap.size,H.set w.heap.size (.map kvs),.map _,hs.update he g (fun k hk _=>Go.RowKit.Below.heap_alloc _ _ _ hk) ⟨es,ck,L6 w _,hst,hlen,fun i p hp=>⟨(d i p hp).1,(d i p hp).2.1.mono he g,(d i p hp).2.2.mono he g⟩⟩,he,g,h _ (hs.fresh (C99 _))⟩
end Go.Proofs.YtibphjonmikciaaGreatDoor
namespace Go.Lin
open Go Go.Av
def V3{α :Type}(p: α →Bool):List α →Int
 | []=> -1
 |a::l=>if p a=true then 0 else if V3 p l<0 then-1 else V3 p l+1
theorem A1Q{α :Type}(p: α →Bool): ∀l,-1≤V3 p l
 | []=>by rw[V3];omega
 |a::l=>by have:=A1Q p l;rw[V3];split;omega;split<;>omega
theorem A3a{α :Type}(p: α →Bool): ∀l,decide (0≤V3 p l)=l.any p
 | []=>rfl
 |a::l=>by
  have:=A3a p l;rw[V3,D0u,←this];split
  ·rename_i h;simp[h]
  ·rename_i h;simp only[h,Bool.false_or];apply D0S.2;split<;>omega
theorem A4G{α :Type}(p: α →Bool)(l:List α)(k:Nat)(h:k<l.length):V3 p (l.drop k)=if p l[k]=true then 0 else if V3 p (l.drop (k+1))<0 then-1 else V3 p (l.drop (k+1))+1:=by
 rw[D0K h,V3]
end Go.Lin
namespace Go.Proofs.YtibphjonmikciaaGreatDoor
open Go Go.Av Go.Lin
attribute [local irreducible] ACalls W4
theorem B6M{Q}(p:Row→Bool)(l:List Row)(hl:l.length≤1000000000000000)(g:Nat)(first cap:List D)(H:Heap)
  (i: ∀a∈l,∀(Q:D→Heap→Prop),Q (.bool (p a)) H→D7 g (first++[.agg (C4 a)]++cap) H Q) (h:Q (.int .i64 (V3 p l)) H):
  D7 221 [.sl 4 (Rw C4 l),.fn (.func g) first cap] H Q:=by
 refine A8 [] A5 Tryz.func221 rfl ?_;simp only[go_sem,seval,Tryz.results221];refine C9 [0,1,7] (fun(k:Nat)=>[(8,.int .i64 k)]) (fun(k:Nat)=>H) (fun(k:Nat)=>k≤l.length∧V3 p l=if V3 p (l.drop k)<0 then-1 else V3 p (l.drop k)+k) (fun(k:Nat)=>l.length-k) (0) (⟨D0A _,by have:=A1Q p l;rw[List.drop_zero];split<;>omega⟩) (by(try simp only[go_sem,seval])<;>(try simp(disch:=omega) [A4])) (by first|exact D1G _|exact A0 (by assumption)|exact B2 (by assumption)|simp only[Heap.Le,Heap.set,Heap.del]at* <;>grind) ?_;rintro m rfl k ⟨hk,hp⟩;by_cases d:k<l.length
 ·have e:decide ((k:Int)<l.length)=true:=C9r (by omega);rw[A4G p l k d]at hp;repeat' (first|with_reducible apply C9p|simp only[go_sem,seval,e,A9 _ _ d]|simp(disch:=omega) only[A4,A9]|intro j|with_reducible refine i l[k] (C93 d) _ ?_|omega)
  ·have h1:p l[k]=true:=by assumption
   rw[if_pos h1]at hp;simp only[Int.zero_add,show¬((0:Int)<0)by omega,if_false]at hp;rw[hp]at h;exact D1K h
  ·have h1: ¬p l[k]=true:=by simp_all
   rw[if_neg h1]at hp;exact C2 (k+1) ⟨by omega,by rw[hp];have:=A1Q p (l.drop (k+1));split<;>split<;>omega⟩ (by omega) (by(try simp only[go_sem,seval])<;>(try simp(disch:=omega) [A4])) (D1G _)
 ·have e:decide ((k:Int)<l.length)=false:=C9s (by omega);rw[List.drop_eq_nil_of_le (by omega),V3]at hp;repeat' simp only[go_sem,seval,e]
  simp only[show ((-1:Int)<0)by omega,if_true]at hp;rw[hp]at h;exact D1K h
theorem C2w{Q}(p:Row→Bool)(l:List Row)(hl:l.length≤1000000000000000)(g:Nat)(first cap:List D)(H:Heap)
  (d: ∀a∈l,∀(Q:D→Heap→Prop),Q (.bool (p a)) H→D7 g (first++[.agg (C4 a)]++cap) H Q) (h:Q (.bool (l.any p)) H):
  D7 285 [.sl 4 (Rw C4 l),.fn (.func g) first cap] H Q:=by
 refine A8 [] A5 Tryz.func285 rfl ?_;simp only[go_sem,seval,Tryz.results285];rw[←A3a]at h;repeat' (first|simp only[go_sem,seval]|with_reducible refine B6M p l hl g first cap _ d ?_)
 exact D1K h
end Go.Proofs.YtibphjonmikciaaGreatDoor
namespace Go.Lin
open Go Go.Av Go.Lexs
section
variable {P:Program} {t:Nat} {c:Bool}
@[go_sem] theorem C8S(a:Int):K1 P .shr t c (.int .u64 a) (.int .u64 1)=some (.int .u64 (a / 2)):=by
 show (if(1:Int)<0 then none else some (D.int .u64 (a.fdiv (2 ^ (min (1:Int).toNat IntKind.u64.bits)))))=_;rw[if_neg (by decide)];have e:(2:Int) ^ (min (1:Int).toNat IntKind.u64.bits)=2:=by decide
 rw[e,Int.fdiv_eq_ediv_of_nonneg _ (by decide)]
end
theorem B6N: ∀(x y:List UInt8),decide (Lib.compareBytes x y<0)=Op.bytesLess x y
 | [],[]=>rfl
 | [],y::g=>rfl
 |x::xs,[]=>rfl
 |x::xs,y::g=>by
  unfold Lib.compareBytes Op.bytesLess;have h:=B6N xs g;by_cases h1:x<y
  ·simp[h1]
  ·by_cases d:y<x
   ·have:x≠y:=fun e=>by subst e;exact h1 d
    simp[h1,d,this]
   ·have:x=y:=UInt8.le_antisymm (UInt8.not_lt.1 d) (UInt8.not_lt.1 h1);simp[h1,d,this,h]
theorem B2s: ∀(x y:List UInt8),decide (Lib.compareBytes x y=0)=decide (x=y)
 | [],[]=>rfl
 | [],y::g=>rfl
 |x::xs,[]=>rfl
 |x::xs,y::g=>by
  unfold Lib.compareBytes;have h:=B2s xs g;by_cases h1:x<y
  ·have:x≠y:=fun e=>by subst e;exact absurd h1 (UInt8.lt_irrefl _)
   simp[h1,this]
  ·by_cases d:y<x
   ·have:x≠y:=fun e=>by subst e;exact absurd d h1
    simp[h1,d,this]
   ·have:x=y:=UInt8.le_antisymm (UInt8.not_lt.1 d) (UInt8.not_lt.1 h1);subst this;simp[UInt8.lt_irrefl];simpa using h
end Go.Lin
namespace Go.Proofs.YtibphjonmikciaaGreatDoor
open Go Go.Av Go.Lexs Go.Lin
attribute [local irreducible] ACalls W4
theorem B6O{Q}(s:ByteArray)(H:Heap)(h:Q (.bool false) H):D7 208 [.str s] H Q:=by
 refine A8 [] A5 Tryz.func208 rfl ?_;simp only[go_sem,seval,Tryz.results208];repeat' (first|with_reducible apply C9p|simp only[go_sem,seval]|intro d|omega)
 exact D1K h
theorem B2t{Q}(x y:ByteArray)(H:Heap)(h:Q (.bool (j8 x y)) H):D7 166 [.str x,.str y] H Q:=by
 refine A8 [] A5 Tryz.func166 rfl ?_;simp only[go_sem,seval,Tryz.results166];repeat' (first|simp only[go_sem,seval]|with_reducible refine B6O _ _ ?_)
 exact D1K h
theorem B35{Q}(o:List ByteArray)(A:o.Pairwise fun x y=>j8 x y=true)(s:ByteArray)(i:Nat)(z:i<o.length)(he:o[i]=s)(hlen:o.length≤1000000000)(H:Heap)(h:Q (.tuple [.int .i64 (i:Int),.bool true]) H):
  D7 229 [.sl 1 (Rw a7 o),.str s] H Q:=by
 refine A8 [] A5 Tryz.func229 rfl ?_;simp only[go_sem,seval,Tryz.results229];have r:=List.pairwise_iff_getElem.1 A;repeat' (first|with_reducible apply C9p|simp only[go_sem,seval]|simp(disch:=omega) only[A4,A9]|intro T|omega)
 refine C9 [0,1,6] (fun(p:Nat×Nat)=>[(7,.int .i64 (p.1:Int)),(8,.int .i64 (p.2:Int))]) (fun(p:Nat×Nat)=>H) (fun(p:Nat×Nat)=>p.1≤i∧i≤p.2∧p.2≤o.length) (fun(p:Nat×Nat)=>p.2-p.1) ((0,o.length)) (⟨D0A _,by omega,C99 _⟩) (by(try simp only[go_sem,seval])<;>(try simp(disch:=omega) [A4])) (by first|exact D1G _|exact A0 (by assumption)|exact B2 (by assumption)|simp only[Heap.Le,Heap.set,Heap.del]at* <;>grind) ?_;rintro W rfl ⟨lo,d⟩ ⟨I,J,L⟩;simp only at I J L;by_cases U:lo<d
 ·have q:decide ((lo:Int)<d)=true:=C9r (by omega);obtain⟨m,hm⟩: ∃m,m=(lo+d) / 2:=⟨_,rfl⟩
  have j:m<o.length:=by omega
  have u:(m:Int)<o.length:=by omega
  have M:IntKind.u64.wrap ((lo:Int)+d) / 2=(m:Int):=by rw[A0B (by omega) (by omega)];omega
  have O:IntKind.i64.wrap (m:Int)=m:=by rw[A4 (by omega) (by omega)]
  have hc:j8 o[m] s=decide (m<i):=by
   by_cases g:m<i
   ·rw[C9r g,←he];exact r m i j z g
   ·rw[C9s g,←he];rcases Nat.lt_or_eq_of_le (Nat.le_of_not_lt g)with C|C
    ·have:=r i m z j C;rw[←D1B];intro V;have:=X8 this V;rw[j9]at this;cases this
    ·simp only[C];exact j9 _
  by_cases g:m<i
  ·rw[C9r g]at hc;repeat' (first|with_reducible apply C9p|simp only[go_sem,seval,q,M,O,u,A9 _ _ j,C1 _ _ j,hc]|simp(disch:=omega) only[A4,A9]|with_reducible refine B2t _ _ _ ?_|omega)
   exact C2 (m+1,d) ⟨by simp only[];omega,J,L⟩ (by simp only[];omega) (by(try simp only[go_sem,seval])<;>(try simp(disch:=omega) [A4])) (D1G _)
  ·rw[C9s g]at hc;repeat' (first|with_reducible apply C9p|simp only[go_sem,seval,q,M,O,u,A9 _ _ j,C1 _ _ j,hc]|simp(disch:=omega) only[A4,A9]|with_reducible refine B2t _ _ _ ?_|omega)
   exact C2 (lo,m) ⟨I,by simp only[];omega,by simp only[];omega⟩ (by simp only[];omega) (by simp only[go_sem,seval]) (D1G _)
 ·have q:decide ((lo:Int)<d)=false:=C9s (by omega);have e:lo=i:=by omega
  subst e;have G:(lo:Int)<o.length:=by omega
  repeat' (first|with_reducible apply C9p|simp only[go_sem,seval,q,G,A9 _ _ z,C1 _ _ z,he]|omega)
  exact D1K h
theorem B1f{Q}(x:VlV)(s:ByteArray)(H:Heap)(h:Q (.int .i64 (Lib.compareBytes (B x.v) (B s))) H):D7 105 [.agg (vlC x),.str s] H Q:=by
 refine A8 [] A5 Tryz.func105 rfl ?_;simp only[go_sem,seval,Tryz.results105];repeat' (first|simp only[go_sem,seval]|intro d|with_reducible refine B3t _ _ _ ?_)
 exact D1H (by simp only[E6,D2,D3]at* <;>grind) h
def C8T(l:List VlV)(s:ByteArray)(i:Nat):Prop:=i≤l.length∧(∀(k:Nat) (hk:k<l.length),k<i→j8 l[k].v s=true)∧∀hk:i<l.length,j8 l[i].v s=false
theorem B1g{Q}(l:List VlV)(hv:M2 l=true)(s:ByteArray)(hlen:l.length≤1000000000000000)(H:Heap)(h: ∀i,C8T l s i→Q (.tuple [.int .i64 (i:Int),.bool (if hk:i<l.length then decide (l[i].v=s)else false)]) H):
  D7 104 [.sl 2 (Rw vlC l),.str s,.fn (.func 105) [] []] H Q:=by
 refine A8 [] A5 Tryz.func104 rfl ?_;simp only[go_sem,seval,Tryz.results104];have x:=A7B hv;repeat' (first|with_reducible apply C9p|simp only[go_sem,seval]|simp(disch:=omega) only[A4,A9]|intro J|omega)
 refine C9 [0,1,2,8] (fun(p:Nat×Nat)=>[(9,.int .i64 (p.1:Int)),(10,.int .i64 (p.2:Int))]) (fun(p:Nat×Nat)=>H) (fun(p:Nat×Nat)=>p.1≤p.2∧p.2≤l.length∧(∀(k:Nat) (hk:k<l.length),k<p.1→j8 l[k].v s=true)∧∀(k:Nat) (hk:k<l.length),p.2≤k→j8 l[k].v s=false) (fun(p:Nat×Nat)=>p.2-p.1) ((0,l.length)) (⟨D0A _,C99 _,fun k _ h=>absurd h (Nat.not_lt_zero _),fun k hk h=>absurd hk (by simp only[]at h;omega)⟩) (by(try simp only[go_sem,seval])<;>(try simp(disch:=omega) [A4])) (by first|exact D1G _|exact A0 (by assumption)|exact B2 (by assumption)|simp only[Heap.Le,Heap.set,Heap.del]at* <;>grind) ?_;rintro T rfl ⟨lo,d⟩ ⟨L,z,A,C⟩;simp only at L z A C;by_cases M:lo<d
 ·have o:decide ((lo:Int)<d)=true:=C9r (by omega);obtain⟨m,hm⟩: ∃m,m=(lo+d) / 2:=⟨_,rfl⟩
  have j:m<l.length:=by omega
  have y:(m:Int)<l.length:=by omega
  have G:IntKind.u64.wrap ((lo:Int)+d) / 2=(m:Int):=by rw[A0B (by omega) (by omega)];omega
  have I:IntKind.i64.wrap (m:Int)=m:=by rw[A4 (by omega) (by omega)]
  have hc:decide (Lib.compareBytes (B l[m].v) (B s)<0)=j8 l[m].v s:=B6N _ _;cases g:j8 l[m].v s with
  |true=>
   rw[g]at hc;repeat' (first|with_reducible apply C9p|simp only[go_sem,seval,o,G,I,y,A9 _ _ j,C1 _ _ j,hc]|simp(disch:=omega) only[A4,A9]|with_reducible refine B1f _ _ _ ?_|omega)
   refine C2 (m+1,d) ⟨by simp only[];omega,z,fun k hk q=>?_,C⟩ (by simp only[];omega) (by(try simp only[go_sem,seval])<;>(try simp(disch:=omega) [A4])) (D1G _);simp only[]at q;rcases Nat.lt_or_ge k m with u|u
   ·exact X8 (x k m hk j u) g
   ·have:k=m:=by omega
    subst this;exact g
  |false=>
   rw[g]at hc;repeat' (first|with_reducible apply C9p|simp only[go_sem,seval,o,G,I,y,A9 _ _ j,C1 _ _ j,hc]|simp(disch:=omega) only[A4,A9]|with_reducible refine B1f _ _ _ ?_|omega)
   refine C2 (lo,m) ⟨by simp only[];omega,by simp only[];omega,A,fun k hk q=>?_⟩ (by simp only[];omega) (by simp only[go_sem,seval]) (D1G _);simp only[]at q;rcases Nat.lt_or_eq_of_le q with u|u
   ·rw[←D1B];intro O;have:=X8 (x m k j hk u) O;rw[g]at this;cases this
   ·subst u;exact g
 ·have o:decide ((lo:Int)<d)=false:=C9s (by omega);have e:lo=d:=by omega
  subst e;have h:=h lo ⟨z,A,fun hk=>C lo hk (C99 _)⟩;by_cases hl:lo<l.length
  ·have r:(lo:Int)<l.length:=by omega
   have hc:decide (Lib.compareBytes (B l[lo].v) (B s)=0)=decide (l[lo].v=s):=by
    rw[B2s];exact D0S.2 ⟨fun g=>i7 g,fun g=>by rw[g]⟩
   rw[dif_pos hl]at h;repeat' (first|with_reducible apply C9p|simp only[go_sem,seval,o,r,A9 _ _ hl,C1 _ _ hl,hc]|with_reducible refine B1f _ _ _ ?_|omega)
   exact D1K h
  ·have r: ¬(lo:Int)<l.length:=by omega
   rw[dif_neg hl]at h;repeat' simp only[go_sem,seval,o,r]
   exact D1K h
theorem B0F{Q}(l:List VlV)(hv:M2 l=true)(s:ByteArray)(hlen:l.length≤1000000000000000)(H:Heap)(h:Q (.tuple [.int .i64 ((L4 l s).getD 0),.bool (L4 l s).isSome]) H):D7 62 [.sl 2 (Rw vlC l),.str s] H Q:=by
 refine A8 [] A5 Tryz.func62 rfl ?_;simp only[go_sem,seval,Tryz.results62];repeat' (first|with_reducible apply C9p|simp only[go_sem,seval]|simp(disch:=omega) only[A9,A8J]|intro e|omega)
 refine B1g l hv s hlen _ fun i hp=>?_;obtain⟨j,m,o⟩:=hp;rw[A8J hv j m o]at h;by_cases hl:i<l.length
 ·have d:(i:Int)<l.length:=by omega
  rw[dif_pos hl]at h⊢;by_cases g:l[i].v=s
  ·rw[if_pos g]at h;rw[C9r g];simp only[Option.getD_some,Option.isSome_some]at h;repeat' (first|with_reducible apply C9p|simp only[go_sem,seval,d,A9 _ _ hl,C1 _ _ hl]|omega)
   exact D1K h
  ·rw[if_neg g]at h;rw[C9s g];simp only[Option.getD_none,Option.isSome_none]at h;repeat' simp only[go_sem,seval]
   exact D1K h
 ·rw[dif_neg hl]at h⊢;simp only[Option.getD_none,Option.isSome_none]at h;repeat' simp only[go_sem,seval]
  exact D1K h
end Go.Proofs.YtibphjonmikciaaGreatDoor
namespace Go.Av
theorem B4j{n sz:Nat}{es:List (List D)}{ob:Option Nat}{a:D}{ds:List D}{Q:D→Heap→Prop}{H:Heap}(hn:n=es.length)(hc:OutAt H sz es ob)(h:Fin Q (.tuple (a:: .sl sz es::ds)) (K7 H ob)):Fin Q (.tuple (a::J1 sz n ob::ds)) H:=by
 subst hn;cases ob with
 |none=>
  have e:es= []:=hc;subst e;refine E3 (.tuple _ _ (by simp) fun i d d' h1 g=>?_) h
  match i with
  |0=>cases h1;cases g;exact .same _
  |1=>cases h1;cases g;exact .nil _
  |i+2=>
   simp only[D0L]at h1 g;rw[h1]at g;cases g;exact .same _
 |some c=>
  refine Fin.freeze hc (.tuple _ _ (by simp) fun i d d' h1 g=>?_) h
  match i with
  |0=>cases h1;cases g;exact .same _
  |1=>cases h1;cases g;exact .all
  |i+2=>
   simp only[D0L]at h1 g;rw[h1]at g;cases g;exact .same _
theorem OutAt.up{H H':Heap}{sz:Nat}{es:List (List D)}{ob:Option Nat}(h:OutAt H sz es ob)(d:H.Le H'):OutAt H' sz es ob:=by
 cases ob with
 |none=>exact h
 |some c=>exact d _ _ h
theorem OutAt.keep{H0 H':Heap}{sz sz':Nat}{es e2:List (List D)}{ob o2:Option Nat}{d:Nat}(h:OutAt H0 sz' e2 o2)(e:Apd H0 sz ob es d H')(g: ∀b,o2=some b→ob≠some b):OutAt H' sz' e2 o2:=by
 cases o2 with
 |none=>exact h
 |some c=>exact e.2.1 c _ h (g c rfl)
structure O3(H Hp:Heap)(sz:Nat)(e1 e2 e3:List (List D))(o1 o2 o3:Option Nat):Prop where
 le:H.Le Hp
 a1:OutAt Hp sz e1 o1
 a2:OutAt Hp sz e2 o2
 a3:OutAt Hp sz e3 o3
 n1: ∀b,o1=some b→H b=none
 n2: ∀b,o2=some b→H b=none
 n3: ∀b,o3=some b→H b=none
 d12: ∀b,o1=some b→o2≠some b
 d13: ∀b,o1=some b→o3≠some b
 d23: ∀b,o2=some b→o3≠some b
theorem O3.nil(H:Heap)(sz:Nat):O3 H H sz [] [] [] none none none:=⟨D1G H,rfl,rfl,rfl,by simp,by simp,by simp,by simp,by simp,by simp⟩
theorem O3.rot{H Hp:Heap}{sz:Nat}{e1 e2 e3:List (List D)}{o1 o2 o3:Option Nat}(h:O3 H Hp sz e1 e2 e3 o1 o2 o3):O3 H Hp sz e2 e3 e1 o2 o3 o1:=
 ⟨h.le,h.a2,h.a3,h.a1,h.n2,h.n3,h.n1,h.d23,fun b e e2=>h.d12 b e2 e,fun b e e2=>h.d13 b e2 e⟩
theorem OutAt.some_of{H:Heap}{sz:Nat}{es:List (List D)}{ob:Option Nat}(h:OutAt H sz es ob){b:Nat}(e:ob=some b):H b=some (.vec sz es):=by subst e;exact h
theorem O3.app1{H Hp H0 H':Heap}{sz:Nat}{e1 e2 e3 e1':List (List D)}{o1 o2 o3:Option Nat}{j:Nat}(h:O3 H Hp sz e1 e2 e3 o1 o2 o3)(d:Hp.Le H0)(i:Apd H0 sz o1 e1' j H'):O3 H H' sz e1' e2 e3 (some j) o2 o3:=by
 have p: ∀{e:List (List D)} {o:Option Nat},OutAt Hp sz e o→(∀b,o1=some b→o≠some b)→o≠some j:=fun {e o} m q hb=>by
  rcases i.2.2 with g|g
  ·have:=d _ _ (m.some_of hb);rw[g]at this;cases this
  ·exact q _ g hb
 refine⟨fun k o hk=>i.2.1 k o (d k o (h.le k o hk)) (fun e=>by have:=h.n1 k e;rw[this]at hk;cases hk),i.1,(h.a2.up d).keep i (fun b e g=>h.d12 b g e),(h.a3.up d).keep i (fun b e g=>h.d13 b g e),fun b e=>?_,h.n2,h.n3,fun b e g=>?_,fun b e g=>?_,h.d23⟩
 ·cases e;rcases i.2.2 with g|g
  ·exact h.le.none (d.none g)
  ·exact h.n1 _ g
 ·cases e;exact p h.a2 h.d12 g
 ·cases e;exact p h.a3 h.d13 g
theorem O3.app2{H Hp H0 H':Heap}{sz:Nat}{e1 e2 e3 d:List (List D)}{o1 o2 o3:Option Nat}{g:Nat}(h:O3 H Hp sz e1 e2 e3 o1 o2 o3)(e:Hp.Le H0)(i:Apd H0 sz o2 d g H'):O3 H H' sz e1 d e3 o1 (some g) o3:=(h.rot.app1 e i).rot.rot
theorem O3.app3{H Hp H0 H':Heap}{sz:Nat}{e1 e2 e3 d:List (List D)}{o1 o2 o3:Option Nat}{g:Nat}(h:O3 H Hp sz e1 e2 e3 o1 o2 o3)(e:Hp.Le H0)(i:Apd H0 sz o3 d g H'):O3 H H' sz e1 e2 d o1 o2 (some g):=(h.rot.rot.app1 e i).rot
theorem O3.ap{H Hp H0:Heap}{j:D→Heap→Prop}{sz d n bx:Nat}{o:Go.Av.Obj}{e1 e2 e3 e1' xs:List (List D)}{o1 o2 o3:Option Nat}(h:O3 H Hp sz e1 e2 e3 o1 o2 o3)(e:Hp.Le H0)(g:H0 bx=none)(i:xs≠[])(hn:n=e1.length)
  (h1:(n+xs.length)*d≤140737488355328) (m:n+xs.length≤9223372036854775807) (he:e1'=e1++xs)
  (K: ∀b' H',O3 H H' sz e1' e2 e3 (some b') o2 o3→j (.vec b' sz 0 (n+xs.length)) H'):apS (J1 sz n o1) sz d xs (H0.set bx o) j:=
 A5z (P:=default) g i (h.a1.up e) hn h1 m fun b' H' p=>K b' H' (h.app1 e (by rw[he];exact p))
theorem O3.last{H Hp:Heap}{sz:Nat}{e1 e2 e3:List (List D)}{o1 o2 o3:Option Nat}(h:O3 H Hp sz e1 e2 e3 o1 o2 o3):(putB H sz e3 o3).Le (K7 (K7 Hp o1) o2)∧OutAt (K7 Hp o1) sz e2 o2:=by
 have i: ∀(K:Heap) (o:Option Nat) (k:Nat) (x:Go.Av.Obj),K k=some x→o≠some k→K7 K o k=some x:=fun K o k x hk hn=>by
  cases o with
  |none=>exact hk
  |some c=>show (K.del c) k=_;rw[F0 (by rintro rfl;exact hn rfl)];exact hk
 constructor
 ·intro k x hk;have old: ∀y,H k=some y→o1≠some k∧o2≠some k∧Hp k=some y:=fun y g=>
   ⟨fun e=>(by have:=h.n1 _ e;rw[this]at g;cases g),fun e=>(by have:=h.n2 _ e;rw[this]at g;cases g),h.le _ _ g⟩
  have d:o1≠some k∧o2≠some k∧Hp k=some x:=by
   cases o3 with
   |none=>exact old x hk
   |some c=>
    replace hk:(H.set c (.vec sz e3)) k=some x:=hk;simp only[Heap.set]at hk;by_cases e:k=c
    ·rw[if_pos e]at hk;cases hk;rw[e];exact⟨fun e=>h.d13 _ e rfl,fun e=>h.d23 _ e rfl,h.a3⟩
    ·rw[if_neg e]at hk;exact old x hk
  exact i _ _ _ _ (i _ _ _ _ d.2.2 d.1) d.2.1
 ·cases o2 with
  |none=>exact h.a2
  |some c=>exact i _ _ _ _ h.a2 (fun e=>h.d12 _ e rfl)
end Go.Av
namespace Go.Lin
open Go Go.Av
def L1:Option Nat→Int
 |none=> -1
 |some j=>j
def B9C(c:List Int)(x:Int):Option Nat→Bool
 |none=>true
 |some j=>decide (x.natAbs<(U9 c j).natAbs)
def L8(c:List Int):Nat→Option Nat
 |0=>none
 |i+1=>if U9 c i≠0∧B9C c (U9 c i) (L8 c i)=true then some i else L8 c i
theorem A2R(c:List Int): ∀(i j:Nat),L8 c i=some j→j<i
 |0,j,h=>by simp[L8]at h
 |i+1,j,h=>by
  rw[L8]at h;split at h
  ·simp at h;omega
  ·have:=A2R c i j h;omega
theorem B0G(c:List Int)(x:Int)(l:List Int)(i:Nat)(b:Option Nat):A5x c (x::l) i b=A5x c l (i+1) (if x≠0∧B9C c x b=true then some i else b):=by
 cases b<;>rfl
theorem B0H(c:List Int): ∀(l:List Int) (i:Nat),i≤c.length→l=c.drop i→A5x c l i (L8 c i)=L8 c c.length
 | [],i,g,h=>by
  have:c.length≤i:=by
   have:=congrArg List.length h;simp at this;omega
  rw[show i=c.length by omega];rfl
 |x::l,i,g,h=>by
  have d:i<c.length:=by
   have:=congrArg List.length h;simp at this;omega
  rw[D0K d]at h;simp only[List.cons.injEq]at h;have e:U9 c i=x:=by simp[U9,d,h.1]
  rw[B0G,←B0H c l (i+1) (by omega) h.2,L8,e]
theorem A54(r:Row):A4A r=L8 r.c r.c.length:=B0H r.c r.c 0 (D0A _) rfl
theorem H7(c:List Int)(i:Nat)(h:i<c.length):U9 c i=c[i]:=by simp[U9,h]
theorem A4H{p:Row→Bool}(l:List Row)(i:Nat)(h:i<l.length):(l.take (i+1)).filter p=(l.take i).filter p++if p l[i]=true then [l[i]]else []:=by
 rw[C98 h,List.filter_append]
 congr 1
 by_cases c:p l[i]=true
 ·rw[if_pos c];simp[c]
 ·rw[if_neg c];simp[c]
theorem V4{p:Row→Bool}(l:List Row):(l.filter p).length≤l.length:=List.length_filter_le _ _
end Go.Lin
namespace Go.Proofs.YtibphjonmikciaaGreatDoor
open Go Go.Av Go.Lin
attribute [local irreducible] ACalls W4
theorem B9D{Q}(r:Row)(hlen:r.c.length≤1000000)(hr:A4v r 18446744073709551616)(H:Heap)(h:Q (.int .i64 (L1 (A4A r))) H):D7 252 [.agg (C4 r)] H Q:=by
 refine A8 [(5,.par)] A5 Tryz.func252 rfl ?_;simp only[go_sem,seval,Tryz.results252];intro m C;have e1:(H.set m (.box (C4 r))) m=some (.box (C4 r)):=A2 _ _;have A:H.Le (H.set m (.box (C4 r))):=A0 C;generalize H.set m (.box (C4 r))=Bs at e1 A⊢;have t0:L1 (L8 r.c 0)= -1:=rfl;repeat' (first|with_reducible apply C9p|simp only[go_sem,seval,e1]|simp(disch:=omega) only[A4,A9,H7]|simp(disch:=first|omega|grind) only[B9]|intro p|omega)
 rw[←t0];refine C9 [1,7,8] (fun(i:Nat)=>[(9,.int .i64 i),(3,.int .i64 (L1 (L8 r.c i)))]) (fun(i:Nat)=>Bs) (fun(i:Nat)=>i≤r.c.length) (fun(i:Nat)=>r.c.length-i) (0) (D0A _) (by(try simp only[go_sem,seval])<;>(try simp(disch:=omega) [A4])) (by first|exact D1G _|exact A0 (by assumption)|exact B2 (by assumption)|simp only[Heap.Le,Heap.set,Heap.del]at* <;>grind) ?_;rintro X rfl i Y;by_cases q:i<r.c.length
 ·have z:decide ((i:Int)<r.c.length)=true:=C9r (by omega);have G:(i:Int)<r.c.length:=by omega
  have a1:=hr.2 _ (C93 q);have sa:Sz r.c[i]:=G7 (by omega);have I:Sz ((r.c[i].natAbs:Nat):Int):=G7 (by omega);have J:L8 r.c (i+1)=if r.c[i]≠0∧B9C r.c r.c[i] (L8 r.c i)=true then some i else L8 r.c i:=by rw[L8,H7 _ _ q]
  repeat' (first|with_reducible apply C9p|simp only[go_sem,seval,z,e1,G,A9 _ _ q,C1 _ _ q]|intro p|omega)
  rename_i b5;have h5:=p;clear p;have V:m≠b5:=fun e=>by rw[e,h5]at e1;cases e1
  have L:m∈[m,b5]:=by simp
  have M:b5∈[m,b5]:=by simp
  by_cases hx:r.c[i]=0
  ·have d:L8 r.c (i+1)=L8 r.c i:=by rw[J,if_neg (fun g=>g.1 hx)]
   have u:r.c[i].sign=0:=by rw[hx];rfl
   refine F5 (fun y=>if y=1 then .int .i64 0 else .undef) [m,b5] ?_;repeat' (first|simp only[go_sem,seval,e1,L,M,decide_true,D1D]|simp(disch:=omega) only[A4,A9,H7]|with_reducible refine R0 (fun H' Q hro hq=>K4 r.c[i] H' (by rw[u];exact hq)) ?_)
   refine C2 (i+1) (by omega) (by omega) (by(try simp only[go_sem,seval,d])<;>(try simp(disch:=omega) [A4])) (A0 h5)
  ·have u: ¬(r.c[i].sign=0):=fun g=>hx (Int.sign_eq_zero_iff_zero.1 g);cases hb:L8 r.c i with
   |none=>
    have d:L8 r.c (i+1)=some i:=by rw[J,hb,if_pos ⟨hx,rfl⟩]
    have o:L1 (L8 r.c (i+1))=i:=by rw[d];rfl
    have O:L1 none= -1:=rfl;refine F5 (fun y=>if y=1 then .int .i64 r.c[i].sign else .undef) [m,b5] ?_;repeat' (first|simp only[go_sem,seval,e1,L,M,u,hb,O,decide_true,decide_false,D1D,D1E]|simp(disch:=omega) only[A4,A9,H7]|with_reducible refine R0 (fun H' Q hro hq=>K4 r.c[i] H' hq) ?_)
    refine C2 (i+1) (by omega) (by omega) (by(try simp only[go_sem,seval,o])<;>(try simp(disch:=omega) [A4])) (A0 h5)
   |some j=>
    have hj:=A2R _ _ _ hb;have x:j<r.c.length:=by omega
    have T:(j:Int)<r.c.length:=by omega
    have a2:=hr.2 _ (C93 x);have W:Sz ((r.c[j].natAbs:Nat):Int):=G7 (by omega);have d:L8 r.c (i+1)=if r.c[i].natAbs<r.c[j].natAbs then some i else some j:=by
     rw[J,hb,B9C,H7 _ _ x];by_cases g:r.c[i].natAbs<r.c[j].natAbs
     ·rw[if_pos ⟨hx,C9r g⟩,if_pos g]
     ·rw[if_neg (fun k=>g (C9q k.2)),if_neg g]
    have O:L1 (some j)=j:=rfl;have oj: ¬((j:Int)<0):=by omega
    refine F5 (fun y=>if y=1 then .int .i64 r.c[i].sign else if y=8 then .agg (C3 (r.c[i].natAbs:Nat))else if y=14 then .agg (C3 (r.c[j].natAbs:Nat))else if y=15 then .bool (decide (((r.c[i].natAbs:Nat):Int)<((r.c[j].natAbs:Nat):Int)))else .undef) [m,b5] ?_;repeat' (first|with_reducible apply C9p|simp only[go_sem,seval,e1,L,M,u,hb,O,oj,T,A9 _ _ x,C1 _ _ x,decide_true,decide_false,D1D,D1E]|simp(disch:=omega) only[A4,A9,H7]|simp(disch:=first|omega|grind) only[B9]|intro p|with_reducible refine R0 (fun H' Q hro hq=>K4 r.c[i] H' hq) ?_|with_reducible refine R0 (fun H' Q hro hq=>B51 r.c[i] H' hq) ?_|with_reducible refine R0 (fun H' Q hro hq=>B51 r.c[j] H' hq) ?_|with_reducible refine R0 (fun H' Q hro hq=>B2j _ _ I W H' hq) ?_|omega)
    ·have g:r.c[i].natAbs<r.c[j].natAbs:=by omega
     rw[if_pos g]at d;have o:L1 (L8 r.c (i+1))=i:=by rw[d];rfl
     refine C2 (i+1) (by omega) (by omega) (by(try simp only[go_sem,seval,o])<;>(try simp(disch:=omega) [A4])) (A0 h5)
    ·have g: ¬r.c[i].natAbs<r.c[j].natAbs:=by omega
     rw[if_neg g]at d;have o:L1 (L8 r.c (i+1))=j:=by rw[d];rfl
     refine C2 (i+1) (by omega) (by omega) (by(try simp only[go_sem,seval,o])<;>(try simp(disch:=omega) [A4])) (A0 h5)
 ·have z:decide ((i:Int)<r.c.length)=false:=C9s (by omega);have U:i=r.c.length:=by omega
  subst U;rw[A54]at h;repeat' simp only[go_sem,seval,z]
  exact D1H A h
theorem B2u{Q}(l:List Row)(k:Nat)(hlen:l.length≤1000000)(hk: ∀r∈l,k<r.c.length)(H:Heap)
  (h: ∀ob,(ob=none→S9 l k= [])→(∀b,ob=some b→H b=none)→Q (.tuple [.sl 4 (Rw C4 (I3 l k)),.sl 4 (Rw C4 (F6 l k)),J1 4 (S9 l k).length ob]) (putB H 4 (Rw C4 (S9 l k)) ob)):
  D7 260 [.sl 4 (Rw C4 l),.int .i64 (k:Int)] H Q:=by
 refine A8 [] A5 Tryz.func260 rfl ?_;simp only[go_sem,seval,Tryz.results260];have M:D.nilsl=J1 4 (I3 (l.take 0) k).length none:=rfl;have O:D.nilsl=J1 4 (F6 (l.take 0) k).length none:=rfl;have T:D.nilsl=J1 4 (S9 (l.take 0) k).length none:=rfl;repeat' (first|with_reducible apply C9p|simp only[go_sem,seval]|simp(disch:=omega) only[A4,A9,H7]|(intro d;try simp only[A6]at d)|omega)
 refine C9 [1,9,10] (fun(p:Nat×Option Nat×Option Nat×Option Nat×Heap)=>[(11,.int .i64 p.1),(4,J1 4 (I3 (l.take p.1) k).length p.2.1),(5,J1 4 (F6 (l.take p.1) k).length p.2.2.1),(6,J1 4 (S9 (l.take p.1) k).length p.2.2.2.1)]) (fun(p:Nat×Option Nat×Option Nat×Option Nat×Heap)=>p.2.2.2.2) (fun(p:Nat×Option Nat×Option Nat×Option Nat×Heap)=>p.1≤l.length∧O3 H p.2.2.2.2 4 (Rw C4 (I3 (l.take p.1) k)) (Rw C4 (F6 (l.take p.1) k)) (Rw C4 (S9 (l.take p.1) k)) p.2.1 p.2.2.1 p.2.2.2.1) (fun(p:Nat×Option Nat×Option Nat×Option Nat×Heap)=>l.length-p.1) ((0,none,none,none,H)) (⟨D0A _,O3.nil H 4⟩) (by(try simp only[go_sem,seval])<;>(try simp(disch:=omega) [A4])) (by first|exact D1G _|exact A0 (by assumption)|exact B2 (by assumption)|simp only[Heap.Le,Heap.set,Heap.del]at* <;>grind) ?_;rintro U rfl ⟨i,o1,o2,o3,Hp⟩ ⟨I,m⟩;simp only at I m;by_cases g:i<l.length
 ·have o:decide ((i:Int)<l.length)=true:=C9r (by omega);have J:(i:Int)<l.length:=by omega
  have j:=hk _ (C93 g);have A:(k:Int)<l[i].c.length:=by omega
  have L:=H7 l[i].c k j;have f1:=A4H (p:=fun r=>decide (0<U9 r.c k)) l i g;have f2:=A4H (p:=fun r=>decide (U9 r.c k<0)) l i g;have f3:=A4H (p:=fun r=>decide (U9 r.c k=0)) l i g;simp only[L,D0B]at f1 f2 f3;change I3 (l.take (i+1)) k=I3 (l.take i) k++_ at f1;change F6 (l.take (i+1)) k=F6 (l.take i) k++_ at f2;change S9 (l.take (i+1)) k=S9 (l.take i) k++_ at f3;have V:(I3 (l.take i) k).length≤1000000:=D0v (V4 _) (by rw[D0X];omega);have W:(F6 (l.take i) k).length≤1000000:=D0v (V4 _) (by rw[D0X];omega);have X:(S9 (l.take i) k).length≤1000000:=D0v (V4 _) (by rw[D0X];omega);rcases Int.lt_trichotomy l[i].c[k] 0 with c|c|c
  ·have s:l[i].c[k].sign= -1:=Int.sign_eq_neg_one_of_neg c;rw[if_neg (by omega),D0e]at f1;rw[if_pos c]at f2;rw[if_neg (by omega),D0e]at f3;repeat' (first|with_reducible apply C9p|simp only[go_sem,seval,o,A9 _ _ g,C1 _ _ g,A9 _ _ j,C1 _ _ j,A,s]|(intro d;try simp only[A6]at d)|with_reducible refine K4 _ _ ?_|omega)
   rename_i x y bx;have q:=d;clear d;refine A5z (P:=Tryz.prog) (H0:=Hp.set x (.box (C4 l[i]))) (es:=Rw C4 (F6 (l.take i) k)) (by rw[A6];exact q) (by simp) (m.a2.up (A0 y)) (by rw[D6]) (by simp only[C9u,C9w];omega) (by simp only[C9u,C9w];omega) fun z H' C=>?_;repeat' (first|simp only[go_sem,seval]|simp(disch:=omega) only[A4,A9,H7])
   have u:Apd (Hp.set x (.box (C4 l[i]))) 4 o2 (Rw C4 (F6 (l.take (i+1)) k)) z H':=by rw[f2,←O2];exact C
   refine C2 (i+1,o1,some z,o3,H') ⟨by simp only[];omega,?_⟩ (by simp only[];omega) (by(try simp only[go_sem,seval,f1,f2,f3,C9v,K3])<;>(try simp(disch:=omega) [A4])) (D1G _);simp only[];have:=m.app2 (A0 y) u;rw[f1,f3];exact this
  ·have s:l[i].c[k].sign=0:=(by rw[c];rfl)
   rw[if_neg (by omega),D0e]at f1;rw[if_neg (by omega),D0e]at f2;rw[if_pos c]at f3;repeat' (first|with_reducible apply C9p|simp only[go_sem,seval,o,A9 _ _ g,C1 _ _ g,A9 _ _ j,C1 _ _ j,A,s]|(intro d;try simp only[A6]at d)|with_reducible refine K4 _ _ ?_|omega)
   rename_i x y bx;have q:=d;clear d;refine A5z (P:=Tryz.prog) (H0:=Hp.set x (.box (C4 l[i]))) (es:=Rw C4 (S9 (l.take i) k)) (by rw[A6];exact q) (by simp) (m.a3.up (A0 y)) (by rw[D6]) (by simp only[C9u,C9w];omega) (by simp only[C9u,C9w];omega) fun z H' C=>?_;repeat' (first|simp only[go_sem,seval]|simp(disch:=omega) only[A4,A9,H7])
   have u:Apd (Hp.set x (.box (C4 l[i]))) 4 o3 (Rw C4 (S9 (l.take (i+1)) k)) z H':=by rw[f3,←O2];exact C
   refine C2 (i+1,o1,o2,some z,H') ⟨by simp only[];omega,?_⟩ (by simp only[];omega) (by(try simp only[go_sem,seval,f1,f2,f3,C9v,K3])<;>(try simp(disch:=omega) [A4])) (D1G _);simp only[];have:=m.app3 (A0 y) u;rw[f1,f2];exact this
  ·have s:l[i].c[k].sign=1:=Int.sign_eq_one_of_pos c;rw[if_pos c]at f1;rw[if_neg (by omega),D0e]at f2;rw[if_neg (by omega),D0e]at f3;repeat' (first|with_reducible apply C9p|simp only[go_sem,seval,o,A9 _ _ g,C1 _ _ g,A9 _ _ j,C1 _ _ j,A,s]|(intro d;try simp only[A6]at d)|with_reducible refine K4 _ _ ?_|omega)
   rename_i x y bx;have q:=d;clear d;refine A5z (P:=Tryz.prog) (H0:=Hp.set x (.box (C4 l[i]))) (es:=Rw C4 (I3 (l.take i) k)) (by rw[A6];exact q) (by simp) (m.a1.up (A0 y)) (by rw[D6]) (by simp only[C9u,C9w];omega) (by simp only[C9u,C9w];omega) fun z H' C=>?_;repeat' (first|simp only[go_sem,seval]|simp(disch:=omega) only[A4,A9,H7])
   have u:Apd (Hp.set x (.box (C4 l[i]))) 4 o1 (Rw C4 (I3 (l.take (i+1)) k)) z H':=by rw[f1,←O2];exact C
   refine C2 (i+1,some z,o2,o3,H') ⟨by simp only[];omega,?_⟩ (by simp only[];omega) (by(try simp only[go_sem,seval,f1,f2,f3,C9v,K3])<;>(try simp(disch:=omega) [A4])) (D1G _);simp only[];have:=m.app1 (A0 y) u;rw[f2,f3];exact this
 ·have o:decide ((i:Int)<l.length)=false:=C9s (by omega);rw[C94 (by omega)]at m;have e1:l.take i=l:=C94 (by omega);repeat' simp only[go_sem,seval,o,e1]
  have G:=m.last;refine A6Y (by rw[D6]) m.a1 (B4j (by rw[D6]) G.2 (D1H G.1 (h o3 (fun e=>?_) m.n3)));have:=m.a3;rw[e]at this;have this:Rw C4 (S9 l k)= []:=this;exact D0D (by rw[←D6 (f:=C4),this];rfl)
end Go.Proofs.YtibphjonmikciaaGreatDoor
namespace Go.Lin
open Go Go.Av
theorem B9E{H:Heap}{sz:Nat}{es:List (List D)}{ob:Option Nat}(h: ∀b,ob=some b→H b=none):H.Le (putB H sz es ob):=by
 cases ob with
 |none=>exact D1G H
 |some b=>exact A0 (h b rfl)
theorem B2v{α :Type}(p: α →Bool): ∀l:List α,(!l.any fun x=> !p x)=l.all p
 | []=>rfl
 |x::l=>by rw[D0u,D0s,←B2v p l];cases p x<;>simp
def chT(l:List Row)(k:Nat):Ch:=(List.range k).foldl (A3R l) ⟨none,false,0⟩
@[go_sem] theorem C8U(l:List Row):L1 (chT l 0).best= -1:=rfl
@[go_sem] theorem C8V(l:List Row):(chT l 0).sure=false:=rfl
@[go_sem] theorem C8W(l:List Row):(chT l 0).cost=0:=rfl
theorem B0I(l:List Row)(k:Nat):chT l (k+1)=A3R l (chT l k) k:=by simp[chT,List.range_succ,D0h]
end Go.Lin
namespace Go.Proofs.YtibphjonmikciaaGreatDoor
open Go Go.Av Go.Lin
attribute [local irreducible] ACalls W4
theorem B9F{Q}(r:Row)(k b:Nat)(hk:k<r.c.length)(H:Heap)(hb:H b=some (.box [.int .i64 (k:Int)]))(h:Q (.bool (!((U9 r.c k).natAbs==1))) H):D7 286 [.agg (C4 r),.box b 0] H Q:=by
 refine A8 [] A5 Tryz.func286 rfl ?_;simp only[go_sem,seval,Tryz.results286];intro d i;have e2:(H.set d (.box (C4 r))) d=some (.box (C4 r)):=A2 _ _;have e1:(H.set d (.box (C4 r))) b=some (.box [.int .i64 (k:Int)]):=(A0 i) _ _ hb;have j:H.Le (H.set d (.box (C4 r))):=A0 i;generalize H.set d (.box (C4 r))=Bs at e1 e2 j⊢;have m:(k:Int)<r.c.length:=by omega
 rw[H7 _ _ hk]at h;have e:(!(r.c[k].natAbs==1))=(!decide (r.c[k].natAbs=1)):=by by_cases g:r.c[k].natAbs=1<;>simp[g]
 rw[e]at h;repeat' (first|with_reducible apply C9p|simp only[go_sem,seval,e1,e2,m,A9 _ _ hk,C1 _ _ hk]|with_reducible refine A97 _ _ ?_|omega)
 exact D1H j h
theorem N7{Q}(l:List Row)(k:Nat)(hlen:l.length≤1000000)(hk: ∀r∈l,k<r.c.length)(H:Heap)(h:Q (.bool (A1t l k)) H):D7 261 [.sl 4 (Rw C4 l),.int .i64 (k:Int)] H Q:=by
 refine A8 [] A5 Tryz.func261 rfl ?_;simp only[go_sem,seval,Tryz.results261];intro d e;have e3:(H.set d (.box [.int .i64 (k:Int)])) d=some (.box [.int .i64 (k:Int)]):=A2 _ _;unfold A1t at h;rw[←B2v]at h;have g: ∀a∈l,∀(Q:D→Heap→Prop),Q (.bool (!((U9 a.c k).natAbs==1))) (H.set d (.box [.int .i64 (k:Int)]))→D7 286 ([]++[.agg (C4 a)]++[.box d 0]) (H.set d (.box [.int .i64 (k:Int)])) Q:=fun a i Q hq=>B9F a k d (hk a i) _ e3 hq;repeat' (first|with_reducible apply C9p|simp only[go_sem,seval]|intro j|omega)
 refine C2w (fun r=> !((U9 r.c k).natAbs==1)) l (by omega) 286 [] [.box d 0] _ g ?_;repeat' simp only[go_sem,seval]
 exact D1H (A0 e) h
set_option maxHeartbeats 4000000 in
theorem B6P{Q}(l:List Row)(n:Nat)(hl:l≠[])(hlen:l.length≤1000000)(hw: ∀r∈l,r.c.length=n)(hn:n≤1000000)(H:Heap)(h:Q (.tuple [.int .i64 (L1 (Y2 l).best),.bool (Y2 l).sure]) H):
  D7 224 [.sl 4 (Rw C4 l)] H Q:=by
 refine A8 [] A5 Tryz.func224 rfl ?_;simp only[go_sem,seval,Tryz.results224];have J:0<l.length:=List.length_pos_iff.2 hl;have L:(0:Int)<l.length:=by omega
 have I:l[0].c.length=n:=hw _ (C93 J);have hr:Y2 l=chT l n:=by
  unfold Y2 chT;rw[show (l.headD default).c.length=n from by rw[←I];cases l with|nil=>exact absurd rfl hl|cons x l=>rfl]
 rw[hr]at h;repeat' (first|with_reducible apply C9p|simp only[go_sem,seval,L,A9 _ _ J,C1 _ _ J,I])
 refine C9 [0,15] (fun(k:Nat)=>[(16,.int .i64 k),(2,.int .i64 (L1 (chT l k).best)),(3,.bool (chT l k).sure),(4,.int .i64 (chT l k).cost)]) (fun(k:Nat)=>H) (fun(k:Nat)=>k≤n) (fun(k:Nat)=>n-k) (0) (D0A _) (by(try simp only[go_sem,seval])<;>(try simp(disch:=omega) [A4])) (by first|exact D1G _|exact A0 (by assumption)|exact B2 (by assumption)|simp only[Heap.Le,Heap.set,Heap.del]at* <;>grind) ?_;rintro X rfl k hk;by_cases A:k<n
 ·have C:decide ((k:Int)<n)=true:=C9r (by omega);repeat' simp only[go_sem,seval,C]
  refine B2u l k hlen (fun r hr=>by rw[hw r hr];exact A) _ fun ob _ M=>?_;have o:=B9E (sz:=4) (es:=Rw C4 (S9 l k)) M;generalize putB H 4 (Rw C4 (S9 l k)) ob=Hp at o⊢;have Y:(I3 l k).length≤1000000:=D0v (V4 _) hlen;have m2:(F6 l k).length≤1000000:=D0v (V4 _) hlen;obtain⟨p,hp⟩: ∃p,p=(I3 l k).length:=⟨_,rfl⟩
  obtain⟨q,hq⟩: ∃q,q=(F6 l k).length:=⟨_,rfl⟩
  have hs:=B0I l k;unfold A3R at hs;simp only[←hp,←hq]at hs;have y: ∀r∈I3 l k,k<r.c.length:=fun r hr=>by rw[hw r ((List.mem_filter.1 hr).1)];exact A
  have z: ∀r∈F6 l k,k<r.c.length:=fun r hr=>by rw[hw r ((List.mem_filter.1 hr).1)];exact A
  have U:(p:Int)*q≤1000000000000:=by
   have:p*q≤1000000*1000000:=Nat.mul_le_mul (by omega) (by omega);rw[←Int.natCast_mul];omega
  have V:(0:Int)≤(p:Int)*q:=by rw[←Int.natCast_mul];omega
  by_cases T:p+q=0
  ·have u:(p:Int)+q=0:=by omega
   rw[if_pos T]at hs;repeat' (first|with_reducible apply C9p|simp only[go_sem,seval,←hp,←hq,u]|simp(disch:=omega) only[A4,A9])
   refine C2 (k+1) (by omega) (by omega) (by(try simp only[go_sem,seval,hs])<;>(try simp(disch:=omega) [A4])) o
  ·have u: ¬(p:Int)+q=0:=by omega
   rw[if_neg T]at hs;obtain⟨c,hc⟩: ∃c,c=(chT l k).cost:=⟨_,rfl⟩
   obtain⟨m,hm⟩: ∃m,m=(p:Int)*q:=⟨_,rfl⟩
   rw[←hc,←hm]at hs;rw[←hm]at U V;have W:A1t (I3 l k) k=true∨(A1t (I3 l k) k=false∧A1t (F6 l k) k=true)∨(A1t (I3 l k) k=false∧A1t (F6 l k) k=false):=by
    cases A1t (I3 l k) k<;>cases A1t (F6 l k) k<;>simp
   have G:(chT l k).best=none∨∃j,(chT l k).best=some j:=by cases (chT l k).best<;>simp
   rcases W with g|⟨g,i⟩|⟨g,i⟩
   ·have i:True:=trivial;rcases G with hb|⟨j,hb⟩
    ·have d:True:=trivial;have hx:True:=trivial;have e:=hs;simp[g,i,hb,d,hx]at e;have o1: ∀j:Nat,¬(L1 (some j)<0):=fun j=>by show¬((j:Int)<0);omega
     have o2:L1 none= -1:=rfl;have o3:L1 (some k)=k:=rfl;repeat' (first|with_reducible apply C9p|simp only[go_sem,seval,←hp,←hq,←hc,←hm,u,g,i,hb,d,hx,o1,o2,decide_true,decide_false]|simp(disch:=omega) only[A4,A9]|with_reducible refine N7 (I3 l k) k (by omega) y _ ?_)
     refine C2 (k+1) (by omega) (by omega) (by(try simp only[go_sem,seval,e,hb,d,o2,o3,←hc])<;>(try simp(disch:=omega) [A4])) o
    ·cases d:(chT l k).sure
     ·have hx:True:=trivial;have e:=hs;simp[g,i,hb,d,hx]at e;have o1: ∀j:Nat,¬(L1 (some j)<0):=fun j=>by show¬((j:Int)<0);omega
      have o2:L1 none= -1:=rfl;have o3:L1 (some k)=k:=rfl;repeat' (first|with_reducible apply C9p|simp only[go_sem,seval,←hp,←hq,←hc,←hm,u,g,i,hb,d,hx,o1,o2,decide_true,decide_false]|simp(disch:=omega) only[A4,A9]|with_reducible refine N7 (I3 l k) k (by omega) y _ ?_)
      refine C2 (k+1) (by omega) (by omega) (by(try simp only[go_sem,seval,e,hb,d,o2,o3,←hc])<;>(try simp(disch:=omega) [A4])) o
     ·by_cases hx:m-p-q<c
      ·have e:=hs;simp[g,i,hb,d,hx]at e;have o1: ∀j:Nat,¬(L1 (some j)<0):=fun j=>by show¬((j:Int)<0);omega
       have o2:L1 none= -1:=rfl;have o3:L1 (some k)=k:=rfl;repeat' (first|with_reducible apply C9p|simp only[go_sem,seval,←hp,←hq,←hc,←hm,u,g,i,hb,d,hx,o1,o2,decide_true,decide_false]|simp(disch:=omega) only[A4,A9]|with_reducible refine N7 (I3 l k) k (by omega) y _ ?_)
       refine C2 (k+1) (by omega) (by omega) (by(try simp only[go_sem,seval,e,hb,d,o2,o3,←hc])<;>(try simp(disch:=omega) [A4])) o
      ·have e:=hs;simp[g,i,hb,d,hx]at e;have o1: ∀j:Nat,¬(L1 (some j)<0):=fun j=>by show¬((j:Int)<0);omega
       have o2:L1 none= -1:=rfl;have o3:L1 (some k)=k:=rfl;repeat' (first|with_reducible apply C9p|simp only[go_sem,seval,←hp,←hq,←hc,←hm,u,g,i,hb,d,hx,o1,o2,decide_true,decide_false]|simp(disch:=omega) only[A4,A9]|with_reducible refine N7 (I3 l k) k (by omega) y _ ?_)
       refine C2 (k+1) (by omega) (by omega) (by(try simp only[go_sem,seval,e,hb,d,o2,o3,←hc])<;>(try simp(disch:=omega) [A4])) o
   ·rcases G with hb|⟨j,hb⟩
    ·have d:True:=trivial;have hx:True:=trivial;have e:=hs;simp[g,i,hb,d,hx]at e;have o1: ∀j:Nat,¬(L1 (some j)<0):=fun j=>by show¬((j:Int)<0);omega
     have o2:L1 none= -1:=rfl;have o3:L1 (some k)=k:=rfl;repeat' (first|with_reducible apply C9p|simp only[go_sem,seval,←hp,←hq,←hc,←hm,u,g,i,hb,d,hx,o1,o2,decide_true,decide_false]|simp(disch:=omega) only[A4,A9]|with_reducible refine N7 (I3 l k) k (by omega) y _ ?_|with_reducible refine N7 (F6 l k) k (by omega) z _ ?_)
     refine C2 (k+1) (by omega) (by omega) (by(try simp only[go_sem,seval,e,hb,d,o2,o3,←hc])<;>(try simp(disch:=omega) [A4])) o
    ·cases d:(chT l k).sure
     ·have hx:True:=trivial;have e:=hs;simp[g,i,hb,d,hx]at e;have o1: ∀j:Nat,¬(L1 (some j)<0):=fun j=>by show¬((j:Int)<0);omega
      have o2:L1 none= -1:=rfl;have o3:L1 (some k)=k:=rfl;repeat' (first|with_reducible apply C9p|simp only[go_sem,seval,←hp,←hq,←hc,←hm,u,g,i,hb,d,hx,o1,o2,decide_true,decide_false]|simp(disch:=omega) only[A4,A9]|with_reducible refine N7 (I3 l k) k (by omega) y _ ?_|with_reducible refine N7 (F6 l k) k (by omega) z _ ?_)
      refine C2 (k+1) (by omega) (by omega) (by(try simp only[go_sem,seval,e,hb,d,o2,o3,←hc])<;>(try simp(disch:=omega) [A4])) o
     ·by_cases hx:m-p-q<c
      ·have e:=hs;simp[g,i,hb,d,hx]at e;have o1: ∀j:Nat,¬(L1 (some j)<0):=fun j=>by show¬((j:Int)<0);omega
       have o2:L1 none= -1:=rfl;have o3:L1 (some k)=k:=rfl;repeat' (first|with_reducible apply C9p|simp only[go_sem,seval,←hp,←hq,←hc,←hm,u,g,i,hb,d,hx,o1,o2,decide_true,decide_false]|simp(disch:=omega) only[A4,A9]|with_reducible refine N7 (I3 l k) k (by omega) y _ ?_|with_reducible refine N7 (F6 l k) k (by omega) z _ ?_)
       refine C2 (k+1) (by omega) (by omega) (by(try simp only[go_sem,seval,e,hb,d,o2,o3,←hc])<;>(try simp(disch:=omega) [A4])) o
      ·have e:=hs;simp[g,i,hb,d,hx]at e;have o1: ∀j:Nat,¬(L1 (some j)<0):=fun j=>by show¬((j:Int)<0);omega
       have o2:L1 none= -1:=rfl;have o3:L1 (some k)=k:=rfl;repeat' (first|with_reducible apply C9p|simp only[go_sem,seval,←hp,←hq,←hc,←hm,u,g,i,hb,d,hx,o1,o2,decide_true,decide_false]|simp(disch:=omega) only[A4,A9]|with_reducible refine N7 (I3 l k) k (by omega) y _ ?_|with_reducible refine N7 (F6 l k) k (by omega) z _ ?_)
       refine C2 (k+1) (by omega) (by omega) (by(try simp only[go_sem,seval,e,hb,d,o2,o3,←hc])<;>(try simp(disch:=omega) [A4])) o
   ·rcases G with hb|⟨j,hb⟩
    ·have d:True:=trivial;have hx:True:=trivial;have e:=hs;simp[g,i,hb,d,hx]at e;have o1: ∀j:Nat,¬(L1 (some j)<0):=fun j=>by show¬((j:Int)<0);omega
     have o2:L1 none= -1:=rfl;have o3:L1 (some k)=k:=rfl;repeat' (first|with_reducible apply C9p|simp only[go_sem,seval,←hp,←hq,←hc,←hm,u,g,i,hb,d,hx,o1,o2,decide_true,decide_false]|simp(disch:=omega) only[A4,A9]|with_reducible refine N7 (I3 l k) k (by omega) y _ ?_|with_reducible refine N7 (F6 l k) k (by omega) z _ ?_)
     refine C2 (k+1) (by omega) (by omega) (by(try simp only[go_sem,seval,e,hb,d,o2,o3,←hc])<;>(try simp(disch:=omega) [A4])) o
    ·cases d:(chT l k).sure
     ·by_cases hx:m-p-q<c
      ·have e:=hs;simp[g,i,hb,d,hx]at e;have o1: ∀j:Nat,¬(L1 (some j)<0):=fun j=>by show¬((j:Int)<0);omega
       have o2:L1 none= -1:=rfl;have o3:L1 (some k)=k:=rfl;repeat' (first|with_reducible apply C9p|simp only[go_sem,seval,←hp,←hq,←hc,←hm,u,g,i,hb,d,hx,o1,o2,decide_true,decide_false]|simp(disch:=omega) only[A4,A9]|with_reducible refine N7 (I3 l k) k (by omega) y _ ?_|with_reducible refine N7 (F6 l k) k (by omega) z _ ?_)
       refine C2 (k+1) (by omega) (by omega) (by(try simp only[go_sem,seval,e,hb,d,o2,o3,←hc])<;>(try simp(disch:=omega) [A4])) o
      ·have e:=hs;simp[g,i,hb,d,hx]at e;have o1: ∀j:Nat,¬(L1 (some j)<0):=fun j=>by show¬((j:Int)<0);omega
       have o2:L1 none= -1:=rfl;have o3:L1 (some k)=k:=rfl;repeat' (first|with_reducible apply C9p|simp only[go_sem,seval,←hp,←hq,←hc,←hm,u,g,i,hb,d,hx,o1,o2,decide_true,decide_false]|simp(disch:=omega) only[A4,A9]|with_reducible refine N7 (I3 l k) k (by omega) y _ ?_|with_reducible refine N7 (F6 l k) k (by omega) z _ ?_)
       refine C2 (k+1) (by omega) (by omega) (by(try simp only[go_sem,seval,e,hb,d,o2,o3,←hc])<;>(try simp(disch:=omega) [A4])) o
     ·have hx:True:=trivial;have e:=hs;simp[g,i,hb,d,hx]at e;have o1: ∀j:Nat,¬(L1 (some j)<0):=fun j=>by show¬((j:Int)<0);omega
      have o2:L1 none= -1:=rfl;have o3:L1 (some k)=k:=rfl;repeat' (first|with_reducible apply C9p|simp only[go_sem,seval,←hp,←hq,←hc,←hm,u,g,i,hb,d,hx,o1,o2,decide_true,decide_false]|simp(disch:=omega) only[A4,A9]|with_reducible refine N7 (I3 l k) k (by omega) y _ ?_|with_reducible refine N7 (F6 l k) k (by omega) z _ ?_)
      refine C2 (k+1) (by omega) (by omega) (by(try simp only[go_sem,seval,e,hb,d,o2,o3,←hc])<;>(try simp(disch:=omega) [A4])) o
 ·have C:decide ((k:Int)<n)=false:=C9s (by omega);have O:k=n:=by omega
  subst O;repeat' simp only[go_sem,seval,C]
  exact D1K h
end Go.Proofs.YtibphjonmikciaaGreatDoor
namespace Go.Lin
open Go Go.Av Go.Lexs
theorem B0J(k:Int)(l:List LTm)(vs:List VlV)(i:Nat)(h:i<l.length):J3 k (l.drop i) vs=match L4 vs l[i].v with|none=>none|some n=>J3 (k+l[i].c*n) (l.drop (i+1)) vs:=by
 rw[D0K h,J3];rfl
theorem B6Q{vs:List VlV}(hv:M2 vs=true){s:ByteArray}{n:Int}(h:L4 vs s=some n):n.natAbs≤2147483647:=by
 have key: ∀(m:List VlV),(∀(i:Nat) (d:i<m.length),m[i].n.natAbs≤2147483647)→L4 m s=some n→n.natAbs≤2147483647:=by
  intro m
  induction m with
  |nil=>intro _ h;cases h
  |cons x m e=>
   intro hm h;rw[L4]at h;split at h
   ·cases h;exact hm 0 (by simp)
   ·exact e (fun i d=>hm (i+1) (by simpa using d)) h
 exact key vs (fun i d=>(A8I hv d).2.1) h
structure C8X(a:LinV):Prop where
 len:a.t.length≤12
 k:a.k.natAbs≤1099511627776
 t:l4 a.t=true
theorem L9{a:LinV}(h:validL a=true):C8X a:=by
 unfold validL N2 at h;simp only[C92,D0B]at h;exact⟨h.1.2,by omega,h.1.1⟩
theorem B6R{a b:Int}(d:a.natAbs≤1048576)(hb:b.natAbs≤2147483647):(a*b).natAbs≤2251799812636672:=by
 rw[Int.natAbs_mul];exact D0v (Nat.mul_le_mul d hb) (by decide)
end Go.Lin
namespace Go.Proofs.YtibphjonmikciaaGreatDoor
open Go Go.Av Go.Lexs Go.Lin
attribute [local irreducible] ACalls W4
theorem B9G{Q}(a:LinV)(C:validL a=true)(vs:List VlV)(hv:M2 vs=true)(hlen:vs.length≤1000000000000000)(H:Heap)(h:Q (.tuple [.int .i64 ((J3 a.k a.t vs).getD 0),.bool (J3 a.k a.t vs).isSome]) H):D7 107 [.agg (E4 a),.sl 2 (Rw vlC vs)] H Q:=by
 refine A8 [] A5 Tryz.func107 rfl ?_;simp only[go_sem,seval,Tryz.results107];have ok:=L9 C;intro q r;have e1:(H.set q (.box (E4 a))) q=some (.box (E4 a)):=A2 _ _;have u:H.Le (H.set q (.box (E4 a))):=A0 r;generalize H.set q (.box (E4 a))=Bs at e1 u⊢;have G:=ok.len;have x:=ok.k;repeat' (first|with_reducible apply C9p|simp only[go_sem,seval,e1]|simp(disch:=omega) only[A4,A9]|intro j|omega)
 refine C9 [1,14,15] (fun(p:Nat×Int)=>[(16,.int .i64 p.1),(6,.int .i64 p.2)]) (fun(p:Nat×Int)=>H) (fun(p:Nat×Int)=>p.1≤a.t.length∧J3 a.k a.t vs=J3 p.2 (a.t.drop p.1) vs∧p.2.natAbs≤1099511627776+p.1*2251799812636672) (fun(p:Nat×Int)=>a.t.length-p.1) ((0,a.k)) (⟨D0A _,rfl,by simpa using x⟩) (by(try simp only[go_sem,seval])<;>(try simp(disch:=omega) [A4])) (by first|exact D1G _|exact A0 (by assumption)|exact B2 (by assumption)|simp only[Heap.Le,Heap.set,Heap.del]at* <;>grind) ?_;rintro L rfl ⟨i,s⟩ ⟨I,d,hs⟩;simp only at I d hs;by_cases e:i<a.t.length
 ·have g:decide ((i:Int)<a.t.length)=true:=C9r (by omega);have m:(i:Int)<a.t.length:=by omega
  have J:=A1r ok.t e;rw[B0J _ _ _ _ e]at d;cases o:L4 vs a.t[i].v with
  |none=>
   rw[o]at d;have d:J3 a.k a.t vs=none:=d;rw[d]at h;simp only[Option.getD_none,Option.isSome_none]at h;have y: ∀(H:Heap) (Q:D→Heap→Prop),Q (.tuple [.int .i64 0,.bool false]) H→D7 62 [.sl 2 (Rw vlC vs),.str a.t[i].v] H Q:=fun H Q hq=>B0F vs hv _ hlen H (by rw[o];exact hq);repeat' (first|with_reducible apply C9p|simp only[go_sem,seval,g,m,A9 _ _ e,C1 _ _ e]|intro j|with_reducible refine y _ _ ?_|omega)
   exact D1H (by simp only[E6,D2,D3]at* <;>grind) h
  |some n=>
   rw[o]at d;have d:J3 a.k a.t vs=J3 (s+a.t[i].c*n) (a.t.drop (i+1)) vs:=d;have hn:=B6Q hv o;have hp:=B6R J.2.2.1 hn;have y: ∀(H:Heap) (Q:D→Heap→Prop),Q (.tuple [.int .i64 n,.bool true]) H→D7 62 [.sl 2 (Rw vlC vs),.str a.t[i].v] H Q:=fun H Q hq=>B0F vs hv _ hlen H (by rw[o];exact hq);obtain⟨z,A⟩: ∃z,z=a.t[i].c*n:=⟨_,rfl⟩
   rw[←A]at d hp;repeat' (first|with_reducible apply C9p|simp only[go_sem,seval,g,m,A9 _ _ e,C1 _ _ e,←A]|simp(disch:=omega) only[A4,A9]|intro j|with_reducible refine y _ _ ?_|omega)
   refine C2 (i+1,s+z) ⟨by simp only[];omega,d,by simp only[];omega⟩ (by simp only[];omega) (by(try simp only[go_sem,seval])<;>(try simp(disch:=omega) [A4])) (by simp only[E6,D2,D3]at* <;>grind)
 ·have g:decide ((i:Int)<a.t.length)=false:=C9s (by omega);rw[List.drop_eq_nil_of_le (by omega),J3]at d;rw[d]at h;simp only[Option.getD_some,Option.isSome_some]at h;repeat' simp only[go_sem,seval,g]
  exact D1K h
end Go.Proofs.YtibphjonmikciaaGreatDoor
namespace Go.Fo
open Go Go.Av Go.Lexs Go.Lin
def D1:ByteArray:=⟨#[]⟩
def T1:Fm:=.mk 0 0 nilL D1 []
def A0C(l:LinV):Fm:=.mk 2 0 l D1 []
def shL(l:LinV)(sg:Int):LinV:=⟨l.t.map fun t=>⟨t.v,sg*t.c⟩,sg*l.k-1,false⟩
def opL(l:LinV):Fm:=if l.e=true then .mk 6 0 nilL D1 [A0C (shL l 1),A0C (shL l (-1))]else A0C (shL l (-1))
def opO(o:Int)(b:Bool):Int:=if b=true then 11-o else o
def normF:Fm→Bool→Fm
 | .mk o n l s ks,b=>
  if o=1 then .mk o (if b=true then 1-n else n) l s ks
  else if o=2 then(if b=true then opL l else .mk o n l s ks)
  else if o=3 then(if b=true then .mk 4 0 nilL D1 [.mk o n l s ks]else .mk o n l s ks)
  else if o=4 then normH ks (!b)
  else .mk (opO o b) 0 nilL D1 (normK ks b)
where
 normH:List Fm→Bool→Fm
 | [],_=>T1
 |f::_,b=>normF f b
 normK:List Fm→Bool→List Fm
 | [],_=>[]
 |f::fs,b=>normF f b::normK fs b
theorem B6S(ks:List Fm)(b:Bool):normF.normK ks b=ks.map (normF · b):=by
 induction ks with
 |nil=>rfl
 |cons f fs d=>rw[normF.normK,d];rfl
theorem B2w{f:Fm}(b:Bool)(h:f.op=1):normF f b= .mk 1 (if b=true then 1-f.n else f.n) f.l f.s f.ks:=by
 obtain⟨o,n,l,s,ks⟩:=f;simp only[Fm.op]at h;subst h;rw[normF,if_pos rfl];rfl
theorem B2x{f:Fm}(b:Bool)(h:f.op=2):normF f b=if b=true then opL f.l else f:=by
 obtain⟨o,n,l,s,ks⟩:=f;simp only[Fm.op]at h;subst h;rw[normF,if_neg (by decide),if_pos rfl];rfl
theorem B2y{f:Fm}(b:Bool)(h:f.op=3):normF f b=if b=true then .mk 4 0 nilL D1 [f]else f:=by
 obtain⟨o,n,l,s,ks⟩:=f;simp only[Fm.op]at h;subst h;rw[normF,if_neg (by decide),if_neg (by decide),if_pos rfl]
theorem B2z{f k:Fm}(b:Bool)(h:f.op=4)(hk:f.ks= [k]):normF f b=normF k (!b):=by
 obtain⟨o,n,l,s,ks⟩:=f;simp only[Fm.op]at h;simp only[Fm.ks]at hk;subst h;subst hk;rw[normF,if_neg (by decide),if_neg (by decide),if_neg (by decide),if_pos rfl];rfl
theorem A7K{f:Fm}(b:Bool)(h1:f.op≠1)(d:f.op≠2)(e:f.op≠3)(g:f.op≠4):normF f b= .mk (opO f.op b) 0 nilL D1 (f.ks.map (normF · b)):=by
 obtain⟨o,n,l,s,ks⟩:=f;simp only[Fm.op]at h1 d e g;rw[normF,if_neg h1,if_neg d,if_neg e,if_neg g,B6S];rfl
theorem A3b(l:LinV):A9o l=true↔l=nilL:=by
 obtain⟨t,k,e⟩:=l;unfold A9o nilL;simp only[C92,D0B,Bool.not_eq_true',LinV.mk.injEq];exact and_assoc
theorem B20{s:ByteArray}(h:s.size=0):s=D1:=by
 obtain⟨d⟩:=s;have:d= #[]:=Array.eq_empty_of_size_eq_zero h;subst this;rfl
inductive A4i:Fm→Prop
 |con (n:Int) (h:n=0∨n=1):A4i (.mk 1 n nilL D1 [])
 |lin (l:LinV) (h:validL l=true) (hp: ∀t∈l.t,plainB t.v=true):A4i (.mk 2 0 l D1 [])
 |var (s:ByteArray) (h:plainB s=true):A4i (.mk 3 0 nilL s [])
 |not (k:Fm):A4i (.mk 4 0 nilL D1 [k])
 |and(ks:List Fm):A4i (.mk 5 0 nilL D1 ks)
 |or (ks:List Fm):A4i (.mk 6 0 nilL D1 ks)
theorem B6T{f:Fm}(h:D5 f=true):A4i f:=by
 unfold D5 at h;by_cases h1:f.op=1
 ·rw[if_pos h1]at h;obtain⟨o,n,l,s,ks⟩:=f;simp only[Fm.op,Fm.n,Fm.l,Fm.s,Fm.ks,C92,D1C,List.isEmpty_iff]at h h1;obtain⟨⟨⟨hn,hs⟩,hl⟩,hk⟩:=h;have hn:n=0∨n=1:=hn.imp C9q C9q;rw[h1,B20 (C9q hs),(A3b l).1 hl,hk];exact .con n hn
 ·rw[if_neg h1]at h;by_cases d:f.op=2
  ·rw[if_pos d]at h;obtain⟨o,n,l,s,ks⟩:=f;simp only[Fm.op,Fm.n,Fm.l,Fm.s,Fm.ks,C92,List.isEmpty_iff,D0Q]at h d;obtain⟨⟨⟨⟨hn,hs⟩,hk⟩,hl⟩,hp⟩:=h;rw[d,show n=0 from C9q hn,B20 (C9q hs),hk];exact .lin l hl hp
  ·rw[if_neg d]at h;by_cases e:f.op=3
   ·rw[if_pos e]at h;obtain⟨o,n,l,s,ks⟩:=f;simp only[Fm.op,Fm.n,Fm.l,Fm.s,Fm.ks,C92,List.isEmpty_iff]at h e;obtain⟨⟨⟨hn,hl⟩,hk⟩,hp⟩:=h;rw[e,show n=0 from C9q hn,(A3b l).1 hl,hk];exact .var s hp
   ·rw[if_neg e]at h;by_cases g:f.op=4
    ·rw[if_pos g]at h;obtain⟨o,n,l,s,ks⟩:=f;simp only[Fm.op,Fm.n,Fm.l,Fm.s,Fm.ks,C92]at h g;obtain⟨⟨⟨hn,hs⟩,hl⟩,hk⟩:=h;obtain⟨k,rfl⟩:=List.length_eq_one_iff.1 (show ks.length=1 from C9q hk);rw[g,show n=0 from C9q hn,B20 (C9q hs),(A3b l).1 hl];exact .not k
    ·rw[if_neg g]at h;by_cases h5:f.op=5∨f.op=6
     ·rw[if_pos h5]at h;obtain⟨o,n,l,s,ks⟩:=f;simp only[Fm.op,Fm.n,Fm.l,Fm.s,Fm.ks,C92]at h h5;obtain⟨⟨hn,hs⟩,hl⟩:=h;rw[show n=0 from C9q hn,B20 (C9q hs),(A3b l).1 hl];rcases h5 with rfl|rfl
      ·exact .and ks
      ·exact .or ks
     ·rw[if_neg h5]at h;cases h
theorem Q4{f:Fm}(h:G8 D5 f=true):A4i f:=by
 rw[A2P,C92]at h;exact B6T h.1
theorem N8{f:Fm}{p:Fm→Bool}(h:G8 p f=true){k:Fm}(hk:k∈f.ks):G8 p k=true:=by
 rw[A2P,C92,D0Q]at h;exact h.2 k hk
def notF(f:Fm):Fm×Int:=if E5 f=true then(if E5 (normF f true)=true then(normF f true,0)else(T1,3))else(T1,2)
theorem L5{f:Fm}(h:E5 f=true):G8 D5 f=true:=by
 rw[A2Q]at h;simp only[C92]at h;exact h.1.1.1.1
theorem A2x{s:ByteArray}(h:H9 (B s)=true):s.size≤200:=by
 unfold H9 at h;simp only[C92,D0B]at h;have:=h.1.1.2;simpa [B]using this
theorem B1h{l:LinV}(h:validL l=true)(d:Int)(hs:d=1∨d= -1):a8 (shL l d):=by
 have ok:=L9 h;refine⟨by unfold shL;simp only[D0Y];have:=ok.len;omega,fun t e=>?_,fun t e=>?_,?_⟩
 ·obtain⟨x,hx,rfl⟩:=D0n.1 (show t∈l.t.map _ from e);have:=A2x (M7 ok.t x hx).1;show x.v.size≤_;omega
 ·obtain⟨x,hx,rfl⟩:=D0n.1 (show t∈l.t.map _ from e);have:=(M7 ok.t x hx).2.2;show W3 (d*x.c);unfold W3;rcases hs with rfl|rfl<;>omega
 ·have:=ok.k;show W3 (d*l.k-1);unfold W3;rcases hs with rfl|rfl<;>omega
theorem A1R:a8 nilL:=⟨by simp[nilL],by simp[nilL],by simp[nilL],by simp[nilL,W3]⟩
theorem A1x{l:LinV}(h:a8 l):FmFit (A0C l):=.mk _ _ _ _ _ (by simp[W3]) (by simp[W3]) h (by decide) (by simp) (by simp)
theorem R9{o:Int}{ks:List Fm}(ho:W3 o)(hl:ks.length≤1466015503658)(h: ∀k∈ks,FmFit k):FmFit (.mk o 0 nilL D1 ks):=.mk _ _ _ _ _ ho (by simp[W3]) A1R (by decide) hl h
theorem A55: ∀(f:Fm) (b:Bool),G8 D5 f=true→FmFit f→FmFit (normF f b)∧K9 (normF f b)≤3*K9 f:=by
 intro f
 induction f using P2 with
 |h o n l s ks i=>
  intro b r e;have hk: ∀k∈ks,G8 D5 k=true:=fun k hk=>N8 (f:=.mk o n l s ks) r hk;have j: ∀k∈ks,FmFit k:=fun k hk=>e.kid hk;have d: ∀(p:Int),p=5∨p=6→FmFit (normF (.mk p 0 nilL D1 ks) b)∧K9 (normF (.mk p 0 nilL D1 ks) b)≤3*K9 (.mk p 0 nilL D1 ks):=by
   intro p hp;rw[A7K b (by show p≠1;omega) (by show p≠2;omega) (by show p≠3;omega) (by show p≠4;omega)];refine⟨R9 (by show W3 (opO p b);unfold opO W3;split<;>omega) (by rw[D0Y];exact e.kl) fun k hm=>?_,?_⟩
   ·obtain⟨x,hx,rfl⟩:=D0n.1 hm;exact(i x hx b (hk x hx) (j x hx)).1
   ·have key: ∀m:List Fm,(∀k∈m,k∈ks)→K9.wtL (m.map (normF · b))≤3*K9.wtL m:=by
     intro m
     induction m with
     |nil=>intro _;simp[K9.wtL]
     |cons g y q=>
      intro hm;have z:=(i g (hm g (C90 ..)) b (hk g (hm g (C90 ..))) (j g (hm g (C90 ..)))).2;have A:=q fun k h=>hm k (C97 _ h);rw[D06,K9.wtL,K9.wtL];omega
    rw[L2,L2];have:=key ks fun _ h=>h;show 1+([]:List LTm).length+K9.wtL (ks.map (normF · b))≤3*(1+([]:List LTm).length+K9.wtL ks);simp only[C9w];omega
  cases Q4 r with
  |con n h=>
   rw[B2w b rfl];refine⟨.mk _ _ _ _ _ (by simp[W3]) ?_ A1R (show D1.size≤_ by decide) (by simp[Fm.ks]) (by simp[Fm.ks]),?_⟩
   ·show W3 (if b=true then 1-n else n);unfold W3;split<;>omega
   ·rw[L2,L2];simp only[Fm.l,Fm.ks];omega
  |lin l h hp=>
   rw[B2x b rfl];cases b with
   |false=>exact⟨e,by simp only[C95,if_false];omega⟩
   |true=>
    simp only[if_true,Fm.l];unfold opL;split
    ·refine⟨R9 (by simp[W3]) (by simp) fun k hm=>?_,?_⟩
     ·simp only[D0H,D0I,or_false]at hm;rcases hm with rfl|rfl
      ·exact A1x (B1h h _ (.inl rfl))
      ·exact A1x (B1h h _ (.inr rfl))
     ·rw[L2,L2];simp[Fm.l,Fm.ks,K9.wtL,L2,A0C,shL,nilL];omega
    ·refine⟨A1x (B1h h _ (.inr rfl)),?_⟩;rw[L2,L2];simp[Fm.l,Fm.ks,K9.wtL,A0C,shL];omega
  |var s h=>
   rw[B2y b rfl];cases b with
   |false=>exact⟨e,by simp only[C95,if_false];omega⟩
   |true=>
    simp only[if_true];refine⟨R9 (by simp[W3]) (by simp) fun k hm=>?_,?_⟩
    ·rw[D0G]at hm;rw[hm];exact e
    ·rw[L2,L2];simp[Fm.l,Fm.ks,K9.wtL,L2,nilL]
  |not k=>
   rw[B2z b rfl rfl];have:=i k (C90 ..) (!b) (hk k (C90 ..)) (j k (C90 ..));refine⟨this.1,?_⟩;have u:K9 (.mk 4 0 nilL D1 [k])=1+K9 k:=by rw[L2];simp[Fm.l,Fm.ks,K9.wtL,nilL]
   rw[u];omega
  |and ks=>exact d 5 (.inl rfl)
  |or ks=>exact d 6 (.inr rfl)
end Go.Fo
namespace Go.Lin
open Go Go.Av
theorem O3.one{H Hp:Heap}{sz:Nat}{e1:List (List D)}{o1:Option Nat}(h:O3 H Hp sz e1 [] [] o1 none none):H.Le (K7 Hp o1):=by
 have:=h.last.1;exact fun k o hk=>this k o hk
theorem A56{α β :Type}(f: α → β)(l:List α)(i:Nat)(h:i<l.length):(l.take (i+1)).map f=(l.take i).map f++[f l[i]]:=by
 rw[C98 h,D0p];rfl
theorem A8V{α β :Type}(f: α → β)(l:List α)(i:Nat)(h:i≤l.length):((l.take i).map f).length=i:=by rw[D0Y,D0X];omega
end Go.Lin
namespace Go.Proofs.YtibphjonmikciaaGreatDoor
open Go Go.Av Go.Lin
attribute [local irreducible] ACalls W4
theorem A7L{Q}(l:List Row)(e:Row)(k n:Nat)(hlen:l.length≤1000000)(hn:n≤1000000)(hw: ∀r∈l,r.c.length=n)(he:e.c.length=n)(hk:k<n)(hr: ∀r∈l,A4v r 18446744073709551616)(a4:A4v e 18446744073709551616)(a5: ∀r∈l,∀x∈r.c,x.natAbs≤4294967296)(a6: ∀x∈e.c,x.natAbs≤4294967296)(H:Heap)
  (h:Q (.sl 4 (Rw C4 (l.map (R7 e k)))) H):D7 253 [.sl 4 (Rw C4 l),.agg (C4 e),.int .i64 (k:Int)] H Q:=by
 refine A8 [(7,.par)] A5 Tryz.func253 rfl ?_;simp only[go_sem,seval,Tryz.results253];intro z a9;have e4:(H.set z (.box (C4 e))) z=some (.box (C4 e)):=A2 _ _;have L:H.Le (H.set z (.box (C4 e))):=A0 a9;generalize H.set z (.box (C4 e))=Bs at e4 L⊢;have z0:D.nilsl=J1 4 ((l.take 0).map (R7 e k)).length none:=rfl;repeat' (first|with_reducible apply C9p|simp only[go_sem,seval]|simp(disch:=omega) only[A4,A9,H7]|simp(disch:=first|omega|grind) only[B9]|(intro d;try simp only[A6]at d)|omega)
 refine C9 [2,4,11,12] (fun(p:Nat×Option Nat×Heap)=>[(13,.int .i64 p.1),(7,J1 4 p.1 p.2.1)]) (fun(p:Nat×Option Nat×Heap)=>p.2.2) (fun(p:Nat×Option Nat×Heap)=>p.1≤l.length∧O3 Bs p.2.2 4 (Rw C4 ((l.take p.1).map (R7 e k))) [] [] p.2.1 none none) (fun(p:Nat×Option Nat×Heap)=>l.length-p.1) ((0,none,Bs)) (⟨D0A _,O3.nil Bs 4⟩) (by(try simp only[go_sem,seval])<;>(try simp(disch:=omega) [A4])) (by first|exact D1G _|exact A0 (by assumption)|exact B2 (by assumption)|simp only[Heap.Le,Heap.set,Heap.del]at* <;>grind) ?_;rintro Ec rfl ⟨i,o1,Hp⟩ ⟨hi,G⟩;simp only at hi G;by_cases o:i<l.length
 ·have I:decide ((i:Int)<l.length)=true:=C9r (by omega);have b2:(i:Int)<l.length:=by omega
  have b3:=hw _ (C93 o);have u:k<l[i].c.length:=by omega
  have W:(k:Int)<l[i].c.length:=by omega
  have J:k<e.c.length:=by omega
  have X:(k:Int)<e.c.length:=by omega
  have gk:=H7 l[i].c k u;have ge:=H7 e.c k J;have fs:=A56 (R7 e k) l i o;have fl:=A8V (R7 e k) l i hi;have q4:Hp z=some (.box (C4 e)):=G.le _ _ e4;by_cases c0:l[i].c[k]=0
  ·have s:l[i].c[k].sign=0:=by rw[c0];rfl
   have er:R7 e k l[i]=l[i]:=by unfold R7;rw[gk,if_pos c0]
   repeat' (first|with_reducible apply C9p|simp only[go_sem,seval,I,A9 _ _ o,C1 _ _ o,A9 _ _ u,C1 _ _ u,W,s,decide_true,D1D]|simp(disch:=first|omega|grind) only[B9]|(intro d;try simp only[A6]at d)|with_reducible refine K4 _ _ ?_|omega)
   rename_i q h9 j M bx;have O:=d;clear d;have A:Hp.Le ((Hp.set q (.box (C4 l[i]))).set j (.box (C3 l[i].c[k]))):=(by simp only[E6,D2,D3]at* <;>grind)
   obtain⟨R,T⟩: ∃R,R=(Hp.set q (.box (C4 l[i]))).set j (.box (C3 l[i].c[k])):=⟨_,rfl⟩
   have m:Hp.Le R:=by rw[T];exact A
   rw[←T];have C:R bx=none:=by rw[T];simp only[A6];exact O
   refine A5z (P:=Tryz.prog) (H0:=R) (es:=Rw C4 ((l.take i).map (R7 e k))) C (by simp) (G.a1.up m) (by rw[D6,fl]) (by simp only[C9u,C9w];omega) (by simp only[C9u,C9w];omega) fun Y H' hA=>?_;repeat' (first|simp only[go_sem,seval]|simp(disch:=omega) only[A4,A9,H7])
   have U:Rw C4 ((l.take (i+1)).map (R7 e k))=Rw C4 ((l.take i).map (R7 e k))++[C4 (l[i])]:=by rw[fs,er,←O2];rfl
   have V:Apd R 4 o1 (Rw C4 ((l.take (i+1)).map (R7 e k))) Y H':=by rw[U];exact hA
   refine C2 (i+1,some Y,H') ⟨by simp only[];omega,G.app1 m V⟩ (by simp only[];omega) (by(try simp only[go_sem,seval,K3])<;>(try simp(disch:=omega) [A4])) (D1G _)
  ·have s: ¬(l[i].c[k].sign=0):=fun g=>c0 (Int.sign_eq_zero_iff_zero.1 g);repeat' (first|with_reducible apply C9p|simp only[go_sem,seval,I,A9 _ _ o,C1 _ _ o,A9 _ _ u,C1 _ _ u,W,s,decide_false,D1E]|(intro d;try simp only[A6]at d)|with_reducible refine K4 _ _ ?_|omega)
   rename_i q h9 j;have M:=d;clear d;obtain⟨b0,M⟩:=M;have e9:((Hp.set q (.box (C4 l[i]))).set j (.box (C3 l[i].c[k]))) q=some (.box (C4 l[i])):=by rw[A3 _ (Ne.symm b0),A2]
   have a0:((Hp.set q (.box (C4 l[i]))).set j (.box (C3 l[i].c[k]))) j=some (.box (C3 l[i].c[k])):=A2 _ _;have m:Hp.Le (((Hp.set q (.box (C4 l[i]))).set j (.box (C3 l[i].c[k]))).del q):=(by simp only[E6,D2,D3]at* <;>grind)
   have f4:=(m.trans (D9 _ _)) _ _ q4;have b6:z≠q:=fun g=>by rw[g,h9]at q4;cases q4
   generalize (Hp.set q (.box (C4 l[i]))).set j (.box (C3 l[i].c[k]))=Hq at e9 a0 m f4⊢;have m4:z∈[z,q,j]:=by simp
   have m9:q∈[z,q,j]:=by simp
   have b1:j∈[z,q,j]:=by simp
   have a1:=a5 _ (C93 o) _ (C93 u);have a2:=a6 _ (C93 J);have a3:=A1L a1 a2;obtain⟨t,ht⟩: ∃t:Int,t=1:=⟨1,rfl⟩
   obtain⟨x,hx⟩: ∃x:Int,x=l[i].c[k]:=⟨_,rfl⟩
   obtain⟨y,hy⟩: ∃y:Int,y=e.c[k]:=⟨_,rfl⟩
   have er:R7 e k l[i]=A1s l[i] t e (-(x*y)):=by unfold R7;rw[gk,if_neg c0,ge,ht,hx,hy]
   rw[←hx]at a1 a3;rw[←hy]at a2 a3;have s1:Sz x:=G7 (by omega);have s2:Sz y:=G7 (by omega);refine F5 (fun i'=>if i'=1 then .agg (C3 t)else if i'=9 then .agg (C3 (x*y))else if i'=10 then .agg (C3 (-(x*y)))else if i'=11 then .agg (C4 (A1s l[i] t e (-(x*y))))else .undef) [z,q,j] ?_;repeat' (first|with_reducible apply C9p|simp only[go_sem,seval,e9,a0,f4,m4,m9,b1,A9 _ _ J,C1 _ _ J,X,←hx,←hy]|(intro d;try simp only[A6]at d)|with_reducible refine R0 (fun H' Q hro hq=>l6 1 (by omega) (by omega) H' (by rw[←ht];exact hq)) ?_|with_reducible refine R0 (fun H' Q hro hq=>R8 x y s1 s2 H' hq) ?_|with_reducible refine R0 (fun H' Q hro hq=>A4D (x*y) H' hq) ?_|with_reducible refine R0 (fun H' Q hro hq=>B54 l[i] e t (-(x*y)) (by omega) (by omega) (hr _ (C93 o)) a4 (by omega) (by omega) H' hq) ?_|omega)
   rename_i bx;have O:=d;clear d;have A:Hp.Le (Hq.set q (.box (C4 (A1s l[i] t e (-(x*y)))))):=(by simp only[E6,D2,D3]at* <;>grind)
   obtain⟨R,T⟩: ∃R,R=Hq.set q (.box (C4 (A1s l[i] t e (-(x*y))))):=⟨_,rfl⟩
   have m:Hp.Le R:=by rw[T];exact A
   rw[←T];have C:R bx=none:=by rw[T];simp only[A6];exact O
   refine A5z (P:=Tryz.prog) (H0:=R) (es:=Rw C4 ((l.take i).map (R7 e k))) C (by simp) (G.a1.up m) (by rw[D6,fl]) (by simp only[C9u,C9w];omega) (by simp only[C9u,C9w];omega) fun Y H' hA=>?_;repeat' (first|simp only[go_sem,seval]|simp(disch:=omega) only[A4,A9,H7])
   have U:Rw C4 ((l.take (i+1)).map (R7 e k))=Rw C4 ((l.take i).map (R7 e k))++[C4 (A1s l[i] t e (-(x*y)))]:=by rw[fs,er,←O2];rfl
   have V:Apd R 4 o1 (Rw C4 ((l.take (i+1)).map (R7 e k))) Y H':=by rw[U];exact hA
   refine C2 (i+1,some Y,H') ⟨by simp only[];omega,G.app1 m V⟩ (by simp only[];omega) (by(try simp only[go_sem,seval,K3])<;>(try simp(disch:=omega) [A4])) (D1G _)
 ·have I:decide ((i:Int)<l.length)=false:=C9s (by omega);have e1:l.take i=l:=C94 (by omega);have e2:i=l.length:=by omega
  rw[e1]at G;repeat' simp only[go_sem,seval,I]
  exact Fin.out (by rw[D6,D0Y];exact e2) G.a1 (D1H (L.trans (O3.one G)) h)
end Go.Proofs.YtibphjonmikciaaGreatDoor
namespace Go.Av
theorem OutAt.ne{H:Heap}{sz:Nat}{es:List (List D)}{o:Option Nat}(h:OutAt H sz es o){b:Nat}(hb:H b=none):o≠some b:=fun e=>by
 have:=h.some_of e;rw[hb]at this;cases this
theorem O3.less{H H' Hp:Heap}{sz:Nat}{e1 e2 e3:List (List D)}{o1 o2 o3:Option Nat}(h:O3 H Hp sz e1 e2 e3 o1 o2 o3)(hl:H'.Le H):O3 H' Hp sz e1 e2 e3 o1 o2 o3:=
 ⟨hl.trans h.le,h.a1,h.a2,h.a3,fun b e=>hl.none (h.n1 b e),fun b e=>hl.none (h.n2 b e),fun b e=>hl.none (h.n3 b e),h.d12,h.d13,h.d23⟩
theorem O3.grow{H Hp:Heap}{sz:Nat}{e1 e2 e3:List (List D)}{o1 o2 o3:Option Nat}(h:O3 H Hp sz e1 e2 e3 o1 o2 o3){b:Nat}(hb:Hp b=none)(x:Go.Av.Obj):O3 (H.set b x) (Hp.set b x) sz e1 e2 e3 o1 o2 o3:=by
 have d:=A0 (o:=x) hb;have nn: ∀{c:Nat} {o:Option Nat} {e:List (List D)},OutAt Hp sz e o→o=some c→H c=none→(H.set b x) c=none:=fun {c o e} g e hn=>by
  rw[A3 _ (by rintro rfl;exact g.ne hb e)];exact hn
 refine⟨fun k o hk=>?_,h.a1.up d,h.a2.up d,h.a3.up d,fun c e=>nn h.a1 e (h.n1 c e),fun c e=>nn h.a2 e (h.n2 c e),fun c e=>nn h.a3 e (h.n3 c e),h.d12,h.d13,h.d23⟩;by_cases e:k=b
 ·subst e;rw[A2]at hk⊢;exact hk
 ·rw[A3 _ e]at hk⊢;exact h.le k o hk
theorem O3.put{H:Heap}{sz:Nat}{es:List (List D)}{ob:Option Nat}(d:ob=none→es= [])(h1: ∀b,ob=some b→H b=none):O3 H (putB H sz es ob) sz es [] [] ob none none:=by
 refine⟨?_,B3m d,rfl,rfl,h1,by simp,by simp,by simp,by simp,by simp⟩;cases ob with
 |none=>exact D1G H
 |some b=>exact A0 (h1 b rfl)
theorem O3.set1{H Hp g:Heap}{sz c:Nat}{e1 e2 e3 e1':List (List D)}{o2 o3:Option Nat}(h:O3 H Hp sz e1 e2 e3 (some c) o2 o3)(d:Hp.Le g):O3 H (g.set c (.vec sz e1')) sz e1' e2 e3 (some c) o2 o3:=by
 have up: ∀{e:List (List D)} {o:Option Nat},OutAt Hp sz e o→o≠some c→OutAt (g.set c (.vec sz e1')) sz e o:=fun {e o} i hn=>by
  cases o with
  |none=>exact i
  |some b=>show (g.set c _) b=_;rw[A3 _ (by rintro rfl;exact hn rfl)];exact d _ _ i
 refine⟨fun k o hk=>?_,A2 _ _,up h.a2 (h.d12 _ rfl),up h.a3 (h.d13 _ rfl),h.n1,h.n2,h.n3,h.d12,h.d13,h.d23⟩;rw[A3 _ (by rintro rfl;have:=h.n1 _ rfl;rw[this]at hk;cases hk)];exact d _ _ (h.le _ _ hk)
end Go.Av
namespace Go.Lin
open Go Go.Av
def z7(l:List Row)(k:Nat)(i j:Nat):List Row:=S9 l k++((I3 l k).take i).flatMap (fun a=>(F6 l k).map fun b=>A1J a b k false)++((F6 l k).take j).map fun b=>A1J ((I3 l k).getD i default) b k false
theorem A7M(l:List Row)(k:Nat):z7 l k 0 0=S9 l k:=by simp[z7]
theorem A7N(l:List Row)(k i:Nat)(h:i<(I3 l k).length):z7 l k i (F6 l k).length=z7 l k (i+1) 0:=by
 unfold z7;rw[C98 h,List.take_length,List.flatMap_append];simp[h]
theorem B0K(l:List Row)(k:Nat):z7 l k (I3 l k).length 0=A2L l k false:=by simp[z7,A2L]
theorem A7O(l:List Row)(k i j:Nat)(h:j<(F6 l k).length):z7 l k i (j+1)=z7 l k i j++[A1J ((I3 l k).getD i default) (F6 l k)[j] k false]:=by
 unfold z7;rw[C98 h,D0p,←D0d];rfl
theorem B6U(l:List Row)(k i j:Nat)(hl:l.length≤10000)(g:i≤10000):(z7 l k i j).length≤100020000:=by
 unfold z7;rw[C9v,C9v,D0Y,D0X];have h1:(S9 l k).length≤l.length:=V4 _;have h:(F6 l k).length≤l.length:=V4 _;have key: ∀(m:List Row),(m.flatMap fun a=>(F6 l k).map fun b=>A1J a b k false).length=m.length*(F6 l k).length:=by
  intro m
  induction m with
  |nil=>simp
  |cons a m d=>rw[List.flatMap_cons,C9v,d,D0Y,C9u,Nat.succ_mul];omega
 rw[key];have e:((I3 l k).take i).length≤10000:=by rw[D0X];omega
 have o:((I3 l k).take i).length*(F6 l k).length≤10000*10000:=Nat.mul_le_mul e (by omega);omega
end Go.Lin
namespace Go.Proofs.YtibphjonmikciaaGreatDoor
open Go Go.Av Go.Lin
attribute [local irreducible] ACalls W4
theorem B6V{Q}(l:List Row)(k n:Nat)(hlen:l.length≤10000)(hn:n≤1000000)(hw: ∀r∈l,r.c.length=n)(hk:k<n)(hr: ∀r∈l,A4v r 18446744073709551616)(H:Heap)
  (h:Q (.sl 4 (Rw C4 (A2L l k false))) H):D7 226 [.sl 4 (Rw C4 l),.int .i64 (k:Int),.bool false] H Q:=by
 refine A8 [(9,.par),(12,.par)] A5 Tryz.func226 rfl ?_;simp only[go_sem,seval,Tryz.results226];have wl: ∀r∈I3 l k,r∈l:=fun r hr=>(List.mem_filter.1 hr).1;have wh: ∀r∈F6 l k,r∈l:=fun r hr=>(List.mem_filter.1 hr).1;have l1:(I3 l k).length≤10000:=D0v (V4 _) hlen;have l2:(F6 l k).length≤10000:=D0v (V4 _) hlen;obtain⟨t,ht⟩: ∃t:Int,t=1:=⟨1,rfl⟩
 repeat' (first|with_reducible apply C9p|simp only[go_sem,seval]|simp(disch:=omega) only[A4,A9,H7]|simp(disch:=first|omega|grind) only[B9]|(intro d;try simp only[A6]at d)|omega)
 refine B2u l k (by omega) (fun r hr=>by rw[hw r hr];exact hk) _ fun ob M G=>?_;have o0:=O3.put (H:=H) (sz:=4) (es:=Rw C4 (S9 l k)) (ob:=ob) (fun e=>by rw[M e];rfl) G;have a0:(S9 l k).length=(z7 l k 0 0).length:=by rw[A7M]
 rw[←A7M l k]at o0⊢;generalize putB H 4 (Rw C4 (z7 l k 0 0)) ob=Hp at o0⊢;repeat' (first|simp only[go_sem,seval]|(intro d;try simp only[A6]at d)|with_reducible refine l6 1 (by omega) (by omega) _ ?_)
 rename_i b7;have a4:=d;clear d;refine C9 [1,2,8,10,26,27] (fun(p:Nat×Option Nat×Heap)=>[(28,.int .i64 p.1),(9,J1 4 (z7 l k p.1 0).length p.2.1)]) (fun(p:Nat×Option Nat×Heap)=>p.2.2) (fun(p:Nat×Option Nat×Heap)=>p.1≤(I3 l k).length∧O3 H p.2.2 4 (Rw C4 (z7 l k p.1 0)) [] [] p.2.1 none none) (fun(p:Nat×Option Nat×Heap)=>(I3 l k).length-p.1) ((0,ob,Hp)) (⟨D0A _,o0⟩) (by(try simp only[go_sem,seval])<;>(try simp(disch:=omega) [A4])) (by first|exact D1G _|exact A0 (by assumption)|exact B2 (by assumption)|simp only[Heap.Le,Heap.set,Heap.del]at* <;>grind) ?_;clear o0 a4 a0 M G;rintro Ec rfl ⟨i,o1,Hp⟩ ⟨hi,x⟩;simp only at hi x;by_cases y:i<(I3 l k).length
 ·have o:decide ((i:Int)<(I3 l k).length)=true:=C9r (by omega);have b8:(i:Int)<(I3 l k).length:=by omega
  have A:=wl _ (C93 y);have C:k<(I3 l k)[i].c.length:=by rw[hw _ A];exact hk
  have a5:(k:Int)<(I3 l k)[i].c.length:=by omega
  have gi:(I3 l k).getD i default=(I3 l k)[i]:=by simp[y]
  repeat' (first|with_reducible apply C9p|simp only[go_sem,seval,o,A9 _ _ y,C1 _ _ y]|(intro d;try simp only[A6]at d)|omega)
  rename_i g;have O:=d;clear d;have g3:=x.grow O (.box (C4 (I3 l k)[i]));have J:(Hp.set g (.box (C4 (I3 l k)[i]))) g=some (.box (C4 (I3 l k)[i])):=A2 _ _;have hH:H.Le (H.set g (.box (C4 (I3 l k)[i]))):=A0 (x.le.none O);have J:(H.set g (.box (C4 (I3 l k)[i]))) g=some (.box (C4 (I3 l k)[i])):=A2 _ _;generalize Hp.set g (.box (C4 (I3 l k)[i]))=Hq at g3⊢;generalize H.set g (.box (C4 (I3 l k)[i]))=H1 at g3 J hH;refine C9 [1,2,8,10,12,26,27,28,32,33] (fun(p:Nat×Option Nat×Heap)=>[(34,.int .i64 p.1),(9,J1 4 (z7 l k i p.1).length p.2.1)]) (fun(p:Nat×Option Nat×Heap)=>p.2.2) (fun(p:Nat×Option Nat×Heap)=>p.1≤(F6 l k).length∧O3 H1 p.2.2 4 (Rw C4 (z7 l k i p.1)) [] [] p.2.1 none none) (fun(p:Nat×Option Nat×Heap)=>(F6 l k).length-p.1) ((0,o1,Hq)) (⟨D0A _,g3⟩) (by(try simp only[go_sem,seval])<;>(try simp(disch:=omega) [A4])) (by first|exact D1G _|exact A0 (by assumption)|exact B2 (by assumption)|simp only[Heap.Le,Heap.set,Heap.del]at* <;>grind) ?_;clear g3 x;rintro Ec rfl ⟨j,o1,Hp⟩ ⟨hj,x⟩;simp only at hj x;have a6:=x.le _ _ J;by_cases z:j<(F6 l k).length
  ·have o:decide ((j:Int)<(F6 l k).length)=true:=C9r (by omega);have b9:(j:Int)<(F6 l k).length:=by omega
   have L:=wh _ (C93 z);have u:k<(F6 l k)[j].c.length:=by rw[hw _ L];exact hk
   have T:(k:Int)<(F6 l k)[j].c.length:=by omega
   repeat' (first|with_reducible apply C9p|simp only[go_sem,seval,o,A9 _ _ z,C1 _ _ z]|(intro d;try simp only[A6]at d)|omega)
   rename_i m;have U:=d;clear d;have V:(Hp.set m (.box (C4 (F6 l k)[j]))) m=some (.box (C4 (F6 l k)[j])):=A2 _ _;have W:(Hp.set m (.box (C4 (F6 l k)[j]))) g=some (.box (C4 (I3 l k)[i])):=(A0 U) _ _ a6;have I:Hp.Le (Hp.set m (.box (C4 (F6 l k)[j]))):=A0 U;generalize Hp.set m (.box (C4 (F6 l k)[j]))=Hr at V W I⊢;have a9:g∈[g,m]:=by simp
   have b0:m∈[g,m]:=by simp
   have X:=hr _ A;have Y:=hr _ L;have x1:=X.2 _ (C93 C);have x2:=Y.2 _ (C93 u);obtain⟨p,hp⟩: ∃p,p=(I3 l k)[i].c[k]:=⟨_,rfl⟩
   obtain⟨q,hq⟩: ∃q,q= -(F6 l k)[j].c[k]:=⟨_,rfl⟩
   have es:A1J ((I3 l k).getD i default) (F6 l k)[j] k false=A1s (I3 l k)[i] q (F6 l k)[j] p:=by
    unfold A1J;simp only[gi,H7 _ _ C,H7 _ _ u,←hp,←hq];rfl
   have lz:=B6U l k i j hlen (by omega);have b1:Rw C4 (z7 l k i (j+1))=Rw C4 (z7 l k i j)++[C4 (A1s (I3 l k)[i] q (F6 l k)[j] p)]:=by rw[A7O l k i j z,es,←O2];rfl
   have fl:(z7 l k i (j+1)).length=(z7 l k i j).length+1:=by rw[A7O l k i j z];simp
   refine F5 (fun i'=>if i'=10 then .agg (C3 q)else .undef) [g,m] ?_;repeat' (first|with_reducible apply C9p|simp only[go_sem,seval,a9,b0,W,V,a5,T,A9 _ _ C,C1 _ _ C,A9 _ _ u,C1 _ _ u,←hp]|simp(disch:=first|omega|grind) only[B9]|(intro d;try simp only[A6]at d)|with_reducible refine R0 (fun H' Q hro b2=>A4D (F6 l k)[j].c[k] H' (by rw[←hq];exact b2)) ?_|with_reducible refine B54 (I3 l k)[i] (F6 l k)[j] q p (by rw[hw _ A,hw _ L]) (by rw[hw _ A];exact hn) X Y (by omega) (by omega) _ ?_|omega)
   rename_i c0 c1 c2 c3 c4 c5 bx;have b3:=d;clear d;refine O3.ap x (e1':=Rw C4 (z7 l k i (j+1))) (I.trans (by simp only[E6,D2,D3]at* <;>grind)) (by simp only[A6];simp only[b3,ne_eq,not_false_eq_true,and_self]) (by simp) (by rw[D6]) (by simp only[C9u,C9w];omega) (by simp only[C9u,C9w];omega) b1 fun b' H' h4=>?_;repeat' (first|simp only[go_sem,seval]|simp(disch:=omega) only[A4,A9,H7])
   refine C2 (j+1,some b',H') ⟨by simp only[];omega,h4⟩ (by simp only[];omega) (by(try simp only[go_sem,seval,K3,fl])<;>(try simp(disch:=omega) [A4])) (D1G _)
  ·have o:decide ((j:Int)<(F6 l k).length)=false:=C9s (by omega);have b4:j=(F6 l k).length:=by omega
   subst b4;rw[A7N l k i y]at x;repeat' (first|simp only[go_sem,seval,o,A7N l k i y]|simp(disch:=omega) only[A4,A9,H7])
   refine C2 (i+1,o1,Hp) ⟨by simp only[];omega,x.less hH⟩ (by simp only[];omega) (by(try simp only[go_sem,seval])<;>(try simp(disch:=omega) [A4])) (D1G _)
 ·have o:decide ((i:Int)<(I3 l k).length)=false:=C9s (by omega);have b6:i=(I3 l k).length:=by omega
  subst b6;rw[B0K]at x;repeat' simp only[go_sem,seval,o,B0K]
  exact Fin.out (by rw[D6]) x.a1 (D1H (O3.one x) h)
end Go.Proofs.YtibphjonmikciaaGreatDoor
namespace Go.Lin
open Go Go.Av
theorem A7P:C3 0= [.bool false,.sl 1 []]:=by
 unfold C3;rw[show (0:Int).natAbs=0 from rfl,J0];rfl
theorem B1i{es es':List (List D)}(hl:es.length=es'.length)(h: ∀(i:Nat) e e',es[i]? =some e→es'[i]? =some e'→e=e'∨(e=zB∧e'=C3 0)):NilR (.sl 2 es) (.sl 2 es'):=by
 refine .sl 2 es es' hl (fun i e e' h1 o=>?_) (fun i e e' j d d' h1 o m g=>?_)
 ·rcases h i e e' h1 o with rfl|⟨rfl,rfl⟩
  ·rfl
  ·rw[A7P];rfl
 ·rcases h i e e' h1 o with rfl|⟨rfl,rfl⟩
  ·rw[m]at g;cases g;exact .same _
  ·rw[A7P]at g
   match j with
   |0=>cases m;cases g;exact .same _
   |1=>cases m;cases g;exact .nil _
   |j+2=>cases m
theorem B36(c:List Int):NilR (.sl 2 (Rw C3 c++[zB])) (.sl 2 (Rw C3 (c++[0]))):=by
 refine B1i (by simp[Rw]) fun i e e' h1 d=>?_;rw[←O2]at d;by_cases h:i<c.length
 ·rw[D0j (by rw[D6];exact h)]at h1 d;rw[h1]at d;cases d;exact .inl rfl
 ·rw[D0k (by rw[D6];omega),D6]at h1 d;by_cases g:i-c.length=0
  ·rw[g]at h1 d;cases h1;cases d;exact .inr ⟨rfl,rfl⟩
  ·obtain⟨q,hq⟩: ∃q,i-c.length=q+1:=⟨_,(Nat.succ_pred g).symm⟩
   rw[hq]at h1;cases h1
theorem B37{a a':D}{ds:List D}(h:NilR a a'):NilR (.agg (a::ds)) (.agg (a'::ds)):=by
 refine .agg _ _ (by simp) fun i d d' h1 e=>?_
 match i with
 |0=>cases h1;cases e;exact h
 |i+1=>
  simp only[D0L]at h1 e;rw[h1]at e;cases e;exact .same _
theorem A17{Q:D→Heap→Prop}{ds:List D}{H:Heap}{b sz n:Nat}{es:List (List D)}(hb:H b=some (.vec sz es))(hn:n=es.length)(h:Fin Q (.agg (.sl sz es::ds)) (H.del b)):Fin Q (.agg (.vec b sz 0 n::ds)) H:=by
 subst hn;refine T6 hb (by simp) (fun i d d' h1 e=>?_) h
 match i with
 |0=>cases h1;cases e;exact .all
 |i+1=>
  simp only[D0L]at h1 e;rw[h1]at e;cases e;exact .same _
end Go.Lin
namespace Go.Proofs.YtibphjonmikciaaGreatDoor
open Go Go.Av Go.Lin
attribute [local irreducible] ACalls W4
theorem B6W{Q}(c:List Int)(hc:c≠[])(hl:c.length≤1000000)(H:Heap)(h: ∀(ob:Option Nat) (b:Nat),ob=some b→H b=none→Q (J1 2 c.length ob) (H.set b (.vec 2 (Rw C3 c)))):D7 257 [.sl 2 (Rw C3 c)] H Q:=by
 refine A8 [] A5 Tryz.func257 rfl ?_;simp only[go_sem,seval,Tryz.results257];have i:Rw C3 c≠[]:=fun e=>hc (D0D (by rw[←D6 (f:=C3),e];rfl));have hq: ∀(x:Nat),K1 Tryz.prog .eql 240 (J9 (.tmp x)||J9 (.const (.slice none 0 0))) (.sl 2 (Rw C3 c)) .nilsl=some (.bool false):=fun x=>A5k i (by kernel_rfl);repeat' (first|with_reducible apply C9p|simp only[go_sem,seval,hq]|intro d|omega)
 rename_i j o m;have g:=d;clear d;have hs:(H.set j (.vec 2 [])).del j=H:=E9 o;rw[hs]at g⊢;exact D1K (h (some m) m rfl g)
theorem C2x{Q}(r:Row)(hc:r.c≠[])(hl:r.c.length≤1000000)(H:Heap)(h:Q (.agg (C4 (A2a r))) H):D7 256 [.agg (C4 r)] H Q:=by
 refine A8 [] A5 Tryz.func256 rfl ?_;simp only[go_sem,seval,Tryz.results256];intro d h1 i q;simp only[A6]at q;have e1:((H.set d (.box (C4 r))).set i (.box [.nilsl,.bool false,.nilsl,.bool false])) d=some (.box (C4 r)):=by rw[A3 _ q.1.symm,A2]
 have e2:((H.set d (.box (C4 r))).set i (.box [.nilsl,.bool false,.nilsl,.bool false])) i=some (.box [.nilsl,.bool false,.nilsl,.bool false]):=A2 _ _;have u:H.Le ((H.set d (.box (C4 r))).set i (.box [.nilsl,.bool false,.nilsl,.bool false])):=(A0 h1).trans (A0 (by simp only[A6];exact q));have n1:d≠i:=q.1.symm;generalize (H.set d (.box (C4 r))).set i (.box [.nilsl,.bool false,.nilsl,.bool false])=Bs at e1 e2 u⊢;repeat' simp only[go_sem,seval,e1]
 refine B6W _ hc hl _ fun ob bv j z=>?_;have o3:=O3.put (H:=Bs) (sz:=2) (es:=Rw C3 r.c) (ob:=some bv) (by simp) (fun b e=>by cases e;exact z);rw[←j]at o3;have x:putB Bs 2 (Rw C3 r.c) ob=Bs.set bv (.vec 2 (Rw C3 r.c)):=by rw[j];rfl
 rw[x]at o3;generalize Bs.set bv (.vec 2 (Rw C3 r.c))=Hp at o3⊢;clear j x;repeat' (first|simp only[go_sem,seval]|(intro m;try simp only[A6]at m))
 rename_i bx;have y:=m;clear m;refine O3.ap o3 (e1':=Rw C3 r.c++[zB]) (D1G _) y (by simp) (by rw[D6]) (by simp only[C9u,C9w];omega) (by simp only[C9u,C9w];omega) rfl fun A H' p=>?_;clear o3 y;have J:=p.le _ _ e1;have L:=p.le _ _ e2;have C:A≠d:=fun g=>by have:=p.n1 _ rfl;rw[g,e1]at this;cases this
 have G:A≠i:=fun g=>by have:=p.n1 _ rfl;rw[g,e2]at this;cases this
 repeat' simp only[go_sem,seval,J,L,A3 _ n1,A3 _ n1.symm]
 refine A17 (es:=Rw C3 r.c++[zB]) (by rw[A3 _ G,A3 _ C];exact p.a1) (by rw[C9v,D6];rfl) (E3 (B37 (B36 r.c)) (D1H (fun k o hk=>?_) h));have M:k≠d:=fun g=>by rw[g,h1]at hk;cases hk
 have O:k≠i:=fun g=>by rw[g,q.2]at hk;cases hk
 have I:=u _ _ hk;have T:k≠A:=fun g=>by have:=p.n1 _ rfl;rw[←g,I]at this;cases this
 rw[F0 T,A3 _ O,A3 _ M];exact p.le _ _ I
end Go.Proofs.YtibphjonmikciaaGreatDoor
namespace Go.Lin
open Go Go.Av Go.Lexs
structure ZR where
 es:List (List D)
 r:Row
def zrC(z:ZR):List D:=[.sl 2 z.es,.bool (decide (z.r.k<0)),.sl 1 (Rw F1 (B4 z.r.k.natAbs)),.bool z.r.eq]
def zOk(z:ZR):Prop:=NilR (.sl 2 z.es) (.sl 2 (Rw C3 z.r.c))
theorem B38(l:List ZR)(h: ∀z∈l,zOk z):NilR (.sl 4 (Rw zrC l)) (.sl 4 (Rw C4 (l.map (·.r)))):=by
 have e:Rw C4 (l.map (·.r))=Rw (fun z:ZR=>C4 z.r) l:=by simp[Rw]
 rw[e];refine NilR.rw 4 l (fun z i=>rfl) fun z i j d d' h1 g=>?_
 match j with
 |0=>cases h1;cases g;exact h z i
 |1=>cases h1;cases g;exact .same _
 |2=>cases h1;cases g;exact .same _
 |3=>cases h1;cases g;exact .same _
 |j+4=>cases h1
def Z5(names:List ByteArray)(ts:List LTm):List (List D):=names.map fun s=>match ts.find? (fun t=>decide (t.v=s))with|some t=>C3 t.c|none=>zB
theorem B39(d:List ByteArray):Z5 d []=List.replicate d.length zB:=by
 unfold Z5;simp only[List.find?_nil];rw[List.map_const']
theorem B0L(d:List ByteArray)(e:List LTm):(Z5 d e).length=d.length:=by simp[Z5]
theorem B6X(d:List ByteArray)(e:List LTm)(i:Nat)(g:i<d.length)(hn: ∀t∈e,t.v≠d[i]):(Z5 d e)[i]? =some zB∧(Z5 d e).getD i []=zB:=by
 have h:e.find? (fun t=>decide (t.v=d[i]))=none:=by
  rw[List.find?_eq_none];intro t j;simp[hn t j]
 have:(Z5 d e)[i]? =some zB:=by
  unfold Z5;rw[D0C,C96 g,Option.map_some,h]
 exact⟨this,by rw[List.getD_eq_getElem?_getD,this];rfl⟩
theorem B6Y(d:List ByteArray)(h:List LTm)(t:LTm)(i:Nat)(p:i<d.length)(he:d[i]=t.v)(m:d.Nodup)(hn: ∀x∈h,x.v≠t.v):(Z5 d h).set i (C3 t.c)=Z5 d (h++[t]):=by
 apply D1A
 ·simp[Z5]
 ·intro j h1 y;have r:j<d.length:=by simpa [Z5]using y
  by_cases e:i=j
  ·subst e;rw[List.getElem_set_self];have u:h.find? (fun x=>decide (x.v=d[i]))=none:=by
    rw[List.find?_eq_none];intro x hx;simp[he,hn x hx]
   simp only[Z5,D0f,List.find?_append,u];simp[he]
  ·rw[List.getElem_set_ne e];have o:t.v≠d[j]:=fun g=>by
    rw[←he]at g;have hp:=List.pairwise_iff_getElem.1 m;rcases Nat.lt_or_gt_of_ne e with q|q
    ·exact hp i j p r q g
    ·exact hp j i r p q g.symm
   simp only[Z5,D0f,List.find?_append];cases u:h.find? (fun x=>decide (x.v=d[j]))with
   |some x=>simp
   |none=>simp[o]
theorem B4A(l:List LTm)(s:ByteArray):A9z l s=match l.find? (fun t=>decide (t.v=s))with|some t=>t.c|none=>0:=by
 induction l with
 |nil=>rfl
 |cons t l d=>
  rw[A9z,List.find?_cons];by_cases h:t.v=s
  ·simp[h]
  ·simp[h,d]
theorem B6Z(d:List ByteArray)(h:List LTm):NilR (.sl 2 (Z5 d h)) (.sl 2 (Rw C3 (d.map (A9z h)))):=by
 refine B1i (by simp[Z5,Rw]) fun i e e' h1 j=>?_;simp only[Z5,Rw,D0C,C9y]at h1 j;obtain⟨s,hs,rfl⟩:=h1;obtain⟨x,⟨m,g,rfl⟩,rfl⟩:=j;rw[hs]at g;cases g;rw[B4A];cases h.find? (fun t=>decide (t.v=s))with
 |some t=>exact .inl rfl
 |none=>exact .inr ⟨rfl,rfl⟩
theorem B0M(n i:Nat)(s:Int)(m:i<n):NilR (.sl 2 ((List.replicate n zB).set i (C3 s))) (.sl 2 (Rw C3 (A7C n i s))):=by
 refine B1i (by simp[Rw,A7C]) fun j e e' h1 d=>?_;have h:j<n:=by have:=(C9z.1 h1).1;simpa using this
 simp only[Rw,A7C,D0C,C9y]at d;obtain⟨x,⟨k,hk,rfl⟩,rfl⟩:=d;rw[List.getElem?_range h]at hk;cases hk;by_cases g:i=j
 ·subst g;rw[List.getElem?_set_self (by simpa using m)]at h1;cases h1;rw[if_pos rfl];exact .inl rfl
 ·rw[List.getElem?_set_ne g]at h1;simp[h]at h1;rw[if_neg (fun q=>g q.symm)];exact .inr ⟨h1.symm,rfl⟩
end Go.Lin
namespace Go.Lin
open Go Go.Av Go.Proofs.YtibphjonmikciaaGreatDoor
abbrev A4I(n m:Nat)(r:Row):Prop:=r.c.length=n∧A4v r m
abbrev hit(r s:Row):Prop:=r.eq=false∧s.eq=false∧A39 r s 1=true
theorem A0t(r s:Row)(l:List Row):A3Q r (s::l)=if hit r s then(if r.k<s.k then {s with k:=r.k}else s)::l else s::A3Q r l:=rfl
theorem B0N(r:Row): ∀(l:List Row) (j:Nat) (d:j<l.length),(∀(k:Nat) (hk:k<l.length),k<j→¬hit r l[k])→hit r l[j]→A3Q r l=if r.k<l[j].k then l.set j {l[j]with k:=r.k}else l
 | [],j,d,_,_=>by simp at d
 |s::l,0,d,_,h=>by
  simp only[List.getElem_cons_zero]at h⊢;rw[A0t,if_pos h];split<;>rfl
 |s::l,j+1,d,h1,h=>by
  have e:=h1 0 (by simp) (by omega);simp only[List.getElem_cons_zero]at e;simp only[List.getElem_cons_succ]at h⊢;rw[A0t,if_neg e,B0N r l j (by simpa using d) (fun k hk g=>by have:=h1 (k+1) (by simpa using hk) (by omega);simpa using this) h];split<;>rfl
theorem A7R(r:Row): ∀(l:List Row),(∀(k:Nat) (hk:k<l.length),¬hit r l[k])→A3Q r l=l++[r]
 | [],_=>rfl
 |s::l,h1=>by
  have d:=h1 0 (by simp);simp only[List.getElem_cons_zero]at d;rw[A0t,if_neg d,A7R r l (fun k hk=>by have:=h1 (k+1) (by simpa using hk);simpa using this)];rfl
theorem B6a{n m:Nat}(r:Row)(hr:A4I n m r): ∀(l:List Row),(∀s∈l,A4I n m s)→∀s∈A3Q r l,A4I n m s
 | [],_,s,hs=>by simp[A3Q]at hs;subst hs;exact hr
 |x::l,h,s,hs=>by
  have hx:=h x (C90 ..);rw[A0t]at hs;split at hs
  ·rcases D0H.1 hs with rfl|hs
   ·split
    ·exact⟨hx.1,hr.2.1,hx.2.2⟩
    ·exact hx
   ·exact h s (C97 _ hs)
  ·rcases D0H.1 hs with rfl|hs
   ·exact hx
   ·exact B6a r hr l (fun y d=>h y (C97 _ d)) s hs
theorem B0O(r:Row): ∀l,(A3Q r l).length≤l.length+1
 | []=>by simp[A3Q]
 |x::l=>by rw[A0t];have:=B0O r l;split<;>simp<;>omega
theorem B0P(l:List Row)(i:Nat)(h:i<l.length):pairs1 (l.take (i+1))=A3Q l[i] (pairs1 (l.take i)):=by
 unfold pairs1;rw[C98 h,D0h];rfl
theorem B0Q{n m:Nat}: ∀(l d:List Row),(∀s∈l,A4I n m s)→(∀s∈d,A4I n m s)→∀s∈l.foldl (fun out r=>A3Q r out) d,A4I n m s
 | [],_,_,h=>h
 |r::l,d,h1,e=>B0Q l _ (fun s hs=>h1 s (C97 _ hs)) (B6a r (h1 r (C90 ..)) d e)
theorem A57: ∀(l d:List Row),(l.foldl (fun out r=>A3Q r out) d).length≤d.length+l.length
 | [],_=>by simp
 |r::l,d=>by have:=A57 l (A3Q r d);have:=B0O r d;simp only[List.foldl_cons,C9u];omega
theorem B4B(r s:Row)(l:List Row):A4u r (s::l)=if r.eq=true∨s.eq=true∨A39 r s (-1)=false then A4u r l
  else if r.k+s.k<0 then none else if r.k+s.k=0 then A4u {r with eq:=true} l else A4u r l:=rfl
theorem B0R(done:List Row)(r:Row)(l:List Row):y8 done (r::l)=match A4u r done with|none=>none|some r'=>y8 (done++[r']) l:=rfl
def B0S:Option (List Row)→D
 |none=>.tuple [.sl 4 [],.bool false]
 |some l=>.tuple [.sl 4 (Rw C4 l),.bool true]
end Go.Lin
namespace Go.Av
theorem O3.putle{H Hp:Heap}{sz:Nat}{e1 e2 e3:List (List D)}{o1 o2 o3:Option Nat}(h:O3 H Hp sz e1 e2 e3 o1 o2 o3):(putB H sz e1 o1).Le Hp:=by
 cases o1 with
 |none=>exact h.le
 |some b=>
  intro k o hk;have hk:(H.set b (.vec sz e1)) k=some o:=hk;by_cases e:k=b
  ·subst e;rw[A2]at hk;cases hk;exact h.a1
  ·rw[A3 _ e]at hk;exact h.le _ _ hk
theorem O3.base{H d Hp i:Heap}{sz:Nat}{e1 e2 e3:List (List D)}{o1 o2 o3:Option Nat}(h:O3 H Hp sz e1 e2 e3 o1 o2 o3)(h1:d.Le i)(j:Hp.Le i)(hn: ∀b,Hp b≠none→H b=none→d b=none):O3 d i sz e1 e2 e3 o1 o2 o3:=by
 have key: ∀{e:List (List D)} {o:Option Nat},OutAt Hp sz e o→(∀b,o=some b→H b=none)→∀b,o=some b→d b=none:=fun {e o} m p b g=>hn b (by rw[m.some_of g];simp) (p b g);exact⟨h1,h.a1.up j,h.a2.up j,h.a3.up j,key h.a1 h.n1,key h.a2 h.n2,key h.a3 h.n3,h.d12,h.d13,h.d23⟩
end Go.Av
namespace Go.Lin
open Go Go.Av Go.Proofs.YtibphjonmikciaaGreatDoor
def A2y(c:List Int)(j:Nat):Nat:=gcdR (c.take j)
theorem A4J(c:List Int):A2y c 0=0:=rfl
theorem A7S(c:List Int)(j:Nat)(h:j<c.length):A2y c (j+1)=Nat.gcd c[j].natAbs (A2y c j):=by
 unfold A2y gcdR;rw[C98 h,D0h];rfl
theorem A58(c:List Int):A2y c c.length=gcdR c:=by unfold A2y;rw[List.take_length]
theorem B21(c:List Int)(m:Nat)(hm: ∀x∈c,x.natAbs≤m): ∀j,j≤c.length→A2y c j≤m
 |0,_=>by rw[A4J];omega
 |j+1,h=>by
  have d:=B21 c m hm j (by omega);rw[A7S c j (by omega)];by_cases e:A2y c j=0
  ·rw[e,Nat.gcd_zero_right];exact hm _ (C93 _)
  ·exact D0v (Nat.gcd_le_right _ (by omega)) d
def gB(j:Nat)(g:Int):List D:=if j=0 then [.bool false,.nilsl]else C3 g
theorem A5B(j:Nat)(g:Int):gB (j+1) g=C3 g:=rfl
theorem C2y(c:List Int)(j:Nat):NilR (.agg (gB j (A2y c j:Nat))) (.agg (C3 (A2y c j:Nat))):=by
 cases j with
 |zero=>rw[A4J];exact A8Q
 |succ j=>exact .same _
def A0u(r:Row):Option (List Row):=
 let g:=gcdR r.c
 if g=0 then(if r.k<0∨(r.eq=true∧0<r.k)then none else some [])
 else if g=1 then some [r]
 else
  let k:=r.k.fdiv g
  if r.eq=true∧k*g-r.k≠0 then none
  else some [⟨r.c.map (Int.fdiv · g),k,r.eq⟩]
theorem B1j(r:Row)(l:List Row):W8 (r::l)=(A0u r).bind fun x=>(W8 l).map (x++ ·):=by
 rw[W8];unfold A0u;simp only[];split
 ·split
  ·rfl
  ·simp
 ·split
  ·rfl
  ·split
   ·rfl
   ·rfl
theorem B4C{l:List Row}{i:Nat}{D:List Row}(h:i<l.length)(d:W8 l=(W8 (l.drop i)).map (D++ ·)):W8 l=(A0u l[i]).bind fun x=>(W8 (l.drop (i+1))).map ((D++x)++ ·):=by
 rw[d,D0K h,B1j];cases A0u l[i]with
 |none=>rfl
 |some x=>cases W8 (l.drop (i+1))<;>simp
theorem A2z(a:Int)(b:Nat)(hb:b≠0):(a.fdiv b).natAbs≤a.natAbs:=by
 rw[Int.fdiv_eq_ediv_of_nonneg _ (by omega)];by_cases h:0≤a
 ·have h1:=Int.ediv_nonneg h (show (0:Int)≤b by omega);have d:=Int.ediv_le_self (b:=(b:Int)) h;omega
 ·have h1:a / (b:Int)<0:=Int.ediv_neg_of_neg_of_pos (by omega) (by omega);have d:a≤a / (b:Int):=by
   have:=Int.ediv_mul_le a (show (b:Int)≠0 by omega);have e:=Int.mul_le_mul_of_nonpos_left (show a / (b:Int)≤0 by omega) (show (1:Int)≤b by omega);have g:=Int.lt_ediv_add_one_mul_self a (show (0:Int)<b by omega);refine Int.le_ediv_of_mul_le (by omega) ?_;have:=Int.mul_le_mul_of_nonpos_left (show a≤0 by omega) (show (1:Int)≤b by omega);omega
  omega
theorem B22{n m:Nat}{r:Row}{x:List Row}(hr:A4I n m r)(h:A0u r=some x):(∀s∈x,A4I n m s)∧x.length≤1:=by
 unfold A0u at h;simp only[]at h;split at h
 ·split at h
  ·cases h
  ·cases h;simp
 ·rename_i d;split at h
  ·cases h;exact⟨fun s hs=>by simp at hs;subst hs;exact hr,by simp⟩
  ·split at h
   ·cases h
   ·cases h;refine⟨fun s hs=>?_,by simp⟩;simp at hs;subst hs;refine⟨by simp[hr.1],D0v (A2z _ _ d) hr.2.1,fun y e=>?_⟩;simp only[D0n]at e;obtain⟨z,g,rfl⟩:=e;exact D0v (A2z _ _ d) (hr.2.2 z g)
end Go.Lin
namespace Go.Lin
open Go Go.Av Go.Lexs
def zrV(names:List ByteArray)(a:LinV):ZR:=⟨Z5 names a.t,C6G names a⟩
def zrB(n i:Nat)(s:Int):ZR:=⟨(List.replicate n zB).set i (C3 s),⟨A7C n i s,2147483647,false⟩⟩
def zrR(names:List ByteArray)(l:List LinV)(m:Nat):List ZR:=l.map (zrV names)++(List.range m).flatMap fun i=>[zrB names.length i 1,zrB names.length i (-1)]
theorem B6c(d:List ByteArray)(l:List LinV):(zrR d l d.length).map (·.r)=A91 l d:=by
 unfold zrR A91;rw[D0p,List.map_map,List.map_flatMap];rfl
theorem C2z(d:List ByteArray)(l:List LinV)(m:Nat)(hm:m≤d.length): ∀z∈zrR d l m,zOk z:=fun z e=>by
 unfold zrR at e;rcases D0F.1 e with h|h
 ·obtain⟨a,_,rfl⟩:=D0n.1 h;exact B6Z d a.t
 ·obtain⟨i,g,h⟩:=List.mem_flatMap.1 h;have j:=List.mem_range.1 g;rcases D0H.1 h with rfl|h
  ·exact B0M _ _ _ (by omega)
  ·simp at h;rw[h];exact B0M _ _ _ (by omega)
def zrJ(names:List ByteArray)(l:List LinV)(i j:Nat):List ZR:=zrR names l i++([zrB names.length i 1,zrB names.length i (-1)].take j)
theorem B6d(d:List ByteArray)(l:List LinV)(i:Nat):zrJ d l i 0=zrR d l i:=by simp[zrJ]
theorem B23(d:List ByteArray)(l:List LinV)(i:Nat):zrJ d l i 2=zrR d l (i+1):=by
 unfold zrJ zrR;rw[List.range_succ,List.flatMap_append];simp
theorem B9H(d:List ByteArray)(l:List LinV)(i:Nat):zrJ d l i 1=zrJ d l i 0++[zrB d.length i 1]:=by simp[zrJ]
theorem B6e(d:List ByteArray)(l:List LinV)(i:Nat):zrJ d l i 2=zrJ d l i 1++[zrB d.length i (-1)]:=by simp[zrJ]
theorem B6f(d:List ByteArray)(l:List LinV):zrR d l 0=l.map (zrV d):=by simp[zrR]
theorem B24(d:List ByteArray)(l:List LinV)(i:Nat):(zrR d l i).length=l.length+2*i:=by
 unfold zrR;rw[C9v,D0Y]
 congr 1
 induction i with
 |zero=>rfl
 |succ i e=>rw[List.range_succ,List.flatMap_append,C9v,e];simp;omega
theorem A5D(d:List ByteArray)(l:List LinV)(i j:Nat)(e:j≤2):(zrJ d l i j).length=l.length+2*i+j:=by
 unfold zrJ;rw[C9v,B24,D0X];simp;omega
end Go.Lin
namespace Go.Proofs.YtibphjonmikciaaGreatDoor
open Go Go.Av Go.Lexs Go.Lin
attribute [local irreducible] ACalls W4
theorem A8W{Q}(b:Nat)(es:List ByteArray)(hn:es.length≤1000000)(H:Heap)(hb:H b=some (.box [.sl 1 (Rw a7 es)]))(h: ∀v,H v=none→Q (.vec v 2 0 es.length) (H.set v (.vec 2 (List.replicate es.length zB)))):D7 227 [.box b 0] H Q:=by
 refine A8 [] A5 Tryz.func227 rfl ?_;simp only[go_sem,seval,Tryz.results227];repeat' (first|with_reducible apply C9p|simp only[go_sem,seval,hb]|intro d|omega)
 rename_i v;exact D1K (h v d)
set_option maxHeartbeats 2000000 in
theorem C20{Q}(l:List LinV)(d:List ByteArray)(hlen:l.length≤1000000)(hn:d.length≤1000000)(d4:d.Pairwise fun x y=>j8 x y=true)(hv: ∀a∈l,validL a=true)(hm: ∀a∈l,∀t∈a.t,t.v∈d)(H:Heap)(h:Q (.sl 4 (Rw C4 (A91 l d))) H):
  D7 197 [.sl 3 (Rw E4 l),.sl 1 (Rw a7 d)] H Q:=by
 refine A8 [(6,.par),(11,.par),(22,.par)] A5 Tryz.func197 rfl ?_;simp only[go_sem,seval,Tryz.results197];intro W e8;have e3:(H.set W (.box [.sl 1 (Rw a7 d)])) W=some (.box [.sl 1 (Rw a7 d)]):=A2 _ _;have b7:H.Le (H.set W (.box [.sl 1 (Rw a7 d)])):=A0 e8;generalize H.set W (.box [.sl 1 (Rw a7 d)])=Bs at e3 b7⊢;have e9:d.Nodup:=d4.imp fun {x y} g e=>by rw[e,j9]at g;cases g
 repeat' (first|with_reducible apply C9p|simp only[go_sem,seval]|simp(disch:=omega) only[A4,A9]|simp(disch:=first|omega|grind) only[B9]|(intro m;try simp only[A6]at m)|omega)
 refine C9 [3,6,19,20] (fun(p:Nat×Option Nat)=>[(21,.int .i64 p.1),(5,J1 4 p.1 p.2)]) (fun(p:Nat×Option Nat)=>putB Bs 4 (Rw zrC ((l.take p.1).map (zrV d))) p.2) (fun(p:Nat×Option Nat)=>p.1≤l.length∧(p.2=none→p.1=0)∧(∀b,p.2=some b→Bs b=none)) (fun(p:Nat×Option Nat)=>l.length-p.1) ((0,none)) (⟨D0A _,by simp,by simp⟩) (by(try simp only[go_sem,seval])<;>(try simp(disch:=omega) [A4])) (by first|exact D1G _|exact A0 (by assumption)|exact B2 (by assumption)|simp only[Heap.Le,Heap.set,Heap.del]at* <;>grind) ?_;rintro Ec rfl ⟨i,o1⟩ ⟨hi,ho,c0⟩;simp only at hi ho c0;have A:=O3.put (H:=Bs) (sz:=4) (es:=Rw zrC ((l.take i).map (zrV d))) (ob:=o1) (fun e=>by rw[ho e];rfl) c0;have fl:=A8V (zrV d) l i hi;generalize putB Bs 4 (Rw zrC ((l.take i).map (zrV d))) o1=Hp at A⊢;by_cases a5:i<l.length
 ·have c1:decide ((i:Int)<l.length)=true:=C9r (by omega);have g6:(i:Int)<l.length:=by omega
  have d5:=hv _ (C93 a5);have d6:=hm _ (C93 a5);have fs:=A56 (zrV d) l i a5;obtain⟨a,d7⟩: ∃a,a=l[i]:=⟨_,rfl⟩
  rw[←d7]at d5 d6 fs;have ok:=L9 d5;repeat' (first|with_reducible apply C9p|simp only[go_sem,seval,c1,A9 _ _ a5,C1 _ _ a5,←d7]|(intro m;try simp only[A6]at m)|omega)
  rename_i b8;have h8:=m;clear m;have c8:(Hp.set b8 (.box (E4 a))) b8=some (.box (E4 a)):=A2 _ _;have I:Hp.Le (Hp.set b8 (.box (E4 a))):=A0 h8;have c3:(Hp.set b8 (.box (E4 a))) W=some (.box [.sl 1 (Rw a7 d)]):=I _ _ (A.le _ _ e3);generalize Hp.set b8 (.box (E4 a))=B8 at c8 I c3⊢;have m3:W∈[W,b8]:=by simp
  have m8:b8∈[W,b8]:=by simp
  obtain⟨k,hk⟩: ∃k,k=a.k:=⟨_,rfl⟩
  have f0:=ok.k;rw[←hk]at f0;have f4:B8 b8=some (.box [.sl 2 (Rw Q7 a.t),.int .i64 k,.bool a.e]):=by rw[hk];exact c8
  refine B2O (fun i'=>if i'=1 then .mk' (fun v=>.vec v 2 0 d.length) (.vec 2 (List.replicate d.length zB))else if i'=4 then .c (.agg (C3 k))else .c .undef) [W,b8] ?_;repeat' (first|with_reducible apply C9p|simp only[go_sem,seval,f4,c3,m3,m8]|simp(disch:=first|omega|grind) only[B9]|(intro m;try simp only[A6]at m)|with_reducible refine C8I c3 m3 (by simp) rfl (fun H' Q hro hb hq=>A8W W d hn H' hb hq) ?_|with_reducible refine R0 (fun H' Q hro hq=>l6 k (by omega) (by omega) H' hq) ?_)
  rename_i bv hv b9;have h9:=m;clear m;have nb:b9≠bv:=h9.1;have k3:W≠bv∧W≠b9:=⟨(fun g=>by rw[g,hv]at c3;cases c3),(fun g=>by rw[g,h9.2]at c3;cases c3)⟩
  rw[show List.replicate d.length zB=Z5 d (a.t.take 0)from(B39 d).symm];refine C9 [3,5,6,9,19,20,21,34,35] (fun(j:Nat)=>[(36,.int .i64 j)]) (fun(j:Nat)=>(B8.set bv (.vec 2 (Z5 d (a.t.take j)))).set b9 (.box [.vec bv 2 0 d.length,.bool (decide (k<0)),.sl 1 (Rw F1 (B4 k.natAbs)),.bool a.e])) (fun(j:Nat)=>j≤a.t.length) (fun(j:Nat)=>a.t.length-j) (0) (D0A _) (by(try simp only[go_sem,seval])<;>(try simp(disch:=omega) [A4])) (by first|exact D1G _|exact A0 (by assumption)|exact B2 (by assumption)|simp only[Heap.Le,Heap.set,Heap.del]at* <;>grind) ?_;rintro Ec rfl j hj;have g7:=ok.len;by_cases a6:j<a.t.length
  ·have G:decide ((j:Int)<a.t.length)=true:=C9r (by omega);have f5:(j:Int)<a.t.length:=by omega
   obtain⟨t,ht⟩: ∃t,t=a.t[j]:=⟨_,rfl⟩
   have tc:=(A1r ok.t a6).2.2.1;rw[←ht]at tc;obtain⟨x,hx,b4⟩:=List.getElem_of_mem (d6 _ (C93 a6));rw[←ht]at b4;have f6:(x:Int)<d.length:=by omega
   have d8: ∀y∈a.t.take j,y.v≠t.v:=fun y hy g=>by
    obtain⟨q,hq,rfl⟩:=List.getElem_of_mem hy;rw[D0X]at hq;have:=List.pairwise_iff_getElem.1 (B1S ok.t) q j (by omega) a6 (by omega);rw[List.getElem_take]at g;rw[←ht,g,j9]at this;cases this
   obtain⟨z,hz⟩: ∃z,z=t.c:=⟨_,rfl⟩
   have ts:a.t.take (j+1)=a.t.take j++[t]:=by rw[C98 a6,ht]
   have J:=B6Y d (a.t.take j) t x hx b4 e9 d8;rw[←ts,←hz]at J;have e0:=B6X d (a.t.take j) x hx (fun y hy=>by rw[b4];exact d8 y hy);have f7:=B0L d (a.t.take j);rw[←hz]at tc;have f8:t.c=z:=hz.symm;repeat' (first|with_reducible apply C9p|simp only[go_sem,seval,G,f5,A9 _ _ a6,C1 _ _ a6,←ht,f8]|simp(disch:=first|omega|grind) only[B9]|(intro m;try simp only[A6]at m)|omega)
   rename_i a9;have b6:=m;clear m;have j1:=b6.1;have j2:=b6.2.1;have j3:W≠a9:=fun g=>by have:=b6.2.2;rw[←g,c3]at this;cases this
   have p9:b9∈[b9,a9]:=by simp
   have f9:a9∈[b9,a9]:=by simp
   repeat' (first|simp only[go_sem,seval,A3 _ j3,A3 _ k3.2,A3 _ k3.1,c3]|with_reducible refine B35 d d4 t.v x hx b4 (by omega) _ ?_)
   refine F5 (fun i'=>if i'=5 then .agg (C3 z)else .undef) [b9,a9] ?_;repeat' (first|with_reducible apply C9p|simp only[go_sem,seval,p9,f9,f6,f7,e0.1,e0.2]|simp(disch:=omega) only[A4,A9]|simp(disch:=first|omega|grind) only[B9]|with_reducible refine R0 (fun H' Q hro hq=>l6 z (by omega) (by omega) H' hq) ?_|omega)
   have c2:(Z5 d (a.t.take j)).set x ((zB.set 0 (D.bool (decide (z<0)))).set 1 (D.sl 1 (Rw F1 (B4 z.natAbs))))=Z5 d (a.t.take (j+1)):=J;refine C2 (j+1) (by omega) (by omega) (by(try simp only[go_sem,seval])<;>(try simp(disch:=omega) [A4])) ?_;rw[←c2];intro q o hq;have g0:q≠a9:=fun g=>by rw[g,A3 _ j1,A3 _ j2,b6.2.2]at hq;cases hq
   by_cases g:q=bv
   ·subst g;rw[A3 _ nb.symm,A2]at hq;rw[A2];exact hq
   ·rw[A3 _ g,A3 _ g0];by_cases e4:q=b9
    ·subst e4;rw[A2]at hq⊢;exact hq
    ·rw[A3 _ e4,A3 _ g]at hq⊢;exact hq
  ·have G:decide ((j:Int)<a.t.length)=false:=C9s (by omega);have g2:j=a.t.length:=by omega
   subst g2;rw[List.take_length];repeat' (first|simp only[go_sem,seval,G]|(intro m;try simp only[A6]at m))
   rename_i bx;have L:=m;clear m;have g4:Bs bv=none:=(A.le.trans I).none hv;have q1:(Bs.set bv (.vec 2 (Z5 d a.t))).Le ((B8.set bv (.vec 2 (Z5 d a.t))).set b9 (.box [.vec bv 2 0 d.length,.bool (decide (k<0)),.sl 1 (Rw F1 (B4 k.natAbs)),.bool a.e])):=by
    intro q o hq;by_cases g:q=bv
    ·subst g;rw[A3 _ nb.symm,A2];rw[A2]at hq;exact hq
    ·rw[A3 _ g]at hq;have u:=I _ _ (A.le _ _ hq);have g9:q≠b9:=fun g=>by rw[g,h9.2]at u;cases u
     rw[A3 _ g9,A3 _ g];exact u
   have q2:Hp.Le ((B8.set bv (.vec 2 (Z5 d a.t))).set b9 (.box [.vec bv 2 0 d.length,.bool (decide (k<0)),.sl 1 (Rw F1 (B4 k.natAbs)),.bool a.e])):=by
    intro q o hq;have u:=I _ _ hq;have g:q≠bv:=fun g=>by rw[g,hv]at u;cases u
    have g9:q≠b9:=fun g=>by rw[g,h9.2]at u;cases u
    rw[A3 _ g9,A3 _ g];exact u
   have O:=A.base q1 q2 (fun b b0 b1=>by rw[A3 _ (fun g=>b0 (by rw[g];exact I.none hv))];exact b1);refine O3.ap O (e1':=Rw zrC ((l.take i).map (zrV d))++[[.vec bv 2 0 d.length,.bool (decide (k<0)),.sl 1 (Rw F1 (B4 k.natAbs)),.bool a.e]]) (D1G _) (by simp only[A6];exact L) (by simp) (by rw[D6,fl]) (by simp only[C9u,C9w];omega) (by simp only[C9u,C9w];omega) rfl fun T H' X=>?_;clear O q1 q2 L;repeat' (first|simp only[go_sem,seval]|simp(disch:=omega) only[A4,A9])
   have C:=X.n1 _ rfl;have U:bv≠T:=fun g=>by rw[←g,A2]at C;cases C
   have eX:Rw zrC ((l.take (i+1)).map (zrV d))=Rw zrC ((l.take i).map (zrV d))++[.sl 2 (Z5 d a.t)::[.bool (decide (k<0)),.sl 1 (Rw F1 (B4 k.natAbs)),.bool a.e]]:=by rw[fs,←O2,hk];rfl
   refine B5S (i+1,some T) ⟨by simp only[];omega,by simp,fun b e=>?_⟩ (by simp only[];omega) ?_
   ·have:=X.n1 _ e;rw[A3 _ (by cases e;exact U.symm)]at this;exact this
   ·show A1D _ (Bs.set T (.vec 4 (Rw zrC ((l.take (i+1)).map (zrV d))))) _ _;rw[eX];refine A0p (by(try simp only[go_sem,seval,K3])<;>(try simp(disch:=omega) [A4])) (by rw[B0L]) X.a1 (X.le _ _ (A2 _ _)) U (fun q o hq ho=>?_);have V:q≠bv:=fun g=>by rw[g,g4]at ho;cases ho
    exact⟨V,X.le q o (by rw[A3 _ V];exact ho)⟩
 ·have c1:decide ((i:Int)<l.length)=false:=C9s (by omega);have c4:i=l.length:=by omega
  rw[C94 (by omega),←B6f]at A;have g5:i=(zrR d l 0).length:=by rw[B24];omega
  have c3:=A.le _ _ e3;rw[g5];repeat' simp only[go_sem,seval,C9s (show¬(((zrR d l 0).length:Nat):Int)<l.length by omega),c3]
  clear c1 c0 ho hi a5 fl c4;refine C9 [6,61] (fun(p:Nat×Option Nat×Heap)=>[(62,.int .i64 p.1),(5,J1 4 (zrR d l p.1).length p.2.1)]) (fun(p:Nat×Option Nat×Heap)=>p.2.2) (fun(p:Nat×Option Nat×Heap)=>p.1≤d.length∧O3 Bs p.2.2 4 (Rw zrC (zrR d l p.1)) [] [] p.2.1 none none) (fun(p:Nat×Option Nat×Heap)=>d.length-p.1) ((0,o1,Hp)) (⟨D0A _,A⟩) (by(try simp only[go_sem,seval])<;>(try simp(disch:=omega) [A4])) (by first|exact D1G _|exact A0 (by assumption)|exact B2 (by assumption)|simp only[Heap.Le,Heap.set,Heap.del]at* <;>grind) ?_;clear A c3;obtain⟨M,hM⟩: ∃M:Int,M=2147483647:=⟨_,rfl⟩
  have wm: ∀(H:Heap) (Q:D→Heap→Prop),Q (.agg (C3 M)) H→D7 228 [.int .i64 2147483647] H Q:=fun H Q hq=>l6 2147483647 (by omega) (by omega) H (by rw[←hM];exact hq);rintro Ec rfl ⟨i,o1,Hp⟩ ⟨hi,A⟩;simp only at hi A;by_cases hit:i<d.length
  ·have G:decide ((i:Int)<d.length)=true:=C9r (by omega);have e6:(i:Int)<d.length:=by omega
   repeat' (first|simp only[go_sem,seval,G]|(intro m;try simp only[A6]at m))
   rename_i bs;have e7:=m;clear m;have g3:=A.grow e7 (.vec 1 [[.int .i64 1],[.int .i64 (-1)]]);have es:(Bs.set bs (.vec 1 [[.int .i64 1],[.int .i64 (-1)]])) bs=some (.vec 1 [[.int .i64 1],[.int .i64 (-1)]]):=A2 _ _;have c5:Bs.Le (Bs.set bs (.vec 1 [[.int .i64 1],[.int .i64 (-1)]])):=A0 (A.le.none e7);generalize Hp.set bs (.vec 1 [[.int .i64 1],[.int .i64 (-1)]])=Hq at g3⊢;generalize Bs.set bs (.vec 1 [[.int .i64 1],[.int .i64 (-1)]])=B1 at g3 es c5;rw[←B6d]at g3⊢;refine C9 [6,14,61,62,65,66] (fun(p:Nat×Option Nat×Heap)=>[(67,.int .i64 p.1),(5,J1 4 (zrJ d l i p.1).length p.2.1)]) (fun(p:Nat×Option Nat×Heap)=>p.2.2) (fun(p:Nat×Option Nat×Heap)=>p.1≤2∧O3 B1 p.2.2 4 (Rw zrC (zrJ d l i p.1)) [] [] p.2.1 none none) (fun(p:Nat×Option Nat×Heap)=>2-p.1) ((0,o1,Hq)) (⟨D0A _,g3⟩) (by(try simp only[go_sem,seval])<;>(try simp(disch:=omega) [A4])) (by first|exact D1G _|exact A0 (by assumption)|exact B2 (by assumption)|simp only[Heap.Le,Heap.set,Heap.del]at* <;>grind) ?_;clear g3 A;rintro Ec rfl ⟨j,o1,Hp⟩ ⟨hj,A⟩;simp only at hj A;have d3:=A.le _ _ (c5 _ _ e3);have ds:=A.le _ _ es
   match j,hj with
   |0,_=>
    have k3:decide (((0:Nat):Int)<((2:Nat):Int))=true:=by decide
    have g1:=B9H d l i;have gl:=A5D d l i 0 (by omega);have c6:=A5D d l i (1) (by omega);obtain⟨s,hs⟩: ∃s:Int,s=1:=⟨1,rfl⟩
    have ws: ∀(H:Heap) (Q:D→Heap→Prop),Q (.agg (C3 s)) H→D7 228 [.int .i64 (1)] H Q:=fun H Q hq=>l6 (1) (by omega) (by omega) H (by rw[←hs];exact hq);repeat' (first|with_reducible apply C9p|simp only[go_sem,seval,k3,ds,d3,D0O,D0P]|(intro m;try simp only[A6]at m)|with_reducible refine A8W W d hn _ d3 ?_|with_reducible refine wm _ _ ?_|omega)
    rename_i v hv r;have a0:=m;clear m;have nb:r≠v:=a0.1;have c7:r∈[r]:=by simp
    have a4:(List.replicate d.length zB)[i]? =some zB∧(List.replicate d.length zB).getD i []=zB:=by
     have:(List.replicate d.length zB)[i]? =some zB:=by simp[hit]
     exact⟨this,by rw[List.getD_eq_getElem?_getD,this];rfl⟩
    have b2:(List.replicate d.length zB).length=d.length:=List.length_replicate;refine F5 (fun i'=>if i'=4 then .agg (C3 s)else .undef) [r] ?_;obtain⟨Z,hZ⟩: ∃Z,Z=List.replicate d.length zB:=⟨_,rfl⟩
    rw[←hZ]at a4 b2⊢;repeat' (first|with_reducible apply C9p|simp only[go_sem,seval,c7,e6,b2,a4.1,a4.2]|simp(disch:=first|omega|grind) only[B9]|(intro m;try simp only[A6]at m)|with_reducible refine R0 (fun H' Q hro hq=>ws H' Q hq) ?_|omega)
    rename_i bx;have L:=m;clear m;have J:Z.set i ((zB.set 0 (D.bool (decide (s<0)))).set 1 (D.sl 1 (Rw F1 (B4 s.natAbs))))=(List.replicate d.length zB).set i (C3 s):=by rw[hZ];rfl
    rw[J];obtain⟨Y,hY⟩: ∃Y,Y=(List.replicate d.length zB).set i (C3 s):=⟨_,rfl⟩
    rw[←hY];have c9:Y.length=d.length:=by rw[hY,D0m,List.length_replicate]
    have d0:B1 v=none:=A.le.none hv;have q1:(B1.set v (.vec 2 Y)).Le (((Hp.set v (.vec 2 Z)).set r (.box [.vec v 2 0 d.length,.bool (decide (M<0)),.sl 1 (Rw F1 (B4 M.natAbs)),.bool false])).set v (.vec 2 Y)):=by
     intro q o hq;by_cases g:q=v
     ·subst g;rw[A2]at hq⊢;exact hq
     ·rw[A3 _ g]at hq;have u:=A.le _ _ hq;have g9:q≠r:=fun g=>by rw[g,a0.2]at u;cases u
      rw[A3 _ g,A3 _ g9,A3 _ g];exact u
    have q2:Hp.Le (((Hp.set v (.vec 2 Z)).set r (.box [.vec v 2 0 d.length,.bool (decide (M<0)),.sl 1 (Rw F1 (B4 M.natAbs)),.bool false])).set v (.vec 2 Y)):=by
     intro q o u;have g:q≠v:=fun g=>by rw[g,hv]at u;cases u
     have g9:q≠r:=fun g=>by rw[g,a0.2]at u;cases u
     rw[A3 _ g,A3 _ g9,A3 _ g];exact u
    have O:=A.base q1 q2 (fun b b0 b1=>by rw[A3 _ (fun g=>b0 (by rw[g];exact hv))];exact b1);refine O3.ap O (e1':=Rw zrC (zrJ d l i 0)++[[.vec v 2 0 d.length,.bool (decide (M<0)),.sl 1 (Rw F1 (B4 M.natAbs)),.bool false]]) (D1G _) (by simp only[A6];simp only[L,ne_eq,not_false_eq_true,and_self]) (by simp) (by rw[D6]) (by simp only[C9u,C9w];omega) (by simp only[C9u,C9w];omega) rfl fun T H' X=>?_;clear O q1 q2 L;repeat' (first|simp only[go_sem,seval]|simp(disch:=omega) only[A4,A9])
    have C:=X.n1 _ rfl;have U:v≠T:=fun g=>by rw[←g,A2]at C;cases C
    have d2:B1 T=none:=by rw[A3 _ U.symm]at C;exact C
    have eX:Rw zrC (zrJ d l i 1)=Rw zrC (zrJ d l i 0)++[.sl 2 Y::[.bool (decide (M<0)),.sl 1 (Rw F1 (B4 M.natAbs)),.bool false]]:=by rw[g1,←O2,hY,hM,hs];rfl
    refine B5S (1,some T,B1.set T (.vec 4 (Rw zrC (zrJ d l i 1)))) ⟨by simp only[];omega,O3.put (H:=B1) (ob:=some T) (by simp) (fun b e=>by cases e;exact d2)⟩ (by simp only[];omega) ?_;show A1D _ (B1.set T (.vec 4 (Rw zrC (zrJ d l i 1)))) _ _;rw[eX];refine A0p (by(try simp only[go_sem,seval,K3,gl,c6])<;>(try simp(disch:=omega) [A4])) c9.symm X.a1 (X.le _ _ (A2 _ _)) U (fun q o hq ho=>?_);have V:q≠v:=fun g=>by rw[g,d0]at ho;cases ho
    exact⟨V,X.le q o (by rw[A3 _ V];exact ho)⟩
   |1,_=>
    have k3:decide (((1:Nat):Int)<((2:Nat):Int))=true:=by decide
    have g1:=B6e d l i;have gl:=A5D d l i 1 (by omega);have c6:=A5D d l i (2) (by omega);obtain⟨s,hs⟩: ∃s:Int,s= -1:=⟨-1,rfl⟩
    have ws: ∀(H:Heap) (Q:D→Heap→Prop),Q (.agg (C3 s)) H→D7 228 [.int .i64 (-1)] H Q:=fun H Q hq=>l6 (-1) (by omega) (by omega) H (by rw[←hs];exact hq);repeat' (first|with_reducible apply C9p|simp only[go_sem,seval,k3,ds,d3,D0O,D0P]|(intro m;try simp only[A6]at m)|with_reducible refine A8W W d hn _ d3 ?_|with_reducible refine wm _ _ ?_|omega)
    rename_i v hv r;have a0:=m;clear m;have nb:r≠v:=a0.1;have c7:r∈[r]:=by simp
    have a4:(List.replicate d.length zB)[i]? =some zB∧(List.replicate d.length zB).getD i []=zB:=by
     have:(List.replicate d.length zB)[i]? =some zB:=by simp[hit]
     exact⟨this,by rw[List.getD_eq_getElem?_getD,this];rfl⟩
    have b2:(List.replicate d.length zB).length=d.length:=List.length_replicate;refine F5 (fun i'=>if i'=4 then .agg (C3 s)else .undef) [r] ?_;obtain⟨Z,hZ⟩: ∃Z,Z=List.replicate d.length zB:=⟨_,rfl⟩
    rw[←hZ]at a4 b2⊢;repeat' (first|with_reducible apply C9p|simp only[go_sem,seval,c7,e6,b2,a4.1,a4.2]|simp(disch:=first|omega|grind) only[B9]|(intro m;try simp only[A6]at m)|with_reducible refine R0 (fun H' Q hro hq=>ws H' Q hq) ?_|omega)
    rename_i bx;have L:=m;clear m;have J:Z.set i ((zB.set 0 (D.bool (decide (s<0)))).set 1 (D.sl 1 (Rw F1 (B4 s.natAbs))))=(List.replicate d.length zB).set i (C3 s):=by rw[hZ];rfl
    rw[J];obtain⟨Y,hY⟩: ∃Y,Y=(List.replicate d.length zB).set i (C3 s):=⟨_,rfl⟩
    rw[←hY];have c9:Y.length=d.length:=by rw[hY,D0m,List.length_replicate]
    have d0:B1 v=none:=A.le.none hv;have q1:(B1.set v (.vec 2 Y)).Le (((Hp.set v (.vec 2 Z)).set r (.box [.vec v 2 0 d.length,.bool (decide (M<0)),.sl 1 (Rw F1 (B4 M.natAbs)),.bool false])).set v (.vec 2 Y)):=by
     intro q o hq;by_cases g:q=v
     ·subst g;rw[A2]at hq⊢;exact hq
     ·rw[A3 _ g]at hq;have u:=A.le _ _ hq;have g9:q≠r:=fun g=>by rw[g,a0.2]at u;cases u
      rw[A3 _ g,A3 _ g9,A3 _ g];exact u
    have q2:Hp.Le (((Hp.set v (.vec 2 Z)).set r (.box [.vec v 2 0 d.length,.bool (decide (M<0)),.sl 1 (Rw F1 (B4 M.natAbs)),.bool false])).set v (.vec 2 Y)):=by
     intro q o u;have g:q≠v:=fun g=>by rw[g,hv]at u;cases u
     have g9:q≠r:=fun g=>by rw[g,a0.2]at u;cases u
     rw[A3 _ g,A3 _ g9,A3 _ g];exact u
    have O:=A.base q1 q2 (fun b b0 b1=>by rw[A3 _ (fun g=>b0 (by rw[g];exact hv))];exact b1);refine O3.ap O (e1':=Rw zrC (zrJ d l i 1)++[[.vec v 2 0 d.length,.bool (decide (M<0)),.sl 1 (Rw F1 (B4 M.natAbs)),.bool false]]) (D1G _) (by simp only[A6];simp only[L,ne_eq,not_false_eq_true,and_self]) (by simp) (by rw[D6]) (by simp only[C9u,C9w];omega) (by simp only[C9u,C9w];omega) rfl fun T H' X=>?_;clear O q1 q2 L;repeat' (first|simp only[go_sem,seval]|simp(disch:=omega) only[A4,A9])
    have C:=X.n1 _ rfl;have U:v≠T:=fun g=>by rw[←g,A2]at C;cases C
    have d2:B1 T=none:=by rw[A3 _ U.symm]at C;exact C
    have eX:Rw zrC (zrJ d l i 2)=Rw zrC (zrJ d l i 1)++[.sl 2 Y::[.bool (decide (M<0)),.sl 1 (Rw F1 (B4 M.natAbs)),.bool false]]:=by rw[g1,←O2,hY,hM,hs];rfl
    refine B5S (2,some T,B1.set T (.vec 4 (Rw zrC (zrJ d l i 2)))) ⟨by simp only[];omega,O3.put (H:=B1) (ob:=some T) (by simp) (fun b e=>by cases e;exact d2)⟩ (by simp only[];omega) ?_;show A1D _ (B1.set T (.vec 4 (Rw zrC (zrJ d l i 2)))) _ _;rw[eX];refine A0p (by(try simp only[go_sem,seval,K3,gl,c6])<;>(try simp(disch:=omega) [A4])) c9.symm X.a1 (X.le _ _ (A2 _ _)) U (fun q o hq ho=>?_);have V:q≠v:=fun g=>by rw[g,d0]at ho;cases ho
    exact⟨V,X.le q o (by rw[A3 _ V];exact ho)⟩
   |2,_=>
    rw[B23]at A;repeat' (first|with_reducible apply C9p|simp only[go_sem,seval,B23]|simp(disch:=omega) only[A4,A9]|(intro m;try simp only[A6]at m)|omega)
    refine C2 (i+1,o1,Hp) ⟨by simp only[];omega,A.less c5⟩ (by simp only[];omega) (by(try simp only[go_sem,seval])<;>(try simp(disch:=omega) [A4])) (D1G _)
   |j+3,hj=>omega
  ·have G:decide ((i:Int)<d.length)=false:=C9s (by omega);have c4:i=d.length:=by omega
   subst c4;repeat' simp only[go_sem,seval,G]
   refine Fin.out (by rw[D6]) A.a1 (E3 (B38 _ (C2z d l _ (C99 _))) ?_);rw[B6c];exact D1H (b7.trans (O3.one A)) h
open Go Go.Av Go.Lin
set_option maxHeartbeats 4000000 in
theorem B9I{Q}(l:List Row)(n:Nat)(hlen:l.length≤1000000)(hn:n≤1000000)(hP: ∀r∈l,A4I n 18446744073709551616 r)(H:Heap)(h:Q (B0S (y8 [] (pairs1 l))) H):D7 250 [.sl 4 (Rw C4 l)] H Q:=by
 refine A8 [(10,.par),(11,.par),(23,.par),(24,.par)] A5 Tryz.func250 rfl ?_;simp only[go_sem,seval,Tryz.results250];have z0:D.nilsl=J1 4 (pairs1 (l.take 0)).length none:=rfl;repeat' (first|with_reducible apply C9p|simp only[go_sem,seval]|simp(disch:=omega) only[A4,A9]|intro L|omega)
 refine C9 [13,14] (fun(p:Nat×Option Nat×Heap)=>[(15,.int .i64 p.1),(4,J1 4 (pairs1 (l.take p.1)).length p.2.1)]) (fun(p:Nat×Option Nat×Heap)=>p.2.2) (fun(p:Nat×Option Nat×Heap)=>p.1≤l.length∧O3 H p.2.2 4 (Rw C4 (pairs1 (l.take p.1))) [] [] p.2.1 none none) (fun(p:Nat×Option Nat×Heap)=>l.length-p.1) ((0,none,H)) (⟨D0A _,O3.nil H 4⟩) (by(try simp only[go_sem,seval])<;>(try simp(disch:=omega) [A4])) (by first|exact D1G _|exact A0 (by assumption)|exact B2 (by assumption)|simp only[Heap.Le,Heap.set,Heap.del]at* <;>grind) ?_;rintro Ec rfl ⟨i,o1,Hp⟩ ⟨hi,x⟩;simp only at hi x;have hz:o1=none→(pairs1 (l.take i)).length=0:=fun e=>by
  have:=x.a1;rw[e]at this;have this:Rw C4 (pairs1 (l.take i))= []:=this;rw[←D6 (f:=C4),this];rfl
 have ol:(pairs1 (l.take i)).length≤1000000:=by have:=A57 (l.take i) [];simp at this;unfold pairs1;omega
 have oP: ∀s∈pairs1 (l.take i),A4I n 18446744073709551616 s:=B0Q _ _ (fun s hs=>hP s (List.mem_of_mem_take hs)) (by simp);by_cases a0:i<l.length
 ·have a5:decide ((i:Int)<l.length)=true:=C9r (by omega);have c6:(i:Int)<l.length:=by omega
  have ps:=B0P l i a0;have hr:=hP _ (C93 a0);generalize pairs1 (l.take i)=out at x hz ol oP ps⊢;obtain⟨r,b2⟩: ∃r,r=l[i]:=⟨_,rfl⟩
  rw[←b2]at ps hr;repeat' (first|with_reducible apply C9p|simp only[go_sem,seval,a5,A9 _ _ a0,C1 _ _ a0,←b2,B2Y hz]|intro L|omega)
  rename_i b6;have h6:=L;clear L;have e6:(Hp.set b6 (.box (C4 r))) b6=some (.box (C4 r)):=A2 _ _;have C:Hp.Le (Hp.set b6 (.box (C4 r))):=A0 h6;generalize Hp.set b6 (.box (C4 r))=Hq at e6 C⊢;refine C9 [4,6,13,14,15,20] (fun(j:Nat)=>[(21,.int .i64 j)]) (fun(j:Nat)=>Hq) (fun(j:Nat)=>j≤out.length∧∀(k:Nat) (hk:k<out.length),k<j→¬hit r out[k]) (fun(j:Nat)=>out.length-j) (0) (⟨D0A _,fun _ _ h=>absurd h (Nat.not_lt_zero _)⟩) (by(try simp only[go_sem,seval])<;>(try simp(disch:=omega) [A4])) (by first|exact D1G _|exact A0 (by assumption)|exact B2 (by assumption)|simp only[Heap.Le,Heap.set,Heap.del]at* <;>grind) ?_;rintro Ec rfl j ⟨hj,U⟩;by_cases q:j<out.length
  ·have G:decide ((j:Int)<out.length)=true:=C9r (by omega);have V:(j:Int)<out.length:=by omega
   obtain⟨c,rfl⟩: ∃c,o1=some c:=by
    cases o1 with
    |none=>have:=hz rfl;omega
    |some c=>exact⟨c,rfl⟩
   have O:Hq c=some (.vec 4 (Rw C4 out)):=C _ _ x.a1;have hs:=oP _ (C93 q);have step: ¬hit r out[j]→∀(k:Nat) (hk:k<out.length),k<j+1→¬hit r out[k]:=fun g k hk c7=>by
    by_cases e:k=j
    ·subst e;exact g
    ·exact U k hk (by omega)
   have a6: ¬hit r out[j]→(j+1≤out.length∧∀(k:Nat) (hk:k<out.length),k<j+1→¬hit r out[k]):=fun g=>⟨by omega,step g⟩
   have m6:b6∈[b6,c]:=by simp
   have W:c∈[b6,c]:=by simp
   cases u:r.eq with
   |true=>
    repeat' (first|with_reducible apply C9p|simp only[go_sem,seval,G,e6,O,u]|simp(disch:=omega) only[A4,A9]|omega)
    exact C2 (j+1) (a6 (fun g=>by have:=g.1;rw[u]at this;cases this)) (by omega) (by(try simp only[go_sem,seval])<;>(try simp(disch:=omega) [A4])) (D1G _)
   |false=>
    cases y:out[j].eq with
    |true=>
     repeat' (first|with_reducible apply C9p|simp only[go_sem,seval,G,e6,O,u,V,A9 _ _ q,C1 _ _ q,y]|simp(disch:=omega) only[A4,A9]|omega)
     exact C2 (j+1) (a6 (fun g=>by have:=g.2.1;rw[y]at this;cases this)) (by omega) (by(try simp only[go_sem,seval])<;>(try simp(disch:=omega) [A4])) (D1G _)
    |false=>
     repeat' (first|with_reducible apply C9p|simp only[go_sem,seval,G,e6,O,u,V,A9 _ _ q,C1 _ _ q,y]|omega)
     refine F5 (fun A=>if A=4 then .bool (A39 r out[j] 1)else .undef) [b6,c] ?_;cases ho:A39 r out[j] 1 with
     |false=>
      repeat' (first|simp only[go_sem,seval,e6,O,m6,W,V,A9 _ _ q,C1 _ _ q]|simp(disch:=omega) only[A4,A9]|with_reducible refine R0 (fun H' Q hro hq=>A2t r out[j] 1 (.inl rfl) (by rw[hr.1,hs.1]) (by rw[hr.1];exact hn) hr.2 hs.2 H' (by rw[ho];exact hq)) ?_)
      exact C2 (j+1) (a6 (fun g=>by have:=g.2.2;rw[ho]at this;cases this)) (by omega) (by(try simp only[go_sem,seval])<;>(try simp(disch:=omega) [A4])) (D1G _)
     |true=>
      have hh:hit r out[j]:=⟨u,y,ho⟩
      have ph:=B0N r out j q U hh;have sk:=hr.2.1;have b8:=hs.2.1;have s1:Sz r.k:=G7 (by omega);have s2:Sz out[j].k:=G7 (by omega);repeat' (first|simp only[go_sem,seval,e6,O,m6,W,V,A9 _ _ q,C1 _ _ q]|with_reducible refine R0 (fun H' Q hro hq=>A2t r out[j] 1 (.inl rfl) (by rw[hr.1,hs.1]) (by rw[hr.1];exact hn) hr.2 hs.2 H' (by rw[ho];exact hq)) ?_)
      refine F5 (fun A=>if A=6 then .bool (decide (r.k<out[j].k))else .undef) [b6,c] ?_;repeat' (first|with_reducible apply C9p|simp only[go_sem,seval,e6,O,m6,W,V,A9 _ _ q,C1 _ _ q]|simp(disch:=omega) only[A4,A9]|intro L|with_reducible refine R0 (fun H' Q hro hq=>B2j r.k out[j].k s1 s2 H' hq) ?_|omega)
      ·have hk:r.k<out[j].k:=by assumption
       rw[if_pos hk]at ph;have e:pairs1 (l.take (i+1))=out.set j {out[j]with k:=r.k}:=by rw[ps,ph]
       have el:(pairs1 (l.take (i+1))).length=out.length:=by rw[e,D0m]
       refine C2 (i+1,some c,Hq.set c (.vec 4 (Rw C4 (pairs1 (l.take (i+1)))))) ⟨by simp only[];omega,x.set1 C⟩ (by simp only[];omega) (by(try simp only[go_sem,seval,el,K3])<;>(try simp(disch:=omega) [A4])) ?_;simp only[];rw[e,←X7 out j {out[j]with k:=r.k} _ rfl];exact D1G _
      ·have hk: ¬r.k<out[j].k:=by omega
       rw[if_neg hk]at ph;have e:pairs1 (l.take (i+1))=out:=by rw[ps,ph]
       refine C2 (i+1,some c,Hp) ⟨by simp only[];omega,by simp only[e];exact x⟩ (by simp only[];omega) (by(try simp only[go_sem,seval,e,K3])<;>(try simp(disch:=omega) [A4])) C
  ·have G:decide ((j:Int)<out.length)=false:=C9s (by omega);have e:pairs1 (l.take (i+1))=out++[r]:=by rw[ps,A7R r out (fun k hk=>U k hk (by omega))]
   have el:(pairs1 (l.take (i+1))).length=out.length+1:=by rw[e];simp
   repeat' (first|simp only[go_sem,seval,G,e6]|intro L)
   rename_i bx;have b9:=L;clear L;refine O3.ap x (e1':=Rw C4 (pairs1 (l.take (i+1)))) C b9 (by simp) (by rw[D6]) (by simp only[C9u,C9w];omega) (by simp only[C9u,C9w];omega) (by rw[e,←O2];rfl) fun b' H' h4=>?_;repeat' (first|simp only[go_sem,seval]|simp(disch:=omega) only[A4,A9])
   refine C2 (i+1,some b',H') ⟨by simp only[];omega,h4⟩ (by simp only[];omega) (by(try simp only[go_sem,seval,K3,el])<;>(try simp(disch:=omega) [A4])) (D1G _)
 ·have a5:decide ((i:Int)<l.length)=false:=C9s (by omega);rw[C94 (by omega)]at x hz ol oP;have e1:l.take i=l:=C94 (by omega);rw[e1]at*;have c8:(pairs1 l).length≤1000000:=ol;generalize pairs1 l=m at*;repeat' simp only[go_sem,seval,a5,B2Y hz]
  refine C9 [4,59] (fun(p:Nat×List Row×Heap)=>[(60,.int .i64 p.1)]) (fun(p:Nat×List Row×Heap)=>p.2.2) (fun(p:Nat×List Row×Heap)=>p.1≤m.length∧p.2.1.length=m.length∧p.2.1.drop p.1=m.drop p.1∧y8 [] m=y8 (p.2.1.take p.1) (m.drop p.1)∧(∀s∈p.2.1,A4I n 18446744073709551616 s)∧O3 H p.2.2 4 (Rw C4 p.2.1) [] [] o1 none none) (fun(p:Nat×List Row×Heap)=>m.length-p.1) ((0,m,Hp)) (⟨D0A _,rfl,rfl,rfl,oP,x⟩) (by(try simp only[go_sem,seval])<;>(try simp(disch:=omega) [A4])) (by first|exact D1G _|exact A0 (by assumption)|exact B2 (by assumption)|simp only[Heap.Le,Heap.set,Heap.del]at* <;>grind) ?_;clear x oP;rintro Ec rfl ⟨i,X,Hp⟩ ⟨c0,T,a9,z,a4,x⟩;simp only at c0 T a9 z a4 x;by_cases hit:i<m.length
  ·have Y:decide ((i:Int)<m.length)=true:=C9r (by omega);have c9:(i:Int)<m.length:=by omega
   obtain⟨c,rfl⟩: ∃c,o1=some c:=by
    cases o1 with
    |none=>have:=hz rfl;omega
    |some c=>exact⟨c,rfl⟩
   have b0:i<X.length:=by omega
   have c1:m[i]=X[i]:=by
    have h1:=D0K b0;have h2:=D0K hit;rw[a9,h2]at h1;exact(List.cons.inj h1).1
   rw[D0K hit,B0R,c1]at z;repeat' simp only[go_sem,seval,Y]
   refine C9 [4,9,59,60,63] (fun(p:Nat×Row×Heap)=>[(64,.int .i64 p.1)]) (fun(p:Nat×Row×Heap)=>p.2.2) (fun(p:Nat×Row×Heap)=>p.1≤i∧A4I n 18446744073709551616 p.2.1∧A4u X[i] (X.take i)=A4u p.2.1 ((X.take i).drop p.1)∧O3 H p.2.2 4 (Rw C4 (X.set i p.2.1)) [] [] (some c) none none) (fun(p:Nat×Row×Heap)=>i-p.1) ((0,X[i],Hp)) (⟨D0A _,a4 _ (C93 b0),rfl,by rw[List.set_getElem_self];exact x⟩) (by(try simp only[go_sem,seval])<;>(try simp(disch:=omega) [A4])) (by first|exact D1G _|exact A0 (by assumption)|exact B2 (by assumption)|simp only[Heap.Le,Heap.set,Heap.del]at* <;>grind) ?_;clear x;rintro Ec rfl ⟨j,r,Hp⟩ ⟨hj,hr,hm,x⟩;simp only at hj hr hm x;by_cases q:j<i
   ·have I:decide ((j:Int)<i)=true:=C9r (by omega);have c2:j<X.length:=by omega
    have hs:=a4 _ (C93 c2);obtain⟨s,b1⟩: ∃s,s=X[j]:=⟨_,rfl⟩
    rw[←b1]at hs;have dj:(X.take i).drop j=s::(X.take i).drop (j+1):=by
     rw[D0K (by rw[D0X];omega),List.getElem_take,b1]
    rw[dj,B4B]at hm;have yi:(X.set i r).length=X.length:=D0m ..;have b3:i<(X.set i r).length:=by omega
    have b4:j<(X.set i r).length:=by omega
    have gi:(X.set i r)[i]=r:=List.getElem_set_self ..;have gj:(X.set i r)[j]=s:=by rw[List.getElem_set_ne (by omega),b1]
    have d:(i:Int)<X.length:=by omega
    have o:(j:Int)<X.length:=by omega
    have O:Hp c=some (.vec 4 (Rw C4 (X.set i r))):=x.a1;have ri:=A9 (f:=C4) (X.set i r) i b3;have J:=C1 (f:=C4) (X.set i r) i b3;have rj:=A9 (f:=C4) (X.set i r) j b4;have M:=C1 (f:=C4) (X.set i r) j b4;rw[gi]at ri J;rw[gj]at rj M;have W:c∈[c]:=by simp
    cases u:r.eq with
    |true=>
     rw[if_pos (.inl u)]at hm;repeat' (first|with_reducible apply C9p|simp only[go_sem,seval,I,d,o,←T]|omega)
     refine F5 (fun A=>.undef) [c] ?_;repeat' (first|simp only[go_sem,seval,O,W,ri,J,u,yi,d]|simp(disch:=omega) only[A4,A9])
     exact C2 (j+1,r,Hp) ⟨by simp only[];omega,hr,hm,x⟩ (by simp only[];omega) (by(try simp only[go_sem,seval])<;>(try simp(disch:=omega) [A4])) (D1G _)
    |false=>
     cases y:s.eq with
     |true=>
      rw[if_pos (.inr (.inl y))]at hm;repeat' (first|with_reducible apply C9p|simp only[go_sem,seval,I,d,o,←T]|omega)
      refine F5 (fun A=>.undef) [c] ?_;repeat' (first|simp only[go_sem,seval,O,W,ri,J,rj,M,u,y,yi,d,o]|simp(disch:=omega) only[A4,A9])
      exact C2 (j+1,r,Hp) ⟨by simp only[];omega,hr,hm,x⟩ (by simp only[];omega) (by(try simp only[go_sem,seval])<;>(try simp(disch:=omega) [A4])) (D1G _)
     |false=>
      have c3:r.c.length=s.c.length:=by rw[hr.1,hs.1]
      have c4:r.c.length≤1000000:=by rw[hr.1];exact hn
      have b7: ∀(b:Bool),A39 r s (-1)=b→∀(H':Heap) (Q:D→Heap→Prop),Q (.bool b) H'→D7 281 [.agg [.sl 2 (Rw C3 r.c),.bool (decide (r.k<0)),.sl 1 (Rw F1 (B4 r.k.natAbs)),.bool false],.agg [.sl 2 (Rw C3 s.c),.bool (decide (s.k<0)),.sl 1 (Rw F1 (B4 s.k.natAbs)),.bool false],.int .i64 (-1)] H' Q:=fun b hb H' Q hq=>by
       have h0:=A2t (Q:=Q) r s (-1) (.inr rfl) c3 c4 hr.2 hs.2 H' (by rw[hb];exact hq);rw[B5s,B5s,u,y]at h0;exact h0
      repeat' (first|with_reducible apply C9p|simp only[go_sem,seval,I,d,o,←T]|omega)
      cases ho:A39 r s (-1)with
      |false=>
       rw[if_pos (.inr (.inr ho))]at hm;refine F5 (fun A=>if A=17 then .bool false else .undef) [c] ?_;repeat' (first|simp only[go_sem,seval,O,W,ri,J,rj,M,u,y,yi,d,o]|simp(disch:=omega) only[A4,A9]|with_reducible refine R0 (fun H' Q hro hq=>b7 _ ho H' Q hq) ?_)
       exact C2 (j+1,r,Hp) ⟨by simp only[];omega,hr,hm,x⟩ (by simp only[];omega) (by(try simp only[go_sem,seval])<;>(try simp(disch:=omega) [A4])) (D1G _)
      |true=>
       rw[if_neg (by rw[u,y,ho];decide)]at hm;have sk:=hr.2.1;have b8:=hs.2.1;have s1:Sz r.k:=G7 (by omega);have s2:Sz s.k:=G7 (by omega);refine F5 (fun A=>if A=17 then .bool true else .undef) [c] ?_;repeat' (first|simp only[go_sem,seval,O,W,ri,J,rj,M,u,y,yi,d,o]|with_reducible refine R0 (fun H' Q hro hq=>b7 _ ho H' Q hq) ?_)
       rcases Int.lt_trichotomy (r.k+s.k) 0 with g|g|g
       ·rw[if_pos g]at hm;have sg:(r.k+s.k).sign= -1:=Int.sign_eq_neg_one_of_neg g;rw[hm]at z;simp only[]at z;rw[z]at h;refine F5 (fun A=>if A=8 then .agg (C3 (r.k+s.k))else if A=9 then .int .i64 (-1)else .undef) [c] ?_;repeat' (first|simp only[go_sem,seval,O,W,ri,J,rj,M,yi,d,o]|with_reducible refine R0 (fun H' Q hro hq=>A0L r.k s.k s1 s2 H' hq) ?_|with_reducible refine R0 (fun H' Q hro hq=>K4 (r.k+s.k) H' (by rw[sg];exact hq)) ?_)
        exact Fin.nilsl 4 _ (D1H x.le h)
       ·have g1: ¬r.k+s.k<0:=by omega
        rw[if_neg g1,if_pos g]at hm;have sg:(r.k+s.k).sign=0:=by rw[g];rfl
        refine F5 (fun A=>if A=8 then .agg (C3 (r.k+s.k))else if A=9 then .int .i64 0 else .undef) [c] ?_;repeat' (first|with_reducible apply C9p|simp only[go_sem,seval,O,W,ri,J,rj,M,yi,d,o]|simp(disch:=omega) only[A4,A9]|with_reducible refine R0 (fun H' Q hro hq=>A0L r.k s.k s1 s2 H' hq) ?_|with_reducible refine R0 (fun H' Q hro hq=>K4 (r.k+s.k) H' (by rw[sg];exact hq)) ?_|omega)
        refine C2 (j+1,{r with eq:=true},Hp.set c (.vec 4 (Rw C4 (X.set i {r with eq:=true})))) ⟨by simp only[];omega,⟨hr.1,hr.2⟩,hm,x.set1 (D1G _)⟩ (by simp only[];omega) (by(try simp only[go_sem,seval])<;>(try simp(disch:=omega) [A4])) ?_;simp only[];rw[←List.set_set (a:=r) (b:=({r with eq:=true}:Row)),←X7 (X.set i r) i {r with eq:=true} _ rfl];exact D1G _
       ·have g1: ¬r.k+s.k<0:=by omega
        have g2: ¬r.k+s.k=0:=by omega
        rw[if_neg g1,if_neg g2]at hm;have sg:(r.k+s.k).sign=1:=Int.sign_eq_one_of_pos g;refine F5 (fun A=>if A=8 then .agg (C3 (r.k+s.k))else if A=9 then .int .i64 1 else .undef) [c] ?_;repeat' (first|simp only[go_sem,seval,O,W,ri,J,rj,M,yi,d,o]|simp(disch:=omega) only[A4,A9]|with_reducible refine R0 (fun H' Q hro hq=>A0L r.k s.k s1 s2 H' hq) ?_|with_reducible refine R0 (fun H' Q hro hq=>K4 (r.k+s.k) H' (by rw[sg];exact hq)) ?_)
        exact C2 (j+1,r,Hp) ⟨by simp only[];omega,hr,hm,x⟩ (by simp only[];omega) (by(try simp only[go_sem,seval])<;>(try simp(disch:=omega) [A4])) (D1G _)
   ·have I:decide ((j:Int)<i)=false:=C9s (by omega);have c5:j=i:=by omega
    subst c5;rw[List.drop_eq_nil_of_le (by rw[D0X];omega)]at hm;rw[hm]at z;simp only[A4u]at z;repeat' (first|simp only[go_sem,seval,I]|simp(disch:=omega) only[A4,A9])
    refine C2 (j+1,X.set j r,Hp) ⟨by simp only[];omega,by simp only[D0m];exact T,?_,?_,?_,x⟩ (by simp only[];omega) (by(try simp only[go_sem,seval])<;>(try simp(disch:=omega) [A4])) (D1G _)
    ·show (X.set j r).drop (j+1)=m.drop (j+1);rw[List.drop_set_of_lt (by omega),←D0z,←D0z,a9]
    ·show y8 [] m=y8 ((X.set j r).take (j+1)) (m.drop (j+1));rw[z,C98 (by rw[D0m];exact b0),List.take_set_of_le (by omega),List.getElem_set_self]
    ·intro s hs;rcases List.mem_or_eq_of_mem_set hs with g|g
     ·exact a4 s g
     ·rw[g];exact hr
  ·have Y:decide ((i:Int)<m.length)=false:=C9s (by omega);rw[List.drop_eq_nil_of_le (by omega),C94 (by omega)]at z;rw[z]at h;repeat' simp only[go_sem,seval,Y]
   refine A6Y (by rw[D6];exact T.symm) x.a1 (D1H (O3.one x) h)
end Go.Proofs.YtibphjonmikciaaGreatDoor
namespace Go.Lin
def CS(m:Nat)(c:List Int):Prop:=∀x∈c,x.natAbs<m
def AP(n m:Nat)(l:List Row):Prop:=∀r∈l,A4I n m r
def TA(l:List Row)(X:List Row)(i:Nat):Prop:=W8 l=(W8 (l.drop i)).map (X++ ·)
def TS(l X:List Row)(r:Row)(i:Nat):Prop:=W8 l=(A0u r).bind fun x=>(W8 (l.drop (i+1))).map ((X++x)++ ·)
end Go.Lin
namespace Go.Proofs.YtibphjonmikciaaGreatDoor
open Go Go.Av Go.Lin
attribute [local irreducible] ACalls W4
set_option maxHeartbeats 4000000 in
theorem C21{Q}(l:List Row)(n:Nat)(hlen:l.length≤1000000)(hn:n≤1000000)(hP:AP n 4611686018427387904 l)(hS: ∀r∈l,CS 4294967296 r.c)(H:Heap)(h:Q (B0S (A90 l)) H):D7 220 [.sl 4 (Rw C4 l)] H Q:=by
 refine A8 [(17,.par),(19,.par),(23,.par)] A5 Tryz.func220 rfl ?_;simp only[go_sem,seval,Tryz.results220];have z0:D.nilsl=J1 4 0 none:=rfl;unfold A90 at h;repeat' (first|with_reducible apply C9p|simp only[go_sem,seval]|simp(disch:=omega) only[A4,A9]|simp(disch:=first|omega|grind) only[B9]|(intro u;try simp only[A6]at u)|omega)
 refine C9 [15,16] (fun(p:Nat×List Row×Option Nat)=>[(17,.int .i64 p.1),(4,J1 4 p.2.1.length p.2.2)]) (fun(p:Nat×List Row×Option Nat)=>putB H 4 (Rw C4 p.2.1) p.2.2) (fun(p:Nat×List Row×Option Nat)=>p.1≤l.length∧p.2.1.length≤p.1∧AP n 4611686018427387904 p.2.1∧TA l p.2.1 p.1∧(p.2.2=none→p.2.1= [])∧(∀b,p.2.2=some b→H b=none)) (fun(p:Nat×List Row×Option Nat)=>l.length-p.1) ((0,[],none)) (⟨D0A _,C99 _,(fun s hs=>by cases hs),(by simp[TA]),by simp,by simp⟩) (by(try simp only[go_sem,seval])<;>(try simp(disch:=omega) [A4])) (by first|exact D1G _|exact A0 (by assumption)|exact B2 (by assumption)|simp only[Heap.Le,Heap.set,Heap.del]at* <;>grind) ?_;rintro Ec rfl ⟨i,X,o1⟩ ⟨hi,k4,b1,hT,ho,c4⟩;simp only at hi k4 b1 hT ho c4;have h3:=O3.put (H:=H) (sz:=4) (es:=Rw C4 X) (ob:=o1) (fun e=>by rw[ho e];rfl) c4;generalize putB H 4 (Rw C4 X) o1=Hp at h3⊢;by_cases c5:i<l.length
 ·have U:decide ((i:Int)<l.length)=true:=C9r (by omega);have l1:(i:Int)<l.length:=by omega
  have hr:=hP _ (C93 c5);have c8:=hS _ (C93 c5);have st:TS l X l[i] i:=B4C c5 hT;obtain⟨r,h0⟩: ∃r,r=l[i]:=⟨_,rfl⟩
  rw[←h0]at hr c8 st;have l2:r.c.length≤1000000:=by rw[hr.1];exact hn
  repeat' (first|with_reducible apply C9p|simp only[go_sem,seval,U,A9 _ _ c5,C1 _ _ c5,←h0]|simp(disch:=first|omega|grind) only[B9]|(intro u;try simp only[A6]at u)|omega)
  rename_i O h6 M;have h7:=u;clear u;have h8:O≠M:=Ne.symm h7.1;have e6:(Hp.set O (.box (C4 r))) O=some (.box (C4 r)):=A2 _ _;have g7:(Hp.set O (.box (C4 r))) M=none:=by rw[A3 _ h7.1];exact h7.2
  have c9:Hp.Le (Hp.set O (.box (C4 r))):=A0 h6;generalize Hp.set O (.box (C4 r))=B6 at e6 g7 c9⊢;clear h7;have d0:=B21 r.c 4294967295 (fun x hx=>by have:=c8 x hx;omega);have i0: ∀(a:Int) (_:Sz a) (H:Heap) (Q:D→Heap→Prop),Q (.agg (C3 (a.natAbs:Nat))) H→D7 244 [.agg (C3 a),.agg [.bool false,.nilsl]] H Q:=fun a ha H Q hq=>by
   refine Z8 (args':=[.agg (C3 a),.agg (C3 0)]) rfl (fun i d d' h1 h2=>?_) (B52 a 0 ha (by decide) H (by rw[show (0:Int).natAbs=0 from rfl,Nat.gcd_zero_right];exact hq))
   match i with
   |0=>cases h1;cases h2;exact .same _
   |1=>cases h1;cases h2;exact A8Q
   |i+2=>cases h1
  repeat' (first|with_reducible apply C9p|simp only[go_sem,seval,e6,A3 _ h8]|simp(disch:=omega) only[A4,A9]|simp(disch:=first|omega|grind) only[B9]|(intro u;try simp only[A6]at u)|omega)
  refine C9 [4,6,7,15,16,17,22,23] (fun(j:Nat)=>[(24,.int .i64 j)]) (fun(j:Nat)=>B6.set M (.box (gB j (A2y r.c j:Nat)))) (fun(j:Nat)=>j≤r.c.length) (fun(j:Nat)=>r.c.length-j) (0) (D0A _) (by(try simp only[go_sem,seval])<;>(try simp(disch:=omega) [A4])) (by first|exact D1G _|exact A0 (by assumption)|exact B2 (by assumption)|simp only[Heap.Le,Heap.set,Heap.del]at* <;>grind) ?_
  ·rintro Ec rfl j hj;by_cases A:j<r.c.length
   ·have U:decide ((j:Int)<r.c.length)=true:=C9r (by omega);have b4:(j:Int)<r.c.length:=by omega
    have c1:=c8 _ (C93 A);have s1:Sz r.c[j]:=G7 (by omega);have gs:=A7S r.c j A;have gj:=d0 j hj;cases j with
    |zero=>
     rw[A4J,Nat.gcd_zero_right]at gs;have eg:gB 0 (A2y r.c 0:Nat)= [.bool false,.nilsl]:=rfl;rw[eg];repeat' (first|with_reducible apply C9p|simp only[go_sem,seval,U,b4,A9 _ _ A,C1 _ _ A]|simp(disch:=omega) only[A4,A9]|simp(disch:=first|omega|grind) only[B9]|(intro u;try simp only[A6]at u)|with_reducible refine i0 _ s1 _ _ ?_|omega)
     rename_i b9;have h9:=u;clear u;refine C2 (0+1) (by omega) (by omega) (by(try simp only[go_sem,seval])<;>(try simp(disch:=omega) [A4])) ?_;rw[A5B,gs];exact(by simp only[E6,D2,D3]at* <;>grind)
    |succ j=>
     have hg:Sz ((A2y r.c (j+1):Nat):Int):=G7 (by omega);have k5: ∀(H:Heap) (Q:D→Heap→Prop),Q (.agg (C3 ((A2y r.c (j+1+1):Nat):Int))) H→D7 244 [.agg (C3 r.c[j+1]),.agg (C3 ((A2y r.c (j+1):Nat):Int))] H Q:=fun H Q hq=>
      B52 _ _ s1 (by omega) H (by rw[Int.natAbs_natCast,←gs];exact hq)
     rw[A5B];repeat' (first|with_reducible apply C9p|simp only[go_sem,seval,U,b4,A9 _ _ A,C1 _ _ A]|simp(disch:=omega) only[A4,A9]|simp(disch:=first|omega|grind) only[B9]|(intro u;try simp only[A6]at u)|with_reducible refine k5 _ _ ?_|omega)
     rename_i b9;have h9:=u;clear u;refine C2 (j+1+1) (by omega) (by omega) (by(try simp only[go_sem,seval])<;>(try simp(disch:=omega) [A4])) ?_;rw[A5B];exact(by simp only[E6,D2,D3]at* <;>grind)
   ·have U:decide ((j:Int)<r.c.length)=false:=C9s (by omega);have d3:j=r.c.length:=by omega
    subst d3;rw[A58];have d0:=d0 _ (C99 _);rw[A58]at d0;have hG:NilR (.agg (gB r.c.length (gcdR r.c:Nat))) (.agg (C3 (gcdR r.c:Nat))):=by have:=C2y r.c r.c.length;rwa [A58]at this
    have e9:gcdR r.c≠0→gB r.c.length (gcdR r.c:Nat)=C3 (gcdR r.c:Nat):=fun g=>by
     cases hl:r.c.length with
     |zero=>rw[D0D hl]at g;exact absurd rfl g
     |succ k=>exact A5B _ _
    obtain⟨d1,d2,hd⟩: ∃d1 d2,gB r.c.length (gcdR r.c:Nat)= [d1,d2]:=by
     unfold gB;split
     ·exact⟨_,_,rfl⟩
     ·exact⟨_,_,rfl⟩
    rw[hd]at hG e9⊢;have L:A0u r=if gcdR r.c=0 then(if r.k<0∨(r.eq=true∧0<r.k)then none else some [])else if gcdR r.c=1 then some [r]else if r.eq=true∧r.k.fdiv (gcdR r.c:Nat)*(gcdR r.c:Nat)-r.k≠0 then none else some [⟨r.c.map (Int.fdiv · (gcdR r.c:Nat)),r.k.fdiv (gcdR r.c:Nat),r.eq⟩]:=rfl
    generalize gcdR r.c=g at d0 hG e9 L;have sgn: ∀(s:Int),(g:Int).sign=s→∀(H:Heap) (Q:D→Heap→Prop),Q (.int .i64 s) H→D7 245 [.agg [d1,d2]] H Q:=fun s hs H Q hq=>by
     refine Z8 (args':=[.agg (C3 (g:Nat))]) rfl (fun i d d' h1 h2=>?_) (K4 (g:Int) H (by rw[hs];exact hq))
     match i with
     |0=>cases h1;cases h2;exact hG
     |i+1=>cases h1
    have e7:(B6.set M (.box [d1,d2])) M=some (.box [d1,d2]):=A2 _ _;have a4:(B6.set M (.box [d1,d2])) O=some (.box (C4 r)):=by rw[A3 _ h8];exact e6
    have V:Hp.Le (B6.set M (.box [d1,d2])):=c9.trans (A0 g7);generalize B6.set M (.box [d1,d2])=B7 at e7 a4 V⊢;clear e6 g7 c9 i0 hd;have b8:A0u r=none→Q (.tuple [.sl 4 [],.bool false]) H:=fun e=>by
     unfold TS at st;rw[e]at st;rw[st]at h;exact h
    by_cases g0:g=0
    ·rw[if_pos g0]at L;have d4:((g:Nat):Int).sign=0:=by rw[g0];rfl
     have sk:=hr.2.1;by_cases k1:r.k<0
     ·rw[if_pos (.inl k1)]at L;have sg:r.k.sign= -1:=Int.sign_eq_neg_one_of_neg k1;repeat' (first|simp only[go_sem,seval,U,e7,a4,sg]|with_reducible refine sgn 0 d4 _ _ ?_|with_reducible refine K4 r.k _ ?_)
      exact Fin.nilsl 4 _ (D1H (h3.le.trans V) (b8 L))
     ·cases a5:r.eq with
      |true=>
       by_cases k2:0<r.k
       ·rw[if_pos (.inr ⟨a5,k2⟩)]at L;have sg:r.k.sign=1:=Int.sign_eq_one_of_pos k2;repeat' (first|simp only[go_sem,seval,U,e7,a4,sg,a5]|with_reducible refine sgn 0 d4 _ _ ?_|with_reducible refine K4 r.k _ ?_)
        exact Fin.nilsl 4 _ (D1H (h3.le.trans V) (b8 L))
       ·have k0:r.k=0:=by omega
        rw[if_neg (by omega)]at L;have sg:r.k.sign=0:=by rw[k0];rfl
        repeat' (first|simp only[go_sem,seval,U,e7,a4,sg,a5]|simp(disch:=omega) only[A4,A9]|with_reducible refine sgn 0 d4 _ _ ?_|with_reducible refine K4 r.k _ ?_)
        refine C2 (i+1,X,o1) ⟨by simp only[];omega,by simp only[];omega,b1,?_,ho,c4⟩ (by simp only[];omega) (by(try simp only[go_sem,seval])<;>(try simp(disch:=omega) [A4])) (h3.putle.trans V);unfold TS at st;rw[L]at st;simp only[TA];rw[st];simp
      |false=>
       have i1:A0u r=some []:=by rw[L,if_neg (by rw[a5];simp;omega)]
       rcases Int.lt_trichotomy 0 r.k with k2|k2|k2
       ·have sg:r.k.sign=1:=Int.sign_eq_one_of_pos k2;repeat' (first|simp only[go_sem,seval,U,e7,a4,sg,a5]|simp(disch:=omega) only[A4,A9]|with_reducible refine sgn 0 d4 _ _ ?_|with_reducible refine K4 r.k _ ?_)
        refine C2 (i+1,X,o1) ⟨by simp only[];omega,by simp only[];omega,b1,?_,ho,c4⟩ (by simp only[];omega) (by(try simp only[go_sem,seval])<;>(try simp(disch:=omega) [A4])) (h3.putle.trans V);unfold TS at st;rw[i1]at st;simp only[TA];rw[st];simp
       ·have sg:r.k.sign=0:=by rw[←k2];rfl
        repeat' (first|simp only[go_sem,seval,U,e7,a4,sg,a5]|simp(disch:=omega) only[A4,A9]|with_reducible refine sgn 0 d4 _ _ ?_|with_reducible refine K4 r.k _ ?_)
        refine C2 (i+1,X,o1) ⟨by simp only[];omega,by simp only[];omega,b1,?_,ho,c4⟩ (by simp only[];omega) (by(try simp only[go_sem,seval])<;>(try simp(disch:=omega) [A4])) (h3.putle.trans V);unfold TS at st;rw[i1]at st;simp only[TA];rw[st];simp
       ·omega
    ·rw[if_neg g0]at L;have i2:=e9 g0;rw[i2]at e7;clear e9 hG i2 sgn;have gi:((g:Nat):Int)≠0:=by omega
     have gb:((g:Nat):Int).natAbs<4294967296:=by omega
     have sk:=hr.2.1;have s1:Sz r.k:=G7 (by omega);have s2:Sz ((g:Nat):Int):=G7 (by omega);obtain⟨G,f4⟩: ∃G:Int,G=(g:Nat):=⟨_,rfl⟩
     rw[←f4]at L e7 gi gb s2;have sg: ¬G.sign=0:=by rw[Int.sign_eq_zero_iff_zero];exact gi
     by_cases g1:g=1
     ·rw[if_pos g1]at L;have f5:(G.natAbs=1)=True:=by simp[f4,g1]
      repeat' (first|simp only[go_sem,seval,U,e7,a4,sg,f5]|(intro u;try simp only[A6]at u)|with_reducible refine K4 G _ ?_|with_reducible refine A97 G _ ?_)
      rename_i bx;have c0:=u;clear u;refine O3.ap h3 (e1':=Rw C4 (X++[r])) V c0 (by simp) (by rw[D6]) (by simp only[C9u,C9w];omega) (by simp only[C9u,C9w];omega) (by rw[←O2];rfl) fun b' H' h4=>?_;repeat' (first|simp only[go_sem,seval]|simp(disch:=omega) only[A4,A9])
      refine C2 (i+1,X++[r],some b') ⟨by simp only[];omega,by simp only[C9v,C9u,C9w];omega,fun s hs=>?_,?_,by simp,fun b e=>h4.n1 b e⟩ (by simp only[];omega) (by(try simp only[go_sem,seval,C9v,K3])<;>(try simp(disch:=omega) [A4])) h4.putle
      ·rcases D0F.1 hs with q|q
       ·exact b1 s q
       ·simp at q;rw[q];exact hr
      ·unfold TS at st;rw[L]at st;exact st
     ·rw[if_neg g1]at L;have f5:(G.natAbs=1)=False:=by simp;omega
      obtain⟨K,hK⟩: ∃K,K=r.k.fdiv G:=⟨_,rfl⟩
      rw[←hK]at L;have l0:K.natAbs≤r.k.natAbs:=by rw[hK,f4];exact A2z _ _ g0
      have s3:Sz K:=G7 (by omega);have k8: ∀(H:Heap) (Q:D→Heap→Prop),Q (.agg (C3 K)) H→D7 247 [.agg (C3 r.k),.agg (C3 G)] H Q:=fun H Q hq=>A3U r.k G s1 gi gb H (by rw[←hK];exact hq);repeat' (first|simp only[go_sem,seval,U,e7,a4,sg,f5]|(intro u;try simp only[A6]at u)|with_reducible refine K4 G _ ?_|with_reducible refine A97 G _ ?_|with_reducible refine k8 _ _ ?_)
      rename_i I;have f0:=u;clear u;have i3:M≠I:=fun g=>by rw[g,f0]at e7;cases e7
      have i4:O≠I:=fun g=>by rw[g,f0]at a4;cases a4
      have c7:(B7.set I (.box (C3 K))) M=some (.box (C3 G)):=by rw[A3 _ i3];exact e7
      have c6:(B7.set I (.box (C3 K))) O=some (.box (C4 r)):=by rw[A3 _ i4];exact a4
      have c3:(B7.set I (.box (C3 K))) I=some (.box (C3 K)):=A2 _ _;have J:Hp.Le (B7.set I (.box (C3 K))):=V.trans (A0 f0);generalize B7.set I (.box (C3 K))=B8 at c7 c6 c3 J⊢;clear e7 a4 V f0;have m6:O∈[O,M,I]:=by simp
      have m7:M∈[O,M,I]:=by simp
      have f6:I∈[O,M,I]:=by simp
      have i5:O∈[O,I]:=by simp
      have i9:I∈[O,I]:=by simp
      cases a5:r.eq with
      |true=>
       have a3:=A1L (a:=K) (b:=G) (m:=4611686018427387904) (n:=4294967296) (by omega) (by omega);have s4:Sz (K*G):=G7 (by omega);obtain⟨Z,hZ⟩: ∃Z,Z=K*G-r.k:=⟨_,rfl⟩
       have k3: ∀(H:Heap) (Q:D→Heap→Prop),Q (.agg (C3 Z)) H→D7 249 [.agg (C3 (K*G)),.agg (C3 r.k)] H Q:=fun H Q hq=>y9 (K*G) r.k s4 s1 H (by rw[←hZ];exact hq);refine F5 (fun i'=>if i'=5 then .agg (C3 (K*G))else if i'=8 then .agg (C3 Z)else if i'=9 then .int .i64 Z.sign else .undef) [O,M,I] ?_;by_cases z0:Z=0
       ·have sz:Z.sign=0:=by rw[z0];rfl
        have b2:A0u r=some [⟨r.c.map (Int.fdiv · G),K,r.eq⟩]:=by rw[L,if_neg (by rw[←hZ,z0];simp)]
        rw[sz];repeat' (first|simp only[go_sem,seval,c6,c7,c3,m6,m7,f6,a5]|with_reducible refine R0 (fun H' Q hro hq=>R8 K G s3 s2 H' hq) ?_|with_reducible refine R0 (fun H' Q hro hq=>k3 H' Q hq) ?_|with_reducible refine R0 (fun H' Q hro hq=>K4 Z H' (by rw[sz];exact hq)) ?_)
        obtain⟨C,hC⟩: ∃C,C=r.c.map (Int.fdiv · G):=⟨_,rfl⟩
        have W:C.length=r.c.length:=by rw[hC];simp
        refine F5 (fun i'=>.undef) [O,I] ?_;repeat' (first|with_reducible apply C9p|simp only[go_sem,seval,c6,c7,c3,i5,i9]|simp(disch:=first|omega|grind) only[B9]|(intro u;try simp only[A6]at u)|omega)
        rename_i bv hv z;have a6:=u;clear u;have nb:z≠bv:=a6.1;have k6:O≠bv∧O≠z:=⟨(fun g=>by rw[g,hv]at c6;cases c6),(fun g=>by rw[g,a6.2]at c6;cases c6)⟩
        have k7:M≠bv∧M≠z:=⟨(fun g=>by rw[g,hv]at c7;cases c7),(fun g=>by rw[g,a6.2]at c7;cases c7)⟩
        rw[show List.replicate r.c.length [D.bool false,.nilsl]=Z4 C r.c.length 0 from(A2N _ _).symm];obtain⟨RR,d5⟩: ∃RR:Row,RR=⟨C,K,r.eq⟩:=⟨_,rfl⟩
        refine C9 [4,6,7,12,15,16,17,76,77] (fun(j:Nat)=>[(78,.int .i64 j)]) (fun(j:Nat)=>(B8.set bv (.vec 2 (Z4 C r.c.length j))).set z (.box [.vec bv 2 0 r.c.length,.bool (decide (K<0)),.sl 1 (Rw F1 (B4 K.natAbs)),.bool r.eq])) (fun(j:Nat)=>j≤r.c.length) (fun(j:Nat)=>r.c.length-j) (0) (D0A _) (by(try simp only[go_sem,seval])<;>(try simp(disch:=omega) [A4])) (by first|exact D1G _|exact A0 (by assumption)|exact B2 (by assumption)|simp only[Heap.Le,Heap.set,Heap.del]at* <;>grind) ?_;rintro Ec rfl j hj;have f7:=A3V C r.c.length j W hj;by_cases A:j<r.c.length
        ·have a9:decide ((j:Int)<r.c.length)=true:=C9r (by omega);have b4:(j:Int)<r.c.length:=by omega
         have c1:=c8 _ (C93 A);have sj:Sz r.c[j]:=G7 (by omega);have k9:j<C.length:=by omega
         have f8:C[j]=r.c[j].fdiv G:=by simp only[hC,D0f]
         have b0:=A1v C r.c.length j W A (C3 (r.c[j].fdiv G)) (by rw[f8]);have f9:=A0r C r.c.length j j W (C99 _) A;have d6:=A0q C r.c.length j j W (C99 _) A;repeat' (first|with_reducible apply C9p|simp only[go_sem,seval,a9,b4,A9 _ _ A,C1 _ _ A]|(intro u;try simp only[A6]at u)|omega)
         rename_i T;have b3:=u;clear u;have g2:z∈[M,z,T]:=by simp
         have g3:T∈[M,z,T]:=by simp
         have p7:M∈[M,z,T]:=by simp
         have j1:=b3.1;have j2:=b3.2.1;have j3:M≠T:=fun g=>by have:=b3.2.2;rw[←g,c7]at this;cases this
         have v7:((B8.set bv (.vec 2 (Z4 C r.c.length j))).set z (.box [.vec bv 2 0 r.c.length,.bool (decide (K<0)),.sl 1 (Rw F1 (B4 K.natAbs)),.bool r.eq])) M=some (.box (C3 G)):=by rw[A3 _ k7.2,A3 _ k7.1];exact c7
         obtain⟨y,hy⟩: ∃y,y=r.c[j].fdiv G:=⟨_,rfl⟩
         have g4: ∀(H:Heap) (Q:D→Heap→Prop),Q (.agg (C3 y)) H→D7 247 [.agg (C3 r.c[j]),.agg (C3 G)] H Q:=fun H Q hq=>A3U r.c[j] G sj gi gb H (by rw[←hy];exact hq);rw[←hy]at b0;refine F5 (fun i'=>if i'=5 then .agg (C3 y)else .undef) [M,z,T] ?_;repeat' (first|with_reducible apply C9p|simp only[go_sem,seval,p7,g2,g3,A3 _ j3,A3 _ k7.2,A3 _ k7.1,c7,b4,f7,f9,d6,b0]|simp(disch:=omega) only[A4,A9]|simp(disch:=first|omega|grind) only[B9]|with_reducible refine R0 (fun H' Q hro hq=>g4 H' Q hq) ?_|omega)
         refine C2 (j+1) (by omega) (by omega) (by(try simp only[go_sem,seval])<;>(try simp(disch:=omega) [A4])) ?_;rw[←b0];intro k o hk;have g5:k≠T:=fun g=>by rw[g,A3 _ j1,A3 _ j2,b3.2.2]at hk;cases hk
         by_cases e:k=bv
         ·subst e;rw[A3 _ nb.symm,A2]at hk;rw[A2];exact hk
         ·rw[A3 _ e,A3 _ g5];by_cases a0:k=z
          ·subst a0;rw[A2]at hk⊢;exact hk
          ·rw[A3 _ a0,A3 _ e]at hk⊢;exact hk
        ·have a9:decide ((j:Int)<r.c.length)=false:=C9s (by omega);have d3:j=r.c.length:=by omega
         subst d3;rw[A3W C _ W];repeat' (first|simp only[go_sem,seval,a9,A3 _ k6.1,A3 _ k6.2,c6]|(intro u;try simp only[A6]at u))
         rename_i bx;have c0:=u;clear u;have c2:H.Le B8:=h3.le.trans J;have g6:H bv=none:=c2.none hv;have q1:(H.set bv (.vec 2 (Rw C3 C))).Le (((B8.set bv (.vec 2 (Rw C3 C))).set z (.box [.vec bv 2 0 r.c.length,.bool (decide (K<0)),.sl 1 (Rw F1 (B4 K.natAbs)),.bool r.eq])).set O (.box [.vec bv 2 0 r.c.length,.bool (decide (K<0)),.sl 1 (Rw F1 (B4 K.natAbs)),.bool r.eq])):=by
          intro k o hk;by_cases e:k=bv
          ·subst e;rw[A3 _ k6.1.symm,A3 _ nb.symm,A2];rw[A2]at hk;exact hk
          ·rw[A3 _ e]at hk;have e6:k≠O:=fun g=>by have:=h3.le _ _ hk;rw[g,h6]at this;cases this
           have a0:k≠z:=fun g=>by have:=c2 _ _ hk;rw[g,a6.2]at this;cases this
           rw[A3 _ e6,A3 _ a0,A3 _ e];exact c2 _ _ hk
         have q2:Hp.Le (((B8.set bv (.vec 2 (Rw C3 C))).set z (.box [.vec bv 2 0 r.c.length,.bool (decide (K<0)),.sl 1 (Rw F1 (B4 K.natAbs)),.bool r.eq])).set O (.box [.vec bv 2 0 r.c.length,.bool (decide (K<0)),.sl 1 (Rw F1 (B4 K.natAbs)),.bool r.eq])):=by
          intro k o hk;have e:k≠bv:=fun g=>by have:=J _ _ hk;rw[g,hv]at this;cases this
          have e6:k≠O:=fun g=>by rw[g,h6]at hk;cases hk
          have a0:k≠z:=fun g=>by have:=J _ _ hk;rw[g,a6.2]at this;cases this
          rw[A3 _ e6,A3 _ a0,A3 _ e];exact J _ _ hk
         have d7:=h3.base q1 q2 (fun b g8 g9=>by rw[A3 _ (fun g=>g8 (by rw[g];exact J.none hv))];exact g9);refine O3.ap d7 (e1':=Rw C4 X++[[.vec bv 2 0 r.c.length,.bool (decide (K<0)),.sl 1 (Rw F1 (B4 K.natAbs)),.bool r.eq]]) (D1G _) (by simp only[A6];simp only[c0,ne_eq,not_false_eq_true,and_self]) (by simp) (by rw[D6]) (by simp only[C9u,C9w];omega) (by simp only[C9u,C9w];omega) rfl fun b' H' h4=>?_;clear d7 q1 q2 c0;repeat' (first|simp only[go_sem,seval]|simp(disch:=omega) only[A4,A9])
         have d8:=h4.n1 _ rfl;have e0:bv≠b':=fun g=>by rw[←g,A2]at d8;cases d8
         have eX:Rw C4 (X++[RR])=Rw C4 X++[.sl 2 (Rw C3 C)::[.bool (decide (K<0)),.sl 1 (Rw F1 (B4 K.natAbs)),.bool r.eq]]:=by rw[←O2,d5];rfl
         have e4:=B22 hr b2;rw[←hC,←d5]at e4 b2;refine B5S (i+1,X++[RR],some b') ⟨by simp only[];omega,by simp only[C9v,C9u,C9w];omega,fun s hs=>?_,?_,by simp,fun b e=>?_⟩ (by simp only[];omega) ?_
         ·rcases D0F.1 hs with q|q
          ·exact b1 s q
          ·exact e4.1 s q
         ·unfold TS at st;rw[b2]at st;exact st
         ·have:=h4.n1 _ e;rw[A3 _ (by cases e;exact e0.symm)]at this;exact this
         ·show A1D _ (H.set b' (.vec 4 (Rw C4 (X++[RR])))) _ _;rw[eX];refine A0p (by(try simp only[go_sem,seval,C9v,K3])<;>(try simp(disch:=omega) [A4])) (by rw[D6,W]) h4.a1 (h4.le _ _ (A2 _ _)) e0 (fun k o hk ho=>?_);have e8:k≠bv:=fun g=>by rw[g,g6]at ho;cases ho
          exact⟨e8,h4.le k o (by rw[A3 _ e8];exact ho)⟩
       ·have sz: ¬Z.sign=0:=by rw[Int.sign_eq_zero_iff_zero];exact z0
        have b2:A0u r=none:=by rw[L,if_pos ⟨a5,by rw[←hZ];exact z0⟩]
        repeat' (first|simp only[go_sem,seval,c6,c7,c3,m6,m7,f6,a5,sz]|with_reducible refine R0 (fun H' Q hro hq=>R8 K G s3 s2 H' hq) ?_|with_reducible refine R0 (fun H' Q hro hq=>k3 H' Q hq) ?_|with_reducible refine R0 (fun H' Q hro hq=>K4 Z H' hq) ?_)
        exact Fin.nilsl 4 _ (D1H (h3.le.trans J) (b8 b2))
      |false=>
       have b2:A0u r=some [⟨r.c.map (Int.fdiv · G),K,r.eq⟩]:=by rw[L,if_neg (by rw[a5];simp)]
       refine F5 (fun i'=>.undef) [O,M,I] ?_;repeat' simp only[go_sem,seval,c6,c7,c3,m6,m7,f6,a5]
       obtain⟨C,hC⟩: ∃C,C=r.c.map (Int.fdiv · G):=⟨_,rfl⟩
       have W:C.length=r.c.length:=by rw[hC];simp
       refine F5 (fun i'=>.undef) [O,I] ?_;repeat' (first|with_reducible apply C9p|simp only[go_sem,seval,c6,c7,c3,i5,i9]|simp(disch:=first|omega|grind) only[B9]|(intro u;try simp only[A6]at u)|omega)
       rename_i bv hv z;have a6:=u;clear u;have nb:z≠bv:=a6.1;have k6:O≠bv∧O≠z:=⟨(fun g=>by rw[g,hv]at c6;cases c6),(fun g=>by rw[g,a6.2]at c6;cases c6)⟩
       have k7:M≠bv∧M≠z:=⟨(fun g=>by rw[g,hv]at c7;cases c7),(fun g=>by rw[g,a6.2]at c7;cases c7)⟩
       rw[show List.replicate r.c.length [D.bool false,.nilsl]=Z4 C r.c.length 0 from(A2N _ _).symm];obtain⟨RR,d5⟩: ∃RR:Row,RR=⟨C,K,r.eq⟩:=⟨_,rfl⟩
       refine C9 [4,6,7,12,15,16,17,76,77] (fun(j:Nat)=>[(78,.int .i64 j)]) (fun(j:Nat)=>(B8.set bv (.vec 2 (Z4 C r.c.length j))).set z (.box [.vec bv 2 0 r.c.length,.bool (decide (K<0)),.sl 1 (Rw F1 (B4 K.natAbs)),.bool r.eq])) (fun(j:Nat)=>j≤r.c.length) (fun(j:Nat)=>r.c.length-j) (0) (D0A _) (by(try simp only[go_sem,seval])<;>(try simp(disch:=omega) [A4])) (by first|exact D1G _|exact A0 (by assumption)|exact B2 (by assumption)|simp only[Heap.Le,Heap.set,Heap.del]at* <;>grind) ?_;rintro Ec rfl j hj;have f7:=A3V C r.c.length j W hj;by_cases A:j<r.c.length
       ·have a9:decide ((j:Int)<r.c.length)=true:=C9r (by omega);have b4:(j:Int)<r.c.length:=by omega
        have c1:=c8 _ (C93 A);have sj:Sz r.c[j]:=G7 (by omega);have k9:j<C.length:=by omega
        have f8:C[j]=r.c[j].fdiv G:=by simp only[hC,D0f]
        have b0:=A1v C r.c.length j W A (C3 (r.c[j].fdiv G)) (by rw[f8]);have f9:=A0r C r.c.length j j W (C99 _) A;have d6:=A0q C r.c.length j j W (C99 _) A;repeat' (first|with_reducible apply C9p|simp only[go_sem,seval,a9,b4,A9 _ _ A,C1 _ _ A]|(intro u;try simp only[A6]at u)|omega)
        rename_i T;have b3:=u;clear u;have g2:z∈[M,z,T]:=by simp
        have g3:T∈[M,z,T]:=by simp
        have p7:M∈[M,z,T]:=by simp
        have j1:=b3.1;have j2:=b3.2.1;have j3:M≠T:=fun g=>by have:=b3.2.2;rw[←g,c7]at this;cases this
        have v7:((B8.set bv (.vec 2 (Z4 C r.c.length j))).set z (.box [.vec bv 2 0 r.c.length,.bool (decide (K<0)),.sl 1 (Rw F1 (B4 K.natAbs)),.bool r.eq])) M=some (.box (C3 G)):=by rw[A3 _ k7.2,A3 _ k7.1];exact c7
        obtain⟨y,hy⟩: ∃y,y=r.c[j].fdiv G:=⟨_,rfl⟩
        have g4: ∀(H:Heap) (Q:D→Heap→Prop),Q (.agg (C3 y)) H→D7 247 [.agg (C3 r.c[j]),.agg (C3 G)] H Q:=fun H Q hq=>A3U r.c[j] G sj gi gb H (by rw[←hy];exact hq);rw[←hy]at b0;refine F5 (fun i'=>if i'=5 then .agg (C3 y)else .undef) [M,z,T] ?_;repeat' (first|with_reducible apply C9p|simp only[go_sem,seval,p7,g2,g3,A3 _ j3,A3 _ k7.2,A3 _ k7.1,c7,b4,f7,f9,d6,b0]|simp(disch:=omega) only[A4,A9]|simp(disch:=first|omega|grind) only[B9]|with_reducible refine R0 (fun H' Q hro hq=>g4 H' Q hq) ?_|omega)
        refine C2 (j+1) (by omega) (by omega) (by(try simp only[go_sem,seval])<;>(try simp(disch:=omega) [A4])) ?_;rw[←b0];intro k o hk;have g5:k≠T:=fun g=>by rw[g,A3 _ j1,A3 _ j2,b3.2.2]at hk;cases hk
        by_cases e:k=bv
        ·subst e;rw[A3 _ nb.symm,A2]at hk;rw[A2];exact hk
        ·rw[A3 _ e,A3 _ g5];by_cases a0:k=z
         ·subst a0;rw[A2]at hk⊢;exact hk
         ·rw[A3 _ a0,A3 _ e]at hk⊢;exact hk
       ·have a9:decide ((j:Int)<r.c.length)=false:=C9s (by omega);have d3:j=r.c.length:=by omega
        subst d3;rw[A3W C _ W];repeat' (first|simp only[go_sem,seval,a9,A3 _ k6.1,A3 _ k6.2,c6]|(intro u;try simp only[A6]at u))
        rename_i bx;have c0:=u;clear u;have c2:H.Le B8:=h3.le.trans J;have g6:H bv=none:=c2.none hv;have q1:(H.set bv (.vec 2 (Rw C3 C))).Le (((B8.set bv (.vec 2 (Rw C3 C))).set z (.box [.vec bv 2 0 r.c.length,.bool (decide (K<0)),.sl 1 (Rw F1 (B4 K.natAbs)),.bool r.eq])).set O (.box [.vec bv 2 0 r.c.length,.bool (decide (K<0)),.sl 1 (Rw F1 (B4 K.natAbs)),.bool r.eq])):=by
         intro k o hk;by_cases e:k=bv
         ·subst e;rw[A3 _ k6.1.symm,A3 _ nb.symm,A2];rw[A2]at hk;exact hk
         ·rw[A3 _ e]at hk;have e6:k≠O:=fun g=>by have:=h3.le _ _ hk;rw[g,h6]at this;cases this
          have a0:k≠z:=fun g=>by have:=c2 _ _ hk;rw[g,a6.2]at this;cases this
          rw[A3 _ e6,A3 _ a0,A3 _ e];exact c2 _ _ hk
        have q2:Hp.Le (((B8.set bv (.vec 2 (Rw C3 C))).set z (.box [.vec bv 2 0 r.c.length,.bool (decide (K<0)),.sl 1 (Rw F1 (B4 K.natAbs)),.bool r.eq])).set O (.box [.vec bv 2 0 r.c.length,.bool (decide (K<0)),.sl 1 (Rw F1 (B4 K.natAbs)),.bool r.eq])):=by
         intro k o hk;have e:k≠bv:=fun g=>by have:=J _ _ hk;rw[g,hv]at this;cases this
         have e6:k≠O:=fun g=>by rw[g,h6]at hk;cases hk
         have a0:k≠z:=fun g=>by have:=J _ _ hk;rw[g,a6.2]at this;cases this
         rw[A3 _ e6,A3 _ a0,A3 _ e];exact J _ _ hk
        have d7:=h3.base q1 q2 (fun b g8 g9=>by rw[A3 _ (fun g=>g8 (by rw[g];exact J.none hv))];exact g9);refine O3.ap d7 (e1':=Rw C4 X++[[.vec bv 2 0 r.c.length,.bool (decide (K<0)),.sl 1 (Rw F1 (B4 K.natAbs)),.bool r.eq]]) (D1G _) (by simp only[A6];simp only[c0,ne_eq,not_false_eq_true,and_self]) (by simp) (by rw[D6]) (by simp only[C9u,C9w];omega) (by simp only[C9u,C9w];omega) rfl fun b' H' h4=>?_;clear d7 q1 q2 c0;repeat' (first|simp only[go_sem,seval]|simp(disch:=omega) only[A4,A9])
        have d8:=h4.n1 _ rfl;have e0:bv≠b':=fun g=>by rw[←g,A2]at d8;cases d8
        have eX:Rw C4 (X++[RR])=Rw C4 X++[.sl 2 (Rw C3 C)::[.bool (decide (K<0)),.sl 1 (Rw F1 (B4 K.natAbs)),.bool r.eq]]:=by rw[←O2,d5];rfl
        have e4:=B22 hr b2;rw[←hC,←d5]at e4 b2;refine B5S (i+1,X++[RR],some b') ⟨by simp only[];omega,by simp only[C9v,C9u,C9w];omega,fun s hs=>?_,?_,by simp,fun b e=>?_⟩ (by simp only[];omega) ?_
        ·rcases D0F.1 hs with q|q
         ·exact b1 s q
         ·exact e4.1 s q
        ·unfold TS at st;rw[b2]at st;exact st
        ·have:=h4.n1 _ e;rw[A3 _ (by cases e;exact e0.symm)]at this;exact this
        ·show A1D _ (H.set b' (.vec 4 (Rw C4 (X++[RR])))) _ _;rw[eX];refine A0p (by(try simp only[go_sem,seval,C9v,K3])<;>(try simp(disch:=omega) [A4])) (by rw[D6,W]) h4.a1 (h4.le _ _ (A2 _ _)) e0 (fun k o hk ho=>?_);have e8:k≠bv:=fun g=>by rw[g,g6]at ho;cases ho
         exact⟨e8,h4.le k o (by rw[A3 _ e8];exact ho)⟩
 ·have U:decide ((i:Int)<l.length)=false:=C9s (by omega);unfold TA at hT;rw[List.drop_eq_nil_of_le (by omega)]at hT;have hT:W8 l=some X:=by rw[hT];simp[W8]
  rw[hT]at h;repeat' simp only[go_sem,seval,U]
  refine ACalls.out (by rw[D6]) h3.a1 ?_;refine B9I X n (by omega) hn (fun r hr=>⟨(b1 r hr).1,by have:=(b1 r hr).2.1;omega,fun x hx=>by have:=(b1 r hr).2.2 x hx;omega⟩) _ ?_;generalize hR:y8 [] (pairs1 X)=R;rw[show ((some X).bind fun l=>y8 [] (pairs1 l))=R from hR]at h;cases R with
  |none=>
   simp only[go_sem,seval,B0S];exact D1H (O3.one h3) h
  |some Y=>
   simp only[go_sem,seval,B0S];exact D1H (O3.one h3) h
end Go.Proofs.YtibphjonmikciaaGreatDoor
namespace Go.Av
theorem A44{P:Program}{f v sz n:Nat}{es:List (List D)}{a:D}{ds m:List D}{H:Heap}{Q:D→Heap→Prop}(hb:H v=some (.vec sz es))(hn:n=es.length)(h:ACalls P f (a:: .agg (.sl sz es::ds)::m) (H.del v) Q):ACalls P f (a:: .agg (.vec v sz 0 n::ds)::m) H Q:=by
 subst hn;refine ACalls.shift (args':=a:: .agg (.sl sz es::ds)::m) (fun w vs h1 o hs=>?_) h;have e:=D9 H v;refine⟨by simpa using h1,fun i d p=>?_,hs.less e,fun k hn=>e.held hn⟩
 match i with
 |0=>cases p;exact(o 0 _ rfl).less e
 |1=>
  cases p;have j:=o 1 _ rfl;revert j;generalize vs.getD 1 undef=v1;intro j;cases j with
  |agg _ us q ho hr=>
   refine .agg _ us (by simpa using q) (fun i d' g=>?_) (fun i d' g=>?_)
   ·cases i with
    |zero=>cases g;rfl
    |succ i=>exact ho (i+1) d' g
   ·cases i with
    |zero=>
     cases g;have r:Fz v sz es (.vec v sz 0 es.length) (.sl sz es):=.all;exact r.R hs hb (hr 0 _ rfl)
    |succ i=>exact(hr (i+1) d' g).less e
 |i+2=>exact(o (i+2) d (by simpa using p)).less e
end Go.Av
namespace Go.Lin
open Go Go.Av
theorem B0T(a b:Int)(hb:0<b):(A0n a b).natAbs≤b.natAbs:=by
 unfold A0n;have e:(0:Int)<b*2:=by omega
 rw[Int.fdiv_eq_ediv_of_nonneg _ (by omega)];have h1:=Int.ediv_mul_le (a*2+b) (show b*2≠0 by omega);have d:=Int.lt_ediv_add_one_mul_self (a*2+b) e;generalize (a*2+b) / (b*2)=q at h1 d;have e1:q*(b*2)=2*(b*q):=by rw[Int.mul_comm q,Int.mul_assoc,Int.mul_comm 2 q,←Int.mul_assoc,Int.mul_comm _ 2]
 have e2:(q+1)*(b*2)=2*(b*q)+b*2:=by rw[Int.add_mul,e1];omega
 rw[e1]at h1;rw[e2]at d;generalize b*q=z at h1 d;omega
end Go.Lin
namespace Go.Proofs.YtibphjonmikciaaGreatDoor
open Go Go.Av Go.Lin
attribute [local irreducible] ACalls W4
set_option maxHeartbeats 4000000 in
theorem B1k{Q}(l:List Row)(at_ n k:Nat)(hlen:l.length≤10000)(i3:0<n)(hn:n≤1000)(b3:at_<l.length)(hw: ∀r∈l,r.c.length=n)(hr: ∀r∈l,A4v r 4611686018427387904)(c3: ∀r∈l,∀x∈r.c,x.natAbs<1073741824)
  (hk:A4A (l.getD at_ default)=some k) (H:Heap) (h:Q (.sl 4 (Rw C4 (n8 l at_))) H):D7 223 [.sl 4 (Rw C4 l),.int .i64 (at_:Int)] H Q:=by
 refine A8 [(14,.par),(18,.par),(20,.par)] A5 Tryz.func223 rfl ?_;simp only[go_sem,seval,Tryz.results223];have d4:(at_:Int)<l.length:=by omega
 have ge:l.getD at_ default=l[at_]:=by simp[b3]
 have U:=C93 b3;obtain⟨e,he⟩: ∃e,e=l[at_]:=⟨_,rfl⟩
 have J:n8 l at_=if(U9 e.c k).natAbs=1 then(l.take at_++l.drop (at_+1)).map (R7 e k)else((l.take at_++l.drop (at_+1)++[e]).map A2a).map (R7 ⟨e.c.map (A0n · ((U9 e.c k).natAbs+1))++[-(((U9 e.c k).natAbs:Int)+1)],A0n e.k ((U9 e.c k).natAbs+1),true⟩ k):=by
  unfold n8;simp only[];rw[ge,←he];rw[ge,←he]at hk;rw[hk];rfl
 rw[ge,←he]at hk;rw[←he]at U;have f7:=hw e U;have i4:=hr e U;have c4:=c3 e U;have Y:k<e.c.length:=by
  rw[A54]at hk;exact A2R _ _ _ hk
 have d5:(k:Int)<e.c.length:=by omega
 rw[H7 _ _ Y]at J;have f9:L1 (A4A e)=k:=by rw[hk];rfl
 have d6:(l.take at_++l.drop (at_+1)).length≤10000:=by rw[C9v,D0X,D0N];omega
 have a4: ∀r∈l.take at_++l.drop (at_+1),r∈l:=fun r hr=>(D0F.1 hr).elim List.mem_of_mem_take List.mem_of_mem_drop
 repeat' (first|with_reducible apply C9p|simp only[go_sem,seval,d4,A9 _ _ b3,C1 _ _ b3,←he]|simp(disch:=omega) only[A4,A9,H7]|(intro u;try simp only[A6]at u)|omega)
 rename_i b5 h5 bx;have M:=u;clear u;have c5:(H.set b5 (.box (C4 e))) b5=some (.box (C4 e)):=A2 _ _;have W:H.Le (H.set b5 (.box (C4 e))):=A0 h5;have a5:(H.set b5 (.box (C4 e))) bx=none:=by simp only[A6];exact M
 change ACalls _ _ _ ((H.set b5 (.box (C4 e))).set bx _) _;generalize H.set b5 (.box (C4 e))=B5 at c5 W a5⊢;clear h5 M;rw[C94 (show (Rw C4 l).length≤l.length by rw[D6];exact C99 _),A8B,B8k];refine T5 (A2 _ _) rfl ?_;rw[E9 a5];refine A7I _ _ (by rw[C9v]at d6;omega) _ ?_;obtain⟨R,hR⟩: ∃R,R=l.take at_++l.drop (at_+1):=⟨_,rfl⟩
 rw[←hR]at J d6 a4⊢;have a0: ∀r∈l,A4v r 18446744073709551616:=fun r hx=>⟨by have:=(hr r hx).1;omega,fun x O=>by have:=(hr r hx).2 x O;omega⟩
 have la: ∀(H:Heap) (Q:D→Heap→Prop),Q (.int .i64 (k:Int)) H→D7 252 [.agg (C4 e)] H Q:=fun H Q hq=>B9D e (by omega) (a0 e U) H (by rw[f9];exact hq);obtain⟨c,hc⟩: ∃c,c=e.c[k]:=⟨_,rfl⟩
 rw[←hc]at J;have i5:c.natAbs<1073741824:=by rw[hc];exact c4 _ (C93 Y)
 by_cases h1:c.natAbs=1
 ·rw[if_pos h1]at J;rw[J]at h;have o1: ∀(H:Heap) (Q:D→Heap→Prop),Q (.bool true) H→D7 246 [.agg (C3 c)] H Q:=fun H Q hq=>A97 c H (by rw[C9r h1];exact hq);repeat' (first|with_reducible apply C9p|simp only[go_sem,seval,c5,d5,A9 _ _ Y,C1 _ _ Y,←hc]|with_reducible refine la _ _ ?_|with_reducible refine o1 _ _ ?_|omega)
  refine A7L R e k n (by omega) (by omega) (fun r hx=>hw r (a4 r hx)) f7 (by omega) (fun r hx=>a0 r (a4 r hx)) (a0 e U) (fun r hx x O=>by have:=c3 r (a4 r hx) x O;omega) (fun x O=>by have:=c4 x O;omega) _ ?_;repeat' simp only[go_sem,seval]
  exact D1H W h
 ·rw[if_neg h1]at J;have o1: ∀(H:Heap) (Q:D→Heap→Prop),Q (.bool false) H→D7 246 [.agg (C3 c)] H Q:=fun H Q hq=>A97 c H (by rw[C9s h1];exact hq);obtain⟨t,ht⟩: ∃t:Int,t=1:=⟨1,rfl⟩
  obtain⟨m,hm⟩: ∃m:Int,m=(c.natAbs:Nat)+1:=⟨_,rfl⟩
  have g0:((c.natAbs:Nat):Int)+t=m:=by rw[ht,hm]
  rw[←hm]at J;have s1:Sz ((c.natAbs:Nat):Int):=G7 (by omega);have s2:Sz t:=G7 (by omega);have w1: ∀(H:Heap) (Q:D→Heap→Prop),Q (.agg (C3 t)) H→D7 228 [.int .i64 1] H Q:=fun H Q hq=>l6 1 (by omega) (by omega) H (by rw[←ht];exact hq);have p1: ∀(H:Heap) (Q:D→Heap→Prop),Q (.agg (C3 m)) H→D7 255 [.agg (C3 ((c.natAbs:Nat):Int)),.agg (C3 t)] H Q:=fun H Q hq=>A0L _ t s1 s2 H (by rw[g0];exact hq);repeat' (first|with_reducible apply C9p|simp only[go_sem,seval,c5,d5,A9 _ _ Y,C1 _ _ Y,←hc]|simp(disch:=first|omega|grind) only[B9,F0]|(intro u;try simp only[A6]at u)|with_reducible refine la _ _ ?_|with_reducible refine o1 _ _ ?_|with_reducible refine B51 c _ ?_|with_reducible refine w1 _ _ ?_|with_reducible refine p1 _ _ ?_|omega)
  rename_i G h8 b2 h2 bx;have M:=u;clear u;have e5:=(A0 (o:=.box (C3 m)) h8) _ _ c5;have e8:(B5.set G (.box (C3 m))) G=some (.box (C3 m)):=A2 _ _;have a6:H.Le (B5.set G (.box (C3 m))):=W.trans (A0 h8);have g2:(B5.set G (.box (C3 m))) b2=none:=by simp only[A6];exact h2
  have gx:(B5.set G (.box (C3 m))) bx=none∧bx≠b2:=by simp only[A6];exact⟨⟨M.2.1,M.2.2⟩,M.1⟩
  change ACalls _ _ _ (((B5.set G (.box (C3 m))).set b2 (.vec 4 [C4 e])).set bx (.vec 1 [[.sl 4 (Rw C4 R)],[.vec b2 4 0 1]])) _;generalize B5.set G (.box (C3 m))=B8 at e5 e8 a6 g2 gx⊢;clear h8 h2 M c5 W a5;refine A6W (b:=b2) (sz:=4) (es:=[C4 e]) (H':=B8.set bx (.vec 1 [[.sl 4 (Rw C4 R)],[.sl 4 [C4 e]]])) (by rw[A3 _ gx.2.symm,A2]) (fun q o' hq=>?_) ?_
  ·by_cases g:q=bx
   ·subst g;rw[A2]at hq;cases hq;refine⟨gx.2,_,A2 _ _,.vec _ _ _ rfl fun i y y' O d7=>?_⟩
    match i with
    |0=>
     cases O;cases d7;exact⟨rfl,fun j d d' X h4=>by rw[X]at h4;cases h4;exact .same _⟩
    |1=>
     cases O;cases d7;refine⟨rfl,fun j d d' X h4=>?_⟩;cases j with
     |zero=>cases X;cases h4;exact .all
     |succ j=>cases X
    |i+2=>cases O
   ·rw[A3 _ g]at hq;have g3:q≠b2:=fun g4=>by rw[g4,g2]at hq;cases hq
    exact⟨g3,o',by rw[A3 _ g,A3 _ g3];exact hq,.same _⟩
  refine T5 (A2 _ _) rfl ?_;rw[E9 gx.1,show ([C4 e]:List (List D))=Rw C4 [e]from rfl];refine A7I R [e] (by simp only[C9u,C9w];omega) _ ?_;obtain⟨L,hL⟩: ∃L,L=R++[e]:=⟨_,rfl⟩
  rw[←hL]at J⊢;have i9:L.length≤10001:=by rw[hL,C9v,C9u,C9w];omega
  have d8: ∀r∈L,r∈l:=fun r hr=>by
   rw[hL]at hr;rcases D0F.1 hr with g|g
   ·exact a4 r g
   ·simp at g;rw[g];exact U
  clear hL gx g2;repeat' simp only[go_sem,seval]
  refine C9 [5,7,8,9,53,54] (fun(p:Nat×Option Nat×Heap)=>[(55,.int .i64 p.1),(10,J1 4 p.1 p.2.1)]) (fun(p:Nat×Option Nat×Heap)=>p.2.2) (fun(p:Nat×Option Nat×Heap)=>p.1≤L.length∧O3 B8 p.2.2 4 (Rw C4 ((L.take p.1).map A2a)) [] [] p.2.1 none none) (fun(p:Nat×Option Nat×Heap)=>L.length-p.1) ((0,none,B8)) (⟨D0A _,O3.nil B8 4⟩) (by(try simp only[go_sem,seval])<;>(try simp(disch:=omega) [A4])) (by first|exact D1G _|exact A0 (by assumption)|exact B2 (by assumption)|simp only[Heap.Le,Heap.set,Heap.del]at* <;>grind) ?_;rintro Ec rfl ⟨i,o1,Hp⟩ ⟨hi,X⟩;simp only at hi X;by_cases b4:i<L.length
  ·have c6:decide ((i:Int)<L.length)=true:=C9r (by omega);have k0:(i:Int)<L.length:=by omega
   have g5:=d8 _ (C93 b4);have fs:=A56 A2a L i b4;have fl:=A8V A2a L i hi;have e0:L[i].c.length=n:=hw _ g5;have g6:L[i].c≠[]:=fun g=>by rw[g]at e0;simp at e0;omega
   repeat' (first|with_reducible apply C9p|simp only[go_sem,seval,c6,A9 _ _ b4,C1 _ _ b4]|(intro u;try simp only[A6]at u)|with_reducible refine C2x _ g6 (by omega) _ ?_|omega)
   rename_i g7 g8 bx;have M:=u;clear u;have e4:Hp.Le (Hp.set g7 (.box (C4 L[i]))):=A0 g8;refine O3.ap X (e1':=Rw C4 ((L.take (i+1)).map A2a)) e4 (by simp only[A6];exact M) (by simp) (by rw[D6,fl]) (by simp only[C9u,C9w];omega) (by simp only[C9u,C9w];omega) (by rw[fs,←O2];rfl) fun b' H' h4=>?_;repeat' (first|simp only[go_sem,seval]|simp(disch:=omega) only[A4,A9,H7])
   refine C2 (i+1,some b',H') ⟨by simp only[];omega,h4⟩ (by simp only[];omega) (by(try simp only[go_sem,seval,K3])<;>(try simp(disch:=omega) [A4])) (D1G _)
  ·have c6:decide ((i:Int)<L.length)=false:=C9s (by omega);have e1:L.take i=L:=C94 (by omega);have e2:i=L.length:=by omega
   rw[e1]at X;have f5:=X.le _ _ e5;have f8:=X.le _ _ e8;repeat' simp only[go_sem,seval,c6]
   obtain⟨C,hC⟩: ∃C,C=e.c.map (A0n · m)++[-m]:=⟨_,rfl⟩
   obtain⟨K,hK⟩: ∃K,K=A0n e.k m:=⟨_,rfl⟩
   rw[←hC,←hK]at J;have T:C.length=e.c.length+1:=by rw[hC,C9v,D0Y];rfl
   have b6:0<m:=by omega
   have e6:m<2147483648:=by omega
   have g9:e.k.natAbs≤18446744073709551616:=(a0 e U).1;have k1:K.natAbs≤m.natAbs:=by rw[hK];exact B0T _ _ b6
   have e7: ∀x∈C,x.natAbs≤4294967296:=fun x hx=>by
    rw[hC]at hx;rcases D0F.1 hx with g|g
    ·simp only[D0n]at g;obtain⟨z,_,rfl⟩:=g;have:=B0T z m b6;omega
    ·simp at g;omega
   have nr: ∀(H:Heap) (Q:D→Heap→Prop),Q (.agg (C3 K)) H→D7 258 [.agg (C3 e.k),.agg (C3 m)] H Q:=fun H Q hq=>B53 e.k m g9 b6 e6 H (by rw[←hK];exact hq);have m5:b5∈[b5,G]:=by simp
   have m8:G∈[b5,G]:=by simp
   refine F5 (fun i'=>if i'=8 then .agg (C3 K)else .undef) [b5,G] ?_;repeat' (first|with_reducible apply C9p|simp only[go_sem,seval,f5,f8,m5,m8]|simp(disch:=omega) only[A4,A9,H7]|simp(disch:=first|omega|grind) only[B9,F0]|(intro u;try simp only[A6]at u)|with_reducible refine R0 (fun H' Q hro hq=>nr H' Q hq) ?_|omega)
   rename_i bv hv A;have b7:=u;clear u;have nb:A≠bv:=b7.1;have k5:b5≠bv∧b5≠A:=⟨(fun g=>by rw[g,hv]at f5;cases f5),(fun g=>by rw[g,b7.2]at f5;cases f5)⟩
   have k8:G≠bv∧G≠A:=⟨(fun g=>by rw[g,hv]at f8;cases f8),(fun g=>by rw[g,b7.2]at f8;cases f8)⟩
   rw[show (([D.bool false,.nilsl]::List.replicate e.c.length [D.bool false,.nilsl]):List (List D))=Z4 C (e.c.length+1) 0 from(A2N C (e.c.length+1)).symm];refine C9 [5,7,8,10,13,77,78] (fun(j:Nat)=>[(79,.int .i64 j)]) (fun(j:Nat)=>(Hp.set bv (.vec 2 (Z4 C (e.c.length+1) j))).set A (.box [.vec bv 2 0 (e.c.length+1),.bool (decide (K<0)),.sl 1 (Rw F1 (B4 K.natAbs)),.bool true])) (fun(j:Nat)=>j≤e.c.length) (fun(j:Nat)=>e.c.length-j) (0) (D0A _) (by(try simp only[go_sem,seval])<;>(try simp(disch:=omega) [A4])) (by first|exact D1G _|exact A0 (by assumption)|exact B2 (by assumption)|simp only[Heap.Le,Heap.set,Heap.del]at* <;>grind) ?_;rintro Ec rfl j hj;have e9:=A3V C (e.c.length+1) j T (by omega);by_cases b9:j<e.c.length
   ·have a9:decide ((j:Int)<e.c.length)=true:=C9r (by omega);have f0:(j:Int)<e.c.length:=by omega
    have b0:(j:Int)<((e.c.length:Nat):Int)+1:=by omega
    have h0:j<C.length:=by omega
    have c7:C[j]=A0n e.c[j] m:=by simp only[hC];rw[List.getElem_append_left (by rw[D0Y];exact b9),D0f]
    have c1:=c4 _ (C93 b9);have I:=A1v C (e.c.length+1) j T (by omega) (C3 (A0n e.c[j] m)) (by rw[c7]);have c8:=A0r C (e.c.length+1) j j T (C99 _) (by omega);have b1:=A0q C (e.c.length+1) j j T (C99 _) (by omega);repeat' (first|with_reducible apply C9p|simp only[go_sem,seval,a9,f0,A9 _ _ b9,C1 _ _ b9]|(intro u;try simp only[A6]at u)|omega)
    rename_i V;have c0:=u;clear u;have c9:A∈[G,A,V]:=by simp
    have h6:V∈[G,A,V]:=by simp
    have p8:G∈[G,A,V]:=by simp
    have j1:=c0.1;have j2:=c0.2.1;have j3:G≠V:=fun g=>by have:=c0.2.2;rw[←g,f8]at this;cases this
    obtain⟨y,O⟩: ∃y,y=A0n e.c[j] m:=⟨_,rfl⟩
    have h7: ∀(H:Heap) (Q:D→Heap→Prop),Q (.agg (C3 y)) H→D7 258 [.agg (C3 e.c[j]),.agg (C3 m)] H Q:=fun H Q hq=>B53 e.c[j] m (by omega) b6 e6 H (by rw[←O];exact hq);rw[←O]at I;refine F5 (fun i'=>if i'=5 then .agg (C3 y)else .undef) [G,A,V] ?_;repeat' (first|with_reducible apply C9p|simp only[go_sem,seval,p8,c9,h6,A3 _ j3,A3 _ k8.2,A3 _ k8.1,f8,f0,b0,e9,c8,b1,I]|simp(disch:=omega) only[A4,A9,H7]|simp(disch:=first|omega|grind) only[B9,F0]|with_reducible refine R0 (fun H' Q hro hq=>h7 H' Q hq) ?_|omega)
    refine C2 (j+1) (by omega) (by omega) (by(try simp only[go_sem,seval])<;>(try simp(disch:=omega) [A4])) ?_;rw[←I];intro q o hq;have h9:q≠V:=fun g=>by rw[g,A3 _ j1,A3 _ j2,c0.2.2]at hq;cases hq
    by_cases g:q=bv
    ·subst g;rw[A3 _ nb.symm,A2]at hq;rw[A2];exact hq
    ·rw[A3 _ g,A3 _ h9];by_cases f4:q=A
     ·subst f4;rw[A2]at hq⊢;exact hq
     ·rw[A3 _ f4,A3 _ g]at hq⊢;exact hq
   ·have a9:decide ((j:Int)<e.c.length)=false:=C9s (by omega);have i0:j=e.c.length:=by omega
    subst i0;have h0:e.c.length<C.length:=by omega
    have c7:C[e.c.length]= -m:=by simp only[hC];rw[List.getElem_append_right (by rw[D0Y];exact C99 _)];simp
    have I:=A1v C (e.c.length+1) e.c.length T (by omega) (C3 (-m)) (by rw[c7]);have c8:=A0r C (e.c.length+1) e.c.length e.c.length T (C99 _) (by omega);have b1:=A0q C (e.c.length+1) e.c.length e.c.length T (C99 _) (by omega);have b0:(e.c.length:Int)<((e.c.length:Nat):Int)+1:=by omega
    obtain⟨y,O⟩: ∃y,y= -m:=⟨_,rfl⟩
    rw[←O,A3W C _ T]at I;have ng: ∀(H:Heap) (Q:D→Heap→Prop),Q (.agg (C3 y)) H→D7 259 [.agg (C3 m)] H Q:=fun H Q hq=>A4D m H (by rw[←O];exact hq);have c9:A∈[b5,G,A]:=by simp
    have p5:b5∈[b5,G,A]:=by simp
    have p8:G∈[b5,G,A]:=by simp
    repeat' simp only[go_sem,seval,a9]
    refine F5 (fun i'=>if i'=6 then .agg (C3 y)else .undef) [b5,G,A] ?_;repeat' (first|with_reducible apply C9p|simp only[go_sem,seval,p8,c9,p5,A3 _ k8.2,A3 _ k8.1,A3 _ k5.2,A3 _ k5.1,f8,f5,b0,e9,c8,b1,I]|simp(disch:=first|omega|grind) only[B9,F0]|with_reducible refine R0 (fun H' Q hro hq=>ng H' Q hq) ?_|omega)
    have d0:(Z4 C (e.c.length+1) e.c.length).set e.c.length ((zB.set 0 (D.bool (decide (y<0)))).set 1 (D.sl 1 (Rw F1 (B4 y.natAbs))))=Rw C3 C:=I;rw[d0];obtain⟨Hf,d2⟩: ∃Hf,Hf=((Hp.set bv (.vec 2 (Z4 C (e.c.length+1) e.c.length))).set A (.box [.vec bv 2 0 (e.c.length+1),.bool (decide (K<0)),.sl 1 (Rw F1 (B4 K.natAbs)),.bool true])).set bv (.vec 2 (Rw C3 C)):=⟨_,rfl⟩
    have i1:Hf bv=some (.vec 2 (Rw C3 C)):=by rw[d2];exact A2 _ _
    have f6:Hp.Le Hf:=fun q o hq=>by
     have g1:q≠bv:=fun g=>by rw[g,hv]at hq;cases hq
     have g2:q≠A:=fun g=>by rw[g,b7.2]at hq;cases hq
     rw[d2,A3 _ g1,A3 _ g2,A3 _ g1];exact hq
    rw[←d2];have i2:o1≠some bv:=X.a1.ne hv;have c2: ∀(q:Nat) (o:Go.Av.Obj),Hf q=some o→o1≠some q→K7 Hf o1 q=some o:=fun q o hq hn=>by
     cases o1 with
     |none=>exact hq
     |some c=>show (Hf.del c) q=_;rw[F0 (by rintro rfl;exact hn rfl)];exact hq
    refine ACalls.out (by rw[D6,D0Y];exact e2) (X.a1.up f6) ?_;refine A44 (c2 _ _ i1 i2) (by rw[D6,T]) ?_;rw[J]at h;have d3: ∀r∈L.map A2a,∃s∈l,r=A2a s:=fun r hr=>by
     obtain⟨s,hs,rfl⟩:=D0n.1 hr;exact⟨s,d8 s hs,rfl⟩
    refine A7L (L.map A2a) ⟨C,K,true⟩ k (n+1) (by rw[D0Y];omega) (by omega) (fun r hx=>?_) (by show C.length=n+1;omega) (by omega) (fun r hx=>?_) ⟨by show K.natAbs≤_;omega,fun x hx=>by have:=e7 x hx;omega⟩ (fun r hx x O=>?_) e7 _ ?_
    ·obtain⟨s,hs,rfl⟩:=d3 r hx;show (s.c++[0]).length=n+1;rw[C9v,hw s hs];rfl
    ·obtain⟨s,hs,rfl⟩:=d3 r hx;refine⟨(a0 s hs).1,fun x O=>?_⟩;rcases D0F.1 O with g|g
     ·exact(a0 s hs).2 x g
     ·simp at g;rw[g];decide
    ·obtain⟨s,hs,rfl⟩:=d3 r hx;rcases D0F.1 O with g|g
     ·have:=c3 s hs x g;omega
     ·simp at g;rw[g];decide
    ·repeat' simp only[go_sem,seval]
     refine D1H (fun q o hq=>?_) h;have q1:=X.le _ _ (a6 _ _ hq);have q2:q≠bv:=fun g=>by rw[g,hv]at q1;cases q1
     rw[F0 q2];exact c2 _ _ (f6 _ _ q1) (fun g=>by have:=X.n1 _ g;rw[a6 _ _ hq]at this;cases this)
end Go.Proofs.YtibphjonmikciaaGreatDoor
namespace Go.Lin
open Go Go.Av Go.Proofs.YtibphjonmikciaaGreatDoor
structure OkR(n:Nat)(l:List Row):Prop where
 len:l.length≤9999
 nn:n≤1000
 w: ∀r∈l,r.c.length=n
 s: ∀r∈l,A4v r 4611686018427387904
 c: ∀r∈l,∀x∈r.c,x.natAbs<1073741824
theorem A4j{l:List Row}(h:A8K l=true): ∃n,OkR n l:=by
 unfold A8K at h;simp only[C92,D0B]at h;obtain⟨h1,d⟩:=h;cases l with
 |nil=>exact⟨0,by omega,by omega,by simp,by simp,by simp⟩
 |cons r l=>
  simp only[C92,D0B,D0Q]at d;obtain⟨d,e⟩:=d;have key: ∀s∈r::l,s.c.length=r.c.length∧(∀x∈s.c,x.natAbs<1073741824)∧s.k.natAbs<4611686018427387904:=fun s hs=>by
   have:=e s hs;unfold C04 at this;simp only[C92,beq_iff_eq,D0B,D0Q]at this;exact⟨this.1.1,fun x hx=>by have:=this.1.2 x hx;simpa using this,by have:=this.2;simpa using this⟩
  exact⟨r.c.length,by omega,by omega,fun s hs=>(key s hs).1,fun s hs=>⟨by have:=(key s hs).2.2;omega,fun x hx=>by have:=(key s hs).2.1 x hx;omega⟩,fun s hs=>(key s hs).2.1⟩
theorem B0U(p:Row→Bool): ∀l:List Row,V3 p l=match l.findIdx? p with|none=> -1|some i=>(i:Int)
 | []=>rfl
 |r::l=>by
  rw[V3,B0U p l,List.findIdx?_cons];by_cases h:p r=true
  ·rw[if_pos h,h];rfl
  ·simp only[h];cases l.findIdx? p with
   |none=>simp
   |some i=>simp;omega
theorem B9J{p:Row→Bool}{l:List Row}{i:Nat}(h:l.findIdx? p=some i):i<l.length:=(List.findIdx?_eq_some_iff_findIdx_eq.1 h).1
theorem B1l(l:List Row): ∀(n k:Nat),(chT l n).best=some k→k<n
 |0,k,h=>by simp[chT]at h
 |n+1,k,h=>by
  rw[B0I]at h;unfold A3R at h;simp only[]at h;split at h
  ·have:=B1l l n k h;omega
  ·split at h
   ·simp at h;omega
   ·have:=B1l l n k h;omega
theorem B4D{l:List Row}{n k:Nat}(hl:l≠[])(hw: ∀r∈l,r.c.length=n)(h:(Y2 l).best=some k):k<n:=by
 have:Y2 l=chT l n:=by
  unfold Y2 chT;cases l with
  |nil=>exact absurd rfl hl
  |cons r l=>rw[show ((r::l).headD default).c.length=n from hw r (C90 ..)]
 rw[this]at h;exact B1l l n k h
end Go.Lin
namespace Go.Proofs.YtibphjonmikciaaGreatDoor
open Go Go.Av Go.Lin
attribute [local irreducible] ACalls W4
theorem C22{Q}(r:Row)(H:Heap)(h:Q (.bool r.eq) H):D7 222 [.agg (C4 r)] H Q:=by
 refine A8 [] A5 Tryz.func222 rfl ?_;simp only[go_sem,seval,Tryz.results222];repeat' intro d
 exact D1H (by simp only[E6,D2,D3]at* <;>grind) h
set_option maxHeartbeats 1000000 in
theorem B1m{Q}(f:Nat)(l:List Row)(b:Bool)(hs:A4g f l=some b)(H:Heap)(h:Q (.bool b) H):D7 196 [.sl 4 (Rw C4 l)] H Q:=by
 refine A8 [] A5 Tryz.func196 rfl ?_;simp only[go_sem,seval,Tryz.results196];repeat' (first|with_reducible apply C9p|simp only[go_sem,seval]|intro g|omega)
 refine C9 [] (fun(p:Nat×List Row)=>[(0,.sl 4 (Rw C4 p.2))]) (fun(p:Nat×List Row)=>H) (fun(p:Nat×List Row)=>A4g p.1 p.2=some b) (fun(p:Nat×List Row)=>p.1) ((f,l)) (hs) (by simp only[go_sem,seval]) (by first|exact D1G _|exact A0 (by assumption)|exact B2 (by assumption)|simp only[Heap.Le,Heap.set,Heap.del]at* <;>grind) ?_;rintro X rfl ⟨f,l⟩ hs;simp only at hs;cases f with
 |zero=>simp[A4g]at hs
 |succ f=>
  rw[A4g]at hs;split at hs
  case isFalse=>cases hs
  rename_i d;obtain⟨n,ok⟩:=A4j d;have T: ∀(H:Heap) (Q:D→Heap→Prop),Q (B0S (A90 l)) H→D7 220 [.sl 4 (Rw C4 l)] H Q:=fun H Q hq=>C21 l n (by have:=ok.len;omega) (by have:=ok.nn;omega) (fun r hr=>⟨ok.w r hr,ok.s r hr⟩) (fun r hr x hx=>by have:=ok.c r hr x hx;omega) H hq;clear d;repeat' (first|simp only[go_sem,seval]|with_reducible refine T _ _ ?_)
  cases C:A90 l with
  |none=>
   rw[C]at hs;simp only[D0R]at hs;simp only[go_sem,seval,B0S];repeat' (first|with_reducible apply C9p|simp only[go_sem,seval]|intro g|omega)
   rw[←hs]at h;exact D1K h
  |some m=>
   rw[C]at hs;cases m with
   |nil=>
    simp only[D0R]at hs;simp only[go_sem,seval,B0S];repeat' (first|with_reducible apply C9p|intro g|omega)
    rw[←hs]at h;exact D1K h
   |cons r m=>
    simp only[]at hs;split at hs
    case isFalse=>cases hs
    rename_i d;obtain⟨L,q⟩: ∃L,L=r::m:=⟨_,rfl⟩
    have u:L≠[]:=by rw[q];simp
    have y: ¬(L.length:Int)=0:=by rw[q];simp;omega
    rw[←q]at hs d;obtain⟨n,ok⟩:=A4j d;simp only[go_sem,seval,B0S];rw[←q];clear d T C q;have A: ∀(H:Heap) (Q:D→Heap→Prop),Q (.int .i64 (V3 (·.eq) L)) H→D7 221 [.sl 4 (Rw C4 L),.fn (.func 222) [] []] H Q:=fun H Q hq=>B6M (·.eq) L (by have:=ok.len;omega) _ [] [] H (fun a _ Q hq=>C22 a H hq) hq;have o:=B0U (·.eq) L;cases G:L.findIdx? (·.eq)with
    |some i=>
     rw[G]at hs o;simp only[]at hs o;split at hs
     case isFalse=>cases hs
     rename_i hk;obtain⟨k,hk⟩:=Option.isSome_iff_exists.1 hk;have I:=B9J G;have J:0<n:=by
      have e:L.getD i default=L[i]:=by simp[I]
      rw[e,A54]at hk;have:=A2R _ _ _ hk;rw[ok.w _ (C93 I)]at this;omega
     have M: ∀(H:Heap) (Q:D→Heap→Prop),Q (.sl 4 (Rw C4 (n8 L i))) H→D7 223 [.sl 4 (Rw C4 L),.int .i64 (i:Int)] H Q:=fun H Q hq=>B1k L i n k (by have:=ok.len;omega) J ok.nn I ok.w ok.s ok.c hk H hq;have U:(0:Int)≤i:=by omega
     rw[o]at A;repeat' (first|with_reducible apply C9p|simp only[go_sem,seval,y,U]|intro g|with_reducible refine A _ _ ?_|with_reducible refine M _ _ ?_|omega)
     exact C2 (f,n8 L i) hs (Nat.lt_succ_self f) (by simp only[go_sem,seval]) (D1G _)
    |none=>
     rw[G]at hs o;simp only[]at hs o;rw[o]at A;have j: ∀(H:Heap) (Q:D→Heap→Prop),Q (.tuple [.int .i64 (L1 (Y2 L).best),.bool (Y2 L).sure]) H→D7 224 [.sl 4 (Rw C4 L)] H Q:=fun H Q hq=>B6P L n u (by have:=ok.len;omega) ok.w (by have:=ok.nn;omega) H hq;split at hs
     ·rename_i k cost z;rw[z]at j;have O:k<n:=B4D u ok.w (by rw[z]);have V: ∀(H:Heap) (Q:D→Heap→Prop),Q (.sl 4 (Rw C4 (A2L L k false))) H→D7 226 [.sl 4 (Rw C4 L),.int .i64 (k:Int),.bool false] H Q:=fun H Q hq=>B6V L k n (by have:=ok.len;omega) (by have:=ok.nn;omega) ok.w O (fun r hr=>⟨by have:=(ok.s r hr).1;omega,fun x hx=>by have:=(ok.s r hr).2 x hx;omega⟩) H hq;have W:L1 (some k)=k:=rfl;simp only[W]at j;repeat' (first|with_reducible apply C9p|simp only[go_sem,seval,y]|intro g|with_reducible refine A _ _ ?_|with_reducible refine j _ _ ?_|with_reducible refine V _ _ ?_|omega)
      exact C2 (f,A2L L k false) hs (Nat.lt_succ_self f) (by simp only[go_sem,seval]) (D1G _)
     ·cases hs
end Go.Proofs.YtibphjonmikciaaGreatDoor
namespace Go.Lin
open Go Go.Av Go.Lexs
theorem A7T{s:ByteArray}(h:H9 (B s)=true):s.size≤200:=by
 unfold H9 at h;simp only[C92,D0B]at h;have:=h.1.1.2;rwa [Y7]at this
theorem B6g{l:List LinV}(hv: ∀a∈l,validL a=true):(O4 l).length≤12*l.length∧∀s∈O4 l,s.size≤200:=by
 constructor
 ·have key: ∀(m:List LinV),(∀c∈m,validL c=true)→(O4 m).length≤12*m.length:=by
   intro m
   induction m with
   |nil=>intro _;simp[O4]
   |cons c m d=>
    intro hm;have e:=d (fun x hx=>hm x (C97 _ hx));have h:=(L9 (hm c (C90 ..))).len;unfold O4 at e⊢;rw[List.flatMap_cons,C9v,D0Y,C9u];omega
  exact key l hv
 ·intro s hs;unfold O4 at hs;obtain⟨c,hc,hs⟩:=List.mem_flatMap.1 hs;obtain⟨t,g,rfl⟩:=D0n.1 hs;exact A7T (M7 (L9 (hv c hc)).t t g).1
theorem B4E(l:List ByteArray)(s:ByteArray):(P6 l s).length≤l.length+1:=by
 induction l with
 |nil=>simp[P6]
 |cons x l d=>
  unfold P6;split
  ·simp;omega
  ·split<;>simp
theorem B4F(m:List ByteArray): ∀l:List ByteArray,(m.foldl P6 l).length≤l.length+m.length:=by
 induction m with
 |nil=>intro l;simp
 |cons s m d=>intro l;have:=d (P6 l s);have:=B4E l s;simp only[List.foldl_cons,C9u];omega
theorem B4G{l:List LinV}{a:LinV}(d:a∈l){t:LTm}(e:t∈a.t):t.v∈A1n l:=by
 rw[A66];exact List.mem_flatMap.2 ⟨a,d,D0n.2 ⟨t,e,rfl⟩⟩
def C8Y(P:Program)(can:List LinV→Option Bool)(g:Nat)(cap:List D)(H:Heap):Prop:=∀(more:List LinV) (b:Bool),can more=some b→(∀a∈more,validL a=true)→more.length≤2→∀(H':Heap) (Q:D→Heap→Prop),H.Le H'→Q (.bool b) H'→ACalls P g (.sl 3 (Rw E4 more)::cap) H' Q
theorem A7U{s:ByteArray}(hs:H9 (B s)=true)(c k:Int)(e:Bool)(hc:c≠0)(d:c.natAbs≤1048576)(hk:k.natAbs≤1099511627776):validL ⟨[⟨s,c⟩],k,e⟩=true:=by
 unfold validL l4 A6e N2;simp[hs,hc];omega
theorem A7V{s:ByteArray}(hs:H9 (B s)=true)(n m:Int)(hn:n.natAbs≤1099511627776)(hm:m.natAbs≤1099511627776): ∀a∈[V0 s n,l5 s m],validL a=true:=fun a d=>by
 rcases D0H.1 d with rfl|d
 ·exact A7U hs 1 _ _ (by decide) (by decide) (by omega)
 ·simp at d;rw[d];exact A7U hs (-1) _ _ (by decide) (by decide) hm
theorem B4H(g:List LinV→Option Bool)(s:ByteArray)(f:Nat)(e d:Int):A3S g s (f+1) e d=if e<d then
      match g [V0 s (-((e+d).tdiv 2)),l5 s ((e+d).tdiv 2)]with
      |none=>none
      |some true=>A3S g s f e ((e+d).tdiv 2)
      |some false=>A3S g s f ((e+d).tdiv 2+1) d
    else some e:=rfl
end Go.Lin
namespace Go.Proofs.YtibphjonmikciaaGreatDoor
open Go Go.Av Go.Lexs Go.Lin
attribute [local irreducible] ACalls W4
theorem C23{Q}(l:List LinV)(hlen:l.length≤1000)(hv: ∀a∈l,validL a=true)(b:Bool)(hs:C05 l=some b)(H:Heap)(h:Q (.bool b) H):D7 155 [.sl 3 (Rw E4 l)] H Q:=by
 refine A8 [] A5 Tryz.func155 rfl ?_;simp only[go_sem,seval,Tryz.results155];obtain⟨n1,n2⟩:=B6g hv;have d:A4g 100 (A91 l (A1n l))=some b:=hs;have i:(A1n l).length≤12000:=by have:=B4F (O4 l) [];simp at this;unfold A1n;omega
 repeat' (first|simp only[go_sem,seval]|with_reducible refine C2k l (by omega) (by omega) (fun s hs=>by have:=n2 s hs;omega) (fun c hc=>by have:=(L9 (hv c hc)).len;omega) _ ?_|with_reducible refine C20 l (A1n l) (by omega) (by omega) (A9n l) hv (fun a e t g=>B4G e g) _ ?_|with_reducible refine B1m 100 _ b d _ ?_)
 exact D1K h
theorem A7W{Q}(s:ByteArray)(n:Int)(hn:n.natAbs≤1000000000000000)(H:Heap)(h:Q (.agg (E4 (V0 s n))) H):D7 127 [.str s,.int .i64 n] H Q:=by
 refine A8 [] A5 Tryz.func127 rfl ?_;simp only[go_sem,seval,Tryz.results127];have w:IntKind.i64.wrap (0-n)= -n:=by rw[A4 (by omega) (by omega)];omega
 repeat' (first|simp only[go_sem,seval,w]|simp(disch:=first|omega|grind) only[B9,F0]|(intro d;try simp only[A6]at d))
 rename_i m p q;have e:=d;clear d;refine A17 (es:=Rw Q7 [⟨s,1⟩]) (by rw[A3 _ e.1,A2];rfl) rfl (D1H (fun k o hk=>?_) h);have i:k≠m:=fun g=>by rw[g,p]at hk;cases hk
 have j:k≠q:=fun g=>by rw[g,e.2]at hk;cases hk
 rw[F0 j,A3 _ i,A3 _ j,A3 _ i];exact hk
theorem B0V{Q}(s:ByteArray)(n:Int)(H:Heap)(h:Q (.agg (E4 (l5 s n))) H):D7 128 [.str s,.int .i64 n] H Q:=by
 refine A8 [] A5 Tryz.func128 rfl ?_;simp only[go_sem,seval,Tryz.results128];repeat' (first|simp only[go_sem,seval]|simp(disch:=first|omega|grind) only[B9,F0]|(intro d;try simp only[A6]at d))
 rename_i m p q;have e:=d;clear d;refine A17 (es:=Rw Q7 [⟨s,-1⟩]) (by rw[A3 _ e.1,A2];rfl) rfl (D1H (fun k o hk=>?_) h);have i:k≠m:=fun g=>by rw[g,p]at hk;cases hk
 have j:k≠q:=fun g=>by rw[g,e.2]at hk;cases hk
 rw[F0 j,A3 _ i,A3 _ j,A3 _ i];exact hk
theorem B4I{Q}(i:List LinV→Option Bool)(s:ByteArray)(x:H9 (B s)=true)(g:Nat)(cap:List D)(H:Heap)(r:C8Y Tryz.prog i g cap H)(n:Int)(hn:B5r i s=some n)(h:Q (.int .i64 n) H):D7 76 [.str s,.fn (.func g) [] cap] H Q:=by
 refine A8 [] A5 Tryz.func76 rfl ?_;simp only[go_sem,seval,Tryz.results76];unfold B5r at hn;cases z:A3S i s 40 0 2147483647 with
 |none=>rw[z]at hn;cases hn
 |some A=>
  rw[z]at hn;simp only[]at hn;repeat' (first|with_reducible apply C9p|simp only[go_sem,seval]|simp(disch:=omega) only[A4]|intro j|omega)
  refine C9 [0,1] (fun(p:Nat×Int×Int)=>[(5,.int .i64 p.2.1),(6,.int .i64 p.2.2)]) (fun(p:Nat×Int×Int)=>H) (fun(p:Nat×Int×Int)=>A3S i s p.1 p.2.1 p.2.2=some A∧0≤p.2.1∧p.2.1≤p.2.2∧p.2.2≤2147483647) (fun(p:Nat×Int×Int)=>p.1) ((40,0,2147483647)) (⟨z,by simp,by simp,by simp⟩) (by simp only[go_sem,seval]) (by first|exact D1G _|exact A0 (by assumption)|exact B2 (by assumption)|simp only[Heap.Le,Heap.set,Heap.del]at* <;>grind) ?_;rintro O rfl ⟨f,d,e⟩ ⟨o,C,I,G⟩;simp only at o C I G;cases f with
  |zero=>simp[A3S]at o
  |succ f=>
   rw[B4H]at o;by_cases q:d<e
   ·rw[if_pos q]at o;obtain⟨m,hm⟩: ∃m,m=(d+e).tdiv 2:=⟨_,rfl⟩
    have J:d≤m∧m<e:=by
     rw[hm,Int.tdiv_eq_ediv_of_nonneg (by omega)];omega
    rw[←hm]at o;have L:IntKind.i64.wrap m=m:=A4 (by omega) (by omega);have M:IntKind.i64.wrap (0-m)= -m:=by rw[A4 (by omega) (by omega)];omega
    cases hc:i [V0 s (-m),l5 s m]with
    |none=>rw[hc]at o;cases o
    |some b=>
     rw[hc]at o;repeat' (first|simp only[go_sem,seval,q,←hm,L,M,Int.zero_sub]|simp(disch:=omega) only[A4]|intro j|with_reducible refine A7W s (-m) (by omega) _ ?_|with_reducible refine B0V s m _ ?_)
     rename_i bs;have u:=j;clear j;refine T5 (es:=Rw E4 [V0 s (-m),l5 s m]) (A2 _ _) rfl ?_;rw[E9 u];refine r _ b hc (A7V x _ _ (by omega) (by omega)) (by simp) _ _ (D1G _) ?_;cases b with
     |true=>
      repeat' simp only[go_sem,seval]
      exact C2 (f,d,m) ⟨o,C,by simp only[];omega,by simp only[];omega⟩ (Nat.lt_succ_self f) (by simp only[go_sem,seval]) (D1G _)
     |false=>
      repeat' (first|simp only[go_sem,seval]|simp(disch:=omega) only[A4])
      exact C2 (f,m+1,e) ⟨o,by simp only[];omega,by simp only[];omega,G⟩ (Nat.lt_succ_self f) (by simp only[go_sem,seval]) (D1G _)
   ·rw[if_neg q]at o;simp only[D0R]at o;subst o;by_cases y:0<d
    ·rw[if_pos y]at hn;cases hc:i [V0 s d,l5 s d]with
     |none=>rw[hc]at hn;cases hn
     |some b=>
      rw[hc]at hn;repeat' (first|simp only[go_sem,seval,q,y,Int.zero_sub]|intro j|with_reducible refine A7W s d (by omega) _ ?_|with_reducible refine B0V s d _ ?_)
      rename_i bs;have u:=j;clear j;refine T5 (es:=Rw E4 [V0 s d,l5 s d]) (A2 _ _) rfl ?_;rw[E9 u];refine r _ b hc (A7V x _ _ (by omega) (by omega)) (by simp) _ _ (D1G _) ?_;cases b with
      |true=>
       simp only[D0R]at hn;subst hn;repeat' simp only[go_sem,seval]
       exact D1K h
      |false=>
       simp only[D0R]at hn;subst hn;repeat' (first|simp only[go_sem,seval,Int.zero_sub]|simp(disch:=omega) only[A4])
       exact D1K h
    ·rw[if_neg y]at hn;simp only[D0R]at hn;subst hn;repeat' simp only[go_sem,seval,q,y]
     exact D1K h
end Go.Proofs.YtibphjonmikciaaGreatDoor
namespace Go.Lin
open Go Go.Av Go.Lexs
structure FI(H:Heap)(b5 bv:Nat)(so:List LinV)(out:List VlV)(ob:Option Nat)(Hp:Heap):Prop where
 le:H.Le Hp
 h5:H b5=none
 hv:H bv=none
 e5:Hp b5=some (.box [.vec bv 3 0 so.length])
 ev:Hp bv=some (.vec 3 (Rw E4 so))
 eo:OutAt Hp 2 (Rw vlC out) ob
 no: ∀b,ob=some b→H b=none
 n5:ob≠some b5
 nv:ob≠some bv
end Go.Lin
namespace Go.Proofs.YtibphjonmikciaaGreatDoor
open Go Go.Av Go.Lexs Go.Lin
attribute [local irreducible] ACalls W4
end Go.Proofs.YtibphjonmikciaaGreatDoor
namespace Go.Av
structure BxI(H:Heap)(bx sz n:Nat)(X:List (List D))(rest:List D)(ob:Option Nat)(Hp:Heap):Prop where
 le:H.Le Hp
 hx:H bx=none
 ex:Hp bx=some (.box (J1 sz n ob::rest))
 eo:OutAt Hp sz X ob
 no: ∀b,ob=some b→H b=none
 nx:ob≠some bx
theorem B4i{H:Heap}{bx:Nat}(h:H bx=none)(sz:Nat)(rest:List D):BxI H bx sz 0 [] rest none (H.set bx (.box (.nilsl::rest))):=
 ⟨A0 h,h,A2 _ _,rfl,by simp,by simp⟩
theorem BxI.up{H Hp H':Heap}{bx sz n:Nat}{X:List (List D)}{rest:List D}{ob:Option Nat}(h:BxI H bx sz n X rest ob Hp)(d:Hp.Le H'):BxI H bx sz n X rest ob H':=
 ⟨h.le.trans d,h.hx,d _ _ h.ex,h.eo.up d,h.no,h.nx⟩
theorem BxI.ap{H Hp H0 H':Heap}{bx sz n m:Nat}{X Y:List (List D)}{rest:List D}{ob:Option Nat}{i:Nat}(h:BxI H bx sz n X rest ob Hp)(d:Hp.Le H0)(j:Apd H0 sz ob Y i H'):BxI H bx sz m Y rest (some i) (H'.set bx (.box (.vec i sz 0 m::rest)))∧H' bx=some (.box (J1 sz n ob::rest)):=by
 have e5:H' bx=some (.box (J1 sz n ob::rest)):=j.2.1 bx _ (d _ _ h.ex) h.nx;have p:i≠bx:=fun e=>by have:=j.1;rw[e,e5]at this;cases this
 have q:H i=none:=by
  rcases j.2.2 with g|g
  ·exact h.le.none (d.none g)
  ·exact h.no _ g
 refine⟨⟨fun k o hk=>?_,h.hx,A2 _ _,?_,fun b e=>by cases e;exact q,fun e=>p (by cases e;rfl)⟩,e5⟩
 ·rw[A3 _ (fun e=>by rw[e,h.hx]at hk;cases hk)];exact j.2.1 k o (d _ _ (h.le _ _ hk)) (fun e=>by have:=h.no _ e;rw[this]at hk;cases hk)
 ·show (H'.set bx _) i=_;rw[A3 _ p];exact j.1
end Go.Av
namespace Go.Proofs.YtibphjonmikciaaGreatDoor
open Go Go.Av Go.Lexs Go.Lin
attribute [local irreducible] ACalls W4
end Go.Proofs.YtibphjonmikciaaGreatDoor
namespace Go.Lin
open Go Go.Av Go.Lexs
theorem B7o{Q:D→Heap→Prop}{ds:List D}{x:D}{H:Heap}{b sz n:Nat}{es:List (List D)}(hb:H b=some (.vec sz es))(hn:n=es.length)(h:Fin Q (.tuple [.agg (.sl sz es::ds),x]) (H.del b)):Fin Q (.tuple [.agg (.vec b sz 0 n::ds),x]) H:=by
 subst hn;refine A4n hb (by simp) (fun i d d' h1 e=>?_) h
 match i with
 |0=>cases h1;cases e;exact .all
 |i+1=>
  simp only[D0L]at h1 e;rw[h1]at e;cases e;exact .same _
theorem A59(sz n:Nat)(ob:Option Nat):(D.one.match_1 (fun _=>Bool) (J1 sz n ob) (fun _=>false) (fun _=>false) (fun _=>false) fun _=>true)=true:=by cases ob<;>rfl
theorem G4{H Bs:Heap}{b:Nat}{x:Go.Av.Obj}(d:H.Le Bs)(h:H b=none):H.Le (Bs.set b x):=fun k o hk=>by
 rw[A3 _ (fun e=>by rw[e,h]at hk;cases hk)];exact d _ _ hk
end Go.Lin
namespace Go.Proofs.YtibphjonmikciaaGreatDoor
open Go Go.Av Go.Lexs Go.Lin
attribute [local irreducible] ACalls W4
end Go.Proofs.YtibphjonmikciaaGreatDoor
namespace Go.Av
theorem A43{P:Program}{f v sz n:Nat}{es:List (List D)}{ds m:List D}{H:Heap}{Q:D→Heap→Prop}(hb:H v=some (.vec sz es))(hn:n=es.length)(h:ACalls P f (.agg (.sl sz es::ds)::m) (H.del v) Q):ACalls P f (.agg (.vec v sz 0 n::ds)::m) H Q:=by
 subst hn;refine ACalls.shift (args':=.agg (.sl sz es::ds)::m) (fun w vs h1 p hs=>?_) h;have g:=D9 H v;refine⟨by simpa using h1,fun i d q=>?_,hs.less g,fun k hn=>g.held hn⟩
 match i with
 |0=>
  cases q;have j:=p 0 _ rfl;revert j;generalize vs.getD 0 undef=v1;intro j;cases j with
  |agg _ us o ho hr=>
   refine .agg _ us (by simpa using o) (fun i d' e=>?_) (fun i d' e=>?_)
   ·cases i with
    |zero=>cases e;rfl
    |succ i=>exact ho (i+1) d' e
   ·cases i with
    |zero=>
     cases e;have r:Fz v sz es (.vec v sz 0 es.length) (.sl sz es):=.all;exact r.R hs hb (hr 0 _ rfl)
    |succ i=>exact(hr (i+1) d' e).less g
 |i+1=>exact(p (i+1) d (by simpa using q)).less g
end Go.Av
namespace Go.Lin
open Go Go.Av Go.Lexs
theorem B0W{a:LinV}(h:validL a=true): ∀t∈a.t,t.c≠0∧t.c.natAbs≤1048576:=fun t d=>by
 have:=(M7 (L9 h).t t d)
 exact⟨this.2.1,by have:=this.2.2;omega⟩
theorem _root_.Go.Av.BxI.fin{H0 H Hp:Heap}{bx sz n d b:Nat}{X:List (List D)}{rest cs:List D}{T:Option TypeId}{x:Go.Av.Obj}(h:BxI H bx sz n X rest (some b) Hp)(g:H0.Le H)(i:H0 d=none)(j:Hp d=some (.box cs T)):(Hp.set d x) b=some (.vec sz X)∧H0.Le ((Hp.set d x).del b):=by
 have hb:Hp b=some (.vec sz X):=h.eo;have m:b≠d:=fun e=>by rw[e,j]at hb;cases hb
 refine⟨by rw[A3 _ m];exact hb,fun k o hk=>?_⟩;have h1:=g _ _ hk;have p:k≠b:=fun e=>by have:=h.no b rfl;rw[←e,h1]at this;cases this
 rw[F0 p,A3 _ (fun e=>by rw[e,i]at hk;cases hk)];exact h.le _ _ h1
theorem _root_.Go.Av.BxI.re{H Hp:Heap}{bx sz n:Nat}{X:List (List D)}{rest:List D}{ob:Option Nat}(h:BxI H bx sz n X rest ob Hp)(d:List D):BxI H bx sz n X d ob (Hp.set bx (.box (J1 sz n ob::d))):=by
 refine⟨fun k o hk=>?_,h.hx,A2 _ _,?_,h.no,h.nx⟩
 ·rw[A3 _ (fun e=>by rw[e,h.hx]at hk;cases hk)];exact h.le _ _ hk
 ·have:=h.eo;cases ob with
  |none=>exact this
  |some b=>
   show (Hp.set bx _) b=_;rw[A3 _ (fun e=>h.nx (by rw[e]))];exact this
theorem A6A{C T:Nat→Heap→Prop}{G:Prop}(h:(∀b H,C b H→T b H)→G)(t: ∀b H,C b H→T b H):G:=h t
end Go.Lin
namespace Go.Proofs.YtibphjonmikciaaGreatDoor
open Go Go.Av Go.Lexs Go.Lin
attribute [local irreducible] ACalls W4
end Go.Proofs.YtibphjonmikciaaGreatDoor
namespace Go.Lin
open Go Go.Av Go.Lexs
def nsD:List ByteArray→D
 | []=>.nilsl
 |x::l=>.sl 1 (Rw a7 (x::l))
@[simp] theorem C9U:nsD []= .nilsl:=rfl
end Go.Lin
namespace Go.Proofs.YtibphjonmikciaaGreatDoor
open Go Go.Av Go.Lexs Go.Lin
attribute [local irreducible] ACalls W4
theorem B9K{Q}(a:LinV)(r:a8 a)(H:Heap)(h:Q (.bool true) H):D7 60 [.agg (E4 a),.agg (E4 a)] H Q:=by
 refine A8 [(6,.par)] A5 Tryz.func60 rfl ?_;simp only[go_sem,seval,Tryz.results60];intro d u e p;simp only[A6]at p;have e2:((H.set d (.box (E4 a))).set e (.box (E4 a))) d=some (.box (E4 a)):=by rw[A3 _ p.1.symm,A2]
 have e3:((H.set d (.box (E4 a))).set e (.box (E4 a))) e=some (.box (E4 a)):=A2 _ _;have m:H.Le ((H.set d (.box (E4 a))).set e (.box (E4 a))):=(A0 u).trans (A0 (by simp only[A6];exact p));generalize (H.set d (.box (E4 a))).set e (.box (E4 a))=Bs at e2 e3 m⊢;have x:d∈[d,e]:=by simp
 have y:e∈[d,e]:=by simp
 have hlen:=r.len;obtain⟨T,K,E⟩:=a;have hlen:T.length≤5864062014639:=hlen;have q:(E==E)=true:=by cases E<;>rfl
 repeat' simp only[go_sem,seval,e2,e3,q]
 refine C9 [2,3,29] (fun(i:Nat)=>[(30,.int .i64 i)]) (fun(i:Nat)=>Bs) (fun(i:Nat)=>i≤T.length) (fun(i:Nat)=>T.length-i) (0) (D0A _) (by(try simp only[go_sem,seval])<;>(try simp(disch:=omega) [A4])) (by first|exact D1G _|exact A0 (by assumption)|exact B2 (by assumption)|simp only[Heap.Le,Heap.set,Heap.del]at* <;>grind) ?_;rintro z rfl i A;by_cases g:i<T.length
 ·have j:decide ((i:Int)<T.length)=true:=C9r (by omega);have o:(i:Int)<T.length:=by omega
  repeat' simp only[go_sem,seval,j,o,A9 _ _ g,C1 _ _ g]
  refine F5 (fun C=>.undef) [d,e] ?_;repeat' (first|with_reducible apply C9p|simp only[go_sem,seval,j,o,A9 _ _ g,C1 _ _ g,e2,e3,x,y]|simp(disch:=omega) only[A4,A9]|omega)
  exact C2 (i+1) (by omega) (by omega) (by(try simp only[go_sem,seval])<;>(try simp(disch:=omega) [A4])) (by simp only[E6,D2,D3]at* <;>grind)
 ·have j:decide ((i:Int)<T.length)=false:=C9s (by omega);repeat' simp only[go_sem,seval,j]
  exact D1H m h
end Go.Proofs.YtibphjonmikciaaGreatDoor
namespace Go.Lin
open Go Go.Av Go.Lexs
theorem M0(n:Int):Lib.itoa n=(if n<0 then [45]else [])++dec n.natAbs:=by
 unfold Lib.itoa dec;by_cases h:n<0
 ·rw[if_pos h,if_pos h];rfl
 ·rw[if_neg h,if_neg h];have:n.toNat=n.natAbs:=by omega
  rw[this];rfl
theorem A6B(n:Int)(h:n.natAbs<10000000000000000000):(Lib.itoa n).length≤20:=by
 rw[M0,C9v];have:=A48 18 n.natAbs (by omega);split<;>simp<;>omega
theorem B6h{α :Type}(T:List α)(i:Nat)(h:i<T.length):(T.take i).isEmpty=decide (i=0):=by
 cases T with
 |nil=>simp at h
 |cons x T=>cases i<;>simp
end Go.Lin
namespace Go.Proofs.YtibphjonmikciaaGreatDoor
open Go Go.Av Go.Lexs Go.Lin
attribute [local irreducible] ACalls W4
set_option maxHeartbeats 1000000 in
theorem B6i{Q}(a:LinV)(fa:a8 a)(H:Heap)(hT:Tabs H)(h:Q (.tuple [.str (if validL a=true then S (F2 a)else S []),.int .i64 (if validL a=true then 0 else 2)]) H):D7 115 [.agg (E4 a)] H Q:=by
 refine A8 [] A5 Tryz.func115 rfl ?_;simp only[go_sem,seval,Tryz.results115];intro b2 g2;have e2:(H.set b2 (.box (E4 a))) b2=some (.box (E4 a)):=A2 _ _;have m:H.Le (H.set b2 (.box (E4 a))):=A0 g2;generalize H.set b2 (.box (E4 a))=Bs at e2 m⊢;have a0:=hT.le m;by_cases c:validL a=true
 ·rw[if_pos c,if_pos c]at h;have hlen:=(L9 c).len;have vt:=B0W c;have nm: ∀t∈a.t,t.v.size≤200:=fun t ht=>A7T ((M7 (L9 c).t t ht).1);repeat' (first|simp only[go_sem,seval,e2,c]|with_reducible refine A8O a fa _ ?_)
  refine C9 [1,12,13] (fun(p:Nat×ByteArray×Heap)=>[(14,.int .i64 p.1),(4,.str p.2.1)]) (fun(p:Nat×ByteArray×Heap)=>p.2.2) (fun(p:Nat×ByteArray×Heap)=>p.1≤a.t.length∧B p.2.1=L0 true (a.t.take p.1)∧p.2.1.size≤1000*p.1∧Bs.Le p.2.2) (fun(p:Nat×ByteArray×Heap)=>a.t.length-p.1) ((0,⟨#[]⟩,Bs)) (⟨D0A _,rfl,D0A _,D1G _⟩) (by(try simp only[go_sem,seval])<;>(try simp(disch:=omega) [A4])) (by first|exact D1G _|exact A0 (by assumption)|exact B2 (by assumption)|simp only[Heap.Le,Heap.set,Heap.del]at* <;>grind) ?_;rintro Ec rfl ⟨i,x,Hp⟩ ⟨hi,q,a4,hp⟩;simp only at hi q a4 hp;by_cases g:i<a.t.length
  ·have j:decide ((i:Int)<a.t.length)=true:=C9r (by omega);have C:(i:Int)<a.t.length:=by omega
   obtain⟨x0,x1⟩:=vt _ (C93 g);have a6:=nm _ (C93 g);have r:=a0.le hp;have hz: ∀b o,Hp b=none→Tabs (Hp.set b o):=fun b o hb=>r.le (A0 hb);have G:(⟨#[45]⟩:ByteArray).size=1:=rfl;have z:(⟨#[43]⟩:ByteArray).size=1:=rfl;have I:(⟨#[42]⟩:ByteArray).size=1:=rfl;have Y:L0 true (a.t.take (i+1))=L0 true (a.t.take i)++S8 (decide (i=0)) a.t[i]:=by rw[C98 g,A9r,B6h _ _ g,Bool.true_and]
   have ws:IntKind.i64.wrap (0-a.t[i].c)= -a.t[i].c:=by rw[A4 (by omega) (by omega)];omega
   have u:=A6B a.t[i].c (by omega);by_cases J:a.t[i].c<0
   ·have u:=A6B (-a.t[i].c) (by omega);by_cases V: -a.t[i].c=1
    ·have W:True:=trivial;repeat' (first|with_reducible apply C9p|simp only[go_sem,seval,j,C,A9 _ _ g,C1 _ _ g,ws,J,V,W,u]|simp(disch:=omega) only[A4,A9]|intro M|omega)
     have O:a.t[i].c.natAbs=1:=by omega
     have T:Lib.itoa (-a.t[i].c)=dec a.t[i].c.natAbs:=by rw[M0,if_neg (by omega),D01]<;>(try(congr 1;omega))
     skip
     refine C2 (i+1,x++⟨#[45]⟩++a.t[i].v,_) ⟨by simp only[];omega,?_,?_,hp.trans (A0 (by assumption))⟩ (by simp only[];omega) (by(try simp only[go_sem,seval])<;>(try simp(disch:=omega) [A4])) (D1G _)
     ·simp only[u0,l9,A0I,q,Y,S8,O,J,T,if_true,if_false];simp
     ·simp only[ByteArray.size_append,O1,G,z,I];omega
    ·have W:True:=trivial;repeat' (first|with_reducible apply C9p|simp only[go_sem,seval,j,C,A9 _ _ g,C1 _ _ g,ws,J,V,W,u]|simp(disch:=omega) only[A4,A9]|intro M|with_reducible refine A1K _ (by omega) (by omega) _ (hz _ _ (by assumption)) ?_|omega)
     have O: ¬a.t[i].c.natAbs=1:=by omega
     have T:Lib.itoa (-a.t[i].c)=dec a.t[i].c.natAbs:=by rw[M0,if_neg (by omega),D01]<;>(try(congr 1;omega))
     skip
     refine C2 (i+1,x++⟨#[45]⟩++(S (Lib.itoa (-a.t[i].c))++⟨#[42]⟩)++a.t[i].v,_) ⟨by simp only[];omega,?_,?_,hp.trans (A0 (by assumption))⟩ (by simp only[];omega) (by(try simp only[go_sem,seval])<;>(try simp(disch:=omega) [A4])) (D1G _)
     ·simp only[u0,l9,A0I,q,Y,S8,O,J,T,if_true,if_false];simp
     ·simp only[ByteArray.size_append,O1,G,z,I];omega
   ·by_cases W:(0:Int)<i
    ·by_cases V:a.t[i].c=1
     ·repeat' (first|with_reducible apply C9p|simp only[go_sem,seval,j,C,A9 _ _ g,C1 _ _ g,ws,J,V,W,u]|simp(disch:=omega) only[A4,A9]|intro M|omega)
      have O:a.t[i].c.natAbs=1:=by omega
      have T:Lib.itoa a.t[i].c=dec a.t[i].c.natAbs:=by rw[M0,if_neg (by omega),D01]<;>(try(congr 1;omega))
      have X:decide (i=0)=false:=by simp;omega
      refine C2 (i+1,x++⟨#[43]⟩++a.t[i].v,_) ⟨by simp only[];omega,?_,?_,hp.trans (A0 (by assumption))⟩ (by simp only[];omega) (by(try simp only[go_sem,seval])<;>(try simp(disch:=omega) [A4])) (D1G _)
      ·simp only[u0,l9,A0I,q,Y,S8,O,J,T,X,if_true,if_false];simp
      ·simp only[ByteArray.size_append,O1,G,z,I];omega
     ·repeat' (first|with_reducible apply C9p|simp only[go_sem,seval,j,C,A9 _ _ g,C1 _ _ g,ws,J,V,W,u]|simp(disch:=omega) only[A4,A9]|intro M|with_reducible refine A1K _ (by omega) (by omega) _ (hz _ _ (by assumption)) ?_|omega)
      have O: ¬a.t[i].c.natAbs=1:=by omega
      have T:Lib.itoa a.t[i].c=dec a.t[i].c.natAbs:=by rw[M0,if_neg (by omega),D01]<;>(try(congr 1;omega))
      have X:decide (i=0)=false:=by simp;omega
      refine C2 (i+1,x++⟨#[43]⟩++(S (Lib.itoa a.t[i].c)++⟨#[42]⟩)++a.t[i].v,_) ⟨by simp only[];omega,?_,?_,hp.trans (A0 (by assumption))⟩ (by simp only[];omega) (by(try simp only[go_sem,seval])<;>(try simp(disch:=omega) [A4])) (D1G _)
      ·simp only[u0,l9,A0I,q,Y,S8,O,J,T,X,if_true,if_false];simp
      ·simp only[ByteArray.size_append,O1,G,z,I];omega
    ·by_cases V:a.t[i].c=1
     ·repeat' (first|with_reducible apply C9p|simp only[go_sem,seval,j,C,A9 _ _ g,C1 _ _ g,ws,J,V,W,u]|simp(disch:=omega) only[A4,A9]|intro M|omega)
      have O:a.t[i].c.natAbs=1:=by omega
      have T:Lib.itoa a.t[i].c=dec a.t[i].c.natAbs:=by rw[M0,if_neg (by omega),D01]<;>(try(congr 1;omega))
      have X:decide (i=0)=true:=by simp;omega
      refine C2 (i+1,x++a.t[i].v,_) ⟨by simp only[];omega,?_,?_,hp.trans (A0 (by assumption))⟩ (by simp only[];omega) (by(try simp only[go_sem,seval])<;>(try simp(disch:=omega) [A4])) (D1G _)
      ·simp only[u0,l9,A0I,q,Y,S8,O,J,T,X,if_true,if_false];simp
      ·simp only[ByteArray.size_append,O1,G,z,I];omega
     ·repeat' (first|with_reducible apply C9p|simp only[go_sem,seval,j,C,A9 _ _ g,C1 _ _ g,ws,J,V,W,u]|simp(disch:=omega) only[A4,A9]|intro M|with_reducible refine A1K _ (by omega) (by omega) _ (hz _ _ (by assumption)) ?_|omega)
      have O: ¬a.t[i].c.natAbs=1:=by omega
      have T:Lib.itoa a.t[i].c=dec a.t[i].c.natAbs:=by rw[M0,if_neg (by omega),D01]<;>(try(congr 1;omega))
      have X:decide (i=0)=true:=by simp;omega
      refine C2 (i+1,x++(S (Lib.itoa a.t[i].c)++⟨#[42]⟩)++a.t[i].v,_) ⟨by simp only[];omega,?_,?_,hp.trans (A0 (by assumption))⟩ (by simp only[];omega) (by(try simp only[go_sem,seval])<;>(try simp(disch:=omega) [A4])) (D1G _)
      ·simp only[u0,l9,A0I,q,Y,S8,O,J,T,X,if_true,if_false];simp
      ·simp only[ByteArray.size_append,O1,G,z,I];omega
  ·have j:decide ((i:Int)<a.t.length)=false:=C9s (by omega);have a5:i=a.t.length:=by omega
   subst a5;have y:=hp _ _ e2;have r:=a0.le hp;rw[List.take_length]at q;have vk:=(L9 c).k;have u:=A6B a.k (by omega);have z:(⟨#[43]⟩:ByteArray).size=1:=rfl;by_cases t0:a.t= []
   ·have U:(a.t.length:Int)=0:=by rw[t0];rfl
    have x0:x=⟨#[]⟩:=i7 (by rw[q,t0];rfl);by_cases d:a.e=true
    ·have d:a.e=true:=d;have A:B (x++S (Lib.itoa a.k)++⟨#[61,48]⟩)=F2 a:=by
      unfold F2 L7 Q9;simp[u0,l9,A0I,q,d,z8,M0,t0]
     have hs:S (F2 a)=x++S (Lib.itoa a.k)++⟨#[61,48]⟩:=i7 (by rw[l9,A]);rw[hs]at h;repeat' (first|with_reducible apply C9p|simp only[go_sem,seval,j,y,d,U]|with_reducible refine A1K _ (by omega) (by omega) _ r ?_|omega)
     exact D1H (m.trans hp) h
    ·have d:a.e=false:=by simpa using d
     have A:B (x++S (Lib.itoa a.k)++⟨#[62,61,48]⟩)=F2 a:=by
      unfold F2 L7 Q9;simp[u0,l9,A0I,q,d,z8,M0,t0]
     have hs:S (F2 a)=x++S (Lib.itoa a.k)++⟨#[62,61,48]⟩:=i7 (by rw[l9,A]);rw[hs]at h;repeat' (first|with_reducible apply C9p|simp only[go_sem,seval,j,y,d,U]|with_reducible refine A1K _ (by omega) (by omega) _ r ?_|omega)
     exact D1H (m.trans hp) h
   ·have U: ¬(a.t.length:Int)=0:=fun e=>t0 (D0D (by omega));have l1:(0:Int)<a.t.length:=by omega
    have le:a.t.isEmpty=false:=by cases h:a.t with|nil=>exact absurd h t0|cons=>rfl
    by_cases L:a.k=0
    ·by_cases d:a.e=true
     ·have d:a.e=true:=d;have A:B (x++⟨#[61,48]⟩)=F2 a:=by
       unfold F2 L7 Q9;simp[u0,l9,A0I,q,d,z8,M0,L,t0]
      have hs:S (F2 a)=x++⟨#[61,48]⟩:=i7 (by rw[l9,A]);rw[hs]at h;repeat' (first|with_reducible apply C9p|simp only[go_sem,seval,j,y,d,U,l1,L]|omega)
      exact D1H (m.trans hp) h
     ·have d:a.e=false:=by simpa using d
      have A:B (x++⟨#[62,61,48]⟩)=F2 a:=by
       unfold F2 L7 Q9;simp[u0,l9,A0I,q,d,z8,M0,L,t0]
      have hs:S (F2 a)=x++⟨#[62,61,48]⟩:=i7 (by rw[l9,A]);rw[hs]at h;repeat' (first|with_reducible apply C9p|simp only[go_sem,seval,j,y,d,U,l1,L]|omega)
      exact D1H (m.trans hp) h
    ·by_cases k1:0<a.k
     ·have k2: ¬a.k<0:=by omega
      by_cases d:a.e=true
      ·have d:a.e=true:=d;have A:B (x++⟨#[43]⟩++S (Lib.itoa a.k)++⟨#[61,48]⟩)=F2 a:=by
        unfold F2 L7 Q9;simp[u0,l9,A0I,q,d,z8,M0,L,t0,k2,le]
       have hs:S (F2 a)=x++⟨#[43]⟩++S (Lib.itoa a.k)++⟨#[61,48]⟩:=i7 (by rw[l9,A]);rw[hs]at h;repeat' (first|with_reducible apply C9p|simp only[go_sem,seval,j,y,d,U,l1,L,k1]|with_reducible refine A1K _ (by omega) (by omega) _ r ?_|omega)
       exact D1H (m.trans hp) h
      ·have d:a.e=false:=by simpa using d
       have A:B (x++⟨#[43]⟩++S (Lib.itoa a.k)++⟨#[62,61,48]⟩)=F2 a:=by
        unfold F2 L7 Q9;simp[u0,l9,A0I,q,d,z8,M0,L,t0,k2,le]
       have hs:S (F2 a)=x++⟨#[43]⟩++S (Lib.itoa a.k)++⟨#[62,61,48]⟩:=i7 (by rw[l9,A]);rw[hs]at h;repeat' (first|with_reducible apply C9p|simp only[go_sem,seval,j,y,d,U,l1,L,k1]|with_reducible refine A1K _ (by omega) (by omega) _ r ?_|omega)
       exact D1H (m.trans hp) h
     ·have k2:a.k<0:=by omega
      by_cases d:a.e=true
      ·have d:a.e=true:=d;have A:B (x++S (Lib.itoa a.k)++⟨#[61,48]⟩)=F2 a:=by
        unfold F2 L7 Q9;simp[u0,l9,A0I,q,d,z8,M0,L,t0,k2,le]
       have hs:S (F2 a)=x++S (Lib.itoa a.k)++⟨#[61,48]⟩:=i7 (by rw[l9,A]);rw[hs]at h;repeat' (first|with_reducible apply C9p|simp only[go_sem,seval,j,y,d,U,l1,L,k1]|with_reducible refine A1K _ (by omega) (by omega) _ r ?_|omega)
       exact D1H (m.trans hp) h
      ·have d:a.e=false:=by simpa using d
       have A:B (x++S (Lib.itoa a.k)++⟨#[62,61,48]⟩)=F2 a:=by
        unfold F2 L7 Q9;simp[u0,l9,A0I,q,d,z8,M0,L,t0,k2,le]
       have hs:S (F2 a)=x++S (Lib.itoa a.k)++⟨#[62,61,48]⟩:=i7 (by rw[l9,A]);rw[hs]at h;repeat' (first|with_reducible apply C9p|simp only[go_sem,seval,j,y,d,U,l1,L,k1]|with_reducible refine A1K _ (by omega) (by omega) _ r ?_|omega)
       exact D1H (m.trans hp) h
 ·rw[if_neg c,if_neg c]at h;have c:validL a=false:=by simpa using c
  repeat' (first|simp only[go_sem,seval,e2,c]|with_reducible refine A8O a fa _ ?_)
  exact D1H m h
end Go.Proofs.YtibphjonmikciaaGreatDoor
namespace Go.Lin
open Go Go.Av Go.Lexs
theorem B6j(l:List UInt8)(c:UInt8)(h:c∈l):Lib.indexByte l c=((l.takeWhile (· != c)).length:Int)∧(l.takeWhile (· != c)).length<l.length:=by
 induction l with
 |nil=>cases h
 |cons b l d=>
  unfold Lib.indexByte;by_cases e:b=c
  ·subst e;simp
  ·have e1:(b==c)=false:=by simpa using e
   have hm:c∈l:=(D0H.1 h).resolve_left (fun g=>e g.symm);obtain⟨i,j⟩:=d hm;have e2:(b != c)=true:=by simp[e]
   rw[e1,i,List.takeWhile_cons,if_pos e2];have e3:(((l.takeWhile (· != c)).length:Int)== -1)=false:=by
    simp only[beq_eq_false_iff_ne,ne_eq];omega
   rw[e3];simp only[C95,if_false,C9u];omega
theorem B6k(l:List UInt8)(c:UInt8)(h:c∉l):Lib.indexByte l c= -1:=by
 induction l with
 |nil=>rfl
 |cons b l d=>
  unfold Lib.indexByte;have e1:(b==c)=false:=by
   simp only[beq_eq_false_iff_ne,ne_eq];rintro rfl;exact h (C90 ..)
  rw[e1,d (fun g=>h (C97 _ g))];rfl
theorem B9L(l:List UInt8)(p:UInt8→Bool):l.take (l.takeWhile p).length=l.takeWhile p:=by
 induction l with
 |nil=>rfl
 |cons b l d=>rw[List.takeWhile_cons];split<;>simp[d]
theorem B9M(l:List UInt8)(p:UInt8→Bool):l.drop (l.takeWhile p).length=l.dropWhile p:=by
 induction l with
 |nil=>rfl
 |cons b l d=>rw[List.takeWhile_cons,List.dropWhile_cons];split<;>simp[d]
theorem A6C{l c n:List UInt8}(h:A0A l=some (c,n)):Lib.indexByte l 42=(c.length:Int)∧c.length<l.length∧l.take c.length=c∧l.drop (c.length+1)=n:=by
 unfold A0A at h;split at h
 ·rename_i hm;injection h with h
  have h1:l.takeWhile (· != 42)=c:=congrArg Prod.fst h;have i:(l.dropWhile (· != 42)).drop 1=n:=congrArg Prod.snd h;obtain⟨e,g⟩:=B6j l 42 hm;have t:=B9L l (· != 42);have d:=B9M l (· != 42);rw[h1]at e g t d;refine⟨e,g,t,?_⟩;rw[←i,←d,D0z]
 ·cases h
theorem B6l{l:List UInt8}(h:A0A l=none):Lib.indexByte l 42= -1:=by
 unfold A0A at h;split at h
 ·cases h
 ·rename_i hm;exact B6k l 42 hm
end Go.Lin
namespace Go.Proofs.YtibphjonmikciaaGreatDoor
open Go Go.Av Go.RowKit Go.Lexs Go.Lin
attribute [local irreducible] ACalls W4
theorem B25{Q}(s:ByteArray)(H:Heap)(h:Q (.int .i64 (Lib.indexByte (B s) 42)) H):D7 236 [.str s,.str ⟨#[42]⟩] H Q:=
 I4 (by kernel_rfl) (fun w vs hl hr hs=>by
  obtain⟨a,b,rfl,d,hb⟩:=x9 hl hr;rw[d.str_inv,hb.str_inv];refine(Tryz.stringslite_Index_one s 42 w).mono fun e w' ⟨he,hw⟩=>?_;subst hw;exact⟨_,he,Below.refl _ _,.int _ _⟩) h
theorem C24{Q}(s:ByteArray)(c n:List UInt8)(hc:A0A (B s)=some (c,n))(hsz:s.size≤1000000000000)(H:Heap)(h:Q (.tuple [.str (S c),.str (S n),.bool true]) H):D7 216 [.str s,.str ⟨#[42]⟩] H Q:=by
 refine A8 [] A5 Tryz.func216 rfl ?_;simp only[go_sem,seval,Tryz.results216];obtain⟨h1,o,i,j⟩:=A6C hc;have hl:=Y7 s;have d:((⟨#[42]⟩:ByteArray).size:Int)=1:=rfl;have hw:IntKind.i64.wrap ((c.length:Int)+1)=(c.length:Int)+1:=A4 (by omega) (by omega);have e:(0:Int)≤(c.length:Int)+1:=by omega
 have hk:(c.length:Int)≤s.size:=by omega
 have g:(c.length:Int)+1≤s.size:=by omega
 repeat' (first|with_reducible apply C9p|simp only[go_sem,seval,h1,d,hw,hk,g,e]|intro m|with_reducible refine B25 s _ ?_|omega)
 rw[i,j];exact D1K h
theorem C25{Q}(s:ByteArray)(c n:List UInt8)(hc:A0A (B s)=some (c,n))(hsz:s.size≤1000000000000)(H:Heap)(h:Q (.tuple [.str (S c),.str (S n),.bool true]) H):D7 187 [.str s,.str ⟨#[42]⟩] H Q:=by
 refine A8 [] A5 Tryz.func187 rfl ?_;simp only[go_sem,seval,Tryz.results187];repeat' (first|simp only[go_sem,seval]|with_reducible refine C24 s c n hc hsz _ ?_)
 exact D1K h
theorem C26{Q}(s:ByteArray)(hc:A0A (B s)=none)(H:Heap)(h:Q (.tuple [.str s,.str ⟨#[]⟩,.bool false]) H):D7 216 [.str s,.str ⟨#[42]⟩] H Q:=by
 refine A8 [] A5 Tryz.func216 rfl ?_;simp only[go_sem,seval,Tryz.results216];have h1:=B6l hc;repeat' (first|simp only[go_sem,seval,h1]|with_reducible refine B25 s _ ?_)
 exact D1K h
theorem A8X{Q}(s:ByteArray)(hc:A0A (B s)=none)(H:Heap)(h:Q (.tuple [.str s,.str ⟨#[]⟩,.bool false]) H):D7 187 [.str s,.str ⟨#[42]⟩] H Q:=by
 refine A8 [] A5 Tryz.func187 rfl ?_;simp only[go_sem,seval,Tryz.results187];repeat' (first|simp only[go_sem,seval]|with_reducible refine C26 s hc _ ?_)
 exact D1K h
theorem B9N{Q}(s:ByteArray)(hsz:s.size≤1000000000000)(v:Int)(hv:Lib.atoiAll (B s)= .ok v)(H:Heap)(h:Q (.tuple [.int .i64 v,.nilif]) H):D7 188 [.str s] H Q:=
 I4 (by kernel_rfl) (fun w vs hl hr hs=>by
  obtain⟨a,rfl,j⟩:=A1m hl hr;rw[j.str_inv];refine(Tryz.strconv_Atoi_ok s (by omega) v hv w).mono fun e w' ⟨he,hw⟩=>?_;have m:Below w.heap.size w w':=by
   rcases hw with rfl|⟨t,rfl⟩
   ·exact Below.refl _ _
   ·exact A9l _ _ _
  exact⟨_,he,m,.tuple _ _ rfl fun i d g=>(match i,g with|0,g=>by simp at g;subst g;exact .int _ _|1,g=>by simp at g;subst g;exact .nilif|i+2,g=>by simp at g)⟩) h
theorem B0X{w:World}{H:Heap}{g t:Nat}(hs:Sat H w)(h:H g=some (.ro [.iface t .undef])): ∃v,w.cell? ⟨g,0,none⟩=some (.iface t v):=by
 obtain⟨c,T,m,h1,i,j⟩:=hs g _ h;have d:=(j 0 _ rfl).2;have o:c.size=1:=i;have e:w.cell? ⟨g,0,none⟩=some (c.getD 0 Go.undef):=by
  rw[S2 h1];have:0<c.size:=by omega
  simp[this]
 generalize c.getD 0 Go.undef=x at d e;cases d with
 |iface _ _ v hr=>exact⟨v,e⟩
theorem B9O{Q}(s:ByteArray)(hsz:s.size≤1000000000000)(hv: ∀v,Lib.atoiAll (B s)≠ .ok v)(H:Heap)(p:Tabs H)(h: ∀n t,Q (.tuple [.int .i64 n,.iface t .undef]) H):D7 188 [.str s] H Q:=by
 have q: ∀(w:World) (n:Int) (t:Nat) (v:Value),R w H (.tuple [.int .i64 n,.iface t .undef]) (.tuple #[.int .i64 n,.iface t v]):=fun w n t v=>
  .tuple _ _ rfl fun i d g=>(match i,g with|0,g=>by simp at g;subst g;exact .int _ _|1,g=>by simp at g;subst g;exact .iface _ _ _ (.undef _)|i+2,g=>by simp at g)
 cases hc:Lib.atoiAll (B s)with
 |ok v=>exact absurd hc (hv v)
 |range=>
  refine I4 (r:=.tuple [.int .i64 (Lib.atoiSat (B s)),.iface 266 .undef]) (by kernel_rfl) (fun w vs hl hr hs=>?_) (h _ _);obtain⟨a,rfl,j⟩:=A1m hl hr;rw[j.str_inv];obtain⟨t,m⟩:=p.rng;obtain⟨x,hx⟩:=B0X hs m;refine(Tryz.strconv_Atoi_range s (by omega) hc _ w hx (.inr ⟨_,_,rfl⟩)).mono fun e w' ⟨N,he,_,_,o⟩=>⟨_,he,o,q w' _ _ _⟩
 |_=>
  refine I4 (r:=.tuple [.int .i64 0,.iface 266 .undef]) (by kernel_rfl) (fun w vs hl hr hs=>?_) (h _ _);obtain⟨a,rfl,j⟩:=A1m hl hr;rw[j.str_inv];obtain⟨t,m⟩:=p.syn;obtain⟨x,hx⟩:=B0X hs m;refine(Tryz.strconv_Atoi_syntax s (by omega) hc _ w hx (.inr ⟨_,_,rfl⟩)).mono fun e w' ⟨N,he,_,_,o⟩=>⟨_,he,o,q w' _ _ _⟩
end Go.Proofs.YtibphjonmikciaaGreatDoor
namespace Go.Lin
open Go Go.Av Go.Lexs
theorem B9P{l:List UInt8}{k:Nat}(h:k<l.length):nth l k=(l[k].toNat:Int):=by simp[nth,h]
theorem A8Y{l:List UInt8}{k:Nat}(h:k<l.length):sgn l[k]=true↔(nth l k=43∨nth l k=45):=by
 rw[B9P h];unfold sgn;simp only[D1C,beq_iff_eq];constructor
 ·rintro(e|e)
  ·left;rw[e];rfl
  ·right;rw[e];rfl
 ·rintro(e|e)
  ·left;apply UInt8.toNat_inj.1;show _=43;omega
  ·right;apply UInt8.toNat_inj.1;show _=45;omega
theorem C6L:S []=⟨#[]⟩:=rfl
theorem C6M:S [49]=⟨#[49]⟩:=rfl
theorem B6m{P:Program}{t:Nat}(hb:C6 P t= .iface):K1 P .eql t true .nilif .nilif=some (.bool true):=by simp[K1,A5L,A87,hb]
theorem B6n{P:Program}{t u:Nat}{d:D}(hb:C6 P t= .iface):K1 P .eql t true (.iface u d) .nilif=some (.bool false):=by simp[K1,A5L,A87,hb]
theorem B26{p:UInt8→Bool}: ∀(l:List UInt8) (k:Nat),k≤l.length→(∀c∈l.take k,p c=true)→(∀h:k<l.length,p l[k]=false)→l.takeWhile p=l.take k∧l.dropWhile p=l.drop k
 | [],k,hk,_,_=>by simp
 |c::l,0,_,_,h=>by
  have:p c=false:=h (by simp);simp[this]
 |c::l,k+1,hk,h1,d=>by
  have hc:p c=true:=h1 c (by simp);obtain⟨a,b⟩:=B26 l k (by simpa using hk) (fun x hx=>h1 x (by simp[hx])) (fun h=>d (by simpa using h));simp[hc,a,b]
theorem A6j{p:UInt8→Bool}{v:Bool}{l:List UInt8}{k:Nat}(h:k<l.length)(h1: ∀c∈l.take k,p c=v)(d:p l[k]=v): ∀c∈l.take (k+1),p c=v:=fun c hc=>by
 rw[C98 h]at hc;rcases D0F.1 hc with g|g
 ·exact h1 c g
 ·rw[D0G]at g;subst g;exact d
theorem B1n{b:List UInt8}(h:y3 b=none):b= []:=by
 unfold y3 at h;cases hc:A0A b with
 |some p=>rw[hc]at h;cases h
 |none=>
  rw[hc]at h;simp only[]at h;split at h
  ·cases h
  ·split at h
   ·rename_i e;exact e
   ·cases h
theorem split_some{b c n:List UInt8}(h:y3 b=some (c,n)):A0A b=some (c,n)∨(A0A b=none∧b≠[]∧((P1 b=true∧c=b∧n= [])∨(P1 b=false∧c= [49]∧n=b))):=by
 unfold y3 at h;cases hc:A0A b with
 |some p=>rw[hc]at h;left;exact h
 |none=>
  rw[hc]at h;simp only[]at h
  right
  split at h
  ·rename_i d;injection h with h
   refine⟨rfl,?_,.inl ⟨d,(congrArg Prod.fst h).symm,(congrArg Prod.snd h).symm⟩⟩;rintro rfl;cases d
  ·rename_i d;split at h
   ·cases h
   ·rename_i e;injection h with h
    exact⟨rfl,e,.inr ⟨by simpa using d,(congrArg Prod.fst h).symm,(congrArg Prod.snd h).symm⟩⟩
theorem B4J{b c n:List UInt8}(h:y3 b=some (c,n)):c.length≤b.length+1:=by
 rcases split_some h with h|⟨_,d,⟨_,rfl,_⟩|⟨_,rfl,_⟩⟩
 ·have:=(A6C h).2.1;omega
 ·omega
 ·have:=List.length_pos_iff.2 d;simp
end Go.Lin
namespace Go.Proofs.YtibphjonmikciaaGreatDoor
open Go Go.Av Go.Lexs Go.Lin
attribute [local irreducible] ACalls W4
set_option maxHeartbeats 4000000 in
theorem C27{Q}(s:ByteArray)(x:UInt8)(r:List UInt8)(hB:B s=x::r)(hs:s.size≤1000000000)(H:Heap)(hT:Tabs H)
  (hN:M4 (x::r.takeWhile (!sgn ·))=none→∀v n z,Q (.tuple [.agg [.str v,.int .i64 n],.str z,.bool false]) H)
  (hY: ∀n v,M4 (x::r.takeWhile (!sgn ·))=some (n,v)→Q (.tuple [.agg [.str (S n),.int .i64 v],.str (S (r.dropWhile (!sgn ·))),.bool true]) H):
  D7 150 [.str s] H Q:=by
 refine A8 [(4,.wk),(8,.wk),(15,.wk)] A5 Tryz.func150 rfl ?_;simp only[go_sem,seval,Tryz.results150];have hl:=Y7 s;have c4:s.size=r.length+1:=by rw[←hl,hB];rfl
 intro j g2;have e2:(H.set j (.box [.str ⟨#[]⟩,.int .i64 0])) j=some (.box [.str ⟨#[]⟩,.int .i64 0]):=A2 _ _;have u:H.Le (H.set j (.box [.str ⟨#[]⟩,.int .i64 0])):=A0 g2;generalize H.set j (.box [.str ⟨#[]⟩,.int .i64 0])=Bs at e2 u⊢;have b7:=hT.le u;refine C9 [0,2] (fun(n:Nat)=>[(5,.int .i64 n)]) (fun(n:Nat)=>Bs) (fun(n:Nat)=>1≤n∧n-1≤r.length∧∀c∈r.take (n-1),sgn c=false) (fun(n:Nat)=>r.length+1-n) (1) (⟨C99 _,D0A _,by simp⟩) (by(try simp only[go_sem,seval])<;>(try simp(disch:=omega) [A4])) (by first|exact D1G _|exact A0 (by assumption)|exact B2 (by assumption)|simp only[Heap.Le,Heap.set,Heap.del]at* <;>grind) ?_;rintro Ec rfl n ⟨c5,hk,y⟩;obtain⟨k,b8⟩: ∃k,k=n-1:=⟨_,rfl⟩
 rw[←b8]at hk y;have W:n=k+1:=by omega
 apply A2G (C:=∀h:k<r.length,sgn r[k]=true)
 ·intro A;have hw:IntKind.i64.wrap ((n:Int)+1)=(n:Int)+1:=A4 (by omega) (by omega);have hn:W4 s (n:Int)=nth r k:=by
   rw[B8q,hB,show (n:Int).toNat=k+1 by omega];rfl
  by_cases G:k<r.length
  ·have I:decide ((n:Int)<s.size)=true:=C9r (by omega);have Y:(n:Int)<s.size:=by omega
   by_cases J:nth r k=43
   ·repeat' (first|with_reducible apply C9p|simp only[go_sem,seval,I,Y,hn,J,decide_true,decide_false,D1D]|omega)
    exact v8 [(0,.str s),(2,.box j 0),(5,.int .i64 n)] Bs (by simp only[go_sem,seval]) (D1G _) (A fun _=>(A8Y G).2 (.inl J))
   ·by_cases X:nth r k=45
    ·repeat' (first|with_reducible apply C9p|simp only[go_sem,seval,I,Y,hn,J,X,decide_true,decide_false,D1E,D1D]|omega)
     exact v8 [(0,.str s),(2,.box j 0),(5,.int .i64 n)] Bs (by simp only[go_sem,seval]) (D1G _) (A fun _=>(A8Y G).2 (.inr X))
    ·have i:sgn r[k]=false:=by
      rw[←D1B,A8Y G];rintro(g|g)
      ·exact J g
      ·exact X g
     repeat' (first|with_reducible apply C9p|simp only[go_sem,seval,I,Y,hn,J,X,decide_false,D1E]|simp(disch:=omega) only[A4]|omega)
     exact C2 (n+1) ⟨by omega,by omega,by rw[show n+1-1=k+1 by omega];exact A6j G y i⟩ (by omega) (by(try simp only[go_sem,seval])<;>(try simp(disch:=omega) [A4])) (by simp only[E6,D2,D3]at* <;>grind)
  ·have I:decide ((n:Int)<s.size)=false:=C9s (by omega);repeat' simp only[go_sem,seval,I]
   exact v8 [(0,.str s),(2,.box j 0),(5,.int .i64 n)] Bs (by simp only[go_sem,seval]) (D1G _) (A fun h=>absurd h G)
 intro a6;obtain⟨tw,dw⟩:=B26 (p:=(!sgn ·)) r k hk (fun c hc=>by rw[y c hc];rfl) (fun h=>by rw[a6 h];rfl);rw[tw]at hN hY;rw[dw]at hY;have hP:(B s).take n=x::r.take k:=by rw[hB,W];rfl
 have hD:(B s).drop n=r.drop k:=by rw[hB,W];rfl
 obtain⟨P,a9⟩: ∃P,P=x::r.take k:=⟨_,rfl⟩
 rw[←a9]at hN hY hP;have b9:P.length≤r.length+1:=by rw[a9];simp;omega
 have L:(n:Int)≤s.size:=by omega
 have M:n≤s.size:=by omega
 have tc: ∀(H:Heap) (Q:D→Heap→Prop),Q (.str (S (Lib.trimPrefix P [43]))) H→D7 185 [.str (S P),.str ⟨#[43]⟩] H Q:=fun H Q hq=>A8L _ _ H (by rw[l9];exact hq);obtain⟨d,O⟩: ∃d,d=Lib.trimPrefix P [43]:=⟨_,rfl⟩
 rw[←O]at tc;have b3:d.length≤r.length+1:=by
  rw[O];unfold Lib.trimPrefix;split
  ·rw[D0N];omega
  ·exact b9
 have b4: ∀(H:Heap) (Q:D→Heap→Prop),Q (.bool (Lib.hasPrefix d [45])) H→D7 186 [.str (S d),.str ⟨#[45]⟩] H Q:=fun H Q hq=>A92 _ _ H (by rw[l9];exact hq);obtain⟨U,i⟩: ∃U:Int,U=if(i8 P).1=true then-1 else 1:=⟨_,rfl⟩
 obtain⟨b,hb⟩: ∃b,b=(i8 P).2:=⟨_,rfl⟩
 have c6:b.length≤r.length+1:=by
  rw[hb];unfold i8;simp only[];rw[←O];split
  ·simp only[D0N];omega
  ·exact b3
 apply A2G (C:=True)
 ·intro A;by_cases hp:Lib.hasPrefix d [45]=true
  ·have a0:i8 P=(true,d.drop 1):=by unfold i8;simp only[];rw[←O,if_pos hp]
   have c0:1≤d.length:=by
    cases d with
    |nil=>cases hp
    |cons _ _=>simp
   have c1:1≤(S d).size:=by rw[O1];exact c0
   have b6:(1:Int)≤(S d).size:=by omega
   rw[a0]at i hb;simp only[if_true]at i hb;have c2:S ((B (S d)).drop 1)=S b:=by rw[l9,hb]
   repeat' (first|with_reducible apply C9p|simp only[go_sem,seval,L,M,hP,hp,c1,b6,c2]|with_reducible refine tc _ _ ?_|with_reducible refine b4 _ _ ?_|omega)
   exact v8 [(0,.str s),(2,.box j 0),(5,.int .i64 n),(6,.str (S b)),(7,.int .i64 U)] Bs (by simp only[go_sem,seval,i,hb]) (D1G _) (A trivial)
  ·have a0:i8 P=(false,d):=by unfold i8;simp only[];rw[←O,if_neg hp]
   have hp:Lib.hasPrefix d [45]=false:=by simpa using hp
   rw[a0]at i hb;simp only[C95,if_false]at i hb;repeat' (first|with_reducible apply C9p|simp only[go_sem,seval,L,M,hP,hp]|with_reducible refine tc _ _ ?_|with_reducible refine b4 _ _ ?_|omega)
   exact v8 [(0,.str s),(2,.box j 0),(5,.int .i64 n),(6,.str (S b)),(7,.int .i64 U)] Bs (by simp only[go_sem,seval,i,hb]) (D1G _) (A trivial)
 intro _;have c7:=O1 b;cases o:y3 b with
 |none=>
  have d:=B1n o;have a4:M4 P=none:=by unfold M4;rw[←hb,o]
  subst d;have cc: ∀(H:Heap) (Q:D→Heap→Prop),Q (.tuple [.str (S []),.str ⟨#[]⟩,.bool false]) H→D7 187 [.str (S []),.str ⟨#[42]⟩] H Q:=fun H Q hq=>A8X (S []) (by rw[l9];rfl) H hq;repeat' (first|simp only[go_sem,seval,e2]|with_reducible refine cc _ _ ?_)
  exact D1H (G4 u g2) (hN a4 _ _ _)
 |some p=>
  obtain⟨c,m⟩:=p;have c8:=B4J o;apply A2G (C:=True)
  ·intro A;rcases split_some o with T|⟨T,d,V⟩
   ·repeat' (first|simp only[go_sem,seval]|with_reducible refine C25 (S b) c m (by rw[l9];exact T) (by omega) _ ?_)
    exact v8 [(0,.str s),(2,.box j 0),(5,.int .i64 n),(7,.int .i64 U),(8,.str (S c)),(9,.str (S m))] Bs (by simp only[go_sem,seval]) (D1G _) (A trivial)
   ·have b1: ¬S b=⟨#[]⟩:=fun e=>d (by have:=congrArg B e;rwa [l9]at this);have bz:0<(S b).size:=by rw[O1];exact List.length_pos_iff.2 d
    have bi:(0:Int)<(S b).size:=by omega
    have a5:A0A (B (S b))=none:=by rw[l9];exact T
    rcases V with⟨V,rfl,rfl⟩|⟨V,rfl,rfl⟩
    ·have q:48≤nth c 0∧nth c 0≤57:=by unfold P1 at V;simp only[C92]at V;exact(A1F _).1 V.2
     obtain⟨J,X⟩:=q;repeat' (first|with_reducible apply C9p|simp only[go_sem,seval,d,b1,bz,bi,J,X]|with_reducible refine A8X (S c) a5 _ ?_|omega)
     exact v8 [(0,.str s),(2,.box j 0),(5,.int .i64 n),(7,.int .i64 U),(8,.str (S c)),(9,.str (S []))] Bs (by simp only[go_sem,seval,C6L]) (D1G _) (A trivial)
    ·have q: ¬(48≤nth m 0∧nth m 0≤57):=fun g=>by
      unfold P1 at V;rw[(A1F _).2 g]at V;simp[d]at V
     by_cases J:48≤nth m 0
     ·have X: ¬nth m 0≤57:=fun g=>q ⟨J,g⟩;repeat' (first|with_reducible apply C9p|simp only[go_sem,seval,d,b1,bz,bi,J,X]|with_reducible refine A8X (S m) a5 _ ?_|omega)
      exact v8 [(0,.str s),(2,.box j 0),(5,.int .i64 n),(7,.int .i64 U),(8,.str (S [49])),(9,.str (S m))] Bs (by simp only[go_sem,seval,C6M]) (D1G _) (A trivial)
     ·repeat' (first|with_reducible apply C9p|simp only[go_sem,seval,d,b1,bz,bi,J]|with_reducible refine A8X (S m) a5 _ ?_|omega)
      exact v8 [(0,.str s),(2,.box j 0),(5,.int .i64 n),(7,.int .i64 U),(8,.str (S [49])),(9,.str (S m))] Bs (by simp only[go_sem,seval,C6M]) (D1G _) (A trivial)
  intro _;by_cases hv: ∃v,Lib.atoiAll c= .ok v
  ·obtain⟨v,hv⟩:=hv;have c3:M4 P=some (m,IntKind.i64.wrap (U*v)):=by unfold M4;rw[←hb,o,i];simp only[];rw[hv]
   have hq: ∀x,K1 Tryz.prog .eql 140 (J9 (.tmp x)||J9 (.const .nilIface)) .nilif .nilif=some (.bool true):=fun x=>B6m (by kernel_rfl);repeat' (first|with_reducible apply C9p|simp only[go_sem,seval,e2,L,M,hD,hq]|with_reducible refine B9N (S c) (by rw[O1];omega) v (by rw[l9];exact hv) _ ?_|omega)
   exact D1H (G4 u g2) (hY _ _ c3)
  ·have hv: ∀v,Lib.atoiAll c≠ .ok v:=fun v g=>hv ⟨v,g⟩;have a4:M4 P=none:=by
    unfold M4;rw[←hb,o];cases hq:Lib.atoiAll c with
    |ok v=>exact absurd hq (hv v)
    |_=>simp only[]
   have hq: ∀x t,K1 Tryz.prog .eql 140 (J9 (.tmp x)||J9 (.const .nilIface)) (.iface t .undef) .nilif=some (.bool false):=fun x t=>B6n (by kernel_rfl);repeat' simp only[go_sem,seval,e2,L,M,hD]
   refine B9O (S c) (by rw[O1];omega) (fun v=>by rw[l9];exact hv v) _ b7 fun z t=>?_;repeat' (first|with_reducible apply C9p|simp only[go_sem,seval,e2,L,M,hD,hq]|omega)
   exact D1H (G4 u g2) (hN a4 _ _ _)
end Go.Proofs.YtibphjonmikciaaGreatDoor
namespace Go.Lin
open Go Go.Av Go.Lexs
def M5(l:List UInt8):LinV×Int:=match A0Z l with
 |none=>(nilL,30)
 |some a=>(a,0)
theorem B6o(n:Int):W3 (IntKind.i64.wrap n):=by
 unfold W3;rw[IntKind.wrap_i64];omega
theorem B4K(x:List UInt8):(i8 x).2.length≤x.length:=by
 have h:(Lib.trimPrefix x [43]).length≤x.length:=by
  unfold Lib.trimPrefix;split
  ·rw[D0N];omega
  ·exact C99 _
 unfold i8;simp only[];split
 ·simp only[D0N];omega
 ·exact h
theorem B6p{x n:List UInt8}{v:Int}(h:M4 x=some (n,v)):n.length≤x.length∧W3 v:=by
 unfold M4 at h;cases hs:y3 (i8 x).2 with
 |none=>rw[hs]at h;cases h
 |some p=>
  obtain⟨c,m⟩:=p;rw[hs]at h;simp only[]at h;split at h
  ·injection h with h
   have h1:m=n:=congrArg Prod.fst h;have d:IntKind.i64.wrap _=v:=congrArg Prod.snd h;refine⟨?_,by rw[←d];exact B6o _⟩;have hl:=B4K x;rw[←h1];rcases split_some hs with hc|⟨_,g,⟨_,_,rfl⟩|⟨_,_,rfl⟩⟩
   ·obtain⟨_,i,_,e⟩:=A6C hc;rw[←e,D0N];omega
   ·simp
   ·exact hl
  ·cases h
theorem C28(a:LinV){n:List UInt8}(v:Int)(h:n= []):A6f a (n,v)= {a with k:=v}:=by unfold A6f;rw[if_pos h]
theorem C29(a:LinV){n:List UInt8}(v:Int)(h:n≠[]):A6f a (n,v)= {a with t:=a.t++[⟨S n,v⟩]}:=by unfold A6f;rw[if_neg h]
theorem A7X(l m:List UInt8):(Lib.trimSuffix l m).length≤l.length:=by
 unfold Lib.trimSuffix;split
 ·rw[D0X];omega
 ·exact C99 _
def A2d(a:LinV)(l:List UInt8):Option LinV:=((O5 l).mapM M4).map (A1H a)
theorem B4L(a:LinV):A2d a []=some a:=by unfold A2d;rw[A2p];rfl
theorem B1o(a:LinV)(x:UInt8)(r:List UInt8)(h:M4 (x::r.takeWhile (!sgn ·))=none):A2d a (x::r)=none:=by
 unfold A2d;rw[A1p,List.mapM_cons,h];rfl
theorem B1p(a:LinV)(x:UInt8)(r:List UInt8){p}(h:M4 (x::r.takeWhile (!sgn ·))=some p):A2d a (x::r)=A2d (A6f a p) (r.dropWhile (!sgn ·)):=by
 unfold A2d;rw[A1p,List.mapM_cons,h];show Option.map _ ((List.mapM M4 _).bind _)=_;cases List.mapM M4 (O5 (r.dropWhile (!sgn ·)))<;>rfl
theorem C3A(l:List UInt8)(p:UInt8→Bool):(l.takeWhile p).length+(l.dropWhile p).length=l.length:=by
 rw[←C9v,List.takeWhile_append_dropWhile]
end Go.Lin
namespace Go.Proofs.YtibphjonmikciaaGreatDoor
open Go Go.Av Go.Lexs Go.Lin
attribute [local irreducible] ACalls W4
theorem Tabs.ro{H:Heap}(h:Tabs H):Tabs (roH H):=⟨A72 h.pow,let ⟨t,e⟩:=h.syn;⟨t,A72 e⟩,let ⟨t,e⟩:=h.rng;⟨t,A72 e⟩⟩
set_option maxHeartbeats 4000000 in
theorem B9Q{Q}(s:ByteArray)(hs:s.size≤1000000000)(H:Heap)(hT:Tabs H)(h:Q (.tuple [.agg (E4 (M5 (B s)).1),.int .i64 (M5 (B s)).2]) H):D7 120 [.str s] H Q:=by
 refine A8 [] A5 Tryz.func120 rfl ?_;simp only[go_sem,seval,Tryz.results120];have hl:=Y7 s;intro U C;have e2:(H.set U (.box [.nilsl,.int .i64 0,.bool false])) U=some (.box [.nilsl,.int .i64 0,.bool false]):=A2 _ _;have i:H.Le (H.set U (.box [.nilsl,.int .i64 0,.bool false])):=A0 C;generalize H.set U (.box [.nilsl,.int .i64 0,.bool false])=Bs at e2 i⊢;have a4:=hT.le i;obtain⟨b,hb⟩: ∃b,b=Lib.trimSuffix (B s) [61,48]:=⟨_,rfl⟩
 have b1:b.length≤s.size:=by rw[hb,←hl];exact A7X _ _
 obtain⟨eq,G⟩: ∃eq,eq=Lib.hasSuffix (B s) [61,48]:=⟨_,rfl⟩
 have cc: ∀(H:Heap) (Q:D→Heap→Prop),Q (.tuple [.str (S b),.bool eq]) H→D7 147 [.str s,.str ⟨#[61,48]⟩] H Q:=fun H Q hq=>A94 s _ (by omega) H (by rw[hb,G]at hq;exact hq);obtain⟨c,hc⟩: ∃c,c=Lib.trimSuffix b [62]:=⟨_,rfl⟩
 have a5:c.length≤s.size:=by have:=A7X b [62];rw[hc];omega
 obtain⟨I,V⟩: ∃I,I=Lib.hasSuffix b [62]:=⟨_,rfl⟩
 have sb:=O1 b;have tc: ∀(H:Heap) (Q:D→Heap→Prop),Q (.str (S c)) H→D7 148 [.str (S b),.str ⟨#[62]⟩] H Q:=fun H Q hq=>A8M _ _ (by omega) H (by rw[hc]at hq;rw[l9];exact hq);have gc: ∀(H:Heap) (Q:D→Heap→Prop),Q (.bool I) H→D7 149 [.str (S b),.str ⟨#[62]⟩] H Q:=fun H Q hq=>A93 _ _ (by omega) H (by rw[V]at hq;rw[l9];exact hq);have W:eq=false→M5 (B s)=(nilL,30):=fun e=>by
  unfold M5 A0Z A4d;rw[←G,e];rfl
 have X:eq=true→A4d (B s)=A2d ⟨[],0,!I⟩ c:=fun e=>by
  unfold A4d A2d;rw[←G,e,if_pos rfl];simp only[];rw[←hb,←hc,←V]
 cases eq with
 |false=>
  rw[W rfl]at h;repeat' (first|simp only[go_sem,seval,e2]|simp(disch:=first|omega|grind) only[B9]|intro d|with_reducible refine cc _ _ ?_|with_reducible refine tc _ _ ?_)
  exact E3 (A3T 0 30 false) (D1H (G4 (i.trans (A0 (by assumption))) C) h)
 |true=>
  have hR:=X rfl;clear W X;repeat' (first|simp only[go_sem,seval,e2]|intro d|with_reducible refine cc _ _ ?_|with_reducible refine tc _ _ ?_|with_reducible refine gc _ _ ?_)
  rename_i b6;have h6:=d;clear d;have f0:=B4i h6 2 [.int .i64 0,.bool !I];generalize Bs.set b6 (.box [.nilsl,.int .i64 0,.bool !I])=Hq at f0⊢;refine C9 [0,2,6] (fun(p:List UInt8×LinV×Option Nat×Heap)=>[(4,.str (S p.1))]) (fun(p:List UInt8×LinV×Option Nat×Heap)=>p.2.2.2) (fun(p:List UInt8×LinV×Option Nat×Heap)=>BxI Bs b6 2 p.2.1.t.length (Rw Q7 p.2.1.t) [.int .i64 p.2.1.k,.bool p.2.1.e] p.2.2.1 p.2.2.2∧A2d p.2.1 p.1=A4d (B s)∧p.2.1.t.length+p.1.length≤s.size∧(∀t∈p.2.1.t,t.v.size≤s.size∧W3 t.c)∧W3 p.2.1.k) (fun(p:List UInt8×LinV×Option Nat×Heap)=>p.1.length) ((c,⟨[],0,!I⟩,none,Hq)) (⟨f0,hR.symm,by simpa using a5,by simp,by unfold W3;simp⟩) (by simp only[go_sem,seval]) (by first|exact D1G _|exact A0 (by assumption)|exact B2 (by assumption)|simp only[Heap.Le,Heap.set,Heap.del]at* <;>grind) ?_;clear f0 h6;rintro Ec rfl ⟨l,a,ob,Hp⟩ ⟨j,hr,hsz,u,J⟩;simp only at j hr hsz u J;have Y:=a4.le j.le;cases l with
  |nil=>
   rw[B4L]at hr;have fa:a8 a:=⟨by simp at hsz;omega,fun t y=>by have:=(u t y).1;omega,fun t y=>(u t y).2,J⟩
   have L:=j.ex;have q:=j.le _ _ e2;have b3:b6≠U:=fun e=>by rw[e]at j;have:=j.hx;rw[e2]at this;cases this
   have tx: ∀(Q:D→Heap→Prop),Q (.tuple [.str (if validL a=true then S (F2 a)else S []),.int .i64 (if validL a=true then 0 else 2)]) Hp→D7 115 [.agg [J1 2 a.t.length ob,.int .i64 a.k,.bool a.e]] Hp Q:=fun Q hq=>A8u (by rw[D6]) j.eo (B6i a fa _ (Y.ro) ⟨rfl,hq⟩);have o1:(match J1 2 a.t.length ob with|D.undef=>false|D.agg cs=>false|D.tuple cs=>false|x=>true)=true:=by cases ob<;>rfl
   by_cases hv:validL a=true
   ·rw[if_pos hv,if_pos hv]at tx;by_cases y:F2 a=B s
    ·have hp:M5 (B s)=(a,0):=by unfold M5 A0Z;rw[←hr];simp only[D0J];rw[if_pos ⟨hv,y⟩]
     rw[hp]at h;repeat' (first|with_reducible apply C9p|simp only[go_sem,seval,q,L,y,o1]|simp(disch:=first|omega|grind) only[B9]|with_reducible refine tx _ ?_)
     cases ob with
     |none=>
      obtain⟨T,K,E⟩:=a;have hz:T= []:=D0D (by have:=congrArg List.length (show Rw Q7 T= []from j.eo);rwa [D6]at this);subst hz;exact E3 (A3T K 0 E) (D1H (G4 (i.trans j.le) C) h)
     |some b'=>
      obtain⟨q1,q2⟩:=j.fin i C q;exact B7o q1 (by rw[D6]) (D1H q2 h)
    ·have hp:M5 (B s)=(nilL,30):=by unfold M5 A0Z;rw[←hr];simp only[D0J];rw[if_neg (fun g=>y g.2)]
     rw[hp]at h;repeat' (first|simp only[go_sem,seval,q,L,y,o1]|with_reducible refine tx _ ?_)
     exact E3 (A3T 0 30 false) (D1H (G4 (i.trans j.le) C) h)
   ·rw[if_neg hv,if_neg hv]at tx;have hp:M5 (B s)=(nilL,30):=by unfold M5 A0Z;rw[←hr];simp only[D0J];rw[if_neg (fun g=>hv g.1)]
    rw[hp]at h;repeat' (first|simp only[go_sem,seval,q,L,o1]|with_reducible refine tx _ ?_)
    exact E3 (A3T 0 30 false) (D1H (G4 (i.trans j.le) C) h)
  |cons x r=>
   have b4:=C3A r (!sgn ·);simp only[C9u]at hsz;repeat' simp only[go_sem,seval]
   refine C27 (S (x::r)) x r (l9 _) (by rw[O1,C9u];omega) _ Y (fun hp v n z=>?_) (fun n v hp=>?_)
   ·rw[B1o _ _ _ hp]at hr;have a6:M5 (B s)=(nilL,30):=by unfold M5 A0Z;rw[←hr];rfl
    rw[a6]at h;have q:=j.le _ _ e2;repeat' (first|simp only[go_sem,seval,q]|simp(disch:=first|omega|grind) only[B9]|intro d)
    exact E3 (A3T 0 30 false) (D1H (G4 (i.trans (j.le.trans (A0 (by assumption)))) C) h)
   ·rw[B1p _ _ _ hp]at hr;obtain⟨p1,p2⟩:=B6p hp;simp only[C9u]at p1;have b8:(r.dropWhile (!sgn ·)).length<r.length+1:=by omega
    by_cases hn:n= []
    ·rw[C28 a v hn]at hr;repeat' (first|simp only[go_sem,seval,hn]|intro d)
     rename_i M;have h7:=d;clear d;have A:=j.up (A0 (o:=.box [.str (S n),.int .i64 v]) h7);have O:(Hp.set M (.box [.str (S n),.int .i64 v])) M=some (.box [.str (S n),.int .i64 v]):=A2 _ _;rw[hn]at A O;generalize Hp.set M (.box [.str (S []),.int .i64 v])=Hr at A O⊢;have L:=A.ex;repeat' simp only[go_sem,seval,L,O]
     exact C2 (r.dropWhile (!sgn ·),{a with k:=v},ob,_) ⟨A.re _,hr,by simp only[];omega,u,p2⟩ (by simp only[C9u];omega) (by simp only[go_sem,seval]) (D1G _)
    ·rw[C29 a v hn]at hr;repeat' (first|simp only[go_sem,seval,hn]|intro d)
     rename_i M;have h7:=d;clear d;have A:=j.up (A0 (o:=.box [.str (S n),.int .i64 v]) h7);have O:(Hp.set M (.box [.str (S n),.int .i64 v])) M=some (.box [.str (S n),.int .i64 v]):=A2 _ _;generalize Hp.set M (.box [.str (S n),.int .i64 v])=Hr at A O⊢;have L:=A.ex;repeat' (first|simp only[go_sem,seval,L,O]|intro d)
     rename_i bx;have a9:=d;clear d;refine A5z (P:=Tryz.prog) (H0:=Hr) (es:=Rw Q7 a.t) a9 (by simp) A.eo (by rw[D6]) (by simp only[C9u,C9w];omega) (by simp only[C9u,C9w];omega) fun b' H' hA=>?_;have hY:Rw Q7 a.t++[[D.str (S n),.int .i64 v]]=Rw Q7 (a.t++[⟨S n,v⟩]):=by rw[←O2];rfl
     rw[hY]at hA;obtain⟨f1,b0⟩:=A.ap (m:=a.t.length+1) (D1G _) hA;repeat' simp only[go_sem,seval,b0]
     have a0:(a.t++[(⟨S n,v⟩:LTm)]).length=a.t.length+1:=by rw[C9v];rfl
     refine C2 (r.dropWhile (!sgn ·),{a with t:=a.t++[⟨S n,v⟩]},some b',_) ⟨?_,hr,by simp only[a0];omega,fun t y=>?_,J⟩ (by simp only[C9u];omega) (by simp only[go_sem,seval,K3]) (D1G _)
     ·simp only[a0];exact f1
     ·rcases D0F.1 y with g|g
      ·exact u t g
      ·rw[D0G]at g;subst g;exact⟨by simp only[O1];omega,p2⟩
end Go.Proofs.YtibphjonmikciaaGreatDoor
namespace Go.Lin
open Go Go.Av Go.Lexs
theorem B6q(s:List UInt8):M5 s=if validL (A4e s)=true∧F2 (A4e s)=s then(A4e s,0)else(nilL,30):=by
 unfold M5;rw[B5l];split<;>rename_i h<;>split at h<;>simp_all
end Go.Lin
namespace Go.Proofs.YtibphjonmikciaaGreatDoor
open Go Go.Av Go.Lexs Go.Lin
attribute [local irreducible] ACalls W4
end Go.Proofs.YtibphjonmikciaaGreatDoor
