/- Part of the proof: what the last text builds on. No condition stands here. -/
import Derived.Test.YtibphjonmikciaaGreatDoorProg
import Derived.Test.YtibphjonmikciaaGreatDoorRows
import Derived.Test.YtibphjonmikciaaGreatDoorCards
import Derived.Test.YtibphjonmikciaaGreatDoorTie
import Derived.Test.YtibphjonmikciaaGreatDoorWc4
set_option linter.unusedSimpArgs false
set_option linter.unusedVariables false
set_option maxRecDepth 20000
namespace Go.Lin
open Go Go.Av Go.Lexs
theorem M5(n:Int):Lib.itoa n=(if n<0 then [45]else [])++dec n.natAbs:=by
 unfold Lib.itoa dec;by_cases h:n<0
 ·rw[if_pos h,if_pos h];rfl
 ·rw[if_neg h,if_neg h];have:n.toNat=n.natAbs:=by omega
  rw[this];rfl
theorem A6h(n:Int)(h:n.natAbs<10000000000000000000):(Lib.itoa n).length≤20:=by
 rw[M5,D1N];have:=A5Z 18 n.natAbs (by omega);split<;>simp<;>omega
theorem B7U{α :Type}(T:List α)(i:Nat)(h:i<T.length):(T.take i).isEmpty=decide (i=0):=by
 cases T with
 |nil=>simp at h
 |cons x T=>cases i<;>simp
end Go.Lin
namespace Go.Proofs.YtibphjonmikciaaGreatDoor
open Go Go.Av Go.Lexs Go.Lin
attribute [local irreducible] ACalls S9
set_option maxHeartbeats 1000000 in
theorem B7V{Q}(a:LinV)(fa:l4 a)(H:Heap)(hT:Tabs H)(h:Q (.tuple [.str (if validL a=true then S (F5 a)else S []),.int .i64 (if validL a=true then 0 else 2)]) H):D7 115 [.agg (E8 a)] H Q:=by
 refine A9 [] A6 Tryz.func115 rfl ?_;simp only[go_sem,seval,Tryz.results115];intro b2 g2;have e2:(H.set b2 (.box (E8 a))) b2=some (.box (E8 a)):=A3 _ _;have r:H.Le (H.set b2 (.box (E8 a))):=A0 g2;generalize H.set b2 (.box (E8 a))=Bs at e2 r⊢;have a0:=hT.le r;by_cases c:validL a=true
 ·rw[if_pos c,if_pos c]at h;have hlen:=(M4 c).len;have vt:=B07 c;have nm: ∀t∈a.t,t.v.size≤200:=fun t ht=>A73 ((N1 (M4 c).t t ht).1);repeat' (first|simp only[go_sem,seval,e2,c]|with_reducible refine A84 a fa _ ?_)
  refine C8 [1,12,13] (fun(p:Nat×ByteArray×Heap)=>[(14,.int .i64 p.1),(4,.str p.2.1)]) (fun(p:Nat×ByteArray×Heap)=>p.2.2) (fun(p:Nat×ByteArray×Heap)=>p.1≤a.t.length∧B p.2.1=L6 true (a.t.take p.1)∧p.2.1.size≤1000*p.1∧Bs.Le p.2.2) (fun(p:Nat×ByteArray×Heap)=>a.t.length-p.1) ((0,⟨#[]⟩,Bs)) (⟨D1c _,rfl,D1c _,D2i _⟩) (by(try simp only[go_sem,seval])<;>(try simp(disch:=omega) [A4])) (by first|exact D2i _|exact A0 (by assumption)|exact B9 (by assumption)|simp only[Heap.Le,Heap.set,Heap.del]at* <;>grind) ?_;rintro Ec rfl ⟨i,x,Hp⟩ ⟨hi,u,a6,hp⟩;simp only at hi u a6 hp;by_cases m:i<a.t.length
  ·have q:decide ((i:Int)<a.t.length)=true:=D1J (by omega);have I:(i:Int)<a.t.length:=by omega
   obtain⟨x0,x1⟩:=vt _ (D1V m);have b0:=nm _ (D1V m);have y:=a0.le hp;have hz: ∀b o,Hp b=none→Tabs (Hp.set b o):=fun b o hb=>y.le (A0 hb);have J:(⟨#[45]⟩:ByteArray).size=1:=rfl;have G:(⟨#[43]⟩:ByteArray).size=1:=rfl;have M:(⟨#[42]⟩:ByteArray).size=1:=rfl;have tk:L6 true (a.t.take (i+1))=L6 true (a.t.take i)++U5 (decide (i=0)) a.t[i]:=by rw[D1a m,B0S,B7U _ _ m,Bool.true_and]
   have ws:IntKind.i64.wrap (0-a.t[i].c)= -a.t[i].c:=by rw[A4 (by omega) (by omega)];omega
   have z:=A6h a.t[i].c (by omega);by_cases O:a.t[i].c<0
   ·have z:=A6h (-a.t[i].c) (by omega);by_cases X: -a.t[i].c=1
    ·have Y:True:=trivial;repeat' (first|with_reducible apply D1H|simp only[go_sem,seval,q,I,B3 _ _ m,C3 _ _ m,ws,O,X,Y,z]|simp(disch:=omega) only[A4,B3]|intro U|omega)
     have V:a.t[i].c.natAbs=1:=by omega
     have W:Lib.itoa (-a.t[i].c)=dec a.t[i].c.natAbs:=by rw[M5,if_neg (by omega),D2T]<;>(try(congr 1;omega))
     skip
     refine C4 (i+1,x++⟨#[45]⟩++a.t[i].v,_) ⟨by simp only[];omega,?_,?_,hp.trans (A0 (by assumption))⟩ (by simp only[];omega) (by(try simp only[go_sem,seval])<;>(try simp(disch:=omega) [A4])) (D2i _)
     ·simp only[A0A,v8,A0U,u,tk,U5,V,O,W,if_true,if_false];simp
     ·simp only[ByteArray.size_append,O6,J,G,M];omega
    ·have Y:True:=trivial;repeat' (first|with_reducible apply D1H|simp only[go_sem,seval,q,I,B3 _ _ m,C3 _ _ m,ws,O,X,Y,z]|simp(disch:=omega) only[A4,B3]|intro U|with_reducible refine A1U _ (by omega) (by omega) _ (hz _ _ (by assumption)) ?_|omega)
     have V: ¬a.t[i].c.natAbs=1:=by omega
     have W:Lib.itoa (-a.t[i].c)=dec a.t[i].c.natAbs:=by rw[M5,if_neg (by omega),D2T]<;>(try(congr 1;omega))
     skip
     refine C4 (i+1,x++⟨#[45]⟩++(S (Lib.itoa (-a.t[i].c))++⟨#[42]⟩)++a.t[i].v,_) ⟨by simp only[];omega,?_,?_,hp.trans (A0 (by assumption))⟩ (by simp only[];omega) (by(try simp only[go_sem,seval])<;>(try simp(disch:=omega) [A4])) (D2i _)
     ·simp only[A0A,v8,A0U,u,tk,U5,V,O,W,if_true,if_false];simp
     ·simp only[ByteArray.size_append,O6,J,G,M];omega
   ·by_cases Y:(0:Int)<i
    ·by_cases X:a.t[i].c=1
     ·repeat' (first|with_reducible apply D1H|simp only[go_sem,seval,q,I,B3 _ _ m,C3 _ _ m,ws,O,X,Y,z]|simp(disch:=omega) only[A4,B3]|intro U|omega)
      have V:a.t[i].c.natAbs=1:=by omega
      have W:Lib.itoa a.t[i].c=dec a.t[i].c.natAbs:=by rw[M5,if_neg (by omega),D2T]<;>(try(congr 1;omega))
      have qz:decide (i=0)=false:=by simp;omega
      refine C4 (i+1,x++⟨#[43]⟩++a.t[i].v,_) ⟨by simp only[];omega,?_,?_,hp.trans (A0 (by assumption))⟩ (by simp only[];omega) (by(try simp only[go_sem,seval])<;>(try simp(disch:=omega) [A4])) (D2i _)
      ·simp only[A0A,v8,A0U,u,tk,U5,V,O,W,qz,if_true,if_false];simp
      ·simp only[ByteArray.size_append,O6,J,G,M];omega
     ·repeat' (first|with_reducible apply D1H|simp only[go_sem,seval,q,I,B3 _ _ m,C3 _ _ m,ws,O,X,Y,z]|simp(disch:=omega) only[A4,B3]|intro U|with_reducible refine A1U _ (by omega) (by omega) _ (hz _ _ (by assumption)) ?_|omega)
      have V: ¬a.t[i].c.natAbs=1:=by omega
      have W:Lib.itoa a.t[i].c=dec a.t[i].c.natAbs:=by rw[M5,if_neg (by omega),D2T]<;>(try(congr 1;omega))
      have qz:decide (i=0)=false:=by simp;omega
      refine C4 (i+1,x++⟨#[43]⟩++(S (Lib.itoa a.t[i].c)++⟨#[42]⟩)++a.t[i].v,_) ⟨by simp only[];omega,?_,?_,hp.trans (A0 (by assumption))⟩ (by simp only[];omega) (by(try simp only[go_sem,seval])<;>(try simp(disch:=omega) [A4])) (D2i _)
      ·simp only[A0A,v8,A0U,u,tk,U5,V,O,W,qz,if_true,if_false];simp
      ·simp only[ByteArray.size_append,O6,J,G,M];omega
    ·by_cases X:a.t[i].c=1
     ·repeat' (first|with_reducible apply D1H|simp only[go_sem,seval,q,I,B3 _ _ m,C3 _ _ m,ws,O,X,Y,z]|simp(disch:=omega) only[A4,B3]|intro U|omega)
      have V:a.t[i].c.natAbs=1:=by omega
      have W:Lib.itoa a.t[i].c=dec a.t[i].c.natAbs:=by rw[M5,if_neg (by omega),D2T]<;>(try(congr 1;omega))
      have qz:decide (i=0)=true:=by simp;omega
      refine C4 (i+1,x++a.t[i].v,_) ⟨by simp only[];omega,?_,?_,hp.trans (A0 (by assumption))⟩ (by simp only[];omega) (by(try simp only[go_sem,seval])<;>(try simp(disch:=omega) [A4])) (D2i _)
      ·simp only[A0A,v8,A0U,u,tk,U5,V,O,W,qz,if_true,if_false];simp
      ·simp only[ByteArray.size_append,O6,J,G,M];omega
     ·repeat' (first|with_reducible apply D1H|simp only[go_sem,seval,q,I,B3 _ _ m,C3 _ _ m,ws,O,X,Y,z]|simp(disch:=omega) only[A4,B3]|intro U|with_reducible refine A1U _ (by omega) (by omega) _ (hz _ _ (by assumption)) ?_|omega)
      have V: ¬a.t[i].c.natAbs=1:=by omega
      have W:Lib.itoa a.t[i].c=dec a.t[i].c.natAbs:=by rw[M5,if_neg (by omega),D2T]<;>(try(congr 1;omega))
      have qz:decide (i=0)=true:=by simp;omega
      refine C4 (i+1,x++(S (Lib.itoa a.t[i].c)++⟨#[42]⟩)++a.t[i].v,_) ⟨by simp only[];omega,?_,?_,hp.trans (A0 (by assumption))⟩ (by simp only[];omega) (by(try simp only[go_sem,seval])<;>(try simp(disch:=omega) [A4])) (D2i _)
      ·simp only[A0A,v8,A0U,u,tk,U5,V,O,W,qz,if_true,if_false];simp
      ·simp only[ByteArray.size_append,O6,J,G,M];omega
  ·have q:decide ((i:Int)<a.t.length)=false:=D1K (by omega);have a9:i=a.t.length:=by omega
   subst a9;have A:=hp _ _ e2;have y:=a0.le hp;rw[List.take_length]at u;have vk:=(M4 c).k;have z:=A6h a.k (by omega);have G:(⟨#[43]⟩:ByteArray).size=1:=rfl;by_cases t0:a.t= []
   ·have l0:(a.t.length:Int)=0:=by rw[t0];rfl
    have x0:x=⟨#[]⟩:=l7 (by rw[u,t0];rfl);by_cases j:a.e=true
    ·have j:a.e=true:=j;have hB:B (x++S (Lib.itoa a.k)++⟨#[61,48]⟩)=F5 a:=by
      unfold F5 M2 R8;simp[A0A,v8,A0U,u,j,A0N,M5,t0]
     have hs:S (F5 a)=x++S (Lib.itoa a.k)++⟨#[61,48]⟩:=l7 (by rw[v8,hB]);rw[hs]at h;repeat' (first|with_reducible apply D1H|simp only[go_sem,seval,q,A,j,l0]|with_reducible refine A1U _ (by omega) (by omega) _ y ?_|omega)
     exact D2j (r.trans hp) h
    ·have j:a.e=false:=by simpa using j
     have hB:B (x++S (Lib.itoa a.k)++⟨#[62,61,48]⟩)=F5 a:=by
      unfold F5 M2 R8;simp[A0A,v8,A0U,u,j,A0N,M5,t0]
     have hs:S (F5 a)=x++S (Lib.itoa a.k)++⟨#[62,61,48]⟩:=l7 (by rw[v8,hB]);rw[hs]at h;repeat' (first|with_reducible apply D1H|simp only[go_sem,seval,q,A,j,l0]|with_reducible refine A1U _ (by omega) (by omega) _ y ?_|omega)
     exact D2j (r.trans hp) h
   ·have l0: ¬(a.t.length:Int)=0:=fun e=>t0 (D1f (by omega));have l1:(0:Int)<a.t.length:=by omega
    have le:a.t.isEmpty=false:=by cases h:a.t with|nil=>exact absurd h t0|cons=>rfl
    by_cases T:a.k=0
    ·by_cases j:a.e=true
     ·have j:a.e=true:=j;have hB:B (x++⟨#[61,48]⟩)=F5 a:=by
       unfold F5 M2 R8;simp[A0A,v8,A0U,u,j,A0N,M5,T,t0]
      have hs:S (F5 a)=x++⟨#[61,48]⟩:=l7 (by rw[v8,hB]);rw[hs]at h;repeat' (first|with_reducible apply D1H|simp only[go_sem,seval,q,A,j,l0,l1,T]|omega)
      exact D2j (r.trans hp) h
     ·have j:a.e=false:=by simpa using j
      have hB:B (x++⟨#[62,61,48]⟩)=F5 a:=by
       unfold F5 M2 R8;simp[A0A,v8,A0U,u,j,A0N,M5,T,t0]
      have hs:S (F5 a)=x++⟨#[62,61,48]⟩:=l7 (by rw[v8,hB]);rw[hs]at h;repeat' (first|with_reducible apply D1H|simp only[go_sem,seval,q,A,j,l0,l1,T]|omega)
      exact D2j (r.trans hp) h
    ·by_cases k1:0<a.k
     ·have k2: ¬a.k<0:=by omega
      by_cases j:a.e=true
      ·have j:a.e=true:=j;have hB:B (x++⟨#[43]⟩++S (Lib.itoa a.k)++⟨#[61,48]⟩)=F5 a:=by
        unfold F5 M2 R8;simp[A0A,v8,A0U,u,j,A0N,M5,T,t0,k2,le]
       have hs:S (F5 a)=x++⟨#[43]⟩++S (Lib.itoa a.k)++⟨#[61,48]⟩:=l7 (by rw[v8,hB]);rw[hs]at h;repeat' (first|with_reducible apply D1H|simp only[go_sem,seval,q,A,j,l0,l1,T,k1]|with_reducible refine A1U _ (by omega) (by omega) _ y ?_|omega)
       exact D2j (r.trans hp) h
      ·have j:a.e=false:=by simpa using j
       have hB:B (x++⟨#[43]⟩++S (Lib.itoa a.k)++⟨#[62,61,48]⟩)=F5 a:=by
        unfold F5 M2 R8;simp[A0A,v8,A0U,u,j,A0N,M5,T,t0,k2,le]
       have hs:S (F5 a)=x++⟨#[43]⟩++S (Lib.itoa a.k)++⟨#[62,61,48]⟩:=l7 (by rw[v8,hB]);rw[hs]at h;repeat' (first|with_reducible apply D1H|simp only[go_sem,seval,q,A,j,l0,l1,T,k1]|with_reducible refine A1U _ (by omega) (by omega) _ y ?_|omega)
       exact D2j (r.trans hp) h
     ·have k2:a.k<0:=by omega
      by_cases j:a.e=true
      ·have j:a.e=true:=j;have hB:B (x++S (Lib.itoa a.k)++⟨#[61,48]⟩)=F5 a:=by
        unfold F5 M2 R8;simp[A0A,v8,A0U,u,j,A0N,M5,T,t0,k2,le]
       have hs:S (F5 a)=x++S (Lib.itoa a.k)++⟨#[61,48]⟩:=l7 (by rw[v8,hB]);rw[hs]at h;repeat' (first|with_reducible apply D1H|simp only[go_sem,seval,q,A,j,l0,l1,T,k1]|with_reducible refine A1U _ (by omega) (by omega) _ y ?_|omega)
       exact D2j (r.trans hp) h
      ·have j:a.e=false:=by simpa using j
       have hB:B (x++S (Lib.itoa a.k)++⟨#[62,61,48]⟩)=F5 a:=by
        unfold F5 M2 R8;simp[A0A,v8,A0U,u,j,A0N,M5,T,t0,k2,le]
       have hs:S (F5 a)=x++S (Lib.itoa a.k)++⟨#[62,61,48]⟩:=l7 (by rw[v8,hB]);rw[hs]at h;repeat' (first|with_reducible apply D1H|simp only[go_sem,seval,q,A,j,l0,l1,T,k1]|with_reducible refine A1U _ (by omega) (by omega) _ y ?_|omega)
       exact D2j (r.trans hp) h
 ·rw[if_neg c,if_neg c]at h;have c:validL a=false:=by simpa using c
  repeat' (first|simp only[go_sem,seval,e2,c]|with_reducible refine A84 a fa _ ?_)
  exact D2j r h
end Go.Proofs.YtibphjonmikciaaGreatDoor
namespace Go.Lin
open Go Go.Av Go.Lexs
theorem B7W(l:List UInt8)(c:UInt8)(h:c∈l):Lib.indexByte l c=((l.takeWhile (· != c)).length:Int)∧(l.takeWhile (· != c)).length<l.length:=by
 induction l with
 |nil=>cases h
 |cons b l i=>
  unfold Lib.indexByte;by_cases e:b=c
  ·subst e;simp
  ·have e1:(b==c)=false:=by simpa using e
   have hm:c∈l:=(D1j.1 h).resolve_left (fun g=>e g.symm);obtain⟨j,m⟩:=i hm;have e2:(b != c)=true:=by simp[e]
   rw[e1,j,List.takeWhile_cons,if_pos e2];have e3:(((l.takeWhile (· != c)).length:Int)== -1)=false:=by
    simp only[beq_eq_false_iff_ne,ne_eq];omega
   rw[e3];simp only[D1X,if_false,D1M];omega
theorem B7X(l:List UInt8)(c:UInt8)(h:c∉l):Lib.indexByte l c= -1:=by
 induction l with
 |nil=>rfl
 |cons b l i=>
  unfold Lib.indexByte;have e1:(b==c)=false:=by
   simp only[beq_eq_false_iff_ne,ne_eq];rintro rfl;exact h (D1S ..)
  rw[e1,i (fun g=>h (D1Z _ g))];rfl
theorem C0G(l:List UInt8)(p:UInt8→Bool):l.take (l.takeWhile p).length=l.takeWhile p:=by
 induction l with
 |nil=>rfl
 |cons b l h=>rw[List.takeWhile_cons];split<;>simp[h]
theorem C0H(l:List UInt8)(p:UInt8→Bool):l.drop (l.takeWhile p).length=l.dropWhile p:=by
 induction l with
 |nil=>rfl
 |cons b l h=>rw[List.takeWhile_cons,List.dropWhile_cons];split<;>simp[h]
theorem A6i{l c n:List UInt8}(h:A0O l=some (c,n)):Lib.indexByte l 42=(c.length:Int)∧c.length<l.length∧l.take c.length=c∧l.drop (c.length+1)=n:=by
 unfold A0O at h;split at h
 ·rename_i hm;injection h with h
  have h1:l.takeWhile (· != 42)=c:=congrArg Prod.fst h;have m:(l.dropWhile (· != 42)).drop 1=n:=congrArg Prod.snd h;obtain⟨i,j⟩:=B7W l 42 hm;have t:=C0G l (· != 42);have d:=C0H l (· != 42);rw[h1]at i j t d;refine⟨i,j,t,?_⟩;rw[←m,←d,D2R]
 ·cases h
theorem B7Y{l:List UInt8}(h:A0O l=none):Lib.indexByte l 42= -1:=by
 unfold A0O at h;split at h
 ·cases h
 ·rename_i hm;exact B7X l 42 hm
end Go.Lin
namespace Go.Proofs.YtibphjonmikciaaGreatDoor
open Go Go.Av Go.RowKit Go.Lexs Go.Lin
attribute [local irreducible] ACalls S9
theorem B3j{Q}(s:ByteArray)(H:Heap)(h:Q (.int .i64 (Lib.indexByte (B s) 42)) H):D7 236 [.str s,.str ⟨#[42]⟩] H Q:=
 J0 (by kernel_rfl) (fun w vs hl hr hs=>by
  obtain⟨a,b,rfl,i,hb⟩:=A0E hl hr;rw[i.str_inv,hb.str_inv];refine(Tryz.stringslite_Index_one s 42 w).mono fun e w' ⟨he,hw⟩=>?_;subst hw;exact⟨_,he,Below.refl _ _,.int _ _⟩) h
theorem C4D{Q}(s:ByteArray)(c n:List UInt8)(hc:A0O (B s)=some (c,n))(hsz:s.size≤1000000000000)(H:Heap)(h:Q (.tuple [.str (S c),.str (S n),.bool true]) H):D7 216 [.str s,.str ⟨#[42]⟩] H Q:=by
 refine A9 [] A6 Tryz.func216 rfl ?_;simp only[go_sem,seval,Tryz.results216];obtain⟨h1,r,o,p⟩:=A6i hc;have hl:=a7 s;have i:((⟨#[42]⟩:ByteArray).size:Int)=1:=rfl;have hw:IntKind.i64.wrap ((c.length:Int)+1)=(c.length:Int)+1:=A4 (by omega) (by omega);have j:(0:Int)≤(c.length:Int)+1:=by omega
 have hk:(c.length:Int)≤s.size:=by omega
 have m:(c.length:Int)+1≤s.size:=by omega
 repeat' (first|with_reducible apply D1H|simp only[go_sem,seval,h1,i,hw,hk,m,j]|simp(disch:=omega) only[A4]|intro q|with_reducible refine B3j s _ ?_|omega)
 rw[o,p];exact D2m h
theorem C4E{Q}(s:ByteArray)(c n:List UInt8)(hc:A0O (B s)=some (c,n))(hsz:s.size≤1000000000000)(H:Heap)(h:Q (.tuple [.str (S c),.str (S n),.bool true]) H):D7 187 [.str s,.str ⟨#[42]⟩] H Q:=by
 refine A9 [] A6 Tryz.func187 rfl ?_;simp only[go_sem,seval,Tryz.results187];repeat' (first|with_reducible apply D1H|simp only[go_sem,seval]|intro i|with_reducible refine C4D s c n hc hsz _ ?_|omega)
 exact D2m h
theorem C4F{Q}(s:ByteArray)(hc:A0O (B s)=none)(H:Heap)(h:Q (.tuple [.str s,.str ⟨#[]⟩,.bool false]) H):D7 216 [.str s,.str ⟨#[42]⟩] H Q:=by
 refine A9 [] A6 Tryz.func216 rfl ?_;simp only[go_sem,seval,Tryz.results216];have h1:=B7Y hc;repeat' (first|with_reducible apply D1H|simp only[go_sem,seval,h1]|intro i|with_reducible refine B3j s _ ?_|omega)
 exact D2m h
theorem A9D{Q}(s:ByteArray)(hc:A0O (B s)=none)(H:Heap)(h:Q (.tuple [.str s,.str ⟨#[]⟩,.bool false]) H):D7 187 [.str s,.str ⟨#[42]⟩] H Q:=by
 refine A9 [] A6 Tryz.func187 rfl ?_;simp only[go_sem,seval,Tryz.results187];repeat' (first|with_reducible apply D1H|simp only[go_sem,seval]|intro i|with_reducible refine C4F s hc _ ?_|omega)
 exact D2m h
theorem C0I{Q}(s:ByteArray)(hsz:s.size≤1000000000000)(v:Int)(hv:Lib.atoiAll (B s)= .ok v)(H:Heap)(h:Q (.tuple [.int .i64 v,.nilif]) H):D7 188 [.str s] H Q:=
 J0 (by kernel_rfl) (fun w vs hl hr hs=>by
  obtain⟨a,rfl,j⟩:=A1z hl hr;rw[j.str_inv];refine(Tryz.strconv_Atoi_ok s (by omega) v hv w).mono fun e w' ⟨he,hw⟩=>?_;have hB:Below w.heap.size w w':=by
   rcases hw with rfl|⟨t,rfl⟩
   ·exact Below.refl _ _
   ·exact B0P _ _ _
  exact⟨_,he,hB,.tuple _ _ rfl fun i d hd=>(match i,hd with|0,hd=>by simp at hd;subst hd;exact .int _ _|1,hd=>by simp at hd;subst hd;exact .nilif|i+2,hd=>by simp at hd)⟩) h
theorem B09{w:World}{H:Heap}{g t:Nat}(hs:Sat H w)(h:H g=some (.ro [.iface t .undef])): ∃v,w.cell? ⟨g,0,none⟩=some (.iface t v):=by
 obtain⟨c,T,o,h1,j,m⟩:=hs g _ h;have i:=(m 0 _ rfl).2;have p:c.size=1:=j;have e:w.cell? ⟨g,0,none⟩=some (c.getD 0 Go.undef):=by
  rw[R3 h1];have:0<c.size:=by omega
  simp[this]
 generalize c.getD 0 Go.undef=x at i e;cases i with
 |iface _ _ v hr=>exact⟨v,e⟩
theorem C0J{Q}(s:ByteArray)(hsz:s.size≤1000000000000)(hv: ∀v,Lib.atoiAll (B s)≠ .ok v)(H:Heap)(m:Tabs H)(h: ∀n t,Q (.tuple [.int .i64 n,.iface t .undef]) H):D7 188 [.str s] H Q:=by
 have o: ∀(w:World) (n:Int) (t:Nat) (v:Value),R w H (.tuple [.int .i64 n,.iface t .undef]) (.tuple #[.int .i64 n,.iface t v]):=fun w n t v=>
  .tuple _ _ rfl fun i d hd=>(match i,hd with|0,hd=>by simp at hd;subst hd;exact .int _ _|1,hd=>by simp at hd;subst hd;exact .iface _ _ _ (.undef _)|i+2,hd=>by simp at hd)
 cases hc:Lib.atoiAll (B s)with
 |ok v=>exact absurd hc (hv v)
 |range=>
  refine J0 (r:=.tuple [.int .i64 (Lib.atoiSat (B s)),.iface 266 .undef]) (by kernel_rfl) (fun w vs hl hr hs=>?_) (h _ _);obtain⟨a,rfl,j⟩:=A1z hl hr;rw[j.str_inv];obtain⟨t,ht⟩:=m.rng;obtain⟨x,hx⟩:=B09 hs ht;refine(Tryz.strconv_Atoi_range s (by omega) hc _ w hx (.inr ⟨_,_,rfl⟩)).mono fun e w' ⟨N,he,_,_,hB⟩=>⟨_,he,hB,o w' _ _ _⟩
 |_=>
  refine J0 (r:=.tuple [.int .i64 0,.iface 266 .undef]) (by kernel_rfl) (fun w vs hl hr hs=>?_) (h _ _);obtain⟨a,rfl,j⟩:=A1z hl hr;rw[j.str_inv];obtain⟨t,ht⟩:=m.syn;obtain⟨x,hx⟩:=B09 hs ht;refine(Tryz.strconv_Atoi_syntax s (by omega) hc _ w hx (.inr ⟨_,_,rfl⟩)).mono fun e w' ⟨N,he,_,_,hB⟩=>⟨_,he,hB,o w' _ _ _⟩
end Go.Proofs.YtibphjonmikciaaGreatDoor
namespace Go.Lin
open Go Go.Av Go.Lexs
theorem C0K{l:List UInt8}{k:Nat}(h:k<l.length):nth l k=(l[k].toNat:Int):=by simp[nth,h]
theorem A9E{l:List UInt8}{k:Nat}(h:k<l.length):sgn l[k]=true↔(nth l k=43∨nth l k=45):=by
 rw[C0K h];unfold sgn;simp only[D2e,beq_iff_eq];constructor
 ·rintro(e|e)
  ·left;rw[e];rfl
  ·right;rw[e];rfl
 ·rintro(e|e)
  ·left;apply UInt8.toNat_inj.1;show _=43;omega
  ·right;apply UInt8.toNat_inj.1;show _=45;omega
theorem C7T:S []=⟨#[]⟩:=rfl
theorem C7U:S [49]=⟨#[49]⟩:=rfl
theorem B7Z{P:Program}{t:Nat}(hb:C7 P t= .iface):K7 P .eql t true .nilif .nilif=some (.bool true):=by simp[K7,A5p,A9l,hb]
theorem B7a{P:Program}{t u:Nat}{d:D}(hb:C7 P t= .iface):K7 P .eql t true (.iface u d) .nilif=some (.bool false):=by simp[K7,A5p,A9l,hb]
theorem B3k{p:UInt8→Bool}: ∀(l:List UInt8) (k:Nat),k≤l.length→(∀c∈l.take k,p c=true)→(∀h:k<l.length,p l[k]=false)→l.takeWhile p=l.take k∧l.dropWhile p=l.drop k
 | [],k,hk,_,_=>by simp
 |c::l,0,_,_,h=>by
  have:p c=false:=h (by simp);simp[this]
 |c::l,k+1,hk,h1,i=>by
  have hc:p c=true:=h1 c (by simp);obtain⟨a,b⟩:=B3k l k (by simpa using hk) (fun x hx=>h1 x (by simp[hx])) (fun h=>i (by simpa using h));simp[hc,a,b]
theorem A7G{p:UInt8→Bool}{v:Bool}{l:List UInt8}{k:Nat}(h:k<l.length)(h1: ∀c∈l.take k,p c=v)(i:p l[k]=v): ∀c∈l.take (k+1),p c=v:=fun c hc=>by
 rw[D1a h]at hc;rcases D1h.1 hc with g|g
 ·exact h1 c g
 ·rw[D1i]at g;subst g;exact i
theorem B2X{b:List UInt8}(h:A0G b=none):b= []:=by
 unfold A0G at h;cases hc:A0O b with
 |some p=>rw[hc]at h;cases h
 |none=>
  rw[hc]at h;simp only[]at h;split at h
  ·cases h
  ·split at h
   ·rename_i e;exact e
   ·cases h
theorem split_some{b c n:List UInt8}(h:A0G b=some (c,n)):A0O b=some (c,n)∨(A0O b=none∧b≠[]∧((P9 b=true∧c=b∧n= [])∨(P9 b=false∧c= [49]∧n=b))):=by
 unfold A0G at h;cases hc:A0O b with
 |some p=>rw[hc]at h;left;exact h
 |none=>
  rw[hc]at h;simp only[]at h
  right
  split at h
  ·rename_i hd;injection h with h
   refine⟨rfl,?_,.inl ⟨hd,(congrArg Prod.fst h).symm,(congrArg Prod.snd h).symm⟩⟩;rintro rfl;cases hd
  ·rename_i hd;split at h
   ·cases h
   ·rename_i e;injection h with h
    exact⟨rfl,e,.inr ⟨by simpa using hd,(congrArg Prod.fst h).symm,(congrArg Prod.snd h).symm⟩⟩
theorem B41{b c n:List UInt8}(h:A0G b=some (c,n)):c.length≤b.length+1:=by
 rcases split_some h with h|⟨_,i,⟨_,rfl,_⟩|⟨_,rfl,_⟩⟩
 ·have:=(A6i h).2.1;omega
 ·omega
 ·have:=List.length_pos_iff.2 i;simp
end Go.Lin
namespace Go.Proofs.YtibphjonmikciaaGreatDoor
open Go Go.Av Go.Lexs Go.Lin
attribute [local irreducible] ACalls S9
set_option maxHeartbeats 4000000 in
theorem C4G{Q}(s:ByteArray)(x:UInt8)(r:List UInt8)(hB:B s=x::r)(hs:s.size≤1000000000)(H:Heap)(hT:Tabs H)
  (hN:M8 (x::r.takeWhile (!sgn ·))=none→∀v n z,Q (.tuple [.agg [.str v,.int .i64 n],.str z,.bool false]) H)
  (hY: ∀n v,M8 (x::r.takeWhile (!sgn ·))=some (n,v)→Q (.tuple [.agg [.str (S n),.int .i64 v],.str (S (r.dropWhile (!sgn ·))),.bool true]) H):
  D7 150 [.str s] H Q:=by
 refine A9 [(4,.wk),(8,.wk),(15,.wk)] A6 Tryz.func150 rfl ?_;simp only[go_sem,seval,Tryz.results150];have hl:=a7 s;have c9:s.size=r.length+1:=by rw[←hl,hB];rfl
 intro o g2;have e2:(H.set o (.box [.str ⟨#[]⟩,.int .i64 0])) o=some (.box [.str ⟨#[]⟩,.int .i64 0]):=A3 _ _;have y:H.Le (H.set o (.box [.str ⟨#[]⟩,.int .i64 0])):=A0 g2;generalize H.set o (.box [.str ⟨#[]⟩,.int .i64 0])=Bs at e2 y⊢;have c0:=hT.le y;refine C8 [0,2] (fun(n:Nat)=>[(5,.int .i64 n)]) (fun(n:Nat)=>Bs) (fun(n:Nat)=>1≤n∧n-1≤r.length∧∀c∈r.take (n-1),sgn c=false) (fun(n:Nat)=>r.length+1-n) (1) (⟨D1b _,D1c _,by simp⟩) (by(try simp only[go_sem,seval])<;>(try simp(disch:=omega) [A4])) (by first|exact D2i _|exact A0 (by assumption)|exact B9 (by assumption)|simp only[Heap.Le,Heap.set,Heap.del]at* <;>grind) ?_;rintro Ec rfl n ⟨d0,hk,A⟩;obtain⟨k,c2⟩: ∃k,k=n-1:=⟨_,rfl⟩
 rw[←c2]at hk A;have X:n=k+1:=by omega
 apply A2Q (C:=∀h:k<r.length,sgn r[k]=true)
 ·intro G;have hw:IntKind.i64.wrap ((n:Int)+1)=(n:Int)+1:=A4 (by omega) (by omega);have hn:S9 s (n:Int)=nth r k:=by
   rw[B9m,hB,show (n:Int).toNat=k+1 by omega];rfl
  by_cases I:k<r.length
  ·have J:decide ((n:Int)<s.size)=true:=D1J (by omega);have a0:(n:Int)<s.size:=by omega
   by_cases M:nth r k=43
   ·repeat' (first|with_reducible apply D1H|simp only[go_sem,seval,J,a0,hn,M,decide_true,decide_false,D2f]|omega)
    exact V8 [(0,.str s),(2,.box o 0),(5,.int .i64 n)] Bs (by simp only[go_sem,seval]) (D2i _) (G fun _=>(A9E I).2 (.inl M))
   ·by_cases Y:nth r k=45
    ·repeat' (first|with_reducible apply D1H|simp only[go_sem,seval,J,a0,hn,M,Y,decide_true,decide_false,D2g,D2f]|omega)
     exact V8 [(0,.str s),(2,.box o 0),(5,.int .i64 n)] Bs (by simp only[go_sem,seval]) (D2i _) (G fun _=>(A9E I).2 (.inr Y))
    ·have j:sgn r[k]=false:=by
      rw[←D2d,A9E I];rintro(g|g)
      ·exact M g
      ·exact Y g
     repeat' (first|with_reducible apply D1H|simp only[go_sem,seval,J,a0,hn,M,Y,decide_false,D2g]|simp(disch:=omega) only[A4]|omega)
     exact C4 (n+1) ⟨by omega,by omega,by rw[show n+1-1=k+1 by omega];exact A7G I A j⟩ (by omega) (by(try simp only[go_sem,seval])<;>(try simp(disch:=omega) [A4])) (by simp only[F0,D3,D4]at* <;>grind)
  ·have J:decide ((n:Int)<s.size)=false:=D1K (by omega);repeat' simp only[go_sem,seval,J]
   exact V8 [(0,.str s),(2,.box o 0),(5,.int .i64 n)] Bs (by simp only[go_sem,seval]) (D2i _) (G fun h=>absurd h I)
 intro b4;obtain⟨tw,dw⟩:=B3k (p:=(!sgn ·)) r k hk (fun c hc=>by rw[A c hc];rfl) (fun h=>by rw[b4 h];rfl);rw[tw]at hN hY;rw[dw]at hY;have hP:(B s).take n=x::r.take k:=by rw[hB,X];rfl
 have hD:(B s).drop n=r.drop k:=by rw[hB,X];rfl
 obtain⟨P,b6⟩: ∃P,P=x::r.take k:=⟨_,rfl⟩
 rw[←b6]at hN hY hP;have c4:P.length≤r.length+1:=by rw[b6];simp;omega
 have O:(n:Int)≤s.size:=by omega
 have T:n≤s.size:=by omega
 have tc: ∀(H:Heap) (Q:D→Heap→Prop),Q (.str (S (Lib.trimPrefix P [43]))) H→D7 185 [.str (S P),.str ⟨#[43]⟩] H Q:=fun H Q hq=>A81 _ _ H (by rw[v8];exact hq);obtain⟨i,U⟩: ∃i,i=Lib.trimPrefix P [43]:=⟨_,rfl⟩
 rw[←U]at tc;have b7:i.length≤r.length+1:=by
  rw[U];unfold Lib.trimPrefix;split
  ·rw[D1p];omega
  ·exact c4
 have b8: ∀(H:Heap) (Q:D→Heap→Prop),Q (.bool (Lib.hasPrefix i [45])) H→D7 186 [.str (S i),.str ⟨#[45]⟩] H Q:=fun H Q hq=>B0d _ _ H (by rw[v8];exact hq);obtain⟨W,j⟩: ∃W:Int,W=if(l8 P).1=true then-1 else 1:=⟨_,rfl⟩
 obtain⟨b,hb⟩: ∃b,b=(l8 P).2:=⟨_,rfl⟩
 have d2:b.length≤r.length+1:=by
  rw[hb];unfold l8;simp only[];rw[←U];split
  ·simp only[D1p];omega
  ·exact b7
 apply A2Q (C:=True)
 ·intro G;by_cases hp:Lib.hasPrefix i [45]=true
  ·have a6:l8 P=(true,i.drop 1):=by unfold l8;simp only[];rw[←U,if_pos hp]
   have c5:1≤i.length:=by
    cases i with
    |nil=>cases hp
    |cons _ _=>simp
   have c6:1≤(S i).size:=by rw[O6];exact c5
   have b9:(1:Int)≤(S i).size:=by omega
   rw[a6]at j hb;simp only[if_true]at j hb;have c7:S ((B (S i)).drop 1)=S b:=by rw[v8,hb]
   repeat' (first|with_reducible apply D1H|simp only[go_sem,seval,O,T,hP,hp,c6,b9,c7]|with_reducible refine tc _ _ ?_|with_reducible refine b8 _ _ ?_|omega)
   exact V8 [(0,.str s),(2,.box o 0),(5,.int .i64 n),(6,.str (S b)),(7,.int .i64 W)] Bs (by simp only[go_sem,seval,j,hb]) (D2i _) (G trivial)
  ·have a6:l8 P=(false,i):=by unfold l8;simp only[];rw[←U,if_neg hp]
   have hp:Lib.hasPrefix i [45]=false:=by simpa using hp
   rw[a6]at j hb;simp only[D1X,if_false]at j hb;repeat' (first|with_reducible apply D1H|simp only[go_sem,seval,O,T,hP,hp]|with_reducible refine tc _ _ ?_|with_reducible refine b8 _ _ ?_|omega)
   exact V8 [(0,.str s),(2,.box o 0),(5,.int .i64 n),(6,.str (S b)),(7,.int .i64 W)] Bs (by simp only[go_sem,seval,j,hb]) (D2i _) (G trivial)
 intro _;have d3:=O6 b;cases u:A0G b with
 |none=>
  have i:=B2X u;have a9:M8 P=none:=by unfold M8;rw[←hb,u]
  subst i;have cc: ∀(H:Heap) (Q:D→Heap→Prop),Q (.tuple [.str (S []),.str ⟨#[]⟩,.bool false]) H→D7 187 [.str (S []),.str ⟨#[42]⟩] H Q:=fun H Q hq=>A9D (S []) (by rw[v8];rfl) H hq;repeat' (first|simp only[go_sem,seval,e2]|with_reducible refine cc _ _ ?_)
  exact D2j (F3 y g2) (hN a9 _ _ _)
 |some p=>
  obtain⟨c,m⟩:=p;have d4:=B41 u;apply A2Q (C:=True)
  ·intro G;rcases split_some u with V|⟨V,i,hd⟩
   ·repeat' (first|simp only[go_sem,seval]|with_reducible refine C4E (S b) c m (by rw[v8];exact V) (by omega) _ ?_)
    exact V8 [(0,.str s),(2,.box o 0),(5,.int .i64 n),(7,.int .i64 W),(8,.str (S c)),(9,.str (S m))] Bs (by simp only[go_sem,seval]) (D2i _) (G trivial)
   ·have b1: ¬S b=⟨#[]⟩:=fun e=>i (by have:=congrArg B e;rwa [v8]at this);have bz:0<(S b).size:=by rw[O6];exact List.length_pos_iff.2 i
    have bi:(0:Int)<(S b).size:=by omega
    have b3:A0O (B (S b))=none:=by rw[v8];exact V
    rcases hd with⟨hd,rfl,rfl⟩|⟨hd,rfl,rfl⟩
    ·have q:48≤nth c 0∧nth c 0≤57:=by unfold P9 at hd;simp only[D1U]at hd;exact(A1O _).1 hd.2
     obtain⟨M,Y⟩:=q;repeat' (first|with_reducible apply D1H|simp only[go_sem,seval,i,b1,bz,bi,M,Y]|with_reducible refine A9D (S c) b3 _ ?_|omega)
     exact V8 [(0,.str s),(2,.box o 0),(5,.int .i64 n),(7,.int .i64 W),(8,.str (S c)),(9,.str (S []))] Bs (by simp only[go_sem,seval,C7T]) (D2i _) (G trivial)
    ·have q: ¬(48≤nth m 0∧nth m 0≤57):=fun g=>by
      unfold P9 at hd;rw[(A1O _).2 g]at hd;simp[i]at hd
     by_cases M:48≤nth m 0
     ·have Y: ¬nth m 0≤57:=fun g=>q ⟨M,g⟩;repeat' (first|with_reducible apply D1H|simp only[go_sem,seval,i,b1,bz,bi,M,Y]|with_reducible refine A9D (S m) b3 _ ?_|omega)
      exact V8 [(0,.str s),(2,.box o 0),(5,.int .i64 n),(7,.int .i64 W),(8,.str (S [49])),(9,.str (S m))] Bs (by simp only[go_sem,seval,C7U]) (D2i _) (G trivial)
     ·repeat' (first|with_reducible apply D1H|simp only[go_sem,seval,i,b1,bz,bi,M]|with_reducible refine A9D (S m) b3 _ ?_|omega)
      exact V8 [(0,.str s),(2,.box o 0),(5,.int .i64 n),(7,.int .i64 W),(8,.str (S [49])),(9,.str (S m))] Bs (by simp only[go_sem,seval,C7U]) (D2i _) (G trivial)
  intro _;by_cases hv: ∃v,Lib.atoiAll c= .ok v
  ·obtain⟨v,hv⟩:=hv;have c8:M8 P=some (m,IntKind.i64.wrap (W*v)):=by unfold M8;rw[←hb,u,j];simp only[];rw[hv]
   have hq: ∀x,K7 Tryz.prog .eql 140 (J3 (.tmp x)||J3 (.const .nilIface)) .nilif .nilif=some (.bool true):=fun x=>B7Z (by kernel_rfl);repeat' (first|with_reducible apply D1H|simp only[go_sem,seval,e2,O,T,hD,hq]|with_reducible refine C0I (S c) (by rw[O6];omega) v (by rw[v8];exact hv) _ ?_|omega)
   exact D2j (F3 y g2) (hY _ _ c8)
  ·have hv: ∀v,Lib.atoiAll c≠ .ok v:=fun v g=>hv ⟨v,g⟩;have a9:M8 P=none:=by
    unfold M8;rw[←hb,u];cases hq:Lib.atoiAll c with
    |ok v=>exact absurd hq (hv v)
    |_=>simp only[]
   have hq: ∀x t,K7 Tryz.prog .eql 140 (J3 (.tmp x)||J3 (.const .nilIface)) (.iface t .undef) .nilif=some (.bool false):=fun x t=>B7a (by kernel_rfl);repeat' simp only[go_sem,seval,e2,O,T,hD]
   refine C0J (S c) (by rw[O6];omega) (fun v=>by rw[v8];exact hv v) _ c0 fun z t=>?_;repeat' (first|with_reducible apply D1H|simp only[go_sem,seval,e2,O,T,hD,hq]|omega)
   exact D2j (F3 y g2) (hN a9 _ _ _)
end Go.Proofs.YtibphjonmikciaaGreatDoor
namespace Go.Lin
open Go Go.Av Go.Lexs
def M9(l:List UInt8):LinV×Int:=match A0l l with
 |none=>(nilL,30)
 |some a=>(a,0)
theorem B7b(n:Int):U3 (IntKind.i64.wrap n):=by
 unfold U3;rw[IntKind.wrap_i64];omega
theorem B42(x:List UInt8):(l8 x).2.length≤x.length:=by
 have h:(Lib.trimPrefix x [43]).length≤x.length:=by
  unfold Lib.trimPrefix;split
  ·rw[D1p];omega
  ·exact D1b _
 unfold l8;simp only[];split
 ·simp only[D1p];omega
 ·exact h
theorem B7c{x n:List UInt8}{v:Int}(h:M8 x=some (n,v)):n.length≤x.length∧U3 v:=by
 unfold M8 at h;cases hs:A0G (l8 x).2 with
 |none=>rw[hs]at h;cases h
 |some p=>
  obtain⟨c,m⟩:=p;rw[hs]at h;simp only[]at h;split at h
  ·injection h with h
   have h1:m=n:=congrArg Prod.fst h;have i:IntKind.i64.wrap _=v:=congrArg Prod.snd h;refine⟨?_,by rw[←i];exact B7b _⟩;have hl:=B42 x;rw[←h1];rcases split_some hs with hc|⟨_,o,⟨_,_,rfl⟩|⟨_,_,rfl⟩⟩
   ·obtain⟨_,q,_,j⟩:=A6i hc;rw[←j,D1p];omega
   ·simp
   ·exact hl
  ·cases h
theorem C4H(a:LinV){n:List UInt8}(v:Int)(h:n= []):A7C a (n,v)= {a with k:=v}:=by unfold A7C;rw[if_pos h]
theorem C4I(a:LinV){n:List UInt8}(v:Int)(h:n≠[]):A7C a (n,v)= {a with t:=a.t++[⟨S n,v⟩]}:=by unfold A7C;rw[if_neg h]
theorem A78(l m:List UInt8):(Lib.trimSuffix l m).length≤l.length:=by
 unfold Lib.trimSuffix;split
 ·rw[D1z];omega
 ·exact D1b _
def A2q(a:LinV)(l:List UInt8):Option LinV:=((P0 l).mapM M8).map (A1R a)
theorem B43(a:LinV):A2q a []=some a:=by unfold A2q;rw[A23];rfl
theorem B2Y(a:LinV)(x:UInt8)(r:List UInt8)(h:M8 (x::r.takeWhile (!sgn ·))=none):A2q a (x::r)=none:=by
 unfold A2q;rw[A10,List.mapM_cons,h];rfl
theorem B2Z(a:LinV)(x:UInt8)(r:List UInt8){p}(h:M8 (x::r.takeWhile (!sgn ·))=some p):A2q a (x::r)=A2q (A7C a p) (r.dropWhile (!sgn ·)):=by
 unfold A2q;rw[A10,List.mapM_cons,h];show Option.map _ ((List.mapM M8 _).bind _)=_;cases List.mapM M8 (P0 (r.dropWhile (!sgn ·)))<;>rfl
theorem C4J(l:List UInt8)(p:UInt8→Bool):(l.takeWhile p).length+(l.dropWhile p).length=l.length:=by
 rw[←D1N,List.takeWhile_append_dropWhile]
end Go.Lin
namespace Go.Proofs.YtibphjonmikciaaGreatDoor
open Go Go.Av Go.Lexs Go.Lin
attribute [local irreducible] ACalls S9
theorem Tabs.ro{H:Heap}(h:Tabs H):Tabs (roH H):=⟨A6G h.pow,let ⟨t,e⟩:=h.syn;⟨t,A6G e⟩,let ⟨t,e⟩:=h.rng;⟨t,A6G e⟩⟩
set_option maxHeartbeats 4000000 in
theorem C0L{Q}(s:ByteArray)(hs:s.size≤1000000000)(H:Heap)(hT:Tabs H)(h:Q (.tuple [.agg (E8 (M9 (B s)).1),.int .i64 (M9 (B s)).2]) H):D7 120 [.str s] H Q:=by
 refine A9 [] A6 Tryz.func120 rfl ?_;simp only[go_sem,seval,Tryz.results120];have hl:=a7 s;intro W G;have e2:(H.set W (.box [.nilsl,.int .i64 0,.bool false])) W=some (.box [.nilsl,.int .i64 0,.bool false]):=A3 _ _;have j:H.Le (H.set W (.box [.nilsl,.int .i64 0,.bool false])):=A0 G;generalize H.set W (.box [.nilsl,.int .i64 0,.bool false])=Bs at e2 j⊢;have b0:=hT.le j;obtain⟨b,hb⟩: ∃b,b=Lib.trimSuffix (B s) [61,48]:=⟨_,rfl⟩
 have b9:b.length≤s.size:=by rw[hb,←hl];exact A78 _ _
 obtain⟨eq,I⟩: ∃eq,eq=Lib.hasSuffix (B s) [61,48]:=⟨_,rfl⟩
 have cc: ∀(H:Heap) (Q:D→Heap→Prop),Q (.tuple [.str (S b),.bool eq]) H→D7 147 [.str s,.str ⟨#[61,48]⟩] H Q:=fun H Q hq=>B0f s _ (by omega) H (by rw[hb,I]at hq;exact hq);obtain⟨c,hc⟩: ∃c,c=Lib.trimSuffix b [62]:=⟨_,rfl⟩
 have b1:c.length≤s.size:=by have:=A78 b [62];rw[hc];omega
 obtain⟨J,X⟩: ∃J,J=Lib.hasSuffix b [62]:=⟨_,rfl⟩
 have sb:=O6 b;have tc: ∀(H:Heap) (Q:D→Heap→Prop),Q (.str (S c)) H→D7 148 [.str (S b),.str ⟨#[62]⟩] H Q:=fun H Q hq=>A82 _ _ (by omega) H (by rw[hc]at hq;rw[v8];exact hq);have gc: ∀(H:Heap) (Q:D→Heap→Prop),Q (.bool J) H→D7 149 [.str (S b),.str ⟨#[62]⟩] H Q:=fun H Q hq=>B0e _ _ (by omega) H (by rw[X]at hq;rw[v8];exact hq);have Y:eq=false→M9 (B s)=(nilL,30):=fun e=>by
  unfold M9 A0l A43;rw[←I,e];rfl
 have a0:eq=true→A43 (B s)=A2q ⟨[],0,!J⟩ c:=fun e=>by
  unfold A43 A2q;rw[←I,e,if_pos rfl];simp only[];rw[←hb,←hc,←X]
 cases eq with
 |false=>
  rw[Y rfl]at h;repeat' (first|with_reducible apply D1H|simp only[go_sem,seval,e2]|simp(disch:=first|omega|grind) only[A8]|intro i|with_reducible refine cc _ _ ?_|with_reducible refine tc _ _ ?_|omega)
  exact E5 (A3k 0 30 false) (D2j (F3 (j.trans (A0 (by assumption))) G) h)
 |true=>
  have hR:=a0 rfl;clear Y a0;repeat' (first|with_reducible apply D1H|simp only[go_sem,seval,e2]|simp(disch:=first|omega|grind) only[A8]|intro i|with_reducible refine cc _ _ ?_|with_reducible refine tc _ _ ?_|with_reducible refine gc _ _ ?_|omega)
  rename_i b6;have h6:=i;clear i;have f0:=B5P h6 2 [.int .i64 0,.bool !J];generalize Bs.set b6 (.box [.nilsl,.int .i64 0,.bool !J])=Hq at f0⊢;refine C8 [0,2,6] (fun(p:List UInt8×LinV×Option Nat×Heap)=>[(4,.str (S p.1))]) (fun(p:List UInt8×LinV×Option Nat×Heap)=>p.2.2.2) (fun(p:List UInt8×LinV×Option Nat×Heap)=>BxI Bs b6 2 p.2.1.t.length (Rw J7 p.2.1.t) [.int .i64 p.2.1.k,.bool p.2.1.e] p.2.2.1 p.2.2.2∧A2q p.2.1 p.1=A43 (B s)∧p.2.1.t.length+p.1.length≤s.size∧(∀t∈p.2.1.t,t.v.size≤s.size∧U3 t.c)∧U3 p.2.1.k) (fun(p:List UInt8×LinV×Option Nat×Heap)=>p.1.length) ((c,⟨[],0,!J⟩,none,Hq)) (⟨f0,hR.symm,by simpa using b1,by simp,by unfold U3;simp⟩) (by(try simp only[go_sem,seval])<;>(try simp(disch:=omega) [A4])<;>(try omega)) (by first|exact D2i _|exact A0 (by assumption)|exact B9 (by assumption)|simp only[Heap.Le,Heap.set,Heap.del]at* <;>grind) ?_;clear f0 h6;rintro Ec rfl ⟨l,a,ob,Hp⟩ ⟨q,hr,hsz,y,M⟩;simp only at q hr hsz y M;have a6:=b0.le q.le;cases l with
  |nil=>
   rw[B43]at hr;have fa:l4 a:=⟨by simp at hsz;omega,fun t ht=>by have:=(y t ht).1;omega,fun t ht=>(y t ht).2,M⟩
   have O:=q.ex;have u:=q.le _ _ e2;have c0:b6≠W:=fun e=>by rw[e]at q;have:=q.hx;rw[e2]at this;cases this
   have tx: ∀(Q:D→Heap→Prop),Q (.tuple [.str (if validL a=true then S (F5 a)else S []),.int .i64 (if validL a=true then 0 else 2)]) Hp→D7 115 [.agg [H8 2 a.t.length ob,.int .i64 a.k,.bool a.e]] Hp Q:=fun Q hq=>A9X (by rw[D6]) q.eo (B7V a fa _ (a6.ro) ⟨rfl,hq⟩);have o1:(D.one.match_1 (fun _=>Bool) (H8 2 a.t.length ob) (fun _=>false) (fun _=>false) (fun _=>false) fun _=>true)=true:=by cases ob<;>rfl
   by_cases hv:validL a=true
   ·rw[if_pos hv,if_pos hv]at tx;by_cases ht:F5 a=B s
    ·have hp:M9 (B s)=(a,0):=by unfold M9 A0l;rw[←hr];simp only[D1l];rw[if_pos ⟨hv,ht⟩]
     rw[hp]at h;repeat' (first|with_reducible apply D1H|simp only[go_sem,seval,u,O,ht,o1]|simp(disch:=first|omega|grind) only[A8]|intro i|with_reducible refine tx _ ?_|omega)
     cases ob with
     |none=>
      obtain⟨T,K,E⟩:=a;have hz:T= []:=D1f (by have:=congrArg List.length (show Rw J7 T= []from q.eo);rwa [D6]at this);subst hz;exact E5 (A3k K 0 E) (D2j (F3 (j.trans q.le) G) h)
     |some b'=>
      obtain⟨q1,q2⟩:=q.fin j G u;exact B8g q1 (by rw[D6]) (D2j q2 h)
    ·have hp:M9 (B s)=(nilL,30):=by unfold M9 A0l;rw[←hr];simp only[D1l];rw[if_neg (fun g=>ht g.2)]
     rw[hp]at h;repeat' (first|with_reducible apply D1H|simp only[go_sem,seval,u,O,ht,o1]|simp(disch:=first|omega|grind) only[A8]|intro i|with_reducible refine tx _ ?_|omega)
     exact E5 (A3k 0 30 false) (D2j (F3 (j.trans q.le) G) h)
   ·rw[if_neg hv,if_neg hv]at tx;have hp:M9 (B s)=(nilL,30):=by unfold M9 A0l;rw[←hr];simp only[D1l];rw[if_neg (fun g=>hv g.1)]
    rw[hp]at h;repeat' (first|with_reducible apply D1H|simp only[go_sem,seval,u,O,o1]|simp(disch:=first|omega|grind) only[A8]|intro i|with_reducible refine tx _ ?_|omega)
    exact E5 (A3k 0 30 false) (D2j (F3 (j.trans q.le) G) h)
  |cons x r=>
   have c2:=C4J r (!sgn ·);simp only[D1M]at hsz;repeat' (first|with_reducible apply D1H|simp only[go_sem,seval]|simp(disch:=first|omega|grind) only[A8]|intro i|omega)
   refine C4G (S (x::r)) x r (v8 _) (by rw[O6,D1M];omega) _ a6 (fun hp v n z=>?_) (fun n v hp=>?_)
   ·rw[B2Y _ _ _ hp]at hr;have b3:M9 (B s)=(nilL,30):=by unfold M9 A0l;rw[←hr];rfl
    rw[b3]at h;have u:=q.le _ _ e2;repeat' (first|with_reducible apply D1H|simp only[go_sem,seval,u]|simp(disch:=first|omega|grind) only[A8]|intro i|omega)
    exact E5 (A3k 0 30 false) (D2j (F3 (j.trans (q.le.trans (A0 (by assumption)))) G) h)
   ·rw[B2Z _ _ _ hp]at hr;obtain⟨p1,p2⟩:=B7c hp;simp only[D1M]at p1;have c4:(r.dropWhile (!sgn ·)).length<r.length+1:=by omega
    by_cases hn:n= []
    ·rw[C4H a v hn]at hr;repeat' (first|with_reducible apply D1H|simp only[go_sem,seval,hn]|simp(disch:=first|omega|grind) only[A8]|intro i|omega)
     rename_i U;have h7:=i;clear i;have A:=q.up (A0 (o:=.box [.str (S n),.int .i64 v]) h7);have V:(Hp.set U (.box [.str (S n),.int .i64 v])) U=some (.box [.str (S n),.int .i64 v]):=A3 _ _;rw[hn]at A V;generalize Hp.set U (.box [.str (S []),.int .i64 v])=Hr at A V⊢;have O:=A.ex;repeat' (first|with_reducible apply D1H|simp only[go_sem,seval,O,V]|simp(disch:=first|omega|grind) only[A8]|intro i|omega)
     exact C4 (r.dropWhile (!sgn ·),{a with k:=v},ob,_) ⟨A.re _,hr,by simp only[];omega,y,p2⟩ (by simp only[D1M];omega) (by(try simp only[go_sem,seval])<;>(try simp(disch:=omega) [A4])<;>(try omega)) (D2i _)
    ·rw[C4I a v hn]at hr;repeat' (first|with_reducible apply D1H|simp only[go_sem,seval,hn]|simp(disch:=first|omega|grind) only[A8]|intro i|omega)
     rename_i U;have h7:=i;clear i;have A:=q.up (A0 (o:=.box [.str (S n),.int .i64 v]) h7);have V:(Hp.set U (.box [.str (S n),.int .i64 v])) U=some (.box [.str (S n),.int .i64 v]):=A3 _ _;generalize Hp.set U (.box [.str (S n),.int .i64 v])=Hr at A V⊢;have O:=A.ex;repeat' (first|with_reducible apply D1H|simp only[go_sem,seval,O,V]|simp(disch:=first|omega|grind) only[A8]|intro i|omega)
     rename_i bx;have b4:=i;clear i;refine A6N (P:=Tryz.prog) (H0:=Hr) (es:=Rw J7 a.t) b4 (by simp) A.eo (by rw[D6]) (by simp only[D1M,D1O];omega) (by simp only[D1M,D1O];omega) fun b' H' hA=>?_;have hY:Rw J7 a.t++[[D.str (S n),.int .i64 v]]=Rw J7 (a.t++[⟨S n,v⟩]):=by rw[←O7];rfl
     rw[hY]at hA;obtain⟨f1,b8⟩:=A.ap (m:=a.t.length+1) (D2i _) hA;repeat' (first|with_reducible apply D1H|simp only[go_sem,seval,b8]|simp(disch:=first|omega|grind) only[A8]|intro i|omega)
     have a9:(a.t++[(⟨S n,v⟩:LTm)]).length=a.t.length+1:=by rw[D1N];rfl
     refine C4 (r.dropWhile (!sgn ·),{a with t:=a.t++[⟨S n,v⟩]},some b',_) ⟨?_,hr,by simp only[a9];omega,fun t ht=>?_,M⟩ (by simp only[D1M];omega) (by(try simp only[go_sem,seval,L2])<;>(try simp(disch:=omega) [A4])<;>(try omega)) (D2i _)
     ·simp only[a9];exact f1
     ·rcases D1h.1 ht with g|g
      ·exact y t g
      ·rw[D1i]at g;subst g;exact⟨by simp only[O6];omega,p2⟩
end Go.Proofs.YtibphjonmikciaaGreatDoor
namespace Go.Lin
open Go Go.Av Go.Lexs
theorem B7d(s:List UInt8):M9 s=if validL (A44 s)=true∧F5 (A44 s)=s then(A44 s,0)else(nilL,30):=by
 unfold M9;rw[B6Z];split<;>rename_i h<;>split at h<;>simp_all
end Go.Lin
namespace Go.Proofs.YtibphjonmikciaaGreatDoor
open Go Go.Av Go.Lexs Go.Lin
attribute [local irreducible] ACalls S9
end Go.Proofs.YtibphjonmikciaaGreatDoor
namespace Go.Fo
open Go Go.Av Go.Lexs Go.Lin
def A07:List UInt8:=[116,114,117,101]
def flsB:List UInt8:=[102,97,108,115,101]
def E4:Fm→List UInt8
 | .mk o n l s ks=>
  if o=1 then(if n=1 then A07 else flsB)
  else if o=2 then F5 l
  else if o=3 then 63::B s
  else if o=4 then 33::textH ks
  else(if o=6 then 124 else 38)::40::(textK true ks++[41])
where
 textH:List Fm→List UInt8
 | []=>[]
 |f::_=>E4 f
 textK:Bool→List Fm→List UInt8
 |_,[]=>[]
 |b,f::fs=>(if b=true then []else [44,32])++E4 f++textK false fs
theorem B3l{f:Fm}(h:f.op=1):E4 f=if f.n=1 then A07 else flsB:=by
 obtain⟨o,n,l,s,ks⟩:=f;simp only[Fm.op]at h;subst h;rw[E4,if_pos rfl];rfl
theorem B3m{f:Fm}(h:f.op=2):E4 f=F5 f.l:=by
 obtain⟨o,n,l,s,ks⟩:=f;simp only[Fm.op]at h;subst h;rw[E4,if_neg (by decide),if_pos rfl];rfl
theorem B3n{f:Fm}(h:f.op=3):E4 f=63::B f.s:=by
 obtain⟨o,n,l,s,ks⟩:=f;simp only[Fm.op]at h;subst h;rw[E4,if_neg (by decide),if_neg (by decide),if_pos rfl];rfl
theorem B3o{f k:Fm}(h:f.op=4)(hk:f.ks= [k]):E4 f=33::E4 k:=by
 obtain⟨o,n,l,s,ks⟩:=f;simp only[Fm.op]at h;simp only[Fm.ks]at hk;subst h;subst hk;rw[E4,if_neg (by decide),if_neg (by decide),if_neg (by decide),if_pos rfl];rfl
theorem A5A{f:Fm}(h1:f.op≠1)(h:f.op≠2)(i:f.op≠3)(j:f.op≠4):E4 f=(if f.op=6 then 124 else 38)::40::(E4.textK true f.ks++[41]):=by
 obtain⟨o,n,l,s,ks⟩:=f;simp only[Fm.op]at h1 h i j;rw[E4,if_neg h1,if_neg h,if_neg i,if_neg j];rfl
theorem P2(b:Bool)(f:Fm)(fs:List Fm):E4.textK b (f::fs)=(if b=true then []else [44,32])++E4 f++E4.textK false fs:=by rw[E4.textK]
theorem B44(b:Bool)(l m:List Fm):E4.textK b (l++m)=E4.textK b l++E4.textK (b&&l.isEmpty) m:=by
 induction l generalizing b with
 |nil=>simp[E4.textK]
 |cons f l h=>simp only[D2S,P2,h,D15,List.isEmpty_cons,Bool.and_false,Bool.false_and]
theorem A19(l:List Fm)(i:Nat)(h:i<l.length):E4.textK true (l.take (i+1))=E4.textK true (l.take i)++((if i=0 then []else [44,32])++E4 l[i]):=by
 rw[D1a h,B44,P2]
 congr 1
 simp only[E4.textK,D16,Bool.true_and]
 congr 1
 cases i with
 |zero=>simp
 |succ i=>cases l with
  |nil=>simp at h
  |cons x l=>simp
def B1A(c:UInt8):Bool:=c==44||c==41
def nst(c:UInt8):Bool:= !B1A c
def L9(r:List UInt8):List UInt8:=r.takeWhile nst
def Q6(r:List UInt8):List UInt8:=r.dropWhile nst
def pre(p r:List UInt8):Bool:=p.isPrefixOf r
def A7H(w:List UInt8):Fm×Bool:=if w=A07 then(.mk 1 1 nilL D5 [],false)else if w=flsB then(.mk 1 0 nilL D5 [],false)else(A3D (M9 w).1,decide ((M9 w).2≠0))
def A08(form:List UInt8→Fm×List UInt8×Bool):Nat→List UInt8→List Fm→List Fm×List UInt8×Bool
 |0,r,_=>([],r,true)
 |n+1,r,out=>
  if pre [41] (form r).2.1=true then(out++[(form r).1],(form r).2.1.drop 1,(form r).2.2)
  else if(form r).2.2=true then([],(form r).2.1,true)
  else if pre [44,32] (form r).2.1=true then A08 form n ((form r).2.1.drop 2) (out++[(form r).1])
  else([],(form r).2.1,true)
def Y0(form:List UInt8→Fm×List UInt8×Bool)(r:List UInt8):List Fm×List UInt8×Bool:=if pre [41] r=true then([],r.drop 1,false)else A08 form (r.length+1) r []
def G5:Nat→List UInt8→Fm×List UInt8×Bool
 |0,r=>(zeroF,r,true)
 |e+1,r=>
  if pre [63] r=true then(.mk 3 0 nilL (S (L9 (r.drop 1))) [],Q6 (r.drop 1),false)
  else if pre [33] r=true then(.mk 4 0 nilL D5 [(G5 e (r.drop 1)).1],(G5 e (r.drop 1)).2.1,(G5 e (r.drop 1)).2.2)
  else if pre [38,40] r=true then(.mk 5 0 nilL D5 (Y0 (G5 e) (r.drop 2)).1,(Y0 (G5 e) (r.drop 2)).2.1,(Y0 (G5 e) (r.drop 2)).2.2)
  else if pre [124,40] r=true then(.mk 6 0 nilL D5 (Y0 (G5 e) (r.drop 2)).1,(Y0 (G5 e) (r.drop 2)).2.1,(Y0 (G5 e) (r.drop 2)).2.2)
  else((A7H (L9 r)).1,Q6 r,(A7H (L9 r)).2)
def Stp(tl:List UInt8):Prop:=∀c r,tl=c::r→nst c=false
theorem C0M:Stp []:=fun c r e=>by cases e
theorem C4K(r:List UInt8):Stp (41::r):=fun c r e=>by injection e with e _;subst e;decide
theorem C4L(r:List UInt8):Stp (44::r):=fun c r e=>by injection e with e _;subst e;decide
theorem A6j{w tl:List UInt8}(h: ∀c∈w,nst c=true)(ht:Stp tl):L9 (w++tl)=w∧Q6 (w++tl)=tl:=S3 h ht
def okC(c:UInt8):Prop:=c.toNat≠40∧c.toNat≠41∧c.toNat≠44∧c.toNat≠33∧c.toNat≠38∧c.toNat≠124∧c.toNat≠63
theorem A79{s:ByteArray}(h:plainB s=true): ∀c∈B s,okC c:=fun c hc=>by
 unfold plainB at h;rw[D1U]at h;have:=B3M h.2 c hc;unfold A1x at this;simp only[D1U,D1d]at this;unfold okC;omega
theorem B2a{c:UInt8}(h:okC c):nst c=true:=by
 unfold okC at h;unfold nst B1A;simp only[Bool.not_eq_true',Bool.or_eq_false_iff,beq_eq_false_iff_ne,ne_eq];exact⟨fun e=>by subst e;simp at h,fun e=>by subst e;simp at h⟩
theorem A6k{s:ByteArray}(h:plainB s=true):I2 (B s)=true:=by
 unfold plainB at h;rw[D1U]at h;exact h.1
theorem A1b{c:UInt8}(h:c.toNat=43∨c.toNat=45∨c.toNat=42∨c.toNat=62∨c.toNat=61∨(48≤c.toNat∧c.toNat≤57)):okC c:=by unfold okC;omega
theorem B3p{l:LinV}(hv:validL l=true)(hp: ∀t∈l.t,plainB t.v=true): ∀c∈F5 l,okC c:=by
 have key: ∀(m:List LTm) (f:Bool),(∀t∈m,plainB t.v=true)→∀c∈L6 f m,okC c:=by
  intro m
  induction m with
  |nil=>intro f _ c hc;cases hc
  |cons t m i=>
   intro f h c hc;rw[L6]at hc;rcases D1h.1 hc with g|g
   ·unfold U5 at g;rcases D1h.1 g with g|g
    ·rcases sign_or f t.c with q|q|q<;>rw[q]at g
     ·cases g
     ·rw[D1i]at g;subst g;exact A1b (by decide)
     ·rw[D1i]at g;subst g;exact A1b (by decide)
    ·rcases D1h.1 g with g|g
     ·split at g
      ·cases g
      ·rcases D1h.1 g with g|g
       ·have:=P8 _ c g;exact A1b (by omega)
       ·rw[D1i]at g;subst g;exact A1b (by decide)
     ·exact A79 (h t (D1S ..)) c g
   ·exact i false (fun x hx=>h x (D1Z _ hx)) c g
 intro c hc;unfold F5 M2 at hc;rcases D1h.1 hc with g|g
 ·rcases D1h.1 g with g|g
  ·exact key l.t true hp c g
  ·unfold R8 at g;split at g
   ·unfold A0N at g;rcases D1h.1 g with g|g
    ·rcases sign_or l.t.isEmpty l.k with q|q|q<;>rw[q]at g
     ·cases g
     ·rw[D1i]at g;subst g;exact A1b (by decide)
     ·rw[D1i]at g;subst g;exact A1b (by decide)
    ·have:=P8 _ c g;exact A1b (by omega)
   ·cases g
 ·split at g
  ·simp only[D1j,D1k,or_false]at g;rcases g with rfl|rfl<;>exact A1b (by decide)
  ·simp only[D1j,D1k,or_false]at g;rcases g with rfl|rfl|rfl<;>exact A1b (by decide)
theorem B7e(l:LinV):(61:UInt8)∈F5 l:=by
 unfold F5;split<;>simp
theorem B2b(l:LinV):F5 l≠[]:=fun h=>by have:=B7e l;rw[h]at this;cases this
theorem B3q(l:LinV):F5 l≠A07∧F5 l≠flsB:=by
 have:=B7e l;exact⟨fun h=>by rw[h]at this;revert this;decide,fun h=>by rw[h]at this;revert this;decide⟩
theorem S8(c d:UInt8)(r:List UInt8):pre [c] (d::r)=(c==d):=by simp[pre,List.isPrefixOf]
theorem A5f(c h d:UInt8)(r:List UInt8):pre [c,h] (d::r)=(c==d&&pre [h] r):=by simp[pre,List.isPrefixOf]
theorem B7f{c:UInt8}{r:List UInt8}(h:okC c):pre [63] (c::r)=false∧pre [33] (c::r)=false∧pre [38] (c::r)=false∧pre [124] (c::r)=false∧pre [38,40] (c::r)=false∧pre [124,40] (c::r)=false∧pre [41] (c::r)=false:=by
 unfold okC at h;have k: ∀d:UInt8,c.toNat≠d.toNat→(d==c)=false:=fun d hd=>by
  rw[beq_eq_false_iff_ne];intro e;exact hd (by rw[e])
 simp only[S8,A5f,k 63 h.2.2.2.2.2.2,k 33 h.2.2.2.1,k 38 h.2.2.2.2.1,k 124 h.2.2.2.2.2.1,k 41 h.2.1,Bool.false_and,and_self]
theorem A8A{f:Fm}(i:J1 E3 f=true): ∃c r,E4 f=c::r∧c≠41:=by
 cases Z1 i with
 |con n h=>
  rw[B3l rfl];split
  ·exact⟨_,_,rfl,by decide⟩
  ·exact⟨_,_,rfl,by decide⟩
 |lin l h hp=>
  rw[B3m rfl];have hm:=B3p h hp;show∃c r,F5 l=c::r∧c≠41;cases ht:F5 l with
  |nil=>exact absurd ht (B2b l)
  |cons c r=>
   have:=hm c (by rw[ht];exact D1S ..);exact⟨c,r,rfl,fun e=>by subst e;unfold okC at this;simp at this⟩
 |var s h=>rw[B3n rfl];exact⟨_,_,rfl,by decide⟩
 |not k=>rw[B3o rfl rfl];exact⟨_,_,rfl,by decide⟩
 |and ks=>rw[A5A (by simp[Fm.op]) (by simp[Fm.op]) (by simp[Fm.op]) (by simp[Fm.op])];exact⟨_,_,rfl,by show (38:UInt8)≠41;decide⟩
 |or ks=>rw[A5A (by simp[Fm.op]) (by simp[Fm.op]) (by simp[Fm.op]) (by simp[Fm.op])];exact⟨_,_,rfl,by show (124:UInt8)≠41;decide⟩
theorem B46(ks:List Fm)(h: ∀k∈ks,J1 E3 k=true): ∀b,ks.length≤(E4.textK b ks).length:=by
 induction ks with
 |nil=>intro b;simp
 |cons f fs i=>
  intro b;obtain⟨c,r,hc,_⟩:=A8A (h f (D1S ..));have:=i (fun k hk=>h k (D1Z _ hk)) false;rw[P2,hc];simp only[D1N,D1M];omega
theorem B2c(i:List UInt8→Fm×List UInt8×Bool)(tl:List UInt8): ∀(ks:List Fm),ks≠[]→(∀k∈ks,∀tl,Stp tl→i (E4 k++tl)=(k,tl,false))→∀n out,ks.length≤n→A08 i n (E4.textK true ks++(41::tl)) out=(out++ks,tl,false):=by
 intro ks
 induction ks with
 |nil=>intro h;exact absurd rfl h
 |cons k ks o=>
  intro _ hk n out hn;obtain⟨n,rfl⟩: ∃m,n=m+1:=⟨n-1,by simp only[D1M]at hn;omega⟩
  rw[A08,P2];simp only[if_true,D2T];cases ks with
  |nil=>
   have e:=hk k (D1S ..) (41::tl) (C4K _);simp only[E4.textK,D16];rw[e];simp only[S8,beq_self_eq_true,if_true,List.drop_succ_cons,List.drop_zero]
  |cons j ks=>
   have e:=hk k (D1S ..) (44::32::(E4.textK true (j::ks)++(41::tl))) (C4L _);have e2:E4.textK false (j::ks)=44::32::E4.textK true (j::ks):=by rw[P2,P2];simp
   rw[e2];simp only[D2S,D15];rw[e];have p:pre [41] (44::32::(E4.textK true (j::ks)++(41::tl)))=false:=by rw[S8];decide
   have q:pre [44,32] (44::32::(E4.textK true (j::ks)++(41::tl)))=true:=by rw[A5f,S8];decide
   simp only[p,q,D1X,if_false,if_true,List.drop_succ_cons,List.drop_zero];rw[o (by simp) (fun x hx=>hk x (D1Z _ hx)) n _ (by simp only[D1M]at hn⊢;omega)];simp
theorem B2d: ∀(f:Fm),J1 E3 f=true→∀e,Q0 f≤e→∀tl,Stp tl→G5 e (E4 f++tl)=(f,tl,false):=by
 intro f
 induction f using O1 with
 |h o n l s ks J=>
  intro M e he tl ht;have hk: ∀k∈ks,J1 E3 k=true:=fun k hk=>S7 (f:=.mk o n l s ks) M hk;obtain⟨e,rfl⟩: ∃d,e=d+1:=⟨e-1,by have:=((B0l _ e).1 he).1;omega⟩
  have hd: ∀k∈ks,Q0 k≤e:=fun k hm=>by have:=((B0l _ _).1 he).2 k hm;omega
  have m: ∀p,(∀k∈ks,J1 E3 k=true)→(p=38∨p=124)→Y0 (G5 e) ((p::40::(E4.textK true ks++[41])++tl).drop 2)=(ks,tl,false):=by
   intro p hk hp;simp only[D2S,List.drop_succ_cons,List.drop_zero,D15,D2T];unfold Y0;cases ks with
   |nil=>simp only[E4.textK,D2T,S8,beq_self_eq_true,if_true,List.drop_succ_cons,List.drop_zero]
   |cons k ks=>
    obtain⟨c,r,hc,q⟩:=A8A (hk k (D1S ..));have hp:pre [41] (E4.textK true (k::ks)++(41::tl))=false:=by
     rw[P2,hc];simp only[if_true,D2T,D2S,S8,beq_eq_false_iff_ne,ne_eq];exact fun e=>q e.symm
    rw[hp];simp only[D1X,if_false];rw[B2c (G5 e) tl (k::ks) (by simp) (fun x hx tl ht=>J x hx (hk x hx) e (hd x hx) tl ht) _ _ (by
     have:=B46 (k::ks) hk true;rw[D1N];omega)]
    rfl
  cases Z1 M with
  |con n h=>
   rw[B3l rfl];have g: ∀w,(w=A07∨w=flsB)→pre [63] (w++tl)=false∧pre [33] (w++tl)=false∧pre [38,40] (w++tl)=false∧pre [124,40] (w++tl)=false∧L9 (w++tl)=w∧Q6 (w++tl)=tl:=by
    intro w hw;have h1: ∀c∈w,okC c:=by
     rcases hw with rfl|rfl<;> · intro c hc;revert c;unfold okC;decide
    obtain⟨c,r,hc⟩: ∃c r,w=c::r:=by rcases hw with rfl|rfl<;>exact⟨_,_,rfl⟩
    have i:=A6j (w:=w) (tl:=tl) (fun c hc=>B2a (h1 c hc)) ht;have j:=B7f (c:=c) (r:=r++tl) (h1 c (by rw[hc];exact D1S ..));rw[hc]at i⊢;exact⟨j.1,j.2.1,j.2.2.2.2.1,j.2.2.2.2.2.1,i.1,i.2⟩
   rw[G5];rcases h with rfl|rfl
   ·obtain⟨u,y,z,A,G,I⟩:=g flsB (.inr rfl);show (if pre [63] (flsB++tl)=true then(.mk 3 0 nilL (S (L9 ((flsB++tl).drop 1))) [],Q6 ((flsB++tl).drop 1),false)else if pre [33] (flsB++tl)=true then(.mk 4 0 nilL D5 [(G5 e ((flsB++tl).drop 1)).1],(G5 e ((flsB++tl).drop 1)).2.1,(G5 e ((flsB++tl).drop 1)).2.2)else if pre [38,40] (flsB++tl)=true then _ else if pre [124,40] (flsB++tl)=true then _ else((A7H (L9 (flsB++tl))).1,Q6 (flsB++tl),(A7H (L9 (flsB++tl))).2))=_;rw[u,y,z,A,G,I];rfl
   ·obtain⟨u,y,z,A,G,I⟩:=g A07 (.inl rfl);show (if pre [63] (A07++tl)=true then(.mk 3 0 nilL (S (L9 ((A07++tl).drop 1))) [],Q6 ((A07++tl).drop 1),false)else if pre [33] (A07++tl)=true then(.mk 4 0 nilL D5 [(G5 e ((A07++tl).drop 1)).1],(G5 e ((A07++tl).drop 1)).2.1,(G5 e ((A07++tl).drop 1)).2.2)else if pre [38,40] (A07++tl)=true then _ else if pre [124,40] (A07++tl)=true then _ else((A7H (L9 (A07++tl))).1,Q6 (A07++tl),(A7H (L9 (A07++tl))).2))=_;rw[u,y,z,A,G,I];rfl
  |lin l h hp=>
   rw[B3m rfl];show G5 (e+1) (F5 l++tl)=_;have hm:=B3p h hp;obtain⟨c,r,hc⟩: ∃c r,F5 l=c::r:=by
    cases ht:F5 l with
    |nil=>exact absurd ht (B2b l)
    |cons c r=>exact⟨c,r,rfl⟩
   have i:=A6j (w:=F5 l) (tl:=tl) (fun c hc=>B2a (hm c hc)) ht;have j:=B7f (c:=c) (r:=r++tl) (hm c (by rw[hc];exact D1S ..));have q:F5 l++tl=c::(r++tl):=by rw[hc];rfl
   rw[G5,i.1,i.2,q,j.1,j.2.1,j.2.2.2.2.1,j.2.2.2.2.2.1];simp only[D1X,if_false];unfold A7H;rw[if_neg (B3q l).1,if_neg (B3q l).2];have:M9 (F5 l)=(l,0):=by unfold M9;rw[B0U l h]
   rw[this];rfl
  |var s h=>
   rw[B3n rfl];show G5 (e+1) (63::(B s++tl))=_;have hm:=A79 h;have i:=A6j (w:=B s) (tl:=tl) (fun c hc=>B2a (hm c hc)) ht;rw[G5];simp only[S8,beq_self_eq_true,if_true,List.drop_succ_cons,List.drop_zero];rw[i.1,i.2,S_B]
  |not k=>
   rw[B3o rfl rfl];show G5 (e+1) (33::(E4 k++tl))=_;have:=J k (D1S ..) (hk k (D1S ..)) e (hd k (D1S ..)) tl ht;rw[G5];simp only[S8,beq_self_eq_true,if_true,List.drop_succ_cons,List.drop_zero];rw[this];rfl
  |and ks=>
   rw[A5A (by simp[Fm.op]) (by simp[Fm.op]) (by simp[Fm.op]) (by simp[Fm.op])];show G5 (e+1) ((38:UInt8)::40::(E4.textK true ks++[41])++tl)=_;rw[G5,m 38 hk (.inl rfl)];simp only[D2S,S8,A5f];rfl
  |or ks=>
   rw[A5A (by simp[Fm.op]) (by simp[Fm.op]) (by simp[Fm.op]) (by simp[Fm.op])];show G5 (e+1) ((124:UInt8)::40::(E4.textK true ks++[41])++tl)=_;rw[G5,m 124 hk (.inr rfl)];simp only[D2S,S8,A5f];rfl
def okF(f:Fm)(s:List UInt8):Fm×Int:=if D8 f=true∧E4 f=s then(f,0)else(zeroF,30)
def A3F(s:List UInt8):Fm×Int:=if s.length > 20000 then(zeroF,3)else if(G5 60 s).2.2=true∨(G5 60 s).2.1≠[]then(zeroF,30)else okF (G5 60 s).1 s
theorem B2e{f:Fm}(h:D8 f=true):Q0 f≤60:=by
 rw[A2a]at h;simp only[D1U,D1d]at h;exact h.1.1.1.2
theorem B47{f:Fm}(h:D8 f=true):G5 60 (E4 f)=(f,[],false):=by
 have:=B2d f (M0 h) 60 (B2e h) [] C0M;simpa using this
theorem A6l{f:Fm}(h:D8 f=true)(hl:(E4 f).length≤20000):A3F (E4 f)=(f,0):=by
 unfold A3F;rw[if_neg (by omega),B47 h];simp only[D1X,ne_eq,not_true,or_self,if_false];unfold okF;rw[if_pos ⟨h,rfl⟩]
abbrev BS:=List (ByteArray×Bool)
def bsC(bs:BS):List (D×D):=bs.map fun p=>(.str p.1,.bool p.2)
def A9F:BS→ByteArray→Option Bool
 | [],_=>none
 |p::l,s=>if s=p.1 then some p.2 else A9F l s
def A1c:BS→ByteArray→Bool→BS
 | [],s,v=>[(s,v)]
 |p::l,s,v=>if s=p.1 then(s,v)::l else p::A1c l s v
theorem find_bsC(s:ByteArray): ∀(bs:BS) (i:Nat),(A9F bs s=none∧P5 (.one .str) (.str s) (bsC bs) i=some none∧∀v,A1c bs s v=bs++[(s,v)])∨∃j,∃b,j<bs.length∧A9F bs s=some b∧P5 (.one .str) (.str s) (bsC bs) i=some (some (i+j,.bool b))∧∀v,A1c bs s v=bs.set j (s,v)
 | [],i=>.inl ⟨rfl,rfl,fun _=>rfl⟩
 |(t,x)::l,i=>by
  have e:A4v (.one .str) (.str s) (.str t)=some (decide (s=t)):=by
   rw[A4v,V0]
   congr 1
   rw[Bool.eq_iff_iff,beq_iff_eq,D1d];exact⟨fun g=>l7 g,fun g=>by rw[g]⟩
  rw[show bsC ((t,x)::l)=(.str t,.bool x)::bsC l from rfl,P5];simp only[e,D1l,D1d,A9F,A1c];by_cases c:s=t
  ·subst c;rw[if_pos rfl,if_pos rfl];exact .inr ⟨0,x,by simp,rfl,rfl,fun v=>by rw[if_pos rfl];rfl⟩
  ·rw[if_neg c,if_neg c];rcases find_bsC s l (i+1)with⟨h1,h,m⟩|⟨j,b,h1,h,m,o⟩
   ·exact .inl ⟨h1,h,fun v=>by rw[if_neg c,m];rfl⟩
   ·exact .inr ⟨j+1,b,by simpa using h1,h,by rw[m];congr 3;omega,fun v=>by rw[if_neg c,o];rfl⟩
theorem C0N(s:ByteArray)(v:Bool)(bs:BS):(P5 (.one .str) (.str s) (bsC bs) 0).map (fun r=>A5v (bsC bs) (.str s) (.bool v) r)=some (bsC (A1c bs s v)):=by
 rcases find_bsC s bs 0 with⟨h1,i,h⟩|⟨j,b,h1,i,h,m⟩
 ·rw[i,h];show some (bsC bs++[(.str s,.bool v)])=_;unfold bsC;rw[D2H];rfl
 ·rw[h,m];show some ((bsC bs).set (0+j) (.str s,.bool v))=_;unfold bsC;rw[Nat.zero_add,List.map_set]
theorem A3w{H:Heap}{b:Nat}(s:ByteArray)(v:Bool)(bs:BS):(P5 (.one .str) (.str s) (bsC bs) 0).map (fun r=>H.set b (.map (A5v (bsC bs) (.str s) (.bool v) r)))=some (H.set b (.map (bsC (A1c bs s v)))):=by
 have:=congrArg (Option.map fun m=>H.set b (.map m)) (C0N s v bs);rw[Option.map_map]at this;exact this
def B1B(f:Fm):Nat:=if f.op=6 then 1 else 0
def B2f(cs:List LinV):Option Bool:=if cs.all validL=true∧cs.length≤1000 then C15 cs else none
def B48(rec:Fm→Option Bool):List Fm→Option Bool
 | []=>some false
 |k::l=>match rec k,B48 rec l with
  |some a,some b=>some (a||b)
  |_,_=>none
def A5g(rec:List LinV→BS→List Fm→Option Bool)(cs:List LinV)(bs:BS)(ks l:List Fm):Option Bool:=
 if l.length≤1∧ks.length≤1000 then
  if l≠[]∧B1B (l.headD zeroF)=0 then rec cs bs (l++[.mk 6 0 nilL D5 ks])
  else match B2f cs with
   |none=>none
   |some false=>some false
   |some true=>B48 (fun k=>rec cs bs (k::l)) ks
 else none
def W9:Nat→List LinV→BS→List Fm→Option Bool
 |0,_,_,_=>none
 |n+1,cs,bs,l=>match l with
  | []=>B2f cs
  |f::l=>
   if 1000<cs.length∨1000<l.length∨1000<f.ks.length then none
   else if f.op=1 then(if f.n=0 then some false else W9 n cs bs l)
   else if f.op=2 then W9 n (cs++[f.l]) bs l
   else if f.op=3 then(if A9F bs f.s=some false then some false else W9 n cs (A1c bs f.s true) l)
   else if f.op=4 then(if f.ks= []then none else if A9F bs (f.ks.headD zeroF).s=some true then some false else W9 n cs (A1c bs (f.ks.headD zeroF).s false) l)
   else if f.op=5 then W9 n cs bs (f.ks++l)
   else if f.op=6 then A5g (W9 n) cs bs f.ks l
   else none
def X1(f:Fm)(more:List LinV):Option Bool:=W9 60 more [] [normF f false]
end Go.Fo
namespace Go.Proofs.YtibphjonmikciaaGreatDoor
open Go Go.Av Go.Lin Go.Fo
attribute [local irreducible] ACalls S9
theorem C4M{Q}(p:LTm→Bool)(l:List LTm)(hl:l.length≤1000000000000000)(g:Nat)(first cap:List D)(H:Heap)
  (m: ∀a∈l,∀(Q:D→Heap→Prop),Q (.bool (p a)) H→D7 g (first++[.agg (J7 a)]++cap) H Q) (h:Q (.int .i64 (W7 p l)) H):
  D7 136 [.sl 2 (Rw J7 l),.fn (.func g) first cap] H Q:=by
 refine A9 [] A6 Tryz.func136 rfl ?_;simp only[go_sem,seval,Tryz.results136];refine C8 [0,1,7] (fun(k:Nat)=>[(8,.int .i64 k)]) (fun(k:Nat)=>H) (fun(k:Nat)=>k≤l.length∧W7 p l=if W7 p (l.drop k)<0 then-1 else W7 p (l.drop k)+k) (fun(k:Nat)=>l.length-k) (0) (⟨D1c _,by have:=A1X p l;rw[List.drop_zero];split<;>omega⟩) (by(try simp only[go_sem,seval])<;>(try simp(disch:=omega) [A4])) (by first|exact D2i _|exact A0 (by assumption)|exact B9 (by assumption)|simp only[Heap.Le,Heap.set,Heap.del]at* <;>grind) ?_;rintro q rfl k ⟨hk,hp⟩;by_cases i:k<l.length
 ·have j:decide ((k:Int)<l.length)=true:=D1J (by omega);rw[A4e p l k i]at hp;repeat' (first|with_reducible apply D1H|simp only[go_sem,seval,j,B3 _ _ i]|simp(disch:=omega) only[A4,B3,B4]|intro o|with_reducible refine m l[k] (D1V i) _ ?_|omega)
  ·have h1:p l[k]=true:=by assumption
   rw[if_pos h1]at hp;simp only[Int.zero_add,show¬((0:Int)<0)by omega,if_false]at hp;rw[hp]at h;exact D2m h
  ·have h1: ¬p l[k]=true:=by simp_all
   rw[if_neg h1]at hp;exact C4 (k+1) ⟨by omega,by rw[hp];have:=A1X p (l.drop (k+1));split<;>split<;>omega⟩ (by omega) (by(try simp only[go_sem,seval])<;>(try simp(disch:=omega) [A4])) (D2i _)
 ·have j:decide ((k:Int)<l.length)=false:=D1K (by omega);rw[List.drop_eq_nil_of_le (by omega),W7]at hp;repeat' simp only[go_sem,seval,j]
  simp only[show ((-1:Int)<0)by omega,if_true]at hp;rw[hp]at h;exact D2m h
theorem C4N{Q}(p:LTm→Bool)(l:List LTm)(hl:l.length≤1000000000000000)(g:Nat)(first cap:List D)(H:Heap)
  (i: ∀a∈l,∀(Q:D→Heap→Prop),Q (.bool (p a)) H→D7 g (first++[.agg (J7 a)]++cap) H Q) (h:Q (.bool (l.any p)) H):
  D7 97 [.sl 2 (Rw J7 l),.fn (.func g) first cap] H Q:=by
 refine A9 [] A6 Tryz.func97 rfl ?_;simp only[go_sem,seval,Tryz.results97];rw[←A3s]at h;repeat' (first|simp only[go_sem,seval]|with_reducible refine C4M p l hl g first cap _ i ?_)
 exact D2m h
theorem C4O{Q}(p:Fm→Bool)(l:List Fm)(hl:l.length≤1000000000000000)(g:Nat)(first cap:List D)(H:Heap)
  (o: ∀(k:Nat) (hk:k<l.length),(∀(j:Nat) (hj:j<k),p l[j]=false)→∀(Q:D→Heap→Prop),Q (.bool (p l[k])) H→D7 g (first++[.agg (C1 l[k])]++cap) H Q) (h:Q (.int .i64 (W7 p l)) H):
  D7 140 [.sl 7 (Rw C1 l),.fn (.func g) first cap] H Q:=by
 refine A9 [] A6 Tryz.func140 rfl ?_;simp only[go_sem,seval,Tryz.results140];refine C8 [0,1,7] (fun(k:Nat)=>[(8,.int .i64 k)]) (fun(k:Nat)=>H) (fun(k:Nat)=>k≤l.length∧(∀(j:Nat) (hj:j<l.length),j<k→p l[j]=false)∧W7 p l=if W7 p (l.drop k)<0 then-1 else W7 p (l.drop k)+k) (fun(k:Nat)=>l.length-k) (0) (⟨D1c _,fun _ _ h=>absurd h (Nat.not_lt_zero _),by have:=A1X p l;rw[List.drop_zero];split<;>omega⟩) (by(try simp only[go_sem,seval])<;>(try simp(disch:=omega) [A4])) (by first|exact D2i _|exact A0 (by assumption)|exact B9 (by assumption)|simp only[Heap.Le,Heap.set,Heap.del]at* <;>grind) ?_;rintro u rfl k ⟨hk,hb,hp⟩;by_cases i:k<l.length
 ·have m:decide ((k:Int)<l.length)=true:=D1J (by omega);rw[A4e p l k i]at hp;repeat' (first|with_reducible apply D1H|simp only[go_sem,seval,m,B3 _ _ i]|simp(disch:=omega) only[A4,B3,B4]|intro q|with_reducible refine o k i (fun j hj=>hb j (by omega) hj) _ ?_|omega)
  ·have h1:p l[k]=true:=by assumption
   rw[if_pos h1]at hp;simp only[Int.zero_add,show¬((0:Int)<0)by omega,if_false]at hp;rw[hp]at h;exact D2m h
  ·have h1: ¬p l[k]=true:=by simp_all
   rw[if_neg h1]at hp;refine C4 (k+1) ⟨by omega,fun j hj r=>?_,by rw[hp];have:=A1X p (l.drop (k+1));split<;>split<;>omega⟩ (by omega) (by(try simp only[go_sem,seval])<;>(try simp(disch:=omega) [A4])) (D2i _);rcases Nat.lt_or_ge j k with g|g
   ·exact hb j hj g
   ·have:j=k:=by omega
    subst this;simpa using h1
 ·have m:decide ((k:Int)<l.length)=false:=D1K (by omega);rw[List.drop_eq_nil_of_le (by omega),W7]at hp;repeat' simp only[go_sem,seval,m]
  simp only[show ((-1:Int)<0)by omega,if_true]at hp;rw[hp]at h;exact D2m h
theorem A6m{Q}(p:Fm→Bool)(l:List Fm)(hl:l.length≤1000000000000000)(g:Nat)(first cap:List D)(H:Heap)
  (i: ∀(k:Nat) (hk:k<l.length),(∀(j:Nat) (hj:j<k),p l[j]=false)→∀(Q:D→Heap→Prop),Q (.bool (p l[k])) H→D7 g (first++[.agg (C1 l[k])]++cap) H Q) (h:Q (.bool (l.any p)) H):
  D7 108 [.sl 7 (Rw C1 l),.fn (.func g) first cap] H Q:=by
 refine A9 [] A6 Tryz.func108 rfl ?_;simp only[go_sem,seval,Tryz.results108];rw[←A3s]at h;repeat' (first|simp only[go_sem,seval]|with_reducible refine C4O p l hl g first cap _ i ?_)
 exact D2m h
end Go.Proofs.YtibphjonmikciaaGreatDoor
namespace Go.Av
theorem A3x{P:Program}{f:Nat}(Z:List (Nat×Rc)){fn:Func}{T q rest:Code}{id s p r t t' e sz:Nat}{ops:Array Oper}{o1 o2:Oper}{args:List D}{H:Heap}{Q:D→Heap→Prop}(hm:P.follows .mixedOrders=true)(hf:P.funcs[f]? =some fn)
  (hb:fn.body=some (.seq T (.seq (.seq (.region id ops false) q) rest))) (W:A1n P f=true) (hn:args.length≤fn.ntmps) (ho:ops.toList= [o1,o2]) (X:o1.dst=some s) (z:o1.op= .move (.tmp p)) (Y:o1.guard=none)
  (a0:o2.dst=some r) (A:o2.op= .binOp .eql t (.tmp s) (.const (.slice none 0 0)) t') (a6:o2.guard=none) (hs:s<fn.ntmps) (hr:r<fn.ntmps) (ht:P.underlying t=some (.slice e)) (a9:N6 P [] fn.ntmps T=true) (G:N6 P Z fn.ntmps q=true) (I:N6 P Z fn.ntmps rest=true)
  (h:wp P [] T (fun x E H=>x= .normal∧E.get p= .sl sz []∧∀b:Bool,wp P Z (.seq q rest) (A8f P fn.results.toList Q) ((E.put (some s) (.sl sz [])).put (some r) (.bool b)) H) (V7 0 args) H):ACalls P f args H Q:=by
 refine⟨W,fun w vs hl hR hS=>calls_of_wp hf hb ?_⟩;have hst:St fn.ntmps w H (V7 0 args) H {tmps:=vs++Array.replicate (fn.ntmps-vs.size) undef,defers:=[]} w:=by
  refine⟨by simp;omega,rfl,fun i=>?_,hS,D2p _ _,D2o _ _⟩;rw[z8,if_pos (D1c _),Nat.sub_zero];cases hi:args[i]? with
  |none=>exact .undef _
  |some d=>
   have b7:=(D1R.1 hi).1;have:({tmps:=vs++Array.replicate (fn.ntmps-vs.size) undef,defers:=[]}:Act).eval (.tmp i)=vs.getD i undef:=by
    simp only[Act.eval];exact G3 (by omega)
   rw[this];exact hR i d hi
 have fin: ∀(x:AX) (E:Env) (H':Heap) (a:Act) (w':World),(x= .normal∨x= .ret)→St fn.ntmps w H E H' a w'→A8f P fn.results.toList Q x E H'→
   a.defers= []∧∃v,(results fn a.tmps).run P w'= .ok v w'∧∃v',Ending.returned v= .returned v'∧Post H w Q v' w':=by
  intro x E H' a w' hx j hq;have b0: ∃r,A2x P fn.results.toList E H'=some r∧∃U V,Shift H' r U V∧Q V U:=by rcases hx with rfl|rfl<;>exact hq
  obtain⟨r,hr,U,V,b1,hQ⟩:=b0;obtain⟨v,hv,b2⟩:=A2P (P:=P) j hr;obtain⟨k1,k2,k3⟩:=b1 _ _ b2 j.sat;exact⟨j.defers,v,hv,v,rfl,V,U,k1,k2,j.ext,fun k hk hn=>k3 k (j.frm k hk hn),hQ⟩
 refine Go.wp_seq (Go.wp_mono (z7 hm T _ _ _ _ _ a9 h hst) fun x a w' he=>?_);cases x with
 |normal=>
  obtain⟨E,H',j,_,hp,hq⟩:=he;refine Go.wp_seq (Go.wp_seq (y0 (F:=none) (K:=fun a' J=>∃b:Bool,St fn.ntmps w H ((E.put (some s) (.sl sz [])).put (some r) (.bool b)) H' a' J) (fun a' J hk=>?_) ?_))
  ·obtain⟨b,M⟩:=hk;refine Go.wp_mono (z7 hm q _ _ _ _ _ G (hq b) M) fun x a w' he=>?_;cases x with
   |normal=>
    obtain⟨E,H',j,hq⟩:=he;refine Go.wp_mono (z7 hm rest _ _ _ _ _ I hq j) fun x a w' he=>?_;cases x with
    |normal=>obtain⟨E,H',j,hq⟩:=he;exact fin .normal E H' a w' (.inl rfl) j hq
    |ret=>obtain⟨E,H',j,hq⟩:=he;exact fin .ret E H' a w' (.inr rfl) j hq
    |exit id=>obtain⟨E,H',j,hq⟩:=he;exact hq.elim
    |_=>exact he.elim
   |ret=>obtain⟨E,H',j,hq⟩:=he;exact fin .ret E H' a w' (.inr rfl) j hq
   |exit id=>obtain⟨E,H',j,hq⟩:=he;exact hq.elim
   |_=>exact he.elim
  ·rw[ho];unfold wpA;rw[if_pos (by simp[Region.wanted,Y])];have hv:=j.env p;rw[hp]at hv;unfold opSem;rw[z];refine⟨a.eval (.tmp p),fun w2=>?_,?_⟩
   ·simp only[execOp,z];rfl
   ·have m:St fn.ntmps w H (E.put (some s) (.sl sz [])) H' (a.put o1.dst (a.eval (.tmp p))) w':=by
     rw[X];exact j.put (fun t ht=>by cases ht;exact hs) hv j.sat (D2p _ _) (D2o _ _)
    show wpA P none ops _ [o2] (a.put o1.dst (a.eval (.tmp p))) w';unfold wpA;rw[if_pos (by simp[Region.wanted,a6])];have y:=m.env s;have b3:(E.put (some s) (D.sl sz [])).get s= .sl sz []:=by simp[Env.put,Env.get]
    rw[b3]at y;obtain⟨o,cap,O⟩: ∃o cap,(a.put o1.dst (a.eval (.tmp p))).eval (.tmp s)= .slice o 0 cap:=by
     revert y;generalize (a.put o1.dst (a.eval (.tmp p))).eval (.tmp s)=v;intro y;cases y with
     |sl0 _ o cap=>exact⟨o,cap,rfl⟩
     |sl _ _ b off cap u=>exact⟨_,_,rfl⟩
    unfold opSem;rw[A];refine⟨.bool o.isNone,fun w2=>?_,o.isNone,?_⟩
    ·have b4:Runs P (do eqGuard .eql t (.tmp s) (.const (.slice none 0 0)) (.slice o 0 cap) (.slice none 0 0);binOp .eql t (.slice o 0 cap) (.slice none 0 0)) (.bool o.isNone):=(J4 ⟨by simp,by simp⟩).bind (fun w=>by
      simp only[binOp];simp[run_equal_slice_nil w t e o 0 cap ht])
     have b6:(a.put o1.dst (a.eval (.tmp p))).eval (.const (.slice none 0 0))= .slice none 0 0:=rfl;simp only[execOp,A];rw[O,b6,Sem.run_bind,b4 w2];rfl
    ·rw[a0];exact m.put (fun t ht=>by cases ht;exact hr) (.bool _) m.sat (D2p _ _) (D2o _ _)
 |exit id=>obtain⟨E,H',j,hq⟩:=he;exact absurd hq.1 (by simp)
 |ret=>obtain⟨E,H',j,hq⟩:=he;exact absurd hq.1 (by simp)
 |_=>exact he.elim
end Go.Av
namespace Go.Proofs.YtibphjonmikciaaGreatDoor
open Go Go.Av Go.Lexs Go.Lin Go.Fo
attribute [local irreducible] ACalls S9
noncomputable def B3r:Array Oper:=match Tryz.f91.body with|some (.seq _ (.seq (.seq (.region _ ops _) _) _))=>ops|_=> #[]
theorem B7g{Q}(l:List LTm)(hc:l≠[])(hl:l.length≤5864062014639)(H:Heap)(h:Q (.sl 2 (Rw J7 l)) H):D7 91 [.sl 2 (Rw J7 l)] H Q:=by
 have m:Rw J7 l≠[]:=fun e=>hc (D1f (by rw[←D6 (f:=J7),e];rfl));refine A9 [] A6 Tryz.func91 rfl ?_;simp only[go_sem,seval,Tryz.results91];have hq: ∀(x:Nat),K7 Tryz.prog .eql 23 (J3 (.tmp x)||J3 (.const (.slice none 0 0))) (.sl 2 (Rw J7 l)) .nilsl=some (.bool false):=fun x=>A3W m (by kernel_rfl);repeat' (first|with_reducible apply D1H|simp only[go_sem,seval,hq]|intro i|omega)
 rename_i q p o;have j:=i;clear i;rw[E9 p]at j⊢;exact Fin.out (ob:=some o) (es:=Rw J7 l) (by rw[D6]) (A3 _ _) (D2j (by show H.Le ((H.set o _).del o);rw[E9 j];exact D2i _) h)
theorem B7h{Q}(l:List LTm)(hl:l.length≤5864062014639)(H:Heap)(h:Q (.sl 2 (Rw J7 l)) H):D7 91 [.sl 2 (Rw J7 l)] H Q:=by
 by_cases hc:l= []
 ·subst hc;obtain⟨o1,o2,ho,a1,a2,a3,m,o,p⟩: ∃o1 o2,B3r.toList= [o1,o2]∧o1.dst=some 3∧o1.op= .move (.tmp 0)∧o1.guard=none∧o2.dst=some 4∧o2.op= .binOp .eql 23 (.tmp 3) (.const (.slice none 0 0)) 23∧o2.guard=none:=by
   refine⟨_,_,rfl,?_⟩;exact⟨rfl,rfl,rfl,rfl,rfl,rfl⟩
  refine A3x (ops:=B3r) [] (sz:=2) A6 Tryz.func91 rfl (by kernel_rfl) (D1I (by kernel_rfl)) ho a1 a2 a3 m o p (D1I (by kernel_rfl)) (D1I (by kernel_rfl)) (e:=114) (by kernel_rfl) (by kernel_rfl) (by kernel_rfl) (by kernel_rfl) ?_;simp only[go_sem,seval,Tryz.results91];refine⟨rfl,fun b=>⟨fun _=>E5 (.nil 2) (D2m h),fun _ r q j i=>?_⟩⟩;rw[E9 q]at i⊢;exact Fin.out (ob:=some j) (n:=0) (es:=Rw J7 []) rfl (A3 _ _) (D2j (by show H.Le ((H.set j _).del j);rw[E9 i];exact D2i _) h)
 ·exact B7g l hc hl H h
theorem C0O(n:Nat): ∀{Q} (f:Fm) (hn:SizeOf.sizeOf f≤n) (Y:FmFit f) (H:Heap) (h:Q (.agg (C1 f)) H),D7 49 [.agg (C1 f)] H Q:=by
 induction n with
 |zero=>intro Q f hn;cases f;simp at hn
 |succ n ih=>
 intro Q f hn Y H h;refine A9 [(7,.par)] A6 Tryz.func49 rfl ?_;simp only[go_sem,seval,Tryz.results49];have b9:=Y.kl;intro j g1 z g2;simp only[A5]at g2;obtain⟨Z,hZ⟩: ∃Z:List D,Z= [.int .i64 0,.int .i64 0,.nilsl,.int .i64 0,.bool false,.str ⟨#[]⟩,.nilsl]:=⟨_,rfl⟩
 rw[←hZ];have I:j≠z:=fun e=>g2.1 e.symm;have e1:((H.set j (.box (C1 f))).set z (.box Z)) j=some (.box (C1 f)):=by rw[A2 _ I,A3]
 have e2:((H.set j (.box (C1 f))).set z (.box Z)) z=some (.box Z):=A3 _ _;have O:H.Le ((H.set j (.box (C1 f))).set z (.box Z)):=(A0 g1).trans (A0 (by simp only[A5];exact g2));generalize (H.set j (.box (C1 f))).set z (.box Z)=Bs at e1 e2 O⊢;have s1:Bs.set j (.box (C1 f))=Bs:=B3W e1;repeat' (first|simp only[go_sem,seval,e1,B6z,s1,B60]|with_reducible refine B7h f.l.t Y.lin.len _ ?_)
 obtain⟨Cs,r⟩: ∃Cs,Cs=Bs.set j (.box (ac6 f .nilsl)):=⟨_,rfl⟩
 have c1:Cs j=some (.box (ac6 f .nilsl)):=by rw[r,A3]
 have c2:Cs z=some (.box Z):=by rw[r,A2 _ I.symm];exact e2
 have T:H.Le Cs:=fun k o hk=>by
  have:k≠j:=fun e=>by rw[e,g1]at hk;cases hk
  rw[r,A2 _ this];exact O _ _ hk
 rw[←r];refine C8 [1,2,15,16] (fun(p:Nat×Option Nat×Heap)=>[(17,.int .i64 p.1)]) (fun(p:Nat×Option Nat×Heap)=>p.2.2) (fun(p:Nat×Option Nat×Heap)=>p.1≤f.ks.length∧AH 7 Cs j (ac6 f) (Rw C1 (f.ks.take p.1)) p.1 p.2.1 p.2.2) (fun(p:Nat×Option Nat×Heap)=>f.ks.length-p.1) ((0,none,Cs)) (⟨D1c _,A2F c1⟩) (by(try simp only[go_sem,seval])<;>(try simp(disch:=omega) [A4])) (by first|exact D2i _|exact A0 (by assumption)|exact B9 (by assumption)|simp only[Heap.Le,Heap.set,Heap.del]at* <;>grind) ?_;rintro Ec rfl ⟨i,ob,Hp⟩ ⟨hi,A⟩;simp only at hi A;by_cases u:i<f.ks.length
 ·have J:decide ((i:Int)<f.ks.length)=true:=D1J (by omega);have a0:(i:Int)<f.ks.length:=by omega
  have hm:=D1V u;repeat' (first|with_reducible apply D1H|simp only[go_sem,seval,J,a0,B3 _ _ u,C3 _ _ u]|(intro q;try simp only[A5]at q)|omega)
  rename_i G;have h7:=q;clear q;obtain⟨d1,d7,dO,dN⟩:=A.at7 h7 (.box (C1 f.ks[i]));refine F9 (fun i'=>.agg (C1 f.ks[i])) [j,G] ?_;have m1:j∈[j,G]:=by simp
  have m7:G∈[j,G]:=by simp
  repeat' (first|simp only[go_sem,seval,d1,d7,m1,m7]|(intro q;try simp only[A5]at q)|with_reducible refine R5 (fun H' Q hro hq=>ih f.ks[i] (by have:=A0Z hm;omega) (Y.kid hm) H' hq) ?_)
  rename_i x;have hx:=q;clear q;obtain⟨U,a6⟩:=hx;have y:(Hp.set G (.box (C1 f.ks[i]))) x=none:=by rw[A2 _ U];exact a6
  obtain⟨M,V⟩:=A5b dO y (.vec 7 [C1 f.ks[i]]);have a9:x∉[j,G]:=by
   simp only[D1j,D1k,or_false,not_or];exact⟨fun e=>(by rw[e,d1]at y;cases y),U⟩
  have b0: ∀c,ob=some c→c∉[j,G]:=fun c e=>by
   simp only[D1j,D1k,or_false,not_or];exact⟨(A.fresh c e).2,dN c e⟩
  refine B0p 28 96 (n:=i) (m:=1) (bx:=x) (ob:=ob) (es:=Rw C1 (f.ks.take i)) (xs:=[C1 f.ks[i]]) (by simp only[go_sem,seval]) (by decide) (by simp only[go_sem,seval]) (by simp only[go_sem,seval]) (by simp only[go_sem,seval]) (by simp only[go_sem,seval]) (A3 _ _) rfl (by simp) M (U4 _ _ (by omega)).symm a9 V b0 (by simp only[D1M,D1O];omega) (by simp only[D1M,D1O];omega) fun b' W=>?_;rw[E9 y]at W⊢;obtain⟨b8,b3,A'⟩:=A.step h7 _ W (C1 f.ks[i]);revert A';generalize b4:((I3 (Hp.set G (.box (C1 f.ks[i]))) ob).set b' (.vec 7 (Rw C1 (f.ks.take i)++[C1 f.ks[i]]))).set j (.box (ac6 f (.vec b' 7 0 (i+1))))=Hf;intro A';repeat' (first|simp only[go_sem,seval,b3,m1]|simp(disch:=omega) only[A4,B3,B4])
  exact C4 (i+1,some b',Hf) ⟨by simp only[];omega,by simp only[];rw[O9 f.ks i u];exact A'⟩ (by simp only[];omega) (by(try simp only[go_sem,seval])<;>(try simp(disch:=omega) [A4])) (by rw[←b4];exact D2i _)
 ·have J:decide ((i:Int)<f.ks.length)=false:=D1K (by omega);have b6:i=f.ks.length:=by omega
  have X:=A.keep z _ I.symm c2;rw[D1W (by omega)]at A;have A1:=A.box;rw[hZ]at X;have o1:=A1Y 7 i ob;repeat' (first|with_reducible apply D1H|simp only[go_sem,seval,J,A1,X,o1])
  exact C3x b6 (A.out2 c2 _) (D2j (A.le2 T g1 g2.2 _) (by rw[←C4p];exact h))
theorem B3s{Q}(f:Fm)(i:FmFit f)(H:Heap)(h:Q (.agg (C1 f)) H):D7 49 [.agg (C1 f)] H Q:=C0O _ f (D1b _) i H h
end Go.Proofs.YtibphjonmikciaaGreatDoor
namespace Go.Fo
open Go Go.Av Go.Lexs Go.Lin
abbrev A5Q:ByteArray:=⟨#[40,41,44,33,38,124,63]⟩
theorem B2g(c:UInt8):A1x (c.toNat:Int)= !(B A5Q).contains c:=by
 have key: ∀n:Fin 256,A1x ((UInt8.ofNat n.val).toNat:Int)= !(B A5Q).contains (UInt8.ofNat n.val):=by decide+kernel
 have:=key ⟨c.toNat,c.toNat_lt⟩;simpa using this
theorem A8B: ∀l:List UInt8,Lib.containsAny l (B A5Q)= !l.all (ofB A1x)
 | []=>rfl
 |b::l=>by
  have i:=A8B l;unfold Lib.containsAny at i⊢;rw[Lib.indexAny,D2K];have e:ofB A1x b= !(B A5Q).contains b:=B2g b;rw[e];have g:=Lib.indexAny_ge (B A5Q) l;by_cases h:(B A5Q).contains b=true
  ·rw[if_pos h,h];rfl
  ·rw[if_neg h];have j:(B A5Q).contains b=false:=by simpa using h
   rw[j,D2g,Bool.true_and,←i];apply D1u.2;split
   ·rename_i q;have:=beq_iff_eq.1 q;omega
   ·rename_i q;have:Lib.indexAny l (B A5Q)≠ -1:=fun e=>q (by rw[e];rfl);omega
def plainK(f:Fm)(tx ln:Bool)(kk:Int):Bool:=(tx||decide (f.s.size=0))&&(ln||B0N f.l)&&(decide (kk<0)||decide ((f.ks.length:Int)=kk))
end Go.Fo
namespace Go.Proofs.YtibphjonmikciaaGreatDoor
open Go Go.Av Go.Lexs Go.Lin Go.Fo
attribute [local irreducible] ACalls S9
open Go.RowKit in
theorem C4P{Q}(s:ByteArray)(hs:I2 (B s)=true)(H:Heap)(h:Q (.bool (!(B s).all (ofB A1x))) H):D7 137 [.str s,.str A5Q] H Q:=
 J0 (by kernel_rfl) (fun w vs hl hr o=>by
  obtain⟨a,b,rfl,i,hb⟩:=A0E hl hr;rw[i.str_inv,hb.str_inv];refine(Tryz.strings_ContainsAny_laid s A5Q w (by have:=A3E hs;omega) (by decide) (fun j b m=>by have:=A6S hs b (D1o m);omega) (fun j b m=>by
   have hm:=D1o m;have key: ∀c∈(A5Q).data.toList,c.toNat<128:=by decide
   exact key b hm)).mono fun e w' ⟨he,hw⟩=>?_
  refine⟨_,he,hw,?_⟩;rw[show Lib.containsAny s.data.toList A5Q.data.toList= !(B s).all (ofB A1x)from A8B (B s)];exact .bool _) h
theorem B1C{Q}(s:ByteArray)(H:Heap)(h:Q (.bool (plainB s)) H):D7 99 [.str s] H Q:=by
 refine A9 [] A6 Tryz.func99 rfl ?_;simp only[go_sem,seval,Tryz.results99];unfold plainB at h;cases hn:I2 (B s)with
 |false=>
  rw[hn]at h;repeat' (first|simp only[go_sem,seval,hn]|with_reducible refine N9 _ _ ?_)
  exact D2m h
 |true=>
  rw[hn]at h;repeat' (first|simp only[go_sem,seval,hn]|with_reducible refine N9 _ _ ?_|with_reducible refine C4P s hn _ ?_)
  exact D2m (by simpa using h)
theorem C7V{Q}(t:LTm)(H:Heap)(h:Q (.bool (!plainB t.v)) H):D7 98 [.agg (J7 t)] H Q:=by
 refine A9 [] A6 Tryz.func98 rfl ?_;simp only[go_sem,seval,Tryz.results98];repeat' (first|simp only[go_sem,seval]|intro i|with_reducible refine B1C _ _ ?_)
 exact D2j (by simp only[F0,D3,D4]at* <;>grind) h
set_option maxHeartbeats 2000000 in
theorem B1D{Q}(f:Fm)(m:FmFit f)(i j:Bool)(o:Int)(b:Nat)(H:Heap)(hb:H b=some (.box (C1 f)))(h:Q (.bool (plainK f i j o)) H):D7 95 [.bool i,.bool j,.int .i64 o,.box b 0] H Q:=by
 refine A9 [] A6 Tryz.func95 rfl ?_;simp only[go_sem,seval,Tryz.results95];have q:=m.kl;have r:=m.lin.len;have d1:decide (f.s.size=0)=decide (B f.s= []):=by
  rw[←a7];exact D1u.2 List.length_eq_zero_iff
 have p:decide ((f.l.t.length:Int)=0)=decide (f.l.t= []):=D1u.2 (by rw[←List.length_eq_zero_iff];omega);unfold plainK B0N at h;rw[d1,←p]at h;clear d1 p;cases i<;>cases j
 all_goals
  repeat' (first|with_reducible apply D1H|simp only[go_sem,seval,hb]|intro u)
  all_goals (refine D2m ?_;simp_all)
end Go.Proofs.YtibphjonmikciaaGreatDoor
namespace Go.Fo
open Go Go.Av Go.Lexs Go.Lin
def ovr(S H:Heap):Heap:=fun i=>match S i with|some o=>some o|none=>H i
theorem A0n{S H:Heap}{b:Nat}{o:Av.Obj}(h:S b=some o):ovr S H b=some o:=by unfold ovr;rw[h]
theorem A2c{S H:Heap}{b:Nat}(h:S b=none):ovr S H b=H b:=by unfold ovr;rw[h]
theorem A09{S H:Heap}{b:Nat}(h:ovr S H b=none):S b=none∧H b=none:=by
 unfold ovr at h;cases g:S b with
 |none=>rw[g]at h;exact⟨rfl,h⟩
 |some o=>rw[g]at h;cases h
theorem A9G{S H:Heap}{b:Nat}{o:Av.Obj}(h:S b=none):(ovr S H).set b o=ovr S (H.set b o):=by
 funext i
 unfold ovr Heap.set;by_cases e:i=b
 ·subst e;simp[h]
 ·simp[e]
theorem B2h{S H H':Heap}(h:H.Le H'):(ovr S H).Le (ovr S H'):=fun k o hk=>by
 unfold ovr at hk⊢;cases g:S k with
 |none=>rw[g]at hk;exact h _ _ hk
 |some x=>rw[g]at hk;exact hk
structure Vis(P:Program)(σ :Type)(g:Nat)(cap:List D)(St: σ →Heap)(step: σ →Fm→Int→ σ)(I: σ →Prop)(Hb:Heap→Prop):Prop where
 dom: ∀a a' i,St a i=none→St a' i=none
 inv: ∀a f d,I a→I (step a f d)
 base: ∀H b (o:Av.Obj),Hb H→H b=none→Hb (H.set b o)
 call: ∀a f d (H:Heap) (Q:D→Heap→Prop),I a→Hb H→FmFit f→Q (.tuple []) (ovr (St (step a f d)) H)→ACalls P g (.agg (C1 f):: .int .i64 d::cap) (ovr (St a) H) Q
end Go.Fo
namespace Go.Proofs.YtibphjonmikciaaGreatDoor
open Go Go.Av Go.Lexs Go.Lin Go.Fo
attribute [local irreducible] ACalls S9
theorem C4Q{σ :Type}{g:Nat}{cap:List D}{St: σ →Heap}{step: σ →Fm→Int→ σ}{I: σ →Prop}{Hb:Heap→Prop}(V:Vis Tryz.prog σ g cap St step I Hb)(n:Nat): ∀{Q} (f:Fm) (hn:SizeOf.sizeOf f≤n) (y:FmFit f) (d:Int) (a: σ) (z:I a) (H:Heap) (M:Hb H) (h:Q (.tuple []) (ovr (St (foldF step f d a)) H)),
  D7 53 [.agg (C1 f),.int .i64 d,.fn (.func g) [] cap] (ovr (St a) H) Q:=by
 induction n with
 |zero=>intro Q f hn;cases f;simp at hn
 |succ n W=>
 intro Q f hn y d a z H M h;refine A9 [] A6 Tryz.func53 rfl ?_;simp only[go_sem,seval,Tryz.results53];have X:=y.kl;rw[A17]at h;intro q A;obtain⟨O,T⟩:=A09 A;rw[A9G O];have m:=V.base H q (.box (C1 f)) M T;have r:H.Le (H.set q (.box (C1 f))):=A0 T;have e3: ∀a',ovr (St a') (H.set q (.box (C1 f))) q=some (.box (C1 f)):=fun a'=>by rw[A2c (V.dom a a' q O),A3]
 generalize H.set q (.box (C1 f))=Bs at m r e3⊢;repeat' (first|simp only[go_sem,seval,e3]|with_reducible refine V.call a f d Bs _ z m y ?_)
 refine C8 [1,2,13,14] (fun(p:Nat× σ)=>[(15,.int .i64 p.1)]) (fun(p:Nat× σ)=>ovr (St p.2) Bs) (fun(p:Nat× σ)=>p.1≤f.ks.length∧I p.2∧foldF.foldK step (f.ks.drop p.1) (IntKind.i64.wrap (d+1)) p.2=foldF.foldK step f.ks (IntKind.i64.wrap (d+1)) (step a f d)) (fun(p:Nat× σ)=>f.ks.length-p.1) ((0,step a f d)) (⟨D1c _,V.inv _ _ _ z,rfl⟩) (by(try simp only[go_sem,seval])<;>(try simp(disch:=omega) [A4])) (by first|exact D2i _|exact A0 (by assumption)|exact B9 (by assumption)|simp only[Heap.Le,Heap.set,Heap.del]at* <;>grind) ?_;rintro Ec rfl ⟨i,c⟩ ⟨Y,hc,u⟩;simp only at Y hc u;by_cases j:i<f.ks.length
 ·have o:decide ((i:Int)<f.ks.length)=true:=D1J (by omega);have G:(i:Int)<f.ks.length:=by omega
  have hm:=D1V j;rw[D1m j,foldF.foldK]at u;repeat' (first|with_reducible apply D1H|simp only[go_sem,seval,o,G,B3 _ _ j,C3 _ _ j]|intro x|omega)
  rename_i b7;have h7:=x;clear x;obtain⟨s7,U⟩:=A09 h7;rw[A9G s7];have J:=V.base Bs b7 (.box (C1 f.ks[i])) m U;refine W f.ks[i] (by have:=A0Z hm;omega) (y.kid hm) _ c hc _ J ?_;repeat' (first|simp only[go_sem,seval]|simp(disch:=omega) only[A4,B3,B4])
  exact C4 (i+1,foldF step f.ks[i] (IntKind.i64.wrap (d+1)) c) ⟨by simp only[];omega,B4i step I V.inv _ _ _ hc,u⟩ (by simp only[];omega) (by(try simp only[go_sem,seval])<;>(try simp(disch:=omega) [A4])) (B2h (A0 U))
 ·have o:decide ((i:Int)<f.ks.length)=false:=D1K (by omega);rw[List.drop_eq_nil_of_le (by omega),foldF.foldK]at u;rw[←u]at h;repeat' simp only[go_sem,seval,o]
  exact D2j (B2h r) h
theorem B2i{σ :Type}{g:Nat}{cap:List D}{St: σ →Heap}{step: σ →Fm→Int→ σ}{I: σ →Prop}{Hb:Heap→Prop}(V:Vis Tryz.prog σ g cap St step I Hb){Q}(f:Fm)(i:FmFit f)(d:Int)(a: σ)(j:I a)(H:Heap)(m:Hb H)(h:Q (.tuple []) (ovr (St (foldF step f d a)) H)):
  D7 53 [.agg (C1 f),.int .i64 d,.fn (.func g) [] cap] (ovr (St a) H) Q:=C4Q V _ f (D1b _) i d a j H m h
end Go.Proofs.YtibphjonmikciaaGreatDoor
namespace Go.Fo
open Go Go.Av Go.Lexs Go.Lin
def tcF:List LTm→Int→Int
 | [],left=>left
 |t::l,left=>tcF l (IntKind.i64.wrap (left-t.v.size / 100))
def A3G:Fm→Int→Int
 | .mk _ _ l s ks,left=>cntK ks (tcF l.t (IntKind.i64.wrap (left-IntKind.i64.wrap (IntKind.i64.wrap (1+s.size / 100)+l.t.length))))
where cntK:List Fm→Int→Int
 | [],left=>left
 |f::fs,left=>if left<0 then left else cntK fs (A3G f left)
theorem C0P(f:Fm)(left:Int):A3G f left=A3G.cntK f.ks (tcF f.l.t (IntKind.i64.wrap (left-IntKind.i64.wrap (IntKind.i64.wrap (1+f.s.size / 100)+f.l.t.length)))):=by cases f;rw[A3G];rfl
def B1E:List Fm→Int→Int
 | [],n=>n
 |f::l,n=>B1E l (A3G f n)
theorem C0Q{f:Fm}(h:E3 f=true):f.l.t.length≤12:=by
 cases B7T h with
 |lin l hv hp=>exact(M4 hv).len
 |_=>simp[Fm.l,nilL]
def VOk(f:Fm):Prop:=J9 f≤1000000∨J1 E3 f=false
theorem B2j(l:List LTm):(!l.any fun t=> !plainB t.v)=l.all fun t=>plainB t.v:=by
 induction l with
 |nil=>rfl
 |cons t l h=>rw[D2M,D2K,←h];cases plainB t.v<;>simp
theorem C0R(l:List Fm):l.isEmpty=decide ((l.length:Int)=0):=by
 cases l with
 |nil=>rfl
 |cons x l=>simp only[List.isEmpty_cons,D1M];symm;apply D1K;omega
theorem C0S(l:List Fm):decide (l.length=1)=decide ((l.length:Int)=1):=D1u.2 (by omega)
theorem B7i(f:Fm):E3 f=if f.op=1 then((decide (f.n=0)||decide (f.n=1))&&plainK f false false 0)
  else if f.op=2 then(decide (f.n=0)&&plainK f false true 0&&validL f.l&& !f.l.t.any fun t=> !plainB t.v)
  else if f.op=3 then(decide (f.n=0)&&plainK f true false 0&&plainB f.s)
  else if f.op=4 then(decide (f.n=0)&&plainK f false false 1)
  else if f.op=5∨f.op=6 then(decide (f.n=0)&&plainK f false false (-1))else false:=by
 unfold E3 plainK;rw[C0R,C0S,B2j];split
 ·simp[Bool.and_assoc]
 ·split
  ·simp only[Bool.false_or,Bool.true_or,Bool.and_true,Int.lt_irrefl,decide_false,Bool.true_and,Bool.and_assoc]
  ·split
   ·simp only[Bool.false_or,Bool.true_or,Bool.and_true,Int.lt_irrefl,decide_false,Bool.true_and,Bool.and_assoc]
   ·split
    ·simp[Bool.and_assoc]
    ·split
     ·simp[Bool.and_assoc]
     ·rfl
end Go.Fo
namespace Go.Proofs.YtibphjonmikciaaGreatDoor
open Go Go.Av Go.Lexs Go.Lin Go.Fo
attribute [local irreducible] ACalls S9
set_option maxHeartbeats 4000000 in
theorem C9q{Q}(f:Fm)(o:FmFit f)(H:Heap)(h:Q (.bool (E3 f)) H):D7 55 [.agg (C1 f)] H Q:=by
 refine A9 [] A6 Tryz.func55 rfl ?_;simp only[go_sem,seval,Tryz.results55];have G:=o.lin.len;rw[B7i]at h;intro m h1;have e1:(H.set m (.box (C1 f))) m=some (.box (C1 f)):=A3 _ _;have i:H.Le (H.set m (.box (C1 f))):=A0 h1;generalize H.set m (.box (C1 f))=Bs at e1 i⊢;have c1:=fun(Q:D→Heap→Prop)=>B1D (Q:=Q) f o false false 0 m Bs e1;have x:=fun(Q:D→Heap→Prop)=>B1D (Q:=Q) f o false true 0 m Bs e1;have c3:=fun(Q:D→Heap→Prop)=>B1D (Q:=Q) f o true false 0 m Bs e1;have y:=fun(Q:D→Heap→Prop)=>B1D (Q:=Q) f o false false 1 m Bs e1;have q:=fun(Q:D→Heap→Prop)=>B1D (Q:=Q) f o false false (-1) m Bs e1;have z:=fun(Q:D→Heap→Prop)=>A84 (Q:=Q) f.l o.lin Bs;have A:=fun(Q:D→Heap→Prop)=>C4N (Q:=Q) (fun t=> !plainB t.v) f.l.t (by omega) 98 [] [] Bs (fun a V Q hq=>C7V a Bs hq);have nc:=fun(Q:D→Heap→Prop)=>B1C (Q:=Q) f.s Bs;generalize plainK f false false 0=W at h c1;generalize plainK f false true 0=X at h x;generalize plainK f true false 0=Y at h c3;generalize plainK f false false 1=k4 at h y;generalize plainK f false false (-1)=k5 at h q;generalize validL f.l=v1 at h z;generalize (f.l.t.any fun t=> !plainB t.v)=v2 at h A;generalize plainB f.s=v3 at h nc;by_cases o1:f.op=1
 ·rw[if_pos o1]at h;repeat' (first|with_reducible apply D1H|simp only[go_sem,seval,e1,o1]|intro j|with_reducible refine c1 _ ?_)
  all_goals (refine D2j i ?_;simp_all)
 rw[if_neg o1]at h;by_cases o2:f.op=2
 ·rw[if_pos o2]at h;repeat' (first|with_reducible apply D1H|simp only[go_sem,seval,e1,o2]|intro j|with_reducible refine x _ ?_|with_reducible refine z _ ?_|with_reducible refine A _ ?_)
  all_goals (refine D2j i ?_;simp_all)
 rw[if_neg o2]at h;by_cases o3:f.op=3
 ·rw[if_pos o3]at h;repeat' (first|with_reducible apply D1H|simp only[go_sem,seval,e1,o3]|intro j|with_reducible refine c3 _ ?_|with_reducible refine nc _ ?_)
  all_goals (refine D2j i ?_;simp_all)
 rw[if_neg o3]at h;by_cases p:f.op=4
 ·rw[if_pos p]at h;repeat' (first|with_reducible apply D1H|simp only[go_sem,seval,e1,p]|intro j|with_reducible refine y _ ?_)
  all_goals (refine D2j i ?_;simp_all)
 rw[if_neg p]at h;by_cases r:f.op=5
 ·rw[if_pos (.inl r)]at h;repeat' (first|with_reducible apply D1H|simp only[go_sem,seval,e1,r]|intro j|with_reducible refine q _ ?_)
  all_goals (refine D2j i ?_;simp_all)
 by_cases u:f.op=6
 ·rw[if_pos (.inr u)]at h;repeat' (first|with_reducible apply D1H|simp only[go_sem,seval,e1,u]|intro j|with_reducible refine q _ ?_)
  all_goals (refine D2j i ?_;simp_all)
 rw[if_neg (by omega)]at h;have I:decide (f.op=1)=false:=D1K o1;have J:decide (f.op=2)=false:=D1K o2;have M:decide (f.op=3)=false:=D1K o3;have O:decide (f.op=4)=false:=D1K p;have T:decide (f.op=5)=false:=D1K r;have U:decide (f.op=6)=false:=D1K u;repeat' (first|with_reducible apply D1H|simp only[go_sem,seval,e1,I,J,M,O,T,U]|intro j|omega)
 all_goals exact D2j i h
end Go.Proofs.YtibphjonmikciaaGreatDoor
namespace Go.Fo
open Go Go.Av Go.Lexs Go.Lin
def A1A(n:Int):Av.Obj:=.box [.int .i64 n]
def j6(bn bm:Nat)(a:Int×Int):Heap:=fun i=>if i=bm then some (A1A a.2)else if i=bn then some (A1A a.1)else none
theorem C0T{bn bm:Nat}(a a':Int×Int)(H i:Heap)(h:(ovr (j6 bn bm a) H).Le i):(ovr (j6 bn bm a') H).Le ((i.set bn (A1A a'.1)).set bm (A1A a'.2)):=fun k o hk=>by
 unfold Heap.set;by_cases e:k=bm
 ·subst e;simp[ovr,j6]at hk⊢;exact hk
 ·by_cases e2:k=bn
  ·subst e2;simp[ovr,j6,e]at hk⊢;exact hk
  ·simp only[e,e2,if_false];refine h _ _ ?_;simpa [ovr,j6,e,e2]using hk
def B7j(b:Bool):Av.Obj:=.box [.bool b]
def u7(bo:Nat)(a:Bool):Heap:=fun i=>if i=bo then some (B7j a)else none
theorem B3t{i:Nat}(a a':Bool)(H j:Heap)(h:(ovr (u7 i a) H).Le j):(ovr (u7 i a') H).Le (j.set i (B7j a')):=fun k o hk=>by
 unfold Heap.set;by_cases e:k=i
 ·subst e;simp[ovr,u7]at hk⊢;exact hk
 ·simp only[e,if_false];refine h _ _ ?_;simpa [ovr,u7,e]using hk
def Q7(bi bb mi mb:Nat)(a:List ByteArray×List ByteArray):Heap:=fun i=>if i=mi then some (.map (D2 tt a.1))else if i=mb then some (.map (D2 tt a.2))else if i=bi then some (.box [.map mi])else if i=bb then some (.box [.map mb])else none
structure C0U(bi bb mi mb:Nat):Prop where
 a:mi≠mb
 b:bi≠mi
 c:bi≠mb
 d:bb≠mi
 e:bb≠mb
 f:bi≠bb
theorem B1F{bi bb mi mb:Nat}(F:C0U bi bb mi mb)(a:List ByteArray×List ByteArray)(H:Heap):ovr (Q7 bi bb mi mb a) H mi=some (.map (D2 tt a.1))∧ovr (Q7 bi bb mi mb a) H mb=some (.map (D2 tt a.2))∧ovr (Q7 bi bb mi mb a) H bi=some (.box [.map mi])∧ovr (Q7 bi bb mi mb a) H bb=some (.box [.map mb]):=by
 have f1:=F.a;have f2:=F.b;have f3:=F.c;have h:=F.d;have f5:=F.e;have f6:=F.f;refine⟨A0n (by simp[Q7]),A0n (by simp[Q7,f1.symm]),A0n (by simp[Q7,f2,f3]),A0n (by simp[Q7,h,f5,f6.symm])⟩
theorem B1G{bi bb mi mb:Nat}(a a':List ByteArray×List ByteArray)(H G:Heap)(h1:G mi=some (.map (D2 tt a'.1)))(j:G mb=some (.map (D2 tt a'.2)))(m:G bi=some (.box [.map mi]))(p:G bb=some (.box [.map mb]))
  (h: ∀k o,Q7 bi bb mi mb a k=none→H k=some o→G k=some o):(ovr (Q7 bi bb mi mb a') H).Le G:=fun k o hk=>by
 unfold ovr Q7 at hk;by_cases e1:k=mi
 ·rw[if_pos e1]at hk;rw[e1,h1];exact hk
 rw[if_neg e1]at hk;by_cases e2:k=mb
 ·rw[if_pos e2]at hk;rw[e2,j];exact hk
 rw[if_neg e2]at hk;by_cases e3:k=bi
 ·rw[if_pos e3]at hk;rw[e3,m];exact hk
 rw[if_neg e3]at hk;by_cases i:k=bb
 ·rw[if_pos i]at hk;rw[i,p];exact hk
 rw[if_neg i]at hk;exact h k o (by unfold Q7;rw[if_neg e1,if_neg e2,if_neg e3,if_neg i]) hk
theorem B7k{bi bb mi mb:Nat}(a a':List ByteArray×List ByteArray)(i:Nat)(h:Q7 bi bb mi mb a i=none):Q7 bi bb mi mb a' i=none:=by
 unfold Q7 at h⊢;by_cases e1:i=mi
 ·simp[e1]at h
 by_cases e2:i=mb
 ·simp[e1,e2]at h;split at h<;>cases h
 by_cases e3:i=bi
 ·rw[if_neg e1,if_neg e2,if_pos e3]at h;cases h
 by_cases j:i=bb
 ·rw[if_neg e1,if_neg e2,if_neg e3,if_pos j]at h;cases h
 rw[if_neg e1,if_neg e2,if_neg e3,if_neg j]
theorem C9r(bn bm:Nat)(x y:Int)(H:Heap):(H.set bn (A1A x)).set bm (A1A y)=ovr (j6 bn bm (x,y)) H:=by
 funext i
 unfold ovr j6 Heap.set;by_cases e1:i=bm
 ·simp[e1]
 ·by_cases e2:i=bn
  ·subst e2;simp[e1]
  ·simp[e1,e2]
theorem C9s(h:Nat)(x:Bool)(H:Heap):H.set h (B7j x)=ovr (u7 h x) H:=by
 funext i
 unfold ovr u7 Heap.set;by_cases e1:i=h<;>simp[e1]
def A6n(n:Nat)(seen:List Nat):Nat:=((List.range n).filter fun i=> !seen.contains i).length
theorem A2A{n i:Nat}{seen:List Nat}(m:i<n)(hn:i∉seen):A6n n (seen++[i])<A6n n seen:=by
 unfold A6n;have key: ∀l:List Nat,(l.filter fun j=> !(seen++[i]).contains j).length+(l.filter fun j=>decide (j=i)).length≤(l.filter fun j=> !seen.contains j).length+(l.filter fun j=>decide (j=i∧i∈seen)).length:=by
  intro l
  induction l with
  |nil=>simp
  |cons x l h=>
   simp only[List.filter_cons];by_cases e:x=i
   ·subst e;simp[hn]at h⊢;omega
   ·by_cases g:x∈seen
    ·simp[e,g]at h⊢;omega
    ·simp[e,g]at h⊢;omega
 have p:=key (List.range n);have z:((List.range n).filter fun j=>decide (j=i∧i∈seen)).length=0:=by simp[hn]
 have o:1≤((List.range n).filter fun j=>decide (j=i)).length:=by
  apply List.length_pos_of_mem (a:=i);simp[m]
 omega
def X2(f:Fm):Bool:=decide ((foldF A0m f 1 (0,0)).1≤200)&&decide ((foldF A0m f 1 (0,0)).2≤60)
theorem B7l{f:Fm}(h:J9 f≤1000000):X2 f=(decide (Q0 f≤60)&&decide (J5 f≤200)):=by
 unfold X2;rw[B6v f 1 (0,0) (by decide) (by omega) (by decide) (by simp only[];omega)];rw[Bool.and_comm];have h1:1≤Q0 f:=by cases f;rw[Q0];omega
 congr 1
 ·apply D1u.2;simp only[];omega
 ·apply D1u.2;simp only[];omega
theorem B1H{f:Fm}(h:VOk f):(X2 f&&J1 E3 f&& !meetL (ivF f) (bvF f)&&decide ((ivF f).length+(bvF f).length≤12))=D8 f:=by
 rw[A2a];rcases h with h|h
 ·rw[B7l h];cases J1 E3 f<;>simp
 ·rw[h];simp
structure SmI(bn bm:Nat)(a:Int×Int)(d:Int)(Bs:Heap)(l:Array Bool)(F:FEnv)(H:Heap):Prop where
 size:l.size=7
 f1:F 1= .int .i64 d
 f2:F 2= .box bn 0
 f3:F 3= .box bm 0
 v0:l.getD 0 false=true→F 6= .int .i64 a.1
 v1:l.getD 1 false=true→F 7= .int .i64 (IntKind.i64.wrap (a.1+1))
 v2:l.getD 2 false=true→F 8= .int .i64 a.2
 v3:l.getD 3 false=true→F 9= .int .i64 d
 v4:l.getD 4 false=true→F 10= .int .i64 (if a.2<d then d else a.2)
 hn:H bn=some (if l.getD 5 false=true then A1A (IntKind.i64.wrap (a.1+1))else A1A a.1)
 hm:H bm=some (if l.getD 6 false=true then A1A (if a.2<d then d else a.2)else A1A a.2)
 ho: ∀k,k≠bn→k≠bm→H k=Bs k
 w5:l.getD 5 false=true→l.getD 0 false=true
 w6:l.getD 6 false=true→l.getD 2 false=true
end Go.Fo
namespace Go.Proofs.YtibphjonmikciaaGreatDoor
open Go Go.Av Go.Lexs Go.Lin Go.Fo
attribute [local irreducible] ACalls S9
noncomputable def smOps:Array Oper:=match Tryz.f94.body with|some (.seq _ (.region _ ops _))=>ops|_=> #[]
theorem B7m{bn bm:Nat}(V:bn≠bm)(a:Int×Int)(d:Int)(Bs:Heap)(K:Kg)(hK: ∀F H,H bn=some (A1A (IntKind.i64.wrap (a.1+1)))→H bm=some (A1A (if a.2<d then d else a.2))→(∀k,k≠bn→k≠bm→H k=Bs k)→K F H):
  ∀fuel l F H,SmI bn bm a d Bs l F H→(l.toList.filter (!·)).length≤fuel→C0D Tryz.prog smOps K fuel l F H:=by
 obtain⟨x0,o0,d0,p0,g0,w0⟩: ∃o,smOps[0]? =some o∧o.dst=some 6∧o.op= .load 3 (.tmp 2)∧o.guard=none∧K6 o= []:=⟨_,rfl,rfl,rfl,rfl,rfl⟩
 obtain⟨x1,o1,d1,p1,g1,w1⟩: ∃o,smOps[1]? =some o∧o.dst=some 7∧o.op= .binOp .add 3 (.tmp 6) (.const (.int .i64 1)) 3∧o.guard=none∧K6 o= [0]:=⟨_,rfl,rfl,rfl,rfl,rfl⟩
 obtain⟨x2,o2,d2,p2,g2,w2⟩: ∃o,smOps[2]? =some o∧o.dst=some 8∧o.op= .load 3 (.tmp 3)∧o.guard=none∧K6 o= []:=⟨_,rfl,rfl,rfl,rfl,rfl⟩
 obtain⟨x3,o3,d3,p3,g3,w3⟩: ∃o,smOps[3]? =some o∧o.dst=some 9∧o.op= .move (.tmp 1)∧o.guard=none∧K6 o= []:=⟨_,rfl,rfl,rfl,rfl,rfl⟩
 obtain⟨x4,o4,d4,p4,g4,Y⟩: ∃o,smOps[4]? =some o∧o.dst=some 10∧o.op= .call ⟨.builtin .max,#[.tmp 8,.tmp 9],#[3,3]⟩∧o.guard=none∧K6 o= [2,3]:=⟨_,rfl,rfl,rfl,rfl,rfl⟩
 obtain⟨x5,o5,d5,p5,g5,w5⟩: ∃o,smOps[5]? =some o∧o.dst=none∧o.op= .store 3 (.tmp 2) (.tmp 7)∧o.guard=none∧K6 o= [1,0,1]:=⟨_,rfl,rfl,rfl,rfl,rfl⟩
 obtain⟨x6,o6,d6,p6,g6,w6⟩: ∃o,smOps[6]? =some o∧o.dst=none∧o.op= .store 3 (.tmp 3) (.tmp 10)∧o.guard=none∧K6 o= [4,5,0,1,2,3,4,5]:=⟨_,rfl,rfl,rfl,rfl,rfl⟩
 have a6:smOps.size=7:=rfl;generalize smOps=ops at*;have W: ∀i o,ops[i]? =some o→i<7:=fun i o h=>by have:=(D1g.1 h).1;omega
 have done: ∀l F H,SmI bn bm a d Bs l F H→(∀i,i<7→l.getD i false=true)→K F H:=fun l F H I M=>by
  refine hK F H ?_ ?_ I.ho
  ·rw[I.hn,if_pos (M 5 (by decide))]
  ·rw[I.hm,if_pos (M 6 (by decide))]
 have tf: ∀(l:Array Bool) (i:Nat),l.size=7→i<7→l.getD i false=false→l.getD i true=false:=fun l i hs A h=>by
  have:i<l.size:=by omega
  simp[this]at h⊢;exact h
 have ft: ∀(l:Array Bool) (i:Nat),l.size=7→i<7→l.getD i true=false→l.getD i false=false:=fun l i hs A h=>by
  have:i<l.size:=by omega
  simp[this]at h⊢;exact h
 have u: ∀(l:Array Bool),l.size=7→Region.ready .any ops l= []→∀i,i<7→l.getD i false=true:=fun l hs O=>by
  have k: ∀i o,i<7→ops[i]? =some o→(∀e∈K6 o,l.getD e false=true)→l.getD i false=true:=fun i o A ho hd=>by
   cases hc:l.getD i false with
   |true=>rfl
   |false=>
    have:=A6g (tf l i hs A hc) ho hd;rw[O]at this;cases this
  have k0:=k 0 x0 (by decide) o0 (fun e he=>by rw[w0]at he;simp only[D1j,D1k,or_false]at he;repeat (first|(rcases he with rfl|he;assumption)|(subst he;assumption)|exact he.elim));have T:=k 1 x1 (by decide) o1 (fun e he=>by rw[w1]at he;simp only[D1j,D1k,or_false]at he;repeat (first|(rcases he with rfl|he;assumption)|(subst he;assumption)|exact he.elim));have U:=k 2 x2 (by decide) o2 (fun e he=>by rw[w2]at he;simp only[D1j,D1k,or_false]at he;repeat (first|(rcases he with rfl|he;assumption)|(subst he;assumption)|exact he.elim));have k3:=k 3 x3 (by decide) o3 (fun e he=>by rw[w3]at he;simp only[D1j,D1k,or_false]at he;repeat (first|(rcases he with rfl|he;assumption)|(subst he;assumption)|exact he.elim));have k4:=k 4 x4 (by decide) o4 (fun e he=>by rw[Y]at he;simp only[D1j,D1k,or_false]at he;repeat (first|(rcases he with rfl|he;assumption)|(subst he;assumption)|exact he.elim));have k5:=k 5 x5 (by decide) o5 (fun e he=>by rw[w5]at he;simp only[D1j,D1k,or_false]at he;repeat (first|(rcases he with rfl|he;assumption)|(subst he;assumption)|exact he.elim));have k6:=k 6 x6 (by decide) o6 (fun e he=>by rw[w6]at he;simp only[D1j,D1k,or_false]at he;repeat (first|(rcases he with rfl|he;assumption)|(subst he;assumption)|exact he.elim));intro i A
  match i,A with
  |0,_=>exact k0
  |1,_=>exact T
  |2,_=>exact U
  |3,_=>exact k3
  |4,_=>exact k4
  |5,_=>exact k5
  |6,_=>exact k6
 have a0: ∀(l:Array Bool) (i:Nat) (n:Nat),l.size=7→i<7→l.getD i false=false→(l.toList.filter (!·)).length≤n+1→((l.setIfInBounds i true).toList.filter (!·)).length≤n:=fun l i n hs A h hc=>by
  have key: ∀(m:List Bool) (i:Nat),m[i]? =some false→((m.set i true).filter (!·)).length+1=(m.filter (!·)).length:=by
   intro m
   induction m with
   |nil=>intro i h;simp at h
   |cons b m G=>
    intro i h;cases i with
    |zero=>simp at h;subst h;simp
    |succ i=>
     have:=G i (by simpa using h);cases b<;>simp[List.set_cons_succ]<;>omega
  have hl:l.toList[i]? =some false:=by
   have:i<l.size:=by omega
   simp[this]at h⊢;exact h
  have:=key l.toList i hl;rw[Array.toList_setIfInBounds];omega
 have gs: ∀(l:Array Bool) (i j:Nat),l.size=7→i<7→(l.setIfInBounds i true).getD j false=(decide (i=j)||l.getD j false):=fun l i j hs A=>by
  by_cases e:i=j
  ·subst e;have:i<l.size:=by omega
   simp[this]
  ·rw[getD_set_ne false e];simp[e]
 intro fuel
 induction fuel with
 |zero=>
  intro l F H I hc;have hr:Region.ready .any ops l= []:=by
   cases hr:Region.ready .any ops l with
   |nil=>rfl
   |cons i r=>
    exfalso;obtain⟨h1,o,ho,_⟩:=A1Z (by rw[hr];exact D1S .. :i∈Region.ready .any ops l);have A:=W i o ho;have:=I.size;have hl:l.toList[i]? =some false:=by
     have:i<l.size:=by omega
     simp[this]at h1⊢;exact h1
    have hm:false∈l.toList.filter (!·):=List.mem_filter.2 ⟨D1o hl,rfl⟩;have:=List.length_pos_of_mem hm;omega
  exact⟨hr,done l F H I (u l I.size hr)⟩
 |succ n G=>
  intro l F H I hc;refine⟨fun O=>done l F H I (u l I.size O),fun i A=>?_⟩;obtain⟨hu,o,ho,hd⟩:=A1Z A;have J:=W i o ho;have X:=ft l i I.size J hu;refine⟨o,ho,?_⟩;have x:=a0 l i n I.size J X hc;have hsz:(l.setIfInBounds i true).size=7:=by simpa using I.size
  have p:=fun j=>gs l i j I.size J;have nn:bn∈[bn,bm]:=by simp
  match i,J with
  |0,_=>
   rw[o0]at ho;cases ho;have e5:l.getD 5 false=false:=by
    cases q:l.getD 5 false with
    |false=>rfl
    |true=>have:=I.w5 q;rw[X]at this;cases this
   have y:=I.hn;rw[e5]at y;refine⟨g0,?_⟩;rw[p0,d0];simp only[go_sem,seval,show F.ev (.tmp 2)= .box bn 0 from I.f2,show H bn=some (.box [.int .i64 a.1])from y];refine G _ _ _ ?_ x;exact⟨hsz,I.f1,I.f2,I.f3,fun _=>rfl,fun q=>I.v1 (by simpa [p,-Array.getD_eq_getD_getElem?]using q),fun q=>I.v2 (by simpa [p,-Array.getD_eq_getD_getElem?]using q),fun q=>I.v3 (by simpa [p,-Array.getD_eq_getD_getElem?]using q),fun q=>I.v4 (by simpa [p,-Array.getD_eq_getD_getElem?]using q),by rw[I.hn];simp[p,-Array.getD_eq_getD_getElem?],by rw[I.hm];simp[p,-Array.getD_eq_getD_getElem?],I.ho,fun q=>by simp[p,-Array.getD_eq_getD_getElem?],fun q=>by simpa [p,-Array.getD_eq_getD_getElem?]using I.w6 (by simpa [p,-Array.getD_eq_getD_getElem?]using q)⟩
  |1,_=>
   rw[o1]at ho;cases ho;have O:l.getD 0 false=true:=hd 0 (by rw[w1];simp);refine⟨g1,?_⟩;rw[p1,d1];simp only[go_sem,seval,show F.ev (.tmp 6)= .int .i64 a.1 from I.v0 O,show F.ev (.const (.int .i64 1))= .int .i64 1 from rfl];refine G _ _ _ ?_ x;exact⟨hsz,I.f1,I.f2,I.f3,fun q=>I.v0 (by simpa [p,-Array.getD_eq_getD_getElem?]using q),fun _=>rfl,fun q=>I.v2 (by simpa [p,-Array.getD_eq_getD_getElem?]using q),fun q=>I.v3 (by simpa [p,-Array.getD_eq_getD_getElem?]using q),fun q=>I.v4 (by simpa [p,-Array.getD_eq_getD_getElem?]using q),by rw[I.hn];simp[p,-Array.getD_eq_getD_getElem?],by rw[I.hm];simp[p,-Array.getD_eq_getD_getElem?],I.ho,fun q=>by simpa [p,-Array.getD_eq_getD_getElem?]using I.w5 (by simpa [p,-Array.getD_eq_getD_getElem?]using q),fun q=>by simpa [p,-Array.getD_eq_getD_getElem?]using I.w6 (by simpa [p,-Array.getD_eq_getD_getElem?]using q)⟩
  |2,_=>
   rw[o2]at ho;cases ho;have e6:l.getD 6 false=false:=by
    cases q:l.getD 6 false with
    |false=>rfl
    |true=>have:=I.w6 q;rw[X]at this;cases this
   have z:=I.hm;rw[e6]at z;refine⟨g2,?_⟩;rw[p2,d2];simp only[go_sem,seval,show F.ev (.tmp 3)= .box bm 0 from I.f3,show H bm=some (.box [.int .i64 a.2])from z];refine G _ _ _ ?_ x;exact⟨hsz,I.f1,I.f2,I.f3,fun q=>I.v0 (by simpa [p,-Array.getD_eq_getD_getElem?]using q),fun q=>I.v1 (by simpa [p,-Array.getD_eq_getD_getElem?]using q),fun _=>rfl,fun q=>I.v3 (by simpa [p,-Array.getD_eq_getD_getElem?]using q),fun q=>I.v4 (by simpa [p,-Array.getD_eq_getD_getElem?]using q),by rw[I.hn];simp[p,-Array.getD_eq_getD_getElem?],by rw[I.hm];simp[p,-Array.getD_eq_getD_getElem?],I.ho,fun q=>by simpa [p,-Array.getD_eq_getD_getElem?]using I.w5 (by simpa [p,-Array.getD_eq_getD_getElem?]using q),fun q=>by simp[p,-Array.getD_eq_getD_getElem?]⟩
  |3,_=>
   rw[o3]at ho;cases ho;refine⟨g3,?_⟩;rw[p3,d3];simp only[go_sem,seval,show F.ev (.tmp 1)= .int .i64 d from I.f1];refine G _ _ _ ?_ x;exact⟨hsz,I.f1,I.f2,I.f3,fun q=>I.v0 (by simpa [p,-Array.getD_eq_getD_getElem?]using q),fun q=>I.v1 (by simpa [p,-Array.getD_eq_getD_getElem?]using q),fun q=>I.v2 (by simpa [p,-Array.getD_eq_getD_getElem?]using q),fun _=>rfl,fun q=>I.v4 (by simpa [p,-Array.getD_eq_getD_getElem?]using q),by rw[I.hn];simp[p,-Array.getD_eq_getD_getElem?],by rw[I.hm];simp[p,-Array.getD_eq_getD_getElem?],I.ho,fun q=>by simpa [p,-Array.getD_eq_getD_getElem?]using I.w5 (by simpa [p,-Array.getD_eq_getD_getElem?]using q),fun q=>by simpa [p,-Array.getD_eq_getD_getElem?]using I.w6 (by simpa [p,-Array.getD_eq_getD_getElem?]using q)⟩
  |4,_=>
   rw[o4]at ho;cases ho;have h2:l.getD 2 false=true:=hd 2 (by rw[Y];simp);have h3:l.getD 3 false=true:=hd 3 (by rw[Y];simp);refine⟨g4,?_⟩;rw[p4,d4];simp only[go_sem,seval,show F.ev (.tmp 8)= .int .i64 a.2 from I.v2 h2,show F.ev (.tmp 9)= .int .i64 d from I.v3 h3];refine G _ _ _ ?_ x;exact⟨hsz,I.f1,I.f2,I.f3,fun q=>I.v0 (by simpa [p,-Array.getD_eq_getD_getElem?]using q),fun q=>I.v1 (by simpa [p,-Array.getD_eq_getD_getElem?]using q),fun q=>I.v2 (by simpa [p,-Array.getD_eq_getD_getElem?]using q),fun q=>I.v3 (by simpa [p,-Array.getD_eq_getD_getElem?]using q),fun _=>rfl,by rw[I.hn];simp[p,-Array.getD_eq_getD_getElem?],by rw[I.hm];simp[p,-Array.getD_eq_getD_getElem?],I.ho,fun q=>by simpa [p,-Array.getD_eq_getD_getElem?]using I.w5 (by simpa [p,-Array.getD_eq_getD_getElem?]using q),fun q=>by simpa [p,-Array.getD_eq_getD_getElem?]using I.w6 (by simpa [p,-Array.getD_eq_getD_getElem?]using q)⟩
  |5,_=>
   rw[o5]at ho;cases ho;have O:l.getD 0 false=true:=hd 0 (by rw[w5];simp);have h1:l.getD 1 false=true:=hd 1 (by rw[w5];simp);have y:=I.hn;rw[X]at y;refine⟨g5,?_⟩;rw[p5,d5];simp only[go_sem,seval,show F.ev (.tmp 2)= .box bn 0 from I.f2,show F.ev (.tmp 7)= .int .i64 (IntKind.i64.wrap (a.1+1))from I.v1 h1,show H bn=some (.box [.int .i64 a.1])from y];refine G _ _ _ ?_ x;exact⟨hsz,I.f1,I.f2,I.f3,fun q=>I.v0 (by simpa [p,-Array.getD_eq_getD_getElem?]using q),fun q=>I.v1 (by simpa [p,-Array.getD_eq_getD_getElem?]using q),fun q=>I.v2 (by simpa [p,-Array.getD_eq_getD_getElem?]using q),fun q=>I.v3 (by simpa [p,-Array.getD_eq_getD_getElem?]using q),fun q=>I.v4 (by simpa [p,-Array.getD_eq_getD_getElem?]using q),by rw[A3];simp[p,-Array.getD_eq_getD_getElem?,A1A],by rw[A2 _ V.symm,I.hm];simp[p,-Array.getD_eq_getD_getElem?],fun k T U=>by rw[A2 _ T];exact I.ho k T U,fun q=>by simp[p,-Array.getD_eq_getD_getElem?,O],fun q=>by simpa [p,-Array.getD_eq_getD_getElem?]using I.w6 (by simpa [p,-Array.getD_eq_getD_getElem?]using q)⟩
  |6,_=>
   rw[o6]at ho;cases ho;have h2:l.getD 2 false=true:=hd 2 (by rw[w6];simp);have h4:l.getD 4 false=true:=hd 4 (by rw[w6];simp);have z:=I.hm;rw[X]at z;refine⟨g6,?_⟩;rw[p6,d6];simp only[go_sem,seval,show F.ev (.tmp 3)= .box bm 0 from I.f3,show F.ev (.tmp 10)= .int .i64 (if a.2<d then d else a.2)from I.v4 h4,show H bm=some (.box [.int .i64 a.2])from z];refine G _ _ _ ?_ x;exact⟨hsz,I.f1,I.f2,I.f3,fun q=>I.v0 (by simpa [p,-Array.getD_eq_getD_getElem?]using q),fun q=>I.v1 (by simpa [p,-Array.getD_eq_getD_getElem?]using q),fun q=>I.v2 (by simpa [p,-Array.getD_eq_getD_getElem?]using q),fun q=>I.v3 (by simpa [p,-Array.getD_eq_getD_getElem?]using q),fun q=>I.v4 (by simpa [p,-Array.getD_eq_getD_getElem?]using q),by rw[A2 _ V,I.hn];simp[p,-Array.getD_eq_getD_getElem?],by rw[A3];simp[p,-Array.getD_eq_getD_getElem?,A1A],fun k T U=>by rw[A2 _ U];exact I.ho k T U,fun q=>by simpa [p,-Array.getD_eq_getD_getElem?]using I.w5 (by simpa [p,-Array.getD_eq_getD_getElem?]using q),fun q=>by simp[p,-Array.getD_eq_getD_getElem?,h2]⟩
theorem B7n{bn bm:Nat}(m:bn≠bm)(a:Int×Int)(f:Fm)(d:Int)(H:Heap)(Q:D→Heap→Prop)(h:Q (.tuple []) (ovr (j6 bn bm (A0m a f d)) H)):D7 94 [.agg (C1 f),.int .i64 d,.box bn 0,.box bm 0] (ovr (j6 bn bm a) H) Q:=by
 refine B2V (ops:=smOps) A6 Tryz.func94 rfl (by kernel_rfl) (D1I (by kernel_rfl)) rfl (by kernel_rfl) (by kernel_rfl) ?_;simp only[go_sem,seval];intro p z;obtain⟨u,O⟩:=A09 z;have A:bn≠p∧bm≠p:=by
  unfold j6 at u;constructor
  ·rintro rfl;simp[m]at u
  ·rintro rfl;simp at u
 have e1:((ovr (j6 bn bm a) H).set p (.box (C1 f))) bn=some (A1A a.1):=by
  rw[A2 _ A.1,A0n (o:=A1A a.1) (by simp[j6,m])]
 have e2:((ovr (j6 bn bm a) H).set p (.box (C1 f))) bm=some (A1A a.2):=by
  rw[A2 _ A.2,A0n (o:=A1A a.2) (by simp[j6])]
 have r:(ovr (j6 bn bm a) H).Le ((ovr (j6 bn bm a) H).set p (.box (C1 f))):=A0 z;generalize (ovr (j6 bn bm a) H).set p (.box (C1 f))=Bs at e1 e2 r⊢;have j: ∀i,(Array.replicate smOps.size false).getD i false=false:=fun i=>by simp[Array.getElem?_replicate];split<;>simp
 refine B7m m a d Bs _ (fun F T I G J=>?_) _ _ _ _ ?_ ?_
 rotate_left
 ·exact⟨by rfl,rfl,rfl,rfl,fun q=>(by rw[j]at q;cases q),fun q=>(by rw[j]at q;cases q),fun q=>(by rw[j]at q;cases q),fun q=>(by rw[j]at q;cases q),fun q=>(by rw[j]at q;cases q),by rw[e1,j];rfl,by rw[e2,j];rfl,fun _ _ _=>rfl,fun q=>(by rw[j]at q;cases q),fun q=>(by rw[j]at q;cases q)⟩
 ·show ((Array.replicate 7 false).toList.filter (!·)).length≤7;decide
 have M:(if a.2<d then d else a.2)=(A0m a f d).2:=by unfold A0m;simp only[Int.max_def];split<;>split<;>omega
 rw[M]at G;refine D2j ((C0T a (A0m a f d) H Bs r).trans fun k o hk=>?_) h;by_cases x:k=bm
 ·subst x;rw[A3]at hk;rw[G];exact hk
 ·rw[A2 _ x]at hk;by_cases y:k=bn
  ·subst y;rw[A3]at hk;rw[I];exact hk
  ·rw[A2 _ y]at hk;rw[J k y x];exact hk
theorem B7o{bn bm:Nat}(j:bn≠bm):Vis Tryz.prog (Int×Int) 94 [.box bn 0,.box bm 0] (j6 bn bm) A0m (fun _=>True) (fun _=>True) where
 dom a a' i h:=by
  unfold j6 at h⊢;by_cases e:i=bm
  ·simp[e]at h
  ·by_cases e2:i=bn
   ·simp[e2,j]at h
   ·simp[e,e2]
 inv _ _ _ _:=trivial
 base _ _ _ _ _:=trivial
 call a f d H Q _ _ fa h:=B7n j a f d H Q h
theorem C0V{Q}(f:Fm)(M:FmFit f)(H:Heap)(h:Q (.bool (X2 f)) H):D7 52 [.agg (C1 f)] H Q:=by
 refine A9 [] A6 Tryz.func52 rfl ?_;simp only[go_sem,seval,Tryz.results52];intro z h1;repeat' (first|simp only[go_sem,seval]|simp(disch:=first|omega|grind) only[A8]|(intro i;try simp only[A5]at i))
 rename_i j O m;have A:=i;clear i;have p:j≠m:=fun e=>A.1 e.symm;refine Eq.mpr (congrArg (fun G=>ACalls _ _ _ G _) (C9r j m 0 0 (((H.set z (.box (C1 f))).set j (.box [.int .i64 0])).set m (.box [.int .i64 0])))) ?_;refine B2i (B7o p) f M 1 (0,0) trivial _ trivial ?_;generalize x:((H.set z (.box (C1 f))).set j (.box [.int .i64 0])).set m (.box [.int .i64 0])=u;have e3:ovr (j6 j m (foldF A0m f 1 (0,0))) u j=some (.box [.int .i64 (foldF A0m f 1 (0,0)).1]):=A0n (o:=A1A _) (by simp[j6,p]);have y:ovr (j6 j m (foldF A0m f 1 (0,0))) u m=some (.box [.int .i64 (foldF A0m f 1 (0,0)).2]):=A0n (o:=A1A _) (by simp[j6]);have q:H.Le (ovr (j6 j m (foldF A0m f 1 (0,0))) u):=fun k o hk=>by
  have I:k≠j:=fun g=>by subst g;rw[O.2]at hk;cases hk
  have J:k≠m:=fun g=>by subst g;rw[A.2.2]at hk;cases hk
  rw[A2c (by simp[j6,I,J])];rw[←x,A2 _ J,A2 _ I];exact A0 h1 _ _ hk
 generalize ovr (j6 j m (foldF A0m f 1 (0,0))) u=Bs at e3 y q⊢;unfold X2 at h;generalize foldF A0m f 1 (0,0)=r at e3 y h;repeat' (first|with_reducible apply D1H|simp only[go_sem,seval,e3,y]|(intro i;try simp only[A5]at i))
 all_goals (refine D2j q ?_;simp_all)
theorem B7p{i:Nat}(a:Bool)(f:Fm)(q:FmFit f)(d:Int)(H:Heap)(Q:D→Heap→Prop)(h:Q (.tuple []) (ovr (u7 i (A87 E3 a f d)) H)):D7 54 [.agg (C1 f),.int .i64 d,.box i 0] (ovr (u7 i a) H) Q:=by
 refine A9 [] A6 Tryz.func54 rfl ?_;simp only[go_sem,seval,Tryz.results54];intro m p;obtain⟨r,u⟩:=A09 p;have n3:i≠m:=by
  rintro rfl;simp[u7]at r
 have e1:((ovr (u7 i a) H).set m (.box (C1 f))) i=some (.box [.bool a]):=by
  rw[A2 _ n3,A0n (o:=B7j a) (by simp[u7])];rfl
 have e3:((ovr (u7 i a) H).set m (.box (C1 f))) m=some (.box (C1 f)):=A3 _ _;have j:(ovr (u7 i a) H).Le ((ovr (u7 i a) H).set m (.box (C1 f))):=A0 p;generalize (ovr (u7 i a) H).set m (.box (C1 f))=Bs at e1 e3 j⊢;cases a with
 |false=>
  repeat' simp only[go_sem,seval,e1,e3]
  exact D2j (B3t false (A87 E3 false f d) H Bs j) h
 |true=>
  repeat' (first|simp only[go_sem,seval,e1,e3]|with_reducible refine C9q f q _ ?_)
  exact D2j (B3t true (A87 E3 true f d) H Bs j) h
theorem B7q(j:Nat):Vis Tryz.prog Bool 54 [.box j 0] (u7 j) (A87 E3) (fun _=>True) (fun _=>True) where
 dom a a' i h:=by
  unfold u7 at h⊢;by_cases e:i=j
  ·simp[e]at h
  ·simp[e]
 inv _ _ _ _:=trivial
 base _ _ _ _ _:=trivial
 call a f d H Q _ _ fa h:=B7p a f fa d H Q h
end Go.Proofs.YtibphjonmikciaaGreatDoor
namespace Go.Av
theorem A5E{Q:D→Heap→Prop}{H:Heap}{b:Nat}{kvs:List (D×D)}(hb:H b=some (.map kvs))(h:Fin Q (.fm kvs) (H.del b)):Fin Q (.map b) H:=by
 unfold Fin at h⊢;obtain⟨i,d1,h1,j⟩:=h;exact⟨i,d1,Shift.trans (fun w v hr hs=>⟨B3J hs hb (E6 H b) (G7 (by simp[Heap.del])) hr,hs.less (E6 H b),fun k hn=>(E6 H b).held hn⟩) h1,j⟩
theorem A38{Q:D→Heap→Prop}{H:Heap}{b:Nat}{kvs:List (D×D)}{ds ds':List D}(hb:H b=some (.map kvs))(hl:ds.length=ds'.length)
  (o: ∀(i:Nat) d d',ds[i]? =some d→ds'[i]? =some d'→d'=d∨(d= .map b∧d'= .fm kvs)) (h:Fin Q (.tuple ds') (H.del b)):Fin Q (.tuple ds) H:=by
 unfold Fin at h⊢;obtain⟨p,d1,h1,q⟩:=h;refine⟨p,d1,Shift.trans (fun w v hr hs=>⟨?_,hs.less (E6 H b),fun k hn=>(E6 H b).held hn⟩) h1,q⟩;obtain⟨vs,rfl,r,j⟩:=hr.tuple_inv;refine .tuple _ _ (by omega) fun i d' m=>?_;obtain⟨d,hd⟩:=E7 hl m;rcases o i d d' hd m with rfl|⟨rfl,rfl⟩
 ·exact(j i d' hd).less (E6 H b)
 ·exact B3J hs hb (E6 H b) (G7 (by simp[Heap.del])) (j i _ hd)
theorem A9a{Q:D→Heap→Prop}{H:Heap}{b c:Nat}{kvs m:List (D×D)}{ds:List D}(hb:H b=some (.map kvs))(hc:H c=some (.map m))(o:c≠b)(h:Fin Q (.tuple (.fm kvs:: .fm m::ds)) ((H.del b).del c)):Fin Q (.tuple (.map b:: .map c::ds)) H:=by
 refine A38 (ds':=.fm kvs:: .map c::ds) hb rfl (fun i d d' h1 j=>?_) (A38 (b:=c) (kvs:=m) (ds':=.fm kvs:: .fm m::ds) (by simp[Heap.del,o,hc]) rfl (fun i d d' h1 j=>?_) h)
 ·match i with
  |0=>cases h1;cases j;exact .inr ⟨rfl,rfl⟩
  |i+1=>simp only[D1n]at h1 j;rw[h1]at j;cases j;exact .inl rfl
 ·match i with
  |0=>cases h1;cases j;exact .inl rfl
  |1=>cases h1;cases j;exact .inr ⟨rfl,rfl⟩
  |i+2=>simp only[D1n]at h1 j;rw[h1]at j;cases j;exact .inl rfl
end Go.Av
namespace Go.Proofs.YtibphjonmikciaaGreatDoor
open Go Go.Av Go.Lexs Go.Lin Go.Fo
attribute [local irreducible] ACalls S9
theorem B7r{bi bb mi mb:Nat}(F:C0U bi bb mi mb)(a:List ByteArray×List ByteArray)(a0:a.1.Nodup)(a6:a.2.Nodup)(f:Fm)(fa:FmFit f)(d:Int)(H:Heap)(Q:D→Heap→Prop)(h:Q (.tuple []) (ovr (Q7 bi bb mi mb (A5O a f d)) H)):
  D7 86 [.agg (C1 f),.int .i64 d,.box bb 0,.box bi 0] (ovr (Q7 bi bb mi mb a) H) Q:=by
 refine A9 [] A6 Tryz.func86 rfl ?_;simp only[go_sem,seval,Tryz.results86];have b0:=fa.lin.len;intro q G;obtain⟨s4,g4⟩:=A09 G;obtain⟨J,X,q3,q4⟩:=B1F F a H;have Y:mi≠q∧mb≠q∧bi≠q∧bb≠q:=by
  refine⟨fun e=>?_,fun e=>?_,fun e=>?_,fun e=>?_⟩
  ·rw[←e,J]at G;cases G
  ·rw[←e,X]at G;cases G
  ·rw[←e,q3]at G;cases G
  ·rw[←e,q4]at G;cases G
 have e1:((ovr (Q7 bi bb mi mb a) H).set q (.box (C1 f))) mi=some (.map (D2 tt a.1)):=by rw[A2 _ Y.1];exact J
 have e2:((ovr (Q7 bi bb mi mb a) H).set q (.box (C1 f))) mb=some (.map (D2 tt a.2)):=by rw[A2 _ Y.2.1];exact X
 have e3:((ovr (Q7 bi bb mi mb a) H).set q (.box (C1 f))) bi=some (.box [.map mi]):=by rw[A2 _ Y.2.2.1];exact q3
 have e4:((ovr (Q7 bi bb mi mb a) H).set q (.box (C1 f))) bb=some (.box [.map mb]):=by rw[A2 _ Y.2.2.2];exact q4
 have e5:((ovr (Q7 bi bb mi mb a) H).set q (.box (C1 f))) q=some (.box (C1 f)):=A3 _ _;have hH: ∀k o,Q7 bi bb mi mb a k=none→H k=some o→((ovr (Q7 bi bb mi mb a) H).set q (.box (C1 f))) k=some o:=fun k o i k2=>A0 G _ _ (by rw[A2c i];exact k2);generalize (ovr (Q7 bi bb mi mb a) H).set q (.box (C1 f))=Bs at e1 e2 e3 e4 e5 hH⊢;have f1:=F.a;have f2:=F.b;have f3:=F.c;have f4:=F.d;have f5:=F.e;have f6:=F.f;have O: ∀k,Q7 bi bb mi mb a k=none→k≠mi∧k≠mb∧k≠bi∧k≠bb:=fun k hk=>by
  refine⟨fun e=>?_,fun e=>?_,fun e=>?_,fun e=>?_⟩<;>(subst e;simp[Q7,f1,f2,f3,f4,f5,f6,f1.symm,f6.symm]at hk)
 have n1:q≠mb:=fun e=>Y.2.1 e.symm;have n2:q≠mi:=fun e=>Y.1 e.symm;by_cases o3:f.op=3
 ·repeat' (first|with_reducible apply D1H|simp only[go_sem,seval,e1,e2,e3,e4,e5,o3,Y9 _ _ _ _ a6,A29]|simp(disch:=first|omega|grind) only[A8])
  have c1:(Bs.set mb (.map (D2 tt (I7 a.2 f.s)))) mi=some (.map (D2 tt a.1)):=by rw[A2 _ f1];exact e1
  have T:(Bs.set mb (.map (D2 tt (I7 a.2 f.s)))) mb=some (.map (D2 tt (I7 a.2 f.s))):=A3 _ _;have c3:(Bs.set mb (.map (D2 tt (I7 a.2 f.s)))) bi=some (.box [.map mi]):=by rw[A2 _ f3];exact e3
  have c4:(Bs.set mb (.map (D2 tt (I7 a.2 f.s)))) bb=some (.box [.map mb]):=by rw[A2 _ f5];exact e4
  have c5:(Bs.set mb (.map (D2 tt (I7 a.2 f.s)))) q=some (.box (C1 f)):=by rw[A2 _ n1];exact e5
  have cH: ∀k o,Q7 bi bb mi mb a k=none→H k=some o→(Bs.set mb (.map (D2 tt (I7 a.2 f.s)))) k=some o:=fun k o i k2=>by
   rw[A2 _ (O k i).2.1];exact hH k o i k2
  generalize Bs.set mb (.map (D2 tt (I7 a.2 f.s)))=Cs at c1 T c3 c4 c5 cH⊢;have eS:(A5O a f d).2=I7 a.2 f.s:=by unfold A5O;rw[if_pos o3]
  rw[←eS]at T;refine C8 [3,16,17] (fun(j:Nat)=>[(18,.int .i64 j)]) (fun(j:Nat)=>Cs.set mi (.map (D2 tt (((f.l.t.take j).map (·.v)).foldl I7 a.1)))) (fun(j:Nat)=>j≤f.l.t.length) (fun(j:Nat)=>f.l.t.length-j) (0) (D1c _) (by(try simp only[go_sem,seval])<;>(try simp(disch:=omega) [A4])) (by first|exact D2i _|exact A0 (by assumption)|exact B9 (by assumption)|simp only[Heap.Le,Heap.set,Heap.del]at* <;>grind) ?_;rintro Ec rfl j hj;have r:(Cs.set mi (.map (D2 tt (((f.l.t.take j).map (·.v)).foldl I7 a.1)))) bi=some (.box [.map mi]):=by rw[A2 _ f2];exact c3
  have i:(Cs.set mi (.map (D2 tt (((f.l.t.take j).map (·.v)).foldl I7 a.1)))) mi=some (.map (D2 tt (((f.l.t.take j).map (·.v)).foldl I7 a.1))):=A3 _ _;by_cases u:j<f.l.t.length
  ·have x:decide ((j:Int)<f.l.t.length)=true:=D1J (by omega);have U:(j:Int)<f.l.t.length:=by omega
   have y:(((f.l.t.take j).map (·.v)).foldl I7 a.1).Nodup:=U7 _ _ a0;have A:((f.l.t.take (j+1)).map (·.v)).foldl I7 a.1=I7 (((f.l.t.take j).map (·.v)).foldl I7 a.1) f.l.t[j].v:=by
    rw[D1a u,D2H,D19];rfl
   generalize hM:((f.l.t.take j).map (·.v)).foldl I7 a.1=M at y A i r⊢;generalize m:Cs.set mi (.map (D2 tt M))=Ds at i r⊢;repeat' (first|with_reducible apply D1H|simp only[go_sem,seval,x,U,B3 _ _ u,C3 _ _ u,i,r,Y9 _ _ _ _ y,A29]|simp(disch:=omega) only[A4,B3,B4]|simp(disch:=first|omega|grind) only[A8]|intro p|omega)
   rename_i V;have z:=p;clear p;have n7:mi≠V:=fun e=>by rw[←e,i]at z;cases z
   have W:bi≠V:=fun e=>by rw[←e,r]at z;cases z
   repeat' (first|with_reducible apply D1H|simp only[go_sem,seval,i,r,Y9 _ _ _ _ y,A29,A2 _ n7,A2 _ W]|simp(disch:=omega) only[A4,B3,B4]|simp(disch:=first|omega|grind) only[A8]|intro p|omega)
   refine C4 (j+1) (by omega) (by omega) (by(try simp only[go_sem,seval])<;>(try simp(disch:=omega) [A4])) ?_;rw[A,←m];rw[←m]at z;intro k o hk;by_cases I:k=mi
   ·subst I;rw[A3]at hk⊢;exact hk
   ·rw[A2 _ I]at hk⊢;have g2:k≠V:=fun e=>by subst e;rw[A2 _ I,hk]at z;cases z
    rw[A2 _ g2,A2 _ I];exact hk
  ·have x:decide ((j:Int)<f.l.t.length)=false:=D1K (by omega);rw[D1W (by omega)]at i r⊢;repeat' simp only[go_sem,seval,x]
   refine D2j (B1G a (A5O a f d) H _ i (by rw[A2 _ f1.symm];exact T) r (by rw[A2 _ f4];exact c4) (fun k o J X=>by rw[A2 _ (O k J).1];exact cH k o J X)) h
 ·have a9:decide (f.op=3)=false:=D1K o3;repeat' (first|with_reducible apply D1H|simp only[go_sem,seval,e1,e2,e3,e4,e5,a9]|intro p|omega)
  have c1:=e1;have T:=e2;have c3:=e3;have c4:=e4;have c5:=e5;have cH:=hH;generalize Bs=Cs at c1 T c3 c4 c5 cH⊢;have eS:(A5O a f d).2=a.2:=by unfold A5O;rw[if_neg o3]
  rw[←eS]at T;refine C8 [3,16,17] (fun(j:Nat)=>[(18,.int .i64 j)]) (fun(j:Nat)=>Cs.set mi (.map (D2 tt (((f.l.t.take j).map (·.v)).foldl I7 a.1)))) (fun(j:Nat)=>j≤f.l.t.length) (fun(j:Nat)=>f.l.t.length-j) (0) (D1c _) (by(try simp only[go_sem,seval])<;>(try simp(disch:=omega) [A4])) (by first|exact D2i _|exact A0 (by assumption)|exact B9 (by assumption)|simp only[Heap.Le,Heap.set,Heap.del]at* <;>grind) ?_;rintro Ec rfl j hj;have r:(Cs.set mi (.map (D2 tt (((f.l.t.take j).map (·.v)).foldl I7 a.1)))) bi=some (.box [.map mi]):=by rw[A2 _ f2];exact c3
  have i:(Cs.set mi (.map (D2 tt (((f.l.t.take j).map (·.v)).foldl I7 a.1)))) mi=some (.map (D2 tt (((f.l.t.take j).map (·.v)).foldl I7 a.1))):=A3 _ _;by_cases u:j<f.l.t.length
  ·have x:decide ((j:Int)<f.l.t.length)=true:=D1J (by omega);have U:(j:Int)<f.l.t.length:=by omega
   have y:(((f.l.t.take j).map (·.v)).foldl I7 a.1).Nodup:=U7 _ _ a0;have A:((f.l.t.take (j+1)).map (·.v)).foldl I7 a.1=I7 (((f.l.t.take j).map (·.v)).foldl I7 a.1) f.l.t[j].v:=by
    rw[D1a u,D2H,D19];rfl
   generalize hM:((f.l.t.take j).map (·.v)).foldl I7 a.1=M at y A i r⊢;generalize m:Cs.set mi (.map (D2 tt M))=Ds at i r⊢;repeat' (first|with_reducible apply D1H|simp only[go_sem,seval,x,U,B3 _ _ u,C3 _ _ u,i,r,Y9 _ _ _ _ y,A29]|simp(disch:=omega) only[A4,B3,B4]|simp(disch:=first|omega|grind) only[A8]|intro p|omega)
   rename_i V;have z:=p;clear p;have n7:mi≠V:=fun e=>by rw[←e,i]at z;cases z
   have W:bi≠V:=fun e=>by rw[←e,r]at z;cases z
   repeat' (first|with_reducible apply D1H|simp only[go_sem,seval,i,r,Y9 _ _ _ _ y,A29,A2 _ n7,A2 _ W]|simp(disch:=omega) only[A4,B3,B4]|simp(disch:=first|omega|grind) only[A8]|intro p|omega)
   refine C4 (j+1) (by omega) (by omega) (by(try simp only[go_sem,seval])<;>(try simp(disch:=omega) [A4])) ?_;rw[A,←m];rw[←m]at z;intro k o hk;by_cases I:k=mi
   ·subst I;rw[A3]at hk⊢;exact hk
   ·rw[A2 _ I]at hk⊢;have g2:k≠V:=fun e=>by subst e;rw[A2 _ I,hk]at z;cases z
    rw[A2 _ g2,A2 _ I];exact hk
  ·have x:decide ((j:Int)<f.l.t.length)=false:=D1K (by omega);rw[D1W (by omega)]at i r⊢;repeat' simp only[go_sem,seval,x]
   refine D2j (B1G a (A5O a f d) H _ i (by rw[A2 _ f1.symm];exact T) r (by rw[A2 _ f4];exact c4) (fun k o J X=>by rw[A2 _ (O k J).1];exact cH k o J X)) h
theorem B7s{bi bb mi mb:Nat}(F:C0U bi bb mi mb):Vis Tryz.prog (List ByteArray×List ByteArray) 86 [.box bb 0,.box bi 0] (Q7 bi bb mi mb) A5O (fun a=>a.1.Nodup∧a.2.Nodup) (fun _=>True) where
 dom a a' i h:=B7k a a' i h
 inv a f d h:=by
  refine⟨U7 _ _ h.1,?_⟩;unfold A5O;simp only[];split
  ·exact A28 h.2
  ·exact h.2
 base _ _ _ _ _:=trivial
 call a f d H Q hI _ fa h:=B7r F a hI.1 hI.2 f fa d H Q h
theorem B7t{H:Heap}{b:Nat}{o:Av.Obj}(h:H b=some o):H.set b o=H:=by
 funext k
 unfold Av.Heap.set;by_cases e:k=b
 ·subst e;rw[if_pos rfl,h]
 ·rw[if_neg e]
theorem B7u{S H:Heap}(h: ∀k o,S k=some o→H k=some o):ovr S H=H:=by
 funext k
 unfold ovr;cases g:S k with
 |none=>rfl
 |some o=>exact(h k o g).symm
theorem A5h{Q}(l:List Fm)(fl: ∀f∈l,FmFit f)(hlen:l.length≤1466015503658)(H:Heap)(h:Q (.tuple [.fm (D2 tt (J2 (D9.intsL l))),.fm (D2 tt (J2 (D1.boolsL l)))]) H):D7 45 [.sl 7 (Rw C1 l)] H Q:=by
 refine A9 [(7,.ord [0,1,2,3])] A6 Tryz.func45 rfl ?_;simp only[go_sem,seval,Tryz.results45];repeat' (first|simp only[go_sem,seval]|simp(disch:=first|omega|grind) only[A8,D0]|(intro x;try simp only[A5]at x))
 rename_i j h2 m h3 q h6 u;have h7:=x;clear x;obtain⟨F,e1,e2,e3,e4,I⟩:C0U j m q u∧((((((H.set j (.box [.nilmap])).set m (.box [.nilmap])).set q (.map [])).set u (.map [])).set j (.box [.map q])).set m (.box [.map u])) q=some (.map [])∧((((((H.set j (.box [.nilmap])).set m (.box [.nilmap])).set q (.map [])).set u (.map [])).set j (.box [.map q])).set m (.box [.map u])) u=some (.map [])∧((((((H.set j (.box [.nilmap])).set m (.box [.nilmap])).set q (.map [])).set u (.map [])).set j (.box [.map q])).set m (.box [.map u])) j=some (.box [.map q])∧((((((H.set j (.box [.nilmap])).set m (.box [.nilmap])).set q (.map [])).set u (.map [])).set j (.box [.map q])).set m (.box [.map u])) m=some (.box [.map u])∧H.Le ((((((H.set j (.box [.nilmap])).set m (.box [.nilmap])).set q (.map [])).set u (.map [])).set j (.box [.map q])).set m (.box [.map u])):=by
  obtain⟨J,Y⟩:=h3;obtain⟨M,O,a0⟩:=h6;obtain⟨T,U,V,a6⟩:=h7;refine⟨⟨T.symm,O.symm,V.symm,M.symm,U.symm,J.symm⟩,?_,?_,?_,?_,fun k o hk=>?_⟩
  ·simp[Av.Heap.set,M,O,T.symm]
  ·simp[Av.Heap.set,U,V]
  ·simp[Av.Heap.set,J.symm]
  ·simp[Av.Heap.set]
  ·have k1:k≠j:=fun e=>by rw[e,h2]at hk;cases hk
   have k2:k≠m:=fun e=>by rw[e,Y]at hk;cases hk
   have W:k≠q:=fun e=>by rw[e,a0]at hk;cases hk
   have X:k≠u:=fun e=>by rw[e,a6]at hk;cases hk
   simp[Av.Heap.set,k1,k2,W,X,hk]
 generalize ((((((H.set j (.box [.nilmap])).set m (.box [.nilmap])).set q (.map [])).set u (.map [])).set j (.box [.map q])).set m (.box [.map u]))=G at e1 e2 e3 e4 I⊢;have eG:ovr (Q7 j m q u ([],[])) G=G:=B7u fun k o hk=>by
  unfold Q7 at hk;split at hk
  ·rename_i g;rw[g,e1];exact hk
  ·split at hk
   ·rename_i g;rw[g,e2];exact hk
   ·split at hk
    ·rename_i g;rw[g,e3];exact hk
    ·split at hk
     ·rename_i g;rw[g,e4];exact hk
     ·cases hk
 rw[←eG];have a9: ∀p,H.Le ((ovr (Q7 j m q u p) G).del q |>.del u):=fun p k o hk=>by
  have k1:k≠j:=fun e=>by rw[e,h2]at hk;cases hk
  have k2:k≠m:=fun e=>by rw[e,h3.2]at hk;cases hk
  have W:k≠q:=fun e=>by rw[e,h6.2.2]at hk;cases hk
  have X:k≠u:=fun e=>by rw[e,h7.2.2.2]at hk;cases hk
  rw[D0 X,D0 W,A2c (by simp[Q7,k1,k2,W,X])];exact I _ _ hk
 refine C8 [2,3,8,9] (fun(p:Nat×(List ByteArray×List ByteArray))=>[(10,.int .i64 p.1)]) (fun(p:Nat×(List ByteArray×List ByteArray))=>ovr (Q7 j m q u p.2) G) (fun(p:Nat×(List ByteArray×List ByteArray))=>p.1≤l.length∧p.2=(J2 (D9.intsL (l.take p.1)),J2 (D1.boolsL (l.take p.1)))) (fun(p:Nat×(List ByteArray×List ByteArray))=>l.length-p.1) ((0,([],[]))) (⟨D1c _,rfl⟩) (by(try simp only[go_sem,seval])<;>(try simp(disch:=omega) [A4])) (by first|exact D2i _|exact A0 (by assumption)|exact B9 (by assumption)|simp only[Heap.Le,Heap.set,Heap.del]at* <;>grind) ?_;rintro Ec rfl ⟨i,r⟩ ⟨hi,hr⟩;simp only at hi hr;by_cases y:i<l.length
 ·have A:decide ((i:Int)<l.length)=true:=D1J (by omega);have b0:(i:Int)<l.length:=by omega
  have hm:=D1V y;repeat' (first|with_reducible apply D1H|simp only[go_sem,seval,A,b0,B3 _ _ y,C3 _ _ y]|(intro x;try simp only[A5]at x)|omega)
  rename_i b5;have h5:=x;clear x;obtain⟨s5,g5⟩:=A09 h5;rw[A9G s5];refine B2i (B7s F) l[i] (fl _ hm) 1 r ⟨by rw[hr];exact A1W _,by rw[hr];exact A1W _⟩ _ trivial ?_;rw[B6x];repeat' (first|simp only[go_sem,seval]|simp(disch:=omega) only[A4,B3,B4,A6Z,A4c])
  refine C4 (i+1,_) ⟨by simp only[];omega,?_⟩ (by simp only[];omega) (by(try simp only[go_sem,seval])<;>(try simp(disch:=omega) [A4])) (B2h (A0 g5));show (List.foldl I7 r.1 _,List.foldl I7 r.2 _)=_;rw[hr,A6Z _ _ y,A4c _ _ y];unfold J2;rw[D19,D19]
 ·have A:decide ((i:Int)<l.length)=false:=D1K (by omega);rw[D1W (by omega)]at hr;obtain⟨q1,q2,q3,q4⟩:=B1F F r G;have z:=a9 r;have qn:j≠m:=F.f;have f2:=F.b;have f3:=F.c;have f4:=F.d;have f5:=F.e;generalize ovr (Q7 j m q u r) G=Bs at q1 q2 q3 q4 z⊢;have m2:j∈[j,m]:=by simp
  have m3:m∈[j,m]:=by simp
  repeat' simp only[go_sem,seval,A]
  refine B11 [j,m] ?_;have s2:Bs.set j (.box [.map q])=Bs:=B7t q3;have s3:Bs.set m (.box [.map u])=Bs:=B7t q4;repeat' (first|with_reducible apply D1H|simp only[go_sem,seval,q3,q4,m2,m3,s2,s3]|(intro x;try simp only[A5]at x))
  all_goals first
   |(subst x;assumption)
   |skip
  rw[hr]at q1 q2;exact A9a q1 q2 F.a.symm (D2j z h)
theorem A9H{Q}(ks ms:List ByteArray)(H:Heap)(h:Q (.bool (meetL ks ms)) H):D7 56 [.fm (D2 tt ks),.fm (D2 tt ms)] H Q:=by
 refine A9 [] A6 Tryz.func56 rfl ?_;simp only[go_sem,seval,Tryz.results56];have o:(D2 tt ks).length=ks.length:=by simp[D2]
 repeat' intro r
 rename_i p;have J:=r;clear r;refine C8 [1,7] (fun(s:List Nat)=>[]) (fun(s:List Nat)=>H.set p (.rng (D2 tt ks) s)) (fun(s:List Nat)=>∀(i:Nat) (m:i<ks.length),i∈s→ks[i]∉ms) (fun(s:List Nat)=>A6n ks.length s) ([]) (fun _ _ h=>absurd h D1k) (by simp only[go_sem,seval]) (by first|exact D2i _|exact A0 (by assumption)|exact B9 (by assumption)|simp only[Heap.Le,Heap.set,Heap.del]at* <;>grind) ?_;rintro T rfl s hs;have M:(H.set p (.rng (D2 tt ks) s)) p=some (.rng (D2 tt ks) s):=A3 _ _;have z:H.Le (H.set p (.rng (D2 tt ks) s)):=A0 J;repeat' simp only[go_sem,seval,M]
 refine A8l (fun i m hn=>?_) (fun u=>?_)
 ·rw[o]at m;have G:((H.set p (.rng (D2 tt ks) s)).set p (.rng (D2 tt ks) (s++[i]))) p=some (.rng (D2 tt ks) (s++[i])):=A3 _ _;have I:(D2 tt ks)[i]? =some (.str ks[i],.bool true):=by simp[D2,m]
  have y:(D2 tt ks)[i]'(by rw[o];exact m)=(.str ks[i],.bool true):=by simp[D2]
  by_cases g:ks[i]∈ms
  ·have hm:meetL ks ms=true:=(A3q _ _).2 ⟨_,D1V m,g⟩;rw[hm]at h;repeat' simp only[go_sem,seval,G,I,y,List.getLast?_concat,A2Z,if_pos g]
   exact D2j (by simp only[F0,D3,D4]at* <;>grind) h
  ·repeat' simp only[go_sem,seval,G,I,y,List.getLast?_concat,A2Z,if_neg g]
   refine C4 (s++[i]) (fun j O hm=>?_) (A2A m hn) (by simp only[go_sem,seval]) ?_
   ·rcases D1h.1 hm with q|q
    ·exact hs j O q
    ·rw[D1i]at q;subst q;exact g
   ·exact(by simp only[F0,D3,D4]at* <;>grind)
 ·have hm:meetL ks ms=false:=by
   rw[←D2d,A3q];rintro⟨x,hx,A⟩;obtain⟨i,m,rfl⟩:=List.getElem_of_mem hx;exact hs i m (u i (by rw[o];exact m)) A
  rw[hm]at h;repeat' simp only[go_sem,seval]
  exact D2j z h
end Go.Proofs.YtibphjonmikciaaGreatDoor
namespace Go.Proofs.YtibphjonmikciaaGreatDoor
open Go Go.Av Go.RowKit Go.Maps Go.Sort Go.Shelf Go.Lexs Go.WideElems Go.Lin
theorem A9I{Q}(kvs:List (D×D))(H:Heap)(h: ∀bk,H bk=none→Q (.fn (.func 89) [] [.box bk 0]) (H.set bk (.box [.fm kvs]))):D7 47 [.fm kvs] H Q:=by
 refine⟨by kernel_rfl,fun w vs hl hr hs=>?_⟩;obtain⟨a,rfl,m⟩:=A1z hl hr;obtain⟨b,o⟩: ∃b,a= .map (some b):=by cases m;exact⟨_,rfl⟩
 subst o;refine(callsIn_wide.1 (A0d (some b) w)).mono ?_;rintro e w' ⟨rfl,rfl⟩;have hp:=A3M (K:=fun d H'=>∃bk,d= .box bk 0∧H bk=none∧H'=H.set bk (.box [.fm kvs])) hs (cs:=[.fm kvs]) (vs:= #[.map (some b)]) 72 (Z:=none) (by simp) ⟨rfl,fun i d hd=>(match i,hd with|0,hd=>by cases hd;rfl|i+1,hd=>by cases hd),fun i d hd=>(match i,hd with|0,hd=>by cases hd;exact m|i+1,hd=>by cases hd)⟩ (fun bk j=>⟨bk,rfl,j,rfl⟩);obtain⟨d,x,p,q,r,u,bk,rfl,j,rfl⟩:=hp;refine⟨_,rfl,.fn (.func 89) [] [.box bk 0],_,?_,q,r,u,h bk j⟩;refine .fn _ [] [.box bk 0] #[] #[_] rfl rfl (by simp) fun i d hd=>?_
 match i with
 |0=>cases hd;exact p
 |i+1=>cases hd
theorem A9J{Q}(bk:Nat)(f:ByteArray→D)(ks:List ByteArray)(hlen:ks.length≤1000000000)(hsz: ∀s∈ks,s.size≤4611686018427387904)(H:Heap)(h1:H bk=some (.box [.fm (D2 f ks)]))
  (h: ∀l:List ByteArray,l.Pairwise (fun x y=>q9 x y=true)→(∀s,s∈l↔s∈ks)→Q (.sl 1 (Rw j9 l)) H):D7 46 [.fn (.func 89) [] [.box bk 0]] H Q:=by
 refine⟨by kernel_rfl,fun w vs hl hr hs=>?_⟩;obtain⟨a,rfl,ha⟩:=A1z hl hr;have ea:a= .func (.func 89) #[] #[.pointer (some ⟨bk,0,none⟩)]:=by
  cases ha with
  |fn _ _ _ b2 b3 b4 b6 q1 q2=>
   have e1:b2= #[]:=Array.eq_empty_of_size_eq_zero (by simpa using b4.symm);obtain⟨l2⟩:=b3
   match l2,b6 with
   | [x],_=>
    have hx:=q2 0 _ rfl;have:x= .pointer (some ⟨bk,0,none⟩):=by
     simp at hx;cases hx;rfl
    rw[e1,this]
 subst ea;obtain⟨c,T,lo,u,c1,_,c2,c3,_⟩:=hs _ _ h1;have h0:=(c3 0 (.fm (D2 f ks)) rfl).2;obtain⟨b,es,m,hx,m1,m2,m3,m4⟩: ∃b es m,c.getD 0 undef= .map (some b)∧w.heap[b]? =some (.map es m)∧MapKept.Stamped es m∧es.size=(D2 f ks).length∧∀(i:Nat) (p:D×D),(D2 f ks)[i]? =some p→p.1.keyA=true∧R w H p.1 (es.getD i default).key∧R w H p.2 (es.getD i default).val:=by
  revert h0;generalize c.getD 0 undef=x;intro h0;cases h0 with
  |fm _ b es ck hb hn hst hl hk hr hv=>exact⟨b,es,ck,rfl,hb,hst,hl,fun i p hp=>⟨hk i p hp,hr i p hp,hv i p hp⟩⟩
 have b7:c[0]? =some (.map (some b)):=by
  have hsz:0<c.size:=by rw[c2];simp
  have e:c[0]? =some (c.getD 0 undef):=by simp[hsz]
  rw[e,hx]
 have G:w.cell? ⟨bk,0,none⟩=some (.map (some b)):=by
  unfold World.cell?;simp only[c1];exact b7
 have b8:bk<w.heap.size:=hs.lt h1;have U: ∀(i:Nat) (u:i<ks.length),(es.getD i default).key= .string ks[i]:=fun i u=>by
  have:=(m4 i (.str ks[i],f ks[i]) (by simp[D2,u])).2.1;revert this;generalize (es.getD i default).key=x;intro this;cases this;rfl
 have V:es.size=ks.length:=by rw[m3];simp[D2]
 have I:es.toList.map (·.key)=ks.map .string:=by
  apply D2c
  ·simp[V]
  ·intro i h1 h2;have u:i<ks.length:=by simpa using h2
   have:=U i u;have o:i<es.size:=by omega
   simp[o]at this;simp[this]
 have W: ∀x∈es.toList,∃s∈ks,x.key= .string s:=fun x hx=>by
  have:x.key∈es.toList.map (·.key):=D2F.2 ⟨x,hx,rfl⟩;rw[I]at this;obtain⟨s,hs,e⟩:=D2F.1 this;exact⟨s,hs,e.symm⟩
 have X:Tryz.prog.underlying 9=some .string:=by kernel_rfl
 have Y: ∀x∈es.toList,∀s,s∈ks→x.key= .string s→WideElems.rd (H:=Unit) Tryz.prog 9 A1i x=some (.string s.data.toList,.lit (.bool true)):=fun x _ s hs e=>by
  unfold WideElems.rd;rw[e,WideMaps.keyOf_string_mk X (by have:=hsz s hs;unfold maxLen;omega)];rfl
 have a0:w.ownsMap (H:=Unit) Tryz.prog 9 A1i b es.size (.map ((es.toList.map (rg Tryz.prog 9 A1i)).foldr DataW.insert [])):=by
  refine⟨es,m,m1,⟨by unfold maxLen;omega,m2,fun x hx=>?_⟩,D1b _,rfl⟩;obtain⟨s,hs,e⟩:=W x hx;exact⟨_,Y x hx s hs e⟩
 have b9: ∀x∈es.toList,∀s,s∈ks→x.key= .string s→rg (H:=Unit) Tryz.prog 9 A1i x=(.string s.data.toList,.lit (.bool true)):=fun x hx s hs e=>rg_of (Y x hx s hs e);have c0:(strKeys (H:=Unit) (.map ((es.toList.map (rg Tryz.prog 9 A1i)).foldr DataW.insert []))).Perm (ks.map B):=by
  show (((es.toList.map (rg Tryz.prog 9 A1i)).foldr DataW.insert []).map fun p=>strOf p.1).Perm _;refine((A0F _).map _).trans ?_;rw[List.map_map];have:es.toList.map ((fun p=>strOf p.1) ∘ rg (H:=Unit) Tryz.prog 9 A1i)=ks.map B:=by
   have e2:ks.map B=(es.toList.map (·.key)).map (fun v=>match v with| .string s=>B s|_=>[]):=by rw[I,List.map_map];rfl
   rw[e2,List.map_map];refine List.map_congr_left fun x hx=>?_;obtain⟨s,hs,e⟩:=W x hx;simp only[Function.comp];rw[b9 x hx s hs e,e];rfl
  rw[this]
 have c4:(ks.map B).Nodup:=by
  have:=m2.2.2;rw[I]at this;have h2:List.Pairwise (fun a b:ByteArray=>Value.string a≠Value.string b) ks:=List.pairwise_map.1 this;have O:List.Pairwise (fun a b:ByteArray=>B a≠B b) ks:=h2.imp fun {a b} h e=>h (congrArg Value.string (l7 e));exact List.pairwise_map.2 O
 have a6:=AnyZ.keys_gives (ρ :=Tryz.keys47_ren) {A2I with} Fence.wide 2 trivial rfl (by omega) bk b es.size _ w b8 G a0;have a9:Maps.size (.map ((es.toList.map (rg (H:=Unit) Tryz.prog 9 A1i)).foldr DataW.insert []):DataW Unit)=ks.length:=by
  show (((es.toList.map (rg Tryz.prog 9 A1i)).foldr DataW.insert [])).length=_;rw[(A0F _).length_eq];simp[V]
 refine(callsIn_wide.1 (AnyZ.sorted_in A2r Fence.wide 5 trivial trivial trivial trivial rfl (by omega) (A39 _) (enters_of Tryz.func88 (by kernel_rfl) rfl) 89 #[.pointer (some ⟨bk,0,none⟩)] trivial (enters_of Tryz.func89 (by kernel_rfl) rfl) _ _ (by rw[a9];unfold maxLen;omega) (by rw[a9];omega) w a6)).mono ?_;rintro e w' ⟨v,q,rfl,hS,A,_,hB⟩;have hp:q.Perm (ks.map B):=hS.trans c0;have c5:q.Nodup:=hp.nodup_iff.2 c4;have c6:=B3L c5;have b0: ∀s,s∈(q.mergeSort (fun x y=>decide (x≤y))).map S↔s∈ks:=fun s=>by
  rw[D2F];constructor
  ·rintro⟨x,hx,rfl⟩;have:=hp.mem_iff.1 ((List.mergeSort_perm q _).mem_iff.1 hx);obtain⟨t,ht,rfl⟩:=D2F.1 this;rw[S_B];exact ht
  ·intro hs;refine⟨B s,(List.mergeSort_perm q _).mem_iff.2 (hp.mem_iff.2 (D2F.2 ⟨s,hs,rfl⟩)),S_B s⟩
 refine⟨v,rfl,.sl 1 (Rw j9 ((q.mergeSort (fun x y=>decide (x≤y))).map S)),H,?_,A4U hs hB,A2T hB,D2o _ _,h _ c6 b0⟩;have J:((q.mergeSort (fun x y=>decide (x≤y))).map S).length=q.length:=by simp
 generalize q.mergeSort (fun x y=>decide (x≤y))=zs at A J⊢;obtain⟨r1,r2⟩:=A;rcases r2 with⟨rfl,r3⟩|⟨g,cap,r,rfl,r3,r4,r5,r6,r7,r8⟩
 ·have:zs.map S= []:=D1f (by rw[J,r3]);rw[this];exact .sl0 _ _ _
 ·have M:(Rw j9 (zs.map S)).length=q.length:=by rw[D6,J]
  rw[←M];refine .sl 1 _ g 0 cap (fun i j=>r.getD i undef) ?_ ?_ (fun i e he=>?_) (by rw[M];exact r5) (fun i j u hj=>?_) (fun i e j d he hd=>?_) (fun i e j d he hd=>?_)
  ·by_cases b1:g<w'.heap.size
   ·exact b1
   ·rw[Array.getElem?_eq_none (Nat.le_of_not_lt b1)]at r4;cases r4
  ·exact G7 (hs.fresh r3)
  ·rw[Rw,D1e]at he;obtain⟨x,_,rfl⟩:=D1Q.1 he;rfl
  ·have c7:j=0:=by omega
   subst c7;have o:i<r.size:=by rw[M]at u;rw[r7];omega
   unfold World.cell?;simp only[r4];simp[o]
  ·rw[Rw,D1e]at he;obtain⟨x,_,rfl⟩:=D1Q.1 he
   match j with
   |0=>cases hd;rfl
   |j+1=>cases hd
  ·rw[Rw,D1e,D1e]at he;obtain⟨x,hx,rfl⟩:=D1Q.1 he;obtain⟨z,hz,rfl⟩:=D1Q.1 hx
   match j with
   |0=>
    cases hd;have u:i<zs.length:=(D1R.1 hz).1;have O:(r.toList.take (q.length*1))[i]? =some (encStr z):=by rw[r8,D1e,hz];rfl
    rw[List.getElem?_take]at O;split at O
    ·have:r[i]? =some (encStr z):=by simpa using O
     have e:r.getD i undef=encStr z:=by
      have o:=(D1g.1 this)
      obtain⟨c8,c9⟩:=o;simp[c8,c9]
     rw[e];exact .str _
    ·cases O
   |j+1=>cases hd
end Go.Proofs.YtibphjonmikciaaGreatDoor
namespace Go.Proofs.YtibphjonmikciaaGreatDoor
open Go Go.Av Go.Lexs Go.Lin Go.Fo
attribute [local irreducible] ACalls S9
theorem A3y{Q}{b n:Nat}{H0:Heap}(i:H0 b=none)(f:Fm)(j:FmFit f)(hn:n=1)(h:Q (.tuple [.fm (D2 tt (J2 (D9 f))),.fm (D2 tt (J2 (D1 f)))]) H0):D7 45 [.vec b 7 0 n] (H0.set b (.vec 7 [C1 f])) Q:=by
 subst hn;refine U9 (es:=Rw C1 [f]) (A3 _ _) rfl ?_;rw[E9 i];refine A5h [f] (fun k hk=>by rw[D1i]at hk;rw[hk];exact j) (by simp) _ ?_;have e1:D9.intsL [f]=D9 f:=by simp[D9.intsL]
 have e2:D1.boolsL [f]=D1 f:=by simp[D1.boolsL]
 rw[e1,e2];exact h
theorem P3{Q}(f:Fm)(A:FmFit f)(T:VOk f)(H:Heap)(h:Q (.bool (D8 f)) H):D7 18 [.agg (C1 f)] H Q:=by
 refine A9 [] A6 Tryz.func18 rfl ?_;simp only[go_sem,seval,Tryz.results18];rw[←B1H T]at h;intro q h1;have e1:(H.set q (.box (C1 f))) q=some (.box (C1 f)):=A3 _ _;have r:H.Le (H.set q (.box (C1 f))):=A0 h1;generalize H.set q (.box (C1 f))=Bs at e1 r⊢;repeat' (first|simp only[go_sem,seval,e1]|simp(disch:=first|omega|grind) only[A8]|intro m|with_reducible refine C0V f A _ ?_)
 rename_i j;have z:=m;clear m;have u:q≠j:=fun e=>by rw[←e,e1]at z;cases z
 have G:(Bs.set j (.box [.bool (X2 f)])) q=some (.box (C1 f)):=by rw[A2 _ u];exact e1
 repeat' (first|with_reducible apply D1H|simp only[go_sem,seval,G]|simp(disch:=omega) only[A4,B4]|simp(disch:=first|omega|grind) only[A8]|intro m|omega)
 refine Eq.mpr (congrArg (fun X=>ACalls _ _ _ X _) (C9s j (X2 f) Bs)) ?_;refine B2i (B7q j) f A 1 (X2 f) trivial _ trivial ?_;rw[B6w];have e3:ovr (u7 j (X2 f&&J1 E3 f)) Bs j=some (.box [.bool (X2 f&&J1 E3 f)]):=A0n (o:=B7j _) (by simp[u7]);have U:ovr (u7 j (X2 f&&J1 E3 f)) Bs q=some (.box (C1 f)):=by rw[A2c (by simp[u7,u])];exact e1
 have i:H.Le (ovr (u7 j (X2 f&&J1 E3 f)) Bs):=fun k o hk=>by
  have W:k≠j:=fun e=>by subst e;rw[r _ _ hk]at z;cases z
  rw[A2c (by simp[u7,W])];exact r _ _ hk
 generalize ovr (u7 j (X2 f&&J1 E3 f)) Bs=Cs at e3 U i⊢;cases p:X2 f&&J1 E3 f with
 |false=>
  rw[p]at h e3;simp only[Bool.false_and]at h;repeat' simp only[go_sem,seval,e3]
  exact D2j i h
 |true=>
  rw[p]at h e3;simp only[Bool.true_and]at h;have y:J1 E3 f=true:=by rw[D1U]at p;exact p.2
  have hw:J9 f≤1000000:=by
   rcases T with g|g
   ·exact g
   ·rw[y]at g;cases g
  have Y:=B0m f;have k1:=A5a (D9 f);have k2:=A5a (D1 f);have V:=A3p (D9 f);have l2:=A3p (D1 f);have I:(D2 tt (J2 (D9 f))).length=(ivF f).length:=by rw[show (D2 tt (J2 (D9 f))).length=(J2 (D9 f)).length by simp[D2],V];rfl
  have J:(D2 tt (J2 (D1 f))).length=(bvF f).length:=by rw[show (D2 tt (J2 (D1 f))).length=(J2 (D1 f)).length by simp[D2],l2];rfl
  have a0:(ivF f).length≤1000000:=by have:(J2 (D9 f)).length=(ivF f).length:=V;omega
  have a6:(bvF f).length≤1000000:=by have:(J2 (D1 f)).length=(bvF f).length:=l2;omega
  have M:meetL (J2 (D9 f)) (J2 (D1 f))=meetL (ivF f) (bvF f):=A0L (fun x=>by unfold ivF;rw[F6,T7]) (fun x=>by unfold bvF;rw[F6,T7]);have O:decide ((ivF f).length+(bvF f).length≤12)=decide (((ivF f).length:Int)+(bvF f).length≤12):=D1u.2 (by omega);rw[O,←M]at h;generalize meetL (J2 (D9 f)) (J2 (D1 f))=mt at h M;have bc: ∀(H:Heap) (Q:D→Heap→Prop),Q (.bool mt) H→D7 56 [.fm (D2 tt (J2 (D9 f))),.fm (D2 tt (J2 (D1 f)))] H Q:=fun H Q hq=>A9H _ _ H (by rw[A0L (l':=ivF f) (m':=bvF f) (fun x=>by unfold ivF;rw[F6,T7]) (fun x=>by unfold bvF;rw[F6,T7]),←M];exact hq);repeat' (first|with_reducible apply D1H|simp only[go_sem,seval,e3,U,I,J]|simp(disch:=omega) only[A4,B4]|intro m|with_reducible refine A3y (by assumption) f A rfl ?_|with_reducible refine bc _ _ ?_)
  all_goals (refine D2j i ?_;simp_all)
theorem C4R{Q}(f:Fm)(m:FmFit f)(q:VOk f)(H:Heap)(h:Q (if D8 f=true then .tuple [.sl 1 (Rw j9 (ivF f)),.sl 1 (Rw j9 (bvF f)),.int .i64 0]else .tuple [.sl 1 [],.sl 1 [],.int .i64 2]) H):D7 14 [.agg (C1 f)] H Q:=by
 refine A9 [] A6 Tryz.func14 rfl ?_;simp only[go_sem,seval,Tryz.results14];intro p h1;have e1:(H.set p (.box (C1 f))) p=some (.box (C1 f)):=A3 _ _;have j:H.Le (H.set p (.box (C1 f))):=A0 h1;generalize H.set p (.box (C1 f))=Bs at e1 j⊢;cases hv:D8 f with
 |false=>
  rw[hv]at h;simp only[D1X,if_false]at h;have r: ∀(H:Heap) (Q:D→Heap→Prop),Q (.bool false) H→D7 18 [.agg (C1 f)] H Q:=fun H Q hq=>P3 f m q H (by rw[hv];exact hq);repeat' (first|simp only[go_sem,seval,e1]|with_reducible refine r _ _ ?_)
  refine E5 (d':=.tuple [.sl 1 [],.sl 1 [],.int .i64 2]) (.tuple _ _ rfl fun i d d' h1 u=>?_) (D2j j h)
  match i with
  |0=>cases h1;cases u;exact .nil 1
  |1=>cases h1;cases u;exact .nil 1
  |2=>cases h1;cases u;exact .same _
  |i+3=>cases h1
 |true=>
  rw[hv]at h;simp only[if_true]at h;have r: ∀(H:Heap) (Q:D→Heap→Prop),Q (.bool true) H→D7 18 [.agg (C1 f)] H Q:=fun H Q hq=>P3 f m q H (by rw[hv];exact hq);repeat' (first|simp only[go_sem,seval,e1]|intro z|with_reducible refine r _ _ ?_|with_reducible refine A3y (by assumption) f m rfl ?_)
  refine A9I _ _ fun bk x=>?_;have hw:J9 f≤1000000:=by
   rcases q with g|g
   ·exact g
   ·rw[M0 hv]at g;cases g
  have A:=B0m f;have G:=A5a (D9 f);have I:=A5a (D1 f);repeat' simp only[go_sem,seval]
  refine A9J bk tt (J2 (D9 f)) (by omega) (fun s hs=>by have:=B4l m s ((F6 _ _).1 hs);omega) _ (A3 _ _) fun v hv hm=>?_;have ev:v=ivF f:=A6M hv (A88 _) fun s=>by rw[hm,F6];exact(T7 _ _).symm
  rw[ev];repeat' simp only[go_sem,seval]
  refine A9I _ _ fun y o=>?_;repeat' simp only[go_sem,seval]
  refine A9J y tt (J2 (D1 f)) (by omega) (fun s hs=>by have:=B2I m s ((F6 _ _).1 hs);omega) _ (A3 _ _) fun v hv hm=>?_;have ev:v=bvF f:=A6M hv (A88 _) fun s=>by rw[hm,F6];exact(T7 _ _).symm
  rw[ev];repeat' simp only[go_sem,seval]
  exact D2j ((j.trans (A0 x)).trans (A0 o)) h
end Go.Proofs.YtibphjonmikciaaGreatDoor
namespace Go.Fo
open Go Go.Av Go.Lexs Go.Lin
theorem B7v(l:LinV)(j:Int)(i:Nat)(h:i<l.t.length):Rw J7 ((shL l j).t.take (i+1))=Rw J7 ((shL l j).t.take i)++[[.str l.t[i].v,.int .i64 (j*l.t[i].c)]]:=by
 rw[O9 _ i (by unfold shL;simpa using h)]
 congr 2
 unfold shL;simp
theorem B2k{Q:D→Heap→Prop}{H Bs:Heap}{i x n:Nat}{o:Int}{es:List (List D)}(ks:List Fm)(m:es=Rw C1 ks)(hn:n=ks.length)(j:H.Le Bs)(u:H i=none){z:Av.Obj}(A:Bs i=some z)(hx:Bs x=none)(y:Av.Obj)(h:Q (.agg (C1 (.mk o 0 nilL D5 ks))) H):
  Fin Q (.agg [.int .i64 o,.int .i64 0,.nilsl,.int .i64 0,.bool false,.str ⟨#[]⟩,.vec x 7 0 n]) ((Bs.set x (.vec 7 es)).set i y):=by
 subst m;have p:x≠i:=fun e=>by rw[e,A]at hx;cases hx
 refine A9A (ob:=some x) (ks:=ks) hn (show (Heap.set _ i y) x=_ by rw[A2 _ p,A3]) (D2j (fun k q hk=>?_) h);have r:k≠x:=fun e=>by rw[←e,j _ _ hk]at hx;cases hx
 have G:k≠i:=fun e=>by rw[e,u]at hk;cases hk
 show Heap.del _ x k=_;rw[D0 r,A2 _ G,A2 _ r];exact j _ _ hk
theorem B7w: ∀(f:Fm),J1 E3 f=true→J9 f≤13*J5 f:=by
 intro f
 induction f using O1 with
 |h o n l s ks p=>
  intro i;have hk: ∀k∈ks,J1 E3 k=true:=fun k hk=>S7 (f:=.mk o n l s ks) i hk;have ht:=C0Q (f:=.mk o n l s ks) (by rw[A3o,D1U]at i;exact i.1);have ht:l.t.length≤12:=ht;rw[J9,J5];have key: ∀m:List Fm,(∀k∈m,k∈ks)→J9.wtL m≤13*J5.nodesL m:=by
   intro m
   induction m with
   |nil=>intro _;simp[J9.wtL,J5.nodesL]
   |cons g q j=>
    intro hm;have r:=p g (hm g (D1S ..)) (hk g (hm g (D1S ..)));have u:=j fun k h=>hm k (D1Z _ h);rw[J9.wtL,J5.nodesL];omega
  have:=key ks fun _ h=>h;omega
theorem A6o{f:Fm}(h:D8 f=true):J9 f≤2600:=by
 have h1:=B7w f (M0 h);rw[A2a]at h;simp only[D1U,D1d]at h;omega
end Go.Fo
namespace Go.Proofs.YtibphjonmikciaaGreatDoor
open Go Go.Av Go.Lexs Go.Lin Go.Fo
attribute [local irreducible] ACalls S9
theorem A4j{Q}(l:LinV)(hv:validL l=true)(m:Int)(hs:m=1∨m= -1)(H:Heap)(h:Q (.agg (E8 (shL l m))) H):D7 92 [.agg (E8 l),.int .i64 m] H Q:=by
 refine A9 [] A6 Tryz.func92 rfl ?_;simp only[go_sem,seval,Tryz.results92];have ok:=M4 hv;have c6:=ok.len;have c7:=ok.k;obtain⟨o,J⟩: ∃o,o=m*l.k:=⟨_,rfl⟩
 have c8:o.natAbs≤1099511627776:=by rcases hs with rfl|rfl<;>omega
 have U:(shL l m).k=o-1:=by rw[J];rfl
 intro u g2 q T;simp only[A5]at T;have V:u≠q:=fun e=>T.1 e.symm;obtain⟨Z,hZ⟩: ∃Z:List D,Z= [.nilsl,.int .i64 0,.bool false]:=⟨_,rfl⟩
 rw[←hZ];have e2:((H.set u (.box (E8 l))).set q (.box Z)) u=some (.box (E8 l)):=by rw[A2 _ V,A3]
 have W:((H.set u (.box (E8 l))).set q (.box Z)) q=some (.box Z):=A3 _ _;have G:H.Le ((H.set u (.box (E8 l))).set q (.box Z)):=(A0 g2).trans (A0 (by simp only[A5];exact T));generalize (H.set u (.box (E8 l))).set q (.box Z)=Bs at e2 W G⊢;repeat' (first|simp only[go_sem,seval,e2,←J]|simp(disch:=omega) only[A4,B3,B4]|simp(disch:=first|omega|grind) only[A8]|(intro j;try simp only[A5]at j))
 rename_i b5;have h5:=j;clear j;have n5:u≠b5∧q≠b5:=⟨fun e=>(by rw[←e,e2]at h5;cases h5),fun e=>(by rw[←e,W]at h5;cases h5)⟩
 have c5:(Bs.set b5 (.box [.nilsl,.int .i64 (o-1),.bool false])) b5=some (.box [.nilsl,.int .i64 (o-1),.bool false]):=A3 _ _;have c2:(Bs.set b5 (.box [.nilsl,.int .i64 (o-1),.bool false])) u=some (.box (E8 l)):=by rw[A2 _ n5.1];exact e2
 have X:(Bs.set b5 (.box [.nilsl,.int .i64 (o-1),.bool false])) q=some (.box Z):=by rw[A2 _ n5.2];exact W
 have Y:H b5=none:=G.none h5;have y:H.Le (Bs.set b5 (.box [.nilsl,.int .i64 (o-1),.bool false])):=G.trans (A0 h5);generalize Bs.set b5 (.box [.nilsl,.int .i64 (o-1),.bool false])=Cs at c5 c2 X y⊢;repeat' (first|with_reducible apply D1H|simp only[go_sem,seval,c2]|simp(disch:=omega) only[A4,B3,B4]|simp(disch:=first|omega|grind) only[A8]|(intro j;try simp only[A5]at j)|omega)
 refine C8 [1,4,5,15,16] (fun(p:Nat×Option Nat×Heap)=>[(17,.int .i64 p.1)]) (fun(p:Nat×Option Nat×Heap)=>p.2.2) (fun(p:Nat×Option Nat×Heap)=>p.1≤l.t.length∧AH 2 Cs b5 (fun x=>[x,.int .i64 (o-1),.bool false]) (Rw J7 ((shL l m).t.take p.1)) p.1 p.2.1 p.2.2) (fun(p:Nat×Option Nat×Heap)=>l.t.length-p.1) ((0,none,Cs)) (⟨D1c _,A2F c5⟩) (by(try simp only[go_sem,seval])<;>(try simp(disch:=omega) [A4])) (by first|exact D2i _|exact A0 (by assumption)|exact B9 (by assumption)|simp only[Heap.Le,Heap.set,Heap.del]at* <;>grind) ?_;rintro Ec rfl ⟨i,ob,Hp⟩ ⟨hi,A⟩;simp only at hi A;have a0:(shL l m).t.length=l.t.length:=by unfold shL;simp
 by_cases r:i<l.t.length
 ·have I:decide ((i:Int)<l.t.length)=true:=D1J (by omega);have a6:(i:Int)<l.t.length:=by omega
  obtain⟨z,hz⟩: ∃z,z=m*l.t[i].c:=⟨_,rfl⟩
  have c9:z.natAbs≤1048576:=by
   have:=(N1 ok.t _ (D1V r)).2.2;rcases hs with rfl|rfl<;>omega
  repeat' (first|with_reducible apply D1H|simp only[go_sem,seval,I,a6,B3 _ _ r,C3 _ _ r]|(intro j;try simp only[A5]at j)|omega)
  rename_i b7;have h7:=j;clear j;obtain⟨d1,d7,dO,dN⟩:=A.at7 h7 (.box [.str l.t[i].v,.int .i64 l.t[i].c]);repeat' (first|simp only[go_sem,seval,d1,d7,←hz]|simp(disch:=omega) only[A4,B3,B4]|(intro j;try simp only[A5]at j))
  rename_i x;have hx:=j;clear j;obtain⟨a9,b0⟩:=hx;have M:(Hp.set b7 (.box [.str l.t[i].v,.int .i64 l.t[i].c])) x=none:=by rw[A2 _ a9];exact b0
  have A7:=A.more h7 (.box [.str l.t[i].v,.int .i64 l.t[i].c]);obtain⟨_,_,b1,_⟩:=A7.at7 M (.vec 2 [[.str l.t[i].v,.int .i64 z]]);refine A2R (Rw J7 ((shL l m).t.take i)) (by simp) (by rw[U4 _ _ (by omega)]) b1 (by simp only[D1M,D1O];omega) (by simp only[D1M,D1O];omega) fun b' b3=>?_;obtain⟨c0,b6,A'⟩:=A7.step M _ b3 [.str l.t[i].v,.int .i64 z];revert A';generalize b8:((I3 ((Hp.set b7 (.box [.str l.t[i].v,.int .i64 l.t[i].c])).set x (.vec 2 [[.str l.t[i].v,.int .i64 z]])) ob).set b' (.vec 2 (Rw J7 ((shL l m).t.take i)++[[.str l.t[i].v,.int .i64 z]]))).set b5 (.box [.vec b' 2 0 (i+1),.int .i64 (o-1),.bool false])=Hf;intro A';repeat' (first|simp only[go_sem,seval,b6]|simp(disch:=omega) only[A4,B3,B4])
  exact C4 (i+1,some b',Hf) ⟨by simp only[];omega,by simp only[];rw[B7v l m i r,←hz];exact A'⟩ (by simp only[];omega) (by(try simp only[go_sem,seval])<;>(try simp(disch:=omega) [A4])) (by rw[←b8];exact D2i _)
 ·have I:decide ((i:Int)<l.t.length)=false:=D1K (by omega);have b9:i=l.t.length:=by omega
  have O:=A.keep q _ n5.2 X;rw[D1W (by omega)]at A;have A1:=A.box;rw[hZ]at O;have o1:=A1Y 2 i ob;repeat' (first|with_reducible apply D1H|simp only[go_sem,seval,I,A1,O,o1]|simp(disch:=first|omega|grind) only[A8])
  rw[←U];refine C3w (l:=shL l m) (by rw[a0];exact b9) (A.out2 X _) (D2j (A.le2 y Y T.2 _) h)
theorem A4k{Q}(l:LinV)(H:Heap)(h:Q (.agg (C1 (A3D l))) H):D7 78 [.agg (E8 l)] H Q:=by
 refine A9 [] A6 Tryz.func78 rfl ?_;simp only[go_sem,seval,Tryz.results78];repeat' (first|simp only[go_sem,seval]|simp(disch:=first|omega|grind) only[A8]|(intro i;try simp only[A5]at i))
 rename_i p h1 q;have r:=i;clear i;refine E5 (C3v 2 0 l D5) (D2j (fun k o hk=>?_) h);have j:k≠p:=fun e=>by rw[e,h1]at hk;cases hk
 have m:k≠q:=fun e=>by rw[e,r.2]at hk;cases hk
 first|(rw[A2 _ m,A2 _ j];exact hk)|(rw[A2 _ m,A2 _ m,A2 _ j];exact hk)|(rw[A2 _ j];exact hk)
theorem B7x(n:Nat): ∀{Q} (f:Fm) (hn:SizeOf.sizeOf f≤n) (hf:J1 E3 f=true) (fa:FmFit f) (b:Bool) (H:Heap) (h:Q (.agg (C1 (normF f b))) H),D7 50 [.agg (C1 f),.bool b] H Q:=by
 induction n with
 |zero=>intro Q f hn;cases f;simp at hn
 |succ n ih=>
 intro Q f hn hf fa b H h;refine A9 [(10,.par),(21,.wk),(24,.par)] A6 Tryz.func50 rfl ?_;simp only[go_sem,seval,Tryz.results50];have b3:=fa.kl;intro u g2 z g4;simp only[A5]at g4;have d5:u≠z:=fun e=>g4.1 e.symm;obtain⟨Z,X⟩: ∃Z:List D,Z= [.int .i64 0,.int .i64 0,.nilsl,.int .i64 0,.bool false,.str ⟨#[]⟩,.nilsl]:=⟨_,rfl⟩
 rw[←X];have e2:((H.set u (.box (C1 f))).set z (.box Z)) u=some (.box (C1 f)):=by rw[A2 _ d5,A3]
 have r:((H.set u (.box (C1 f))).set z (.box Z)) z=some (.box Z):=A3 _ _;have q:H.Le ((H.set u (.box (C1 f))).set z (.box Z)):=(A0 g2).trans (A0 (by simp only[A5];exact g4));have J: ∀x,H.Le (((H.set u (.box (C1 f))).set z (.box Z)).set z x):=fun x=>F3 q g4.2;have V: ∀x y,H.Le ((((H.set u (.box (C1 f))).set z (.box Z)).set u x).set z y):=fun x y=>F3 (F3 q g2) g4.2;generalize (H.set u (.box (C1 f))).set z (.box Z)=Bs at e2 r q J V⊢;cases Z1 hf with
 |con m hm=>
  rw[C17 b rfl]at h;simp only[Fm.n,Fm.l,Fm.s,Fm.ks,Z0]at h;rw[X]at r;have q4: ∀x,(Bs.set u x) z=some (.box Z):=fun x=>by rw[A2 _ d5.symm];rw[X];exact r
  rw[X]at q4;rcases hm with rfl|rfl<;>cases b
  all_goals
   repeat' (first|simp only[go_sem,seval,e2,r,q4]|simp(disch:=omega) only[A4,B3,B4])
   first
    |exact D2j (J _) (by simpa using h)
    |exact D2j (V _ _) (by simpa using h)
 |lin l hl hp=>
  rw[C18 b rfl]at h;cases b with
  |false=>
   simp only[D1X,if_false,Z0]at h;rw[X]at r;repeat' simp only[go_sem,seval,e2,r]
   exact D2j (J _) h
  |true=>
   simp only[if_true,Fm.l]at h;unfold opL at h;have e0:=r;rw[X]at r;cases he:l.e with
   |true=>
    rw[if_pos he]at h;repeat' simp only[go_sem,seval,e2,he]
    have m2:u∈[u]:=by simp
    refine F9 (fun i=>if i=2 then .agg (E8 (shL l 1))else if i=3 then .agg (C1 (A3D (shL l 1)))else if i=6 then .agg (E8 (shL l (-1)))else if i=7 then .agg (C1 (A3D (shL l (-1))))else .undef) [u] ?_;repeat' (first|simp only[go_sem,seval,e2,r,m2]|simp(disch:=first|omega|grind) only[A8]|(intro j;try simp only[A5]at j)|with_reducible refine R5 (fun H' Q hro hq=>A4j l hl 1 (.inl rfl) H' hq) ?_|with_reducible refine R5 (fun H' Q hro hq=>A4j l hl (-1) (.inr rfl) H' hq) ?_|with_reducible refine R5 (fun H' Q hro hq=>A4k (shL l 1) H' hq) ?_|with_reducible refine R5 (fun H' Q hro hq=>A4k (shL l (-1)) H' hq) ?_)
    exact B2k [A3D (shL l 1),A3D (shL l (-1))] rfl rfl q g4.2 r (by assumption) _ h
   |false=>
    rw[if_neg (by rw[he];decide)]at h;have sc:=fun(Q:D→Heap→Prop) (H:Heap)=>A4j (Q:=Q) l hl (-1) (.inr rfl) H;rw[show E8 l= [.sl 2 (Rw J7 l.t),.int .i64 l.k,.bool false]by rw[B17,he]]at sc;repeat' (first|simp only[go_sem,seval,e2,r,he]|with_reducible refine sc _ _ ?_|with_reducible refine A4k _ _ ?_)
    exact D2j (J _) h
 |var s hp=>
  rw[C19 b rfl]at h;cases b with
  |false=>
   simp only[D1X,if_false,Z0]at h;rw[X]at r;repeat' simp only[go_sem,seval,e2,r]
   exact D2j (J _) h
  |true=>
   simp only[if_true]at h;rw[X]at r;repeat' (first|simp only[go_sem,seval,e2,r]|simp(disch:=first|omega|grind) only[A8]|(intro j;try simp only[A5]at j))
   exact B2k [.mk 3 0 nilL s []] (by simp[Rw,Z0]) rfl q g4.2 r (by assumption) _ h
 |not k=>
  rw[C2A b rfl rfl]at h;rw[X]at r;have r0:(Rw C1 [k]).getD 0 []=C1 k:=rfl;have hsz:SizeOf.sizeOf k<SizeOf.sizeOf (Fm.mk 4 0 nilL D5 [k]):=A0Z (f:=.mk 4 0 nilL D5 [k]) (D1S ..);repeat' (first|with_reducible apply D1H|simp only[go_sem,seval,e2,r,r0]|with_reducible refine ih k (by omega) (S7 hf (D1S ..)) (fa.kid (D1S ..)) (!b) _ ?_|omega)
  all_goals first
   |exact D2j (J _) h
   |decide
   |omega
 |and ks=>
  have b6: ∀k∈ks,J1 E3 k=true:=fun k hk=>S7 (f:=.mk 5 0 nilL D5 ks) hf hk;have b8: ∀k∈ks,FmFit k:=fun k hk=>fa.kid hk;have b3:ks.length≤1466015503658:=b3;rw[B7S b (by simp[Fm.op]) (by simp[Fm.op]) (by simp[Fm.op]) (by simp[Fm.op])]at h;simp only[Fm.op,Fm.ks]at h;apply A6e (C:=fun b5 G=>H.Le G∧H b5=none∧z≠b5∧u≠b5∧G u=some (.box (C1 (.mk 5 0 nilL D5 ks)))∧G z=some (.box Z)∧G b5=some (.box [.int .i64 (opO 5 b),.int .i64 0,.nilsl,.int .i64 0,.bool false,.str ⟨#[]⟩,.nilsl]))
  ·intro hJ;by_cases hb:b=true
   rotate_left
   ·have hb:b=false:=by simpa using hb
    repeat' (first|simp only[go_sem,seval,e2,hb]|(intro j;try simp only[A5]at j))
    rename_i b5;have h5:=j;clear j;have W:u≠b5:=fun e=>by rw[←e,e2]at h5;cases h5
    have Y:z≠b5:=fun e=>by rw[←e,r]at h5;cases h5
    exact V8 [(1,.bool b),(2,.box u 0),(4,.box z 0),(5,.box b5 0)] _ (by simp only[go_sem,seval,hb]) (D2i _) (hJ b5 _ ⟨q.trans (A0 h5),q.none h5,Y,W,by rw[A2 _ W];exact e2,by rw[A2 _ Y];exact r,by rw[A3,hb];rfl⟩)
   ·repeat' (first|simp only[go_sem,seval,e2,hb]|simp(disch:=omega) only[A4,B3,B4]|simp(disch:=first|omega|grind) only[A8]|(intro j;try simp only[A5]at j))
    rename_i b5;have h5:=j;clear j;have W:u≠b5:=fun e=>by rw[←e,e2]at h5;cases h5
    have Y:z≠b5:=fun e=>by rw[←e,r]at h5;cases h5
    have q2: ∀x,(Bs.set b5 x) u=some (.box (C1 (.mk 5 0 nilL D5 ks))):=fun x=>by rw[A2 _ W];exact e2
    repeat' (first|with_reducible apply D1H|simp only[go_sem,seval,q2,hb]|simp(disch:=omega) only[A4,B3,B4]|simp(disch:=first|omega|grind) only[A8]|(intro j;try simp only[A5]at j)|omega)
    refine V8 [(1,.bool b),(2,.box u 0),(4,.box z 0),(5,.box b5 0)] _ (by simp only[go_sem,seval,hb]) (D2i _) (hJ b5 _ ⟨fun k o hk=>?_,q.none h5,Y,W,?_,?_,?_⟩)
    ·have:k≠b5:=fun e=>by rw[e,q.none h5]at hk;cases hk
     rw[A2 _ this];exact q _ _ hk
    ·rw[A2 _ W];exact e2
    ·rw[A2 _ Y];exact r
    ·rw[A3,hb];rfl
  rintro b5 Cs ⟨a0,b9,c0,d8,c2,c4,e5⟩;clear e2 r J V q;have e2:=c2;have r:=c4;obtain⟨oo,c5⟩: ∃oo,oo=opO 5 b:=⟨_,rfl⟩
  rw[←c5]at e5 h;repeat' simp only[go_sem,seval,e2]
  refine C8 [1,4,5,67,68] (fun(p:Nat×Option Nat×Heap)=>[(69,.int .i64 p.1)]) (fun(p:Nat×Option Nat×Heap)=>p.2.2) (fun(p:Nat×Option Nat×Heap)=>p.1≤ks.length∧AH 7 Cs b5 (fun x=>[.int .i64 oo,.int .i64 0,.nilsl,.int .i64 0,.bool false,.str ⟨#[]⟩,x]) (Rw C1 ((ks.map (normF · b)).take p.1)) p.1 p.2.1 p.2.2) (fun(p:Nat×Option Nat×Heap)=>ks.length-p.1) ((0,none,Cs)) (⟨D1c _,A2F e5⟩) (by(try simp only[go_sem,seval])<;>(try simp(disch:=omega) [A4])) (by first|exact D2i _|exact A0 (by assumption)|exact B9 (by assumption)|simp only[Heap.Le,Heap.set,Heap.del]at* <;>grind) ?_;rintro Ec rfl ⟨i,ob,Hp⟩ ⟨hi,A⟩;simp only at hi A;have c6:(ks.map (normF · b)).length=ks.length:=by simp
  by_cases O:i<ks.length
  ·have T:decide ((i:Int)<ks.length)=true:=D1J (by omega);have c7:(i:Int)<ks.length:=by omega
   have hm:=D1V O;have hsz:SizeOf.sizeOf ks[i]<SizeOf.sizeOf (Fm.mk 5 0 nilL D5 ks):=A0Z (f:=.mk 5 0 nilL D5 ks) hm;repeat' (first|with_reducible apply D1H|simp only[go_sem,seval,T,c7,B3 _ _ O,C3 _ _ O]|(intro j;try simp only[A5]at j)|omega)
   rename_i M;have h7:=j;clear j;obtain⟨d1,d7,dO,dN⟩:=A.at7 h7 (.box (C1 ks[i]));refine F9 (fun i'=>.agg (C1 (normF ks[i] b))) [b5,M] ?_;have m1:b5∈[b5,M]:=by simp
   have m7:M∈[b5,M]:=by simp
   repeat' (first|simp only[go_sem,seval,d1,d7,m1,m7]|(intro j;try simp only[A5]at j)|with_reducible refine R5 (fun H' Q hro hq=>ih ks[i] (by omega) (b6 _ hm) (b8 _ hm) b H' hq) ?_)
   rename_i x;have hx:=j;clear j;obtain⟨a6,c8⟩:=hx;have I:(Hp.set M (.box (C1 ks[i]))) x=none:=by rw[A2 _ a6];exact c8
   obtain⟨U,a9⟩:=A5b dO I (.vec 7 [C1 (normF ks[i] b)]);have c9:x∉[b5,M]:=by
    simp only[D1j,D1k,or_false,not_or];exact⟨fun e=>(by rw[e,d1]at I;cases I),a6⟩
   have d0: ∀c,ob=some c→c∉[b5,M]:=fun c e=>by
    simp only[D1j,D1k,or_false,not_or];exact⟨(A.fresh c e).2,dN c e⟩
   refine B0p 28 96 (n:=i) (m:=1) (bx:=x) (ob:=ob) (es:=Rw C1 ((ks.map (normF · b)).take i)) (xs:=[C1 (normF ks[i] b)]) (by simp only[go_sem,seval]) (by decide) (by simp only[go_sem,seval]) (by simp only[go_sem,seval]) (by simp only[go_sem,seval]) (by simp only[go_sem,seval]) (A3 _ _) rfl (by simp) U (U4 _ _ (by omega)).symm c9 a9 d0 (by simp only[D1M,D1O];omega) (by simp only[D1M,D1O];omega) fun b' b0=>?_;rw[E9 I]at b0⊢;obtain⟨d6,d2,A'⟩:=A.step h7 _ b0 (C1 (normF ks[i] b));revert A';generalize d3:((I3 (Hp.set M (.box (C1 ks[i]))) ob).set b' (.vec 7 (Rw C1 ((ks.map (normF · b)).take i)++[C1 (normF ks[i] b)]))).set b5 (.box [.int .i64 oo,.int .i64 0,.nilsl,.int .i64 0,.bool false,.str ⟨#[]⟩,.vec b' 7 0 (i+1)])=Hf;intro A';repeat' (first|simp only[go_sem,seval,d2,m1]|simp(disch:=omega) only[A4,B3,B4])
   exact C4 (i+1,some b',Hf) ⟨by simp only[];omega,by simp only[];rw[O9 (ks.map (normF · b)) i (by omega),D17];exact A'⟩ (by simp only[];omega) (by(try simp only[go_sem,seval])<;>(try simp(disch:=omega) [A4])) (by rw[←d3];exact D2i _)
  ·have T:decide ((i:Int)<ks.length)=false:=D1K (by omega);have d4:i=ks.length:=by omega
   have b1:=A.keep z _ c0 r;rw[D1W (by omega)]at A;have A1:=A.box;rw[X]at b1;have o1:=A1Y 7 i ob;repeat' (first|with_reducible apply D1H|simp only[go_sem,seval,T,A1,b1,o1]|simp(disch:=first|omega|grind) only[A8])
   exact A9A (ks:=ks.map (normF · b)) (by rw[c6];exact d4) (A.out2 r _) (D2j (A.le2 a0 b9 g4.2 _) h)
 |or ks=>
  have b6: ∀k∈ks,J1 E3 k=true:=fun k hk=>S7 (f:=.mk 6 0 nilL D5 ks) hf hk;have b8: ∀k∈ks,FmFit k:=fun k hk=>fa.kid hk;have b3:ks.length≤1466015503658:=b3;rw[B7S b (by simp[Fm.op]) (by simp[Fm.op]) (by simp[Fm.op]) (by simp[Fm.op])]at h;simp only[Fm.op,Fm.ks]at h;apply A6e (C:=fun b5 G=>H.Le G∧H b5=none∧z≠b5∧u≠b5∧G u=some (.box (C1 (.mk 6 0 nilL D5 ks)))∧G z=some (.box Z)∧G b5=some (.box [.int .i64 (opO 6 b),.int .i64 0,.nilsl,.int .i64 0,.bool false,.str ⟨#[]⟩,.nilsl]))
  ·intro hJ;by_cases hb:b=true
   rotate_left
   ·have hb:b=false:=by simpa using hb
    repeat' (first|simp only[go_sem,seval,e2,hb]|(intro j;try simp only[A5]at j))
    rename_i b5;have h5:=j;clear j;have W:u≠b5:=fun e=>by rw[←e,e2]at h5;cases h5
    have Y:z≠b5:=fun e=>by rw[←e,r]at h5;cases h5
    exact V8 [(1,.bool b),(2,.box u 0),(4,.box z 0),(5,.box b5 0)] _ (by simp only[go_sem,seval,hb]) (D2i _) (hJ b5 _ ⟨q.trans (A0 h5),q.none h5,Y,W,by rw[A2 _ W];exact e2,by rw[A2 _ Y];exact r,by rw[A3,hb];rfl⟩)
   ·repeat' (first|simp only[go_sem,seval,e2,hb]|simp(disch:=omega) only[A4,B3,B4]|simp(disch:=first|omega|grind) only[A8]|(intro j;try simp only[A5]at j))
    rename_i b5;have h5:=j;clear j;have W:u≠b5:=fun e=>by rw[←e,e2]at h5;cases h5
    have Y:z≠b5:=fun e=>by rw[←e,r]at h5;cases h5
    have q2: ∀x,(Bs.set b5 x) u=some (.box (C1 (.mk 6 0 nilL D5 ks))):=fun x=>by rw[A2 _ W];exact e2
    repeat' (first|with_reducible apply D1H|simp only[go_sem,seval,q2,hb]|simp(disch:=omega) only[A4,B3,B4]|simp(disch:=first|omega|grind) only[A8]|(intro j;try simp only[A5]at j)|omega)
    refine V8 [(1,.bool b),(2,.box u 0),(4,.box z 0),(5,.box b5 0)] _ (by simp only[go_sem,seval,hb]) (D2i _) (hJ b5 _ ⟨fun k o hk=>?_,q.none h5,Y,W,?_,?_,?_⟩)
    ·have:k≠b5:=fun e=>by rw[e,q.none h5]at hk;cases hk
     rw[A2 _ this];exact q _ _ hk
    ·rw[A2 _ W];exact e2
    ·rw[A2 _ Y];exact r
    ·rw[A3,hb];rfl
  rintro b5 Cs ⟨a0,b9,c0,d8,c2,c4,e5⟩;clear e2 r J V q;have e2:=c2;have r:=c4;obtain⟨oo,c5⟩: ∃oo,oo=opO 6 b:=⟨_,rfl⟩
  rw[←c5]at e5 h;repeat' simp only[go_sem,seval,e2]
  refine C8 [1,4,5,67,68] (fun(p:Nat×Option Nat×Heap)=>[(69,.int .i64 p.1)]) (fun(p:Nat×Option Nat×Heap)=>p.2.2) (fun(p:Nat×Option Nat×Heap)=>p.1≤ks.length∧AH 7 Cs b5 (fun x=>[.int .i64 oo,.int .i64 0,.nilsl,.int .i64 0,.bool false,.str ⟨#[]⟩,x]) (Rw C1 ((ks.map (normF · b)).take p.1)) p.1 p.2.1 p.2.2) (fun(p:Nat×Option Nat×Heap)=>ks.length-p.1) ((0,none,Cs)) (⟨D1c _,A2F e5⟩) (by(try simp only[go_sem,seval])<;>(try simp(disch:=omega) [A4])) (by first|exact D2i _|exact A0 (by assumption)|exact B9 (by assumption)|simp only[Heap.Le,Heap.set,Heap.del]at* <;>grind) ?_;rintro Ec rfl ⟨i,ob,Hp⟩ ⟨hi,A⟩;simp only at hi A;have c6:(ks.map (normF · b)).length=ks.length:=by simp
  by_cases O:i<ks.length
  ·have T:decide ((i:Int)<ks.length)=true:=D1J (by omega);have c7:(i:Int)<ks.length:=by omega
   have hm:=D1V O;have hsz:SizeOf.sizeOf ks[i]<SizeOf.sizeOf (Fm.mk 6 0 nilL D5 ks):=A0Z (f:=.mk 6 0 nilL D5 ks) hm;repeat' (first|with_reducible apply D1H|simp only[go_sem,seval,T,c7,B3 _ _ O,C3 _ _ O]|(intro j;try simp only[A5]at j)|omega)
   rename_i M;have h7:=j;clear j;obtain⟨d1,d7,dO,dN⟩:=A.at7 h7 (.box (C1 ks[i]));refine F9 (fun i'=>.agg (C1 (normF ks[i] b))) [b5,M] ?_;have m1:b5∈[b5,M]:=by simp
   have m7:M∈[b5,M]:=by simp
   repeat' (first|simp only[go_sem,seval,d1,d7,m1,m7]|(intro j;try simp only[A5]at j)|with_reducible refine R5 (fun H' Q hro hq=>ih ks[i] (by omega) (b6 _ hm) (b8 _ hm) b H' hq) ?_)
   rename_i x;have hx:=j;clear j;obtain⟨a6,c8⟩:=hx;have I:(Hp.set M (.box (C1 ks[i]))) x=none:=by rw[A2 _ a6];exact c8
   obtain⟨U,a9⟩:=A5b dO I (.vec 7 [C1 (normF ks[i] b)]);have c9:x∉[b5,M]:=by
    simp only[D1j,D1k,or_false,not_or];exact⟨fun e=>(by rw[e,d1]at I;cases I),a6⟩
   have d0: ∀c,ob=some c→c∉[b5,M]:=fun c e=>by
    simp only[D1j,D1k,or_false,not_or];exact⟨(A.fresh c e).2,dN c e⟩
   refine B0p 28 96 (n:=i) (m:=1) (bx:=x) (ob:=ob) (es:=Rw C1 ((ks.map (normF · b)).take i)) (xs:=[C1 (normF ks[i] b)]) (by simp only[go_sem,seval]) (by decide) (by simp only[go_sem,seval]) (by simp only[go_sem,seval]) (by simp only[go_sem,seval]) (by simp only[go_sem,seval]) (A3 _ _) rfl (by simp) U (U4 _ _ (by omega)).symm c9 a9 d0 (by simp only[D1M,D1O];omega) (by simp only[D1M,D1O];omega) fun b' b0=>?_;rw[E9 I]at b0⊢;obtain⟨d6,d2,A'⟩:=A.step h7 _ b0 (C1 (normF ks[i] b));revert A';generalize d3:((I3 (Hp.set M (.box (C1 ks[i]))) ob).set b' (.vec 7 (Rw C1 ((ks.map (normF · b)).take i)++[C1 (normF ks[i] b)]))).set b5 (.box [.int .i64 oo,.int .i64 0,.nilsl,.int .i64 0,.bool false,.str ⟨#[]⟩,.vec b' 7 0 (i+1)])=Hf;intro A';repeat' (first|simp only[go_sem,seval,d2,m1]|simp(disch:=omega) only[A4,B3,B4])
   exact C4 (i+1,some b',Hf) ⟨by simp only[];omega,by simp only[];rw[O9 (ks.map (normF · b)) i (by omega),D17];exact A'⟩ (by simp only[];omega) (by(try simp only[go_sem,seval])<;>(try simp(disch:=omega) [A4])) (by rw[←d3];exact D2i _)
  ·have T:decide ((i:Int)<ks.length)=false:=D1K (by omega);have d4:i=ks.length:=by omega
   have b1:=A.keep z _ c0 r;rw[D1W (by omega)]at A;have A1:=A.box;rw[X]at b1;have o1:=A1Y 7 i ob;repeat' (first|with_reducible apply D1H|simp only[go_sem,seval,T,A1,b1,o1]|simp(disch:=first|omega|grind) only[A8])
   exact A9A (ks:=ks.map (normF · b)) (by rw[c6];exact d4) (A.out2 r _) (D2j (A.le2 a0 b9 g4.2 _) h)
theorem A3z{Q}(f:Fm)(i:J1 E3 f=true)(j:FmFit f)(b:Bool)(H:Heap)(h:Q (.agg (C1 (normF f b))) H):D7 50 [.agg (C1 f),.bool b] H Q:=B7x _ f (D1b _) i j b H h
theorem A6p(n:Int):NilR (.tuple [.agg [.int .i64 0,.int .i64 0,.nilsl,.int .i64 0,.bool false,.str ⟨#[]⟩,.nilsl],.int .i64 n]) (.tuple [.agg (C1 zeroF),.int .i64 n]):=C3u (A4d 0 0 0 false D5)
theorem C7X{Q}(f:Fm)(A:FmFit f)(V:VOk f)(H:Heap)(h:Q (.tuple [.agg (C1 (notF f).1),.int .i64 (notF f).2]) H):D7 16 [.agg (C1 f)] H Q:=by
 refine A9 [] A6 Tryz.func16 rfl ?_;simp only[go_sem,seval,Tryz.results16];intro r W j y;simp only[A5]at y;have G:r≠j:=fun e=>y.1 e.symm;have e1:((H.set r (.box (C1 f))).set j (.box [.int .i64 0,.int .i64 0,.nilsl,.int .i64 0,.bool false,.str ⟨#[]⟩,.nilsl])) r=some (.box (C1 f)):=by rw[A2 _ G,A3]
 have e2:((H.set r (.box (C1 f))).set j (.box [.int .i64 0,.int .i64 0,.nilsl,.int .i64 0,.bool false,.str ⟨#[]⟩,.nilsl])) j=some (.box [.int .i64 0,.int .i64 0,.nilsl,.int .i64 0,.bool false,.str ⟨#[]⟩,.nilsl]):=A3 _ _;have o:H.Le ((H.set r (.box (C1 f))).set j (.box [.int .i64 0,.int .i64 0,.nilsl,.int .i64 0,.bool false,.str ⟨#[]⟩,.nilsl])):=(A0 W).trans (A0 (by simp only[A5];exact y));generalize (H.set r (.box (C1 f))).set j (.box [.int .i64 0,.int .i64 0,.nilsl,.int .i64 0,.bool false,.str ⟨#[]⟩,.nilsl])=Bs at e1 e2 o⊢;have I: ∀x,H.Le (Bs.set j x):=fun x=>F3 o y.2;have z:=fun(Q:D→Heap→Prop) (H:Heap)=>P3 (Q:=Q) f A V H;unfold notF at h;cases hv:D8 f with
 |false=>
  rw[hv]at h z;simp only[D1X,if_false]at h;repeat' (first|simp only[go_sem,seval,e1,e2]|with_reducible refine z _ _ ?_)
  exact E5 (A6p 2) (D2j (I _) h)
 |true=>
  rw[hv]at h z;simp only[if_true]at h;have m:=M0 hv;have X:=A6o hv;obtain⟨nf,Y⟩:=A3v f true m A;have nv:VOk (normF f true):=.inl (by omega);have i:=fun(Q:D→Heap→Prop) (H:Heap)=>P3 (Q:=Q) (normF f true) nf nv H;have nc:=fun(Q:D→Heap→Prop) (H:Heap)=>A3z (Q:=Q) f m A true H;have T:=fun(Q:D→Heap→Prop) (H:Heap)=>B3s (Q:=Q) (normF f true) nf H;generalize normF f true=g at h i nc T nf Y nv;repeat' (first|simp only[go_sem,seval,e1]|(intro p;try simp only[A5]at p)|with_reducible refine z _ _ ?_|with_reducible refine nc _ _ ?_|with_reducible refine T _ _ ?_)
  rename_i u;have J:=p;clear p;have k2:j≠u:=fun e=>by rw[←e,e2]at J;cases J
  have M:(Bs.set u (.box (C1 g))) u=some (.box (C1 g)):=A3 _ _;have O:(Bs.set u (.box (C1 g))) j=some (.box [.int .i64 0,.int .i64 0,.nilsl,.int .i64 0,.bool false,.str ⟨#[]⟩,.nilsl]):=by rw[A2 _ k2];exact e2
  have q: ∀x,H.Le ((Bs.set u (.box (C1 g))).set j x):=fun x=>F3 (o.trans (A0 J)) y.2;generalize Bs.set u (.box (C1 g))=Cs at M O q⊢;cases U:D8 g with
  |false=>
   rw[U]at h i;simp only[D1X,if_false]at h;repeat' (first|simp only[go_sem,seval,M,O]|with_reducible refine i _ _ ?_)
   exact E5 (A6p 3) (D2j (q _) h)
  |true=>
   rw[U]at h i;simp only[if_true]at h;repeat' (first|simp only[go_sem,seval,M,O]|with_reducible refine i _ _ ?_)
   exact D2j (q _) h
end Go.Proofs.YtibphjonmikciaaGreatDoor
namespace Go.Fo
open Go Go.Av Go.Lexs Go.Lin
theorem B49(i:Fm→Option Bool): ∀(ks:List Fm) (b:Bool),B48 i ks=some b→(∀k∈ks,i k=some ((i k).getD false))∧b=ks.any fun k=>(i k).getD false:=by
 intro ks
 induction ks with
 |nil=>intro b h;rw[B48]at h;injection h with h;exact⟨by simp,h.symm⟩
 |cons k l j=>
  intro b h;rw[B48]at h;cases hk:i k with
  |none=>rw[hk]at h;cases h
  |some x=>
   cases hl:B48 i l with
   |none=>rw[hk,hl]at h;cases h
   |some y=>
    rw[hk,hl]at h;injection h with h
    obtain⟨m,o⟩:=j y hl;refine⟨fun q hq=>?_,?_⟩
    ·rcases D1j.1 hq with rfl|hq
     ·rw[hk];rfl
     ·exact m q hq
    ·rw[D2M,hk,←o,←h];rfl
theorem A5i{Q:D→Heap→Prop}{H:Heap}{x sz n:Nat}{es:List (List D)}(hx:H x=none)(hn:n=es.length)(h:Q (.sl sz es) H):Fin Q (.vec x sz 0 n) (H.set x (.vec sz es)):=
 Fin.out (ob:=some x) hn (A3 _ _) (by show Fin _ _ ((Heap.set H x _).del x);rw[E9 hx];exact D2m h)
theorem C7Y(ks:List Fm): ∀(j:Nat) (d d':D),[D.int .i64 6,.int .i64 0,.nilsl,.int .i64 0,.bool false,.str ⟨#[]⟩,.sl 7 (Rw C1 ks)][j]? =some d→(C1 (.mk 6 0 nilL D5 ks))[j]? =some d'→NilR d d':=fun j d d' h1 h=>by
 rw[Z0]at h
 match j with
 |0=>cases h1;cases h;exact .same _
 |1=>cases h1;cases h;exact .same _
 |2=>cases h1;cases h;exact .nil 2
 |3=>cases h1;cases h;exact .same _
 |4=>cases h1;cases h;exact .same _
 |5=>cases h1;cases h;exact .same _
 |6=>cases h1;cases h;exact .same _
 |j+7=>cases h1
theorem C0W(f g:Fm)(W:List D)(h: ∀(j:Nat) (d d':D),W[j]? =some d→(C1 g)[j]? =some d'→NilR d d')(hl:W.length=7:=by rfl):NilR (.sl 7 (Rw C1 [f]++[W])) (.sl 7 (Rw C1 ([f]++[g]))):=by
 refine .sl 7 _ _ rfl (fun i e e' h1 m=>?_) (fun i e e' j d d' h1 m p o=>?_)
 ·match i with
  |0=>cases h1;cases m;rfl
  |1=>cases h1;cases m;rw[hl,B9y]
  |i+2=>cases h1
 ·match i with
  |0=>cases h1;cases m;rw[p]at o;cases o;exact .same _
  |1=>cases h1;cases m;exact h j d d' p o
  |i+2=>cases h1
def mG(bs:BS):Option Nat→D
 |none=>.fm (bsC bs)
 |some m=>.map m
def mAt(H:Heap)(bs:BS):Option Nat→Prop
 |none=>True
 |some m=>H m=some (.map (bsC bs))
theorem C7Z(bs:BS)(h:Option Nat):(∃k,mG bs h= .fm k)∨∃b,mG bs h= .map b:=by cases h with
 |none=>exact .inl ⟨_,rfl⟩
 |some m=>exact .inr ⟨_,rfl⟩
end Go.Fo
namespace Go.Proofs.YtibphjonmikciaaGreatDoor
open Go Go.Av Go.Lexs Go.Lin Go.Fo
attribute [local irreducible] ACalls S9
theorem C2C(cs:List LinV)(x:Bool)(hx:B2f cs=some x): ∀(Q:D→Heap→Prop) (H:Heap),Q (.bool x) H→D7 155 [.sl 3 (Rw E8 cs)] H Q:=fun Q H h=>by
 unfold B2f at hx;split at hx
 ·rename_i hv;exact C36 cs hv.2 (D1s.1 hv.1) x hx H h
 ·cases hx
def A6q(n:Nat):Prop:=∀(Q:D→Heap→Prop) (cs:List LinV) (bs:BS) (l:List Fm) (b:Bool),W9 n cs bs l=some b→∀H:Heap,Q (.bool b) H→D7 124 [.agg [.sl 3 (Rw E8 cs),.fm (bsC bs)],.sl 7 (Rw C1 l)] H Q
theorem B5A(n:Nat)(G:A6q n){Q}(cs:List LinV)(bs:BS)(k:Fm)(l:List Fm)(b:Bool)(hb:W9 n cs bs (k::l)=some b)(hl:l.length≤1000)(o b5:Nat)(H:Heap)(y:H o=some (.box [.sl 3 (Rw E8 cs),.fm (bsC bs)]))(h5:H b5=some (.box [.sl 7 (Rw C1 l)]))(h:Q (.bool b) H):
  D7 195 [.agg (C1 k),.box o 0,.box b5 0] H Q:=by
 refine A3C (ops:=chOps) A6 Tryz.func195 rfl (by kernel_rfl) (D1I (by kernel_rfl)) 7 4 rfl (by kernel_rfl) (by kernel_rfl) (by kernel_rfl) (by kernel_rfl) (by kernel_rfl) ?_;simp only[go_sem,seval];intro j p;have r:o≠j:=fun e=>by rw[←e,y]at p;cases p
 have u:b5≠j:=fun e=>by rw[←e,h5]at p;cases p
 have c3:(H.set j (.box (C1 k))) o=some (.box [.sl 3 (Rw E8 cs),.fm (bsC bs)]):=by rw[A2 _ r];exact y
 have z:(H.set j (.box (C1 k))) b5=some (.box [.sl 7 (Rw C1 l)]):=by rw[A2 _ u];exact h5
 have A:(H.set j (.box (C1 k))) j=some (.box (C1 k)):=A3 _ _;have q:H.Le (H.set j (.box (C1 k))):=A0 p;generalize H.set j (.box (C1 k))=Bs at c3 z A q⊢;refine⟨fun i=>if i=0 then .agg [.sl 3 (Rw E8 cs),.fm (bsC bs)]else if i=1 then .agg (C1 k)else if i=2 then .sl 7 (Rw C1 [k])else if i=3 then .sl 7 (Rw C1 l)else if i=4 then .sl 1 [[.sl 7 (Rw C1 [k])],[.sl 7 (Rw C1 l)]]else if i=5 then .sl 7 (Rw C1 (k::l))else .bool b,C4B ?_ ?_ ?_ ?_ ?_ ?_ ?_ ?_,?_⟩
 ·intro ev m e1;simp only[go_sem,seval,show ev (.tmp 1)= .box o 0 from e1,c3];exact D2m ⟨rfl,rfl⟩
 ·intro ev m e1;simp only[go_sem,seval,show ev (.tmp 3)= .box j 0 from e1,A];exact D2m ⟨rfl,rfl⟩
 ·intro ev m e1;simp only[go_sem,seval,show ev (.tmp 6)= .agg (C1 k)from e1];exact fun x hx=>A5i hx rfl ⟨rfl,rfl⟩
 ·intro ev m e1;simp only[go_sem,seval,show ev (.tmp 2)= .box b5 0 from e1,z];exact D2m ⟨rfl,rfl⟩
 ·intro ev m e1 e2;simp only[go_sem,seval,show ev (.tmp 7)= .sl 7 (Rw C1 [k])from e1,show ev (.tmp 8)= .sl 7 (Rw C1 l)from e2];exact fun x hx=>A5i hx rfl ⟨rfl,rfl⟩
 ·intro ev m e1;simp only[go_sem,seval,show ev (.tmp 9)= .sl 1 [[.sl 7 (Rw C1 [k])],[.sl 7 (Rw C1 l)]]from e1,m.func];refine A77 [k] l (by simp only[D1M,D1O];omega) _ ?_;exact D2m ⟨rfl,rfl⟩
 ·intro ev m e1 e2;simp only[go_sem,seval,show ev (.tmp 5)= .agg [.sl 3 (Rw E8 cs),.fm (bsC bs)]from e1,show ev (.tmp 10)= .sl 7 (Rw C1 (k::l))from e2,m.func];refine G _ cs bs (k::l) b hb _ ?_;exact D2m ⟨rfl,rfl⟩
 ·intro ev m e1;simp only[go_sem,seval,show ev (.tmp 11)= .bool b from e1];exact D2m ⟨rfl,rfl⟩
 ·exact D2j q h
def C0X(n:Nat):Prop:=∀(Q:D→Heap→Prop) (cs:List LinV) (bs:BS) (ks l:List Fm) (b:Bool),A5g (W9 n) cs bs ks l=some b→∀H:Heap,Q (.bool b) H→D7 154 [.agg [.sl 3 (Rw E8 cs),.fm (bsC bs)],.sl 7 (Rw C1 ks),.sl 7 (Rw C1 l)] H Q
theorem B7y(n:Nat)(hS:A6q n):C0X n:=by
 intro Q cs bs ks l b hb H h;unfold A5g at hb;split at hb
 rotate_left
 ·cases hb
 rename_i hlen;obtain⟨A,b8⟩:=hlen;refine A9 [(3,.par)] A6 Tryz.func154 rfl ?_;simp only[go_sem,seval,Tryz.results154];intro p g3 b5 T;simp only[A5]at T;have U:p≠b5:=fun e=>T.1 e.symm;have c3:((H.set p (.box [.sl 3 (Rw E8 cs),.fm (bsC bs)])).set b5 (.box [.sl 7 (Rw C1 l)])) p=some (.box [.sl 3 (Rw E8 cs),.fm (bsC bs)]):=by rw[A2 _ U,A3]
 have u:((H.set p (.box [.sl 3 (Rw E8 cs),.fm (bsC bs)])).set b5 (.box [.sl 7 (Rw C1 l)])) b5=some (.box [.sl 7 (Rw C1 l)]):=A3 _ _;have q:H.Le ((H.set p (.box [.sl 3 (Rw E8 cs),.fm (bsC bs)])).set b5 (.box [.sl 7 (Rw C1 l)])):=(A0 g3).trans (A0 (by simp only[A5];exact T));generalize (H.set p (.box [.sl 3 (Rw E8 cs),.fm (bsC bs)])).set b5 (.box [.sl 7 (Rw C1 l)])=Bs at c3 u q⊢;by_cases hr:l≠[]∧B1B (l.headD zeroF)=0
 ·rw[if_pos hr]at hb;obtain⟨Y,y⟩:=hr;obtain⟨f,rfl⟩: ∃f,l= [f]:=by
   match l,Y,A with
   | [f],_,_=>exact⟨f,rfl⟩
  have hro:f.op≠6:=fun e=>by rw[show ([f]:List Fm).headD zeroF=f from rfl]at y;unfold B1B at y;rw[if_pos e]at y;cases y
  have z:=fun(Q:D→Heap→Prop) (H:Heap)=>B2T (Q:=Q) f H;simp only[if_neg hro]at z;have G:(Rw C1 [f]).getD 0 []=C1 f:=rfl;repeat' (first|with_reducible apply D1H|simp only[go_sem,seval,c3,u,G]|(intro j;try simp only[A5]at j)|with_reducible refine A3t [f] (by simp) _ _ ?_|with_reducible refine z _ _ ?_|omega)
  all_goals first|decide|omega|skip
  have m3:p∈[p,b5]:=by simp
  have m5:b5∈[p,b5]:=by simp
  refine B25 (fun i=>if i=2 then .mk' (fun c=>.vec c 7 0 1) (.vec 7 (Rw C1 [f]))else .c (.bool b)) [p,b5] ?_;have a0:(Av.Obj.vec 7 (Rw C1 [f])).rw=true:=rfl;have cl: ∀(H':Heap) (Q:D→Heap→Prop),(∀c,H' c=none→Q (.vec c 7 0 1) (H'.set c (.vec 7 (Rw C1 [f]))))→D7 194 [.sl 7 (Rw C1 [f])] H' Q:=fun H' Q hq=>B7O [f] (by simp) (by simp) H' hq;repeat' simp only[go_sem,seval,c3,u,m3,m5]
  refine pcm (f:=fun c=>.vec c 7 0 1) a0 (fun H' Q hro hq=>cl H' Q hq) fun c hc=>?_;have a6:p≠c:=fun e=>by rw[←e,c3]at hc;cases hc
  have a9:b5≠c:=fun e=>by rw[←e,u]at hc;cases hc
  repeat' (first|simp only[go_sem,seval,c3,u,m3,m5]|(intro j;try simp only[A5]at j))
  rename_i x;have hx:=j;clear j;obtain⟨W,hW⟩: ∃W:List D,W= [.int .i64 6,.int .i64 0,.nilsl,.int .i64 0,.bool false,.str ⟨#[]⟩,.sl 7 (Rw C1 ks)]:=⟨_,rfl⟩
  rw[←hW];have I:c≠x:=fun e=>hx.1 e.symm;have b0:p≠x:=fun e=>by rw[←e]at hx;have:=hx.2;rw[c3]at this;cases this
  have b1:b5≠x:=fun e=>by rw[←e]at hx;have:=hx.2;rw[u]at this;cases this
  refine B0p 28 96 (n:=1) (m:=1) (bx:=x) (ob:=some c) (es:=Rw C1 [f]) (xs:=[W]) (by simp only[go_sem,seval]) (by decide) (by simp only[go_sem,seval]) (by simp only[go_sem,seval]) (by simp only[go_sem,seval]) (by simp only[go_sem,seval]) (A3 _ _) rfl (by simp) (?_:(Heap.set _ x _) c=_) rfl ?_ ?_ ?_ (by simp) (by simp) fun b' r=>?_
  ·rw[A2 _ I];exact A3 _ _
  ·simp only[D1j,D1k,or_false,not_or];exact⟨b0.symm,b1.symm⟩
  ·intro e;injection e with e;exact I e
  ·intro c' e;injection e with e;subst e
   simp only[D1j,D1k,or_false,not_or];exact⟨a6.symm,a9.symm⟩
  have hH: ∀V X:Av.Obj,I3 (((Bs.set c V).set x X).del x) (some c)=Bs:=fun V X=>by rw[E9 (A5.2 hx)];exact E9 hc
  rw[hH]at r⊢;have b2:b'∉[p,b5]:=by
   simp only[D1j,D1k,or_false,not_or];exact⟨fun e=>(by rw[e,c3]at r;cases r),fun e=>(by rw[e,u]at r;cases r)⟩
  have b4:(Av.Obj.vec 7 (Rw C1 [f]++[W])).rw=true:=rfl;have e1:(1:Nat)+ [W].length=2:=rfl;repeat' simp only[go_sem,seval,e1]
  refine pc1 (o:=.vec 7 (Rw C1 [f]++[W])) (A3 _ _) b4 b2 (fun H' Q hro b6 hq=>?_) ?_
  ·refine A0c b6 rfl ?_;refine j7 (args':=[.agg [.sl 3 (Rw E8 cs),.fm (bsC bs)],.sl 7 (Rw C1 ([f]++[.mk 6 0 nilL D5 ks]))]) rfl (fun i d d' h1 h2=>?_) (hS _ cs bs _ b hb _ hq)
   match i with
   |0=>cases h1;cases h2;exact .same _
   |1=>cases h1;cases h2;rw[hW];exact C0W f _ _ (C7Y ks)
   |i+2=>cases h1
  ·rw[E9 r];repeat' simp only[go_sem,seval]
   exact D2j q h
 ·rw[if_neg hr]at hb;have J:l= []∨∃f,l= [f]∧f.op=6:=by
   match l,A,hr with
   | [],_,_=>exact .inl rfl
   | [f],_,hr=>
    refine .inr ⟨f,rfl,?_⟩;by_cases e:f.op=6
    ·exact e
    ·exact absurd ⟨by simp,by show B1B f=0;unfold B1B;rw[if_neg e]⟩ hr
  have b7:l.length≤1000:=by omega
  obtain⟨x,hx⟩: ∃x,B2f cs=some x:=by
   cases e:B2f cs with
   |none=>rw[e]at hb;cases hb
   |some x=>exact⟨x,rfl⟩
  have O:=C2C cs x hx;rw[hx]at hb;cases x with
  |false=>
   injection hb with hb
   subst hb;rcases J with rfl|⟨f,rfl,ho⟩
   ·have M:=fun(g:D) (Q:D→Heap→Prop) (H:Heap)=>A3t (Q:=Q) [] (by simp) g H;simp only[A0j]at M;repeat' (first|with_reducible apply D1H|simp only[go_sem,seval,c3,u,A0j]|(intro j;try simp only[A5]at j)|with_reducible refine M _ _ _ ?_|with_reducible refine O _ _ ?_|omega)
    all_goals first|exact D2j q h|skip
   ·have z:=fun(Q:D→Heap→Prop) (H:Heap)=>B2T (Q:=Q) f H;simp only[if_pos ho]at z;have G:(Rw C1 [f]).getD 0 []=C1 f:=rfl;repeat' (first|with_reducible apply D1H|simp only[go_sem,seval,c3,u,G]|(intro j;try simp only[A5]at j)|with_reducible refine A3t [f] (by simp) _ _ ?_|with_reducible refine z _ _ ?_|with_reducible refine O _ _ ?_|omega)
    all_goals first|exact D2j q h|decide|omega|skip
  |true=>
   obtain⟨a1,a2⟩:=B49 _ _ _ hb;have cc:=fun(Q:D→Heap→Prop)=>A6m (Q:=Q) (fun k=>(W9 n cs bs (k::l)).getD false) ks (by omega) 195 [] [.box p 0,.box b5 0] Bs (fun k hk _ Q hq=>B5A n hS cs bs ks[k] l _ (a1 _ (D1V hk)) b7 p b5 Bs c3 u hq);rw[←a2]at cc;rcases J with rfl|⟨f,rfl,ho⟩
   ·have M:=fun(g:D) (Q:D→Heap→Prop) (H:Heap)=>A3t (Q:=Q) [] (by simp) g H;simp only[A0j]at M;repeat' (first|with_reducible apply D1H|simp only[go_sem,seval,c3,u,A0j]|(intro j;try simp only[A5]at j)|with_reducible refine M _ _ _ ?_|with_reducible refine O _ _ ?_|with_reducible refine cc _ ?_|omega)
    all_goals first|exact D2j q h|skip
   ·have z:=fun(Q:D→Heap→Prop) (H:Heap)=>B2T (Q:=Q) f H;simp only[if_pos ho]at z;have G:(Rw C1 [f]).getD 0 []=C1 f:=rfl;repeat' (first|with_reducible apply D1H|simp only[go_sem,seval,c3,u,G]|(intro j;try simp only[A5]at j)|with_reducible refine A3t [f] (by simp) _ _ ?_|with_reducible refine z _ _ ?_|with_reducible refine O _ _ ?_|with_reducible refine cc _ ?_|omega)
    all_goals first|exact D2j q h|decide|omega|skip
theorem B7z(f:Fm)(l:List Fm):((Rw C1 (f::l)).take (l.length+1)).tail=Rw C1 l:=by rw[D1W (by simp[Rw])];rfl
theorem B70(f:Fm)(l:List Fm):((Rw C1 (f::l)).take (l.length+1)).drop 1=Rw C1 l:=by rw[D1W (by simp[Rw])];rfl
theorem C0Y(bs:BS):mG bs none= .fm (bsC bs):=rfl
theorem C0Z(bs:BS)(m:Nat):mG bs (some m)= .map m:=rfl
set_option maxHeartbeats 4000000 in
theorem C0a(n:Nat)(ih: ∀m,m<n→A6q m):A6q n:=by
 intro Q V W l0 b hb H h;refine A9 [(15,.wk)] A6 Tryz.func124 rfl ?_;simp only[go_sem,seval,Tryz.results124];intro A g2;have e2:(H.set A (.box [.sl 3 (Rw E8 V),.fm (bsC W)])) A=some (.box [.sl 3 (Rw E8 V),.fm (bsC W)]):=A3 _ _;have b7:H.Le (H.set A (.box [.sl 3 (Rw E8 V),.fm (bsC W)])):=A0 g2;generalize H.set A (.box [.sl 3 (Rw E8 V),.fm (bsC W)])=Bs at e2 b7⊢;repeat' (first|with_reducible apply D1H|simp only[go_sem,seval]|simp(disch:=omega) only[B4]|simp(disch:=first|omega|grind) only[A8,D0]|(intro i;try simp only[A5]at i)|omega)
 refine C8 [2] (fun(p:Nat×List LinV×BS×List Fm×Option Nat×Heap)=>[(1,.sl 7 (Rw C1 p.2.2.2.1))]) (fun(p:Nat×List LinV×BS×List Fm×Option Nat×Heap)=>p.2.2.2.2.2) (fun(p:Nat×List LinV×BS×List Fm×Option Nat×Heap)=>W9 p.1 p.2.1 p.2.2.1 p.2.2.2.1=some b∧p.1≤n∧p.2.2.2.2.2 A=some (.box [.sl 3 (Rw E8 p.2.1),mG p.2.2.1 p.2.2.2.2.1])∧mAt p.2.2.2.2.2 p.2.2.1 p.2.2.2.2.1∧H.Le p.2.2.2.2.2∧(∀m,p.2.2.2.2.1=some m→H m=none)) (fun(p:Nat×List LinV×BS×List Fm×Option Nat×Heap)=>p.1) ((n,V,W,l0,none,Bs)) (⟨hb,D1b _,e2,trivial,b7,fun _ e=>(by cases e)⟩) (by(try simp only[go_sem,seval])<;>(try simp(disch:=omega) [A4])<;>(try omega)) (by first|exact D2i _|exact A0 (by assumption)|exact B9 (by assumption)|simp only[Heap.Le,Heap.set,Heap.del]at* <;>grind) ?_;rintro Ec rfl ⟨k,cs,bs,l,O,Hp⟩ ⟨hs,hk,z,G,hp,Y⟩;simp only at hs hk z G hp Y;have b0:(mG bs O).one=true:=by cases O<;>rfl
 have b1:(mG bs O).cells= [mG bs O]:=by cases O<;>rfl
 have b8:(D.one.match_1 (fun _=>Bool) (mG bs O) (fun _=>false) (fun _=>false) (fun _=>false) fun _=>true)=true:=by cases O<;>rfl
 cases k with
 |zero=>cases hs
 |succ k=>
  cases l with
  |nil=>
   have hs:B2f cs=some b:=hs;have tc:=C2C cs b hs;have r0:(Rw C1 [])= []:=rfl;repeat' (first|with_reducible apply D1H|simp only[go_sem,seval,z,r0]|simp(disch:=omega) only[B4]|simp(disch:=first|omega|grind) only[A8,D0]|(intro i;try simp only[A5]at i)|with_reducible refine tc _ _ ?_|omega)
   all_goals first|exact D2j hp h|skip
  |cons f l=>
   have hs:(if 1000<cs.length∨1000<l.length∨1000<f.ks.length then none else if f.op=1 then(if f.n=0 then some false else W9 k cs bs l)else if f.op=2 then W9 k (cs++[f.l]) bs l else if f.op=3 then(if A9F bs f.s=some false then some false else W9 k cs (A1c bs f.s true) l)else if f.op=4 then(if f.ks= []then none else if A9F bs (f.ks.headD zeroF).s=some true then some false else W9 k cs (A1c bs (f.ks.headD zeroF).s false) l)else if f.op=5 then W9 k cs bs (f.ks++l)else if f.op=6 then A5g (W9 k) cs bs f.ks l else none)=some b:=hs;split at hs
   ·cases hs
   rename_i e0;have T:(0:Int)<(f::l).length:=by simp only[D1M];omega
   have hlen:(f::l).length=l.length+1:=rfl;have r0:(Rw C1 (f::l)).getD 0 []=C1 f:=rfl;have d1:=B7z f l;have d2:=B70 f l;by_cases o1:f.op=1
   ·rw[if_pos o1]at hs;by_cases n0:f.n=0
    ·rw[if_pos n0]at hs;injection hs with hs
     subst hs;repeat' (first|with_reducible apply D1H|simp only[go_sem,seval,z,r0,d1,d2,o1,n0,T]|simp(disch:=omega) only[B4]|simp(disch:=first|omega|grind) only[A8,D0]|(intro i;try simp only[A5]at i)|omega)
     all_goals first|exact D2j (hp.trans (A0 (by assumption))) h|skip
    ·rw[if_neg n0]at hs;repeat' (first|with_reducible apply D1H|simp only[go_sem,seval,z,r0,d1,d2,o1,n0,T]|simp(disch:=omega) only[B4]|simp(disch:=first|omega|grind) only[A8,D0]|(intro i;try simp only[A5]at i)|omega)
     exact C4 (k,cs,bs,l,O,Hp) ⟨hs,by simp only[];omega,z,G,hp,Y⟩ (by simp only[];omega) (by(try simp only[go_sem,seval])<;>(try simp(disch:=omega) [A4])<;>(try omega)) (A0 (by assumption))
   ·rw[if_neg o1]at hs;by_cases o2:f.op=2
    ·rw[if_pos o2]at hs;have c8: ¬(2:Int)=1:=by decide
     repeat' (first|with_reducible apply D1H|simp only[go_sem,seval,z,r0,d1,d2,c8,o2,T,b0,b1]|simp(disch:=omega) only[B4]|simp(disch:=first|omega|grind) only[A8,D0]|(intro i;try simp only[A5]at i)|omega)
     rename_i b5 h5 x;have hx:=i;clear i;refine A9Z (es:=[E8 f.l]) (by first|exact hx|exact A5.2 hx) rfl ?_;refine B7P cs [f.l] (mG bs O) (C7Z _ _) (by simp only[D1M,D1O];omega) _ ?_;repeat' (first|with_reducible apply D1H|simp only[go_sem,seval,z,d1,b0,b1,b8]|simp(disch:=omega) only[B4]|simp(disch:=first|omega|grind) only[A8,D0]|(intro i;try simp only[A5]at i)|omega)
     refine C4 (k,cs++[f.l],bs,l,O,Hp.set A (.box [.sl 3 (Rw E8 (cs++[f.l])),mG bs O])) ⟨hs,by simp only[];omega,A3 _ _,?_,F3 hp g2,Y⟩ (by simp only[];omega) (by(try simp only[go_sem,seval])<;>(try simp(disch:=omega) [A4])<;>(try omega)) (by simp only[F0,D3,D4]at* <;>grind);cases O with
     |none=>trivial
     |some m=>
      have G:Hp m=some (.map (bsC bs)):=G;have:m≠A:=fun e=>by rw[e,z]at G;cases G
      show (Heap.set _ A _) m=_;rw[A2 _ this];exact G
    ·rw[if_neg o2]at hs;by_cases a6:f.op=3∨f.op=4
     ·have c9: ∃U M,(if A9F bs U=some (!M)then some false else W9 k cs (A1c bs U M) l)=some b∧((f.op=3∧U=f.s∧M=true)∨(f.op=4∧∃k0 r,f.ks=k0::r∧U=k0.s∧M=false)):=by
       by_cases o3:f.op=3
       ·rw[if_pos o3]at hs;exact⟨f.s,true,hs,.inl ⟨o3,rfl,rfl⟩⟩
       ·rw[if_neg o3,if_pos (by omega)]at hs;split at hs
        ·cases hs
        ·rename_i d0;cases b9:f.ks with
         |nil=>exact absurd b9 d0
         |cons k0 r=>
          rw[b9]at hs;exact⟨k0.s,false,hs,.inr ⟨by omega,k0,r,rfl,rfl,rfl⟩⟩
      obtain⟨U,M,hs,hw⟩:=c9;apply A2Q (C:=True)
      ·intro hJ;rcases hw with⟨o3,hn,b3⟩|⟨o4,k0,r,d3,hn,b3⟩
       ·have b4: ¬(3:Int)=1:=by decide
        have b6: ¬(3:Int)=2:=by decide
        have a6: ¬(3:Int)=4:=by decide
        repeat' (first|with_reducible apply D1H|simp only[go_sem,seval,z,r0,d1,d2,b4,b6,a6,o3,T]|simp(disch:=omega) only[B4]|simp(disch:=first|omega|grind) only[A8,D0]|(intro i;try simp only[A5]at i)|omega)
        exact V8 [(1,.sl 7 (Rw C1 l)),(2,.box A 0),(6,.str U),(7,.bool M)] Hp (by(try simp only[go_sem,seval,hn,b3])<;>(try simp(disch:=omega) [A4])<;>(try omega)) (A0 (by assumption)) (hJ trivial)
       ·have b4: ¬(4:Int)=1:=by decide
        have b6: ¬(4:Int)=2:=by decide
        have a6: ¬(4:Int)=3:=by decide
        have rk:(Rw C1 (k0::r)).getD 0 []=C1 k0:=rfl;repeat' (first|with_reducible apply D1H|simp only[go_sem,seval,z,r0,d1,d2,b4,b6,a6,o4,T,d3,rk]|simp(disch:=omega) only[B4]|simp(disch:=first|omega|grind) only[A8,D0]|(intro i;try simp only[A5]at i)|omega)
        all_goals first|decide|omega|skip
        exact V8 [(1,.sl 7 (Rw C1 l)),(2,.box A 0),(6,.str U),(7,.bool M)] Hp (by(try simp only[go_sem,seval,hn,b3])<;>(try simp(disch:=omega) [A4])<;>(try omega)) (A0 (by assumption)) (hJ trivial)
      intro _;rcases find_bsC U bs 0 with⟨h1,h2,h3⟩|⟨j,bv,_,h1,h2,h4⟩
      ·rw[h1,if_neg (by simp)]at hs;cases O with
       |none=>
        repeat' (first|with_reducible apply D1H|simp only[go_sem,seval,z,h2,C0Y]|simp(disch:=omega) only[B4]|simp(disch:=first|omega|grind) only[A8,D0]|(intro i;try simp only[A5]at i)|omega)
        refine A1a (bsC bs) _ fun bn u=>?_;have c2:(Hp.set bn (.map (bsC bs))) A=some (.box [.sl 3 (Rw E8 cs),.fm (bsC bs)]):=by rw[A2 _ (fun e=>by rw[←e,z]at u;cases u)];exact z
        have I:bn≠A:=fun e=>by rw[e,z]at u;cases u
        have cn: ∀X:Av.Obj,((Hp.set bn (.map (bsC bs))).set A X) bn=some (.map (bsC bs)):=fun X=>by rw[A2 _ I];exact A3 _ _
        have y:H.Le (Hp.set bn (.map (bsC bs))):=hp.trans (A0 u);have J:H bn=none:=hp.none u;generalize Hp.set bn (.map (bsC bs))=Cs at c2 cn y⊢;repeat' (first|with_reducible apply D1H|simp only[go_sem,seval,c2,cn,A3w]|simp(disch:=omega) only[B4]|simp(disch:=first|omega|grind) only[A8,D0]|(intro i;try simp only[A5]at i)|omega)
        refine C4 (k,cs,A1c bs U M,l,some bn,(Cs.set A (.box [.sl 3 (Rw E8 cs),.map bn])).set bn (.map (bsC (A1c bs U M)))) ⟨hs,by simp only[];omega,?_,A3 _ _,?_,fun m e=>(by cases e;exact J)⟩ (by simp only[];omega) (by(try simp only[go_sem,seval])<;>(try simp(disch:=omega) [A4])<;>(try omega)) (D2i _)
        ·show (Heap.set _ bn _) A=_;rw[A2 _ I.symm];exact A3 _ _
        ·exact F3 (F3 y g2) J
       |some m=>
        have G:Hp m=some (.map (bsC bs)):=G;repeat' (first|with_reducible apply D1H|simp only[go_sem,seval,z,h2,G,C0Z]|simp(disch:=omega) only[B4]|simp(disch:=first|omega|grind) only[A8,D0]|(intro i;try simp only[A5]at i)|omega)
        refine A2p m (bsC bs) _ G fun bn u=>?_;have c2:(Hp.set bn (.map (bsC bs))) A=some (.box [.sl 3 (Rw E8 cs),.map m]):=by rw[A2 _ (fun e=>by rw[←e,z]at u;cases u)];exact z
        have I:bn≠A:=fun e=>by rw[e,z]at u;cases u
        have cn: ∀X:Av.Obj,((Hp.set bn (.map (bsC bs))).set A X) bn=some (.map (bsC bs)):=fun X=>by rw[A2 _ I];exact A3 _ _
        have y:H.Le (Hp.set bn (.map (bsC bs))):=hp.trans (A0 u);have J:H bn=none:=hp.none u;generalize Hp.set bn (.map (bsC bs))=Cs at c2 cn y⊢;repeat' (first|with_reducible apply D1H|simp only[go_sem,seval,c2,cn,A3w]|simp(disch:=omega) only[B4]|simp(disch:=first|omega|grind) only[A8,D0]|(intro i;try simp only[A5]at i)|omega)
        refine C4 (k,cs,A1c bs U M,l,some bn,(Cs.set A (.box [.sl 3 (Rw E8 cs),.map bn])).set bn (.map (bsC (A1c bs U M)))) ⟨hs,by simp only[];omega,?_,A3 _ _,?_,fun m e=>(by cases e;exact J)⟩ (by simp only[];omega) (by(try simp only[go_sem,seval])<;>(try simp(disch:=omega) [A4])<;>(try omega)) (D2i _)
        ·show (Heap.set _ bn _) A=_;rw[A2 _ I.symm];exact A3 _ _
        ·exact F3 (F3 y g2) J
      ·rw[h1]at hs;by_cases a9:bv= !M
       ·rw[if_pos (by rw[a9])]at hs;injection hs with hs
        subst hs;have a0: ¬bv=M:=by rw[a9];cases M<;>simp
        cases O with
        |none=>
         repeat' (first|with_reducible apply D1H|simp only[go_sem,seval,z,h2,C0Y,a0]|simp(disch:=omega) only[B4]|simp(disch:=first|omega|grind) only[A8,D0]|(intro i;try simp only[A5]at i)|omega)
         all_goals first|exact D2j hp h|skip
        |some m=>
         have G:Hp m=some (.map (bsC bs)):=G;repeat' (first|with_reducible apply D1H|simp only[go_sem,seval,z,h2,G,C0Z,a0]|simp(disch:=omega) only[B4]|simp(disch:=first|omega|grind) only[A8,D0]|(intro i;try simp only[A5]at i)|omega)
         all_goals first|exact D2j hp h|skip
       ·rw[if_neg (fun e=>a9 (by injection e))]at hs;have a0:bv=M:=by cases bv<;>cases M<;>simp at a9⊢
        cases O with
        |none=>
         repeat' (first|with_reducible apply D1H|simp only[go_sem,seval,z,h2,C0Y,a0]|simp(disch:=omega) only[B4]|simp(disch:=first|omega|grind) only[A8,D0]|(intro i;try simp only[A5]at i)|omega)
         refine A1a (bsC bs) _ fun bn u=>?_;have c2:(Hp.set bn (.map (bsC bs))) A=some (.box [.sl 3 (Rw E8 cs),.fm (bsC bs)]):=by rw[A2 _ (fun e=>by rw[←e,z]at u;cases u)];exact z
         have I:bn≠A:=fun e=>by rw[e,z]at u;cases u
         have cn: ∀X:Av.Obj,((Hp.set bn (.map (bsC bs))).set A X) bn=some (.map (bsC bs)):=fun X=>by rw[A2 _ I];exact A3 _ _
         have y:H.Le (Hp.set bn (.map (bsC bs))):=hp.trans (A0 u);have J:H bn=none:=hp.none u;generalize Hp.set bn (.map (bsC bs))=Cs at c2 cn y⊢;repeat' (first|with_reducible apply D1H|simp only[go_sem,seval,c2,cn,A3w]|simp(disch:=omega) only[B4]|simp(disch:=first|omega|grind) only[A8,D0]|(intro i;try simp only[A5]at i)|omega)
         refine C4 (k,cs,A1c bs U M,l,some bn,(Cs.set A (.box [.sl 3 (Rw E8 cs),.map bn])).set bn (.map (bsC (A1c bs U M)))) ⟨hs,by simp only[];omega,?_,A3 _ _,?_,fun m e=>(by cases e;exact J)⟩ (by simp only[];omega) (by(try simp only[go_sem,seval])<;>(try simp(disch:=omega) [A4])<;>(try omega)) (D2i _)
         ·show (Heap.set _ bn _) A=_;rw[A2 _ I.symm];exact A3 _ _
         ·exact F3 (F3 y g2) J
        |some m=>
         have G:Hp m=some (.map (bsC bs)):=G;repeat' (first|with_reducible apply D1H|simp only[go_sem,seval,z,h2,G,C0Z,a0]|simp(disch:=omega) only[B4]|simp(disch:=first|omega|grind) only[A8,D0]|(intro i;try simp only[A5]at i)|omega)
         refine A2p m (bsC bs) _ G fun bn u=>?_;have c2:(Hp.set bn (.map (bsC bs))) A=some (.box [.sl 3 (Rw E8 cs),.map m]):=by rw[A2 _ (fun e=>by rw[←e,z]at u;cases u)];exact z
         have I:bn≠A:=fun e=>by rw[e,z]at u;cases u
         have cn: ∀X:Av.Obj,((Hp.set bn (.map (bsC bs))).set A X) bn=some (.map (bsC bs)):=fun X=>by rw[A2 _ I];exact A3 _ _
         have y:H.Le (Hp.set bn (.map (bsC bs))):=hp.trans (A0 u);have J:H bn=none:=hp.none u;generalize Hp.set bn (.map (bsC bs))=Cs at c2 cn y⊢;repeat' (first|with_reducible apply D1H|simp only[go_sem,seval,c2,cn,A3w]|simp(disch:=omega) only[B4]|simp(disch:=first|omega|grind) only[A8,D0]|(intro i;try simp only[A5]at i)|omega)
         refine C4 (k,cs,A1c bs U M,l,some bn,(Cs.set A (.box [.sl 3 (Rw E8 cs),.map bn])).set bn (.map (bsC (A1c bs U M)))) ⟨hs,by simp only[];omega,?_,A3 _ _,?_,fun m e=>(by cases e;exact J)⟩ (by simp only[];omega) (by(try simp only[go_sem,seval])<;>(try simp(disch:=omega) [A4])<;>(try omega)) (D2i _)
         ·show (Heap.set _ bn _) A=_;rw[A2 _ I.symm];exact A3 _ _
         ·exact F3 (F3 y g2) J
     ·rw[if_neg (by omega),if_neg (by omega)]at hs;by_cases o5:f.op=5
      ·rw[if_pos o5]at hs;have d4: ¬(5:Int)=1:=by decide
       have d5: ¬(5:Int)=2:=by decide
       have d6: ¬(5:Int)=3:=by decide
       have d7: ¬(5:Int)=4:=by decide
       repeat' (first|with_reducible apply D1H|simp only[go_sem,seval,z,r0,d1,d2,d4,d5,d6,d7,o5,T]|simp(disch:=omega) only[B4]|simp(disch:=first|omega|grind) only[A8,D0]|(intro i;try simp only[A5]at i)|omega)
       rename_i b5 h5 x;have hx:=i;clear i;refine R6 (es:=[[.sl 7 (Rw C1 f.ks)],[.sl 7 (Rw C1 l)]]) (by first|exact hx|exact A5.2 hx) rfl ?_;refine A77 f.ks l (by omega) _ ?_;repeat' (first|with_reducible apply D1H|simp only[go_sem,seval]|simp(disch:=omega) only[B4]|simp(disch:=first|omega|grind) only[A8,D0]|(intro i;try simp only[A5]at i)|omega)
       exact C4 (k,cs,bs,f.ks++l,O,Hp) ⟨hs,by simp only[];omega,z,G,hp,Y⟩ (by simp only[];omega) (by(try simp only[go_sem,seval])<;>(try simp(disch:=omega) [A4])<;>(try omega)) (A0 h5)
      ·rw[if_neg o5]at hs;by_cases o6:f.op=6
       ·rw[if_pos o6]at hs;have c0: ¬(6:Int)=1:=by decide
        have c4: ¬(6:Int)=2:=by decide
        have c5: ¬(6:Int)=3:=by decide
        have c6: ¬(6:Int)=4:=by decide
        have c7: ¬(6:Int)=5:=by decide
        have cc:=fun(Q:D→Heap→Prop) (H:Heap)=>B7y k (ih k (by omega)) Q cs bs f.ks l b hs H;cases O with
        |none=>
         repeat' (first|with_reducible apply D1H|simp only[go_sem,seval,z,r0,d1,d2,c0,c4,c5,c6,c7,o6,T,C0Y]|simp(disch:=omega) only[B4]|simp(disch:=first|omega|grind) only[A8,D0]|(intro i;try simp only[A5]at i)|omega)
         refine cc _ _ ?_;repeat' (first|with_reducible apply D1H|simp only[go_sem,seval]|simp(disch:=omega) only[B4]|simp(disch:=first|omega|grind) only[A8,D0]|(intro i;try simp only[A5]at i)|omega)
         exact D2j (hp.trans (A0 (by assumption))) h
        |some m=>
         have G:Hp m=some (.map (bsC bs)):=G;repeat' (first|with_reducible apply D1H|simp only[go_sem,seval,z,r0,d1,d2,c0,c4,c5,c6,c7,o6,T,C0Z]|simp(disch:=omega) only[B4]|simp(disch:=first|omega|grind) only[A8,D0]|(intro i;try simp only[A5]at i)|omega)
         rename_i b5;have h5:=i;clear i;have d8:m≠b5:=fun e=>by rw[←e,G]at h5;cases h5
         have e4:A≠m:=fun e=>by rw[←e,z]at G;cases G
         refine A64 (by rw[A2 _ d8];exact G) ?_;refine cc _ _ ?_;repeat' (first|with_reducible apply D1H|simp only[go_sem,seval]|simp(disch:=omega) only[B4]|simp(disch:=first|omega|grind) only[A8,D0]|(intro i;try simp only[A5]at i)|omega)
         refine D2j (fun q o hq=>?_) h;have q5:q≠m:=fun e=>by rw[e,Y m rfl]at hq;cases hq
         rw[D0 q5];exact hp.trans (A0 h5) _ _ hq
       ·rw[if_neg o6]at hs;cases hs
theorem C0b: ∀n,A6q n:=fun n=>by
 induction n using Nat.strongRecOn with
 |_ n h=>exact C0a n h
theorem C4S(m x:D):NilR (.agg [.nilsl,m]) (.agg [.sl 3 [],m]):=by
 refine .agg _ _ rfl fun i d d' h1 h=>?_
 match i with
 |0=>cases h1;cases h;exact .nil 3
 |1=>cases h1;cases h;exact .same _
 |i+2=>cases h1
theorem A30{Q}(f:Fm)(r:J1 E3 f=true)(u:FmFit f)(more:List LinV)(hm:more.length≤1000)(b:Bool)(hs:X1 f more=some b)(H:Heap)(h:Q (.bool b) H):D7 73 [.agg (C1 f),.sl 3 (Rw E8 more)] H Q:=by
 refine A3C (ops:=svOps) A6 Tryz.func73 rfl (by kernel_rfl) (D1I (by kernel_rfl)) 8 4 rfl (by kernel_rfl) (by kernel_rfl) (by kernel_rfl) (by kernel_rfl) (by kernel_rfl) ?_;simp only[go_sem,seval];intro m p;have q:(H.set m (.box (C1 f))) m=some (.box (C1 f)):=A3 _ _;have o:H.Le (H.set m (.box (C1 f))):=A0 p;generalize H.set m (.box (C1 f))=Bs at q o⊢;unfold X1 at hs;refine⟨fun i=>if i=0 then .fm []else if i=1 then .agg [.nilsl,.fm []]else if i=2 then .sl 3 (Rw E8 more)else if i=3 then .agg [.sl 3 (Rw E8 more),.fm []]else if i=4 then .agg (C1 f)else if i=5 then .agg (C1 (normF f false))else if i=6 then .sl 7 (Rw C1 [normF f false])else .bool b,C4A ?_ ?_ ?_ ?_ ?_ ?_ ?_ ?_ ?_,?_⟩
 ·intro ev j;simp only[go_sem,seval,];intro x hx;refine A5E (kvs:=[]) (A3 _ _) ?_;rw[E9 hx];refine D2m ?_;exact⟨rfl,rfl⟩
 ·intro ev j e1;simp only[go_sem,seval,show ev (.tmp 5)= .fm []from e1,show (D.fm []).cells= [D.fm []]from rfl];exact D2m ⟨rfl,rfl⟩
 ·intro ev j e1;simp only[go_sem,seval,show ev (.tmp 1)= .sl 3 (Rw E8 more)from e1];exact D2m ⟨rfl,rfl⟩
 ·intro ev j e1 e2;simp only[go_sem,seval,show ev (.tmp 6)= .agg [.nilsl,.fm []]from e1,show ev (.tmp 7)= .sl 3 (Rw E8 more)from e2,j.func];refine j7 (args':=[.agg [.sl 3 (Rw E8 []),.fm []],.sl 3 (Rw E8 more)]) rfl (fun i d d' h1 p=>?_) (B7P [] more (.fm []) (.inl ⟨_,rfl⟩) (by simp only[D1O];omega) _ (D2m ?_))
  rotate_left
  ·exact⟨rfl,rfl⟩
  match i with
  |0=>cases h1;cases p;exact C4S _ (.fm [])
  |1=>cases h1;cases p;exact .same _
  |i+2=>cases h1
 ·intro ev j e1;simp only[go_sem,seval,show ev (.tmp 2)= .box m 0 from e1,q];exact D2m ⟨rfl,rfl⟩
 ·intro ev j e1;simp only[go_sem,seval,show ev (.tmp 9)= .agg (C1 f)from e1,j.func,show ev (.const (.bool false))= .bool false from j.const _];exact A3z f r u false _ (D2m ⟨rfl,rfl⟩)
 ·intro ev j e1;simp only[go_sem,seval,show ev (.tmp 10)= .agg (C1 (normF f false))from e1];exact fun x hx=>A5i hx rfl ⟨rfl,rfl⟩
 ·intro ev j e1 e2;simp only[go_sem,seval,show ev (.tmp 8)= .agg [.sl 3 (Rw E8 more),.fm []]from e1,show ev (.tmp 11)= .sl 7 (Rw C1 [normF f false])from e2,j.func];exact C0b 60 _ more [] [normF f false] b hs _ (D2m ⟨rfl,rfl⟩)
 ·intro ev j e1;simp only[go_sem,seval,show ev (.tmp 12)= .bool b from e1];exact D2m ⟨rfl,rfl⟩
 ·exact D2j o h
theorem A8C{Q}(f g:Fm)(J:J1 E3 f=true)(A:FmFit f)(u:J1 E3 g=true)(y:FmFit g)(b:Bool)(hs:X1 (.mk 5 0 nilL D5 [f,normF g true]) []=some b)(hn:J1 E3 (.mk 5 0 nilL D5 [f,normF g true])=true)(H:Heap)(h:Q (.bool (!b)) H):D7 84 [.agg (C1 f),.agg (C1 g)] H Q:=by
 refine A3C (ops:=foOps) A6 Tryz.func84 rfl (by kernel_rfl) (D1I (by kernel_rfl)) 7 4 rfl (by kernel_rfl) (by kernel_rfl) (by kernel_rfl) (by kernel_rfl) (by kernel_rfl) ?_;simp only[go_sem,seval];intro m G o q;simp only[A5]at q;have r:m≠o:=fun e=>q.1 e.symm;have z:((H.set m (.box (C1 f))).set o (.box (C1 g))) m=some (.box (C1 f)):=by rw[A2 _ r,A3]
 have c3:((H.set m (.box (C1 f))).set o (.box (C1 g))) o=some (.box (C1 g)):=A3 _ _;have p:H.Le ((H.set m (.box (C1 f))).set o (.box (C1 g))):=(A0 G).trans (A0 (by simp only[A5];exact q));generalize (H.set m (.box (C1 f))).set o (.box (C1 g))=Bs at z c3 p⊢;have I:FmFit (.mk 5 0 nilL D5 [f,normF g true]):=P7 (by simp[U3]) (by simp) fun k hk=>by
  simp only[D1j,D1k,or_false]at hk;rcases hk with rfl|rfl
  ·exact A
  ·exact(A3v g true u y).1
 refine⟨fun i=>if i=0 then .agg (C1 f)else if i=1 then .agg (C1 g)else if i=2 then .agg (C1 (normF g true))else if i=3 then .sl 7 (Rw C1 [f,normF g true])else if i=4 then .agg (C1 (.mk 5 0 nilL D5 [f,normF g true]))else if i=5 then .bool b else .bool (!b),C4C ?_ ?_ ?_ ?_ ?_ ?_ ?_ ?_,?_⟩
 ·intro ev j e1;simp only[go_sem,seval,show ev (.tmp 2)= .box m 0 from e1,z];exact D2m ⟨rfl,rfl⟩
 ·intro ev j e1;simp only[go_sem,seval,show ev (.tmp 3)= .box o 0 from e1,c3];exact D2m ⟨rfl,rfl⟩
 ·intro ev j e1;simp only[go_sem,seval,show ev (.tmp 6)= .agg (C1 g)from e1,j.func,show ev (.const (.bool true))= .bool true from j.const _];exact A3z g u y true _ (D2m ⟨rfl,rfl⟩)
 ·intro ev j e1 e2;simp only[go_sem,seval,show ev (.tmp 5)= .agg (C1 f)from e1,show ev (.tmp 7)= .agg (C1 (normF g true))from e2];exact fun x hx=>A5i hx rfl ⟨rfl,rfl⟩
 ·intro ev j e1;simp only[go_sem,seval,show ev (.tmp 8)= .sl 7 (Rw C1 [f,normF g true])from e1,show ev (.const (.int .i64 5))= .int .i64 5 from j.const _];refine E5 (B2K 5 0 0 false D5 _) (D2m ?_);exact⟨rfl,rfl⟩
 ·intro ev j e1;simp only[go_sem,seval,show ev (.tmp 9)= .agg (C1 (.mk 5 0 nilL D5 [f,normF g true]))from e1,j.func,show ev (.const (.slice none 0 0))= .nilsl from j.const _];refine A0b 3 ?_;exact A30 _ hn I [] (by simp) b hs _ (D2m ⟨rfl,rfl⟩)
 ·intro ev j e1;simp only[go_sem,seval,show ev (.tmp 10)= .bool b from e1];exact D2m ⟨rfl,rfl⟩
 ·intro ev j e1;simp only[go_sem,seval,show ev (.tmp 11)= .bool (!b)from e1];exact D2m ⟨rfl,rfl⟩
 ·exact D2j p h
theorem C0c{Q}(b:Nat)(u ms:List ByteArray)(nd:u.Nodup)(H:Heap)(hb:H b=some (.map (D2 tt u)))
  (h: ∀K:List ByteArray,K.Nodup→(∀x,x∈K↔x∈u∨x∈ms)→Q (.tuple []) (H.set b (.map (D2 tt K)))):D7 126 [.map b,.fm (D2 tt ms)] H Q:=by
 refine A9 [] A6 Tryz.func126 rfl ?_;simp only[go_sem,seval,Tryz.results126];have r:(D2 tt ms).length=ms.length:=by simp[D2]
 repeat' intro y
 rename_i m;have O:=y;clear y;have nb:b≠m:=fun e=>by rw[←e,hb]at O;cases O
 have s0:H.set m (.rng (D2 tt ms) [])=(H.set b (.map (D2 tt u))).set m (.rng (D2 tt ms) []):=by rw[B3W hb]
 rw[s0];refine C8 [0,7] (fun(p:List Nat×List ByteArray)=>[]) (fun(p:List Nat×List ByteArray)=>(H.set b (.map (D2 tt p.2))).set m (.rng (D2 tt ms) p.1)) (fun(p:List Nat×List ByteArray)=>p.2.Nodup∧∀x,x∈p.2↔x∈u∨∃i,∃o:i<ms.length,i∈p.1∧ms[i]=x) (fun(p:List Nat×List ByteArray)=>A6n ms.length p.1) (([],u)) (⟨nd,fun x=>by simp⟩) (by simp only[go_sem,seval]) (by first|exact D2i _|exact A0 (by assumption)|exact B9 (by assumption)|simp only[Heap.Le,Heap.set,Heap.del]at* <;>grind) ?_;rintro Ec rfl ⟨s,K⟩ ⟨G,hs⟩;simp only at G hs;have e7:((H.set b (.map (D2 tt K))).set m (.rng (D2 tt ms) s)) m=some (.rng (D2 tt ms) s):=A3 _ _;repeat' simp only[go_sem,seval,e7]
 refine A8l (fun i o hn=>?_) (fun A=>?_)
 ·rw[r]at o;have W:(((H.set b (.map (D2 tt K))).set m (.rng (D2 tt ms) s)).set m (.rng (D2 tt ms) (s++[i]))) m=some (.rng (D2 tt ms) (s++[i])):=A3 _ _;have Y:(((H.set b (.map (D2 tt K))).set m (.rng (D2 tt ms) s)).set m (.rng (D2 tt ms) (s++[i]))) b=some (.map (D2 tt K)):=by rw[A2 _ nb,A2 _ nb];exact A3 _ _
  have ek:(D2 tt ms)[i]? =some (.str ms[i],.bool true):=by simp[D2,o]
  have T:(D2 tt ms)[i]'(by rw[r];exact o)=(.str ms[i],.bool true):=by simp[D2]
  have hG: ∀X:Av.Obj,((((H.set b (.map (D2 tt K))).set m (.rng (D2 tt ms) s)).set m (.rng (D2 tt ms) (s++[i]))).set b X)=(H.set b X).set m (.rng (D2 tt ms) (s++[i])):=fun X=>by
   funext k
   by_cases I:k=b
   ·subst I;rw[A3,A2 _ nb,A3]
   ·rw[A2 _ I];by_cases J:k=m
    ·subst J;rw[A3,A3]
    ·rw[A2 _ J,A2 _ J,A2 _ I,A2 _ J,A2 _ I]
  generalize (((H.set b (.map (D2 tt K))).set m (.rng (D2 tt ms) s)).set m (.rng (D2 tt ms) (s++[i])))=Gs at W Y hG⊢;repeat' simp only[go_sem,seval,W,Y,ek,T,List.getLast?_concat,Y9 _ _ _ _ G,A29]
  refine C4 (s++[i],I7 K ms[i]) ⟨A28 G,fun x=>?_⟩ (A2A o hn) (by simp only[go_sem,seval]) (by show Heap.Le ((H.set b _).set m _) _;rw[←hG];exact D2i _);simp only[B0j];rw[hs x];constructor
  ·rintro((q|⟨j,U,V,M⟩)|q)
   ·exact .inl q
   ·exact .inr ⟨j,U,List.mem_append_left _ V,M⟩
   ·exact .inr ⟨i,o,by simp,q.symm⟩
  ·rintro(q|⟨j,U,V,M⟩)
   ·exact .inl (.inl q)
   ·rcases D1h.1 V with z|z
    ·exact .inl (.inr ⟨j,U,z,M⟩)
    ·rw[D1i]at z;subst z;exact .inr M.symm
 ·repeat' simp only[go_sem,seval]
  refine D2j (A0 (by rw[A2 _ nb.symm];exact O)) (h K G fun x=>?_);rw[hs x];refine or_congr Iff.rfl ⟨?_,fun hx=>?_⟩
  ·rintro⟨i,o,_,rfl⟩;exact D1V o
  ·obtain⟨i,o,rfl⟩:=List.getElem_of_mem hx;exact⟨i,o,A i (by rw[r];exact o),rfl⟩
theorem B71{Q}(ks ms:List ByteArray)(nd:ks.Nodup)(H:Heap)(h: ∀K:List ByteArray,K.Nodup→(∀x,x∈K↔x∈ks∨x∈ms)→Q (.fm (D2 tt K)) H):D7 75 [.fm (D2 tt ks),.fm (D2 tt ms)] H Q:=by
 refine A9 [] A6 Tryz.func75 rfl ?_;simp only[go_sem,seval,Tryz.results75];repeat' (first|with_reducible apply D1H|simp only[go_sem,seval]|simp(disch:=omega) only[B4]|simp(disch:=first|omega|grind) only[D0]|intro i|omega)
 refine A1a _ _ fun b hb=>?_;repeat' simp only[go_sem,seval]
 refine C0c b ks ms nd _ (A3 _ _) fun K j hx=>?_;repeat' simp only[go_sem,seval]
 exact A5E (kvs:=D2 tt K) (A3 _ _) (D2j (fun k o hk=>by
  have:k≠b:=fun e=>by rw[e,hb]at hk;cases hk
  rw[D0 this,A2 _ this];exact hk) (h K j hx))
theorem C2D{Q}(f g:Fm)(r:FmFit f)(u:FmFit g)(G:VOk f)(I:VOk g)(J:D8 f=true)(M:D8 g=true)(hm:meetL (D9.intsL [f,g]) (D1.boolsL [f,g])=false)(hl:(upS (D9.intsL [f,g])).length+(upS (D1.boolsL [f,g])).length≤12)(H:Heap)(h:Q (.int .i64 0) H):
  D7 83 [.agg (C1 f),.agg (C1 g)] H Q:=by
 refine A9 [] A6 Tryz.func83 rfl ?_;simp only[go_sem,seval,Tryz.results83];intro j O m p;simp only[A5]at p;have q:j≠m:=fun e=>p.1 e.symm;have y:((H.set j (.box (C1 f))).set m (.box (C1 g))) j=some (.box (C1 f)):=by rw[A2 _ q,A3]
 have c3:((H.set j (.box (C1 f))).set m (.box (C1 g))) m=some (.box (C1 g)):=A3 _ _;have o:H.Le ((H.set j (.box (C1 f))).set m (.box (C1 g))):=(A0 O).trans (A0 (by simp only[A5];exact p));generalize (H.set j (.box (C1 f))).set m (.box (C1 g))=Bs at y c3 o⊢;have z:=fun(Q:D→Heap→Prop) (H:Heap)=>P3 (Q:=Q) f r G H;have A:=fun(Q:D→Heap→Prop) (H:Heap)=>P3 (Q:=Q) g u I H;rw[J]at z;rw[M]at A;have T:(D2 tt (J2 (D9.intsL [f,g]))).length=(upS (D9.intsL [f,g])).length:=by rw[show (D2 tt (J2 (D9.intsL [f,g]))).length=(J2 (D9.intsL [f,g])).length by simp[D2],A3p]
 have l2:(D2 tt (J2 (D1.boolsL [f,g]))).length=(upS (D1.boolsL [f,g])).length:=by rw[show (D2 tt (J2 (D1.boolsL [f,g]))).length=(J2 (D1.boolsL [f,g])).length by simp[D2],A3p]
 have bc:=fun(Q:D→Heap→Prop) (H:Heap)=>A9H (Q:=Q) (J2 (D9.intsL [f,g])) (J2 (D1.boolsL [f,g])) H;rw[A0L (l':=D9.intsL [f,g]) (m':=D1.boolsL [f,g]) (fun x=>F6 _ _) (fun x=>F6 _ _),hm]at bc;have hd: ¬((12:Int)<((upS (D9.intsL [f,g])).length:Int)+(upS (D1.boolsL [f,g])).length):=by omega
 repeat' (first|simp only[go_sem,seval,y,c3]|(intro i;try simp only[A5]at i)|with_reducible refine z _ _ ?_|with_reducible refine A _ _ ?_)
 rename_i x;have hx:=i;clear i;refine R6 (es:=Rw C1 [f,g]) hx rfl ?_;refine A5h [f,g] (fun k hk=>by
  simp only[D1j,D1k,or_false]at hk;rcases hk with rfl|rfl
  ·exact r
  ·exact u) (by simp) _ ?_
 repeat' (first|with_reducible apply D1H|simp only[go_sem,seval,T,l2,hd]|simp(disch:=omega) only[A4,B4]|with_reducible refine bc _ _ ?_)
 exact D2j o h
end Go.Proofs.YtibphjonmikciaaGreatDoor
namespace Go.Fo
open Go Go.Av Go.Lexs Go.Lin
def Q1:Fm→List VlV→Bool
 | .mk o n l s ks,vs=>
  if o=1 then decide (n=1)
  else if o=2 then B2C l ((U1 l.k l.t vs).getD 0)
  else if o=3 then decide ((P1 vs s).getD 0=1)
  else if o=4 then !valH ks vs
  else if o=5 then valA ks vs
  else valE ks vs
where
 valH:List Fm→List VlV→Bool
 | [],_=>false
 |f::_,vs=>Q1 f vs
 valA:List Fm→List VlV→Bool
 | [],_=>true
 |f::fs,vs=>Q1 f vs&&valA fs vs
 valE:List Fm→List VlV→Bool
 | [],_=>false
 |f::fs,vs=>Q1 f vs||valE fs vs
theorem C0d(ks:List Fm)(vs:List VlV):Q1.valA ks vs=ks.all (Q1 · vs):=by
 induction ks with
 |nil=>rfl
 |cons f fs h=>rw[Q1.valA,h];rfl
theorem C0e(ks:List Fm)(vs:List VlV):Q1.valE ks vs=ks.any (Q1 · vs):=by
 induction ks with
 |nil=>rfl
 |cons f fs h=>rw[Q1.valE,h];rfl
theorem C9t{f:Fm}(vs:List VlV)(h:f.op=1):Q1 f vs=decide (f.n=1):=by
 obtain⟨o,n,l,s,ks⟩:=f;simp only[Fm.op]at h;subst h;rw[Q1,if_pos rfl];rfl
theorem C9u{f:Fm}(vs:List VlV)(h:f.op=2):Q1 f vs=B2C f.l ((U1 f.l.k f.l.t vs).getD 0):=by
 obtain⟨o,n,l,s,ks⟩:=f;simp only[Fm.op]at h;subst h;rw[Q1,if_neg (by decide),if_pos rfl];rfl
theorem C9v{f:Fm}(vs:List VlV)(h:f.op=3):Q1 f vs=decide ((P1 vs f.s).getD 0=1):=by
 obtain⟨o,n,l,s,ks⟩:=f;simp only[Fm.op]at h;subst h;rw[Q1,if_neg (by decide),if_neg (by decide),if_pos rfl];rfl
theorem C9w{f k:Fm}(vs:List VlV)(h:f.op=4)(hk:f.ks= [k]):Q1 f vs= !Q1 k vs:=by
 obtain⟨o,n,l,s,ks⟩:=f;simp only[Fm.op]at h;simp only[Fm.ks]at hk;subst h;subst hk;rw[Q1,if_neg (by decide),if_neg (by decide),if_neg (by decide),if_pos rfl];rfl
theorem C9x{f:Fm}(vs:List VlV)(h:f.op=5):Q1 f vs=f.ks.all (Q1 · vs):=by
 obtain⟨o,n,l,s,ks⟩:=f;simp only[Fm.op]at h;subst h;rw[Q1,if_neg (by decide),if_neg (by decide),if_neg (by decide),if_neg (by decide),if_pos rfl,C0d];rfl
theorem C9y{f:Fm}(vs:List VlV)(h:f.op=6):Q1 f vs=f.ks.any (Q1 · vs):=by
 obtain⟨o,n,l,s,ks⟩:=f;simp only[Fm.op]at h;subst h;rw[Q1,if_neg (by decide),if_neg (by decide),if_neg (by decide),if_neg (by decide),if_neg (by decide),C0e];rfl
def A6r(f:Fm)(vs:List VlV):Bool:=(ivF f).all (fun s=>(P1 vs s).isSome)&&(bvF f).all (fun s=>(P1 vs s).isSome)
def bits(f:Fm)(vs:List VlV):Bool:=(bvF f).all fun s=>decide ((P1 vs s).getD 0=0)||decide ((P1 vs s).getD 0=1)
def atF(f:Fm)(vs:List VlV):Bool×Int:=
 if D8 f=true∧N2 vs=true then(if A6r f vs=true then(if bits f vs=true then(Q1 f vs,0)else(false,20))else(false,13))else(false,2)
theorem A4l(f:Fm)(vs:List VlV):A6r f vs=true↔∀s,s∈D9 f∨s∈D1 f→(P1 vs s).isSome=true:=by
 unfold A6r ivF bvF;simp only[D1U,D1s,T7];constructor
 ·rintro⟨h1,i⟩ s (h|h);exact h1 s h;exact i s h
 ·intro h;exact⟨fun s hs=>h s (.inl hs),fun s hs=>h s (.inr hs)⟩
theorem B1I(f:Fm)(vs:List VlV):bits f vs=true↔∀s∈D1 f,(P1 vs s).getD 0=0∨(P1 vs s).getD 0=1:=by
 unfold bits bvF;simp only[D1s,T7,D2e,D1d]
def bothF(o:Int)(l:List Fm):Fm×Int:=
 if l.all D8=true then(if meetL (D9.intsL l) (D1.boolsL l)=true then(zeroF,15)else if D8 (.mk o 0 nilL D5 l)=true then(.mk o 0 nilL D5 l,0)else(zeroF,3))else(zeroF,2)
def nX:ByteArray:=⟨#[120]⟩
def nB:ByteArray:=⟨#[98]⟩
def fxL(k:Int)(e:Bool):Fm:=A3D ⟨[⟨nX,1⟩],k,e⟩
def fxV:Fm:=.mk 3 0 nilL nB []
def A4m:Fm:=.mk 4 0 nilL D5 [fxV]
def A1B(l:List Fm):Fm:=.mk 5 0 nilL D5 l
def fxF:Fm:=A1B [fxL (-1) false,.mk 6 0 nilL D5 [fxL (-3) true,A4m]]
def fxP:Fm:=fxL 0 false
def fxN:Fm:=normF fxF true
def fxA:Fm:=A1B [fxF,fxN]
def fxS:Fm:=A1B [fxF,A4m]
def fxVals:List VlV:=[⟨nB,0⟩,⟨nX,1⟩]
theorem A9K:E4 fxF= [38,40,120,45,49,62,61,48,44,32,124,40,120,45,51,61,48,44,32,33,63,98,41,41]:=by decide+kernel
theorem B1J:E4 fxP= [120,62,61,48]:=by decide+kernel
theorem B72:E4 fxN= [124,40,45,120,62,61,48,44,32,38,40,124,40,120,45,52,62,61,48,44,32,45,120,43,50,62,61,48,41,44,32,63,98,41,41]:=by decide+kernel
theorem Q8:D8 fxF=true∧D8 fxP=true∧D8 fxN=true∧D8 fxA=true:=by decide+kernel
theorem A4n:X1 fxF []=some true∧X1 fxA []=some false∧X1 (A1B [fxF,normF fxP true]) []=some false∧X1 (A1B [fxF,normF fxF true]) []=some false∧X1 fxS []=some true:=by decide+kernel
theorem C0f:B6f (fun more=>X1 fxS more) nX=some 1:=by decide+kernel
theorem C7a:atF fxF fxVals=(true,0):=by decide+kernel
theorem B3u:ivF fxF= [nX]∧bvF fxF= [nB]:=by decide+kernel
theorem C4T:notF fxF=(fxN,0):=by
 unfold notF;rw[if_pos Q8.1,if_pos (show D8 (normF fxF true)=true from Q8.2.2.1)];rfl
theorem B3v:meetL (D9.intsL [fxF,fxN]) (D1.boolsL [fxF,fxN])=false∧meetL (D9.intsL []) (D1.boolsL [])=false:=by decide+kernel
theorem C4U:bothF 5 [fxF,fxN]=(fxA,0):=by
 unfold bothF;rw[if_pos (by simp only[D2K,List.all_nil,Q8.1,Q8.2.2.1,Bool.and_true]),B3v.1,if_neg (by decide),if_pos (show D8 (.mk 5 0 nilL D5 [fxF,fxN])=true from Q8.2.2.2)];rfl
theorem C4V:D8 (.mk 6 0 nilL D5 [])=true:=by decide+kernel
theorem C7b:bothF 6 []=(.mk 6 0 nilL D5 [],0):=by
 unfold bothF;rw[if_pos (show List.all [] D8=true from rfl),B3v.2,if_neg (by decide),if_pos C4V]
structure RdS(H H':Heap)(br:Nat)(r:List UInt8)(bad:Bool):Prop where
 here:H' br=some (.box [.str (S r),.bool bad])
 els: ∀k,k≠br→H' k=H k
theorem RdS.set(H:Heap)(br:Nat)(r:List UInt8)(bad:Bool):RdS H (H.set br (.box [.str (S r),.bool bad])) br r bad:=⟨A3 _ _,fun _ hk=>A2 _ hk⟩
theorem RdS.trans{H j m:Heap}{br:Nat}{r o:List UInt8}{bad i:Bool}(h:RdS H j br r bad)(g:RdS j m br o i):RdS H m br o i:=⟨g.here,fun k hk=>(g.els k hk).trans (h.els k hk)⟩
theorem RdS.keep{H H':Heap}{br b:Nat}{r:List UInt8}{bad:Bool}(h:RdS H H' br r bad){o:Av.Obj}(hb:H b=some o)(i:b≠br):H' b=some o:=by rw[h.els b i];exact hb
theorem RdS.le{G H H':Heap}{br:Nat}{r:List UInt8}{bad:Bool}(h:RdS H H' br r bad)(i:G.Le H)(j:G br=none):G.Le H':=fun k o hk=>by
 rw[h.els k (fun e=>by rw[e,j]at hk;cases hk)];exact i k o hk
def tillI(r:List UInt8):Int:=Lib.indexAny r [44,41]
theorem tillI_spec: ∀r:List UInt8,(tillI r= -1∧L9 r=r∧Q6 r= [])∨(0≤tillI r∧tillI r≤r.length∧L9 r=r.take (tillI r).toNat∧Q6 r=r.drop (tillI r).toNat):=by
 intro r
 induction r with
 |nil=>exact .inl ⟨rfl,rfl,rfl⟩
 |cons c r q=>
  have e:tillI (c::r)=if [44,41].contains c=true then 0 else if(tillI r== -1)=true then-1 else tillI r+1:=rfl
  have hs: [44,41].contains c=B1A c:=by
   unfold B1A;simp only[List.contains_cons,List.contains_nil,Bool.or_false]
  rw[e,hs];cases hc:B1A c with
  |true=>
   right
   have hn:nst c=false:=by unfold nst;rw[hc];rfl
   have h:L9 (c::r)= []:=by unfold L9;rw[List.takeWhile_cons,hn];rfl
   have i:Q6 (c::r)=c::r:=by unfold Q6;rw[List.dropWhile_cons,hn];rfl
   rw[h,i];exact⟨Int.le_refl _,by simp only[if_true];omega,rfl,rfl⟩
  |false=>
   have hn:nst c=true:=by unfold nst;rw[hc];rfl
   have h:L9 (c::r)=c::L9 r:=by unfold L9;rw[List.takeWhile_cons,hn];rfl
   have i:Q6 (c::r)=Q6 r:=by unfold Q6;rw[List.dropWhile_cons,hn];rfl
   rw[h,i];simp only[D1X,if_false];rcases q with⟨h1,p,j⟩|⟨h1,p,j,u⟩
   ·left
    rw[h1,p,j];simp
   ·right
    have m:(tillI r== -1)=false:=by rw[beq_eq_false_iff_ne];omega
    have o:(tillI r+1).toNat=(tillI r).toNat+1:=by omega
    rw[m];simp only[D1X,if_false];rw[o,List.take_succ_cons,List.drop_succ_cons,←j,←u];refine⟨by omega,by simp only[D1M];omega,rfl,rfl⟩
end Go.Fo
namespace Go.Proofs.YtibphjonmikciaaGreatDoor
open Go Go.Av Go.Lexs Go.Lin Go.Fo
attribute [local irreducible] ACalls S9
open Go.RowKit in
theorem B1K{Q}(s p:ByteArray)(H:Heap)(h:Q (.tuple [.str (S (if pre (B p) (B s)=true then(B s).drop p.size else B s)),.bool (pre (B p) (B s))]) H):D7 145 [.str s,.str p] H Q:=
 J0 (by kernel_rfl) (fun w vs hl hr hs=>by
  obtain⟨a,b,rfl,j,hb⟩:=A0E hl hr;rw[j.str_inv,hb.str_inv];refine(Tryz.strings_CutPrefix s p w).mono fun e w' ⟨he,hw⟩=>?_;subst hw;have e1:Lib.hasPrefix s.data.toList p.data.toList=pre (B p) (B s):=rfl;have e2:Lib.trimPrefix s.data.toList p.data.toList=if pre (B p) (B s)=true then(B s).drop p.size else B s:=by
   have:=a7 p;rw[←this];rfl
  rw[e1,e2]at he;exact⟨_,he,Below.refl _ _,.tuple _ _ rfl fun i d hd=>(match i,hd with|0,hd=>by simp at hd;subst hd;exact .str _|1,hd=>by simp at hd;subst hd;exact .bool _|i+2,hd=>by simp at hd)⟩) h
def A6s(r:List UInt8):Prop:=∀(Q:D→Heap→Prop) (H:Heap),Q (.int .i64 (tillI r)) H→D7 146 [.str (S r),.str ⟨#[44,41]⟩] H Q
open Go.RowKit in
theorem B2l{r:List UInt8}(hr:r.length≤1000000)(p: ∀c∈r,c.toNat<128):A6s r:=fun Q H h=>
 J0 (by kernel_rfl) (fun w vs hl m q=>by
  obtain⟨a,b,rfl,o,hb⟩:=A0E hl m;rw[o.str_inv,hb.str_inv];refine(Tryz.strings_IndexAny_laid (S r) ⟨#[44,41]⟩ w (by rw[O6];omega) (by decide) (fun j b i=>p b (D1o (by rw[show (S r).data.toList=r from v8 r]at i;exact i))) (fun j b i=>by
   have hm:=D1o i;have key: ∀c∈(⟨#[44,41]⟩:ByteArray).data.toList,c.toNat<128:=by decide
   exact key b hm)).mono fun e w' ⟨he,hw⟩=>?_
  refine⟨_,he,hw,?_⟩;rw[show (S r).data.toList=r from v8 r];exact .int _ _) h
theorem A3H{Q}(br:Nat)(p:ByteArray)(r:List UInt8)(bad:Bool)(H:Heap)(hb:H br=some (.box [.str (S r),.bool bad]))(h: ∀H',RdS H H' br (if pre (B p) r=true then r.drop p.size else r) bad→Q (.bool (pre (B p) r)) H'):D7 117 [.box br 0,.str p] H Q:=by
 refine A9 [] A6 Tryz.func117 rfl ?_;simp only[go_sem,seval,Tryz.results117];have i:=fun(Q:D→Heap→Prop) (H:Heap)=>B1K (Q:=Q) (S r) p H;rw[v8]at i;repeat' (first|simp only[go_sem,seval,hb]|with_reducible refine i _ _ ?_)
 exact D2m (h _ (RdS.set _ _ _ _))
theorem B3w{Q}(br:Nat)(r:List UInt8)(bad:Bool)(hr:r.length≤1000000)(hx:A6s r)(H:Heap)(hb:H br=some (.box [.str (S r),.bool bad]))(h: ∀H',RdS H H' br (Q6 r) bad→Q (.str (S (L9 r))) H'):D7 118 [.box br 0] H Q:=by
 refine A9 [] A6 Tryz.func118 rfl ?_;simp only[go_sem,seval,Tryz.results118];have hsz:=O6 r;rcases tillI_spec r with⟨h1,m,o⟩|⟨h1,m,o,p⟩
 ·have j:=hx;unfold A6s at j;rw[h1]at j;rw[m,o]at h;have q:S (r.take r.length)=S r:=by rw[List.take_length]
  have u:S (r.drop r.length)=S []:=by rw[List.drop_length]
  repeat' (first|with_reducible apply D1H|simp only[go_sem,seval,hb,hsz]|with_reducible refine j _ _ ?_|omega)
  simp only[q,u];exact D2m (h _ (RdS.set _ _ _ _))
 ·have j:=hx;unfold A6s at j;have i: ¬tillI r<0:=by omega
  rw[o,p]at h;generalize tillI r=z at h1 m h j i;repeat' (first|with_reducible apply D1H|simp only[go_sem,seval,hb,hsz,i]|with_reducible refine j _ _ ?_|omega)
  exact D2m (h _ (RdS.set _ _ _ _))
end Go.Proofs.YtibphjonmikciaaGreatDoor
namespace Go.Fo
open Go Go.Av Go.Lexs Go.Lin
theorem A6t(w:List UInt8):l4 (M9 w).1∧(M9 w).1.t.length≤12:=by
 rw[B7d];split
 ·rename_i h;have ok:=M4 h.1;refine⟨⟨by have:=ok.len;simp only[];omega,fun t ht=>?_,fun t ht=>?_,?_⟩,ok.len⟩
  ·have:=A3E (N1 ok.t t ht).1;omega
  ·have:=(N1 ok.t t ht).2.2;unfold U3;omega
  ·have:=ok.k;unfold U3;simp only[];omega
 ·exact⟨u0,by simp[nilL]⟩
structure Sz(f:Fm)(m:Nat):Prop where
 fit:FmFit f
 wt:J9 f≤m
structure SzL(l:List Fm)(m:Nat):Prop where
 fit: ∀f∈l,FmFit f
 wt:J9.wtL l≤m
theorem C0g:Sz zeroF 1:=⟨P7 (by simp[U3]) (by simp) (by simp),by decide⟩
theorem A9L{o:Int}{l:List Fm}{m:Nat}(ho:U3 o)(h:SzL l m)(hm:m≤1000000):Sz (.mk o 0 nilL D5 l) (1+m):=
 ⟨P7 ho (by have:=B9x l;have:=h.wt;omega) h.fit,by rw[L7];simp[Fm.l,Fm.ks,nilL];exact h.wt⟩
theorem C4W{f:Fm}{m:Nat}(h:Sz f m):SzL [f] m:=⟨fun k hk=>by rw[D1i]at hk;rw[hk];exact h.fit,by simp[J9.wtL];exact h.wt⟩
theorem B3x{l:List Fm}{f:Fm}{m n:Nat}(hl:SzL l m)(h:Sz f n):SzL (l++[f]) (m+n):=⟨fun k hk=>by
 rcases D1h.1 hk with g|g
 ·exact hl.fit k g
 ·rw[D1i]at g;rw[g];exact h.fit,by rw[B3V];simp only[J9.wtL];have:=hl.wt;have:=h.wt;omega⟩
theorem A6u(m:Nat):SzL [] m:=⟨by simp,by simp[J9.wtL]⟩
theorem Sz.le{f:Fm}{m n:Nat}(h:Sz f m)(hm:m≤n):Sz f n:=⟨h.fit,D2N h.wt hm⟩
theorem SzL.le{f:List Fm}{m n:Nat}(h:SzL f m)(hm:m≤n):SzL f n:=⟨h.fit,D2N h.wt hm⟩
theorem B73(n:Int)(h:U3 n):Sz (.mk 1 n nilL D5 []) 1:=⟨.mk _ _ _ _ _ (by simp[U3]) h u0 (by decide) (by simp) (by simp),by rw[L7];simp[Fm.l,Fm.ks,nilL,J9.wtL]⟩
theorem C4X(s:ByteArray)(h:s.size≤1000000):Sz (.mk 3 0 nilL s []) 1:=⟨.mk _ _ _ _ _ (by simp[U3]) (by simp[U3]) u0 (by omega) (by simp) (by simp),by rw[L7];simp[Fm.l,Fm.ks,nilL,J9.wtL]⟩
theorem C4Y(w:List UInt8):Sz (A3D (M9 w).1) 13:=⟨A18 (A6t w).1,by have:=(A6t w).2;rw[L7];simp[Fm.l,Fm.ks,A3D,J9.wtL];omega⟩
theorem A6v(r:List UInt8):(L9 r).length+(Q6 r).length=r.length:=by
 unfold L9 Q6;rw[←D1N,List.takeWhile_append_dropWhile]
theorem A1d{p r:List UInt8}(h:pre p r=true):p.length≤r.length:=by
 unfold pre at h;exact(List.isPrefixOf_iff_prefix.1 h).length_le
theorem C0h(w:List UInt8):Sz (A7H w).1 13:=by
 unfold A7H;split
 ·exact(B73 1 (by simp[U3])).le (by omega)
 ·split
  ·exact(B73 0 (by simp[U3])).le (by omega)
  ·exact C4Y w
def C4Z(form:List UInt8→Fm×List UInt8×Bool):Prop:=∀r:List UInt8,r.length≤20000→(form r).2.1.length≤r.length∧Sz (form r).1 (14*(r.length-(form r).2.1.length)+13)
theorem B74{j:List UInt8→Fm×List UInt8×Bool}(p:C4Z j): ∀(n:Nat) (r:List UInt8) (out:List Fm) (m:Nat),r.length≤20000→SzL out m→(A08 j n r out).2.1.length≤r.length∧SzL (A08 j n r out).1 (m+14*(r.length-(A08 j n r out).2.1.length)):=by
 intro n
 induction n with
 |zero=>intro r out m hr hm;exact⟨D1b _,A6u _⟩
 |succ n q=>
  intro r out m hr hm;obtain⟨h1,o⟩:=p r hr;rw[A08];split
  ·rename_i h;have:=A1d h;simp only[D1M,D1O]at this;simp only[D1p];exact⟨by omega,(B3x hm o).le (by omega)⟩
  ·split
   ·exact⟨h1,A6u _⟩
   ·split
    ·rename_i h;have:=A1d h;simp only[D1M,D1O]at this;have i:=q ((j r).2.1.drop 2) _ _ (by rw[D1p];omega) (B3x hm o);rw[D1p]at i;exact⟨by omega,i.2.le (by omega)⟩
    ·exact⟨h1,A6u _⟩
theorem B1L{h:List UInt8→Fm×List UInt8×Bool}(i:C4Z h)(r:List UInt8)(hr:r.length≤20000):(Y0 h r).2.1.length≤r.length∧SzL (Y0 h r).1 (14*(r.length-(Y0 h r).2.1.length)):=by
 unfold Y0;split
 ·simp only[D1p];exact⟨by omega,A6u _⟩
 ·have:=B74 i (r.length+1) r [] 0 hr (A6u _);rw[Nat.zero_add]at this;exact this
theorem B1M: ∀e,C4Z (G5 e):=by
 intro e
 induction e with
 |zero=>intro r hr;exact⟨D1b _,C0g.le (by omega)⟩
 |succ e j=>
  intro r hr;rw[G5];split
  ·rename_i h;have:=A1d h;have t:=A6v (r.drop 1);rw[D1p]at t;simp only[D1M,D1O]at this;exact⟨by simp only[];omega,(C4X _ (by rw[O6];omega)).le (by omega)⟩
  ·split
   ·rename_i h;have:=A1d h;simp only[D1M,D1O]at this;have i:=j (r.drop 1) (by rw[D1p];omega);rw[D1p]at i;exact⟨by simp only[];omega,(A9L (by simp[U3]) (C4W i.2) (by omega)).le (by simp only[];omega)⟩
   ·split
    ·rename_i h;have:=A1d h;simp only[D1M,D1O]at this;have i:=B1L j (r.drop 2) (by rw[D1p];omega);rw[D1p]at i;exact⟨by simp only[];omega,(A9L (by simp[U3]) i.2 (by omega)).le (by simp only[];omega)⟩
    ·split
     ·rename_i h;have:=A1d h;simp only[D1M,D1O]at this;have i:=B1L j (r.drop 2) (by rw[D1p];omega);rw[D1p]at i;exact⟨by simp only[];omega,(A9L (by simp[U3]) i.2 (by omega)).le (by simp only[];omega)⟩
     ·have t:=A6v r;exact⟨by simp only[];omega,(C0h _).le (by omega)⟩
end Go.Fo
namespace Go.Proofs.YtibphjonmikciaaGreatDoor
open Go Go.Shelf Go.RowKit
def ApW(w w':World)(v v':Value)(n m:Nat):Prop:=
 (∃g cap,v= .slice (some ⟨g,0,none⟩) n cap∧v'= .slice (some ⟨g,0,none⟩) (n+m) cap)∨
 ((∀k,k<w.heap.size→w'.heap[k]? =w.heap[k]?)∧∀k,v'.ownBlock=some k→w.heap.size≤k)
theorem A9M{P:Program}{w:World}(t u ty e:TypeId)(i:TypeInfo)(ht:P.underlying t=some (.slice e))(A:P.underlying u=some .string)(G:P.info? e=some i)(T:i.zero=some (.int .u8 0))
  (m:i.size=1) (y:i.bytes=1) (v:Value) (n:Nat) (xs:List Value) (o:w.ownsRow 0 e 1 v n xs) (s:ByteArray) (z:n+s.size≤maxLen) (p:n+s.size≤140737488355328)
  {U:Value} {w':World} (hr:(Builtin.append_ #[t,u] ty #[v,.string s]).run P w= .ok U w'):ApW w w' v U n s.size:=by
 rcases o.2 with⟨rfl,rfl⟩|⟨g,cap,q,rfl,I,W,X,Y,J,M⟩
 ·have hx:xs= []:=D1f (by simpa using o.1);subst hx;obtain⟨v2,w2,h,h2,h3,_⟩:=Lib.run_append_own_string (P:=P) w w.heap.size t u ty e i ht A G T m y (.slice none 0 0) 0 [] (World.ownsRow_nil w _ e 1) s z p (D1b _);rw[hr]at h;cases h;refine .inr ⟨fun k hk=>h3.block k hk (by simp[Value.ownBlock]),fun k hk=>?_⟩;rcases h2.2 with⟨rfl,_⟩|⟨g,cap,q,rfl,I,_⟩
  ·simp[Value.ownBlock]at hk
  ·simp[Value.ownBlock]at hk;omega
 ·by_cases x:n+s.size≤cap
  ·have V:q.size=cap:=by simpa using J
   have h:=Lib.run_append_room_string (P:=P) w t u ty e i ht A G m g n cap q W s x (by omega);rw[hr]at h;cases h;exact .inl ⟨g,cap,rfl,rfl⟩
  ·have holds: ∀j u,xs[j]? =some u→w.cell? ((⟨g,0,none⟩:Addr).add j)=some u:=o.cells (g:=g) rfl;have O:xs.length=n:=by simpa using o.1
   have h:=Lib.run_append_grow_string (P:=P) w t u ty e i (.int .u8 0) ht A G T ⟨g,0,none⟩ n cap xs (by rw[m];simpa using O) holds s (by omega) (by simp only[maxLen]at z;omega) (by rw[y];exact growslice_fits (by omega) (by omega));rw[hr]at h;cases h;refine .inr ⟨fun k hk=>heap_alloc_old w.drew _ (r:=k) hk,fun k hk=>?_⟩;simp[Value.ownBlock]at hk;omega
theorem A2j{P:Program}{w:World}{ops:Array Oper}{rest:List Oper}{o:Oper}{a:Act}{Q:Exit→Act→World→Prop}(y:o.guard=none)(sl x:Operand)(t u:TypeId)
  (ho:o.op= .call {callee:=.builtin .append,args:= #[sl,x],argTypes:= #[t,u]})
  (e:TypeId) (i:TypeInfo) (ht:P.underlying t=some (.slice e)) (A:P.underlying u=some .string) (G:P.info? e=some i) (I:i.zero=some (.int .u8 0))
  (m:i.size=1) (q:i.bytes=1)
  (v:Value) (n:Nat) (xs:List Value) (hs:a.eval sl=v) (p:w.ownsRow 0 e 1 v n xs) (s:ByteArray) (hx:a.eval x= .string s)
  (r:n+s.size≤maxLen) (j:n+s.size≤140737488355328)
  (h: ∀v' w',w'.ownsRow 0 e 1 v' (n+s.size) (xs++Lib.strCells s)→w.grownBy w' v.ownBlock→(v'= .slice none 0 0↔v= .slice none 0 0∧s.size=0)→ApW w w' v v' n s.size→wpList P ops Q rest (a.put o.dst v') w'):wpList P ops Q (o::rest) a w:=by
 refine wpList_plain y fun K J=>?_;obtain⟨v',w',hr,M,O,T⟩:=Lib.run_append_own_string (P:=P) w 0 t u o.type e i ht A G I m q v n xs p s r j (D1c _);have z:=A9M t u o.type e i ht A G I m q v n xs p s r j hr;unfold Oper.wp execOp;simp only[ho,resolve,invoke,builtin,Sem.run_bind,Sem.run_pure,Result.andThen_ok,List.map_toArray,D2Y,List.map_nil,hs,hx,hr];exact J _ _ (h v' w' M O T z)
theorem B1N:(Tryz.prog.info? 97).map (·.size)=some 2:=by kernel_rfl
theorem B75:liesAt Tryz.prog Tryz.prog.depth 97 (2 / Tryz.prog.cellsOf 97) 0 97 1=true:=by kernel_rfl
theorem B5B:(Tryz.prog.info? 5).map (fun i=>(i.zero,i.size,i.bytes))=some (some (.int .u8 0),1,1):=by kernel_rfl
set_option maxHeartbeats 1000000 in
set_option maxRecDepth 100000 in
theorem A6w(b:Nat)(w:World)(U:w.cell? ⟨b,0,none⟩=some (.pointer (some ⟨b,0,none⟩))):
  Calls Tryz.prog 141 #[.pointer (some ⟨b,0,none⟩)] w fun e w'=>e= .returned (.tuple #[])∧w'=w:=by
 obtain⟨j,x,_⟩:=D1Q.1 B1N;have m:Tryz.prog.follows .mixedOrders=true:=by kernel_rfl
 have o:=Tryz.underlying97;have y:=Tryz.isAgg97;have z:=Tryz.sizeOf97;have A:=Tryz.zeroValue97;have G:=run_underlying o;have h:=Tryz.underlying94;have I:=Tryz.isAgg94;have J:=Tryz.sizeOf94;have M:=Tryz.zeroValue94;have O:=run_underlying h;have T:=Tryz.underlying4;have a4:=Tryz.isAgg4;have V:=Tryz.sizeOf4;have v4:=Tryz.zeroValue4;have W:=run_underlying T;have i:=Tryz.underlying197;have p:=Tryz.isAgg197;have q:=Tryz.sizeOf197;have r:=Tryz.zeroValue197;have u:=run_underlying i
 go_enter Tryz.func141,Tryz.ntmps141
 go_wp2
 rw[Lib.run_neq_ptr_same w _ h x]
 go_wp2
 go_end0
 exact⟨rfl,rfl⟩
set_option maxHeartbeats 1000000 in
set_option maxRecDepth 100000 in
theorem A5R(b:Nat)(w:World)(X:w.cell? ⟨b,0,none⟩=some (.pointer none))(m:w.shape? b=some (97,2))(A:w.frozen? ⟨b,0,none⟩=false):
  Calls Tryz.prog 141 #[.pointer (some ⟨b,0,none⟩)] w fun e w'=>e= .returned (.tuple #[])∧w'=w.setCell ⟨b,0,none⟩ (.pointer (some ⟨b,0,none⟩)):=by
 obtain⟨j,r,o⟩:=D1Q.1 B1N;have p:Tryz.prog.follows .mixedOrders=true:=by kernel_rfl
 have q:=Tryz.underlying97;have G:=Tryz.isAgg97;have I:=Tryz.sizeOf97;have J:=Tryz.zeroValue97;have M:=run_underlying q;have i:=Tryz.underlying94;have O:=Tryz.isAgg94;have T:=Tryz.sizeOf94;have U:=Tryz.zeroValue94;have V:=run_underlying i;have W:=Tryz.underlying4;have a4:=Tryz.isAgg4;have Y:=Tryz.sizeOf4;have v4:=Tryz.zeroValue4;have u4:=run_underlying W;have h:=Tryz.underlying197;have u:=Tryz.isAgg197;have x:=Tryz.sizeOf197;have y:=Tryz.zeroValue197;have z:=run_underlying h
 go_enter Tryz.func141,Tryz.ntmps141
 go_wp2
 rw[Lib.run_to_unsafe w ⟨b,0,none⟩ i h r (by rw[o];decide) m (Nat.zero_lt_succ 1)];simp only[Result.andThen];rw[Oper.upon_value]
 go_wp2
 rw[run_callFunc_extern Tryz.func175 (by kernel_rfl) (by kernel_rfl) (by kernel_rfl) (e:=Extern.AbiNoEscape.same) (by kernel_rfl)];rw[Lib.run_noEscape];simp only[Result.andThen];rw[Oper.upon_value]
 go_wp2
 rw[Lib.run_from_unsafe w ⟨b,0,none⟩ h i r m B75];simp only[Result.andThen];rw[Oper.upon_value]
 go_wp2
 go_end0
 exact⟨rfl,rfl⟩
theorem A8D{w:World}{b:Nat}{cs:Array Value}{T:TypeId}{h:Nat×Nat}(hb:w.heap[b]? =some (.cells cs T h))(j:Nat)(i: ¬(h.1≤j∧j<h.2)):w.frozen? ⟨b,j,none⟩=false:=by
 obtain⟨lo,m⟩:=h;simp only[World.frozen?,hb];simpa using i
theorem A7I(b:Nat)(p v:Value)(h:Nat×Nat)(w:World)(hp:p= .pointer none∨p= .pointer (some ⟨b,0,none⟩))(hb:w.heap[b]? =some (.cells #[p,v] 97 h))(o: ∀j,j<2→¬(h.1≤j∧j<h.2)):
  Calls Tryz.prog 141 #[.pointer (some ⟨b,0,none⟩)] w fun e w'=>e= .returned (.tuple #[])∧w'.heap[b]? =some (.cells #[.pointer (some ⟨b,0,none⟩),v] 97 h)∧w.grownBy w' (some b)∧w'.heap.size=w.heap.size:=by
 have m:w.cell? ⟨b,0,none⟩=some p:=by simp[World.cell?,hb]
 rcases hp with rfl|rfl
 ·refine(A5R b w m (by simp[World.shape?,hb]) (A8D hb 0 (o 0 (by omega)))).mono ?_;rintro e w' ⟨rfl,rfl⟩;refine⟨rfl,?_,⟨rfl,rfl,rfl,by simp[World.setCell],fun k hk i=>?_⟩,by simp[World.setCell]⟩
  ·rw[Lib.heap_setCell_same hb];rfl
  ·exact Below.heap_setCell w _ _ k (fun e=>i (by rw[e]))
 ·refine(A6w b w m).mono ?_;rintro e w' ⟨rfl,rfl⟩;exact⟨rfl,hb,⟨rfl,rfl,rfl,D1b _,fun _ _ _=>rfl⟩,rfl⟩
set_option maxHeartbeats 2000000 in
set_option maxRecDepth 100000 in
theorem A5S(b:Nat)(p v:Value)(bs:List Value)(s:ByteArray)(r:Nat×Nat)(w:World)(hp:p= .pointer none∨p= .pointer (some ⟨b,0,none⟩))(hb:w.heap[b]? =some (.cells #[p,v] 97 r))
  (hf: ∀j,j<2→¬(r.1≤j∧j<r.2)) (G:w.ownsRow 0 5 1 v bs.length bs) (I:v.ownBlock≠some b) (hlen:bs.length+s.size≤140737488355328):
  Calls Tryz.prog 114 #[.pointer (some ⟨b,0,none⟩),.string s] w fun e w'=>e= .returned (.tuple #[.int .i64 s.size,.nilIface])∧∃i m y,i.heap[b]? =some (.cells #[.pointer (some ⟨b,0,none⟩),v] 97 r)∧w.grownBy i (some b)∧i.heap.size=w.heap.size∧
   i.grownBy m v.ownBlock∧m.ownsRow 0 5 1 y (bs.length+s.size) (bs++Lib.strCells s)∧(y= .slice none 0 0↔v= .slice none 0 0∧s=ByteArray.empty)∧ApW i m v y bs.length s.size∧m.heap[b]? =some (.cells #[.pointer (some ⟨b,0,none⟩),v] 97 r)∧w'=m.setCell ⟨b,1,none⟩ y:=by
 obtain⟨i0,hi,W,X,Y⟩:=info_parts B5B;have a0:Tryz.prog.follows .mixedOrders=true:=by kernel_rfl
 have a6:=Tryz.underlying97;have b4:=Tryz.isAgg97;have b6:=Tryz.sizeOf97;have b7:=Tryz.zeroValue97;have b8:=run_underlying a6;have b0:=Tryz.underlying94;have b9:=Tryz.isAgg94;have c2:=Tryz.sizeOf94;have c5:=Tryz.zeroValue94;have c6:=run_underlying b0;have J:=Tryz.underlying95;have c7:=Tryz.isAgg95;have c8:=Tryz.sizeOf95;have c9:=Tryz.zeroValue95;have d2:=run_underlying J;have t3:=Tryz.underlying3;have a3:=Tryz.isAgg3;have z3:=Tryz.sizeOf3;have v3:=Tryz.zeroValue3;have u3:=run_underlying t3;have t9:=Tryz.underlying9;have a9:=Tryz.isAgg9;have z9:=Tryz.sizeOf9;have v9:=Tryz.zeroValue9;have u9:=run_underlying t9;have t4:=Tryz.underlying4;have a4:=Tryz.isAgg4;have z4:=Tryz.sizeOf4;have v4:=Tryz.zeroValue4;have u4:=run_underlying t4;have t5:=Tryz.underlying5;have a5:=Tryz.isAgg5;have z5:=Tryz.sizeOf5;have v5:=Tryz.zeroValue5;have u5:=run_underlying t5;have b3: ∀args w,(callFunc 141 args).run Tryz.prog w= .ok (.enter 141 args) w:=enters_of Tryz.func141 (by kernel_rfl) rfl
 go_enter Tryz.func114,Tryz.ntmps114
 go_wp2_with (go_at_fn 141;refine(A7I b p v r _ hp hb hf).mono ?_)
 rintro e i ⟨rfl,o,M,O⟩;have A:i.ownsRow 0 5 1 v bs.length bs:=G.kept M (.inr I);have c0:i.cell? ⟨b,0,none⟩=some (.pointer (some ⟨b,0,none⟩)):=by simp[World.cell?,o]
 have c1:i.cell? ⟨b,1,none⟩=some v:=by simp[World.cell?,o]
 go_wp2_with (at_builtin;refine A2j rfl _ _ 95 9 rfl 5 i0 J t9 hi W X Y _ _ _ rfl A s rfl ?c3 ?c4 ?_)
 case c3=>unfold maxLen;omega
 case c4=>omega
 intro y m h q z T;have b1:b<i.heap.size:=by
  rcases Nat.lt_or_ge b i.heap.size with h'|h'
  ·exact h'
  ·simp[Array.getElem?_eq_none h']at o
 have u:m.heap[b]? =some (.cells #[.pointer (some ⟨b,0,none⟩),v] 97 r):=by
  rw[q.block b b1 (fun e=>I e.symm)];exact o
 have d0:m.cell? ⟨b,0,none⟩=some (.pointer (some ⟨b,0,none⟩)):=by simp[World.cell?,u]
 have d1:m.cell? ⟨b,1,none⟩=some v:=by simp[World.cell?,u]
 have f1:m.frozen? ⟨b,1,none⟩=false:=A8D u 1 (hf 1 (by omega));have b2: ∃ao n' cap,y= .slice ao n' cap:=by
  rcases h.2 with⟨hv,_⟩|⟨g,cap,d3,hv,_⟩
  ·exact⟨_,_,_,hv⟩
  ·exact⟨_,_,_,hv⟩
 have fin:=(⟨i,m,y,o,M,O,q,h,z,T,u,rfl⟩: ∃U V x,U.heap[b]? =some (.cells #[.pointer (some ⟨b,0,none⟩),v] 97 r)∧w.grownBy U (some b)∧U.heap.size=w.heap.size∧
   U.grownBy V v.ownBlock∧V.ownsRow 0 5 1 x (bs.length+s.size) (bs++Lib.strCells s)∧(x= .slice none 0 0↔v= .slice none 0 0∧s=ByteArray.empty)∧ApW U V v x bs.length s.size∧V.heap[b]? =some (.cells #[.pointer (some ⟨b,0,none⟩),v] 97 r)∧m.setCell ⟨b,1,none⟩ y=V.setCell ⟨b,1,none⟩ x)
 clear h z T;obtain⟨ao,n',cap,rfl⟩:=b2
 go_wp2
 go_ret2
 exact⟨rfl,fin⟩
set_option maxHeartbeats 1000000 in
set_option maxRecDepth 100000 in
theorem A7J(b g cap:Nat)(p:Value)(h:Array Value)(l:List UInt8)(I:Nat×Nat)(w:World)(J:l≠[])(q:w.heap[b]? =some (.cells #[p,.slice (some ⟨g,0,none⟩) l.length cap] 97 I))
  (M:w.heap[g]? =some (.cells h 5 (0,0))) (W:l.length≤cap) (r:cap≤maxLen) (X:h.size=cap) (m:h.toList.take l.length=l.map fun x=>Value.int .u8 x.toNat):
  Calls Tryz.prog 69 #[.pointer (some ⟨b,0,none⟩)] w fun e w'=>e= .returned (.string ⟨l.toArray⟩)∧w'=w.drew.freeze ⟨g,0,none⟩ l.length:=by
 have Y:l.length≠0:=by simpa using J
 have c1:w.drew.cell? ⟨b,1,none⟩=some (.slice (some ⟨g,0,none⟩) l.length cap):=by
  have:w.drew.heap[b]? =some (.cells #[p,.slice (some ⟨g,0,none⟩) l.length cap] 97 I):=q;simp[World.cell?,this]
 have u:0<l.length:=by omega
 have a0:(Builtin.unsafeSliceData_ #[95] 144 #[.slice (some ⟨g,0,none⟩) l.length cap]).run Tryz.prog w.drew= .ok (.pointer (some ⟨g,0,none⟩)) w.drew:=
  Lib.run_unsafeSliceData_row _ _ _ _ _ _ (by omega)
 have i:=Tryz.underlying144;have O:=Tryz.isAgg144;have T:=Tryz.sizeOf144;have U:=Tryz.zeroValue144;have V:=run_underlying i;have a6:(Builtin.unsafeString_ #[144,3] 9 #[.pointer (some ⟨g,0,none⟩),.int .i64 l.length]).run Tryz.prog w.drew= .ok (.string ⟨l.toArray⟩) (w.drew.freeze ⟨g,0,none⟩ l.length):=by
  refine Lib.run_unsafeString_row w.drew 144 3 9 5 i (by kernel_rfl) g h.size (by have o:w.drew.heap[g]? =some (.cells h 5 (0,0)):=M;simp[World.shape?,o]) l J (by omega) (by unfold maxLen at r;omega) ?_;intro j x hx;have hj:=(D1R.1 hx).1;have o:w.drew.heap[g]? =some (.cells h 5 (0,0)):=M;have h1:(h.toList.take l.length)[j]? =some (Value.int .u8 x.toNat):=by rw[m,D1e,hx];rfl
  rw[List.getElem?_take,if_pos hj]at h1;have e1:(⟨g,0,none⟩:Addr).add j=⟨g,j,none⟩:=by unfold Addr.add;split<;>simp_all
  rw[e1,Lib.cell_of_heap o];simpa using h1
 have y:Tryz.prog.follows .mixedOrders=true:=by kernel_rfl
 have z:=Tryz.underlying97;have b0:=Tryz.isAgg97;have b1:=Tryz.sizeOf97;have b2:=Tryz.zeroValue97;have b3:=run_underlying z;have A:=Tryz.underlying94;have b4:=Tryz.isAgg94;have b6:=Tryz.sizeOf94;have b7:=Tryz.zeroValue94;have b8:=run_underlying A;have G:=Tryz.underlying95;have b9:=Tryz.isAgg95;have c0:=Tryz.sizeOf95;have c2:=Tryz.zeroValue95;have c4:=run_underlying G;have t3:=Tryz.underlying3;have a3:=Tryz.isAgg3;have z3:=Tryz.sizeOf3;have v3:=Tryz.zeroValue3;have u3:=run_underlying t3;have t9:=Tryz.underlying9;have a9:=Tryz.isAgg9;have z9:=Tryz.sizeOf9;have v9:=Tryz.zeroValue9;have u9:=run_underlying t9;have t5:=Tryz.underlying5;have a5:=Tryz.isAgg5;have z5:=Tryz.sizeOf5;have v5:=Tryz.zeroValue5;have u5:=run_underlying t5
 go_enter Tryz.func69,Tryz.ntmps69
 go_wp2
 go_region_o
 all_goals (go_wp2;go_ret;exact⟨rfl,rfl⟩)
end Go.Proofs.YtibphjonmikciaaGreatDoor
namespace Go.Proofs.YtibphjonmikciaaGreatDoor
open Go Go.Av Go.RowKit
def L4(H:Heap)(b:Nat):Option Nat→List UInt8→Heap
 |none,_=>H.set b (.box [.nilp,.nilsl] (some 97))
 |some c,bs=>(H.set b (.box [.box b 0,.vec c 1 0 bs.length] (some 97))).set c (.buf 5 bs)
structure BldOk(H:Heap)(b:Nat)(st:Option Nat)(bs:List UInt8):Prop where
 hb:H b=none
 hn:st=none→bs= []
 hs: ∀c,st=some c→c≠b∧H c=none∧bs≠[]
theorem U8{H:Heap}{b k:Nat}{st:Option Nat}{bs:List UInt8}(h1:k≠b)(h:st≠some k):L4 H b st bs k=H k:=by
 cases st with
 |none=>simp[L4,Heap.set,h1]
 |some c=>
  have:k≠c:=fun e=>h (by rw[e]);simp[L4,Heap.set,h1,this]
theorem B76{H:Heap}{b:Nat}{st:Option Nat}{bs:List UInt8}(h:BldOk H b st bs): ∃cs,L4 H b st bs b=some (.box cs (some 97)):=by
 cases st with
 |none=>exact⟨_,by simp[L4,Heap.set];rfl⟩
 |some c=>
  have i:b≠c:=Ne.symm (h.hs c rfl).1;exact⟨[.box b 0,.vec c 1 0 bs.length],by simp only[L4,Heap.set,if_neg i,if_true]⟩
theorem A2d{H:Heap}{b k:Nat}{st:Option Nat}{bs:List UInt8}(h:BldOk H b st bs)(hk:(L4 H b st bs).held k=false):k≠b∧st≠some k:=by
 constructor
 ·rintro rfl;obtain⟨cs,e⟩:=B76 h;rw[I1 e]at hk;cases hk
 ·rintro rfl;have e:L4 H b (some k) bs k=some (.buf 5 bs):=by simp[L4,Heap.set]
  rw[I1 e]at hk;cases hk
theorem B3y{H:Heap}{b:Nat}{st:Option Nat}{bs:List UInt8}{w:World}(hs:Sat (L4 H b st bs) w)(h:BldOk H b st bs):
  ∃p v A,w.heap[b]? =some (.cells #[p,v] 97 A)∧(∀j,j<2→¬(A.1≤j∧j<A.2))∧(p= .pointer none∨p= .pointer (some ⟨b,0,none⟩))∧
   w.ownsRow 0 5 1 v bs.length (bs.map fun x=>Value.int .u8 x.toNat)∧v.ownBlock=st:=by
 have q: ∀{cs:List D} {c:Array Value},cs.length=2→RowR w (L4 H b st bs) cs c→∃x y,c= #[x,y]:=fun {cs c} z hr=>by
  have i:=hr.len;obtain⟨l⟩:=c;simp only[List.size_toArray]at i
  match l,(by omega:l.length=2)with
  | [x,y],_=>exact⟨x,y,rfl⟩
 cases st with
 |none=>
  have e0:bs= []:=h.hn rfl;subst e0;obtain⟨c,T,lo,G,h1,z,i,I⟩:=box_inv (hs b (.box [.nilp,.nilsl] (some 97)) (by simp[L4,Heap.set]));have J:=I _ rfl;subst J;obtain⟨x,y,rfl⟩:=q rfl i;have r:=i.rel 0 _ rfl;have o:=i.rel 1 _ rfl;simp at r o;cases r;cases o;exact⟨_,_,(lo,G),h1,fun j M=>z j (by simpa using M),.inl rfl,World.ownsRow_nil w 0 _ 1,rfl⟩
 |some c=>
  obtain⟨O,a0,U⟩:=h.hs c rfl;obtain⟨ar,T,lo,G,h1,z,i,I⟩:=box_inv (hs b (.box [.box b 0,.vec c 1 0 bs.length] (some 97)) (by have V:b≠c:=Ne.symm O;simp only[L4,Heap.set,if_neg V,if_true]));have J:=I _ rfl;subst J;obtain⟨x,y,rfl⟩:=q rfl i;have r:=i.rel 0 _ rfl;have o:=i.rel 1 _ rfl;simp at r o;obtain⟨u,Y,g2,g3,g4⟩:=hs c (.buf 5 bs) (by simp[L4,Heap.set]);cases r;have W:bs.length≠0:=by simpa using U
  generalize hn:bs.length=n at o;cases o with
  |vec0=>exact absurd hn W
  |vec _ _ _ _ cap T m hb a6 hsz hcap=>
   have X:w.shape? c=some (5,u.size):=by simp[World.shape?,Y]
   rw[X]at hb;cases hb;subst hn;refine⟨_,_,(lo,G),h1,fun j M=>z j (by simpa using M),.inr rfl,⟨by simp,.inr ⟨c,cap,u,by simp,D1c _,Y,hcap,?_,by omega,by simpa using g4⟩⟩,rfl⟩;unfold maxLen;omega
set_option maxHeartbeats 1000000 in
theorem N8{Q}(b:Nat)(st:Option Nat)(bs:List UInt8)(s:ByteArray)(H:Heap)(r:BldOk H b st bs)(b2:s.size≠0)(hlen:bs.length+s.size≤140737488355328)
  (h: ∀c',BldOk H b (some c') (bs++B s)→Q (.tuple [.int .i64 s.size,.nilif]) (L4 H b (some c') (bs++B s))):D7 114 [.box b 0,.str s] (L4 H b st bs) Q:=by
 refine⟨by kernel_rfl,fun w vs hl hr hs=>?_⟩;obtain⟨a,x,rfl,ha,hx⟩:=A0E hl hr;rw[hx.str_inv];have ea:a= .pointer (some ⟨b,0,none⟩):=by cases ha;rfl
 rw[ea];obtain⟨p,v,fr,X,hf,hp,T,hst⟩:=B3y hs r;have b3:v.ownBlock≠some b:=by
  rw[hst];exact fun e=>(r.hs b e).1 rfl
 have Y:(bs.map fun x=>Value.int .u8 x.toNat).length=bs.length:=by simp
 refine(A5S b p v (bs.map fun x=>Value.int .u8 x.toNat) s fr w hp X hf (by rw[Y];exact T) b3 (by rw[Y];exact hlen)).mono ?_;rintro e w' ⟨rfl,w1,U,v',k1,k2,k3,k4,k5,k6,k7,k8,rfl⟩;rw[Y]at k5 k7;have c6:b<w.heap.size:=(D1g.1 X).1;have b4:s≠ByteArray.empty:=by rintro rfl;exact b2 rfl
 obtain⟨g,m,z,rfl,_,hg,b6,b7,b8,a6⟩: ∃g cap u,v'= .slice (some ⟨g,0,none⟩) (bs.length+s.size) cap∧0≤g∧U.heap[g]? =some (.cells u 5 (0,0))∧bs.length+s.size≤cap∧cap≤maxLen∧u.size=cap*1∧u.toList.take ((bs.length+s.size)*1)=(bs.map fun x=>Value.int .u8 x.toNat)++Lib.strCells s:=by
  rcases k5.2 with⟨hv,_⟩|hv
  ·exact absurd (k6.1 hv).2 b4
  ·exact hv
 --what is as_ it was
 have A: ∀k,k<w.heap.size→k≠b→st≠some k→(U.setCell ⟨b,1,none⟩ (.slice (some ⟨g,0,none⟩) (bs.length+s.size) m)).heap[k]? =w.heap[k]? :=fun k hk q y=>by
  rw[Below.heap_setCell _ _ _ k q,k4.block k (by omega) (by rw[hst];exact fun e=>y e.symm),k2.block k hk (fun e=>q (Option.some.inj e))]
 have a0:st=some g∨w.heap.size≤g:=by
  rcases k7 with⟨g',cap,e1,e2⟩|⟨_,e2⟩
  ·cases e2
   left
   rw[←hst,e1];rfl
  ·right
   have:=e2 g rfl;omega
 have J:g≠b:=by
  rintro rfl;rcases a0 with e|e
  ·exact(r.hs g e).1 rfl
  ·omega
 have b9:H g=none:=by
  rcases a0 with e|e
  ·exact(r.hs g e).2.1
  ·have:=hs.fresh e;rw[U8 J (fun e'=>by
    obtain⟨x,hx⟩: ∃x,L4 H b st bs g=some x:=⟨_,by rw[e'];simp[L4,Heap.set];rfl⟩
    rw[this]at hx;cases hx)]at this
   exact this
 have c7:B s=s.data.toList:=rfl;have M:(bs++B s).length=bs.length+s.size:=by rw[D1N,a7]
 have a9:BldOk H b (some g) (bs++B s):=⟨r.hb,(fun e=>by cases e),fun c e=>by
  cases e;exact⟨J,b9,fun e=>by
   have h3:=congrArg List.length e;rw[M,D1O]at h3;omega⟩⟩
 have V:(U.setCell ⟨b,1,none⟩ (.slice (some ⟨g,0,none⟩) (bs.length+s.size) m)).heap[b]? =some (.cells #[.pointer (some ⟨b,0,none⟩),.slice (some ⟨g,0,none⟩) (bs.length+s.size) m] 97 fr):=by
  rw[Lib.heap_setCell_same k8];rfl
 have G:(U.setCell ⟨b,1,none⟩ (.slice (some ⟨g,0,none⟩) (bs.length+s.size) m)).heap[g]? =some (.cells z 5 (0,0)):=by
  rw[Below.heap_setCell _ _ _ g J];exact hg
 have W:Ext (L4 H b st bs) w (U.setCell ⟨b,1,none⟩ (.slice (some ⟨g,0,none⟩) (bs.length+s.size) m)):=by
  refine⟨k4.os.trans k2.os,k4.tape.trans k2.tape,k4.output.trans k2.output,by have:=k4.size;have:=k2.size;simp[World.setCell];omega,fun k hk hn=>A k hk (A2d r hn).1 (A2d r hn).2,fun k hk=>?_⟩;by_cases q:k=b
  ·subst q;simp[World.shape?,V,X]
  ·by_cases y:st=some k
   ·
    obtain⟨c,cap,u,e1,_,e2,e3,e4,e5,e6⟩: ∃g cap u,v= .slice (some ⟨g,0,none⟩) bs.length cap∧0≤g∧w.heap[g]? =some (.cells u 5 (0,0))∧bs.length≤cap∧cap≤maxLen∧u.size=cap*1∧u.toList.take (bs.length*1)=bs.map fun x=>Value.int .u8 x.toNat:=by
     rcases T.2 with⟨hv,_⟩|hv
     ·rw[hv,y]at hst;cases hst
     ·exact hv
    have c0:c=k:=by rw[e1,y]at hst;simpa [Value.ownBlock]using hst
    subst c0;rcases k7 with⟨g',c5,f1,f2⟩|⟨f1,f2⟩
    ·rw[e1]at f1;cases f1;cases f2;simp[World.shape?,G,e2,b8,e5]
    ·have h1:(U.setCell ⟨b,1,none⟩ (.slice (some ⟨g,0,none⟩) (bs.length+s.size) m)).heap[c]? =w.heap[c]? :=by
      rw[Below.heap_setCell _ _ _ c q,f1 c (by omega),k2.block c hk (fun e=>q (Option.some.inj e))]
     unfold World.shape?;rw[h1]
   ·unfold World.shape?;rw[A k hk q y]
 have I:From w (L4 H b st bs) (L4 H b (some g) (bs++B s)):=fun k hk hn=>by
  obtain⟨n1,n2⟩:=A2d r hn;have O:k≠g:=by
   rintro rfl;rcases a0 with e|e
   ·exact n2 e
   ·omega
  rw[l9 (H:=H) (U8 n1 (fun e=>O (Option.some.inj e).symm))];rwa [l9 (H:=H) (U8 n1 n2)]at hn
 have b0:z.toList.take (bs++B s).length=(bs++B s).map fun x=>Value.int .u8 x.toNat:=by
  rw[M];have:(bs.length+s.size)*1=bs.length+s.size:=by omega
  rw[this]at a6;rw[a6,D2H];rfl
 have b1:Sat (L4 H b (some g) (bs++B s)) (U.setCell ⟨b,1,none⟩ (.slice (some ⟨g,0,none⟩) (bs.length+s.size) m)):=by
  intro k o ho;by_cases O:k=g
  ·subst O;have:o= .buf 5 (bs++B s):=by
    have e:L4 H b (some k) (bs++B s) k=some (.buf 5 (bs++B s)):=by simp[L4,Heap.set]
    rw[e]at ho;exact(Option.some.inj ho).symm
   subst this;exact⟨z,G,by rw[M];omega,by unfold maxLen at b7;omega,b0⟩
  ·by_cases q:k=b
   ·subst q;have:o= .box [.box k 0,.vec g 1 0 (bs++B s).length] (some 97):=by
     have e:L4 H k (some g) (bs++B s) k=some (.box [.box k 0,.vec g 1 0 (bs++B s).length] (some 97)):=by have c2:k≠g:=Ne.symm J;simp only[L4,Heap.set,if_neg c2,if_true]
     rw[e]at ho;exact(Option.some.inj ho).symm
    subst this;obtain⟨lo,hi⟩:=fr;refine A4F (fun t e=>by cases e;rfl) V (fun j hj=>hf j (by simpa using hj)) ⟨rfl,fun i d hd=>?_,fun i d hd=>?_⟩
    ·match i,hd with
     |0,hd=>cases hd;rfl
     |1,hd=>cases hd;rfl
     |i+2,hd=>simp at hd
    ·match i,hd with
     |0,hd=>cases hd;exact .box k 0
     |1,hd=>
      cases hd;rw[M];have hv:=R.vec (w:=U.setCell ⟨k,1,none⟩ (.slice (some ⟨g,0,none⟩) (bs.length+s.size) m)) (H:=L4 H k (some g) (bs++B s)) g 1 0 (bs.length+s.size) m 5 z.size (by simp[World.shape?,G]) (by omega) (by omega) b6;simpa using hv
     |i+2,hd=>simp at hd
   ·have e1:L4 H b (some g) (bs++B s) k=H k:=U8 q (fun e=>O (Option.some.inj e).symm);rw[e1]at ho;have y:st≠some k:=fun e=>by rw[(r.hs k e).2.1]at ho;cases ho
    have e2:L4 H b st bs k=H k:=U8 q y;have c4:=hs k o (by rw[e2];exact ho);exact c4.mono W I (A k (hs.lt (by rw[e2];exact ho)) q y)
 refine⟨_,rfl,.tuple [.int .i64 s.size,.nilif],_,.tuple _ _ rfl (fun i d hd=>?_),b1,W,I,h g a9⟩
 match i,hd with
 |0,hd=>cases hd;exact .int _ _
 |1,hd=>cases hd;exact .nilif
 |i+2,hd=>simp at hd
theorem A4o{w:World}{g n k:Nat}(h:k≠g):(w.freeze ⟨g,0,none⟩ n).heap[k]? =w.heap[k]? :=by
 unfold World.freeze;split
 ·rfl
 ·simp[Array.getElem?_modify,Ne.symm h]
theorem B1O(w:World)(a:Addr)(n:Nat):(w.freeze a n).heap.size=w.heap.size:=by
 unfold World.freeze;split
 ·rfl
 ·exact Array.size_modify
theorem A9N(w:World)(a:Addr)(n k:Nat):(w.freeze a n).shape? k=w.shape? k:=by
 unfold World.freeze;split
 ·rfl
 ·unfold World.shape?;simp only[Array.getElem?_modify];by_cases h:a.block=k
  ·rw[if_pos h];cases hk:w.heap[k]? with
   |none=>rfl
   |some o=>cases o<;>rfl
  ·rw[if_neg h]
theorem B1P{Q}(b c:Nat)(bs:List UInt8)(H:Heap)(m:BldOk H b (some c) bs)(h:Q (.str (S bs)) H):D7 69 [.box b 0] (L4 H b (some c) bs) Q:=by
 refine⟨by kernel_rfl,fun w vs hl hr hs=>?_⟩;obtain⟨a,rfl,J⟩:=A1z hl hr;have M:a= .pointer (some ⟨b,0,none⟩):=by cases J;rfl
 rw[M];obtain⟨p,v,O,A,W,hp,u,hst⟩:=B3y hs m;obtain⟨T,y,G⟩:=m.hs c rfl;obtain⟨g,cap,i,rfl,_,e2,e3,U,e5,V⟩: ∃g cap i,v= .slice (some ⟨g,0,none⟩) bs.length cap∧0≤g∧w.heap[g]? =some (.cells i 5 (0,0))∧bs.length≤cap∧cap≤maxLen∧i.size=cap*1∧i.toList.take (bs.length*1)=bs.map fun x=>Value.int .u8 x.toNat:=by
  rcases u.2 with⟨hv,_⟩|hv
  ·rw[hv]at hst;cases hst
  ·exact hv
 have I:g=c:=by simpa [Value.ownBlock]using hst
 subst I;refine(A7J b g cap p i bs O w G A e2 e3 U (by omega) (by simpa using V)).mono ?_;rintro e w' ⟨rfl,rfl⟩;have q: ∀k,k≠g→(w.drew.freeze ⟨g,0,none⟩ bs.length).heap[k]? =w.heap[k]? :=fun k hk=>by rw[A4o hk];rfl
 have r:Ext (L4 H b (some g) bs) w (w.drew.freeze ⟨g,0,none⟩ bs.length):=by
  refine⟨by unfold World.freeze;split<;>rfl,by unfold World.freeze;split<;>rfl,by unfold World.freeze;split<;>rfl,by rw[B1O];exact D1b _,fun k hk hn=>q k (fun e=>(A2d m hn).2 (by rw[e])),fun k hk=>?_⟩;rw[A9N];rfl
 have z:H.Le (L4 H b (some g) bs):=fun k o ho=>by
  rw[U8 (fun e=>by rw[e,m.hb]at ho;cases ho) (fun e=>by rw[←Option.some.inj e,y]at ho;cases ho)];exact ho
 have j:From w (L4 H b (some g) bs) H:=fun k hk hn=>z.held hn;refine⟨_,rfl,.str (S bs),H,.str _,fun k o ho=>?_,r,j,h⟩;have h1:=z k o ho;refine(hs k o h1).mono r j (q k fun e=>?_);rw[e,y]at ho;cases ho
end Go.Proofs.YtibphjonmikciaaGreatDoor
namespace Go.Proofs.YtibphjonmikciaaGreatDoor
open Go Go.Av
attribute [local irreducible] ACalls S9
theorem A31{H:Heap}{b i:Nat}{st:Option Nat}{bs:List UInt8}{o:Av.Obj}(h:L4 H b st bs i=none)(j:BldOk H b st bs):(L4 H b st bs).set i o=L4 (H.set i o) b st bs∧BldOk (H.set i o) b st bs∧H i=none:=by
 have h1:i≠b:=by
  rintro rfl;obtain⟨cs,e⟩:=B76 j;rw[h]at e;cases e
 have m:st≠some i:=by
  rintro rfl;have e:L4 H b (some i) bs i=some (.buf 5 bs):=by simp[L4,Heap.set]
  rw[h]at e;cases e
 rw[U8 h1 m]at h;refine⟨?_,⟨by rw[A2 _ (Ne.symm h1)];exact j.hb,j.hn,fun c e=>?_⟩,h⟩
 ·funext k
  cases st with
  |none=>
   simp only[L4,Heap.set];by_cases e1:k=i
   ·subst e1;simp[h1]
   ·simp[e1]
  |some c=>
   have p:i≠c:=fun e=>m (by rw[e]);simp only[L4,Heap.set];by_cases e1:k=i
   ·subst e1;simp[h1,p]
   ·simp[e1]
 ·obtain⟨q,r,u⟩:=j.hs c e;exact⟨q,by rw[A2 _ (fun e'=>m (by rw[e,e']))];exact r,u⟩
theorem A5j{H H':Heap}{b:Nat}{st:Option Nat}{bs:List UInt8}(h:H.Le H'):(L4 H b st bs).Le (L4 H' b st bs):=by
 intro k o hk;cases st with
 |none=>
  simp only[L4,Heap.set]at hk⊢;split
  ·rename_i e;rw[if_pos e]at hk;exact hk
  ·rename_i e;rw[if_neg e]at hk;exact h k o hk
 |some c=>
  simp only[L4,Heap.set]at hk⊢;split
  ·rename_i e;rw[if_pos e]at hk;exact hk
  ·rename_i e;rw[if_neg e]at hk;split
   ·rename_i e;rw[if_pos e]at hk;exact hk
   ·rename_i e;rw[if_neg e]at hk;exact h k o hk
theorem BldOk.less{H H':Heap}{b:Nat}{st:Option Nat}{bs:List UInt8}(h:BldOk H' b st bs)(hl:H.Le H'):BldOk H b st bs:=⟨hl.none h.hb,h.hn,fun c e=>⟨(h.hs c e).1,hl.none (h.hs c e).2.1,(h.hs c e).2.2⟩⟩
theorem A2e{H:Heap}{b:Nat}{st:Option Nat}{bs:List UInt8}(h:BldOk H b st bs):H.Le (L4 H b st bs):=fun k o ho=>by
 rw[U8 (fun e=>by rw[e,h.hb]at ho;cases ho) (fun e=>by rw[(h.hs k e).2.1]at ho;cases ho)];exact ho
end Go.Proofs.YtibphjonmikciaaGreatDoor
