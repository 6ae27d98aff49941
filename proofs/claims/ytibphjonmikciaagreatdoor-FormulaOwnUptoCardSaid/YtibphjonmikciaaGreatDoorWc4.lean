/- Part of the proof: what the last text builds on. No condition stands here. -/
import Derived.Test.YtibphjonmikciaaGreatDoorProg
import Derived.Test.YtibphjonmikciaaGreatDoorRows
import Derived.Test.YtibphjonmikciaaGreatDoorCards
import Derived.Test.YtibphjonmikciaaGreatDoorTie
import Derived.Test.YtibphjonmikciaaGreatDoorWc3
set_option linter.unusedSimpArgs false
set_option linter.unusedVariables false
set_option maxRecDepth 20000
namespace Go.Lin
open Go Go.Av
def L8:Option Nat→Int
 |none=> -1
 |some j=>j
def B92(c:List Int)(x:Int):Option Nat→Bool
 |none=>true
 |some j=>decide (x.natAbs<(W3 c j).natAbs)
def M3(c:List Int):Nat→Option Nat
 |0=>none
 |i+1=>if W3 c i≠0∧B92 c (W3 c i) (M3 c i)=true then some i else M3 c i
theorem A2b(c:List Int): ∀(i j:Nat),M3 c i=some j→j<i
 |0,j,h=>by simp[M3]at h
 |i+1,j,h=>by
  rw[M3]at h;split at h
  ·simp at h;omega
  ·have:=A2b c i j h;omega
theorem B0q(c:List Int)(x:Int)(l:List Int)(i:Nat)(b:Option Nat):A6W c (x::l) i b=A6W c l (i+1) (if x≠0∧B92 c x b=true then some i else b):=by
 cases b<;>rfl
theorem B0r(c:List Int): ∀(l:List Int) (i:Nat),i≤c.length→l=c.drop i→A6W c l i (M3 c i)=M3 c c.length
 | [],i,m,h=>by
  have:c.length≤i:=by
   have:=congrArg List.length h;simp at this;omega
  rw[show i=c.length by omega];rfl
 |x::l,i,m,h=>by
  have j:i<c.length:=by
   have:=congrArg List.length h;simp at this;omega
  rw[D1m j]at h;simp only[List.cons.injEq]at h;have e:W3 c i=x:=by simp[W3,j,h.1]
  rw[B0q,←B0r c l (i+1) (by omega) h.2,M3,e]
theorem A6a(r:Row):A4Y r=M3 r.c r.c.length:=B0r r.c r.c 0 (D1c _) rfl
theorem H9(c:List Int)(i:Nat)(h:i<c.length):W3 c i=c[i]:=by simp[W3,h]
theorem A4f{p:Row→Bool}(l:List Row)(i:Nat)(h:i<l.length):(l.take (i+1)).filter p=(l.take i).filter p++if p l[i]=true then [l[i]]else []:=by
 rw[D1a h,List.filter_append]
 congr 1
 by_cases c:p l[i]=true
 ·rw[if_pos c];simp[c]
 ·rw[if_neg c];simp[c]
theorem W8{p:Row→Bool}(l:List Row):(l.filter p).length≤l.length:=List.length_filter_le _ _
end Go.Lin
namespace Go.Proofs.YtibphjonmikciaaGreatDoor
open Go Go.Av Go.Lin
attribute [local irreducible] ACalls S9
theorem B93{Q}(r:Row)(hlen:r.c.length≤1000000)(hr:A5N r 18446744073709551616)(H:Heap)(h:Q (.int .i64 (L8 (A4Y r))) H):D7 252 [.agg (C6 r)] H Q:=by
 refine A9 [(5,.par)] A6 Tryz.func252 rfl ?_;simp only[go_sem,seval,Tryz.results252];intro o I;have e1:(H.set o (.box (C6 r))) o=some (.box (C6 r)):=A3 _ _;have G:H.Le (H.set o (.box (C6 r))):=A0 I;generalize H.set o (.box (C6 r))=Bs at e1 G⊢;have t0:L8 (M3 r.c 0)= -1:=rfl;repeat' (first|with_reducible apply D1H|simp only[go_sem,seval,e1]|simp(disch:=omega) only[A4,B3,H9]|simp(disch:=first|omega|grind) only[A8]|intro q|omega)
 rw[←t0];refine C8 [1,7,8] (fun(i:Nat)=>[(9,.int .i64 i),(3,.int .i64 (L8 (M3 r.c i)))]) (fun(i:Nat)=>Bs) (fun(i:Nat)=>i≤r.c.length) (fun(i:Nat)=>r.c.length-i) (0) (D1c _) (by(try simp only[go_sem,seval])<;>(try simp(disch:=omega) [A4])) (by first|exact D2i _|exact A0 (by assumption)|exact B9 (by assumption)|simp only[Heap.Le,Heap.set,Heap.del]at* <;>grind) ?_;rintro Ec rfl i hi;by_cases u:i<r.c.length
 ·have A:decide ((i:Int)<r.c.length)=true:=D1J (by omega);have J:(i:Int)<r.c.length:=by omega
  have a1:=hr.2 _ (D1V u);have sa:Sz r.c[i]:=H6 (by omega);have M:Sz ((r.c[i].natAbs:Nat):Int):=H6 (by omega);have O:M3 r.c (i+1)=if r.c[i]≠0∧B92 r.c r.c[i] (M3 r.c i)=true then some i else M3 r.c i:=by rw[M3,H9 _ _ u]
  repeat' (first|with_reducible apply D1H|simp only[go_sem,seval,A,e1,J,B3 _ _ u,C3 _ _ u]|intro q|omega)
  rename_i b5;have h5:=q;clear q;have Y:o≠b5:=fun e=>by rw[e,h5]at e1;cases e1
  have T:o∈[o,b5]:=by simp
  have U:b5∈[o,b5]:=by simp
  by_cases hx:r.c[i]=0
  ·have m:M3 r.c (i+1)=M3 r.c i:=by rw[O,if_neg (fun g=>g.1 hx)]
   have x:r.c[i].sign=0:=by rw[hx];rfl
   refine F9 (fun z=>if z=1 then .int .i64 0 else .undef) [o,b5] ?_;repeat' (first|simp only[go_sem,seval,e1,T,U,decide_true,D2f]|simp(disch:=omega) only[A4,B3,H9]|with_reducible refine R5 (fun H' Q hro hq=>L3 r.c[i] H' (by rw[x];exact hq)) ?_)
   refine C4 (i+1) (by omega) (by omega) (by(try simp only[go_sem,seval,m])<;>(try simp(disch:=omega) [A4])) (A0 h5)
  ·have x: ¬(r.c[i].sign=0):=fun g=>hx (Int.sign_eq_zero_iff_zero.1 g);cases hb:M3 r.c i with
   |none=>
    have m:M3 r.c (i+1)=some i:=by rw[O,hb,if_pos ⟨hx,rfl⟩]
    have p:L8 (M3 r.c (i+1))=i:=by rw[m];rfl
    have V:L8 none= -1:=rfl;refine F9 (fun z=>if z=1 then .int .i64 r.c[i].sign else .undef) [o,b5] ?_;repeat' (first|simp only[go_sem,seval,e1,T,U,x,hb,V,decide_true,decide_false,D2f,D2g]|simp(disch:=omega) only[A4,B3,H9]|with_reducible refine R5 (fun H' Q hro hq=>L3 r.c[i] H' hq) ?_)
    refine C4 (i+1) (by omega) (by omega) (by(try simp only[go_sem,seval,p])<;>(try simp(disch:=omega) [A4])) (A0 h5)
   |some j=>
    have hj:=A2b _ _ _ hb;have y:j<r.c.length:=by omega
    have W:(j:Int)<r.c.length:=by omega
    have a2:=hr.2 _ (D1V y);have sb:Sz ((r.c[j].natAbs:Nat):Int):=H6 (by omega);have m:M3 r.c (i+1)=if r.c[i].natAbs<r.c[j].natAbs then some i else some j:=by
     rw[O,hb,B92,H9 _ _ y];by_cases g:r.c[i].natAbs<r.c[j].natAbs
     ·rw[if_pos ⟨hx,D1J g⟩,if_pos g]
     ·rw[if_neg (fun k=>g (D1I k.2)),if_neg g]
    have V:L8 (some j)=j:=rfl;have oj: ¬((j:Int)<0):=by omega
    refine F9 (fun z=>if z=1 then .int .i64 r.c[i].sign else if z=8 then .agg (C5 (r.c[i].natAbs:Nat))else if z=14 then .agg (C5 (r.c[j].natAbs:Nat))else if z=15 then .bool (decide (((r.c[i].natAbs:Nat):Int)<((r.c[j].natAbs:Nat):Int)))else .undef) [o,b5] ?_;repeat' (first|with_reducible apply D1H|simp only[go_sem,seval,e1,T,U,x,hb,V,oj,W,B3 _ _ y,C3 _ _ y,decide_true,decide_false,D2f,D2g]|simp(disch:=omega) only[A4,B3,H9]|simp(disch:=first|omega|grind) only[A8]|intro q|with_reducible refine R5 (fun H' Q hro hq=>L3 r.c[i] H' hq) ?_|with_reducible refine R5 (fun H' Q hro hq=>B6o r.c[i] H' hq) ?_|with_reducible refine R5 (fun H' Q hro hq=>B6o r.c[j] H' hq) ?_|with_reducible refine R5 (fun H' Q hro hq=>B3T _ _ M sb H' hq) ?_|omega)
    ·have g:r.c[i].natAbs<r.c[j].natAbs:=by omega
     rw[if_pos g]at m;have p:L8 (M3 r.c (i+1))=i:=by rw[m];rfl
     refine C4 (i+1) (by omega) (by omega) (by(try simp only[go_sem,seval,p])<;>(try simp(disch:=omega) [A4])) (A0 h5)
    ·have g: ¬r.c[i].natAbs<r.c[j].natAbs:=by omega
     rw[if_neg g]at m;have p:L8 (M3 r.c (i+1))=j:=by rw[m];rfl
     refine C4 (i+1) (by omega) (by omega) (by(try simp only[go_sem,seval,p])<;>(try simp(disch:=omega) [A4])) (A0 h5)
 ·have A:decide ((i:Int)<r.c.length)=false:=D1K (by omega);have X:i=r.c.length:=by omega
  subst X;rw[A6a]at h;repeat' simp only[go_sem,seval,A]
  exact D2j G h
theorem B3X{Q}(l:List Row)(k:Nat)(hlen:l.length≤1000000)(hk: ∀r∈l,k<r.c.length)(H:Heap)
  (h: ∀ob,(ob=none→U6 l k= [])→(∀b,ob=some b→H b=none)→Q (.tuple [.sl 4 (Rw C6 (I9 l k)),.sl 4 (Rw C6 (G2 l k)),H8 4 (U6 l k).length ob]) (putB H 4 (Rw C6 (U6 l k)) ob)):
  D7 260 [.sl 4 (Rw C6 l),.int .i64 (k:Int)] H Q:=by
 refine A9 [] A6 Tryz.func260 rfl ?_;simp only[go_sem,seval,Tryz.results260];have V:D.nilsl=H8 4 (I9 (l.take 0) k).length none:=rfl;have W:D.nilsl=H8 4 (G2 (l.take 0) k).length none:=rfl;have X:D.nilsl=H8 4 (U6 (l.take 0) k).length none:=rfl;repeat' (first|with_reducible apply D1H|simp only[go_sem,seval]|simp(disch:=omega) only[A4,B3,H9]|(intro j;try simp only[A5]at j)|omega)
 refine C8 [1,9,10] (fun(p:Nat×Option Nat×Option Nat×Option Nat×Heap)=>[(11,.int .i64 p.1),(4,H8 4 (I9 (l.take p.1) k).length p.2.1),(5,H8 4 (G2 (l.take p.1) k).length p.2.2.1),(6,H8 4 (U6 (l.take p.1) k).length p.2.2.2.1)]) (fun(p:Nat×Option Nat×Option Nat×Option Nat×Heap)=>p.2.2.2.2) (fun(p:Nat×Option Nat×Option Nat×Option Nat×Heap)=>p.1≤l.length∧O3 H p.2.2.2.2 4 (Rw C6 (I9 (l.take p.1) k)) (Rw C6 (G2 (l.take p.1) k)) (Rw C6 (U6 (l.take p.1) k)) p.2.1 p.2.2.1 p.2.2.2.1) (fun(p:Nat×Option Nat×Option Nat×Option Nat×Heap)=>l.length-p.1) ((0,none,none,none,H)) (⟨D1c _,O3.nil H 4⟩) (by(try simp only[go_sem,seval])<;>(try simp(disch:=omega) [A4])) (by first|exact D2i _|exact A0 (by assumption)|exact B9 (by assumption)|simp only[Heap.Le,Heap.set,Heap.del]at* <;>grind) ?_;rintro Y rfl ⟨i,o1,o2,o3,Hp⟩ ⟨O,q⟩;simp only at O q;by_cases m:i<l.length
 ·have u:decide ((i:Int)<l.length)=true:=D1J (by omega);have T:(i:Int)<l.length:=by omega
  have o:=hk _ (D1V m);have I:(k:Int)<l[i].c.length:=by omega
  have U:=H9 l[i].c k o;have f1:=A4f (p:=fun r=>decide (0<W3 r.c k)) l i m;have f2:=A4f (p:=fun r=>decide (W3 r.c k<0)) l i m;have f3:=A4f (p:=fun r=>decide (W3 r.c k=0)) l i m;simp only[U,D1d]at f1 f2 f3;change I9 (l.take (i+1)) k=I9 (l.take i) k++_ at f1;change G2 (l.take (i+1)) k=G2 (l.take i) k++_ at f2;change U6 (l.take (i+1)) k=U6 (l.take i) k++_ at f3;have l1:(I9 (l.take i) k).length≤1000000:=D2N (W8 _) (by rw[D1z];omega);have l2:(G2 (l.take i) k).length≤1000000:=D2N (W8 _) (by rw[D1z];omega);have l3:(U6 (l.take i) k).length≤1000000:=D2N (W8 _) (by rw[D1z];omega);rcases Int.lt_trichotomy l[i].c[k] 0 with c|c|c
  ·have s:l[i].c[k].sign= -1:=Int.sign_eq_neg_one_of_neg c;rw[if_neg (by omega),D16]at f1;rw[if_pos c]at f2;rw[if_neg (by omega),D16]at f3;repeat' (first|with_reducible apply D1H|simp only[go_sem,seval,u,B3 _ _ m,C3 _ _ m,B3 _ _ o,C3 _ _ o,I,s]|(intro j;try simp only[A5]at j)|with_reducible refine L3 _ _ ?_|omega)
   rename_i z A bx;have x:=j;clear j;refine A6N (P:=Tryz.prog) (H0:=Hp.set z (.box (C6 l[i]))) (es:=Rw C6 (G2 (l.take i) k)) (by rw[A5];exact x) (by simp) (q.a2.up (A0 A)) (by rw[D6]) (by simp only[D1M,D1O];omega) (by simp only[D1M,D1O];omega) fun G H' J=>?_;repeat' (first|simp only[go_sem,seval]|simp(disch:=omega) only[A4,B3,H9])
   have y:Apd (Hp.set z (.box (C6 l[i]))) 4 o2 (Rw C6 (G2 (l.take (i+1)) k)) G H':=by rw[f2,←O7];exact J
   refine C4 (i+1,o1,some G,o3,H') ⟨by simp only[];omega,?_⟩ (by simp only[];omega) (by(try simp only[go_sem,seval,f1,f2,f3,D1N,L2])<;>(try simp(disch:=omega) [A4])) (D2i _);simp only[];have:=q.app2 (A0 A) y;rw[f1,f3];exact this
  ·have s:l[i].c[k].sign=0:=(by rw[c];rfl)
   rw[if_neg (by omega),D16]at f1;rw[if_neg (by omega),D16]at f2;rw[if_pos c]at f3;repeat' (first|with_reducible apply D1H|simp only[go_sem,seval,u,B3 _ _ m,C3 _ _ m,B3 _ _ o,C3 _ _ o,I,s]|(intro j;try simp only[A5]at j)|with_reducible refine L3 _ _ ?_|omega)
   rename_i z A bx;have x:=j;clear j;refine A6N (P:=Tryz.prog) (H0:=Hp.set z (.box (C6 l[i]))) (es:=Rw C6 (U6 (l.take i) k)) (by rw[A5];exact x) (by simp) (q.a3.up (A0 A)) (by rw[D6]) (by simp only[D1M,D1O];omega) (by simp only[D1M,D1O];omega) fun G H' J=>?_;repeat' (first|simp only[go_sem,seval]|simp(disch:=omega) only[A4,B3,H9])
   have y:Apd (Hp.set z (.box (C6 l[i]))) 4 o3 (Rw C6 (U6 (l.take (i+1)) k)) G H':=by rw[f3,←O7];exact J
   refine C4 (i+1,o1,o2,some G,H') ⟨by simp only[];omega,?_⟩ (by simp only[];omega) (by(try simp only[go_sem,seval,f1,f2,f3,D1N,L2])<;>(try simp(disch:=omega) [A4])) (D2i _);simp only[];have:=q.app3 (A0 A) y;rw[f1,f2];exact this
  ·have s:l[i].c[k].sign=1:=Int.sign_eq_one_of_pos c;rw[if_pos c]at f1;rw[if_neg (by omega),D16]at f2;rw[if_neg (by omega),D16]at f3;repeat' (first|with_reducible apply D1H|simp only[go_sem,seval,u,B3 _ _ m,C3 _ _ m,B3 _ _ o,C3 _ _ o,I,s]|(intro j;try simp only[A5]at j)|with_reducible refine L3 _ _ ?_|omega)
   rename_i z A bx;have x:=j;clear j;refine A6N (P:=Tryz.prog) (H0:=Hp.set z (.box (C6 l[i]))) (es:=Rw C6 (I9 (l.take i) k)) (by rw[A5];exact x) (by simp) (q.a1.up (A0 A)) (by rw[D6]) (by simp only[D1M,D1O];omega) (by simp only[D1M,D1O];omega) fun G H' J=>?_;repeat' (first|simp only[go_sem,seval]|simp(disch:=omega) only[A4,B3,H9])
   have y:Apd (Hp.set z (.box (C6 l[i]))) 4 o1 (Rw C6 (I9 (l.take (i+1)) k)) G H':=by rw[f1,←O7];exact J
   refine C4 (i+1,some G,o2,o3,H') ⟨by simp only[];omega,?_⟩ (by simp only[];omega) (by(try simp only[go_sem,seval,f1,f2,f3,D1N,L2])<;>(try simp(disch:=omega) [A4])) (D2i _);simp only[];have:=q.app1 (A0 A) y;rw[f2,f3];exact this
 ·have u:decide ((i:Int)<l.length)=false:=D1K (by omega);rw[D1W (by omega)]at q;have e1:l.take i=l:=D1W (by omega);repeat' simp only[go_sem,seval,u,e1]
  have M:=q.last;refine Fin.out1 (by rw[D6]) q.a1 (B5Q (by rw[D6]) M.2 (D2j M.1 (h o3 (fun e=>?_) q.n3)));have:=q.a3;rw[e]at this;have this:Rw C6 (U6 l k)= []:=this;exact D1f (by rw[←D6 (f:=C6),this];rfl)
end Go.Proofs.YtibphjonmikciaaGreatDoor
namespace Go.Lin
open Go Go.Av
theorem O3.one{H Hp:Heap}{sz:Nat}{e1:List (List D)}{o1:Option Nat}(h:O3 H Hp sz e1 [] [] o1 none none):H.Le (I3 Hp o1):=by
 have:=h.last.1;exact fun k o hk=>this k o hk
theorem A6b{α β :Type}(f: α → β)(l:List α)(i:Nat)(h:i<l.length):(l.take (i+1)).map f=(l.take i).map f++[f l[i]]:=by
 rw[D1a h,D2H];rfl
theorem A9B{α β :Type}(f: α → β)(l:List α)(i:Nat)(h:i≤l.length):((l.take i).map f).length=i:=by rw[D10,D1z];omega
end Go.Lin
namespace Go.Proofs.YtibphjonmikciaaGreatDoor
open Go Go.Av Go.Lin
attribute [local irreducible] ACalls S9
theorem A7t{Q}(l:List Row)(e:Row)(k n:Nat)(hlen:l.length≤1000000)(hn:n≤1000000)(hw: ∀r∈l,r.c.length=n)(he:e.c.length=n)(hk:k<n)(hr: ∀r∈l,A5N r 18446744073709551616)(b0:A5N e 18446744073709551616)(b1: ∀r∈l,∀x∈r.c,x.natAbs≤4294967296)(b2: ∀x∈e.c,x.natAbs≤4294967296)(H:Heap)
  (h:Q (.sl 4 (Rw C6 (l.map (S5 e k)))) H):D7 253 [.sl 4 (Rw C6 l),.agg (C6 e),.int .i64 (k:Int)] H Q:=by
 refine A9 [(7,.par)] A6 Tryz.func253 rfl ?_;simp only[go_sem,seval,Tryz.results253];intro A b3;have e4:(H.set A (.box (C6 e))) A=some (.box (C6 e)):=A3 _ _;have T:H.Le (H.set A (.box (C6 e))):=A0 b3;generalize H.set A (.box (C6 e))=Bs at e4 T⊢;have z0:D.nilsl=H8 4 ((l.take 0).map (S5 e k)).length none:=rfl;repeat' (first|with_reducible apply D1H|simp only[go_sem,seval]|simp(disch:=omega) only[A4,B3,H9]|simp(disch:=first|omega|grind) only[A8]|(intro j;try simp only[A5]at j)|omega)
 refine C8 [2,4,11,12] (fun(p:Nat×Option Nat×Heap)=>[(13,.int .i64 p.1),(7,H8 4 p.1 p.2.1)]) (fun(p:Nat×Option Nat×Heap)=>p.2.2) (fun(p:Nat×Option Nat×Heap)=>p.1≤l.length∧O3 Bs p.2.2 4 (Rw C6 ((l.take p.1).map (S5 e k))) [] [] p.2.1 none none) (fun(p:Nat×Option Nat×Heap)=>l.length-p.1) ((0,none,Bs)) (⟨D1c _,O3.nil Bs 4⟩) (by(try simp only[go_sem,seval])<;>(try simp(disch:=omega) [A4])) (by first|exact D2i _|exact A0 (by assumption)|exact B9 (by assumption)|simp only[Heap.Le,Heap.set,Heap.del]at* <;>grind) ?_;rintro Ec rfl ⟨i,o1,Hp⟩ ⟨hi,J⟩;simp only at hi J;by_cases q:i<l.length
 ·have M:decide ((i:Int)<l.length)=true:=D1J (by omega);have b8:(i:Int)<l.length:=by omega
  have c2:=hw _ (D1V q);have z:k<l[i].c.length:=by omega
  have a0:(k:Int)<l[i].c.length:=by omega
  have O:k<e.c.length:=by omega
  have a6:(k:Int)<e.c.length:=by omega
  have gk:=H9 l[i].c k z;have ge:=H9 e.c k O;have fs:=A6b (S5 e k) l i q;have fl:=A9B (S5 e k) l i hi;have q4:Hp A=some (.box (C6 e)):=J.le _ _ e4;by_cases c0:l[i].c[k]=0
  ·have s:l[i].c[k].sign=0:=by rw[c0];rfl
   have er:S5 e k l[i]=l[i]:=by unfold S5;rw[gk,if_pos c0]
   repeat' (first|with_reducible apply D1H|simp only[go_sem,seval,M,B3 _ _ q,C3 _ _ q,B3 _ _ z,C3 _ _ z,a0,s,decide_true,D2f]|simp(disch:=first|omega|grind) only[A8]|(intro j;try simp only[A5]at j)|with_reducible refine L3 _ _ ?_|omega)
   rename_i u h9 m U bx;have V:=j;clear j;have G:Hp.Le ((Hp.set u (.box (C6 l[i]))).set m (.box (C5 l[i].c[k]))):=(by simp only[F0,D3,D4]at* <;>grind)
   obtain⟨R,W⟩: ∃R,R=(Hp.set u (.box (C6 l[i]))).set m (.box (C5 l[i].c[k])):=⟨_,rfl⟩
   have o:Hp.Le R:=by rw[W];exact G
   rw[←W];have I:R bx=none:=by rw[W];simp only[A5];exact V
   refine A6N (P:=Tryz.prog) (H0:=R) (es:=Rw C6 ((l.take i).map (S5 e k))) I (by simp) (J.a1.up o) (by rw[D6,fl]) (by simp only[D1M,D1O];omega) (by simp only[D1M,D1O];omega) fun b' H' hA=>?_;repeat' (first|simp only[go_sem,seval]|simp(disch:=omega) only[A4,B3,H9])
   have X:Rw C6 ((l.take (i+1)).map (S5 e k))=Rw C6 ((l.take i).map (S5 e k))++[C6 (l[i])]:=by rw[fs,er,←O7];rfl
   have Y:Apd R 4 o1 (Rw C6 ((l.take (i+1)).map (S5 e k))) b' H':=by rw[X];exact hA
   refine C4 (i+1,some b',H') ⟨by simp only[];omega,J.app1 o Y⟩ (by simp only[];omega) (by(try simp only[go_sem,seval,L2])<;>(try simp(disch:=omega) [A4])) (D2i _)
  ·have s: ¬(l[i].c[k].sign=0):=fun g=>c0 (Int.sign_eq_zero_iff_zero.1 g);repeat' (first|with_reducible apply D1H|simp only[go_sem,seval,M,B3 _ _ q,C3 _ _ q,B3 _ _ z,C3 _ _ z,a0,s,decide_false,D2g]|(intro j;try simp only[A5]at j)|with_reducible refine L3 _ _ ?_|omega)
   rename_i u h9 m;have U:=j;clear j;obtain⟨b6,U⟩:=U;have e9:((Hp.set u (.box (C6 l[i]))).set m (.box (C5 l[i].c[k]))) u=some (.box (C6 l[i])):=by rw[A2 _ (Ne.symm b6),A3]
   have a9:((Hp.set u (.box (C6 l[i]))).set m (.box (C5 l[i].c[k]))) m=some (.box (C5 l[i].c[k])):=A3 _ _;have o:Hp.Le (((Hp.set u (.box (C6 l[i]))).set m (.box (C5 l[i].c[k]))).del u):=(by simp only[F0,D3,D4]at* <;>grind)
   have f4:=(o.trans (E6 _ _)) _ _ q4;have c4:A≠u:=fun g=>by rw[g,h9]at q4;cases q4
   generalize (Hp.set u (.box (C6 l[i]))).set m (.box (C5 l[i].c[k]))=Hq at e9 a9 o f4⊢;have m4:A∈[A,u,m]:=by simp
   have m9:u∈[A,u,m]:=by simp
   have b7:m∈[A,u,m]:=by simp
   have a1:=b1 _ (D1V q) _ (D1V z);have a2:=b2 _ (D1V O);have a3:=A1V a1 a2;obtain⟨t,ht⟩: ∃t:Int,t=1:=⟨1,rfl⟩
   obtain⟨x,hx⟩: ∃x:Int,x=l[i].c[k]:=⟨_,rfl⟩
   obtain⟨y,hy⟩: ∃y:Int,y=e.c[k]:=⟨_,rfl⟩
   have er:S5 e k l[i]=A13 l[i] t e (-(x*y)):=by unfold S5;rw[gk,if_neg c0,ge,ht,hx,hy]
   rw[←hx]at a1 a3;rw[←hy]at a2 a3;have s1:Sz x:=H6 (by omega);have s2:Sz y:=H6 (by omega);refine F9 (fun i'=>if i'=1 then .agg (C5 t)else if i'=9 then .agg (C5 (x*y))else if i'=10 then .agg (C5 (-(x*y)))else if i'=11 then .agg (C6 (A13 l[i] t e (-(x*y))))else .undef) [A,u,m] ?_;repeat' (first|with_reducible apply D1H|simp only[go_sem,seval,e9,a9,f4,m4,m9,b7,B3 _ _ O,C3 _ _ O,a6,←hx,←hy]|(intro j;try simp only[A5]at j)|with_reducible refine R5 (fun H' Q hro hq=>t8 1 (by omega) (by omega) H' (by rw[←ht];exact hq)) ?_|with_reducible refine R5 (fun H' Q hro hq=>S6 x y s1 s2 H' hq) ?_|with_reducible refine R5 (fun H' Q hro hq=>A4b (x*y) H' hq) ?_|with_reducible refine R5 (fun H' Q hro hq=>B6r l[i] e t (-(x*y)) (by omega) (by omega) (hr _ (D1V q)) b0 (by omega) (by omega) H' hq) ?_|omega)
   rename_i bx;have V:=j;clear j;have G:Hp.Le (Hq.set u (.box (C6 (A13 l[i] t e (-(x*y)))))):=(by simp only[F0,D3,D4]at* <;>grind)
   obtain⟨R,W⟩: ∃R,R=Hq.set u (.box (C6 (A13 l[i] t e (-(x*y))))):=⟨_,rfl⟩
   have o:Hp.Le R:=by rw[W];exact G
   rw[←W];have I:R bx=none:=by rw[W];simp only[A5];exact V
   refine A6N (P:=Tryz.prog) (H0:=R) (es:=Rw C6 ((l.take i).map (S5 e k))) I (by simp) (J.a1.up o) (by rw[D6,fl]) (by simp only[D1M,D1O];omega) (by simp only[D1M,D1O];omega) fun b' H' hA=>?_;repeat' (first|simp only[go_sem,seval]|simp(disch:=omega) only[A4,B3,H9])
   have X:Rw C6 ((l.take (i+1)).map (S5 e k))=Rw C6 ((l.take i).map (S5 e k))++[C6 (A13 l[i] t e (-(x*y)))]:=by rw[fs,er,←O7];rfl
   have Y:Apd R 4 o1 (Rw C6 ((l.take (i+1)).map (S5 e k))) b' H':=by rw[X];exact hA
   refine C4 (i+1,some b',H') ⟨by simp only[];omega,J.app1 o Y⟩ (by simp only[];omega) (by(try simp only[go_sem,seval,L2])<;>(try simp(disch:=omega) [A4])) (D2i _)
 ·have M:decide ((i:Int)<l.length)=false:=D1K (by omega);have e1:l.take i=l:=D1W (by omega);have e2:i=l.length:=by omega
  rw[e1]at J;repeat' simp only[go_sem,seval,M]
  exact Fin.out (by rw[D6,D10];exact e2) J.a1 (D2j (T.trans (O3.one J)) h)
end Go.Proofs.YtibphjonmikciaaGreatDoor
namespace Go.Av
theorem OutAt.ne{H:Heap}{sz:Nat}{es:List (List D)}{o:Option Nat}(h:OutAt H sz es o){b:Nat}(hb:H b=none):o≠some b:=fun e=>by
 have:=h.some_of e;rw[hb]at this;cases this
theorem O3.less{H H' Hp:Heap}{sz:Nat}{e1 e2 e3:List (List D)}{o1 o2 o3:Option Nat}(h:O3 H Hp sz e1 e2 e3 o1 o2 o3)(hl:H'.Le H):O3 H' Hp sz e1 e2 e3 o1 o2 o3:=
 ⟨hl.trans h.le,h.a1,h.a2,h.a3,fun b e=>hl.none (h.n1 b e),fun b e=>hl.none (h.n2 b e),fun b e=>hl.none (h.n3 b e),h.d12,h.d13,h.d23⟩
theorem O3.grow{H Hp:Heap}{sz:Nat}{e1 e2 e3:List (List D)}{o1 o2 o3:Option Nat}(h:O3 H Hp sz e1 e2 e3 o1 o2 o3){b:Nat}(hb:Hp b=none)(x:Go.Av.Obj):O3 (H.set b x) (Hp.set b x) sz e1 e2 e3 o1 o2 o3:=by
 have i:=A0 (o:=x) hb;have nn: ∀{c:Nat} {o:Option Nat} {e:List (List D)},OutAt Hp sz e o→o=some c→H c=none→(H.set b x) c=none:=fun {c o e} j e hn=>by
  rw[A2 _ (by rintro rfl;exact j.ne hb e)];exact hn
 refine⟨fun k o hk=>?_,h.a1.up i,h.a2.up i,h.a3.up i,fun c e=>nn h.a1 e (h.n1 c e),fun c e=>nn h.a2 e (h.n2 c e),fun c e=>nn h.a3 e (h.n3 c e),h.d12,h.d13,h.d23⟩;by_cases e:k=b
 ·subst e;rw[A3]at hk⊢;exact hk
 ·rw[A2 _ e]at hk⊢;exact h.le k o hk
theorem O3.put{H:Heap}{sz:Nat}{es:List (List D)}{ob:Option Nat}(h:ob=none→es= [])(h1: ∀b,ob=some b→H b=none):O3 H (putB H sz es ob) sz es [] [] ob none none:=by
 refine⟨?_,B4V h,rfl,rfl,h1,by simp,by simp,by simp,by simp,by simp⟩;cases ob with
 |none=>exact D2i H
 |some b=>exact A0 (h1 b rfl)
theorem O3.set1{H Hp j:Heap}{sz c:Nat}{e1 e2 e3 e1':List (List D)}{o2 o3:Option Nat}(h:O3 H Hp sz e1 e2 e3 (some c) o2 o3)(i:Hp.Le j):O3 H (j.set c (.vec sz e1')) sz e1' e2 e3 (some c) o2 o3:=by
 have up: ∀{e:List (List D)} {o:Option Nat},OutAt Hp sz e o→o≠some c→OutAt (j.set c (.vec sz e1')) sz e o:=fun {e o} m hn=>by
  cases o with
  |none=>exact m
  |some b=>show (j.set c _) b=_;rw[A2 _ (by rintro rfl;exact hn rfl)];exact i _ _ m
 refine⟨fun k o hk=>?_,A3 _ _,up h.a2 (h.d12 _ rfl),up h.a3 (h.d13 _ rfl),h.n1,h.n2,h.n3,h.d12,h.d13,h.d23⟩;rw[A2 _ (by rintro rfl;have:=h.n1 _ rfl;rw[this]at hk;cases hk)];exact i _ _ (h.le _ _ hk)
end Go.Av
namespace Go.Lin
open Go Go.Av
def A0M(l:List Row)(k:Nat)(i j:Nat):List Row:=U6 l k++((I9 l k).take i).flatMap (fun a=>(G2 l k).map fun b=>A1T a b k false)++((G2 l k).take j).map fun b=>A1T ((I9 l k).getD i default) b k false
theorem A7u(l:List Row)(k:Nat):A0M l k 0 0=U6 l k:=by simp[A0M]
theorem A7v(l:List Row)(k i:Nat)(h:i<(I9 l k).length):A0M l k i (G2 l k).length=A0M l k (i+1) 0:=by
 unfold A0M;rw[D1a h,List.take_length,List.flatMap_append];simp[h]
theorem B0s(l:List Row)(k:Nat):A0M l k (I9 l k).length 0=A2W l k false:=by simp[A0M,A2W]
theorem A7w(l:List Row)(k i j:Nat)(h:j<(G2 l k).length):A0M l k i (j+1)=A0M l k i j++[A1T ((I9 l k).getD i default) (G2 l k)[j] k false]:=by
 unfold A0M;rw[D1a h,D2H,←D15];rfl
theorem B62(l:List Row)(k i j:Nat)(hl:l.length≤10000)(p:i≤10000):(A0M l k i j).length≤100020000:=by
 unfold A0M;rw[D1N,D1N,D10,D1z];have h1:(U6 l k).length≤l.length:=W8 _;have q:(G2 l k).length≤l.length:=W8 _;have key: ∀(m:List Row),(m.flatMap fun a=>(G2 l k).map fun b=>A1T a b k false).length=m.length*(G2 l k).length:=by
  intro m
  induction m with
  |nil=>simp
  |cons a m h=>rw[List.flatMap_cons,D1N,h,D10,D1M,Nat.succ_mul];omega
 rw[key];have o:((I9 l k).take i).length≤10000:=by rw[D1z];omega
 have r:((I9 l k).take i).length*(G2 l k).length≤10000*10000:=Nat.mul_le_mul o (by omega);omega
end Go.Lin
namespace Go.Proofs.YtibphjonmikciaaGreatDoor
open Go Go.Av Go.Lin
attribute [local irreducible] ACalls S9
theorem B63{Q}(l:List Row)(k n:Nat)(hlen:l.length≤10000)(hn:n≤1000000)(hw: ∀r∈l,r.c.length=n)(hk:k<n)(hr: ∀r∈l,A5N r 18446744073709551616)(H:Heap)
  (h:Q (.sl 4 (Rw C6 (A2W l k false))) H):D7 226 [.sl 4 (Rw C6 l),.int .i64 (k:Int),.bool false] H Q:=by
 refine A9 [(9,.par),(12,.par)] A6 Tryz.func226 rfl ?_;simp only[go_sem,seval,Tryz.results226];have wl: ∀r∈I9 l k,r∈l:=fun r hr=>(List.mem_filter.1 hr).1;have wh: ∀r∈G2 l k,r∈l:=fun r hr=>(List.mem_filter.1 hr).1;have l1:(I9 l k).length≤10000:=D2N (W8 _) hlen;have l2:(G2 l k).length≤10000:=D2N (W8 _) hlen;obtain⟨t,ht⟩: ∃t:Int,t=1:=⟨1,rfl⟩
 repeat' (first|with_reducible apply D1H|simp only[go_sem,seval]|simp(disch:=omega) only[A4,B3,H9]|simp(disch:=first|omega|grind) only[A8]|(intro m;try simp only[A5]at m)|omega)
 refine B3X l k (by omega) (fun r hr=>by rw[hw r hr];exact hk) _ fun ob V M=>?_;have o0:=O3.put (H:=H) (sz:=4) (es:=Rw C6 (U6 l k)) (ob:=ob) (fun e=>by rw[V e];rfl) M;have b1:(U6 l k).length=(A0M l k 0 0).length:=by rw[A7u]
 rw[←A7u l k]at o0⊢;generalize putB H 4 (Rw C6 (A0M l k 0 0)) ob=Hp at o0⊢;repeat' (first|simp only[go_sem,seval]|(intro m;try simp only[A5]at m)|with_reducible refine t8 1 (by omega) (by omega) _ ?_)
 rename_i c5;have b2:=m;clear m;refine C8 [1,2,8,10,26,27] (fun(p:Nat×Option Nat×Heap)=>[(28,.int .i64 p.1),(9,H8 4 (A0M l k p.1 0).length p.2.1)]) (fun(p:Nat×Option Nat×Heap)=>p.2.2) (fun(p:Nat×Option Nat×Heap)=>p.1≤(I9 l k).length∧O3 H p.2.2 4 (Rw C6 (A0M l k p.1 0)) [] [] p.2.1 none none) (fun(p:Nat×Option Nat×Heap)=>(I9 l k).length-p.1) ((0,ob,Hp)) (⟨D1c _,o0⟩) (by(try simp only[go_sem,seval])<;>(try simp(disch:=omega) [A4])) (by first|exact D2i _|exact A0 (by assumption)|exact B9 (by assumption)|simp only[Heap.Le,Heap.set,Heap.del]at* <;>grind) ?_;clear o0 b2 b1 V M;rintro Ec rfl ⟨i,o1,Hp⟩ ⟨hi,z⟩;simp only at hi z;by_cases A:i<(I9 l k).length
 ·have x:decide ((i:Int)<(I9 l k).length)=true:=D1J (by omega);have c6:(i:Int)<(I9 l k).length:=by omega
  have I:=wl _ (D1V A);have J:k<(I9 l k)[i].c.length:=by rw[hw _ I];exact hk
  have b3:(k:Int)<(I9 l k)[i].c.length:=by omega
  have gi:(I9 l k).getD i default=(I9 l k)[i]:=by simp[A]
  repeat' (first|with_reducible apply D1H|simp only[go_sem,seval,x,B3 _ _ A,C3 _ _ A]|(intro m;try simp only[A5]at m)|omega)
  rename_i o;have W:=m;clear m;have g3:=z.grow W (.box (C6 (I9 l k)[i]));have T:(Hp.set o (.box (C6 (I9 l k)[i]))) o=some (.box (C6 (I9 l k)[i])):=A3 _ _;have hH:H.Le (H.set o (.box (C6 (I9 l k)[i]))):=A0 (z.le.none W);have T:(H.set o (.box (C6 (I9 l k)[i]))) o=some (.box (C6 (I9 l k)[i])):=A3 _ _;generalize Hp.set o (.box (C6 (I9 l k)[i]))=Hq at g3⊢;generalize H.set o (.box (C6 (I9 l k)[i]))=H1 at g3 T hH;refine C8 [1,2,8,10,12,26,27,28,32,33] (fun(p:Nat×Option Nat×Heap)=>[(34,.int .i64 p.1),(9,H8 4 (A0M l k i p.1).length p.2.1)]) (fun(p:Nat×Option Nat×Heap)=>p.2.2) (fun(p:Nat×Option Nat×Heap)=>p.1≤(G2 l k).length∧O3 H1 p.2.2 4 (Rw C6 (A0M l k i p.1)) [] [] p.2.1 none none) (fun(p:Nat×Option Nat×Heap)=>(G2 l k).length-p.1) ((0,o1,Hq)) (⟨D1c _,g3⟩) (by(try simp only[go_sem,seval])<;>(try simp(disch:=omega) [A4])) (by first|exact D2i _|exact A0 (by assumption)|exact B9 (by assumption)|simp only[Heap.Le,Heap.set,Heap.del]at* <;>grind) ?_;clear g3 z;rintro Ec rfl ⟨j,o1,Hp⟩ ⟨hj,z⟩;simp only at hj z;have b4:=z.le _ _ T;by_cases G:j<(G2 l k).length
  ·have x:decide ((j:Int)<(G2 l k).length)=true:=D1J (by omega);have c7:(j:Int)<(G2 l k).length:=by omega
   have U:=wh _ (D1V G);have y:k<(G2 l k)[j].c.length:=by rw[hw _ U];exact hk
   have X:(k:Int)<(G2 l k)[j].c.length:=by omega
   repeat' (first|with_reducible apply D1H|simp only[go_sem,seval,x,B3 _ _ G,C3 _ _ G]|(intro m;try simp only[A5]at m)|omega)
   rename_i u;have Y:=m;clear m;have a0:(Hp.set u (.box (C6 (G2 l k)[j]))) u=some (.box (C6 (G2 l k)[j])):=A3 _ _;have a6:(Hp.set u (.box (C6 (G2 l k)[j]))) o=some (.box (C6 (I9 l k)[i])):=(A0 Y) _ _ b4;have O:Hp.Le (Hp.set u (.box (C6 (G2 l k)[j]))):=A0 Y;generalize Hp.set u (.box (C6 (G2 l k)[j]))=Hr at a0 a6 O⊢;have b6:o∈[o,u]:=by simp
   have b7:u∈[o,u]:=by simp
   have a9:=hr _ I;have b0:=hr _ U;have x1:=a9.2 _ (D1V J);have x2:=b0.2 _ (D1V y);obtain⟨p,hp⟩: ∃p,p=(I9 l k)[i].c[k]:=⟨_,rfl⟩
   obtain⟨q,hq⟩: ∃q,q= -(G2 l k)[j].c[k]:=⟨_,rfl⟩
   have es:A1T ((I9 l k).getD i default) (G2 l k)[j] k false=A13 (I9 l k)[i] q (G2 l k)[j] p:=by
    unfold A1T;simp only[gi,H9 _ _ J,H9 _ _ y,←hp,←hq];rfl
   have lz:=B62 l k i j hlen (by omega);have b8:Rw C6 (A0M l k i (j+1))=Rw C6 (A0M l k i j)++[C6 (A13 (I9 l k)[i] q (G2 l k)[j] p)]:=by rw[A7w l k i j G,es,←O7];rfl
   have fl:(A0M l k i (j+1)).length=(A0M l k i j).length+1:=by rw[A7w l k i j G];simp
   refine F9 (fun i'=>if i'=10 then .agg (C5 q)else .undef) [o,u] ?_;repeat' (first|with_reducible apply D1H|simp only[go_sem,seval,b6,b7,a6,a0,b3,X,B3 _ _ J,C3 _ _ J,B3 _ _ y,C3 _ _ y,←hp]|simp(disch:=first|omega|grind) only[A8]|(intro m;try simp only[A5]at m)|with_reducible refine R5 (fun H' Q hro b9=>A4b (G2 l k)[j].c[k] H' (by rw[←hq];exact b9)) ?_|with_reducible refine B6r (I9 l k)[i] (G2 l k)[j] q p (by rw[hw _ I,hw _ U]) (by rw[hw _ I];exact hn) a9 b0 (by omega) (by omega) _ ?_|omega)
   rename_i c8 c9 d0 d2 d3 d4 bx;have c0:=m;clear m;refine O3.ap z (e1':=Rw C6 (A0M l k i (j+1))) (O.trans (by simp only[F0,D3,D4]at* <;>grind)) (by simp only[A5];simp only[c0,ne_eq,not_false_eq_true,and_self]) (by simp) (by rw[D6]) (by simp only[D1M,D1O];omega) (by simp only[D1M,D1O];omega) b8 fun b' H' h4=>?_;repeat' (first|simp only[go_sem,seval]|simp(disch:=omega) only[A4,B3,H9])
   refine C4 (j+1,some b',H') ⟨by simp only[];omega,h4⟩ (by simp only[];omega) (by(try simp only[go_sem,seval,L2,fl])<;>(try simp(disch:=omega) [A4])) (D2i _)
  ·have x:decide ((j:Int)<(G2 l k).length)=false:=D1K (by omega);have c2:j=(G2 l k).length:=by omega
   subst c2;rw[A7v l k i A]at z;repeat' (first|simp only[go_sem,seval,x,A7v l k i A]|simp(disch:=omega) only[A4,B3,H9])
   refine C4 (i+1,o1,Hp) ⟨by simp only[];omega,z.less hH⟩ (by simp only[];omega) (by(try simp only[go_sem,seval])<;>(try simp(disch:=omega) [A4])) (D2i _)
 ·have x:decide ((i:Int)<(I9 l k).length)=false:=D1K (by omega);have c4:i=(I9 l k).length:=by omega
  subst c4;rw[B0s]at z;repeat' simp only[go_sem,seval,x,B0s]
  exact Fin.out (by rw[D6]) z.a1 (D2j (O3.one z) h)
end Go.Proofs.YtibphjonmikciaaGreatDoor
namespace Go.Proofs.YtibphjonmikciaaGreatDoor
section
open Go Go.Shelf Go.RowKit
set_option maxHeartbeats 4000000 in
set_option maxRecDepth 100000 in
theorem B94(n:Nat)(hn:0<n)(hb:n*64≤140737488355328)(w:World):
  Calls Tryz.prog 282 #[.slice none 0 0,.int .i64 n] w fun e w'=>∃(cs:Array Value) (G:Nat),e= .returned (.slice (some ⟨w.heap.size,0,none⟩) 0 G)∧w'=w.drew.alloc (.cells cs 246)∧cs.size=G*4∧n≤G:=by
 obtain⟨i,p,A,hs,q⟩: ∃i,Tryz.prog.info? 246=some i∧i.zero=some (Value.agg #[.slice none 0 0,.bool false,.slice none 0 0,.bool false])∧i.size=4∧i.bytes=64:=by
  have h:(Tryz.prog.info? 246).map (fun i=>(i.zero,i.size,i.bytes))=some (some (Value.agg #[.slice none 0 0,.bool false,.slice none 0 0,.bool false]),4,64):=by kernel_rfl
  obtain⟨i,p,e⟩:=D1Q.1 h;simp only[Prod.mk.injEq]at e;exact⟨i,p,e.1,e.2.1,e.2.2⟩
 have r:Tryz.prog.follows .mixedOrders=true:=by kernel_rfl
 have x:=Tryz.underlying216;have a1:=Tryz.isAgg216;have M:=Tryz.sizeOf216;have v1:=Tryz.zeroValue216;have O:=run_underlying x;have y:=Tryz.underlying3;have a3:=Tryz.isAgg3;have T:=Tryz.sizeOf3;have v3:=Tryz.zeroValue3;have U:=run_underlying y;have I:=Tryz.underlying4;have a4:=Tryz.isAgg4;have V:=Tryz.sizeOf4;have v4:=Tryz.zeroValue4;have W:=run_underlying I;have J:=Tryz.underlying246;have X:=Tryz.isAgg246;have Y:=Tryz.sizeOf246;have v6:=Tryz.zeroValue246;have u6:=run_underlying J;have h1: ¬((n:Int)<0):=by omega
 have h3:RowKit.wrap64 ((n:Int)-0)=(n:Int):=by unfold RowKit.wrap64;omega
 have h4:(n:Int) > 0:=by omega
 have j:=Lib.run_append_nil_zeros w 216 3 216 246 i _ .i64 .i64 x y p A n hn (by omega) (by omega) (by rw[q];omega);obtain⟨G,u⟩: ∃G,G=grownCap w n 0 246:=⟨_,rfl⟩
 have o:n≤grownCap w n 0 246:=grownCap_ge w _ _ _;have z:G≤9223372036854775807:=by
  have:=grownCap_le_maxLen w n 0 246 (by unfold maxLen;omega);rw[←u]at this;unfold maxLen at this;omega
 rw[←u]at j o;obtain⟨cs,m⟩: ∃cs,cs=Builtin.zeroCells (Value.agg #[.slice none 0 0,.bool false,.slice none 0 0,.bool false]).cells n++Builtin.zeroCells (Value.agg #[.slice none 0 0,.bool false,.slice none 0 0,.bool false]).cells (G-n):=⟨_,rfl⟩
 have hsz:cs.size=G*4:=by
  rw[m,Array.size_append,size_zeroCells,size_zeroCells];show n*4+(G-n)*4=G*4;omega
 rw[←m]at j;clear u m
 go_enter Tryz.func282,Tryz.ntmps282
 go_wp2_with (at_builtin;refine Lib.wpList_append_run _ rfl _ _ _ _ rfl _ _ rfl rfl _ _ j ?_)
 all_goals (go_ret;exact⟨cs,G,rfl,rfl,by first|exact hsz|simpa using hsz,o⟩)
end
section
open Go Go.Av Go.Lin
theorem B64{Q}(H:Heap)(h:Q .nilsl H):D7 282 [.nilsl,.int .i64 0] H Q:=by
 refine A9 [] A6 Tryz.func282 rfl ?_;simp only[go_sem,seval,Tryz.results282];repeat' (first|with_reducible apply D1H|simp only[go_sem,seval]|simp(disch:=omega) only[A4])
 all_goals exact D2m h
theorem B3Y{Q}(n:Nat)(hb:n*64≤140737488355328)(H:Heap)(p:n=0→Q .nilsl H)(h:n≠0→∀b,H b=none→Q (.vec b 4 0 0) (H.set b (.vec 4 []))):D7 282 [.nilsl,.int .i64 n] H Q:=by
 by_cases hn:n=0
 ·subst hn;exact B64 H (p rfl)
 ·refine⟨by kernel_rfl,fun w vs hl hr hs=>?_⟩;obtain⟨a,b,rfl,q,m⟩:=A0E hl hr;have r:a= .slice none 0 0:=by cases q;rfl
  rw[r,m.int_inv];refine(B94 n (by omega) hb w).mono ?_;rintro e w' ⟨cs,G,rfl,rfl,hsz,u⟩;have o:=hs.same (w':=w.drew) rfl (Ext.drewN H w 1);obtain⟨d,H',x,y,z,A,I⟩:=y8 (w:=w.drew) (K:=Q) o (sz:=4) (es:=[]) (vs:=cs) 246 0 G (by omega) ⟨by simp,fun i e he=>by simp at he,fun i e j d he=>by simp at he,fun i e j d he=>by simp at he⟩ (D1c _) hsz (fun b hb=>h hn b hb);exact⟨_,rfl,d,H',x,y,(Ext.drewN H w 1).trans (D2o _ _) z,A,I⟩
theorem A7x{Q}(l m:List Row)(hb:(l.length+m.length)*64≤140737488355328)(H:Heap)(h:Q (.sl 4 (Rw C6 (l++m))) H):D7 251 [.sl 1 [[.sl 4 (Rw C6 l)],[.sl 4 (Rw C6 m)]]] H Q:=by
 refine A9 [] A6 Tryz.func251 rfl ?_;simp only[go_sem,seval,Tryz.results251];refine C8 [0,9,10] (fun(p:Nat×Int)=>[(11,.int .i64 p.1),(3,.int .i64 p.2)]) (fun(p:Nat×Int)=>H) (fun(p:Nat×Int)=>p.1≤2∧(p.1=0→p.2=0)∧(p.1=1→p.2=l.length)∧(p.1=2→p.2=(l.length:Int)+m.length)) (fun(p:Nat×Int)=>2-p.1) ((0,0)) (⟨by simp,by simp,by simp,by simp⟩) (by(try simp only[go_sem,seval])<;>(try simp(disch:=omega) [A4])) (by first|exact D2i _|exact A0 (by assumption)|exact B9 (by assumption)|simp only[Heap.Le,Heap.set,Heap.del]at* <;>grind) ?_;rintro G rfl ⟨k,z⟩ ⟨r,j,o,q⟩;simp only at r j o q
 match k,r,j,o,q with
 |0,r,j,o,q=>
  have u:=j rfl;subst u;repeat' (first|with_reducible apply D1H|simp only[go_sem,seval,D1q]|simp(disch:=omega) only[A4]|intro i|omega)
  exact C4 (1,(l.length:Int)) ⟨by simp,by simp,by simp,by simp⟩ (by simp) (by(try simp only[go_sem,seval])<;>(try simp(disch:=omega) [A4])) (D2i _)
 |1,r,j,o,q=>
  have u:=o rfl;subst u;repeat' (first|with_reducible apply D1H|simp only[go_sem,seval,D1q,D1r]|simp(disch:=omega) only[A4]|intro i|omega)
  exact C4 (2,(l.length:Int)+m.length) ⟨by simp,by simp,by simp,by simp⟩ (by simp) (by(try simp only[go_sem,seval])<;>(try simp(disch:=omega) [A4])) (D2i _)
 |2,r,j,o,q=>
  have u:=q rfl;subst u;have I:(l.length:Int)+m.length=((l.length+m.length:Nat):Int):=by omega
  by_cases x:l.length+m.length=0
  ·have el:l= []:=D1f (by omega);have J:m= []:=D1f (by omega);subst el;subst J;repeat' (first|with_reducible apply D1H|simp only[go_sem,seval,I]|intro i|omega)
   refine B3Y 0 (by omega) H (fun _=>?_) (fun e=>absurd rfl e);repeat' simp only[go_sem,seval]
   refine C8 [25,26] (fun(k:Nat)=>[(27,.int .i64 k),(6,.nilsl)]) (fun(k:Nat)=>H) (fun(k:Nat)=>k≤2) (fun(k:Nat)=>2-k) (0) (by omega) (by(try simp only[go_sem,seval])<;>(try simp(disch:=omega) [A4])) (by first|exact D2i _|exact A0 (by assumption)|exact B9 (by assumption)|simp only[Heap.Le,Heap.set,Heap.del]at* <;>grind) ?_;rintro G rfl k hk
   match k,hk with
   |0,_=>
    repeat' (first|with_reducible apply D1H|simp only[go_sem,seval,D1q,A0j]|simp(disch:=omega) only[A4]|intro i|omega)
    exact C4 1 (by omega) (by omega) (by(try simp only[go_sem,seval])<;>(try simp(disch:=omega) [A4])) (D2i _)
   |1,_=>
    repeat' (first|with_reducible apply D1H|simp only[go_sem,seval,D1q,D1r,A0j]|simp(disch:=omega) only[A4]|intro i|omega)
    exact C4 2 (by omega) (by omega) (by(try simp only[go_sem,seval])<;>(try simp(disch:=omega) [A4])) (D2i _)
   |2,_=>
    repeat' (first|with_reducible apply D1H|simp only[go_sem,seval]|intro i|omega)
    exact Fin.out (n:=0) (ob:=none) rfl rfl (D2j (D2i _) h)
   |k+3,hk=>omega
  repeat' (first|with_reducible apply D1H|simp only[go_sem,seval,I]|intro i|omega)
  refine B3Y _ hb H (fun e=>absurd e x) fun _ b y=>?_;repeat' simp only[go_sem,seval]
  refine C8 [25,26] (fun(p:Nat×Nat×List Row)=>[(27,.int .i64 p.1),(6,.vec p.2.1 4 0 p.2.2.length)]) (fun(p:Nat×Nat×List Row)=>H.set p.2.1 (.vec 4 (Rw C6 p.2.2))) (fun(p:Nat×Nat×List Row)=>p.1≤2∧H p.2.1=none∧(p.1=0→p.2.2= [])∧(p.1=1→p.2.2=l)∧(p.1=2→p.2.2=l++m)) (fun(p:Nat×Nat×List Row)=>2-p.1) ((0,b,[])) (⟨by simp,y,by simp,by simp,by simp⟩) (by(try simp only[go_sem,seval])<;>(try simp(disch:=omega) [A4])) (by first|exact D2i _|exact A0 (by assumption)|exact B9 (by assumption)|simp only[Heap.Le,Heap.set,Heap.del]at* <;>grind) ?_;rintro G rfl ⟨k,c,X⟩ ⟨r,hc,j,o,q⟩;simp only at r hc j o q
  match k,r,j,o,q with
  |0,r,j,o,q=>
   have u:=j rfl;subst u;repeat' (first|with_reducible apply D1H|simp only[go_sem,seval,D1q,E9 hc]|simp(disch:=omega) only[A4]|intro i|omega)
   rename_i A;exact C4 (1,A,l) ⟨by simp,i,by simp,by simp,by simp⟩ (by simp) (by(try simp only[go_sem,seval])<;>(try simp(disch:=omega) [A4])) (D2i _)
  |1,r,j,o,q=>
   have u:=(o rfl).symm;subst u;repeat' (first|with_reducible apply D1H|simp only[go_sem,seval,D1q,D1r,E9 hc]|simp(disch:=omega) only[A4]|intro i|omega)
   rename_i A;exact C4 (2,A,l++m) ⟨by simp,i,by simp,by simp,by simp⟩ (by simp) (by(try simp only[go_sem,seval,D1N])<;>(try simp(disch:=omega) [A4])) (by simp only[];rw[←O7,D1W (by rw[D6];exact D1b _)];exact D2i _)
  |2,r,j,o,q=>
   have u:=q rfl;subst u;repeat' (first|with_reducible apply D1H|simp only[go_sem,seval]|intro i|omega)
   exact Fin.out (ob:=some c) (by rw[D6,D1N]) (A3 _ _) (D2j (by show H.Le ((H.set c _).del c);rw[E9 hc];exact D2i _) h)
end
section
open Go Go.Shelf Go.RowKit
set_option maxHeartbeats 4000000 in
set_option maxRecDepth 100000 in
theorem B95(n:Nat)(hn:0<n)(hb:n*40≤140737488355328)(w:World):
  Calls Tryz.prog 189 #[.slice none 0 0,.int .i64 n] w fun e w'=>∃(cs:Array Value) (G:Nat),e= .returned (.slice (some ⟨w.heap.size,0,none⟩) 0 G)∧w'=w.drew.alloc (.cells cs 25)∧cs.size=G*3∧n≤G:=by
 obtain⟨i,p,A,hs,q⟩: ∃i,Tryz.prog.info? 25=some i∧i.zero=some (Value.agg #[.slice none 0 0,.int .i64 0,.bool false])∧i.size=3∧i.bytes=40:=by
  have h:(Tryz.prog.info? 25).map (fun i=>(i.zero,i.size,i.bytes))=some (some (Value.agg #[.slice none 0 0,.int .i64 0,.bool false]),3,40):=by kernel_rfl
  obtain⟨i,p,e⟩:=D1Q.1 h;simp only[Prod.mk.injEq]at e;exact⟨i,p,e.1,e.2.1,e.2.2⟩
 have r:Tryz.prog.follows .mixedOrders=true:=by kernel_rfl
 have x:=Tryz.underlying110;have a1:=Tryz.isAgg110;have M:=Tryz.sizeOf110;have v1:=Tryz.zeroValue110;have O:=run_underlying x;have y:=Tryz.underlying3;have a3:=Tryz.isAgg3;have T:=Tryz.sizeOf3;have v3:=Tryz.zeroValue3;have U:=run_underlying y;have I:=Tryz.underlying4;have a4:=Tryz.isAgg4;have V:=Tryz.sizeOf4;have v4:=Tryz.zeroValue4;have W:=run_underlying I;have J:=Tryz.underlying25;have X:=Tryz.isAgg25;have Y:=Tryz.sizeOf25;have v6:=Tryz.zeroValue25;have u6:=run_underlying J;have h1: ¬((n:Int)<0):=by omega
 have h3:RowKit.wrap64 ((n:Int)-0)=(n:Int):=by unfold RowKit.wrap64;omega
 have h4:(n:Int) > 0:=by omega
 have j:=Lib.run_append_nil_zeros w 110 3 110 25 i _ .i64 .i64 x y p A n hn (by omega) (by omega) (by rw[q];omega);obtain⟨G,u⟩: ∃G,G=grownCap w n 0 25:=⟨_,rfl⟩
 have o:n≤grownCap w n 0 25:=grownCap_ge w _ _ _;have z:G≤9223372036854775807:=by
  have:=grownCap_le_maxLen w n 0 25 (by unfold maxLen;omega);rw[←u]at this;unfold maxLen at this;omega
 rw[←u]at j o;obtain⟨cs,m⟩: ∃cs,cs=Builtin.zeroCells (Value.agg #[.slice none 0 0,.int .i64 0,.bool false]).cells n++Builtin.zeroCells (Value.agg #[.slice none 0 0,.int .i64 0,.bool false]).cells (G-n):=⟨_,rfl⟩
 have hsz:cs.size=G*3:=by
  rw[m,Array.size_append,size_zeroCells,size_zeroCells];show n*3+(G-n)*3=G*3;omega
 rw[←m]at j;clear u m
 go_enter Tryz.func189,Tryz.ntmps189
 go_wp2_with (at_builtin;refine Lib.wpList_append_run _ rfl _ _ _ _ rfl _ _ rfl rfl _ _ j ?_)
 all_goals (go_ret;exact⟨cs,G,rfl,rfl,by first|exact hsz|simpa using hsz,o⟩)
end
section
open Go Go.Av Go.Lin
theorem B65{Q}(H:Heap)(h:Q .nilsl H):D7 189 [.nilsl,.int .i64 0] H Q:=by
 refine A9 [] A6 Tryz.func189 rfl ?_;simp only[go_sem,seval,Tryz.results189];repeat' (first|with_reducible apply D1H|simp only[go_sem,seval]|simp(disch:=omega) only[A4])
 all_goals exact D2m h
theorem B3Z{Q}(n:Nat)(hb:n*40≤140737488355328)(H:Heap)(p:n=0→Q .nilsl H)(h:n≠0→∀b,H b=none→Q (.vec b 3 0 0) (H.set b (.vec 3 []))):D7 189 [.nilsl,.int .i64 n] H Q:=by
 by_cases hn:n=0
 ·subst hn;exact B65 H (p rfl)
 ·refine⟨by kernel_rfl,fun w vs hl hr hs=>?_⟩;obtain⟨a,b,rfl,q,m⟩:=A0E hl hr;have r:a= .slice none 0 0:=by cases q;rfl
  rw[r,m.int_inv];refine(B95 n (by omega) hb w).mono ?_;rintro e w' ⟨cs,G,rfl,rfl,hsz,u⟩;have o:=hs.same (w':=w.drew) rfl (Ext.drewN H w 1);obtain⟨d,H',x,y,z,A,I⟩:=y8 (w:=w.drew) (K:=Q) o (sz:=3) (es:=[]) (vs:=cs) 25 0 G (by omega) ⟨by simp,fun i e he=>by simp at he,fun i e j d he=>by simp at he,fun i e j d he=>by simp at he⟩ (D1c _) hsz (fun b hb=>h hn b hb);exact⟨_,rfl,d,H',x,y,(Ext.drewN H w 1).trans (D2o _ _) z,A,I⟩
theorem A7y{Q}(l m:List LinV)(hb:(l.length+m.length)*40≤140737488355328)(H:Heap)(h:Q (.sl 3 (Rw E8 (l++m))) H):D7 152 [.sl 1 [[.sl 3 (Rw E8 l)],[.sl 3 (Rw E8 m)]]] H Q:=by
 refine A9 [] A6 Tryz.func152 rfl ?_;simp only[go_sem,seval,Tryz.results152];refine C8 [0,9,10] (fun(p:Nat×Int)=>[(11,.int .i64 p.1),(3,.int .i64 p.2)]) (fun(p:Nat×Int)=>H) (fun(p:Nat×Int)=>p.1≤2∧(p.1=0→p.2=0)∧(p.1=1→p.2=l.length)∧(p.1=2→p.2=(l.length:Int)+m.length)) (fun(p:Nat×Int)=>2-p.1) ((0,0)) (⟨by simp,by simp,by simp,by simp⟩) (by(try simp only[go_sem,seval])<;>(try simp(disch:=omega) [A4])) (by first|exact D2i _|exact A0 (by assumption)|exact B9 (by assumption)|simp only[Heap.Le,Heap.set,Heap.del]at* <;>grind) ?_;rintro G rfl ⟨k,z⟩ ⟨r,j,o,q⟩;simp only at r j o q
 match k,r,j,o,q with
 |0,r,j,o,q=>
  have u:=j rfl;subst u;repeat' (first|with_reducible apply D1H|simp only[go_sem,seval,D1q]|simp(disch:=omega) only[A4]|intro i|omega)
  exact C4 (1,(l.length:Int)) ⟨by simp,by simp,by simp,by simp⟩ (by simp) (by(try simp only[go_sem,seval])<;>(try simp(disch:=omega) [A4])) (D2i _)
 |1,r,j,o,q=>
  have u:=o rfl;subst u;repeat' (first|with_reducible apply D1H|simp only[go_sem,seval,D1q,D1r]|simp(disch:=omega) only[A4]|intro i|omega)
  exact C4 (2,(l.length:Int)+m.length) ⟨by simp,by simp,by simp,by simp⟩ (by simp) (by(try simp only[go_sem,seval])<;>(try simp(disch:=omega) [A4])) (D2i _)
 |2,r,j,o,q=>
  have u:=q rfl;subst u;have I:(l.length:Int)+m.length=((l.length+m.length:Nat):Int):=by omega
  by_cases x:l.length+m.length=0
  ·have el:l= []:=D1f (by omega);have J:m= []:=D1f (by omega);subst el;subst J;repeat' (first|with_reducible apply D1H|simp only[go_sem,seval,I]|intro i|omega)
   refine B3Z 0 (by omega) H (fun _=>?_) (fun e=>absurd rfl e);repeat' simp only[go_sem,seval]
   refine C8 [25,26] (fun(k:Nat)=>[(27,.int .i64 k),(6,.nilsl)]) (fun(k:Nat)=>H) (fun(k:Nat)=>k≤2) (fun(k:Nat)=>2-k) (0) (by omega) (by(try simp only[go_sem,seval])<;>(try simp(disch:=omega) [A4])) (by first|exact D2i _|exact A0 (by assumption)|exact B9 (by assumption)|simp only[Heap.Le,Heap.set,Heap.del]at* <;>grind) ?_;rintro G rfl k hk
   match k,hk with
   |0,_=>
    repeat' (first|with_reducible apply D1H|simp only[go_sem,seval,D1q,A0j]|simp(disch:=omega) only[A4]|intro i|omega)
    exact C4 1 (by omega) (by omega) (by(try simp only[go_sem,seval])<;>(try simp(disch:=omega) [A4])) (D2i _)
   |1,_=>
    repeat' (first|with_reducible apply D1H|simp only[go_sem,seval,D1q,D1r,A0j]|simp(disch:=omega) only[A4]|intro i|omega)
    exact C4 2 (by omega) (by omega) (by(try simp only[go_sem,seval])<;>(try simp(disch:=omega) [A4])) (D2i _)
   |2,_=>
    repeat' (first|with_reducible apply D1H|simp only[go_sem,seval]|intro i|omega)
    exact Fin.out (n:=0) (ob:=none) rfl rfl (D2j (D2i _) h)
   |k+3,hk=>omega
  repeat' (first|with_reducible apply D1H|simp only[go_sem,seval,I]|intro i|omega)
  refine B3Z _ hb H (fun e=>absurd e x) fun _ b y=>?_;repeat' simp only[go_sem,seval]
  refine C8 [25,26] (fun(p:Nat×Nat×List LinV)=>[(27,.int .i64 p.1),(6,.vec p.2.1 3 0 p.2.2.length)]) (fun(p:Nat×Nat×List LinV)=>H.set p.2.1 (.vec 3 (Rw E8 p.2.2))) (fun(p:Nat×Nat×List LinV)=>p.1≤2∧H p.2.1=none∧(p.1=0→p.2.2= [])∧(p.1=1→p.2.2=l)∧(p.1=2→p.2.2=l++m)) (fun(p:Nat×Nat×List LinV)=>2-p.1) ((0,b,[])) (⟨by simp,y,by simp,by simp,by simp⟩) (by(try simp only[go_sem,seval])<;>(try simp(disch:=omega) [A4])) (by first|exact D2i _|exact A0 (by assumption)|exact B9 (by assumption)|simp only[Heap.Le,Heap.set,Heap.del]at* <;>grind) ?_;rintro G rfl ⟨k,c,X⟩ ⟨r,hc,j,o,q⟩;simp only at r hc j o q
  match k,r,j,o,q with
  |0,r,j,o,q=>
   have u:=j rfl;subst u;repeat' (first|with_reducible apply D1H|simp only[go_sem,seval,D1q,E9 hc]|simp(disch:=omega) only[A4]|intro i|omega)
   rename_i A;exact C4 (1,A,l) ⟨by simp,i,by simp,by simp,by simp⟩ (by simp) (by(try simp only[go_sem,seval])<;>(try simp(disch:=omega) [A4])) (D2i _)
  |1,r,j,o,q=>
   have u:=(o rfl).symm;subst u;repeat' (first|with_reducible apply D1H|simp only[go_sem,seval,D1q,D1r,E9 hc]|simp(disch:=omega) only[A4]|intro i|omega)
   rename_i A;exact C4 (2,A,l++m) ⟨by simp,i,by simp,by simp,by simp⟩ (by simp) (by(try simp only[go_sem,seval,D1N])<;>(try simp(disch:=omega) [A4])) (by simp only[];rw[←O7,D1W (by rw[D6];exact D1b _)];exact D2i _)
  |2,r,j,o,q=>
   have u:=q rfl;subst u;repeat' (first|with_reducible apply D1H|simp only[go_sem,seval]|intro i|omega)
   exact Fin.out (ob:=some c) (by rw[D6,D1N]) (A3 _ _) (D2j (by show H.Le ((H.set c _).del c);rw[E9 hc];exact D2i _) h)
end
section
open Go Go.Shelf Go.RowKit
end
section
open Go Go.Av Go.Lin
end
end Go.Proofs.YtibphjonmikciaaGreatDoor
namespace Go.Lin
open Go Go.Av
theorem A7z:C5 0= [.bool false,.sl 1 []]:=by
 unfold C5;rw[show (0:Int).natAbs=0 from rfl,J6];rfl
theorem B2M{es es':List (List D)}(hl:es.length=es'.length)(h: ∀(i:Nat) e e',es[i]? =some e→es'[i]? =some e'→e=e'∨(e=zB∧e'=C5 0)):NilR (.sl 2 es) (.sl 2 es'):=by
 refine .sl 2 es es' hl (fun i e e' h1 p=>?_) (fun i e e' j d d' h1 p o m=>?_)
 ·rcases h i e e' h1 p with rfl|⟨rfl,rfl⟩
  ·rfl
  ·rw[A7z];rfl
 ·rcases h i e e' h1 p with rfl|⟨rfl,rfl⟩
  ·rw[o]at m;cases m;exact .same _
  ·rw[A7z]at m
   match j with
   |0=>cases o;cases m;exact .same _
   |1=>cases o;cases m;exact .nil _
   |j+2=>cases o
theorem B4m(c:List Int):NilR (.sl 2 (Rw C5 c++[zB])) (.sl 2 (Rw C5 (c++[0]))):=by
 refine B2M (by simp[Rw]) fun i e e' h1 h=>?_;rw[←O7]at h;by_cases m:i<c.length
 ·rw[D2B (by rw[D6];exact m)]at h1 h;rw[h1]at h;cases h;exact .inl rfl
 ·rw[D2C (by rw[D6];omega),D6]at h1 h;by_cases j:i-c.length=0
  ·rw[j]at h1 h;cases h1;cases h;exact .inr ⟨rfl,rfl⟩
  ·obtain⟨q,hq⟩: ∃q,i-c.length=q+1:=⟨_,(Nat.succ_pred j).symm⟩
   rw[hq]at h1;cases h1
theorem B4n{a a':D}{ds:List D}(h:NilR a a'):NilR (.agg (a::ds)) (.agg (a'::ds)):=by
 refine .agg _ _ (by simp) fun i d d' h1 j=>?_
 match i with
 |0=>cases h1;cases j;exact h
 |i+1=>
  simp only[D1n]at h1 j;rw[h1]at j;cases j;exact .same _
theorem A2G{Q:D→Heap→Prop}{ds:List D}{H:Heap}{b sz n:Nat}{es:List (List D)}(hb:H b=some (.vec sz es))(hn:n=es.length)(h:Fin Q (.agg (.sl sz es::ds)) (H.del b)):Fin Q (.agg (.vec b sz 0 n::ds)) H:=by
 subst hn;refine R0 hb (by simp) (fun i d d' h1 j=>?_) h
 match i with
 |0=>cases h1;cases j;exact .all
 |i+1=>
  simp only[D1n]at h1 j;rw[h1]at j;cases j;exact .same _
end Go.Lin
namespace Go.Proofs.YtibphjonmikciaaGreatDoor
open Go Go.Av Go.Lin
attribute [local irreducible] ACalls S9
theorem B66{Q}(c:List Int)(hc:c≠[])(hl:c.length≤1000000)(H:Heap)(h: ∀(ob:Option Nat) (b:Nat),ob=some b→H b=none→Q (H8 2 c.length ob) (H.set b (.vec 2 (Rw C5 c)))):D7 257 [.sl 2 (Rw C5 c)] H Q:=by
 refine A9 [] A6 Tryz.func257 rfl ?_;simp only[go_sem,seval,Tryz.results257];have m:Rw C5 c≠[]:=fun e=>hc (D1f (by rw[←D6 (f:=C5),e];rfl));have hq: ∀(x:Nat),K7 Tryz.prog .eql 240 (J3 (.tmp x)||J3 (.const (.slice none 0 0))) (.sl 2 (Rw C5 c)) .nilsl=some (.bool false):=fun x=>A3W m (by kernel_rfl);repeat' (first|with_reducible apply D1H|simp only[go_sem,seval,hq]|intro i|omega)
 rename_i o q p;have j:=i;clear i;have hs:(H.set o (.vec 2 [])).del o=H:=E9 q;rw[hs]at j⊢;exact D2m (h (some p) p rfl j)
theorem C30{Q}(r:Row)(hc:r.c≠[])(hl:r.c.length≤1000000)(H:Heap)(h:Q (.agg (C6 (A2n r))) H):D7 256 [.agg (C6 r)] H Q:=by
 refine A9 [] A6 Tryz.func256 rfl ?_;simp only[go_sem,seval,Tryz.results256];intro i h1 j u;simp only[A5]at u;have e1:((H.set i (.box (C6 r))).set j (.box [.nilsl,.bool false,.nilsl,.bool false])) i=some (.box (C6 r)):=by rw[A2 _ u.1.symm,A3]
 have e2:((H.set i (.box (C6 r))).set j (.box [.nilsl,.bool false,.nilsl,.bool false])) j=some (.box [.nilsl,.bool false,.nilsl,.bool false]):=A3 _ _;have x:H.Le ((H.set i (.box (C6 r))).set j (.box [.nilsl,.bool false,.nilsl,.bool false])):=(A0 h1).trans (A0 (by simp only[A5];exact u));have n1:i≠j:=u.1.symm;generalize (H.set i (.box (C6 r))).set j (.box [.nilsl,.bool false,.nilsl,.bool false])=Bs at e1 e2 x⊢;repeat' simp only[go_sem,seval,e1]
 refine B66 _ hc hl _ fun ob bv m A=>?_;have o3:=O3.put (H:=Bs) (sz:=2) (es:=Rw C5 r.c) (ob:=some bv) (by simp) (fun b e=>by cases e;exact A);rw[←m]at o3;have y:putB Bs 2 (Rw C5 r.c) ob=Bs.set bv (.vec 2 (Rw C5 r.c)):=by rw[m];rfl
 rw[y]at o3;generalize Bs.set bv (.vec 2 (Rw C5 r.c))=Hp at o3⊢;clear m y;repeat' (first|simp only[go_sem,seval]|(intro p;try simp only[A5]at p))
 rename_i bx;have z:=p;clear p;refine O3.ap o3 (e1':=Rw C5 r.c++[zB]) (D2i _) z (by simp) (by rw[D6]) (by simp only[D1M,D1O];omega) (by simp only[D1M,D1O];omega) rfl fun G H' q=>?_;clear o3 z;have c1:=q.le _ _ e1;have M:=q.le _ _ e2;have I:G≠i:=fun g=>by have:=q.n1 _ rfl;rw[g,e1]at this;cases this
 have J:G≠j:=fun g=>by have:=q.n1 _ rfl;rw[g,e2]at this;cases this
 repeat' simp only[go_sem,seval,c1,M,A2 _ n1,A2 _ n1.symm]
 refine A2G (es:=Rw C5 r.c++[zB]) (by rw[A2 _ J,A2 _ I];exact q.a1) (by rw[D1N,D6];rfl) (E5 (B4n (B4m r.c)) (D2j (fun k o hk=>?_) h));have O:k≠i:=fun g=>by rw[g,h1]at hk;cases hk
 have T:k≠j:=fun g=>by rw[g,u.2]at hk;cases hk
 have hB:=x _ _ hk;have U:k≠G:=fun g=>by have:=q.n1 _ rfl;rw[←g,hB]at this;cases this
 rw[D0 U,A2 _ T,A2 _ O];exact q.le _ _ hB
end Go.Proofs.YtibphjonmikciaaGreatDoor
namespace Go.Lin
open Go Go.Av Go.Lexs
structure ZR where
 es:List (List D)
 r:Row
def zrC(z:ZR):List D:=[.sl 2 z.es,.bool (decide (z.r.k<0)),.sl 1 (Rw F4 (C2 z.r.k.natAbs)),.bool z.r.eq]
def zOk(z:ZR):Prop:=NilR (.sl 2 z.es) (.sl 2 (Rw C5 z.r.c))
theorem B4o(l:List ZR)(h: ∀z∈l,zOk z):NilR (.sl 4 (Rw zrC l)) (.sl 4 (Rw C6 (l.map (·.r)))):=by
 have e:Rw C6 (l.map (·.r))=Rw (fun z:ZR=>C6 z.r) l:=by simp[Rw]
 rw[e];refine NilR.rw 4 l (fun z m=>rfl) fun z m j d d' h1 i=>?_
 match j with
 |0=>cases h1;cases i;exact h z m
 |1=>cases h1;cases i;exact .same _
 |2=>cases h1;cases i;exact .same _
 |3=>cases h1;cases i;exact .same _
 |j+4=>cases h1
def j5(names:List ByteArray)(ts:List LTm):List (List D):=names.map fun s=>match ts.find? (fun t=>decide (t.v=s))with|some t=>C5 t.c|none=>zB
theorem B4p(h:List ByteArray):j5 h []=List.replicate h.length zB:=by
 unfold j5;simp only[List.find?_nil];rw[List.map_const']
theorem B0t(h:List ByteArray)(i:List LTm):(j5 h i).length=h.length:=by simp[j5]
theorem B67(h:List ByteArray)(j:List LTm)(i:Nat)(m:i<h.length)(hn: ∀t∈j,t.v≠h[i]):(j5 h j)[i]? =some zB∧(j5 h j).getD i []=zB:=by
 have o:j.find? (fun t=>decide (t.v=h[i]))=none:=by
  rw[List.find?_eq_none];intro t ht;simp[hn t ht]
 have:(j5 h j)[i]? =some zB:=by
  unfold j5;rw[D1e,D1Y m,Option.map_some,o]
 exact⟨this,by rw[List.getD_eq_getElem?_getD,this];rfl⟩
theorem B68(h:List ByteArray)(m:List LTm)(t:LTm)(i:Nat)(r:i<h.length)(he:h[i]=t.v)(o:h.Nodup)(hn: ∀x∈m,x.v≠t.v):(j5 h m).set i (C5 t.c)=j5 h (m++[t]):=by
 apply D2c
 ·simp[j5]
 ·intro j h1 z;have u:j<h.length:=by simpa [j5]using z
  by_cases e:i=j
  ·subst e;rw[List.getElem_set_self];have y:m.find? (fun x=>decide (x.v=h[i]))=none:=by
    rw[List.find?_eq_none];intro x hx;simp[he,hn x hx]
   simp only[j5,D17,List.find?_append,y];simp[he]
  ·rw[List.getElem_set_ne e];have p:t.v≠h[j]:=fun g=>by
    rw[←he]at g;have hp:=List.pairwise_iff_getElem.1 o;rcases Nat.lt_or_gt_of_ne e with q|q
    ·exact hp i j r u q g
    ·exact hp j i u r q g.symm
   simp only[j5,D17,List.find?_append];cases y:m.find? (fun x=>decide (x.v=h[j]))with
   |some x=>simp
   |none=>simp[p]
theorem B4q(l:List LTm)(s:ByteArray):B0a l s=match l.find? (fun t=>decide (t.v=s))with|some t=>t.c|none=>0:=by
 induction l with
 |nil=>rfl
 |cons t l i=>
  rw[B0a,List.find?_cons];by_cases h:t.v=s
  ·simp[h]
  ·simp[h,i]
theorem B69(h:List ByteArray)(m:List LTm):NilR (.sl 2 (j5 h m)) (.sl 2 (Rw C5 (h.map (B0a m)))):=by
 refine B2M (by simp[j5,Rw]) fun i e e' h1 o=>?_;simp only[j5,Rw,D1e,D1Q]at h1 o;obtain⟨s,hs,rfl⟩:=h1;obtain⟨x,⟨p,j,rfl⟩,rfl⟩:=o;rw[hs]at j;cases j;rw[B4q];cases m.find? (fun t=>decide (t.v=s))with
 |some t=>exact .inl rfl
 |none=>exact .inr ⟨rfl,rfl⟩
theorem B0u(n i:Nat)(s:Int)(o:i<n):NilR (.sl 2 ((List.replicate n zB).set i (C5 s))) (.sl 2 (Rw C5 (A7o n i s))):=by
 refine B2M (by simp[Rw,A7o]) fun j e e' h1 h=>?_;have m:j<n:=by have:=(D1R.1 h1).1;simpa using this
 simp only[Rw,A7o,D1e,D1Q]at h;obtain⟨x,⟨k,hk,rfl⟩,rfl⟩:=h;rw[List.getElem?_range m]at hk;cases hk;by_cases g:i=j
 ·subst g;rw[List.getElem?_set_self (by simpa using o)]at h1;cases h1;rw[if_pos rfl];exact .inl rfl
 ·rw[List.getElem?_set_ne g]at h1;simp[m]at h1;rw[if_neg (fun q=>g q.symm)];exact .inr ⟨h1.symm,rfl⟩
section
variable {P:Program} {t:Nat} {c:Bool}
@[go_sem] theorem C9i(a:Int):K7 P .shr t c (.int .u64 a) (.int .u64 1)=some (.int .u64 (a / 2)):=by
 show (if(1:Int)<0 then none else some (D.int .u64 (a.fdiv (2 ^ (min (1:Int).toNat IntKind.u64.bits)))))=_;rw[if_neg (by decide)];have e:(2:Int) ^ (min (1:Int).toNat IntKind.u64.bits)=2:=by decide
 rw[e,Int.fdiv_eq_ediv_of_nonneg _ (by decide)]
end
theorem B7A: ∀(x y:List UInt8),decide (Lib.compareBytes x y<0)=Op.bytesLess x y
 | [],[]=>rfl
 | [],y::i=>rfl
 |x::xs,[]=>rfl
 |x::xs,y::i=>by
  unfold Lib.compareBytes Op.bytesLess;have j:=B7A xs i;by_cases h1:x<y
  ·simp[h1]
  ·by_cases h:y<x
   ·have:x≠y:=fun e=>by subst e;exact h1 h
    simp[h1,h,this]
   ·have:x=y:=UInt8.le_antisymm (UInt8.not_lt.1 h) (UInt8.not_lt.1 h1);simp[h1,h,this,j]
theorem B3a: ∀(x y:List UInt8),decide (Lib.compareBytes x y=0)=decide (x=y)
 | [],[]=>rfl
 | [],y::i=>rfl
 |x::xs,[]=>rfl
 |x::xs,y::i=>by
  unfold Lib.compareBytes;have j:=B3a xs i;by_cases h1:x<y
  ·have:x≠y:=fun e=>by subst e;exact absurd h1 (UInt8.lt_irrefl _)
   simp[h1,this]
  ·by_cases h:y<x
   ·have:x≠y:=fun e=>by subst e;exact absurd h h1
    simp[h1,h,this]
   ·have:x=y:=UInt8.le_antisymm (UInt8.not_lt.1 h) (UInt8.not_lt.1 h1);subst this;simp[UInt8.lt_irrefl];simpa using j
end Go.Lin
namespace Go.Proofs.YtibphjonmikciaaGreatDoor
open Go Go.Av Go.Lexs Go.Lin
attribute [local irreducible] ACalls S9
theorem B7B{Q}(s:ByteArray)(H:Heap)(h:Q (.bool false) H):D7 208 [.str s] H Q:=by
 refine A9 [] A6 Tryz.func208 rfl ?_;simp only[go_sem,seval,Tryz.results208];repeat' (first|with_reducible apply D1H|simp only[go_sem,seval]|intro i|omega)
 exact D2m h
theorem B3b{Q}(x y:ByteArray)(H:Heap)(h:Q (.bool (q9 x y)) H):D7 166 [.str x,.str y] H Q:=by
 refine A9 [] A6 Tryz.func166 rfl ?_;simp only[go_sem,seval,Tryz.results166];repeat' (first|simp only[go_sem,seval]|with_reducible refine B7B _ _ ?_)
 exact D2m h
theorem B4r{Q}(ns:List ByteArray)(A:ns.Pairwise fun x y=>q9 x y=true)(s:ByteArray)(i:Nat)(z:i<ns.length)(he:ns[i]=s)(hlen:ns.length≤1000000000)(H:Heap)(h:Q (.tuple [.int .i64 (i:Int),.bool true]) H):
  D7 229 [.sl 1 (Rw j9 ns),.str s] H Q:=by
 refine A9 [] A6 Tryz.func229 rfl ?_;simp only[go_sem,seval,Tryz.results229];have r:=List.pairwise_iff_getElem.1 A;repeat' (first|with_reducible apply D1H|simp only[go_sem,seval]|simp(disch:=omega) only[A4,B3]|intro V|omega)
 refine C8 [0,1,6] (fun(p:Nat×Nat)=>[(7,.int .i64 (p.1:Int)),(8,.int .i64 (p.2:Int))]) (fun(p:Nat×Nat)=>H) (fun(p:Nat×Nat)=>p.1≤i∧i≤p.2∧p.2≤ns.length) (fun(p:Nat×Nat)=>p.2-p.1) ((0,ns.length)) (⟨D1c _,by omega,D1b _⟩) (by(try simp only[go_sem,seval])<;>(try simp(disch:=omega) [A4])) (by first|exact D2i _|exact A0 (by assumption)|exact B9 (by assumption)|simp only[Heap.Le,Heap.set,Heap.del]at* <;>grind) ?_;rintro Y rfl ⟨lo,j⟩ ⟨J,M,O⟩;simp only at J M O;by_cases W:lo<j
 ·have q:decide ((lo:Int)<j)=true:=D1J (by omega);obtain⟨m,hm⟩: ∃m,m=(lo+j) / 2:=⟨_,rfl⟩
  have o:m<ns.length:=by omega
  have u:(m:Int)<ns.length:=by omega
  have T:IntKind.u64.wrap ((lo:Int)+j) / 2=(m:Int):=by rw[A0P (by omega) (by omega)];omega
  have U:IntKind.i64.wrap (m:Int)=m:=by rw[A4 (by omega) (by omega)]
  have hc:q9 ns[m] s=decide (m<i):=by
   by_cases g:m<i
   ·rw[D1J g,←he];exact r m i o z g
   ·rw[D1K g,←he];rcases Nat.lt_or_eq_of_le (Nat.le_of_not_lt g)with G|G
    ·have:=r i m z o G;rw[←D2d];intro X;have:=Y8 this X;rw[s8]at this;cases this
    ·simp only[G];exact s8 _
  by_cases g:m<i
  ·rw[D1J g]at hc;repeat' (first|with_reducible apply D1H|simp only[go_sem,seval,q,T,U,u,B3 _ _ o,C3 _ _ o,hc]|simp(disch:=omega) only[A4,B3]|with_reducible refine B3b _ _ _ ?_|omega)
   exact C4 (m+1,j) ⟨by simp only[];omega,M,O⟩ (by simp only[];omega) (by(try simp only[go_sem,seval])<;>(try simp(disch:=omega) [A4])) (D2i _)
  ·rw[D1K g]at hc;repeat' (first|with_reducible apply D1H|simp only[go_sem,seval,q,T,U,u,B3 _ _ o,C3 _ _ o,hc]|simp(disch:=omega) only[A4,B3]|with_reducible refine B3b _ _ _ ?_|omega)
   exact C4 (lo,m) ⟨J,by simp only[];omega,by simp only[];omega⟩ (by simp only[];omega) (by simp only[go_sem,seval]) (D2i _)
 ·have q:decide ((lo:Int)<j)=false:=D1K (by omega);have e:lo=i:=by omega
  subst e;have I:(lo:Int)<ns.length:=by omega
  repeat' (first|with_reducible apply D1H|simp only[go_sem,seval,q,I,B3 _ _ z,C3 _ _ z,he]|omega)
  exact D2m h
theorem B2N{Q}(x:VlV)(s:ByteArray)(H:Heap)(h:Q (.int .i64 (Lib.compareBytes (B x.v) (B s))) H):D7 105 [.agg (vlC x),.str s] H Q:=by
 refine A9 [] A6 Tryz.func105 rfl ?_;simp only[go_sem,seval,Tryz.results105];repeat' (first|simp only[go_sem,seval]|intro i|with_reducible refine B4d _ _ _ ?_)
 exact D2j (by simp only[F0,D3,D4]at* <;>grind) h
def C9j(l:List VlV)(s:ByteArray)(i:Nat):Prop:=i≤l.length∧(∀(k:Nat) (hk:k<l.length),k<i→q9 l[k].v s=true)∧∀hk:i<l.length,q9 l[i].v s=false
theorem B2O{Q}(l:List VlV)(hv:N2 l=true)(s:ByteArray)(hlen:l.length≤1000000000000000)(H:Heap)(h: ∀i,C9j l s i→Q (.tuple [.int .i64 (i:Int),.bool (if hk:i<l.length then decide (l[i].v=s)else false)]) H):
  D7 104 [.sl 2 (Rw vlC l),.str s,.fn (.func 105) [] []] H Q:=by
 refine A9 [] A6 Tryz.func104 rfl ?_;simp only[go_sem,seval,Tryz.results104];have y:=A7n hv;repeat' (first|with_reducible apply D1H|simp only[go_sem,seval]|simp(disch:=omega) only[A4,B3]|intro O|omega)
 refine C8 [0,1,2,8] (fun(p:Nat×Nat)=>[(9,.int .i64 (p.1:Int)),(10,.int .i64 (p.2:Int))]) (fun(p:Nat×Nat)=>H) (fun(p:Nat×Nat)=>p.1≤p.2∧p.2≤l.length∧(∀(k:Nat) (hk:k<l.length),k<p.1→q9 l[k].v s=true)∧∀(k:Nat) (hk:k<l.length),p.2≤k→q9 l[k].v s=false) (fun(p:Nat×Nat)=>p.2-p.1) ((0,l.length)) (⟨D1c _,D1b _,fun k _ h=>absurd h (Nat.not_lt_zero _),fun k hk h=>absurd hk (by simp only[]at h;omega)⟩) (by(try simp only[go_sem,seval])<;>(try simp(disch:=omega) [A4])) (by first|exact D2i _|exact A0 (by assumption)|exact B9 (by assumption)|simp only[Heap.Le,Heap.set,Heap.del]at* <;>grind) ?_;rintro W rfl ⟨lo,j⟩ ⟨T,A,G,I⟩;simp only at T A G I;by_cases U:lo<j
 ·have q:decide ((lo:Int)<j)=true:=D1J (by omega);obtain⟨m,hm⟩: ∃m,m=(lo+j) / 2:=⟨_,rfl⟩
  have o:m<l.length:=by omega
  have z:(m:Int)<l.length:=by omega
  have J:IntKind.u64.wrap ((lo:Int)+j) / 2=(m:Int):=by rw[A0P (by omega) (by omega)];omega
  have M:IntKind.i64.wrap (m:Int)=m:=by rw[A4 (by omega) (by omega)]
  have hc:decide (Lib.compareBytes (B l[m].v) (B s)<0)=q9 l[m].v s:=B7A _ _;cases g:q9 l[m].v s with
  |true=>
   rw[g]at hc;repeat' (first|with_reducible apply D1H|simp only[go_sem,seval,q,J,M,z,B3 _ _ o,C3 _ _ o,hc]|simp(disch:=omega) only[A4,B3]|with_reducible refine B2N _ _ _ ?_|omega)
   refine C4 (m+1,j) ⟨by simp only[];omega,A,fun k hk r=>?_,I⟩ (by simp only[];omega) (by(try simp only[go_sem,seval])<;>(try simp(disch:=omega) [A4])) (D2i _);simp only[]at r;rcases Nat.lt_or_ge k m with x|x
   ·exact Y8 (y k m hk o x) g
   ·have:k=m:=by omega
    subst this;exact g
  |false=>
   rw[g]at hc;repeat' (first|with_reducible apply D1H|simp only[go_sem,seval,q,J,M,z,B3 _ _ o,C3 _ _ o,hc]|simp(disch:=omega) only[A4,B3]|with_reducible refine B2N _ _ _ ?_|omega)
   refine C4 (lo,m) ⟨by simp only[];omega,by simp only[];omega,G,fun k hk r=>?_⟩ (by simp only[];omega) (by simp only[go_sem,seval]) (D2i _);simp only[]at r;rcases Nat.lt_or_eq_of_le r with x|x
   ·rw[←D2d];intro V;have:=Y8 (y m k o hk x) V;rw[g]at this;cases this
   ·subst x;exact g
 ·have q:decide ((lo:Int)<j)=false:=D1K (by omega);have e:lo=j:=by omega
  subst e;have h:=h lo ⟨A,G,fun hk=>I lo hk (D1b _)⟩;by_cases hl:lo<l.length
  ·have u:(lo:Int)<l.length:=by omega
   have hc:decide (Lib.compareBytes (B l[lo].v) (B s)=0)=decide (l[lo].v=s):=by
    rw[B3a];exact D1u.2 ⟨fun g=>l7 g,fun g=>by rw[g]⟩
   rw[dif_pos hl]at h;repeat' (first|with_reducible apply D1H|simp only[go_sem,seval,q,u,B3 _ _ hl,C3 _ _ hl,hc]|with_reducible refine B2N _ _ _ ?_|omega)
   exact D2m h
  ·have u: ¬(lo:Int)<l.length:=by omega
   rw[dif_neg hl]at h;repeat' simp only[go_sem,seval,q,u]
   exact D2m h
theorem B0v{Q}(l:List VlV)(hv:N2 l=true)(s:ByteArray)(hlen:l.length≤1000000000000000)(H:Heap)(h:Q (.tuple [.int .i64 ((P1 l s).getD 0),.bool (P1 l s).isSome]) H):D7 62 [.sl 2 (Rw vlC l),.str s] H Q:=by
 refine A9 [] A6 Tryz.func62 rfl ?_;simp only[go_sem,seval,Tryz.results62];repeat' (first|with_reducible apply D1H|simp only[go_sem,seval]|simp(disch:=omega) only[B3,A8z]|intro m|omega)
 refine B2O l hv s hlen _ fun i hp=>?_;obtain⟨o,p,q⟩:=hp;rw[A8z hv o p q]at h;by_cases hl:i<l.length
 ·have j:(i:Int)<l.length:=by omega
  rw[dif_pos hl]at h⊢;by_cases g:l[i].v=s
  ·rw[if_pos g]at h;rw[D1J g];simp only[Option.getD_some,Option.isSome_some]at h;repeat' (first|with_reducible apply D1H|simp only[go_sem,seval,j,B3 _ _ hl,C3 _ _ hl]|omega)
   exact D2m h
  ·rw[if_neg g]at h;rw[D1K g];simp only[Option.getD_none,Option.isSome_none]at h;repeat' simp only[go_sem,seval]
   exact D2m h
 ·rw[dif_neg hl]at h⊢;simp only[Option.getD_none,Option.isSome_none]at h;repeat' simp only[go_sem,seval]
  exact D2m h
end Go.Proofs.YtibphjonmikciaaGreatDoor
namespace Go.Lin
open Go Go.Av
theorem B96{H:Heap}{sz:Nat}{es:List (List D)}{ob:Option Nat}(h: ∀b,ob=some b→H b=none):H.Le (putB H sz es ob):=by
 cases ob with
 |none=>exact D2i H
 |some b=>exact A0 (h b rfl)
theorem B3c{α :Type}(p: α →Bool): ∀l:List α,(!l.any fun x=> !p x)=l.all p
 | []=>rfl
 |x::l=>by rw[D2M,D2K,←B3c p l];cases p x<;>simp
def chT(l:List Row)(k:Nat):Ch:=(List.range k).foldl (A3i l) ⟨none,false,0⟩
@[go_sem] theorem C9k(l:List Row):L8 (chT l 0).best= -1:=rfl
@[go_sem] theorem C9l(l:List Row):(chT l 0).sure=false:=rfl
@[go_sem] theorem C9m(l:List Row):(chT l 0).cost=0:=rfl
theorem B0w(l:List Row)(k:Nat):chT l (k+1)=A3i l (chT l k) k:=by simp[chT,List.range_succ,D19]
end Go.Lin
namespace Go.Proofs.YtibphjonmikciaaGreatDoor
open Go Go.Av Go.Lin
attribute [local irreducible] ACalls S9
theorem B97{Q}(r:Row)(k b:Nat)(hk:k<r.c.length)(H:Heap)(hb:H b=some (.box [.int .i64 (k:Int)]))(h:Q (.bool (!((W3 r.c k).natAbs==1))) H):D7 286 [.agg (C6 r),.box b 0] H Q:=by
 refine A9 [] A6 Tryz.func286 rfl ?_;simp only[go_sem,seval,Tryz.results286];intro i j;have e2:(H.set i (.box (C6 r))) i=some (.box (C6 r)):=A3 _ _;have e1:(H.set i (.box (C6 r))) b=some (.box [.int .i64 (k:Int)]):=(A0 j) _ _ hb;have m:H.Le (H.set i (.box (C6 r))):=A0 j;generalize H.set i (.box (C6 r))=Bs at e1 e2 m⊢;have o:(k:Int)<r.c.length:=by omega
 rw[H9 _ _ hk]at h;have e:(!(r.c[k].natAbs==1))=(!decide (r.c[k].natAbs=1)):=by by_cases g:r.c[k].natAbs=1<;>simp[g]
 rw[e]at h;repeat' (first|with_reducible apply D1H|simp only[go_sem,seval,e1,e2,o,B3 _ _ hk,C3 _ _ hk]|with_reducible refine B0i _ _ ?_|omega)
 exact D2j m h
theorem O2{Q}(l:List Row)(k:Nat)(hlen:l.length≤1000000)(hk: ∀r∈l,k<r.c.length)(H:Heap)(h:Q (.bool (A14 l k)) H):D7 261 [.sl 4 (Rw C6 l),.int .i64 (k:Int)] H Q:=by
 refine A9 [] A6 Tryz.func261 rfl ?_;simp only[go_sem,seval,Tryz.results261];intro i j;have e3:(H.set i (.box [.int .i64 (k:Int)])) i=some (.box [.int .i64 (k:Int)]):=A3 _ _;unfold A14 at h;rw[←B3c]at h;have m: ∀a∈l,∀(Q:D→Heap→Prop),Q (.bool (!((W3 a.c k).natAbs==1))) (H.set i (.box [.int .i64 (k:Int)]))→D7 286 ([]++[.agg (C6 a)]++[.box i 0]) (H.set i (.box [.int .i64 (k:Int)])) Q:=fun a o Q hq=>B97 a k i (hk a o) _ e3 hq;repeat' (first|with_reducible apply D1H|simp only[go_sem,seval]|intro p|omega)
 refine C3z (fun r=> !((W3 r.c k).natAbs==1)) l (by omega) 286 [] [.box i 0] _ m ?_;repeat' simp only[go_sem,seval]
 exact D2j (A0 j) h
set_option maxHeartbeats 4000000 in
theorem B7C{Q}(l:List Row)(n:Nat)(hl:l≠[])(hlen:l.length≤1000000)(hw: ∀r∈l,r.c.length=n)(hn:n≤1000000)(H:Heap)(h:Q (.tuple [.int .i64 (L8 (Z5 l).best),.bool (Z5 l).sure]) H):
  D7 224 [.sl 4 (Rw C6 l)] H Q:=by
 refine A9 [] A6 Tryz.func224 rfl ?_;simp only[go_sem,seval,Tryz.results224];have U:0<l.length:=List.length_pos_iff.2 hl;have V:(0:Int)<l.length:=by omega
 have T:l[0].c.length=n:=hw _ (D1V U);have hr:Z5 l=chT l n:=by
  unfold Z5 chT;rw[show (l.headD default).c.length=n from by rw[←T];cases l with|nil=>exact absurd rfl hl|cons x l=>rfl]
 rw[hr]at h;repeat' (first|with_reducible apply D1H|simp only[go_sem,seval,V,B3 _ _ U,C3 _ _ U,T])
 refine C8 [0,15] (fun(k:Nat)=>[(16,.int .i64 k),(2,.int .i64 (L8 (chT l k).best)),(3,.bool (chT l k).sure),(4,.int .i64 (chT l k).cost)]) (fun(k:Nat)=>H) (fun(k:Nat)=>k≤n) (fun(k:Nat)=>n-k) (0) (D1c _) (by(try simp only[go_sem,seval])<;>(try simp(disch:=omega) [A4])) (by first|exact D2i _|exact A0 (by assumption)|exact B9 (by assumption)|simp only[Heap.Le,Heap.set,Heap.del]at* <;>grind) ?_;rintro Ec rfl k hk;by_cases J:k<n
 ·have M:decide ((k:Int)<n)=true:=D1J (by omega);repeat' simp only[go_sem,seval,M]
  refine B3X l k hlen (fun r hr=>by rw[hw r hr];exact J) _ fun ob _ W=>?_;have z:=B96 (sz:=4) (es:=Rw C6 (U6 l k)) W;generalize putB H 4 (Rw C6 (U6 l k)) ob=Hp at z⊢;have m1:(I9 l k).length≤1000000:=D2N (W8 _) hlen;have m2:(G2 l k).length≤1000000:=D2N (W8 _) hlen;obtain⟨p,hp⟩: ∃p,p=(I9 l k).length:=⟨_,rfl⟩
  obtain⟨q,hq⟩: ∃q,q=(G2 l k).length:=⟨_,rfl⟩
  have hs:=B0w l k;unfold A3i at hs;simp only[←hp,←hq]at hs;have G: ∀r∈I9 l k,k<r.c.length:=fun r hr=>by rw[hw r ((List.mem_filter.1 hr).1)];exact J
  have I: ∀r∈G2 l k,k<r.c.length:=fun r hr=>by rw[hw r ((List.mem_filter.1 hr).1)];exact J
  have m3:(p:Int)*q≤1000000000000:=by
   have:p*q≤1000000*1000000:=Nat.mul_le_mul (by omega) (by omega);rw[←Int.natCast_mul];omega
  have m4:(0:Int)≤(p:Int)*q:=by rw[←Int.natCast_mul];omega
  by_cases Y:p+q=0
  ·have A:(p:Int)+q=0:=by omega
   rw[if_pos Y]at hs;repeat' (first|with_reducible apply D1H|simp only[go_sem,seval,←hp,←hq,A]|simp(disch:=omega) only[A4,B3])
   refine C4 (k+1) (by omega) (by omega) (by(try simp only[go_sem,seval,hs])<;>(try simp(disch:=omega) [A4])) z
  ·have A: ¬(p:Int)+q=0:=by omega
   rw[if_neg Y]at hs;obtain⟨c,hc⟩: ∃c,c=(chT l k).cost:=⟨_,rfl⟩
   obtain⟨m,hm⟩: ∃m,m=(p:Int)*q:=⟨_,rfl⟩
   rw[←hc,←hm]at hs;rw[←hm]at m3 m4;have hu:A14 (I9 l k) k=true∨(A14 (I9 l k) k=false∧A14 (G2 l k) k=true)∨(A14 (I9 l k) k=false∧A14 (G2 l k) k=false):=by
    cases A14 (I9 l k) k<;>cases A14 (G2 l k) k<;>simp
   have O:(chT l k).best=none∨∃j,(chT l k).best=some j:=by cases (chT l k).best<;>simp
   rcases hu with u|⟨u,y⟩|⟨u,y⟩
   ·have y:True:=trivial;rcases O with hb|⟨j,hb⟩
    ·have i:True:=trivial;have hx:True:=trivial;have o:=hs;simp[u,y,hb,i,hx]at o;have o1: ∀j:Nat,¬(L8 (some j)<0):=fun j=>by show¬((j:Int)<0);omega
     have o2:L8 none= -1:=rfl;have o3:L8 (some k)=k:=rfl;repeat' (first|with_reducible apply D1H|simp only[go_sem,seval,←hp,←hq,←hc,←hm,A,u,y,hb,i,hx,o1,o2,decide_true,decide_false]|simp(disch:=omega) only[A4,B3]|with_reducible refine O2 (I9 l k) k (by omega) G _ ?_)
     refine C4 (k+1) (by omega) (by omega) (by(try simp only[go_sem,seval,o,hb,i,o2,o3,←hc])<;>(try simp(disch:=omega) [A4])) z
    ·cases i:(chT l k).sure
     ·have hx:True:=trivial;have o:=hs;simp[u,y,hb,i,hx]at o;have o1: ∀j:Nat,¬(L8 (some j)<0):=fun j=>by show¬((j:Int)<0);omega
      have o2:L8 none= -1:=rfl;have o3:L8 (some k)=k:=rfl;repeat' (first|with_reducible apply D1H|simp only[go_sem,seval,←hp,←hq,←hc,←hm,A,u,y,hb,i,hx,o1,o2,decide_true,decide_false]|simp(disch:=omega) only[A4,B3]|with_reducible refine O2 (I9 l k) k (by omega) G _ ?_)
      refine C4 (k+1) (by omega) (by omega) (by(try simp only[go_sem,seval,o,hb,i,o2,o3,←hc])<;>(try simp(disch:=omega) [A4])) z
     ·by_cases hx:m-p-q<c
      ·have o:=hs;simp[u,y,hb,i,hx]at o;have o1: ∀j:Nat,¬(L8 (some j)<0):=fun j=>by show¬((j:Int)<0);omega
       have o2:L8 none= -1:=rfl;have o3:L8 (some k)=k:=rfl;repeat' (first|with_reducible apply D1H|simp only[go_sem,seval,←hp,←hq,←hc,←hm,A,u,y,hb,i,hx,o1,o2,decide_true,decide_false]|simp(disch:=omega) only[A4,B3]|with_reducible refine O2 (I9 l k) k (by omega) G _ ?_)
       refine C4 (k+1) (by omega) (by omega) (by(try simp only[go_sem,seval,o,hb,i,o2,o3,←hc])<;>(try simp(disch:=omega) [A4])) z
      ·have o:=hs;simp[u,y,hb,i,hx]at o;have o1: ∀j:Nat,¬(L8 (some j)<0):=fun j=>by show¬((j:Int)<0);omega
       have o2:L8 none= -1:=rfl;have o3:L8 (some k)=k:=rfl;repeat' (first|with_reducible apply D1H|simp only[go_sem,seval,←hp,←hq,←hc,←hm,A,u,y,hb,i,hx,o1,o2,decide_true,decide_false]|simp(disch:=omega) only[A4,B3]|with_reducible refine O2 (I9 l k) k (by omega) G _ ?_)
       refine C4 (k+1) (by omega) (by omega) (by(try simp only[go_sem,seval,o,hb,i,o2,o3,←hc])<;>(try simp(disch:=omega) [A4])) z
   ·rcases O with hb|⟨j,hb⟩
    ·have i:True:=trivial;have hx:True:=trivial;have o:=hs;simp[u,y,hb,i,hx]at o;have o1: ∀j:Nat,¬(L8 (some j)<0):=fun j=>by show¬((j:Int)<0);omega
     have o2:L8 none= -1:=rfl;have o3:L8 (some k)=k:=rfl;repeat' (first|with_reducible apply D1H|simp only[go_sem,seval,←hp,←hq,←hc,←hm,A,u,y,hb,i,hx,o1,o2,decide_true,decide_false]|simp(disch:=omega) only[A4,B3]|with_reducible refine O2 (I9 l k) k (by omega) G _ ?_|with_reducible refine O2 (G2 l k) k (by omega) I _ ?_)
     refine C4 (k+1) (by omega) (by omega) (by(try simp only[go_sem,seval,o,hb,i,o2,o3,←hc])<;>(try simp(disch:=omega) [A4])) z
    ·cases i:(chT l k).sure
     ·have hx:True:=trivial;have o:=hs;simp[u,y,hb,i,hx]at o;have o1: ∀j:Nat,¬(L8 (some j)<0):=fun j=>by show¬((j:Int)<0);omega
      have o2:L8 none= -1:=rfl;have o3:L8 (some k)=k:=rfl;repeat' (first|with_reducible apply D1H|simp only[go_sem,seval,←hp,←hq,←hc,←hm,A,u,y,hb,i,hx,o1,o2,decide_true,decide_false]|simp(disch:=omega) only[A4,B3]|with_reducible refine O2 (I9 l k) k (by omega) G _ ?_|with_reducible refine O2 (G2 l k) k (by omega) I _ ?_)
      refine C4 (k+1) (by omega) (by omega) (by(try simp only[go_sem,seval,o,hb,i,o2,o3,←hc])<;>(try simp(disch:=omega) [A4])) z
     ·by_cases hx:m-p-q<c
      ·have o:=hs;simp[u,y,hb,i,hx]at o;have o1: ∀j:Nat,¬(L8 (some j)<0):=fun j=>by show¬((j:Int)<0);omega
       have o2:L8 none= -1:=rfl;have o3:L8 (some k)=k:=rfl;repeat' (first|with_reducible apply D1H|simp only[go_sem,seval,←hp,←hq,←hc,←hm,A,u,y,hb,i,hx,o1,o2,decide_true,decide_false]|simp(disch:=omega) only[A4,B3]|with_reducible refine O2 (I9 l k) k (by omega) G _ ?_|with_reducible refine O2 (G2 l k) k (by omega) I _ ?_)
       refine C4 (k+1) (by omega) (by omega) (by(try simp only[go_sem,seval,o,hb,i,o2,o3,←hc])<;>(try simp(disch:=omega) [A4])) z
      ·have o:=hs;simp[u,y,hb,i,hx]at o;have o1: ∀j:Nat,¬(L8 (some j)<0):=fun j=>by show¬((j:Int)<0);omega
       have o2:L8 none= -1:=rfl;have o3:L8 (some k)=k:=rfl;repeat' (first|with_reducible apply D1H|simp only[go_sem,seval,←hp,←hq,←hc,←hm,A,u,y,hb,i,hx,o1,o2,decide_true,decide_false]|simp(disch:=omega) only[A4,B3]|with_reducible refine O2 (I9 l k) k (by omega) G _ ?_|with_reducible refine O2 (G2 l k) k (by omega) I _ ?_)
       refine C4 (k+1) (by omega) (by omega) (by(try simp only[go_sem,seval,o,hb,i,o2,o3,←hc])<;>(try simp(disch:=omega) [A4])) z
   ·rcases O with hb|⟨j,hb⟩
    ·have i:True:=trivial;have hx:True:=trivial;have o:=hs;simp[u,y,hb,i,hx]at o;have o1: ∀j:Nat,¬(L8 (some j)<0):=fun j=>by show¬((j:Int)<0);omega
     have o2:L8 none= -1:=rfl;have o3:L8 (some k)=k:=rfl;repeat' (first|with_reducible apply D1H|simp only[go_sem,seval,←hp,←hq,←hc,←hm,A,u,y,hb,i,hx,o1,o2,decide_true,decide_false]|simp(disch:=omega) only[A4,B3]|with_reducible refine O2 (I9 l k) k (by omega) G _ ?_|with_reducible refine O2 (G2 l k) k (by omega) I _ ?_)
     refine C4 (k+1) (by omega) (by omega) (by(try simp only[go_sem,seval,o,hb,i,o2,o3,←hc])<;>(try simp(disch:=omega) [A4])) z
    ·cases i:(chT l k).sure
     ·by_cases hx:m-p-q<c
      ·have o:=hs;simp[u,y,hb,i,hx]at o;have o1: ∀j:Nat,¬(L8 (some j)<0):=fun j=>by show¬((j:Int)<0);omega
       have o2:L8 none= -1:=rfl;have o3:L8 (some k)=k:=rfl;repeat' (first|with_reducible apply D1H|simp only[go_sem,seval,←hp,←hq,←hc,←hm,A,u,y,hb,i,hx,o1,o2,decide_true,decide_false]|simp(disch:=omega) only[A4,B3]|with_reducible refine O2 (I9 l k) k (by omega) G _ ?_|with_reducible refine O2 (G2 l k) k (by omega) I _ ?_)
       refine C4 (k+1) (by omega) (by omega) (by(try simp only[go_sem,seval,o,hb,i,o2,o3,←hc])<;>(try simp(disch:=omega) [A4])) z
      ·have o:=hs;simp[u,y,hb,i,hx]at o;have o1: ∀j:Nat,¬(L8 (some j)<0):=fun j=>by show¬((j:Int)<0);omega
       have o2:L8 none= -1:=rfl;have o3:L8 (some k)=k:=rfl;repeat' (first|with_reducible apply D1H|simp only[go_sem,seval,←hp,←hq,←hc,←hm,A,u,y,hb,i,hx,o1,o2,decide_true,decide_false]|simp(disch:=omega) only[A4,B3]|with_reducible refine O2 (I9 l k) k (by omega) G _ ?_|with_reducible refine O2 (G2 l k) k (by omega) I _ ?_)
       refine C4 (k+1) (by omega) (by omega) (by(try simp only[go_sem,seval,o,hb,i,o2,o3,←hc])<;>(try simp(disch:=omega) [A4])) z
     ·have hx:True:=trivial;have o:=hs;simp[u,y,hb,i,hx]at o;have o1: ∀j:Nat,¬(L8 (some j)<0):=fun j=>by show¬((j:Int)<0);omega
      have o2:L8 none= -1:=rfl;have o3:L8 (some k)=k:=rfl;repeat' (first|with_reducible apply D1H|simp only[go_sem,seval,←hp,←hq,←hc,←hm,A,u,y,hb,i,hx,o1,o2,decide_true,decide_false]|simp(disch:=omega) only[A4,B3]|with_reducible refine O2 (I9 l k) k (by omega) G _ ?_|with_reducible refine O2 (G2 l k) k (by omega) I _ ?_)
      refine C4 (k+1) (by omega) (by omega) (by(try simp only[go_sem,seval,o,hb,i,o2,o3,←hc])<;>(try simp(disch:=omega) [A4])) z
 ·have M:decide ((k:Int)<n)=false:=D1K (by omega);have X:k=n:=by omega
  subst X;repeat' simp only[go_sem,seval,M]
  exact D2m h
end Go.Proofs.YtibphjonmikciaaGreatDoor
namespace Go.Lin
open Go Go.Av Go.Lexs
theorem B0x(k:Int)(l:List LTm)(vs:List VlV)(i:Nat)(h:i<l.length):U1 k (l.drop i) vs=match P1 vs l[i].v with|none=>none|some n=>U1 (k+l[i].c*n) (l.drop (i+1)) vs:=by
 rw[D1m h,U1]<;>rfl
theorem B7D{vs:List VlV}(hv:N2 vs=true){s:ByteArray}{n:Int}(h:P1 vs s=some n):n.natAbs≤2147483647:=by
 have key: ∀(m:List VlV),(∀(i:Nat) (j:i<m.length),m[i].n.natAbs≤2147483647)→P1 m s=some n→n.natAbs≤2147483647:=by
  intro m
  induction m with
  |nil=>intro _ h;cases h
  |cons x m o=>
   intro hm h;rw[P1]at h;split at h
   ·cases h;exact hm 0 (by simp)
   ·exact o (fun i j=>hm (i+1) (by simpa using j)) h
 exact key vs (fun i j=>(A8y hv j).2.1) h
structure C9n(a:LinV):Prop where
 len:a.t.length≤12
 k:a.k.natAbs≤1099511627776
 t:s9 a.t=true
theorem M4{a:LinV}(h:validL a=true):C9n a:=by
 unfold validL N7 at h;simp only[D1U,D1d]at h;exact⟨h.1.2,by omega,h.1.1⟩
theorem B7E{a b:Int}(h:a.natAbs≤1048576)(hb:b.natAbs≤2147483647):(a*b).natAbs≤2251799812636672:=by
 rw[Int.natAbs_mul];exact D2N (Nat.mul_le_mul h hb) (by decide)
end Go.Lin
namespace Go.Proofs.YtibphjonmikciaaGreatDoor
open Go Go.Av Go.Lexs Go.Lin
attribute [local irreducible] ACalls S9
theorem B98{Q}(a:LinV)(M:validL a=true)(vs:List VlV)(hv:N2 vs=true)(hlen:vs.length≤1000000000000000)(H:Heap)(h:Q (.tuple [.int .i64 ((U1 a.k a.t vs).getD 0),.bool (U1 a.k a.t vs).isSome]) H):D7 107 [.agg (E8 a),.sl 2 (Rw vlC vs)] H Q:=by
 refine A9 [] A6 Tryz.func107 rfl ?_;simp only[go_sem,seval,Tryz.results107];have ok:=M4 M;intro x y;have e1:(H.set x (.box (E8 a))) x=some (.box (E8 a)):=A3 _ _;have A:H.Le (H.set x (.box (E8 a))):=A0 y;generalize H.set x (.box (E8 a))=Bs at e1 A⊢;have O:=ok.len;have G:=ok.k;repeat' (first|with_reducible apply D1H|simp only[go_sem,seval,e1]|simp(disch:=omega) only[A4,B3]|intro q|omega)
 refine C8 [1,14,15] (fun(p:Nat×Int)=>[(16,.int .i64 p.1),(6,.int .i64 p.2)]) (fun(p:Nat×Int)=>H) (fun(p:Nat×Int)=>p.1≤a.t.length∧U1 a.k a.t vs=U1 p.2 (a.t.drop p.1) vs∧p.2.natAbs≤1099511627776+p.1*2251799812636672) (fun(p:Nat×Int)=>a.t.length-p.1) ((0,a.k)) (⟨D1c _,rfl,by simpa using G⟩) (by(try simp only[go_sem,seval])<;>(try simp(disch:=omega) [A4])<;>(try omega)) (by first|exact D2i _|exact A0 (by assumption)|exact B9 (by assumption)|simp only[Heap.Le,Heap.set,Heap.del]at* <;>grind) ?_;rintro V rfl ⟨i,s⟩ ⟨T,j,hs⟩;simp only at T j hs;by_cases m:i<a.t.length
 ·have o:decide ((i:Int)<a.t.length)=true:=D1J (by omega);have r:(i:Int)<a.t.length:=by omega
  have U:=A12 ok.t m;rw[B0x _ _ _ _ m]at j;cases u:P1 vs a.t[i].v with
  |none=>
   rw[u]at j;have j:U1 a.k a.t vs=none:=j;rw[j]at h;simp only[Option.getD_none,Option.isSome_none]at h;have I: ∀(H:Heap) (Q:D→Heap→Prop),Q (.tuple [.int .i64 0,.bool false]) H→D7 62 [.sl 2 (Rw vlC vs),.str a.t[i].v] H Q:=fun H Q hq=>B0v vs hv _ hlen H (by rw[u];exact hq);repeat' (first|with_reducible apply D1H|simp only[go_sem,seval,o,r,B3 _ _ m,C3 _ _ m]|simp(disch:=omega) only[A4,B3]|intro q|with_reducible refine I _ _ ?_|omega)
   exact D2j (by simp only[F0,D3,D4]at* <;>grind) h
  |some n=>
   rw[u]at j;have j:U1 a.k a.t vs=U1 (s+a.t[i].c*n) (a.t.drop (i+1)) vs:=j;have hn:=B7D hv u;have hp:=B7E U.2.2.1 hn;have I: ∀(H:Heap) (Q:D→Heap→Prop),Q (.tuple [.int .i64 n,.bool true]) H→D7 62 [.sl 2 (Rw vlC vs),.str a.t[i].v] H Q:=fun H Q hq=>B0v vs hv _ hlen H (by rw[u];exact hq);obtain⟨z,J⟩: ∃z,z=a.t[i].c*n:=⟨_,rfl⟩
   rw[←J]at j hp;repeat' (first|with_reducible apply D1H|simp only[go_sem,seval,o,r,B3 _ _ m,C3 _ _ m,←J]|simp(disch:=omega) only[A4,B3]|intro q|with_reducible refine I _ _ ?_|omega)
   refine C4 (i+1,s+z) ⟨by simp only[];omega,j,by simp only[];omega⟩ (by simp only[];omega) (by(try simp only[go_sem,seval])<;>(try simp(disch:=omega) [A4])<;>(try omega)) (by simp only[F0,D3,D4]at* <;>grind)
 ·have o:decide ((i:Int)<a.t.length)=false:=D1K (by omega);rw[List.drop_eq_nil_of_le (by omega),U1]at j;rw[j]at h;simp only[Option.getD_some,Option.isSome_some]at h;repeat' (first|with_reducible apply D1H|simp only[go_sem,seval,o]|simp(disch:=omega) only[A4,B3]|intro q|omega)
  exact D2m h
end Go.Proofs.YtibphjonmikciaaGreatDoor
namespace Go.Lin
open Go Go.Av Go.Proofs.YtibphjonmikciaaGreatDoor
abbrev A4g(n m:Nat)(r:Row):Prop:=r.c.length=n∧A5N r m
abbrev hit(r s:Row):Prop:=r.eq=false∧s.eq=false∧A4X r s 1=true
theorem A05(r s:Row)(l:List Row):A3h r (s::l)=if hit r s then(if r.k<s.k then {s with k:=r.k}else s)::l else s::A3h r l:=rfl
theorem B0y(r:Row): ∀(l:List Row) (j:Nat) (i:j<l.length),(∀(k:Nat) (hk:k<l.length),k<j→¬hit r l[k])→hit r l[j]→A3h r l=if r.k<l[j].k then l.set j {l[j]with k:=r.k}else l
 | [],j,i,_,_=>by simp at i
 |s::l,0,i,_,h=>by
  simp only[List.getElem_cons_zero]at h⊢;rw[A05,if_pos h];split<;>rfl
 |s::l,j+1,i,h1,h=>by
  have m:=h1 0 (by simp) (by omega);simp only[List.getElem_cons_zero]at m;simp only[List.getElem_cons_succ]at h⊢;rw[A05,if_neg m,B0y r l j (by simpa using i) (fun k hk o=>by have:=h1 (k+1) (by simpa using hk) (by omega);simpa using this) h];split<;>rfl
theorem A71(r:Row): ∀(l:List Row),(∀(k:Nat) (hk:k<l.length),¬hit r l[k])→A3h r l=l++[r]
 | [],_=>rfl
 |s::l,h1=>by
  have h:=h1 0 (by simp);simp only[List.getElem_cons_zero]at h;rw[A05,if_neg h,A71 r l (fun k hk=>by have:=h1 (k+1) (by simpa using hk);simpa using this)];rfl
theorem B7F{n m:Nat}(r:Row)(hr:A4g n m r): ∀(l:List Row),(∀s∈l,A4g n m s)→∀s∈A3h r l,A4g n m s
 | [],_,s,hs=>by simp[A3h]at hs;subst hs;exact hr
 |x::l,h,s,hs=>by
  have hx:=h x (D1S ..);rw[A05]at hs;split at hs
  ·rcases D1j.1 hs with rfl|hs
   ·split
    ·exact⟨hx.1,hr.2.1,hx.2.2⟩
    ·exact hx
   ·exact h s (D1Z _ hs)
  ·rcases D1j.1 hs with rfl|hs
   ·exact hx
   ·exact B7F r hr l (fun y i=>h y (D1Z _ i)) s hs
theorem B0z(r:Row): ∀l,(A3h r l).length≤l.length+1
 | []=>by simp[A3h]
 |x::l=>by rw[A05];have:=B0z r l;split<;>simp<;>omega
theorem B00(l:List Row)(i:Nat)(h:i<l.length):pairs1 (l.take (i+1))=A3h l[i] (pairs1 (l.take i)):=by
 unfold pairs1;rw[D1a h,D19];rfl
theorem B01{n m:Nat}: ∀(l i:List Row),(∀s∈l,A4g n m s)→(∀s∈i,A4g n m s)→∀s∈l.foldl (fun out r=>A3h r out) i,A4g n m s
 | [],_,_,h=>h
 |r::l,i,h1,j=>B01 l _ (fun s hs=>h1 s (D1Z _ hs)) (B7F r (h1 r (D1S ..)) i j)
theorem A6c: ∀(l h:List Row),(l.foldl (fun out r=>A3h r out) h).length≤h.length+l.length
 | [],_=>by simp
 |r::l,h=>by have:=A6c l (A3h r h);have:=B0z r h;simp only[List.foldl_cons,D1M];omega
theorem B4s(r s:Row)(l:List Row):A5M r (s::l)=if r.eq=true∨s.eq=true∨A4X r s (-1)=false then A5M r l
  else if r.k+s.k<0 then none else if r.k+s.k=0 then A5M {r with eq:=true} l else A5M r l:=rfl
theorem B02(done:List Row)(r:Row)(l:List Row):A0J done (r::l)=match A5M r done with|none=>none|some r'=>A0J (done++[r']) l:=rfl
def B03:Option (List Row)→D
 |none=>.tuple [.sl 4 [],.bool false]
 |some l=>.tuple [.sl 4 (Rw C6 l),.bool true]
end Go.Lin
namespace Go.Av
theorem O3.putle{H Hp:Heap}{sz:Nat}{e1 e2 e3:List (List D)}{o1 o2 o3:Option Nat}(h:O3 H Hp sz e1 e2 e3 o1 o2 o3):(putB H sz e1 o1).Le Hp:=by
 cases o1 with
 |none=>exact h.le
 |some b=>
  intro k o hk;have hk:(H.set b (.vec sz e1)) k=some o:=hk;by_cases e:k=b
  ·subst e;rw[A3]at hk;cases hk;exact h.a1
  ·rw[A2 _ e]at hk;exact h.le _ _ hk
theorem O3.base{H i Hp j:Heap}{sz:Nat}{e1 e2 e3:List (List D)}{o1 o2 o3:Option Nat}(h:O3 H Hp sz e1 e2 e3 o1 o2 o3)(h1:i.Le j)(m:Hp.Le j)(hn: ∀b,Hp b≠none→H b=none→i b=none):O3 i j sz e1 e2 e3 o1 o2 o3:=by
 have key: ∀{e:List (List D)} {o:Option Nat},OutAt Hp sz e o→(∀b,o=some b→H b=none)→∀b,o=some b→i b=none:=fun {e o} p q b g=>hn b (by rw[p.some_of g];simp) (q b g);exact⟨h1,h.a1.up m,h.a2.up m,h.a3.up m,key h.a1 h.n1,key h.a2 h.n2,key h.a3 h.n3,h.d12,h.d13,h.d23⟩
end Go.Av
namespace Go.Lin
open Go Go.Av Go.Proofs.YtibphjonmikciaaGreatDoor
def A3A(c:List Int)(j:Nat):Nat:=gcdR (c.take j)
theorem A4h(c:List Int):A3A c 0=0:=rfl
theorem A72(c:List Int)(j:Nat)(h:j<c.length):A3A c (j+1)=Nat.gcd c[j].natAbs (A3A c j):=by
 unfold A3A gcdR;rw[D1a h,D19];rfl
theorem A6d(c:List Int):A3A c c.length=gcdR c:=by unfold A3A;rw[List.take_length]
theorem B3d(c:List Int)(m:Nat)(hm: ∀x∈c,x.natAbs≤m): ∀j,j≤c.length→A3A c j≤m
 |0,_=>by rw[A4h];omega
 |j+1,h=>by
  have i:=B3d c m hm j (by omega);rw[A72 c j (by omega)];by_cases o:A3A c j=0
  ·rw[o,Nat.gcd_zero_right];exact hm _ (D1V _)
  ·exact D2N (Nat.gcd_le_right _ (by omega)) i
def gB(j:Nat)(g:Int):List D:=if j=0 then [.bool false,.nilsl]else C5 g
theorem A5c(j:Nat)(g:Int):gB (j+1) g=C5 g:=rfl
theorem C31(c:List Int)(j:Nat):NilR (.agg (gB j (A3A c j:Nat))) (.agg (C5 (A3A c j:Nat))):=by
 cases j with
 |zero=>rw[A4h];exact A86
 |succ j=>exact .same _
def A06(r:Row):Option (List Row):=
 let g:=gcdR r.c
 if g=0 then(if r.k<0∨(r.eq=true∧0<r.k)then none else some [])
 else if g=1 then some [r]
 else
  let k:=r.k.fdiv g
  if r.eq=true∧k*g-r.k≠0 then none
  else some [⟨r.c.map (Int.fdiv · g),k,r.eq⟩]
theorem B2P(r:Row)(l:List Row):X9 (r::l)=(A06 r).bind fun x=>(X9 l).map (x++ ·):=by
 rw[X9];unfold A06;simp only[];split
 ·split
  ·rfl
  ·simp
 ·split
  ·rfl
  ·split
   ·rfl
   ·rfl
theorem B4t{l:List Row}{i:Nat}{D:List Row}(h:i<l.length)(hd:X9 l=(X9 (l.drop i)).map (D++ ·)):X9 l=(A06 l[i]).bind fun x=>(X9 (l.drop (i+1))).map ((D++x)++ ·):=by
 rw[hd,D1m h,B2P];cases A06 l[i]with
 |none=>rfl
 |some x=>cases X9 (l.drop (i+1))<;>simp
theorem A3B(a:Int)(b:Nat)(hb:b≠0):(a.fdiv b).natAbs≤a.natAbs:=by
 rw[Int.fdiv_eq_ediv_of_nonneg _ (by omega)];by_cases h:0≤a
 ·have h1:=Int.ediv_nonneg h (show (0:Int)≤b by omega);have i:=Int.ediv_le_self (b:=(b:Int)) h;omega
 ·have h1:a / (b:Int)<0:=Int.ediv_neg_of_neg_of_pos (by omega) (by omega);have i:a≤a / (b:Int):=by
   have:=Int.ediv_mul_le a (show (b:Int)≠0 by omega);have j:=Int.mul_le_mul_of_nonpos_left (show a / (b:Int)≤0 by omega) (show (1:Int)≤b by omega);have m:=Int.lt_ediv_add_one_mul_self a (show (0:Int)<b by omega);refine Int.le_ediv_of_mul_le (by omega) ?_;have:=Int.mul_le_mul_of_nonpos_left (show a≤0 by omega) (show (1:Int)≤b by omega);omega
  omega
theorem B3e{n m:Nat}{r:Row}{x:List Row}(hr:A4g n m r)(h:A06 r=some x):(∀s∈x,A4g n m s)∧x.length≤1:=by
 unfold A06 at h;simp only[]at h;split at h
 ·split at h
  ·cases h
  ·cases h;simp
 ·rename_i i;split at h
  ·cases h;exact⟨fun s hs=>by simp at hs;subst hs;exact hr,by simp⟩
  ·split at h
   ·cases h
   ·cases h;refine⟨fun s hs=>?_,by simp⟩;simp at hs;subst hs;refine⟨by simp[hr.1],D2N (A3B _ _ i) hr.2.1,fun y j=>?_⟩;simp only[D2F]at j;obtain⟨z,o,rfl⟩:=j;exact D2N (A3B _ _ i) (hr.2.2 z o)
end Go.Lin
namespace Go.Lin
open Go Go.Av Go.Lexs
def zrV(names:List ByteArray)(a:LinV):ZR:=⟨j5 names a.t,C7O names a⟩
def zrB(n i:Nat)(s:Int):ZR:=⟨(List.replicate n zB).set i (C5 s),⟨A7o n i s,2147483647,false⟩⟩
def zrR(names:List ByteArray)(l:List LinV)(m:Nat):List ZR:=l.map (zrV names)++(List.range m).flatMap fun i=>[zrB names.length i 1,zrB names.length i (-1)]
theorem B7H(h:List ByteArray)(l:List LinV):(zrR h l h.length).map (·.r)=B0c l h:=by
 unfold zrR B0c;rw[D2H,List.map_map,List.map_flatMap];rfl
theorem C32(j:List ByteArray)(l:List LinV)(m:Nat)(hm:m≤j.length): ∀z∈zrR j l m,zOk z:=fun z o=>by
 unfold zrR at o;rcases D1h.1 o with h|h
 ·obtain⟨a,_,rfl⟩:=D2F.1 h;exact B69 j a.t
 ·obtain⟨i,p,h⟩:=List.mem_flatMap.1 h;have q:=List.mem_range.1 p;rcases D1j.1 h with rfl|h
  ·exact B0u _ _ _ (by omega)
  ·simp at h;rw[h];exact B0u _ _ _ (by omega)
def zrJ(names:List ByteArray)(l:List LinV)(i j:Nat):List ZR:=zrR names l i++([zrB names.length i 1,zrB names.length i (-1)].take j)
theorem B7I(h:List ByteArray)(l:List LinV)(i:Nat):zrJ h l i 0=zrR h l i:=by simp[zrJ]
theorem B3f(h:List ByteArray)(l:List LinV)(i:Nat):zrJ h l i 2=zrR h l (i+1):=by
 unfold zrJ zrR;rw[List.range_succ,List.flatMap_append];simp
theorem B99(h:List ByteArray)(l:List LinV)(i:Nat):zrJ h l i 1=zrJ h l i 0++[zrB h.length i 1]:=by simp[zrJ]
theorem B7J(h:List ByteArray)(l:List LinV)(i:Nat):zrJ h l i 2=zrJ h l i 1++[zrB h.length i (-1)]:=by simp[zrJ]
theorem B7K(h:List ByteArray)(l:List LinV):zrR h l 0=l.map (zrV h):=by simp[zrR]
theorem B3g(h:List ByteArray)(l:List LinV)(i:Nat):(zrR h l i).length=l.length+2*i:=by
 unfold zrR;rw[D1N,D10]
 congr 1
 induction i with
 |zero=>rfl
 |succ i j=>rw[List.range_succ,List.flatMap_append,D1N,j];simp;omega
theorem A5e(h:List ByteArray)(l:List LinV)(i j:Nat)(m:j≤2):(zrJ h l i j).length=l.length+2*i+j:=by
 unfold zrJ;rw[D1N,B3g,D1z];simp;omega
end Go.Lin
namespace Go.Proofs.YtibphjonmikciaaGreatDoor
open Go Go.Av Go.Lexs Go.Lin
attribute [local irreducible] ACalls S9
theorem A9C{Q}(b:Nat)(es:List ByteArray)(hn:es.length≤1000000)(H:Heap)(hb:H b=some (.box [.sl 1 (Rw j9 es)]))(h: ∀v,H v=none→Q (.vec v 2 0 es.length) (H.set v (.vec 2 (List.replicate es.length zB)))):D7 227 [.box b 0] H Q:=by
 refine A9 [] A6 Tryz.func227 rfl ?_;simp only[go_sem,seval,Tryz.results227];repeat' (first|with_reducible apply D1H|simp only[go_sem,seval,hb]|intro i|omega)
 rename_i v;exact D2m (h v i)
set_option maxHeartbeats 2000000 in
theorem C33{Q}(l:List LinV)(m:List ByteArray)(hlen:l.length≤1000000)(hn:m.length≤1000000)(d7:m.Pairwise fun x y=>q9 x y=true)(hv: ∀a∈l,validL a=true)(hm: ∀a∈l,∀t∈a.t,t.v∈m)(H:Heap)(h:Q (.sl 4 (Rw C6 (B0c l m))) H):
  D7 197 [.sl 3 (Rw E8 l),.sl 1 (Rw j9 m)] H Q:=by
 refine A9 [(6,.par),(11,.par),(22,.par)] A6 Tryz.func197 rfl ?_;simp only[go_sem,seval,Tryz.results197];intro b3 f4;have e3:(H.set b3 (.box [.sl 1 (Rw j9 m)])) b3=some (.box [.sl 1 (Rw j9 m)]):=A3 _ _;have c2:H.Le (H.set b3 (.box [.sl 1 (Rw j9 m)])):=A0 f4;generalize H.set b3 (.box [.sl 1 (Rw j9 m)])=Bs at e3 c2⊢;have f7:m.Nodup:=d7.imp fun {x y} g e=>by rw[e,s8]at g;cases g
 repeat' (first|with_reducible apply D1H|simp only[go_sem,seval]|simp(disch:=omega) only[A4,B3]|simp(disch:=first|omega|grind) only[A8]|(intro r;try simp only[A5]at r)|omega)
 refine C8 [3,6,19,20] (fun(p:Nat×Option Nat)=>[(21,.int .i64 p.1),(5,H8 4 p.1 p.2)]) (fun(p:Nat×Option Nat)=>putB Bs 4 (Rw zrC ((l.take p.1).map (zrV m))) p.2) (fun(p:Nat×Option Nat)=>p.1≤l.length∧(p.2=none→p.1=0)∧(∀b,p.2=some b→Bs b=none)) (fun(p:Nat×Option Nat)=>l.length-p.1) ((0,none)) (⟨D1c _,by simp,by simp⟩) (by(try simp only[go_sem,seval])<;>(try simp(disch:=omega) [A4])) (by first|exact D2i _|exact A0 (by assumption)|exact B9 (by assumption)|simp only[Heap.Le,Heap.set,Heap.del]at* <;>grind) ?_;rintro Ec rfl ⟨i,o1⟩ ⟨hi,ho,c4⟩;simp only at hi ho c4;have A:=O3.put (H:=Bs) (sz:=4) (es:=Rw zrC ((l.take i).map (zrV m))) (ob:=o1) (fun e=>by rw[ho e];rfl) c4;have fl:=A9B (zrV m) l i hi;generalize putB Bs 4 (Rw zrC ((l.take i).map (zrV m))) o1=Hp at A⊢;by_cases a9:i<l.length
 ·have c5:decide ((i:Int)<l.length)=true:=D1J (by omega);have h6:(i:Int)<l.length:=by omega
  have d8:=hv _ (D1V a9);have e0:=hm _ (D1V a9);have fs:=A6b (zrV m) l i a9;obtain⟨a,e4⟩: ∃a,a=l[i]:=⟨_,rfl⟩
  rw[←e4]at d8 e0 fs;have ok:=M4 d8;repeat' (first|with_reducible apply D1H|simp only[go_sem,seval,c5,B3 _ _ a9,C3 _ _ a9,←e4]|(intro r;try simp only[A5]at r)|omega)
  rename_i b8;have h8:=r;clear r;have c8:(Hp.set b8 (.box (E8 a))) b8=some (.box (E8 a)):=A3 _ _;have J:Hp.Le (Hp.set b8 (.box (E8 a))):=A0 h8;have c3:(Hp.set b8 (.box (E8 a))) b3=some (.box [.sl 1 (Rw j9 m)]):=J _ _ (A.le _ _ e3);generalize Hp.set b8 (.box (E8 a))=B8 at c8 J c3⊢;have m3:b3∈[b3,b8]:=by simp
  have m8:b8∈[b3,b8]:=by simp
  obtain⟨k,hk⟩: ∃k,k=a.k:=⟨_,rfl⟩
  have f8:=ok.k;rw[←hk]at f8;have f9:B8 b8=some (.box [.sl 2 (Rw J7 a.t),.int .i64 k,.bool a.e]):=by rw[hk];exact c8
  refine B25 (fun i'=>if i'=1 then .mk' (fun v=>.vec v 2 0 m.length) (.vec 2 (List.replicate m.length zB))else if i'=4 then .c (.agg (C5 k))else .c .undef) [b3,b8] ?_;repeat' (first|with_reducible apply D1H|simp only[go_sem,seval,f9,c3,m3,m8]|simp(disch:=first|omega|grind) only[A8]|(intro r;try simp only[A5]at r)|with_reducible refine C9a c3 m3 (by simp) rfl (fun H' Q hro hb hq=>A9C b3 m hn H' hb hq) ?_|with_reducible refine R5 (fun H' Q hro hq=>t8 k (by omega) (by omega) H' hq) ?_)
  rename_i bv hv b9;have h9:=r;clear r;have nb:b9≠bv:=h9.1;have k3:b3≠bv∧b3≠b9:=⟨(fun g=>by rw[g,hv]at c3;cases c3),(fun g=>by rw[g,h9.2]at c3;cases c3)⟩
  rw[show List.replicate m.length zB=j5 m (a.t.take 0)from(B4p m).symm];refine C8 [3,5,6,9,19,20,21,34,35] (fun(j:Nat)=>[(36,.int .i64 j)]) (fun(j:Nat)=>(B8.set bv (.vec 2 (j5 m (a.t.take j)))).set b9 (.box [.vec bv 2 0 m.length,.bool (decide (k<0)),.sl 1 (Rw F4 (C2 k.natAbs)),.bool a.e])) (fun(j:Nat)=>j≤a.t.length) (fun(j:Nat)=>a.t.length-j) (0) (D1c _) (by(try simp only[go_sem,seval])<;>(try simp(disch:=omega) [A4])) (by first|exact D2i _|exact A0 (by assumption)|exact B9 (by assumption)|simp only[Heap.Le,Heap.set,Heap.del]at* <;>grind) ?_;rintro Ec rfl j hj;have h7:=ok.len;by_cases b0:j<a.t.length
  ·have I:decide ((j:Int)<a.t.length)=true:=D1J (by omega);have g0:(j:Int)<a.t.length:=by omega
   obtain⟨t,ht⟩: ∃t,t=a.t[j]:=⟨_,rfl⟩
   have tc:=(A12 ok.t b0).2.2.1;rw[←ht]at tc;obtain⟨x,hx,b7⟩:=List.getElem_of_mem (e0 _ (D1V b0));rw[←ht]at b7;have g2:(x:Int)<m.length:=by omega
   have e6: ∀y∈a.t.take j,y.v≠t.v:=fun y hy g=>by
    obtain⟨q,hq,rfl⟩:=List.getElem_of_mem hy;rw[D1z]at hq;have:=List.pairwise_iff_getElem.1 (B2B ok.t) q j (by omega) b0 (by omega);rw[List.getElem_take]at g;rw[←ht,g,s8]at this;cases this
   obtain⟨z,hz⟩: ∃z,z=t.c:=⟨_,rfl⟩
   have ts:a.t.take (j+1)=a.t.take j++[t]:=by rw[D1a b0,ht]
   have O:=B68 m (a.t.take j) t x hx b7 f7 e6;rw[←ts,←hz]at O;have e7:=B67 m (a.t.take j) x hx (fun y hy=>by rw[b7];exact e6 y hy);have g4:=B0t m (a.t.take j);rw[←hz]at tc;have g5:t.c=z:=hz.symm;repeat' (first|with_reducible apply D1H|simp only[go_sem,seval,I,g0,B3 _ _ b0,C3 _ _ b0,←ht,g5]|simp(disch:=first|omega|grind) only[A8]|(intro r;try simp only[A5]at r)|omega)
   rename_i b1;have c0:=r;clear r;have j1:=c0.1;have j2:=c0.2.1;have j3:b3≠b1:=fun g=>by have:=c0.2.2;rw[←g,c3]at this;cases this
   have p9:b9∈[b9,b1]:=by simp
   have g6:b1∈[b9,b1]:=by simp
   repeat' (first|simp only[go_sem,seval,A2 _ j3,A2 _ k3.2,A2 _ k3.1,c3]|with_reducible refine B4r m d7 t.v x hx b7 (by omega) _ ?_)
   refine F9 (fun i'=>if i'=5 then .agg (C5 z)else .undef) [b9,b1] ?_;repeat' (first|with_reducible apply D1H|simp only[go_sem,seval,p9,g6,g2,g4,e7.1,e7.2]|simp(disch:=omega) only[A4,B3]|simp(disch:=first|omega|grind) only[A8]|with_reducible refine R5 (fun H' Q hro hq=>t8 z (by omega) (by omega) H' hq) ?_|omega)
   have c6:(j5 m (a.t.take j)).set x ((zB.set 0 (D.bool (decide (z<0)))).set 1 (D.sl 1 (Rw F4 (C2 z.natAbs))))=j5 m (a.t.take (j+1)):=O;refine C4 (j+1) (by omega) (by omega) (by(try simp only[go_sem,seval])<;>(try simp(disch:=omega) [A4])) ?_;rw[←c6];intro q o hq;have g7:q≠b1:=fun g=>by rw[g,A2 _ j1,A2 _ j2,c0.2.2]at hq;cases hq
   by_cases g:q=bv
   ·subst g;rw[A2 _ nb.symm,A3]at hq;rw[A3];exact hq
   ·rw[A2 _ g,A2 _ g7];by_cases e8:q=b9
    ·subst e8;rw[A3]at hq⊢;exact hq
    ·rw[A2 _ e8,A2 _ g]at hq⊢;exact hq
  ·have I:decide ((j:Int)<a.t.length)=false:=D1K (by omega);have g8:j=a.t.length:=by omega
   subst g8;rw[List.take_length];repeat' (first|simp only[go_sem,seval,I]|(intro r;try simp only[A5]at r))
   rename_i bx;have T:=r;clear r;have h0:Bs bv=none:=(A.le.trans J).none hv;have q1:(Bs.set bv (.vec 2 (j5 m a.t))).Le ((B8.set bv (.vec 2 (j5 m a.t))).set b9 (.box [.vec bv 2 0 m.length,.bool (decide (k<0)),.sl 1 (Rw F4 (C2 k.natAbs)),.bool a.e])):=by
    intro q o hq;by_cases g:q=bv
    ·subst g;rw[A2 _ nb.symm,A3];rw[A3]at hq;exact hq
    ·rw[A2 _ g]at hq;have hB:=J _ _ (A.le _ _ hq);have g9:q≠b9:=fun g=>by rw[g,h9.2]at hB;cases hB
     rw[A2 _ g9,A2 _ g];exact hB
   have q2:Hp.Le ((B8.set bv (.vec 2 (j5 m a.t))).set b9 (.box [.vec bv 2 0 m.length,.bool (decide (k<0)),.sl 1 (Rw F4 (C2 k.natAbs)),.bool a.e])):=by
    intro q o hq;have hB:=J _ _ hq;have g:q≠bv:=fun g=>by rw[g,hv]at hB;cases hB
    have g9:q≠b9:=fun g=>by rw[g,h9.2]at hB;cases hB
    rw[A2 _ g9,A2 _ g];exact hB
   have U:=A.base q1 q2 (fun b b2 b4=>by rw[A2 _ (fun g=>b2 (by rw[g];exact J.none hv))];exact b4);refine O3.ap U (e1':=Rw zrC ((l.take i).map (zrV m))++[[.vec bv 2 0 m.length,.bool (decide (k<0)),.sl 1 (Rw F4 (C2 k.natAbs)),.bool a.e]]) (D2i _) (by simp only[A5];exact T) (by simp) (by rw[D6,fl]) (by simp only[D1M,D1O];omega) (by simp only[D1M,D1O];omega) rfl fun V H' h4=>?_;clear U q1 q2 T;repeat' (first|simp only[go_sem,seval]|simp(disch:=omega) only[A4,B3])
   have G:=h4.n1 _ rfl;have W:bv≠V:=fun g=>by rw[←g,A3]at G;cases G
   have eX:Rw zrC ((l.take (i+1)).map (zrV m))=Rw zrC ((l.take i).map (zrV m))++[.sl 2 (j5 m a.t)::[.bool (decide (k<0)),.sl 1 (Rw F4 (C2 k.natAbs)),.bool a.e]]:=by rw[fs,←O7,hk];rfl
   refine B6D (i+1,some V) ⟨by simp only[];omega,by simp,fun b e=>?_⟩ (by simp only[];omega) ?_
   ·have:=h4.n1 _ e;rw[A2 _ (by cases e;exact W.symm)]at this;exact this
   ·show A1N _ (Bs.set V (.vec 4 (Rw zrC ((l.take (i+1)).map (zrV m))))) _ _;rw[eX];refine A02 (by(try simp only[go_sem,seval,L2])<;>(try simp(disch:=omega) [A4])) (by rw[B0t]) h4.a1 (h4.le _ _ (A3 _ _)) W (fun q o hq ho=>?_);have X:q≠bv:=fun g=>by rw[g,h0]at ho;cases ho
    exact⟨X,h4.le q o (by rw[A2 _ X];exact ho)⟩
 ·have c5:decide ((i:Int)<l.length)=false:=D1K (by omega);have c7:i=l.length:=by omega
  rw[D1W (by omega),←B7K]at A;have h2:i=(zrR m l 0).length:=by rw[B3g];omega
  have c3:=A.le _ _ e3;rw[h2];repeat' simp only[go_sem,seval,D1K (show¬(((zrR m l 0).length:Nat):Int)<l.length by omega),c3]
  clear c5 c4 ho hi a9 fl c7;refine C8 [6,61] (fun(p:Nat×Option Nat×Heap)=>[(62,.int .i64 p.1),(5,H8 4 (zrR m l p.1).length p.2.1)]) (fun(p:Nat×Option Nat×Heap)=>p.2.2) (fun(p:Nat×Option Nat×Heap)=>p.1≤m.length∧O3 Bs p.2.2 4 (Rw zrC (zrR m l p.1)) [] [] p.2.1 none none) (fun(p:Nat×Option Nat×Heap)=>m.length-p.1) ((0,o1,Hp)) (⟨D1c _,A⟩) (by(try simp only[go_sem,seval])<;>(try simp(disch:=omega) [A4])) (by first|exact D2i _|exact A0 (by assumption)|exact B9 (by assumption)|simp only[Heap.Le,Heap.set,Heap.del]at* <;>grind) ?_;clear A c3;obtain⟨M,hM⟩: ∃M:Int,M=2147483647:=⟨_,rfl⟩
  have wm: ∀(H:Heap) (Q:D→Heap→Prop),Q (.agg (C5 M)) H→D7 228 [.int .i64 2147483647] H Q:=fun H Q hq=>t8 2147483647 (by omega) (by omega) H (by rw[←hM];exact hq);rintro Ec rfl ⟨i,o1,Hp⟩ ⟨hi,A⟩;simp only at hi A;by_cases hit:i<m.length
  ·have I:decide ((i:Int)<m.length)=true:=D1J (by omega);have e9:(i:Int)<m.length:=by omega
   repeat' (first|simp only[go_sem,seval,I]|(intro r;try simp only[A5]at r))
   rename_i bs;have f0:=r;clear r;have g3:=A.grow f0 (.vec 1 [[.int .i64 1],[.int .i64 (-1)]]);have es:(Bs.set bs (.vec 1 [[.int .i64 1],[.int .i64 (-1)]])) bs=some (.vec 1 [[.int .i64 1],[.int .i64 (-1)]]):=A3 _ _;have c9:Bs.Le (Bs.set bs (.vec 1 [[.int .i64 1],[.int .i64 (-1)]])):=A0 (A.le.none f0);generalize Hp.set bs (.vec 1 [[.int .i64 1],[.int .i64 (-1)]])=Hq at g3⊢;generalize Bs.set bs (.vec 1 [[.int .i64 1],[.int .i64 (-1)]])=B1 at g3 es c9;rw[←B7I]at g3⊢;refine C8 [6,14,61,62,65,66] (fun(p:Nat×Option Nat×Heap)=>[(67,.int .i64 p.1),(5,H8 4 (zrJ m l i p.1).length p.2.1)]) (fun(p:Nat×Option Nat×Heap)=>p.2.2) (fun(p:Nat×Option Nat×Heap)=>p.1≤2∧O3 B1 p.2.2 4 (Rw zrC (zrJ m l i p.1)) [] [] p.2.1 none none) (fun(p:Nat×Option Nat×Heap)=>2-p.1) ((0,o1,Hq)) (⟨D1c _,g3⟩) (by(try simp only[go_sem,seval])<;>(try simp(disch:=omega) [A4])) (by first|exact D2i _|exact A0 (by assumption)|exact B9 (by assumption)|simp only[Heap.Le,Heap.set,Heap.del]at* <;>grind) ?_;clear g3 A;rintro Ec rfl ⟨j,o1,Hp⟩ ⟨hj,A⟩;simp only at hj A;have d3:=A.le _ _ (c9 _ _ e3);have ds:=A.le _ _ es
   match j,hj with
   |0,_=>
    have k3:decide (((0:Nat):Int)<((2:Nat):Int))=true:=by decide
    have g1:=B99 m l i;have gl:=A5e m l i 0 (by omega);have d0:=A5e m l i (1) (by omega);obtain⟨s,hs⟩: ∃s:Int,s=1:=⟨1,rfl⟩
    have ws: ∀(H:Heap) (Q:D→Heap→Prop),Q (.agg (C5 s)) H→D7 228 [.int .i64 (1)] H Q:=fun H Q hq=>t8 (1) (by omega) (by omega) H (by rw[←hs];exact hq);repeat' (first|with_reducible apply D1H|simp only[go_sem,seval,k3,ds,d3,D1q,D1r]|(intro r;try simp only[A5]at r)|with_reducible refine A9C b3 m hn _ d3 ?_|with_reducible refine wm _ _ ?_|omega)
    rename_i v hv u;have a0:=r;clear r;have nb:u≠v:=a0.1;have d2:u∈[u]:=by simp
    have a6:(List.replicate m.length zB)[i]? =some zB∧(List.replicate m.length zB).getD i []=zB:=by
     have:(List.replicate m.length zB)[i]? =some zB:=by simp[hit]
     exact⟨this,by rw[List.getD_eq_getElem?_getD,this];rfl⟩
    have b6:(List.replicate m.length zB).length=m.length:=List.length_replicate;refine F9 (fun i'=>if i'=4 then .agg (C5 s)else .undef) [u] ?_;obtain⟨Z,hZ⟩: ∃Z,Z=List.replicate m.length zB:=⟨_,rfl⟩
    rw[←hZ]at a6 b6⊢;repeat' (first|with_reducible apply D1H|simp only[go_sem,seval,d2,e9,b6,a6.1,a6.2]|simp(disch:=first|omega|grind) only[A8]|(intro r;try simp only[A5]at r)|with_reducible refine R5 (fun H' Q hro hq=>ws H' Q hq) ?_|omega)
    rename_i bx;have T:=r;clear r;have O:Z.set i ((zB.set 0 (D.bool (decide (s<0)))).set 1 (D.sl 1 (Rw F4 (C2 s.natAbs))))=(List.replicate m.length zB).set i (C5 s):=by rw[hZ];rfl
    rw[O];obtain⟨Y,hY⟩: ∃Y,Y=(List.replicate m.length zB).set i (C5 s):=⟨_,rfl⟩
    rw[←hY];have d4:Y.length=m.length:=by rw[hY,D2E,List.length_replicate]
    have d5:B1 v=none:=A.le.none hv;have q1:(B1.set v (.vec 2 Y)).Le (((Hp.set v (.vec 2 Z)).set u (.box [.vec v 2 0 m.length,.bool (decide (M<0)),.sl 1 (Rw F4 (C2 M.natAbs)),.bool false])).set v (.vec 2 Y)):=by
     intro q o hq;by_cases g:q=v
     ·subst g;rw[A3]at hq⊢;exact hq
     ·rw[A2 _ g]at hq;have hB:=A.le _ _ hq;have g9:q≠u:=fun g=>by rw[g,a0.2]at hB;cases hB
      rw[A2 _ g,A2 _ g9,A2 _ g];exact hB
    have q2:Hp.Le (((Hp.set v (.vec 2 Z)).set u (.box [.vec v 2 0 m.length,.bool (decide (M<0)),.sl 1 (Rw F4 (C2 M.natAbs)),.bool false])).set v (.vec 2 Y)):=by
     intro q o hB;have g:q≠v:=fun g=>by rw[g,hv]at hB;cases hB
     have g9:q≠u:=fun g=>by rw[g,a0.2]at hB;cases hB
     rw[A2 _ g,A2 _ g9,A2 _ g];exact hB
    have U:=A.base q1 q2 (fun b b2 b4=>by rw[A2 _ (fun g=>b2 (by rw[g];exact hv))];exact b4);refine O3.ap U (e1':=Rw zrC (zrJ m l i 0)++[[.vec v 2 0 m.length,.bool (decide (M<0)),.sl 1 (Rw F4 (C2 M.natAbs)),.bool false]]) (D2i _) (by simp only[A5];simp only[T,ne_eq,not_false_eq_true,and_self]) (by simp) (by rw[D6]) (by simp only[D1M,D1O];omega) (by simp only[D1M,D1O];omega) rfl fun V H' h4=>?_;clear U q1 q2 T;repeat' (first|simp only[go_sem,seval]|simp(disch:=omega) only[A4,B3])
    have G:=h4.n1 _ rfl;have W:v≠V:=fun g=>by rw[←g,A3]at G;cases G
    have d6:B1 V=none:=by rw[A2 _ W.symm]at G;exact G
    have eX:Rw zrC (zrJ m l i 1)=Rw zrC (zrJ m l i 0)++[.sl 2 Y::[.bool (decide (M<0)),.sl 1 (Rw F4 (C2 M.natAbs)),.bool false]]:=by rw[g1,←O7,hY,hM,hs];rfl
    refine B6D (1,some V,B1.set V (.vec 4 (Rw zrC (zrJ m l i 1)))) ⟨by simp only[];omega,O3.put (H:=B1) (ob:=some V) (by simp) (fun b e=>by cases e;exact d6)⟩ (by simp only[];omega) ?_;show A1N _ (B1.set V (.vec 4 (Rw zrC (zrJ m l i 1)))) _ _;rw[eX];refine A02 (by(try simp only[go_sem,seval,L2,gl,d0])<;>(try simp(disch:=omega) [A4])) d4.symm h4.a1 (h4.le _ _ (A3 _ _)) W (fun q o hq ho=>?_);have X:q≠v:=fun g=>by rw[g,d5]at ho;cases ho
    exact⟨X,h4.le q o (by rw[A2 _ X];exact ho)⟩
   |1,_=>
    have k3:decide (((1:Nat):Int)<((2:Nat):Int))=true:=by decide
    have g1:=B7J m l i;have gl:=A5e m l i 1 (by omega);have d0:=A5e m l i (2) (by omega);obtain⟨s,hs⟩: ∃s:Int,s= -1:=⟨-1,rfl⟩
    have ws: ∀(H:Heap) (Q:D→Heap→Prop),Q (.agg (C5 s)) H→D7 228 [.int .i64 (-1)] H Q:=fun H Q hq=>t8 (-1) (by omega) (by omega) H (by rw[←hs];exact hq);repeat' (first|with_reducible apply D1H|simp only[go_sem,seval,k3,ds,d3,D1q,D1r]|(intro r;try simp only[A5]at r)|with_reducible refine A9C b3 m hn _ d3 ?_|with_reducible refine wm _ _ ?_|omega)
    rename_i v hv u;have a0:=r;clear r;have nb:u≠v:=a0.1;have d2:u∈[u]:=by simp
    have a6:(List.replicate m.length zB)[i]? =some zB∧(List.replicate m.length zB).getD i []=zB:=by
     have:(List.replicate m.length zB)[i]? =some zB:=by simp[hit]
     exact⟨this,by rw[List.getD_eq_getElem?_getD,this];rfl⟩
    have b6:(List.replicate m.length zB).length=m.length:=List.length_replicate;refine F9 (fun i'=>if i'=4 then .agg (C5 s)else .undef) [u] ?_;obtain⟨Z,hZ⟩: ∃Z,Z=List.replicate m.length zB:=⟨_,rfl⟩
    rw[←hZ]at a6 b6⊢;repeat' (first|with_reducible apply D1H|simp only[go_sem,seval,d2,e9,b6,a6.1,a6.2]|simp(disch:=first|omega|grind) only[A8]|(intro r;try simp only[A5]at r)|with_reducible refine R5 (fun H' Q hro hq=>ws H' Q hq) ?_|omega)
    rename_i bx;have T:=r;clear r;have O:Z.set i ((zB.set 0 (D.bool (decide (s<0)))).set 1 (D.sl 1 (Rw F4 (C2 s.natAbs))))=(List.replicate m.length zB).set i (C5 s):=by rw[hZ];rfl
    rw[O];obtain⟨Y,hY⟩: ∃Y,Y=(List.replicate m.length zB).set i (C5 s):=⟨_,rfl⟩
    rw[←hY];have d4:Y.length=m.length:=by rw[hY,D2E,List.length_replicate]
    have d5:B1 v=none:=A.le.none hv;have q1:(B1.set v (.vec 2 Y)).Le (((Hp.set v (.vec 2 Z)).set u (.box [.vec v 2 0 m.length,.bool (decide (M<0)),.sl 1 (Rw F4 (C2 M.natAbs)),.bool false])).set v (.vec 2 Y)):=by
     intro q o hq;by_cases g:q=v
     ·subst g;rw[A3]at hq⊢;exact hq
     ·rw[A2 _ g]at hq;have hB:=A.le _ _ hq;have g9:q≠u:=fun g=>by rw[g,a0.2]at hB;cases hB
      rw[A2 _ g,A2 _ g9,A2 _ g];exact hB
    have q2:Hp.Le (((Hp.set v (.vec 2 Z)).set u (.box [.vec v 2 0 m.length,.bool (decide (M<0)),.sl 1 (Rw F4 (C2 M.natAbs)),.bool false])).set v (.vec 2 Y)):=by
     intro q o hB;have g:q≠v:=fun g=>by rw[g,hv]at hB;cases hB
     have g9:q≠u:=fun g=>by rw[g,a0.2]at hB;cases hB
     rw[A2 _ g,A2 _ g9,A2 _ g];exact hB
    have U:=A.base q1 q2 (fun b b2 b4=>by rw[A2 _ (fun g=>b2 (by rw[g];exact hv))];exact b4);refine O3.ap U (e1':=Rw zrC (zrJ m l i 1)++[[.vec v 2 0 m.length,.bool (decide (M<0)),.sl 1 (Rw F4 (C2 M.natAbs)),.bool false]]) (D2i _) (by simp only[A5];simp only[T,ne_eq,not_false_eq_true,and_self]) (by simp) (by rw[D6]) (by simp only[D1M,D1O];omega) (by simp only[D1M,D1O];omega) rfl fun V H' h4=>?_;clear U q1 q2 T;repeat' (first|simp only[go_sem,seval]|simp(disch:=omega) only[A4,B3])
    have G:=h4.n1 _ rfl;have W:v≠V:=fun g=>by rw[←g,A3]at G;cases G
    have d6:B1 V=none:=by rw[A2 _ W.symm]at G;exact G
    have eX:Rw zrC (zrJ m l i 2)=Rw zrC (zrJ m l i 1)++[.sl 2 Y::[.bool (decide (M<0)),.sl 1 (Rw F4 (C2 M.natAbs)),.bool false]]:=by rw[g1,←O7,hY,hM,hs];rfl
    refine B6D (2,some V,B1.set V (.vec 4 (Rw zrC (zrJ m l i 2)))) ⟨by simp only[];omega,O3.put (H:=B1) (ob:=some V) (by simp) (fun b e=>by cases e;exact d6)⟩ (by simp only[];omega) ?_;show A1N _ (B1.set V (.vec 4 (Rw zrC (zrJ m l i 2)))) _ _;rw[eX];refine A02 (by(try simp only[go_sem,seval,L2,gl,d0])<;>(try simp(disch:=omega) [A4])) d4.symm h4.a1 (h4.le _ _ (A3 _ _)) W (fun q o hq ho=>?_);have X:q≠v:=fun g=>by rw[g,d5]at ho;cases ho
    exact⟨X,h4.le q o (by rw[A2 _ X];exact ho)⟩
   |2,_=>
    rw[B3f]at A;repeat' (first|with_reducible apply D1H|simp only[go_sem,seval,B3f]|simp(disch:=omega) only[A4,B3]|(intro r;try simp only[A5]at r)|omega)
    refine C4 (i+1,o1,Hp) ⟨by simp only[];omega,A.less c9⟩ (by simp only[];omega) (by(try simp only[go_sem,seval])<;>(try simp(disch:=omega) [A4])) (D2i _)
   |j+3,hj=>omega
  ·have I:decide ((i:Int)<m.length)=false:=D1K (by omega);have c7:i=m.length:=by omega
   subst c7;repeat' simp only[go_sem,seval,I]
   refine Fin.out (by rw[D6]) A.a1 (E5 (B4o _ (C32 m l _ (D1b _))) ?_);rw[B7H];exact D2j (c2.trans (O3.one A)) h
open Go Go.Av Go.Lin
set_option maxHeartbeats 4000000 in
theorem C0A{Q}(l:List Row)(n:Nat)(hlen:l.length≤1000000)(hn:n≤1000000)(hP: ∀r∈l,A4g n 18446744073709551616 r)(H:Heap)(h:Q (B03 (A0J [] (pairs1 l))) H):D7 250 [.sl 4 (Rw C6 l)] H Q:=by
 refine A9 [(10,.par),(11,.par),(23,.par),(24,.par)] A6 Tryz.func250 rfl ?_;simp only[go_sem,seval,Tryz.results250];have z0:D.nilsl=H8 4 (pairs1 (l.take 0)).length none:=rfl;repeat' (first|with_reducible apply D1H|simp only[go_sem,seval]|simp(disch:=omega) only[A4,B3]|intro T|omega)
 refine C8 [13,14] (fun(p:Nat×Option Nat×Heap)=>[(15,.int .i64 p.1),(4,H8 4 (pairs1 (l.take p.1)).length p.2.1)]) (fun(p:Nat×Option Nat×Heap)=>p.2.2) (fun(p:Nat×Option Nat×Heap)=>p.1≤l.length∧O3 H p.2.2 4 (Rw C6 (pairs1 (l.take p.1))) [] [] p.2.1 none none) (fun(p:Nat×Option Nat×Heap)=>l.length-p.1) ((0,none,H)) (⟨D1c _,O3.nil H 4⟩) (by(try simp only[go_sem,seval])<;>(try simp(disch:=omega) [A4])) (by first|exact D2i _|exact A0 (by assumption)|exact B9 (by assumption)|simp only[Heap.Le,Heap.set,Heap.del]at* <;>grind) ?_;rintro Ec rfl ⟨i,o1,Hp⟩ ⟨hi,y⟩;simp only at hi y;have hz:o1=none→(pairs1 (l.take i)).length=0:=fun e=>by
  have:=y.a1;rw[e]at this;have this:Rw C6 (pairs1 (l.take i))= []:=this;rw[←D6 (f:=C6),this];rfl
 have ol:(pairs1 (l.take i)).length≤1000000:=by have:=A6c (l.take i) [];simp at this;unfold pairs1;omega
 have oP: ∀s∈pairs1 (l.take i),A4g n 18446744073709551616 s:=B01 _ _ (fun s hs=>hP s (List.mem_of_mem_take hs)) (by simp);by_cases a9:i<l.length
 ·have b1:decide ((i:Int)<l.length)=true:=D1J (by omega);have d3:(i:Int)<l.length:=by omega
  have ps:=B00 l i a9;have hr:=hP _ (D1V a9);generalize pairs1 (l.take i)=out at y hz ol oP ps⊢;obtain⟨r,b8⟩: ∃r,r=l[i]:=⟨_,rfl⟩
  rw[←b8]at ps hr;repeat' (first|with_reducible apply D1H|simp only[go_sem,seval,b1,B3 _ _ a9,C3 _ _ a9,←b8,B3H hz]|intro T|omega)
  rename_i b6;have h6:=T;clear T;have e6:(Hp.set b6 (.box (C6 r))) b6=some (.box (C6 r)):=A3 _ _;have I:Hp.Le (Hp.set b6 (.box (C6 r))):=A0 h6;generalize Hp.set b6 (.box (C6 r))=Hq at e6 I⊢;refine C8 [4,6,13,14,15,20] (fun(j:Nat)=>[(21,.int .i64 j)]) (fun(j:Nat)=>Hq) (fun(j:Nat)=>j≤out.length∧∀(k:Nat) (hk:k<out.length),k<j→¬hit r out[k]) (fun(j:Nat)=>out.length-j) (0) (⟨D1c _,fun _ _ h=>absurd h (Nat.not_lt_zero _)⟩) (by(try simp only[go_sem,seval])<;>(try simp(disch:=omega) [A4])) (by first|exact D2i _|exact A0 (by assumption)|exact B9 (by assumption)|simp only[Heap.Le,Heap.set,Heap.del]at* <;>grind) ?_;rintro Ec rfl j ⟨hj,Y⟩;by_cases u:j<out.length
  ·have J:decide ((j:Int)<out.length)=true:=D1J (by omega);have a0:(j:Int)<out.length:=by omega
   obtain⟨c,rfl⟩: ∃c,o1=some c:=by
    cases o1 with
    |none=>have:=hz rfl;omega
    |some c=>exact⟨c,rfl⟩
   have V:Hq c=some (.vec 4 (Rw C6 out)):=I _ _ y.a1;have hs:=oP _ (D1V u);have step: ¬hit r out[j]→∀(k:Nat) (hk:k<out.length),k<j+1→¬hit r out[k]:=fun g k hk d4=>by
    by_cases e:k=j
    ·subst e;exact g
    ·exact Y k hk (by omega)
   have b2: ¬hit r out[j]→(j+1≤out.length∧∀(k:Nat) (hk:k<out.length),k<j+1→¬hit r out[k]):=fun g=>⟨by omega,step g⟩
   have m6:b6∈[b6,c]:=by simp
   have mc:c∈[b6,c]:=by simp
   cases x:r.eq with
   |true=>
    repeat' (first|with_reducible apply D1H|simp only[go_sem,seval,J,e6,V,x]|simp(disch:=omega) only[A4,B3]|omega)
    exact C4 (j+1) (b2 (fun g=>by have:=g.1;rw[x]at this;cases this)) (by omega) (by(try simp only[go_sem,seval])<;>(try simp(disch:=omega) [A4])) (D2i _)
   |false=>
    cases z:out[j].eq with
    |true=>
     repeat' (first|with_reducible apply D1H|simp only[go_sem,seval,J,e6,V,x,a0,B3 _ _ u,C3 _ _ u,z]|simp(disch:=omega) only[A4,B3]|omega)
     exact C4 (j+1) (b2 (fun g=>by have:=g.2.1;rw[z]at this;cases this)) (by omega) (by(try simp only[go_sem,seval])<;>(try simp(disch:=omega) [A4])) (D2i _)
    |false=>
     repeat' (first|with_reducible apply D1H|simp only[go_sem,seval,J,e6,V,x,a0,B3 _ _ u,C3 _ _ u,z]|omega)
     refine F9 (fun G=>if G=4 then .bool (A4X r out[j] 1)else .undef) [b6,c] ?_;cases ho:A4X r out[j] 1 with
     |false=>
      repeat' (first|simp only[go_sem,seval,e6,V,m6,mc,a0,B3 _ _ u,C3 _ _ u]|simp(disch:=omega) only[A4,B3]|with_reducible refine R5 (fun H' Q hro hq=>A27 r out[j] 1 (.inl rfl) (by rw[hr.1,hs.1]) (by rw[hr.1];exact hn) hr.2 hs.2 H' (by rw[ho];exact hq)) ?_)
      exact C4 (j+1) (b2 (fun g=>by have:=g.2.2;rw[ho]at this;cases this)) (by omega) (by(try simp only[go_sem,seval])<;>(try simp(disch:=omega) [A4])) (D2i _)
     |true=>
      have hh:hit r out[j]:=⟨x,z,ho⟩
      have ph:=B0y r out j u Y hh;have sk:=hr.2.1;have c4:=hs.2.1;have s1:Sz r.k:=H6 (by omega);have s2:Sz out[j].k:=H6 (by omega);repeat' (first|simp only[go_sem,seval,e6,V,m6,mc,a0,B3 _ _ u,C3 _ _ u]|with_reducible refine R5 (fun H' Q hro hq=>A27 r out[j] 1 (.inl rfl) (by rw[hr.1,hs.1]) (by rw[hr.1];exact hn) hr.2 hs.2 H' (by rw[ho];exact hq)) ?_)
      refine F9 (fun G=>if G=6 then .bool (decide (r.k<out[j].k))else .undef) [b6,c] ?_;repeat' (first|with_reducible apply D1H|simp only[go_sem,seval,e6,V,m6,mc,a0,B3 _ _ u,C3 _ _ u]|simp(disch:=omega) only[A4,B3]|intro T|with_reducible refine R5 (fun H' Q hro hq=>B3T r.k out[j].k s1 s2 H' hq) ?_|omega)
      ·have hk:r.k<out[j].k:=by assumption
       rw[if_pos hk]at ph;have e:pairs1 (l.take (i+1))=out.set j {out[j]with k:=r.k}:=by rw[ps,ph]
       have el:(pairs1 (l.take (i+1))).length=out.length:=by rw[e,D2E]
       refine C4 (i+1,some c,Hq.set c (.vec 4 (Rw C6 (pairs1 (l.take (i+1)))))) ⟨by simp only[];omega,y.set1 I⟩ (by simp only[];omega) (by(try simp only[go_sem,seval,el,L2])<;>(try simp(disch:=omega) [A4])) ?_;simp only[];rw[e,←Y7 out j {out[j]with k:=r.k} _ rfl];exact D2i _
      ·have hk: ¬r.k<out[j].k:=by omega
       rw[if_neg hk]at ph;have e:pairs1 (l.take (i+1))=out:=by rw[ps,ph]
       refine C4 (i+1,some c,Hp) ⟨by simp only[];omega,by simp only[e];exact y⟩ (by simp only[];omega) (by(try simp only[go_sem,seval,e,L2])<;>(try simp(disch:=omega) [A4])) I
  ·have J:decide ((j:Int)<out.length)=false:=D1K (by omega);have e:pairs1 (l.take (i+1))=out++[r]:=by rw[ps,A71 r out (fun k hk=>Y k hk (by omega))]
   have el:(pairs1 (l.take (i+1))).length=out.length+1:=by rw[e];simp
   repeat' (first|simp only[go_sem,seval,J,e6]|intro T)
   rename_i bx;have c5:=T;clear T;refine O3.ap y (e1':=Rw C6 (pairs1 (l.take (i+1)))) I c5 (by simp) (by rw[D6]) (by simp only[D1M,D1O];omega) (by simp only[D1M,D1O];omega) (by rw[e,←O7];rfl) fun b' H' h4=>?_;repeat' (first|simp only[go_sem,seval]|simp(disch:=omega) only[A4,B3])
   refine C4 (i+1,some b',H') ⟨by simp only[];omega,h4⟩ (by simp only[];omega) (by(try simp only[go_sem,seval,L2,el])<;>(try simp(disch:=omega) [A4])) (D2i _)
 ·have b1:decide ((i:Int)<l.length)=false:=D1K (by omega);rw[D1W (by omega)]at y hz ol oP;have e1:l.take i=l:=D1W (by omega);rw[e1]at*;have d5:(pairs1 l).length≤1000000:=ol;generalize pairs1 l=m at*;repeat' simp only[go_sem,seval,b1,B3H hz]
  refine C8 [4,59] (fun(p:Nat×List Row×Heap)=>[(60,.int .i64 p.1)]) (fun(p:Nat×List Row×Heap)=>p.2.2) (fun(p:Nat×List Row×Heap)=>p.1≤m.length∧p.2.1.length=m.length∧p.2.1.drop p.1=m.drop p.1∧A0J [] m=A0J (p.2.1.take p.1) (m.drop p.1)∧(∀s∈p.2.1,A4g n 18446744073709551616 s)∧O3 H p.2.2 4 (Rw C6 p.2.1) [] [] o1 none none) (fun(p:Nat×List Row×Heap)=>m.length-p.1) ((0,m,Hp)) (⟨D1c _,rfl,rfl,rfl,oP,y⟩) (by(try simp only[go_sem,seval])<;>(try simp(disch:=omega) [A4])) (by first|exact D2i _|exact A0 (by assumption)|exact B9 (by assumption)|simp only[Heap.Le,Heap.set,Heap.del]at* <;>grind) ?_;clear y oP;rintro Ec rfl ⟨i,X,Hp⟩ ⟨c6,W,b3,A,b0,y⟩;simp only at c6 W b3 A b0 y;by_cases hit:i<m.length
  ·have a6:decide ((i:Int)<m.length)=true:=D1J (by omega);have d6:(i:Int)<m.length:=by omega
   obtain⟨c,rfl⟩: ∃c,o1=some c:=by
    cases o1 with
    |none=>have:=hz rfl;omega
    |some c=>exact⟨c,rfl⟩
   have b4:i<X.length:=by omega
   have c7:m[i]=X[i]:=by
    have h1:=D1m b4;have h2:=D1m hit;rw[b3,h2]at h1;exact(List.cons.inj h1).1
   rw[D1m hit,B02,c7]at A;repeat' simp only[go_sem,seval,a6]
   refine C8 [4,9,59,60,63] (fun(p:Nat×Row×Heap)=>[(64,.int .i64 p.1)]) (fun(p:Nat×Row×Heap)=>p.2.2) (fun(p:Nat×Row×Heap)=>p.1≤i∧A4g n 18446744073709551616 p.2.1∧A5M X[i] (X.take i)=A5M p.2.1 ((X.take i).drop p.1)∧O3 H p.2.2 4 (Rw C6 (X.set i p.2.1)) [] [] (some c) none none) (fun(p:Nat×Row×Heap)=>i-p.1) ((0,X[i],Hp)) (⟨D1c _,b0 _ (D1V b4),rfl,by rw[List.set_getElem_self];exact y⟩) (by(try simp only[go_sem,seval])<;>(try simp(disch:=omega) [A4])) (by first|exact D2i _|exact A0 (by assumption)|exact B9 (by assumption)|simp only[Heap.Le,Heap.set,Heap.del]at* <;>grind) ?_;clear y;rintro Ec rfl ⟨j,r,Hp⟩ ⟨hj,hr,hm,y⟩;simp only at hj hr hm y;by_cases u:j<i
   ·have M:decide ((j:Int)<i)=true:=D1J (by omega);have c8:j<X.length:=by omega
    have hs:=b0 _ (D1V c8);obtain⟨s,b7⟩: ∃s,s=X[j]:=⟨_,rfl⟩
    rw[←b7]at hs;have dj:(X.take i).drop j=s::(X.take i).drop (j+1):=by
     rw[D1m (by rw[D1z];omega),List.getElem_take,b7]
    rw[dj,B4s]at hm;have yi:(X.set i r).length=X.length:=D2E ..;have b9:i<(X.set i r).length:=by omega
    have c0:j<(X.set i r).length:=by omega
    have gi:(X.set i r)[i]=r:=List.getElem_set_self ..;have gj:(X.set i r)[j]=s:=by rw[List.getElem_set_ne (by omega),b7]
    have o:(i:Int)<X.length:=by omega
    have q:(j:Int)<X.length:=by omega
    have V:Hp c=some (.vec 4 (Rw C6 (X.set i r))):=y.a1;have ri:=B3 (f:=C6) (X.set i r) i b9;have O:=C3 (f:=C6) (X.set i r) i b9;have rj:=B3 (f:=C6) (X.set i r) j c0;have U:=C3 (f:=C6) (X.set i r) j c0;rw[gi]at ri O;rw[gj]at rj U;have mc:c∈[c]:=by simp
    cases x:r.eq with
    |true=>
     rw[if_pos (.inl x)]at hm;repeat' (first|with_reducible apply D1H|simp only[go_sem,seval,M,o,q,←W]|omega)
     refine F9 (fun G=>.undef) [c] ?_;repeat' (first|simp only[go_sem,seval,V,mc,ri,O,x,yi,o]|simp(disch:=omega) only[A4,B3])
     exact C4 (j+1,r,Hp) ⟨by simp only[];omega,hr,hm,y⟩ (by simp only[];omega) (by(try simp only[go_sem,seval])<;>(try simp(disch:=omega) [A4])) (D2i _)
    |false=>
     cases z:s.eq with
     |true=>
      rw[if_pos (.inr (.inl z))]at hm;repeat' (first|with_reducible apply D1H|simp only[go_sem,seval,M,o,q,←W]|omega)
      refine F9 (fun G=>.undef) [c] ?_;repeat' (first|simp only[go_sem,seval,V,mc,ri,O,rj,U,x,z,yi,o,q]|simp(disch:=omega) only[A4,B3])
      exact C4 (j+1,r,Hp) ⟨by simp only[];omega,hr,hm,y⟩ (by simp only[];omega) (by(try simp only[go_sem,seval])<;>(try simp(disch:=omega) [A4])) (D2i _)
     |false=>
      have c9:r.c.length=s.c.length:=by rw[hr.1,hs.1]
      have d0:r.c.length≤1000000:=by rw[hr.1];exact hn
      have c2: ∀(b:Bool),A4X r s (-1)=b→∀(H':Heap) (Q:D→Heap→Prop),Q (.bool b) H'→D7 281 [.agg [.sl 2 (Rw C5 r.c),.bool (decide (r.k<0)),.sl 1 (Rw F4 (C2 r.k.natAbs)),.bool false],.agg [.sl 2 (Rw C5 s.c),.bool (decide (s.k<0)),.sl 1 (Rw F4 (C2 s.k.natAbs)),.bool false],.int .i64 (-1)] H' Q:=fun b hb H' Q hq=>by
       have h0:=A27 (Q:=Q) r s (-1) (.inr rfl) c9 d0 hr.2 hs.2 H' (by rw[hb];exact hq);rw[B6g,B6g,x,z]at h0;exact h0
      repeat' (first|with_reducible apply D1H|simp only[go_sem,seval,M,o,q,←W]|omega)
      cases ho:A4X r s (-1)with
      |false=>
       rw[if_pos (.inr (.inr ho))]at hm;refine F9 (fun G=>if G=17 then .bool false else .undef) [c] ?_;repeat' (first|simp only[go_sem,seval,V,mc,ri,O,rj,U,x,z,yi,o,q]|simp(disch:=omega) only[A4,B3]|with_reducible refine R5 (fun H' Q hro hq=>c2 _ ho H' Q hq) ?_)
       exact C4 (j+1,r,Hp) ⟨by simp only[];omega,hr,hm,y⟩ (by simp only[];omega) (by(try simp only[go_sem,seval])<;>(try simp(disch:=omega) [A4])) (D2i _)
      |true=>
       rw[if_neg (by rw[x,z,ho];decide)]at hm;have sk:=hr.2.1;have c4:=hs.2.1;have s1:Sz r.k:=H6 (by omega);have s2:Sz s.k:=H6 (by omega);refine F9 (fun G=>if G=17 then .bool true else .undef) [c] ?_;repeat' (first|simp only[go_sem,seval,V,mc,ri,O,rj,U,x,z,yi,o,q]|with_reducible refine R5 (fun H' Q hro hq=>c2 _ ho H' Q hq) ?_)
       rcases Int.lt_trichotomy (r.k+s.k) 0 with g|g|g
       ·rw[if_pos g]at hm;have sg:(r.k+s.k).sign= -1:=Int.sign_eq_neg_one_of_neg g;rw[hm]at A;simp only[]at A;rw[A]at h;refine F9 (fun G=>if G=8 then .agg (C5 (r.k+s.k))else if G=9 then .int .i64 (-1)else .undef) [c] ?_;repeat' (first|simp only[go_sem,seval,V,mc,ri,O,rj,U,yi,o,q]|with_reducible refine R5 (fun H' Q hro hq=>A0X r.k s.k s1 s2 H' hq) ?_|with_reducible refine R5 (fun H' Q hro hq=>L3 (r.k+s.k) H' (by rw[sg];exact hq)) ?_)
        exact Fin.nilsl 4 _ (D2j y.le h)
       ·have g1: ¬r.k+s.k<0:=by omega
        rw[if_neg g1,if_pos g]at hm;have sg:(r.k+s.k).sign=0:=by rw[g];rfl
        refine F9 (fun G=>if G=8 then .agg (C5 (r.k+s.k))else if G=9 then .int .i64 0 else .undef) [c] ?_;repeat' (first|with_reducible apply D1H|simp only[go_sem,seval,V,mc,ri,O,rj,U,yi,o,q]|simp(disch:=omega) only[A4,B3]|with_reducible refine R5 (fun H' Q hro hq=>A0X r.k s.k s1 s2 H' hq) ?_|with_reducible refine R5 (fun H' Q hro hq=>L3 (r.k+s.k) H' (by rw[sg];exact hq)) ?_|omega)
        refine C4 (j+1,{r with eq:=true},Hp.set c (.vec 4 (Rw C6 (X.set i {r with eq:=true})))) ⟨by simp only[];omega,⟨hr.1,hr.2⟩,hm,y.set1 (D2i _)⟩ (by simp only[];omega) (by(try simp only[go_sem,seval])<;>(try simp(disch:=omega) [A4])) ?_;simp only[];rw[←List.set_set (a:=r) (b:=({r with eq:=true}:Row)),←Y7 (X.set i r) i {r with eq:=true} _ rfl];exact D2i _
       ·have g1: ¬r.k+s.k<0:=by omega
        have g2: ¬r.k+s.k=0:=by omega
        rw[if_neg g1,if_neg g2]at hm;have sg:(r.k+s.k).sign=1:=Int.sign_eq_one_of_pos g;refine F9 (fun G=>if G=8 then .agg (C5 (r.k+s.k))else if G=9 then .int .i64 1 else .undef) [c] ?_;repeat' (first|simp only[go_sem,seval,V,mc,ri,O,rj,U,yi,o,q]|simp(disch:=omega) only[A4,B3]|with_reducible refine R5 (fun H' Q hro hq=>A0X r.k s.k s1 s2 H' hq) ?_|with_reducible refine R5 (fun H' Q hro hq=>L3 (r.k+s.k) H' (by rw[sg];exact hq)) ?_)
        exact C4 (j+1,r,Hp) ⟨by simp only[];omega,hr,hm,y⟩ (by simp only[];omega) (by(try simp only[go_sem,seval])<;>(try simp(disch:=omega) [A4])) (D2i _)
   ·have M:decide ((j:Int)<i)=false:=D1K (by omega);have d2:j=i:=by omega
    subst d2;rw[List.drop_eq_nil_of_le (by rw[D1z];omega)]at hm;rw[hm]at A;simp only[A5M]at A;repeat' (first|simp only[go_sem,seval,M]|simp(disch:=omega) only[A4,B3])
    refine C4 (j+1,X.set j r,Hp) ⟨by simp only[];omega,by simp only[D2E];exact W,?_,?_,?_,y⟩ (by simp only[];omega) (by(try simp only[go_sem,seval])<;>(try simp(disch:=omega) [A4])) (D2i _)
    ·show (X.set j r).drop (j+1)=m.drop (j+1);rw[List.drop_set_of_lt (by omega),←D2R,←D2R,b3]
    ·show A0J [] m=A0J ((X.set j r).take (j+1)) (m.drop (j+1));rw[A,D1a (by rw[D2E];exact b4),List.take_set_of_le (by omega),List.getElem_set_self]
    ·intro s hs;rcases List.mem_or_eq_of_mem_set hs with g|g
     ·exact b0 s g
     ·rw[g];exact hr
  ·have a6:decide ((i:Int)<m.length)=false:=D1K (by omega);rw[List.drop_eq_nil_of_le (by omega),D1W (by omega)]at A;rw[A]at h;repeat' simp only[go_sem,seval,a6]
   refine Fin.out1 (by rw[D6];exact W.symm) y.a1 (D2j (O3.one y) h)
end Go.Proofs.YtibphjonmikciaaGreatDoor
namespace Go.Lin
def CS(m:Nat)(c:List Int):Prop:=∀x∈c,x.natAbs<m
def AP(n m:Nat)(l:List Row):Prop:=∀r∈l,A4g n m r
def TA(l:List Row)(X:List Row)(i:Nat):Prop:=X9 l=(X9 (l.drop i)).map (X++ ·)
def TS(l X:List Row)(r:Row)(i:Nat):Prop:=X9 l=(A06 r).bind fun x=>(X9 (l.drop (i+1))).map ((X++x)++ ·)
end Go.Lin
namespace Go.Proofs.YtibphjonmikciaaGreatDoor
open Go Go.Av Go.Lin
attribute [local irreducible] ACalls S9
set_option maxHeartbeats 4000000 in
theorem C34{Q}(l:List Row)(n:Nat)(hlen:l.length≤1000000)(hn:n≤1000000)(hP:AP n 4611686018427387904 l)(hS: ∀r∈l,CS 4294967296 r.c)(H:Heap)(h:Q (B03 (B0b l)) H):D7 220 [.sl 4 (Rw C6 l)] H Q:=by
 refine A9 [(17,.par),(19,.par),(23,.par)] A6 Tryz.func220 rfl ?_;simp only[go_sem,seval,Tryz.results220];have z0:D.nilsl=H8 4 0 none:=rfl;unfold B0b at h;repeat' (first|with_reducible apply D1H|simp only[go_sem,seval]|simp(disch:=omega) only[A4,B3]|simp(disch:=first|omega|grind) only[A8]|(intro u;try simp only[A5]at u)|omega)
 refine C8 [15,16] (fun(p:Nat×List Row×Option Nat)=>[(17,.int .i64 p.1),(4,H8 4 p.2.1.length p.2.2)]) (fun(p:Nat×List Row×Option Nat)=>putB H 4 (Rw C6 p.2.1) p.2.2) (fun(p:Nat×List Row×Option Nat)=>p.1≤l.length∧p.2.1.length≤p.1∧AP n 4611686018427387904 p.2.1∧TA l p.2.1 p.1∧(p.2.2=none→p.2.1= [])∧(∀b,p.2.2=some b→H b=none)) (fun(p:Nat×List Row×Option Nat)=>l.length-p.1) ((0,[],none)) (⟨D1c _,D1b _,(fun s hs=>by cases hs),(by simp[TA]),by simp,by simp⟩) (by(try simp only[go_sem,seval])<;>(try simp(disch:=omega) [A4])) (by first|exact D2i _|exact A0 (by assumption)|exact B9 (by assumption)|simp only[Heap.Le,Heap.set,Heap.del]at* <;>grind) ?_;rintro Ec rfl ⟨i,X,o1⟩ ⟨hi,l6,b4,hT,ho,d0⟩;simp only at hi l6 b4 hT ho d0;have h3:=O3.put (H:=H) (sz:=4) (es:=Rw C6 X) (ob:=o1) (fun e=>by rw[ho e];rfl) d0;generalize putB H 4 (Rw C6 X) o1=Hp at h3⊢;by_cases d3:i<l.length
 ·have V:decide ((i:Int)<l.length)=true:=D1J (by omega);have m5:(i:Int)<l.length:=by omega
  have hr:=hP _ (D1V d3);have d4:=hS _ (D1V d3);have st:TS l X l[i] i:=B4t d3 hT;obtain⟨r,i4⟩: ∃r,r=l[i]:=⟨_,rfl⟩
  rw[←i4]at hr d4 st;have m8:r.c.length≤1000000:=by rw[hr.1];exact hn
  repeat' (first|with_reducible apply D1H|simp only[go_sem,seval,V,B3 _ _ d3,C3 _ _ d3,←i4]|simp(disch:=first|omega|grind) only[A8]|(intro u;try simp only[A5]at u)|omega)
  rename_i T h6 O;have h7:=u;clear u;have i5:T≠O:=Ne.symm h7.1;have e6:(Hp.set T (.box (C6 r))) T=some (.box (C6 r)):=A3 _ _;have g7:(Hp.set T (.box (C6 r))) O=none:=by rw[A2 _ h7.1];exact h7.2
  have d5:Hp.Le (Hp.set T (.box (C6 r))):=A0 h6;generalize Hp.set T (.box (C6 r))=B6 at e6 g7 d5⊢;clear h7;have d6:=B3d r.c 4294967295 (fun x hx=>by have:=d4 x hx;omega);have i9: ∀(a:Int) (_:Sz a) (H:Heap) (Q:D→Heap→Prop),Q (.agg (C5 (a.natAbs:Nat))) H→D7 244 [.agg (C5 a),.agg [.bool false,.nilsl]] H Q:=fun a ha H Q hq=>by
   refine j7 (args':=[.agg (C5 a),.agg (C5 0)]) rfl (fun i d d' h1 h2=>?_) (B6p a 0 ha (by decide) H (by rw[show (0:Int).natAbs=0 from rfl,Nat.gcd_zero_right];exact hq))
   match i with
   |0=>cases h1;cases h2;exact .same _
   |1=>cases h1;cases h2;exact A86
   |i+2=>cases h1
  repeat' (first|with_reducible apply D1H|simp only[go_sem,seval,e6,A2 _ i5]|simp(disch:=omega) only[A4,B3]|simp(disch:=first|omega|grind) only[A8]|(intro u;try simp only[A5]at u)|omega)
  refine C8 [4,6,7,15,16,17,22,23] (fun(j:Nat)=>[(24,.int .i64 j)]) (fun(j:Nat)=>B6.set O (.box (gB j (A3A r.c j:Nat)))) (fun(j:Nat)=>j≤r.c.length) (fun(j:Nat)=>r.c.length-j) (0) (D1c _) (by(try simp only[go_sem,seval])<;>(try simp(disch:=omega) [A4])) (by first|exact D2i _|exact A0 (by assumption)|exact B9 (by assumption)|simp only[Heap.Le,Heap.set,Heap.del]at* <;>grind) ?_
  ·rintro Ec rfl j hj;by_cases A:j<r.c.length
   ·have V:decide ((j:Int)<r.c.length)=true:=D1J (by omega);have c2:(j:Int)<r.c.length:=by omega
    have c1:=d4 _ (D1V A);have s1:Sz r.c[j]:=H6 (by omega);have gs:=A72 r.c j A;have gj:=d6 j hj;cases j with
    |zero=>
     rw[A4h,Nat.gcd_zero_right]at gs;have eg:gB 0 (A3A r.c 0:Nat)= [.bool false,.nilsl]:=rfl;rw[eg];repeat' (first|with_reducible apply D1H|simp only[go_sem,seval,V,c2,B3 _ _ A,C3 _ _ A]|simp(disch:=omega) only[A4,B3]|simp(disch:=first|omega|grind) only[A8]|(intro u;try simp only[A5]at u)|with_reducible refine i9 _ s1 _ _ ?_|omega)
     rename_i b9;have h9:=u;clear u;refine C4 (0+1) (by omega) (by omega) (by(try simp only[go_sem,seval])<;>(try simp(disch:=omega) [A4])) ?_;rw[A5c,gs];exact(by simp only[F0,D3,D4]at* <;>grind)
    |succ j=>
     have hg:Sz ((A3A r.c (j+1):Nat):Int):=H6 (by omega);have m1: ∀(H:Heap) (Q:D→Heap→Prop),Q (.agg (C5 ((A3A r.c (j+1+1):Nat):Int))) H→D7 244 [.agg (C5 r.c[j+1]),.agg (C5 ((A3A r.c (j+1):Nat):Int))] H Q:=fun H Q hq=>
      B6p _ _ s1 (by omega) H (by rw[Int.natAbs_natCast,←gs];exact hq)
     rw[A5c];repeat' (first|with_reducible apply D1H|simp only[go_sem,seval,V,c2,B3 _ _ A,C3 _ _ A]|simp(disch:=omega) only[A4,B3]|simp(disch:=first|omega|grind) only[A8]|(intro u;try simp only[A5]at u)|with_reducible refine m1 _ _ ?_|omega)
     rename_i b9;have h9:=u;clear u;refine C4 (j+1+1) (by omega) (by omega) (by(try simp only[go_sem,seval])<;>(try simp(disch:=omega) [A4])) ?_;rw[A5c];exact(by simp only[F0,D3,D4]at* <;>grind)
   ·have V:decide ((j:Int)<r.c.length)=false:=D1K (by omega);have d7:j=r.c.length:=by omega
    subst d7;rw[A6d];have d6:=d6 _ (D1b _);rw[A6d]at d6;have hG:NilR (.agg (gB r.c.length (gcdR r.c:Nat))) (.agg (C5 (gcdR r.c:Nat))):=by have:=C31 r.c r.c.length;rwa [A6d]at this
    have f8:gcdR r.c≠0→gB r.c.length (gcdR r.c:Nat)=C5 (gcdR r.c:Nat):=fun g=>by
     cases hl:r.c.length with
     |zero=>rw[D1f hl]at g;exact absurd rfl g
     |succ k=>exact A5c _ _
    obtain⟨d1,d2,hd⟩: ∃d1 d2,gB r.c.length (gcdR r.c:Nat)= [d1,d2]:=by
     unfold gB;split
     ·exact⟨_,_,rfl⟩
     ·exact⟨_,_,rfl⟩
    rw[hd]at hG f8⊢;have M:A06 r=if gcdR r.c=0 then(if r.k<0∨(r.eq=true∧0<r.k)then none else some [])else if gcdR r.c=1 then some [r]else if r.eq=true∧r.k.fdiv (gcdR r.c:Nat)*(gcdR r.c:Nat)-r.k≠0 then none else some [⟨r.c.map (Int.fdiv · (gcdR r.c:Nat)),r.k.fdiv (gcdR r.c:Nat),r.eq⟩]:=rfl
    generalize gcdR r.c=g at d6 hG f8 M;have sgn: ∀(s:Int),(g:Int).sign=s→∀(H:Heap) (Q:D→Heap→Prop),Q (.int .i64 s) H→D7 245 [.agg [d1,d2]] H Q:=fun s hs H Q hq=>by
     refine j7 (args':=[.agg (C5 (g:Nat))]) rfl (fun i d d' h1 h2=>?_) (L3 (g:Int) H (by rw[hs];exact hq))
     match i with
     |0=>cases h1;cases h2;exact hG
     |i+1=>cases h1
    have e7:(B6.set O (.box [d1,d2])) O=some (.box [d1,d2]):=A3 _ _;have a9:(B6.set O (.box [d1,d2])) T=some (.box (C6 r)):=by rw[A2 _ i5];exact e6
    have W:Hp.Le (B6.set O (.box [d1,d2])):=d5.trans (A0 g7);generalize B6.set O (.box [d1,d2])=B7 at e7 a9 W⊢;clear e6 g7 d5 i9 hd;have c4:A06 r=none→Q (.tuple [.sl 4 [],.bool false]) H:=fun e=>by
     unfold TS at st;rw[e]at st;rw[st]at h;exact h
    by_cases g0:g=0
    ·rw[if_pos g0]at M;have d8:((g:Nat):Int).sign=0:=by rw[g0];rfl
     have sk:=hr.2.1;by_cases k1:r.k<0
     ·rw[if_pos (.inl k1)]at M;have sg:r.k.sign= -1:=Int.sign_eq_neg_one_of_neg k1;repeat' (first|simp only[go_sem,seval,V,e7,a9,sg]|with_reducible refine sgn 0 d8 _ _ ?_|with_reducible refine L3 r.k _ ?_)
      exact Fin.nilsl 4 _ (D2j (h3.le.trans W) (c4 M))
     ·cases b0:r.eq with
      |true=>
       by_cases k2:0<r.k
       ·rw[if_pos (.inr ⟨b0,k2⟩)]at M;have sg:r.k.sign=1:=Int.sign_eq_one_of_pos k2;repeat' (first|simp only[go_sem,seval,V,e7,a9,sg,b0]|with_reducible refine sgn 0 d8 _ _ ?_|with_reducible refine L3 r.k _ ?_)
        exact Fin.nilsl 4 _ (D2j (h3.le.trans W) (c4 M))
       ·have k0:r.k=0:=by omega
        rw[if_neg (by omega)]at M;have sg:r.k.sign=0:=by rw[k0];rfl
        repeat' (first|simp only[go_sem,seval,V,e7,a9,sg,b0]|simp(disch:=omega) only[A4,B3]|with_reducible refine sgn 0 d8 _ _ ?_|with_reducible refine L3 r.k _ ?_)
        refine C4 (i+1,X,o1) ⟨by simp only[];omega,by simp only[];omega,b4,?_,ho,d0⟩ (by simp only[];omega) (by(try simp only[go_sem,seval])<;>(try simp(disch:=omega) [A4])) (h3.putle.trans W);unfold TS at st;rw[M]at st;simp only[TA];rw[st];simp
      |false=>
       have k3:A06 r=some []:=by rw[M,if_neg (by rw[b0];simp;omega)]
       rcases Int.lt_trichotomy 0 r.k with k2|k2|k2
       ·have sg:r.k.sign=1:=Int.sign_eq_one_of_pos k2;repeat' (first|simp only[go_sem,seval,V,e7,a9,sg,b0]|simp(disch:=omega) only[A4,B3]|with_reducible refine sgn 0 d8 _ _ ?_|with_reducible refine L3 r.k _ ?_)
        refine C4 (i+1,X,o1) ⟨by simp only[];omega,by simp only[];omega,b4,?_,ho,d0⟩ (by simp only[];omega) (by(try simp only[go_sem,seval])<;>(try simp(disch:=omega) [A4])) (h3.putle.trans W);unfold TS at st;rw[k3]at st;simp only[TA];rw[st];simp
       ·have sg:r.k.sign=0:=by rw[←k2];rfl
        repeat' (first|simp only[go_sem,seval,V,e7,a9,sg,b0]|simp(disch:=omega) only[A4,B3]|with_reducible refine sgn 0 d8 _ _ ?_|with_reducible refine L3 r.k _ ?_)
        refine C4 (i+1,X,o1) ⟨by simp only[];omega,by simp only[];omega,b4,?_,ho,d0⟩ (by simp only[];omega) (by(try simp only[go_sem,seval])<;>(try simp(disch:=omega) [A4])) (h3.putle.trans W);unfold TS at st;rw[k3]at st;simp only[TA];rw[st];simp
       ·omega
    ·rw[if_neg g0]at M;have k4:=f8 g0;rw[k4]at e7;clear f8 hG k4 sgn;have gi:((g:Nat):Int)≠0:=by omega
     have gb:((g:Nat):Int).natAbs<4294967296:=by omega
     have sk:=hr.2.1;have s1:Sz r.k:=H6 (by omega);have s2:Sz ((g:Nat):Int):=H6 (by omega);obtain⟨G,g2⟩: ∃G:Int,G=(g:Nat):=⟨_,rfl⟩
     rw[←g2]at M e7 gi gb s2;have sg: ¬G.sign=0:=by rw[Int.sign_eq_zero_iff_zero];exact gi
     by_cases g1:g=1
     ·rw[if_pos g1]at M;have g3:(G.natAbs=1)=True:=by simp[g2,g1]
      repeat' (first|simp only[go_sem,seval,V,e7,a9,sg,g3]|(intro u;try simp only[A5]at u)|with_reducible refine L3 G _ ?_|with_reducible refine B0i G _ ?_)
      rename_i bx;have c5:=u;clear u;refine O3.ap h3 (e1':=Rw C6 (X++[r])) W c5 (by simp) (by rw[D6]) (by simp only[D1M,D1O];omega) (by simp only[D1M,D1O];omega) (by rw[←O7];rfl) fun b' H' h4=>?_;repeat' (first|simp only[go_sem,seval]|simp(disch:=omega) only[A4,B3])
      refine C4 (i+1,X++[r],some b') ⟨by simp only[];omega,by simp only[D1N,D1M,D1O];omega,fun s hs=>?_,?_,by simp,fun b e=>h4.n1 b e⟩ (by simp only[];omega) (by(try simp only[go_sem,seval,D1N,L2])<;>(try simp(disch:=omega) [A4])) h4.putle
      ·rcases D1h.1 hs with q|q
       ·exact b4 s q
       ·simp at q;rw[q];exact hr
      ·unfold TS at st;rw[M]at st;exact st
     ·rw[if_neg g1]at M;have g3:(G.natAbs=1)=False:=by simp;omega
      obtain⟨K,hK⟩: ∃K,K=r.k.fdiv G:=⟨_,rfl⟩
      rw[←hK]at M;have m4:K.natAbs≤r.k.natAbs:=by rw[hK,g2];exact A3B _ _ g0
      have s3:Sz K:=H6 (by omega);have m2: ∀(H:Heap) (Q:D→Heap→Prop),Q (.agg (C5 K)) H→D7 247 [.agg (C5 r.k),.agg (C5 G)] H Q:=fun H Q hq=>A3l r.k G s1 gi gb H (by rw[←hK];exact hq);repeat' (first|simp only[go_sem,seval,V,e7,a9,sg,g3]|(intro u;try simp only[A5]at u)|with_reducible refine L3 G _ ?_|with_reducible refine B0i G _ ?_|with_reducible refine m2 _ _ ?_)
      rename_i I;have f9:=u;clear u;have k5:O≠I:=fun g=>by rw[g,f9]at e7;cases e7
      have k8:T≠I:=fun g=>by rw[g,f9]at a9;cases a9
      have c7:(B7.set I (.box (C5 K))) O=some (.box (C5 G)):=by rw[A2 _ k5];exact e7
      have c6:(B7.set I (.box (C5 K))) T=some (.box (C6 r)):=by rw[A2 _ k8];exact a9
      have c9:(B7.set I (.box (C5 K))) I=some (.box (C5 K)):=A3 _ _;have J:Hp.Le (B7.set I (.box (C5 K))):=W.trans (A0 f9);generalize B7.set I (.box (C5 K))=B8 at c7 c6 c9 J⊢;clear e7 a9 W f9;have m6:T∈[T,O,I]:=by simp
      have m7:O∈[T,O,I]:=by simp
      have g4:I∈[T,O,I]:=by simp
      have k9:T∈[T,I]:=by simp
      have l1:I∈[T,I]:=by simp
      cases b0:r.eq with
      |true=>
       have a3:=A1V (a:=K) (b:=G) (m:=4611686018427387904) (n:=4294967296) (by omega) (by omega);have s4:Sz (K*G):=H6 (by omega);obtain⟨Z,hZ⟩: ∃Z,Z=K*G-r.k:=⟨_,rfl⟩
       have l3: ∀(H:Heap) (Q:D→Heap→Prop),Q (.agg (C5 Z)) H→D7 249 [.agg (C5 (K*G)),.agg (C5 r.k)] H Q:=fun H Q hq=>A0K (K*G) r.k s4 s1 H (by rw[←hZ];exact hq);refine F9 (fun i'=>if i'=5 then .agg (C5 (K*G))else if i'=8 then .agg (C5 Z)else if i'=9 then .int .i64 Z.sign else .undef) [T,O,I] ?_;by_cases z0:Z=0
       ·have sz:Z.sign=0:=by rw[z0];rfl
        have b8:A06 r=some [⟨r.c.map (Int.fdiv · G),K,r.eq⟩]:=by rw[M,if_neg (by rw[←hZ,z0];simp)]
        rw[sz];repeat' (first|simp only[go_sem,seval,c6,c7,c9,m6,m7,g4,b0]|with_reducible refine R5 (fun H' Q hro hq=>S6 K G s3 s2 H' hq) ?_|with_reducible refine R5 (fun H' Q hro hq=>l3 H' Q hq) ?_|with_reducible refine R5 (fun H' Q hro hq=>L3 Z H' (by rw[sz];exact hq)) ?_)
        obtain⟨C,hC⟩: ∃C,C=r.c.map (Int.fdiv · G):=⟨_,rfl⟩
        have a0:C.length=r.c.length:=by rw[hC];simp
        refine F9 (fun i'=>.undef) [T,I] ?_;repeat' (first|with_reducible apply D1H|simp only[go_sem,seval,c6,c7,c9,k9,l1]|simp(disch:=first|omega|grind) only[A8]|(intro u;try simp only[A5]at u)|omega)
        rename_i bv hv z;have b1:=u;clear u;have nb:z≠bv:=b1.1;have k6:T≠bv∧T≠z:=⟨(fun g=>by rw[g,hv]at c6;cases c6),(fun g=>by rw[g,b1.2]at c6;cases c6)⟩
        have k7:O≠bv∧O≠z:=⟨(fun g=>by rw[g,hv]at c7;cases c7),(fun g=>by rw[g,b1.2]at c7;cases c7)⟩
        rw[show List.replicate r.c.length [D.bool false,.nilsl]=j4 C r.c.length 0 from(A2Y _ _).symm];obtain⟨RR,e0⟩: ∃RR:Row,RR=⟨C,K,r.eq⟩:=⟨_,rfl⟩
        refine C8 [4,6,7,12,15,16,17,76,77] (fun(j:Nat)=>[(78,.int .i64 j)]) (fun(j:Nat)=>(B8.set bv (.vec 2 (j4 C r.c.length j))).set z (.box [.vec bv 2 0 r.c.length,.bool (decide (K<0)),.sl 1 (Rw F4 (C2 K.natAbs)),.bool r.eq])) (fun(j:Nat)=>j≤r.c.length) (fun(j:Nat)=>r.c.length-j) (0) (D1c _) (by(try simp only[go_sem,seval])<;>(try simp(disch:=omega) [A4])) (by first|exact D2i _|exact A0 (by assumption)|exact B9 (by assumption)|simp only[Heap.Le,Heap.set,Heap.del]at* <;>grind) ?_;rintro Ec rfl j hj;have g5:=A3m C r.c.length j a0 hj;by_cases A:j<r.c.length
        ·have b2:decide ((j:Int)<r.c.length)=true:=D1J (by omega);have c2:(j:Int)<r.c.length:=by omega
         have c1:=d4 _ (D1V A);have sj:Sz r.c[j]:=H6 (by omega);have m3:j<C.length:=by omega
         have g6:C[j]=r.c[j].fdiv G:=by simp only[hC,D17]
         have b3:=A16 C r.c.length j a0 A (C5 (r.c[j].fdiv G)) (by rw[g6]);have g8:=A04 C r.c.length j j a0 (D1b _) A;have e4:=A03 C r.c.length j j a0 (D1b _) A;repeat' (first|with_reducible apply D1H|simp only[go_sem,seval,b2,c2,B3 _ _ A,C3 _ _ A]|(intro u;try simp only[A5]at u)|omega)
         rename_i U;have c0:=u;clear u;have g9:z∈[O,z,U]:=by simp
         have h0:U∈[O,z,U]:=by simp
         have p7:O∈[O,z,U]:=by simp
         have j1:=c0.1;have j2:=c0.2.1;have j3:O≠U:=fun g=>by have:=c0.2.2;rw[←g,c7]at this;cases this
         have v7:((B8.set bv (.vec 2 (j4 C r.c.length j))).set z (.box [.vec bv 2 0 r.c.length,.bool (decide (K<0)),.sl 1 (Rw F4 (C2 K.natAbs)),.bool r.eq])) O=some (.box (C5 G)):=by rw[A2 _ k7.2,A2 _ k7.1];exact c7
         obtain⟨y,hy⟩: ∃y,y=r.c[j].fdiv G:=⟨_,rfl⟩
         have h8: ∀(H:Heap) (Q:D→Heap→Prop),Q (.agg (C5 y)) H→D7 247 [.agg (C5 r.c[j]),.agg (C5 G)] H Q:=fun H Q hq=>A3l r.c[j] G sj gi gb H (by rw[←hy];exact hq);rw[←hy]at b3;refine F9 (fun i'=>if i'=5 then .agg (C5 y)else .undef) [O,z,U] ?_;repeat' (first|with_reducible apply D1H|simp only[go_sem,seval,p7,g9,h0,A2 _ j3,A2 _ k7.2,A2 _ k7.1,c7,c2,g5,g8,e4,b3]|simp(disch:=omega) only[A4,B3]|simp(disch:=first|omega|grind) only[A8]|with_reducible refine R5 (fun H' Q hro hq=>h8 H' Q hq) ?_|omega)
         refine C4 (j+1) (by omega) (by omega) (by(try simp only[go_sem,seval])<;>(try simp(disch:=omega) [A4])) ?_;rw[←b3];intro k o hk;have i0:k≠U:=fun g=>by rw[g,A2 _ j1,A2 _ j2,c0.2.2]at hk;cases hk
         by_cases e:k=bv
         ·subst e;rw[A2 _ nb.symm,A3]at hk;rw[A3];exact hk
         ·rw[A2 _ e,A2 _ i0];by_cases a6:k=z
          ·subst a6;rw[A3]at hk⊢;exact hk
          ·rw[A2 _ a6,A2 _ e]at hk⊢;exact hk
        ·have b2:decide ((j:Int)<r.c.length)=false:=D1K (by omega);have d7:j=r.c.length:=by omega
         subst d7;rw[A3n C _ a0];repeat' (first|simp only[go_sem,seval,b2,A2 _ k6.1,A2 _ k6.2,c6]|(intro u;try simp only[A5]at u))
         rename_i bx;have c5:=u;clear u;have c8:H.Le B8:=h3.le.trans J;have i1:H bv=none:=c8.none hv;have q1:(H.set bv (.vec 2 (Rw C5 C))).Le (((B8.set bv (.vec 2 (Rw C5 C))).set z (.box [.vec bv 2 0 r.c.length,.bool (decide (K<0)),.sl 1 (Rw F4 (C2 K.natAbs)),.bool r.eq])).set T (.box [.vec bv 2 0 r.c.length,.bool (decide (K<0)),.sl 1 (Rw F4 (C2 K.natAbs)),.bool r.eq])):=by
          intro k o hk;by_cases e:k=bv
          ·subst e;rw[A2 _ k6.1.symm,A2 _ nb.symm,A3];rw[A3]at hk;exact hk
          ·rw[A2 _ e]at hk;have e6:k≠T:=fun g=>by have:=h3.le _ _ hk;rw[g,h6]at this;cases this
           have a6:k≠z:=fun g=>by have:=c8 _ _ hk;rw[g,b1.2]at this;cases this
           rw[A2 _ e6,A2 _ a6,A2 _ e];exact c8 _ _ hk
         have q2:Hp.Le (((B8.set bv (.vec 2 (Rw C5 C))).set z (.box [.vec bv 2 0 r.c.length,.bool (decide (K<0)),.sl 1 (Rw F4 (C2 K.natAbs)),.bool r.eq])).set T (.box [.vec bv 2 0 r.c.length,.bool (decide (K<0)),.sl 1 (Rw F4 (C2 K.natAbs)),.bool r.eq])):=by
          intro k o hk;have e:k≠bv:=fun g=>by have:=J _ _ hk;rw[g,hv]at this;cases this
          have e6:k≠T:=fun g=>by rw[g,h6]at hk;cases hk
          have a6:k≠z:=fun g=>by have:=J _ _ hk;rw[g,b1.2]at this;cases this
          rw[A2 _ e6,A2 _ a6,A2 _ e];exact J _ _ hk
         have e8:=h3.base q1 q2 (fun b i2 i3=>by rw[A2 _ (fun g=>i2 (by rw[g];exact J.none hv))];exact i3);refine O3.ap e8 (e1':=Rw C6 X++[[.vec bv 2 0 r.c.length,.bool (decide (K<0)),.sl 1 (Rw F4 (C2 K.natAbs)),.bool r.eq]]) (D2i _) (by simp only[A5];simp only[c5,ne_eq,not_false_eq_true,and_self]) (by simp) (by rw[D6]) (by simp only[D1M,D1O];omega) (by simp only[D1M,D1O];omega) rfl fun b' H' h4=>?_;clear e8 q1 q2 c5;repeat' (first|simp only[go_sem,seval]|simp(disch:=omega) only[A4,B3])
         have e9:=h4.n1 _ rfl;have f0:bv≠b':=fun g=>by rw[←g,A3]at e9;cases e9
         have eX:Rw C6 (X++[RR])=Rw C6 X++[.sl 2 (Rw C5 C)::[.bool (decide (K<0)),.sl 1 (Rw F4 (C2 K.natAbs)),.bool r.eq]]:=by rw[←O7,e0];rfl
         have f4:=B3e hr b8;rw[←hC,←e0]at f4 b8;refine B6D (i+1,X++[RR],some b') ⟨by simp only[];omega,by simp only[D1N,D1M,D1O];omega,fun s hs=>?_,?_,by simp,fun b e=>?_⟩ (by simp only[];omega) ?_
         ·rcases D1h.1 hs with q|q
          ·exact b4 s q
          ·exact f4.1 s q
         ·unfold TS at st;rw[b8]at st;exact st
         ·have:=h4.n1 _ e;rw[A2 _ (by cases e;exact f0.symm)]at this;exact this
         ·show A1N _ (H.set b' (.vec 4 (Rw C6 (X++[RR])))) _ _;rw[eX];refine A02 (by(try simp only[go_sem,seval,D1N,L2])<;>(try simp(disch:=omega) [A4])) (by rw[D6,a0]) h4.a1 (h4.le _ _ (A3 _ _)) f0 (fun k o hk ho=>?_);have f7:k≠bv:=fun g=>by rw[g,i1]at ho;cases ho
          exact⟨f7,h4.le k o (by rw[A2 _ f7];exact ho)⟩
       ·have sz: ¬Z.sign=0:=by rw[Int.sign_eq_zero_iff_zero];exact z0
        have b8:A06 r=none:=by rw[M,if_pos ⟨b0,by rw[←hZ];exact z0⟩]
        repeat' (first|simp only[go_sem,seval,c6,c7,c9,m6,m7,g4,b0,sz]|with_reducible refine R5 (fun H' Q hro hq=>S6 K G s3 s2 H' hq) ?_|with_reducible refine R5 (fun H' Q hro hq=>l3 H' Q hq) ?_|with_reducible refine R5 (fun H' Q hro hq=>L3 Z H' hq) ?_)
        exact Fin.nilsl 4 _ (D2j (h3.le.trans J) (c4 b8))
      |false=>
       have b8:A06 r=some [⟨r.c.map (Int.fdiv · G),K,r.eq⟩]:=by rw[M,if_neg (by rw[b0];simp)]
       refine F9 (fun i'=>.undef) [T,O,I] ?_;repeat' simp only[go_sem,seval,c6,c7,c9,m6,m7,g4,b0]
       obtain⟨C,hC⟩: ∃C,C=r.c.map (Int.fdiv · G):=⟨_,rfl⟩
       have a0:C.length=r.c.length:=by rw[hC];simp
       refine F9 (fun i'=>.undef) [T,I] ?_;repeat' (first|with_reducible apply D1H|simp only[go_sem,seval,c6,c7,c9,k9,l1]|simp(disch:=first|omega|grind) only[A8]|(intro u;try simp only[A5]at u)|omega)
       rename_i bv hv z;have b1:=u;clear u;have nb:z≠bv:=b1.1;have k6:T≠bv∧T≠z:=⟨(fun g=>by rw[g,hv]at c6;cases c6),(fun g=>by rw[g,b1.2]at c6;cases c6)⟩
       have k7:O≠bv∧O≠z:=⟨(fun g=>by rw[g,hv]at c7;cases c7),(fun g=>by rw[g,b1.2]at c7;cases c7)⟩
       rw[show List.replicate r.c.length [D.bool false,.nilsl]=j4 C r.c.length 0 from(A2Y _ _).symm];obtain⟨RR,e0⟩: ∃RR:Row,RR=⟨C,K,r.eq⟩:=⟨_,rfl⟩
       refine C8 [4,6,7,12,15,16,17,76,77] (fun(j:Nat)=>[(78,.int .i64 j)]) (fun(j:Nat)=>(B8.set bv (.vec 2 (j4 C r.c.length j))).set z (.box [.vec bv 2 0 r.c.length,.bool (decide (K<0)),.sl 1 (Rw F4 (C2 K.natAbs)),.bool r.eq])) (fun(j:Nat)=>j≤r.c.length) (fun(j:Nat)=>r.c.length-j) (0) (D1c _) (by(try simp only[go_sem,seval])<;>(try simp(disch:=omega) [A4])) (by first|exact D2i _|exact A0 (by assumption)|exact B9 (by assumption)|simp only[Heap.Le,Heap.set,Heap.del]at* <;>grind) ?_;rintro Ec rfl j hj;have g5:=A3m C r.c.length j a0 hj;by_cases A:j<r.c.length
       ·have b2:decide ((j:Int)<r.c.length)=true:=D1J (by omega);have c2:(j:Int)<r.c.length:=by omega
        have c1:=d4 _ (D1V A);have sj:Sz r.c[j]:=H6 (by omega);have m3:j<C.length:=by omega
        have g6:C[j]=r.c[j].fdiv G:=by simp only[hC,D17]
        have b3:=A16 C r.c.length j a0 A (C5 (r.c[j].fdiv G)) (by rw[g6]);have g8:=A04 C r.c.length j j a0 (D1b _) A;have e4:=A03 C r.c.length j j a0 (D1b _) A;repeat' (first|with_reducible apply D1H|simp only[go_sem,seval,b2,c2,B3 _ _ A,C3 _ _ A]|(intro u;try simp only[A5]at u)|omega)
        rename_i U;have c0:=u;clear u;have g9:z∈[O,z,U]:=by simp
        have h0:U∈[O,z,U]:=by simp
        have p7:O∈[O,z,U]:=by simp
        have j1:=c0.1;have j2:=c0.2.1;have j3:O≠U:=fun g=>by have:=c0.2.2;rw[←g,c7]at this;cases this
        have v7:((B8.set bv (.vec 2 (j4 C r.c.length j))).set z (.box [.vec bv 2 0 r.c.length,.bool (decide (K<0)),.sl 1 (Rw F4 (C2 K.natAbs)),.bool r.eq])) O=some (.box (C5 G)):=by rw[A2 _ k7.2,A2 _ k7.1];exact c7
        obtain⟨y,hy⟩: ∃y,y=r.c[j].fdiv G:=⟨_,rfl⟩
        have h8: ∀(H:Heap) (Q:D→Heap→Prop),Q (.agg (C5 y)) H→D7 247 [.agg (C5 r.c[j]),.agg (C5 G)] H Q:=fun H Q hq=>A3l r.c[j] G sj gi gb H (by rw[←hy];exact hq);rw[←hy]at b3;refine F9 (fun i'=>if i'=5 then .agg (C5 y)else .undef) [O,z,U] ?_;repeat' (first|with_reducible apply D1H|simp only[go_sem,seval,p7,g9,h0,A2 _ j3,A2 _ k7.2,A2 _ k7.1,c7,c2,g5,g8,e4,b3]|simp(disch:=omega) only[A4,B3]|simp(disch:=first|omega|grind) only[A8]|with_reducible refine R5 (fun H' Q hro hq=>h8 H' Q hq) ?_|omega)
        refine C4 (j+1) (by omega) (by omega) (by(try simp only[go_sem,seval])<;>(try simp(disch:=omega) [A4])) ?_;rw[←b3];intro k o hk;have i0:k≠U:=fun g=>by rw[g,A2 _ j1,A2 _ j2,c0.2.2]at hk;cases hk
        by_cases e:k=bv
        ·subst e;rw[A2 _ nb.symm,A3]at hk;rw[A3];exact hk
        ·rw[A2 _ e,A2 _ i0];by_cases a6:k=z
         ·subst a6;rw[A3]at hk⊢;exact hk
         ·rw[A2 _ a6,A2 _ e]at hk⊢;exact hk
       ·have b2:decide ((j:Int)<r.c.length)=false:=D1K (by omega);have d7:j=r.c.length:=by omega
        subst d7;rw[A3n C _ a0];repeat' (first|simp only[go_sem,seval,b2,A2 _ k6.1,A2 _ k6.2,c6]|(intro u;try simp only[A5]at u))
        rename_i bx;have c5:=u;clear u;have c8:H.Le B8:=h3.le.trans J;have i1:H bv=none:=c8.none hv;have q1:(H.set bv (.vec 2 (Rw C5 C))).Le (((B8.set bv (.vec 2 (Rw C5 C))).set z (.box [.vec bv 2 0 r.c.length,.bool (decide (K<0)),.sl 1 (Rw F4 (C2 K.natAbs)),.bool r.eq])).set T (.box [.vec bv 2 0 r.c.length,.bool (decide (K<0)),.sl 1 (Rw F4 (C2 K.natAbs)),.bool r.eq])):=by
         intro k o hk;by_cases e:k=bv
         ·subst e;rw[A2 _ k6.1.symm,A2 _ nb.symm,A3];rw[A3]at hk;exact hk
         ·rw[A2 _ e]at hk;have e6:k≠T:=fun g=>by have:=h3.le _ _ hk;rw[g,h6]at this;cases this
          have a6:k≠z:=fun g=>by have:=c8 _ _ hk;rw[g,b1.2]at this;cases this
          rw[A2 _ e6,A2 _ a6,A2 _ e];exact c8 _ _ hk
        have q2:Hp.Le (((B8.set bv (.vec 2 (Rw C5 C))).set z (.box [.vec bv 2 0 r.c.length,.bool (decide (K<0)),.sl 1 (Rw F4 (C2 K.natAbs)),.bool r.eq])).set T (.box [.vec bv 2 0 r.c.length,.bool (decide (K<0)),.sl 1 (Rw F4 (C2 K.natAbs)),.bool r.eq])):=by
         intro k o hk;have e:k≠bv:=fun g=>by have:=J _ _ hk;rw[g,hv]at this;cases this
         have e6:k≠T:=fun g=>by rw[g,h6]at hk;cases hk
         have a6:k≠z:=fun g=>by have:=J _ _ hk;rw[g,b1.2]at this;cases this
         rw[A2 _ e6,A2 _ a6,A2 _ e];exact J _ _ hk
        have e8:=h3.base q1 q2 (fun b i2 i3=>by rw[A2 _ (fun g=>i2 (by rw[g];exact J.none hv))];exact i3);refine O3.ap e8 (e1':=Rw C6 X++[[.vec bv 2 0 r.c.length,.bool (decide (K<0)),.sl 1 (Rw F4 (C2 K.natAbs)),.bool r.eq]]) (D2i _) (by simp only[A5];simp only[c5,ne_eq,not_false_eq_true,and_self]) (by simp) (by rw[D6]) (by simp only[D1M,D1O];omega) (by simp only[D1M,D1O];omega) rfl fun b' H' h4=>?_;clear e8 q1 q2 c5;repeat' (first|simp only[go_sem,seval]|simp(disch:=omega) only[A4,B3])
        have e9:=h4.n1 _ rfl;have f0:bv≠b':=fun g=>by rw[←g,A3]at e9;cases e9
        have eX:Rw C6 (X++[RR])=Rw C6 X++[.sl 2 (Rw C5 C)::[.bool (decide (K<0)),.sl 1 (Rw F4 (C2 K.natAbs)),.bool r.eq]]:=by rw[←O7,e0];rfl
        have f4:=B3e hr b8;rw[←hC,←e0]at f4 b8;refine B6D (i+1,X++[RR],some b') ⟨by simp only[];omega,by simp only[D1N,D1M,D1O];omega,fun s hs=>?_,?_,by simp,fun b e=>?_⟩ (by simp only[];omega) ?_
        ·rcases D1h.1 hs with q|q
         ·exact b4 s q
         ·exact f4.1 s q
        ·unfold TS at st;rw[b8]at st;exact st
        ·have:=h4.n1 _ e;rw[A2 _ (by cases e;exact f0.symm)]at this;exact this
        ·show A1N _ (H.set b' (.vec 4 (Rw C6 (X++[RR])))) _ _;rw[eX];refine A02 (by(try simp only[go_sem,seval,D1N,L2])<;>(try simp(disch:=omega) [A4])) (by rw[D6,a0]) h4.a1 (h4.le _ _ (A3 _ _)) f0 (fun k o hk ho=>?_);have f7:k≠bv:=fun g=>by rw[g,i1]at ho;cases ho
         exact⟨f7,h4.le k o (by rw[A2 _ f7];exact ho)⟩
 ·have V:decide ((i:Int)<l.length)=false:=D1K (by omega);unfold TA at hT;rw[List.drop_eq_nil_of_le (by omega)]at hT;have hT:X9 l=some X:=by rw[hT];simp[X9]
  rw[hT]at h;repeat' simp only[go_sem,seval,V]
  refine ACalls.out (by rw[D6]) h3.a1 ?_;refine C0A X n (by omega) hn (fun r hr=>⟨(b4 r hr).1,by have:=(b4 r hr).2.1;omega,fun x hx=>by have:=(b4 r hr).2.2 x hx;omega⟩) _ ?_;generalize hR:A0J [] (pairs1 X)=R;rw[show ((some X).bind fun l=>A0J [] (pairs1 l))=R from hR]at h;cases R with
  |none=>
   simp only[go_sem,seval,B03];exact D2j (O3.one h3) h
  |some Y=>
   simp only[go_sem,seval,B03];exact D2j (O3.one h3) h
end Go.Proofs.YtibphjonmikciaaGreatDoor
namespace Go.Av
theorem A5V{P:Program}{f v sz n:Nat}{es:List (List D)}{a:D}{ds p:List D}{H:Heap}{Q:D→Heap→Prop}(hb:H v=some (.vec sz es))(hn:n=es.length)(h:ACalls P f (a:: .agg (.sl sz es::ds)::p) (H.del v) Q):ACalls P f (a:: .agg (.vec v sz 0 n::ds)::p) H Q:=by
 subst hn;refine ACalls.shift (args':=a:: .agg (.sl sz es::ds)::p) (fun w vs h1 q hs=>?_) h;have j:=E6 H v;refine⟨by simpa using h1,fun i d hd=>?_,hs.less j,fun k hn=>j.held hn⟩
 match i with
 |0=>cases hd;exact(q 0 _ rfl).less j
 |1=>
  cases hd;have o:=q 1 _ rfl;revert o;generalize vs.getD 1 undef=v1;intro o;cases o with
  |agg _ us r ho hr=>
   refine .agg _ us (by simpa using r) (fun i d' m=>?_) (fun i d' m=>?_)
   ·cases i with
    |zero=>cases m;rfl
    |succ i=>exact ho (i+1) d' m
   ·cases i with
    |zero=>
     cases m;have u:Fz v sz es (.vec v sz 0 es.length) (.sl sz es):=.all;exact u.R hs hb (hr 0 _ rfl)
    |succ i=>exact(hr (i+1) d' m).less j
 |i+2=>exact(q (i+2) d (by simpa using hd)).less j
end Go.Av
namespace Go.Lin
open Go Go.Av
theorem B04(a b:Int)(hb:0<b):(A00 a b).natAbs≤b.natAbs:=by
 unfold A00;have i:(0:Int)<b*2:=by omega
 rw[Int.fdiv_eq_ediv_of_nonneg _ (by omega)];have h1:=Int.ediv_mul_le (a*2+b) (show b*2≠0 by omega);have h:=Int.lt_ediv_add_one_mul_self (a*2+b) i;generalize (a*2+b) / (b*2)=q at h1 h;have e1:q*(b*2)=2*(b*q):=by rw[Int.mul_comm q,Int.mul_assoc,Int.mul_comm 2 q,←Int.mul_assoc,Int.mul_comm _ 2]
 have e2:(q+1)*(b*2)=2*(b*q)+b*2:=by rw[Int.add_mul,e1];omega
 rw[e1]at h1;rw[e2]at h;generalize b*q=z at h1 h;omega
end Go.Lin
namespace Go.Proofs.YtibphjonmikciaaGreatDoor
open Go Go.Av Go.Lin
attribute [local irreducible] ACalls S9
set_option maxHeartbeats 4000000 in
theorem B2Q{Q}(l:List Row)(at_ n k:Nat)(hlen:l.length≤10000)(k0:0<n)(hn:n≤1000)(b6:at_<l.length)(hw: ∀r∈l,r.c.length=n)(hr: ∀r∈l,A5N r 4611686018427387904)(c7: ∀r∈l,∀x∈r.c,x.natAbs<1073741824)
  (hk:A4Y (l.getD at_ default)=some k) (H:Heap) (h:Q (.sl 4 (Rw C6 (x9 l at_))) H):D7 223 [.sl 4 (Rw C6 l),.int .i64 (at_:Int)] H Q:=by
 refine A9 [(14,.par),(18,.par),(20,.par)] A6 Tryz.func223 rfl ?_;simp only[go_sem,seval,Tryz.results223];have d7:(at_:Int)<l.length:=by omega
 have ge:l.getD at_ default=l[at_]:=by simp[b6]
 have U:=D1V b6;obtain⟨e,he⟩: ∃e,e=l[at_]:=⟨_,rfl⟩
 have J:x9 l at_=if(W3 e.c k).natAbs=1 then(l.take at_++l.drop (at_+1)).map (S5 e k)else((l.take at_++l.drop (at_+1)++[e]).map A2n).map (S5 ⟨e.c.map (A00 · ((W3 e.c k).natAbs+1))++[-(((W3 e.c k).natAbs:Int)+1)],A00 e.k ((W3 e.c k).natAbs+1),true⟩ k):=by
  unfold x9;simp only[];rw[ge,←he];rw[ge,←he]at hk;rw[hk];rfl
 rw[ge,←he]at hk;rw[←he]at U;have g6:=hw e U;have k1:=hr e U;have c8:=c7 e U;have Y:k<e.c.length:=by
  rw[A6a]at hk;exact A2b _ _ _ hk
 have d8:(k:Int)<e.c.length:=by omega
 rw[H9 _ _ Y]at J;have g7:L8 (A4Y e)=k:=by rw[hk];rfl
 have e0:(l.take at_++l.drop (at_+1)).length≤10000:=by rw[D1N,D1z,D1p];omega
 have a6: ∀r∈l.take at_++l.drop (at_+1),r∈l:=fun r hr=>(D1h.1 hr).elim List.mem_of_mem_take List.mem_of_mem_drop
 repeat' (first|with_reducible apply D1H|simp only[go_sem,seval,d7,B3 _ _ b6,C3 _ _ b6,←he]|simp(disch:=omega) only[A4,B3,H9]|(intro u;try simp only[A5]at u)|omega)
 rename_i b5 h5 bx;have M:=u;clear u;have c5:(H.set b5 (.box (C6 e))) b5=some (.box (C6 e)):=A3 _ _;have W:H.Le (H.set b5 (.box (C6 e))):=A0 h5;have a9:(H.set b5 (.box (C6 e))) bx=none:=by simp only[A5];exact M
 change ACalls _ _ _ ((H.set b5 (.box (C6 e))).set bx _) _;generalize H.set b5 (.box (C6 e))=B5 at c5 W a9⊢;clear h5 M;rw[D1W (show (Rw C6 l).length≤l.length by rw[D6];exact D1b _),A8p,B9f];refine U9 (A3 _ _) rfl ?_;rw[E9 a9];refine A7x _ _ (by rw[D1N]at e0;omega) _ ?_;obtain⟨R,hR⟩: ∃R,R=l.take at_++l.drop (at_+1):=⟨_,rfl⟩
 rw[←hR]at J e0 a6⊢;have a0: ∀r∈l,A5N r 18446744073709551616:=fun r hx=>⟨by have:=(hr r hx).1;omega,fun x O=>by have:=(hr r hx).2 x O;omega⟩
 have la: ∀(H:Heap) (Q:D→Heap→Prop),Q (.int .i64 (k:Int)) H→D7 252 [.agg (C6 e)] H Q:=fun H Q hq=>B93 e (by omega) (a0 e U) H (by rw[g7];exact hq);obtain⟨c,hc⟩: ∃c,c=e.c[k]:=⟨_,rfl⟩
 rw[←hc]at J;have k2:c.natAbs<1073741824:=by rw[hc];exact c8 _ (D1V Y)
 by_cases h1:c.natAbs=1
 ·rw[if_pos h1]at J;rw[J]at h;have o1: ∀(H:Heap) (Q:D→Heap→Prop),Q (.bool true) H→D7 246 [.agg (C5 c)] H Q:=fun H Q hq=>B0i c H (by rw[D1J h1];exact hq);repeat' (first|with_reducible apply D1H|simp only[go_sem,seval,c5,d8,B3 _ _ Y,C3 _ _ Y,←hc]|with_reducible refine la _ _ ?_|with_reducible refine o1 _ _ ?_|omega)
  refine A7t R e k n (by omega) (by omega) (fun r hx=>hw r (a6 r hx)) g6 (by omega) (fun r hx=>a0 r (a6 r hx)) (a0 e U) (fun r hx x O=>by have:=c7 r (a6 r hx) x O;omega) (fun x O=>by have:=c8 x O;omega) _ ?_;repeat' simp only[go_sem,seval]
  exact D2j W h
 ·rw[if_neg h1]at J;have o1: ∀(H:Heap) (Q:D→Heap→Prop),Q (.bool false) H→D7 246 [.agg (C5 c)] H Q:=fun H Q hq=>B0i c H (by rw[D1K h1];exact hq);obtain⟨t,ht⟩: ∃t:Int,t=1:=⟨1,rfl⟩
  obtain⟨m,hm⟩: ∃m:Int,m=(c.natAbs:Nat)+1:=⟨_,rfl⟩
  have g8:((c.natAbs:Nat):Int)+t=m:=by rw[ht,hm]
  rw[←hm]at J;have s1:Sz ((c.natAbs:Nat):Int):=H6 (by omega);have s2:Sz t:=H6 (by omega);have w1: ∀(H:Heap) (Q:D→Heap→Prop),Q (.agg (C5 t)) H→D7 228 [.int .i64 1] H Q:=fun H Q hq=>t8 1 (by omega) (by omega) H (by rw[←ht];exact hq);have p1: ∀(H:Heap) (Q:D→Heap→Prop),Q (.agg (C5 m)) H→D7 255 [.agg (C5 ((c.natAbs:Nat):Int)),.agg (C5 t)] H Q:=fun H Q hq=>A0X _ t s1 s2 H (by rw[g8];exact hq);repeat' (first|with_reducible apply D1H|simp only[go_sem,seval,c5,d8,B3 _ _ Y,C3 _ _ Y,←hc]|simp(disch:=first|omega|grind) only[A8,D0]|(intro u;try simp only[A5]at u)|with_reducible refine la _ _ ?_|with_reducible refine o1 _ _ ?_|with_reducible refine B6o c _ ?_|with_reducible refine w1 _ _ ?_|with_reducible refine p1 _ _ ?_|omega)
  rename_i G h8 b2 h2 bx;have M:=u;clear u;have e5:=(A0 (o:=.box (C5 m)) h8) _ _ c5;have e8:(B5.set G (.box (C5 m))) G=some (.box (C5 m)):=A3 _ _;have b0:H.Le (B5.set G (.box (C5 m))):=W.trans (A0 h8);have g2:(B5.set G (.box (C5 m))) b2=none:=by simp only[A5];exact h2
  have gx:(B5.set G (.box (C5 m))) bx=none∧bx≠b2:=by simp only[A5];exact⟨⟨M.2.1,M.2.2⟩,M.1⟩
  change ACalls _ _ _ (((B5.set G (.box (C5 m))).set b2 (.vec 4 [C6 e])).set bx (.vec 1 [[.sl 4 (Rw C6 R)],[.vec b2 4 0 1]])) _;generalize B5.set G (.box (C5 m))=B8 at e5 e8 b0 g2 gx⊢;clear h8 h2 M c5 W a9;refine A63 (b:=b2) (sz:=4) (es:=[C6 e]) (H':=B8.set bx (.vec 1 [[.sl 4 (Rw C6 R)],[.sl 4 [C6 e]]])) (by rw[A2 _ gx.2.symm,A3]) (fun q o' hq=>?_) ?_
  ·by_cases g:q=bx
   ·subst g;rw[A3]at hq;cases hq;refine⟨gx.2,_,A3 _ _,.vec _ _ _ rfl fun i y y' O e4=>?_⟩
    match i with
    |0=>
     cases O;cases e4;exact⟨rfl,fun j d d' X h4=>by rw[X]at h4;cases h4;exact .same _⟩
    |1=>
     cases O;cases e4;refine⟨rfl,fun j d d' X h4=>?_⟩;cases j with
     |zero=>cases X;cases h4;exact .all
     |succ j=>cases X
    |i+2=>cases O
   ·rw[A2 _ g]at hq;have g3:q≠b2:=fun g4=>by rw[g4,g2]at hq;cases hq
    exact⟨g3,o',by rw[A2 _ g,A2 _ g3];exact hq,.same _⟩
  refine U9 (A3 _ _) rfl ?_;rw[E9 gx.1,show ([C6 e]:List (List D))=Rw C6 [e]from rfl];refine A7x R [e] (by simp only[D1M,D1O];omega) _ ?_;obtain⟨L,hL⟩: ∃L,L=R++[e]:=⟨_,rfl⟩
  rw[←hL]at J⊢;have k3:L.length≤10001:=by rw[hL,D1N,D1M,D1O];omega
  have e6: ∀r∈L,r∈l:=fun r hr=>by
   rw[hL]at hr;rcases D1h.1 hr with g|g
   ·exact a6 r g
   ·simp at g;rw[g];exact U
  clear hL gx g2;repeat' simp only[go_sem,seval]
  refine C8 [5,7,8,9,53,54] (fun(p:Nat×Option Nat×Heap)=>[(55,.int .i64 p.1),(10,H8 4 p.1 p.2.1)]) (fun(p:Nat×Option Nat×Heap)=>p.2.2) (fun(p:Nat×Option Nat×Heap)=>p.1≤L.length∧O3 B8 p.2.2 4 (Rw C6 ((L.take p.1).map A2n)) [] [] p.2.1 none none) (fun(p:Nat×Option Nat×Heap)=>L.length-p.1) ((0,none,B8)) (⟨D1c _,O3.nil B8 4⟩) (by(try simp only[go_sem,seval])<;>(try simp(disch:=omega) [A4])) (by first|exact D2i _|exact A0 (by assumption)|exact B9 (by assumption)|simp only[Heap.Le,Heap.set,Heap.del]at* <;>grind) ?_;rintro Ec rfl ⟨i,o1,Hp⟩ ⟨hi,X⟩;simp only at hi X;by_cases b7:i<L.length
  ·have c9:decide ((i:Int)<L.length)=true:=D1J (by omega);have k4:(i:Int)<L.length:=by omega
   have g9:=e6 _ (D1V b7);have fs:=A6b A2n L i b7;have fl:=A9B A2n L i hi;have e7:L[i].c.length=n:=hw _ g9;have h0:L[i].c≠[]:=fun g=>by rw[g]at e7;simp at e7;omega
   repeat' (first|with_reducible apply D1H|simp only[go_sem,seval,c9,B3 _ _ b7,C3 _ _ b7]|(intro u;try simp only[A5]at u)|with_reducible refine C30 _ h0 (by omega) _ ?_|omega)
   rename_i h6 h7 bx;have M:=u;clear u;have e9:Hp.Le (Hp.set h6 (.box (C6 L[i]))):=A0 h7;refine O3.ap X (e1':=Rw C6 ((L.take (i+1)).map A2n)) e9 (by simp only[A5];exact M) (by simp) (by rw[D6,fl]) (by simp only[D1M,D1O];omega) (by simp only[D1M,D1O];omega) (by rw[fs,←O7];rfl) fun b' H' h4=>?_;repeat' (first|simp only[go_sem,seval]|simp(disch:=omega) only[A4,B3,H9])
   refine C4 (i+1,some b',H') ⟨by simp only[];omega,h4⟩ (by simp only[];omega) (by(try simp only[go_sem,seval,L2])<;>(try simp(disch:=omega) [A4])) (D2i _)
  ·have c9:decide ((i:Int)<L.length)=false:=D1K (by omega);have e1:L.take i=L:=D1W (by omega);have e2:i=L.length:=by omega
   rw[e1]at X;have f5:=X.le _ _ e5;have f8:=X.le _ _ e8;repeat' simp only[go_sem,seval,c9]
   obtain⟨C,hC⟩: ∃C,C=e.c.map (A00 · m)++[-m]:=⟨_,rfl⟩
   obtain⟨K,hK⟩: ∃K,K=A00 e.k m:=⟨_,rfl⟩
   rw[←hC,←hK]at J;have T:C.length=e.c.length+1:=by rw[hC,D1N,D10];rfl
   have b9:0<m:=by omega
   have f0:m<2147483648:=by omega
   have h9:e.k.natAbs≤18446744073709551616:=(a0 e U).1;have k6:K.natAbs≤m.natAbs:=by rw[hK];exact B04 _ _ b9
   have f4: ∀x∈C,x.natAbs≤4294967296:=fun x hx=>by
    rw[hC]at hx;rcases D1h.1 hx with g|g
    ·simp only[D2F]at g;obtain⟨z,_,rfl⟩:=g;have:=B04 z m b9;omega
    ·simp at g;omega
   have nr: ∀(H:Heap) (Q:D→Heap→Prop),Q (.agg (C5 K)) H→D7 258 [.agg (C5 e.k),.agg (C5 m)] H Q:=fun H Q hq=>B6q e.k m h9 b9 f0 H (by rw[←hK];exact hq);have m5:b5∈[b5,G]:=by simp
   have m8:G∈[b5,G]:=by simp
   refine F9 (fun i'=>if i'=8 then .agg (C5 K)else .undef) [b5,G] ?_;repeat' (first|with_reducible apply D1H|simp only[go_sem,seval,f5,f8,m5,m8]|simp(disch:=omega) only[A4,B3,H9]|simp(disch:=first|omega|grind) only[A8,D0]|(intro u;try simp only[A5]at u)|with_reducible refine R5 (fun H' Q hro hq=>nr H' Q hq) ?_|omega)
   rename_i bv hv A;have c0:=u;clear u;have nb:A≠bv:=c0.1;have k5:b5≠bv∧b5≠A:=⟨(fun g=>by rw[g,hv]at f5;cases f5),(fun g=>by rw[g,c0.2]at f5;cases f5)⟩
   have k8:G≠bv∧G≠A:=⟨(fun g=>by rw[g,hv]at f8;cases f8),(fun g=>by rw[g,c0.2]at f8;cases f8)⟩
   rw[show (([D.bool false,.nilsl]::List.replicate e.c.length [D.bool false,.nilsl]):List (List D))=j4 C (e.c.length+1) 0 from(A2Y C (e.c.length+1)).symm];refine C8 [5,7,8,10,13,77,78] (fun(j:Nat)=>[(79,.int .i64 j)]) (fun(j:Nat)=>(Hp.set bv (.vec 2 (j4 C (e.c.length+1) j))).set A (.box [.vec bv 2 0 (e.c.length+1),.bool (decide (K<0)),.sl 1 (Rw F4 (C2 K.natAbs)),.bool true])) (fun(j:Nat)=>j≤e.c.length) (fun(j:Nat)=>e.c.length-j) (0) (D1c _) (by(try simp only[go_sem,seval])<;>(try simp(disch:=omega) [A4])) (by first|exact D2i _|exact A0 (by assumption)|exact B9 (by assumption)|simp only[Heap.Le,Heap.set,Heap.del]at* <;>grind) ?_;rintro Ec rfl j hj;have f7:=A3m C (e.c.length+1) j T (by omega);by_cases c2:j<e.c.length
   ·have b1:decide ((j:Int)<e.c.length)=true:=D1J (by omega);have f9:(j:Int)<e.c.length:=by omega
    have b3:(j:Int)<((e.c.length:Nat):Int)+1:=by omega
    have i0:j<C.length:=by omega
    have d0:C[j]=A00 e.c[j] m:=by simp only[hC];rw[List.getElem_append_left (by rw[D10];exact c2),D17]
    have c1:=c8 _ (D1V c2);have I:=A16 C (e.c.length+1) j T (by omega) (C5 (A00 e.c[j] m)) (by rw[d0]);have d2:=A04 C (e.c.length+1) j j T (D1b _) (by omega);have b4:=A03 C (e.c.length+1) j j T (D1b _) (by omega);repeat' (first|with_reducible apply D1H|simp only[go_sem,seval,b1,f9,B3 _ _ c2,C3 _ _ c2]|(intro u;try simp only[A5]at u)|omega)
    rename_i V;have c4:=u;clear u;have d3:A∈[G,A,V]:=by simp
    have i1:V∈[G,A,V]:=by simp
    have p8:G∈[G,A,V]:=by simp
    have j1:=c4.1;have j2:=c4.2.1;have j3:G≠V:=fun g=>by have:=c4.2.2;rw[←g,f8]at this;cases this
    obtain⟨y,O⟩: ∃y,y=A00 e.c[j] m:=⟨_,rfl⟩
    have i2: ∀(H:Heap) (Q:D→Heap→Prop),Q (.agg (C5 y)) H→D7 258 [.agg (C5 e.c[j]),.agg (C5 m)] H Q:=fun H Q hq=>B6q e.c[j] m (by omega) b9 f0 H (by rw[←O];exact hq);rw[←O]at I;refine F9 (fun i'=>if i'=5 then .agg (C5 y)else .undef) [G,A,V] ?_;repeat' (first|with_reducible apply D1H|simp only[go_sem,seval,p8,d3,i1,A2 _ j3,A2 _ k8.2,A2 _ k8.1,f8,f9,b3,f7,d2,b4,I]|simp(disch:=omega) only[A4,B3,H9]|simp(disch:=first|omega|grind) only[A8,D0]|with_reducible refine R5 (fun H' Q hro hq=>i2 H' Q hq) ?_|omega)
    refine C4 (j+1) (by omega) (by omega) (by(try simp only[go_sem,seval])<;>(try simp(disch:=omega) [A4])) ?_;rw[←I];intro q o hq;have i3:q≠V:=fun g=>by rw[g,A2 _ j1,A2 _ j2,c4.2.2]at hq;cases hq
    by_cases g:q=bv
    ·subst g;rw[A2 _ nb.symm,A3]at hq;rw[A3];exact hq
    ·rw[A2 _ g,A2 _ i3];by_cases g0:q=A
     ·subst g0;rw[A3]at hq⊢;exact hq
     ·rw[A2 _ g0,A2 _ g]at hq⊢;exact hq
   ·have b1:decide ((j:Int)<e.c.length)=false:=D1K (by omega);have i4:j=e.c.length:=by omega
    subst i4;have i0:e.c.length<C.length:=by omega
    have d0:C[e.c.length]= -m:=by simp only[hC];rw[List.getElem_append_right (by rw[D10];exact D1b _)];simp
    have I:=A16 C (e.c.length+1) e.c.length T (by omega) (C5 (-m)) (by rw[d0]);have d2:=A04 C (e.c.length+1) e.c.length e.c.length T (D1b _) (by omega);have b4:=A03 C (e.c.length+1) e.c.length e.c.length T (D1b _) (by omega);have b3:(e.c.length:Int)<((e.c.length:Nat):Int)+1:=by omega
    obtain⟨y,O⟩: ∃y,y= -m:=⟨_,rfl⟩
    rw[←O,A3n C _ T]at I;have ng: ∀(H:Heap) (Q:D→Heap→Prop),Q (.agg (C5 y)) H→D7 259 [.agg (C5 m)] H Q:=fun H Q hq=>A4b m H (by rw[←O];exact hq);have d3:A∈[b5,G,A]:=by simp
    have p5:b5∈[b5,G,A]:=by simp
    have p8:G∈[b5,G,A]:=by simp
    repeat' simp only[go_sem,seval,b1]
    refine F9 (fun i'=>if i'=6 then .agg (C5 y)else .undef) [b5,G,A] ?_;repeat' (first|with_reducible apply D1H|simp only[go_sem,seval,p8,d3,p5,A2 _ k8.2,A2 _ k8.1,A2 _ k5.2,A2 _ k5.1,f8,f5,b3,f7,d2,b4,I]|simp(disch:=first|omega|grind) only[A8,D0]|with_reducible refine R5 (fun H' Q hro hq=>ng H' Q hq) ?_|omega)
    have d4:(j4 C (e.c.length+1) e.c.length).set e.c.length ((zB.set 0 (D.bool (decide (y<0)))).set 1 (D.sl 1 (Rw F4 (C2 y.natAbs))))=Rw C5 C:=I;rw[d4];obtain⟨Hf,d5⟩: ∃Hf,Hf=((Hp.set bv (.vec 2 (j4 C (e.c.length+1) e.c.length))).set A (.box [.vec bv 2 0 (e.c.length+1),.bool (decide (K<0)),.sl 1 (Rw F4 (C2 K.natAbs)),.bool true])).set bv (.vec 2 (Rw C5 C)):=⟨_,rfl⟩
    have i5:Hf bv=some (.vec 2 (Rw C5 C)):=by rw[d5];exact A3 _ _
    have g5:Hp.Le Hf:=fun q o hq=>by
     have g1:q≠bv:=fun g=>by rw[g,hv]at hq;cases hq
     have g2:q≠A:=fun g=>by rw[g,c0.2]at hq;cases hq
     rw[d5,A2 _ g1,A2 _ g2,A2 _ g1];exact hq
    rw[←d5];have i9:o1≠some bv:=X.a1.ne hv;have c6: ∀(q:Nat) (o:Go.Av.Obj),Hf q=some o→o1≠some q→I3 Hf o1 q=some o:=fun q o hq hn=>by
     cases o1 with
     |none=>exact hq
     |some c=>show (Hf.del c) q=_;rw[D0 (by rintro rfl;exact hn rfl)];exact hq
    refine ACalls.out (by rw[D6,D10];exact e2) (X.a1.up g5) ?_;refine A5V (c6 _ _ i5 i9) (by rw[D6,T]) ?_;rw[J]at h;have d6: ∀r∈L.map A2n,∃s∈l,r=A2n s:=fun r hr=>by
     obtain⟨s,hs,rfl⟩:=D2F.1 hr;exact⟨s,e6 s hs,rfl⟩
    refine A7t (L.map A2n) ⟨C,K,true⟩ k (n+1) (by rw[D10];omega) (by omega) (fun r hx=>?_) (by show C.length=n+1;omega) (by omega) (fun r hx=>?_) ⟨by show K.natAbs≤_;omega,fun x hx=>by have:=f4 x hx;omega⟩ (fun r hx x O=>?_) f4 _ ?_
    ·obtain⟨s,hs,rfl⟩:=d6 r hx;show (s.c++[0]).length=n+1;rw[D1N,hw s hs];rfl
    ·obtain⟨s,hs,rfl⟩:=d6 r hx;refine⟨(a0 s hs).1,fun x O=>?_⟩;rcases D1h.1 O with g|g
     ·exact(a0 s hs).2 x g
     ·simp at g;rw[g];decide
    ·obtain⟨s,hs,rfl⟩:=d6 r hx;rcases D1h.1 O with g|g
     ·have:=c7 s hs x g;omega
     ·simp at g;rw[g];decide
    ·repeat' simp only[go_sem,seval]
     refine D2j (fun q o hq=>?_) h;have q1:=X.le _ _ (b0 _ _ hq);have q2:q≠bv:=fun g=>by rw[g,hv]at q1;cases q1
     rw[D0 q2];exact c6 _ _ (g5 _ _ q1) (fun g=>by have:=X.n1 _ g;rw[b0 _ _ hq]at this;cases this)
end Go.Proofs.YtibphjonmikciaaGreatDoor
namespace Go.Lin
open Go Go.Av Go.Proofs.YtibphjonmikciaaGreatDoor
structure OkR(n:Nat)(l:List Row):Prop where
 len:l.length≤9999
 nn:n≤1000
 w: ∀r∈l,r.c.length=n
 s: ∀r∈l,A5N r 4611686018427387904
 c: ∀r∈l,∀x∈r.c,x.natAbs<1073741824
theorem A48{l:List Row}(h:A80 l=true): ∃n,OkR n l:=by
 unfold A80 at h;simp only[D1U,D1d]at h;obtain⟨h1,i⟩:=h;cases l with
 |nil=>exact⟨0,by omega,by omega,by simp,by simp,by simp⟩
 |cons r l=>
  simp only[D1U,D1d,D1s]at i;obtain⟨i,j⟩:=i;have key: ∀s∈r::l,s.c.length=r.c.length∧(∀x∈s.c,x.natAbs<1073741824)∧s.k.natAbs<4611686018427387904:=fun s hs=>by
   have:=j s hs;unfold C14 at this;simp only[D1U,beq_iff_eq,D1d,D1s]at this;exact⟨this.1.1,fun x hx=>by have:=this.1.2 x hx;simpa using this,by have:=this.2;simpa using this⟩
  exact⟨r.c.length,by omega,by omega,fun s hs=>(key s hs).1,fun s hs=>⟨by have:=(key s hs).2.2;omega,fun x hx=>by have:=(key s hs).2.1 x hx;omega⟩,fun s hs=>(key s hs).2.1⟩
theorem B05(p:Row→Bool): ∀l:List Row,W7 p l=match l.findIdx? p with|none=> -1|some i=>(i:Int)
 | []=>rfl
 |r::l=>by
  rw[W7,B05 p l,List.findIdx?_cons];by_cases h:p r=true
  ·rw[if_pos h,h];rfl
  ·simp only[h];cases l.findIdx? p with
   |none=>simp
   |some i=>simp;omega
theorem C0B{p:Row→Bool}{l:List Row}{i:Nat}(h:l.findIdx? p=some i):i<l.length:=(List.findIdx?_eq_some_iff_findIdx_eq.1 h).1
theorem B2R(l:List Row): ∀(n k:Nat),(chT l n).best=some k→k<n
 |0,k,h=>by simp[chT]at h
 |n+1,k,h=>by
  rw[B0w]at h;unfold A3i at h;simp only[]at h;split at h
  ·have:=B2R l n k h;omega
  ·split at h
   ·simp at h;omega
   ·have:=B2R l n k h;omega
theorem B4u{l:List Row}{n k:Nat}(hl:l≠[])(hw: ∀r∈l,r.c.length=n)(h:(Z5 l).best=some k):k<n:=by
 have:Z5 l=chT l n:=by
  unfold Z5 chT;cases l with
  |nil=>exact absurd rfl hl
  |cons r l=>rw[show ((r::l).headD default).c.length=n from hw r (D1S ..)]
 rw[this]at h;exact B2R l n k h
end Go.Lin
namespace Go.Proofs.YtibphjonmikciaaGreatDoor
open Go Go.Av Go.Lin
attribute [local irreducible] ACalls S9
theorem C35{Q}(r:Row)(H:Heap)(h:Q (.bool r.eq) H):D7 222 [.agg (C6 r)] H Q:=by
 refine A9 [] A6 Tryz.func222 rfl ?_;simp only[go_sem,seval,Tryz.results222];repeat' intro i
 exact D2j (by simp only[F0,D3,D4]at* <;>grind) h
set_option maxHeartbeats 1000000 in
theorem B2S{Q}(f:Nat)(l:List Row)(b:Bool)(hs:A46 f l=some b)(H:Heap)(h:Q (.bool b) H):D7 196 [.sl 4 (Rw C6 l)] H Q:=by
 refine A9 [] A6 Tryz.func196 rfl ?_;simp only[go_sem,seval,Tryz.results196];repeat' (first|with_reducible apply D1H|simp only[go_sem,seval]|intro o|omega)
 refine C8 [] (fun(p:Nat×List Row)=>[(0,.sl 4 (Rw C6 p.2))]) (fun(p:Nat×List Row)=>H) (fun(p:Nat×List Row)=>A46 p.1 p.2=some b) (fun(p:Nat×List Row)=>p.1) ((f,l)) (hs) (by simp only[go_sem,seval]) (by first|exact D2i _|exact A0 (by assumption)|exact B9 (by assumption)|simp only[Heap.Le,Heap.set,Heap.del]at* <;>grind) ?_;rintro Y rfl ⟨f,l⟩ hs;simp only at hs;cases f with
 |zero=>simp[A46]at hs
 |succ f=>
  rw[A46]at hs;split at hs
  case isFalse=>cases hs
  rename_i j;obtain⟨n,ok⟩:=A48 j;have td: ∀(H:Heap) (Q:D→Heap→Prop),Q (B03 (B0b l)) H→D7 220 [.sl 4 (Rw C6 l)] H Q:=fun H Q hq=>C34 l n (by have:=ok.len;omega) (by have:=ok.nn;omega) (fun r hr=>⟨ok.w r hr,ok.s r hr⟩) (fun r hr x hx=>by have:=ok.c r hr x hx;omega) H hq;clear j;repeat' (first|simp only[go_sem,seval]|with_reducible refine td _ _ ?_)
  cases ht:B0b l with
  |none=>
   rw[ht]at hs;simp only[D1t]at hs;simp only[go_sem,seval,B03];repeat' (first|with_reducible apply D1H|simp only[go_sem,seval]|intro o|omega)
   rw[←hs]at h;exact D2m h
  |some m=>
   rw[ht]at hs;cases m with
   |nil=>
    simp only[D1t]at hs;simp only[go_sem,seval,B03];repeat' (first|with_reducible apply D1H|intro o|omega)
    rw[←hs]at h;exact D2m h
   |cons r m=>
    simp only[]at hs;split at hs
    case isFalse=>cases hs
    rename_i j;obtain⟨L,y⟩: ∃L,L=r::m:=⟨_,rfl⟩
    have z:L≠[]:=by rw[y];simp
    have A: ¬(L.length:Int)=0:=by rw[y];simp;omega
    rw[←y]at hs j;obtain⟨n,ok⟩:=A48 j;simp only[go_sem,seval,B03];rw[←y];clear j td ht y;have I: ∀(H:Heap) (Q:D→Heap→Prop),Q (.int .i64 (W7 (·.eq) L)) H→D7 221 [.sl 4 (Rw C6 L),.fn (.func 222) [] []] H Q:=fun H Q hq=>B61 (·.eq) L (by have:=ok.len;omega) _ [] [] H (fun a _ Q hq=>C35 a H hq) hq;have u:=B05 (·.eq) L;cases J:L.findIdx? (·.eq)with
    |some i=>
     rw[J]at hs u;simp only[]at hs u;split at hs
     case isFalse=>cases hs
     rename_i hk;obtain⟨k,hk⟩:=Option.isSome_iff_exists.1 hk;have M:=C0B J;have O:0<n:=by
      have e:L.getD i default=L[i]:=by simp[M]
      rw[e,A6a]at hk;have:=A2b _ _ _ hk;rw[ok.w _ (D1V M)]at this;omega
     have T: ∀(H:Heap) (Q:D→Heap→Prop),Q (.sl 4 (Rw C6 (x9 L i))) H→D7 223 [.sl 4 (Rw C6 L),.int .i64 (i:Int)] H Q:=fun H Q hq=>B2Q L i n k (by have:=ok.len;omega) O ok.nn M ok.w ok.s ok.c hk H hq;have V:(0:Int)≤i:=by omega
     rw[u]at I;repeat' (first|with_reducible apply D1H|simp only[go_sem,seval,A,V]|intro o|with_reducible refine I _ _ ?_|with_reducible refine T _ _ ?_|omega)
     exact C4 (f,x9 L i) hs (Nat.lt_succ_self f) (by simp only[go_sem,seval]) (D2i _)
    |none=>
     rw[J]at hs u;simp only[]at hs u;rw[u]at I;have q: ∀(H:Heap) (Q:D→Heap→Prop),Q (.tuple [.int .i64 (L8 (Z5 L).best),.bool (Z5 L).sure]) H→D7 224 [.sl 4 (Rw C6 L)] H Q:=fun H Q hq=>B7C L n z (by have:=ok.len;omega) ok.w (by have:=ok.nn;omega) H hq;split at hs
     ·rename_i k cost G;rw[G]at q;have U:k<n:=B4u z ok.w (by rw[G]);have W: ∀(H:Heap) (Q:D→Heap→Prop),Q (.sl 4 (Rw C6 (A2W L k false))) H→D7 226 [.sl 4 (Rw C6 L),.int .i64 (k:Int),.bool false] H Q:=fun H Q hq=>B63 L k n (by have:=ok.len;omega) (by have:=ok.nn;omega) ok.w U (fun r hr=>⟨by have:=(ok.s r hr).1;omega,fun x hx=>by have:=(ok.s r hr).2 x hx;omega⟩) H hq;have X:L8 (some k)=k:=rfl;simp only[X]at q;repeat' (first|with_reducible apply D1H|simp only[go_sem,seval,A]|intro o|with_reducible refine I _ _ ?_|with_reducible refine q _ _ ?_|with_reducible refine W _ _ ?_|omega)
      exact C4 (f,A2W L k false) hs (Nat.lt_succ_self f) (by simp only[go_sem,seval]) (D2i _)
     ·cases hs
end Go.Proofs.YtibphjonmikciaaGreatDoor
namespace Go.Lin
open Go Go.Av Go.Lexs
theorem A73{s:ByteArray}(h:I2 (B s)=true):s.size≤200:=by
 unfold I2 at h;simp only[D1U,D1d]at h;have:=h.1.1.2;rwa [a7]at this
theorem B7L{l:List LinV}(hv: ∀a∈l,validL a=true):(O8 l).length≤12*l.length∧∀s∈O8 l,s.size≤200:=by
 constructor
 ·have key: ∀(m:List LinV),(∀c∈m,validL c=true)→(O8 m).length≤12*m.length:=by
   intro m
   induction m with
   |nil=>intro _;simp[O8]
   |cons c m h=>
    intro hm;have i:=h (fun x hx=>hm x (D1Z _ hx));have j:=(M4 (hm c (D1S ..))).len;unfold O8 at i⊢;rw[List.flatMap_cons,D1N,D10,D1M];omega
  exact key l hv
 ·intro s hs;unfold O8 at hs;obtain⟨c,hc,hs⟩:=List.mem_flatMap.1 hs;obtain⟨t,ht,rfl⟩:=D2F.1 hs;exact A73 (N1 (M4 (hv c hc)).t t ht).1
theorem B4v(l:List ByteArray)(s:ByteArray):(Q5 l s).length≤l.length+1:=by
 induction l with
 |nil=>simp[Q5]
 |cons x l h=>
  unfold Q5;split
  ·simp;omega
  ·split<;>simp
theorem B4w(m:List ByteArray): ∀l:List ByteArray,(m.foldl Q5 l).length≤l.length+m.length:=by
 induction m with
 |nil=>intro l;simp
 |cons s m h=>intro l;have:=h (Q5 l s);have:=B4v l s;simp only[List.foldl_cons,D1M];omega
theorem B4x{l:List LinV}{a:LinV}(h:a∈l){t:LTm}(ht:t∈a.t):t.v∈A1w l:=by
 rw[A7i];exact List.mem_flatMap.2 ⟨a,h,D2F.2 ⟨t,ht,rfl⟩⟩
def C9o(P:Program)(can:List LinV→Option Bool)(g:Nat)(cap:List D)(H:Heap):Prop:=∀(more:List LinV) (b:Bool),can more=some b→(∀a∈more,validL a=true)→more.length≤2→∀(H':Heap) (Q:D→Heap→Prop),H.Le H'→Q (.bool b) H'→ACalls P g (.sl 3 (Rw E8 more)::cap) H' Q
theorem A74{s:ByteArray}(hs:I2 (B s)=true)(c k:Int)(e:Bool)(hc:c≠0)(h:c.natAbs≤1048576)(hk:k.natAbs≤1099511627776):validL ⟨[⟨s,c⟩],k,e⟩=true:=by
 unfold validL s9 A7B N7;simp[hs,hc];omega
theorem A75{s:ByteArray}(hs:I2 (B s)=true)(n m:Int)(hn:n.natAbs≤1099511627776)(hm:m.natAbs≤1099511627776): ∀a∈[W4 s n,t7 s m],validL a=true:=fun a h=>by
 rcases D1j.1 h with rfl|h
 ·exact A74 hs 1 _ _ (by decide) (by decide) (by omega)
 ·simp at h;rw[h];exact A74 hs (-1) _ _ (by decide) (by decide) hm
theorem B4y(j:List LinV→Option Bool)(s:ByteArray)(f:Nat)(i h:Int):A3j j s (f+1) i h=if i<h then
      match j [W4 s (-((i+h).tdiv 2)),t7 s ((i+h).tdiv 2)]with
      |none=>none
      |some true=>A3j j s f i ((i+h).tdiv 2)
      |some false=>A3j j s f ((i+h).tdiv 2+1) h
    else some i:=rfl
end Go.Lin
namespace Go.Proofs.YtibphjonmikciaaGreatDoor
open Go Go.Av Go.Lexs Go.Lin
attribute [local irreducible] ACalls S9
theorem C36{Q}(l:List LinV)(hlen:l.length≤1000)(hv: ∀a∈l,validL a=true)(b:Bool)(hs:C15 l=some b)(H:Heap)(h:Q (.bool b) H):D7 155 [.sl 3 (Rw E8 l)] H Q:=by
 refine A9 [] A6 Tryz.func155 rfl ?_;simp only[go_sem,seval,Tryz.results155];obtain⟨n1,n2⟩:=B7L hv;have i:A46 100 (B0c l (A1w l))=some b:=hs;have m:(A1w l).length≤12000:=by have:=B4w (O8 l) [];simp at this;unfold A1w;omega
 repeat' (first|simp only[go_sem,seval]|with_reducible refine C3t l (by omega) (by omega) (fun s hs=>by have:=n2 s hs;omega) (fun c hc=>by have:=(M4 (hv c hc)).len;omega) _ ?_|with_reducible refine C33 l (A1w l) (by omega) (by omega) (B0M l) hv (fun a j t ht=>B4x j ht) _ ?_|with_reducible refine B2S 100 _ b i _ ?_)
 exact D2m h
theorem A76{Q}(s:ByteArray)(n:Int)(hn:n.natAbs≤1000000000000000)(H:Heap)(h:Q (.agg (E8 (W4 s n))) H):D7 127 [.str s,.int .i64 n] H Q:=by
 refine A9 [] A6 Tryz.func127 rfl ?_;simp only[go_sem,seval,Tryz.results127];have w:IntKind.i64.wrap (0-n)= -n:=by rw[A4 (by omega) (by omega)];omega
 repeat' (first|simp only[go_sem,seval,w]|simp(disch:=first|omega|grind) only[A8,D0]|(intro i;try simp only[A5]at i))
 rename_i q r u;have j:=i;clear i;refine A2G (es:=Rw J7 [⟨s,1⟩]) (by rw[A2 _ j.1,A3];rfl) rfl (D2j (fun k o hk=>?_) h);have m:k≠q:=fun g=>by rw[g,r]at hk;cases hk
 have p:k≠u:=fun g=>by rw[g,j.2]at hk;cases hk
 rw[D0 p,A2 _ m,A2 _ p,A2 _ m];exact hk
theorem B06{Q}(s:ByteArray)(n:Int)(H:Heap)(h:Q (.agg (E8 (t7 s n))) H):D7 128 [.str s,.int .i64 n] H Q:=by
 refine A9 [] A6 Tryz.func128 rfl ?_;simp only[go_sem,seval,Tryz.results128];repeat' (first|simp only[go_sem,seval]|simp(disch:=first|omega|grind) only[A8,D0]|(intro i;try simp only[A5]at i))
 rename_i q r u;have j:=i;clear i;refine A2G (es:=Rw J7 [⟨s,-1⟩]) (by rw[A2 _ j.1,A3];rfl) rfl (D2j (fun k o hk=>?_) h);have m:k≠q:=fun g=>by rw[g,r]at hk;cases hk
 have p:k≠u:=fun g=>by rw[g,j.2]at hk;cases hk
 rw[D0 p,A2 _ m,A2 _ p,A2 _ m];exact hk
theorem B4z{Q}(o:List LinV→Option Bool)(s:ByteArray)(z:I2 (B s)=true)(g:Nat)(cap:List D)(H:Heap)(x:C9o Tryz.prog o g cap H)(n:Int)(hn:B6f o s=some n)(h:Q (.int .i64 n) H):D7 76 [.str s,.fn (.func g) [] cap] H Q:=by
 refine A9 [] A6 Tryz.func76 rfl ?_;simp only[go_sem,seval,Tryz.results76];unfold B6f at hn;cases G:A3j o s 40 0 2147483647 with
 |none=>rw[G]at hn;cases hn
 |some I=>
  rw[G]at hn;simp only[]at hn;repeat' (first|with_reducible apply D1H|simp only[go_sem,seval]|simp(disch:=omega) only[A4]|intro q|omega)
  refine C8 [0,1] (fun(p:Nat×Int×Int)=>[(5,.int .i64 p.2.1),(6,.int .i64 p.2.2)]) (fun(p:Nat×Int×Int)=>H) (fun(p:Nat×Int×Int)=>A3j o s p.1 p.2.1 p.2.2=some I∧0≤p.2.1∧p.2.1≤p.2.2∧p.2.2≤2147483647) (fun(p:Nat×Int×Int)=>p.1) ((40,0,2147483647)) (⟨G,by simp,by simp,by simp⟩) (by simp only[go_sem,seval]) (by first|exact D2i _|exact A0 (by assumption)|exact B9 (by assumption)|simp only[Heap.Le,Heap.set,Heap.del]at* <;>grind) ?_;rintro W rfl ⟨f,i,j⟩ ⟨r,J,O,M⟩;simp only at r J O M;cases f with
  |zero=>simp[A3j]at r
  |succ f=>
   rw[B4y]at r;by_cases u:i<j
   ·rw[if_pos u]at r;obtain⟨m,hm⟩: ∃m,m=(i+j).tdiv 2:=⟨_,rfl⟩
    have T:i≤m∧m<j:=by
     rw[hm,Int.tdiv_eq_ediv_of_nonneg (by omega)];omega
    rw[←hm]at r;have U:IntKind.i64.wrap m=m:=A4 (by omega) (by omega);have V:IntKind.i64.wrap (0-m)= -m:=by rw[A4 (by omega) (by omega)];omega
    cases hc:o [W4 s (-m),t7 s m]with
    |none=>rw[hc]at r;cases r
    |some b=>
     rw[hc]at r;repeat' (first|simp only[go_sem,seval,u,←hm,U,V,Int.zero_sub]|simp(disch:=omega) only[A4]|intro q|with_reducible refine A76 s (-m) (by omega) _ ?_|with_reducible refine B06 s m _ ?_)
     rename_i bs;have y:=q;clear q;refine U9 (es:=Rw E8 [W4 s (-m),t7 s m]) (A3 _ _) rfl ?_;rw[E9 y];refine x _ b hc (A75 z _ _ (by omega) (by omega)) (by simp) _ _ (D2i _) ?_;cases b with
     |true=>
      repeat' simp only[go_sem,seval]
      exact C4 (f,i,m) ⟨r,J,by simp only[];omega,by simp only[];omega⟩ (Nat.lt_succ_self f) (by simp only[go_sem,seval]) (D2i _)
     |false=>
      repeat' (first|simp only[go_sem,seval]|simp(disch:=omega) only[A4])
      exact C4 (f,m+1,j) ⟨r,by simp only[];omega,by simp only[];omega,M⟩ (Nat.lt_succ_self f) (by simp only[go_sem,seval]) (D2i _)
   ·rw[if_neg u]at r;simp only[D1t]at r;subst r;by_cases A:0<i
    ·rw[if_pos A]at hn;cases hc:o [W4 s i,t7 s i]with
     |none=>rw[hc]at hn;cases hn
     |some b=>
      rw[hc]at hn;repeat' (first|simp only[go_sem,seval,u,A,Int.zero_sub]|intro q|with_reducible refine A76 s i (by omega) _ ?_|with_reducible refine B06 s i _ ?_)
      rename_i bs;have y:=q;clear q;refine U9 (es:=Rw E8 [W4 s i,t7 s i]) (A3 _ _) rfl ?_;rw[E9 y];refine x _ b hc (A75 z _ _ (by omega) (by omega)) (by simp) _ _ (D2i _) ?_;cases b with
      |true=>
       simp only[D1t]at hn;subst hn;repeat' simp only[go_sem,seval]
       exact D2m h
      |false=>
       simp only[D1t]at hn;subst hn;repeat' (first|simp only[go_sem,seval,Int.zero_sub]|simp(disch:=omega) only[A4])
       exact D2m h
    ·rw[if_neg A]at hn;simp only[D1t]at hn;subst hn;repeat' simp only[go_sem,seval,u,A]
     exact D2m h
end Go.Proofs.YtibphjonmikciaaGreatDoor
namespace Go.Lin
open Go Go.Av Go.Lexs
structure FI(H:Heap)(b5 bv:Nat)(so:List LinV)(out:List VlV)(ob:Option Nat)(Hp:Heap):Prop where
 le:H.Le Hp
 h5:H b5=none
 hv:H bv=none
 e5:Hp b5=some (.box [.vec bv 3 0 so.length])
 ev:Hp bv=some (.vec 3 (Rw E8 so))
 eo:OutAt Hp 2 (Rw vlC out) ob
 no: ∀b,ob=some b→H b=none
 n5:ob≠some b5
 nv:ob≠some bv
end Go.Lin
namespace Go.Proofs.YtibphjonmikciaaGreatDoor
open Go Go.Av Go.Lexs Go.Lin
attribute [local irreducible] ACalls S9
end Go.Proofs.YtibphjonmikciaaGreatDoor
namespace Go.Av
theorem ACalls.fin{P:Program}{f:Nat}{args:List D}{H:Heap}{Q:D→Heap→Prop}(h:ACalls P f args H (Fin Q)):ACalls P f args H Q:=by
 refine⟨h.1,fun w vs h1 j m=>(h.2 w vs h1 j m).mono fun e w' ⟨v,he,hp⟩=>⟨v,he,?_⟩⟩;obtain⟨d,G,o,p,q,r,i⟩:=hp;unfold Fin at i;obtain⟨u,x,hs,hq⟩:=i;obtain⟨y,z,A⟩:=hs w' v o p;exact⟨x,u,y,z,q,fun k hk hn=>A k (r k hk hn),hq⟩
structure BxI(H:Heap)(bx sz n:Nat)(X:List (List D))(rest:List D)(ob:Option Nat)(Hp:Heap):Prop where
 le:H.Le Hp
 hx:H bx=none
 ex:Hp bx=some (.box (H8 sz n ob::rest))
 eo:OutAt Hp sz X ob
 no: ∀b,ob=some b→H b=none
 nx:ob≠some bx
theorem B5P{H:Heap}{bx:Nat}(h:H bx=none)(sz:Nat)(rest:List D):BxI H bx sz 0 [] rest none (H.set bx (.box (.nilsl::rest))):=
 ⟨A0 h,h,A3 _ _,rfl,by simp,by simp⟩
theorem BxI.up{H Hp H':Heap}{bx sz n:Nat}{X:List (List D)}{rest:List D}{ob:Option Nat}(h:BxI H bx sz n X rest ob Hp)(i:Hp.Le H'):BxI H bx sz n X rest ob H':=
 ⟨h.le.trans i,h.hx,i _ _ h.ex,h.eo.up i,h.no,h.nx⟩
theorem BxI.ap{H Hp H0 H':Heap}{bx sz n m:Nat}{X Y:List (List D)}{rest:List D}{ob:Option Nat}{j:Nat}(h:BxI H bx sz n X rest ob Hp)(i:Hp.Le H0)(p:Apd H0 sz ob Y j H'):BxI H bx sz m Y rest (some j) (H'.set bx (.box (.vec j sz 0 m::rest)))∧H' bx=some (.box (H8 sz n ob::rest)):=by
 have e5:H' bx=some (.box (H8 sz n ob::rest)):=p.2.1 bx _ (i _ _ h.ex) h.nx;have nb:j≠bx:=fun e=>by have:=p.1;rw[e,e5]at this;cases this
 have q:H j=none:=by
  rcases p.2.2 with g|g
  ·exact h.le.none (i.none g)
  ·exact h.no _ g
 refine⟨⟨fun k o hk=>?_,h.hx,A3 _ _,?_,fun b e=>by cases e;exact q,fun e=>nb (by cases e;rfl)⟩,e5⟩
 ·rw[A2 _ (fun e=>by rw[e,h.hx]at hk;cases hk)];exact p.2.1 k o (i _ _ (h.le _ _ hk)) (fun e=>by have:=h.no _ e;rw[this]at hk;cases hk)
 ·show (H'.set bx _) j=_;rw[A2 _ nb];exact p.1
end Go.Av
namespace Go.Proofs.YtibphjonmikciaaGreatDoor
open Go Go.Av Go.Lexs Go.Lin
attribute [local irreducible] ACalls S9
end Go.Proofs.YtibphjonmikciaaGreatDoor
namespace Go.Lin
open Go Go.Av Go.Lexs
theorem B8g{Q:D→Heap→Prop}{ds:List D}{x:D}{H:Heap}{b sz n:Nat}{es:List (List D)}(hb:H b=some (.vec sz es))(hn:n=es.length)(h:Fin Q (.tuple [.agg (.sl sz es::ds),x]) (H.del b)):Fin Q (.tuple [.agg (.vec b sz 0 n::ds),x]) H:=by
 subst hn;refine A5F hb (by simp) (fun i d d' h1 j=>?_) h
 match i with
 |0=>cases h1;cases j;exact .all
 |i+1=>
  simp only[D1n]at h1 j;rw[h1]at j;cases j;exact .same _
theorem A1Y(sz n:Nat)(ob:Option Nat):(D.one.match_1 (fun _=>Bool) (H8 sz n ob) (fun _=>false) (fun _=>false) (fun _=>false) fun _=>true)=true:=by cases ob<;>rfl
theorem F3{H Bs:Heap}{b:Nat}{x:Go.Av.Obj}(i:H.Le Bs)(h:H b=none):H.Le (Bs.set b x):=fun k o hk=>by
 rw[A2 _ (fun e=>by rw[e,h]at hk;cases hk)];exact i _ _ hk
end Go.Lin
namespace Go.Proofs.YtibphjonmikciaaGreatDoor
open Go Go.Av Go.Lexs Go.Lin
attribute [local irreducible] ACalls S9
end Go.Proofs.YtibphjonmikciaaGreatDoor
namespace Go.Av
theorem A5U{P:Program}{f v sz n:Nat}{es:List (List D)}{ds p:List D}{H:Heap}{Q:D→Heap→Prop}(hb:H v=some (.vec sz es))(hn:n=es.length)(h:ACalls P f (.agg (.sl sz es::ds)::p) (H.del v) Q):ACalls P f (.agg (.vec v sz 0 n::ds)::p) H Q:=by
 subst hn;refine ACalls.shift (args':=.agg (.sl sz es::ds)::p) (fun w vs h1 r hs=>?_) h;have m:=E6 H v;refine⟨by simpa using h1,fun i d hd=>?_,hs.less m,fun k hn=>m.held hn⟩
 match i with
 |0=>
  cases hd;have o:=r 0 _ rfl;revert o;generalize vs.getD 0 undef=v1;intro o;cases o with
  |agg _ us q ho hr=>
   refine .agg _ us (by simpa using q) (fun i d' j=>?_) (fun i d' j=>?_)
   ·cases i with
    |zero=>cases j;rfl
    |succ i=>exact ho (i+1) d' j
   ·cases i with
    |zero=>
     cases j;have u:Fz v sz es (.vec v sz 0 es.length) (.sl sz es):=.all;exact u.R hs hb (hr 0 _ rfl)
    |succ i=>exact(hr (i+1) d' j).less m
 |i+1=>exact(r (i+1) d (by simpa using hd)).less m
end Go.Av
namespace Go.Lin
open Go Go.Av Go.Lexs
theorem B07{a:LinV}(h:validL a=true): ∀t∈a.t,t.c≠0∧t.c.natAbs≤1048576:=fun t ht=>by
 have:=(N1 (M4 h).t t ht)
 exact⟨this.2.1,by have:=this.2.2;omega⟩
theorem _root_.Go.Av.BxI.fin{H0 H Hp:Heap}{bx sz n i b:Nat}{X:List (List D)}{rest cs:List D}{T:Option TypeId}{x:Go.Av.Obj}(h:BxI H bx sz n X rest (some b) Hp)(j:H0.Le H)(m:H0 i=none)(p:Hp i=some (.box cs T)):(Hp.set i x) b=some (.vec sz X)∧H0.Le ((Hp.set i x).del b):=by
 have hb:Hp b=some (.vec sz X):=h.eo;have nb:b≠i:=fun e=>by rw[e,p]at hb;cases hb
 refine⟨by rw[A2 _ nb];exact hb,fun k o hk=>?_⟩;have h1:=j _ _ hk;have q:k≠b:=fun e=>by have:=h.no b rfl;rw[←e,h1]at this;cases this
 rw[D0 q,A2 _ (fun e=>by rw[e,m]at hk;cases hk)];exact h.le _ _ h1
theorem _root_.Go.Av.BxI.re{H Hp:Heap}{bx sz n:Nat}{X:List (List D)}{rest:List D}{ob:Option Nat}(h:BxI H bx sz n X rest ob Hp)(i:List D):BxI H bx sz n X i ob (Hp.set bx (.box (H8 sz n ob::i))):=by
 refine⟨fun k o hk=>?_,h.hx,A3 _ _,?_,h.no,h.nx⟩
 ·rw[A2 _ (fun e=>by rw[e,h.hx]at hk;cases hk)];exact h.le _ _ hk
 ·have:=h.eo;cases ob with
  |none=>exact this
  |some b=>
   show (Hp.set bx _) b=_;rw[A2 _ (fun e=>h.nx (by rw[e]))];exact this
theorem A6e{C T:Nat→Heap→Prop}{G:Prop}(h:(∀b H,C b H→T b H)→G)(t: ∀b H,C b H→T b H):G:=h t
end Go.Lin
namespace Go.Proofs.YtibphjonmikciaaGreatDoor
open Go Go.Av Go.Lexs Go.Lin
attribute [local irreducible] ACalls S9
end Go.Proofs.YtibphjonmikciaaGreatDoor
namespace Go.Lin
open Go Go.Av Go.Lexs
def nsD:List ByteArray→D
 | []=>.nilsl
 |x::l=>.sl 1 (Rw j9 (x::l))
@[simp] theorem D0q:nsD []= .nilsl:=rfl
end Go.Lin
namespace Go.Proofs.YtibphjonmikciaaGreatDoor
open Go Go.Av Go.Lexs Go.Lin
attribute [local irreducible] ACalls S9
end Go.Proofs.YtibphjonmikciaaGreatDoor
namespace Go.Proofs.YtibphjonmikciaaGreatDoor
section
open Go Go.Shelf Go.RowKit
set_option maxHeartbeats 4000000 in
set_option maxRecDepth 100000 in
theorem C0C(n:Nat)(hn:0<n)(hb:n*96≤140737488355328)(w:World):
  Calls Tryz.prog 190 #[.slice none 0 0,.int .i64 n] w fun e w'=>∃(cs:Array Value) (G:Nat),e= .returned (.slice (some ⟨w.heap.size,0,none⟩) 0 G)∧w'=w.drew.alloc (.cells cs 28)∧cs.size=G*7∧n≤G:=by
 obtain⟨i,p,A,hs,q⟩: ∃i,Tryz.prog.info? 28=some i∧i.zero=some (Value.agg #[.int .i64 0,.int .i64 0,.slice none 0 0,.int .i64 0,.bool false,.string ⟨#[]⟩,.slice none 0 0])∧i.size=7∧i.bytes=96:=by
  have h:(Tryz.prog.info? 28).map (fun i=>(i.zero,i.size,i.bytes))=some (some (Value.agg #[.int .i64 0,.int .i64 0,.slice none 0 0,.int .i64 0,.bool false,.string ⟨#[]⟩,.slice none 0 0]),7,96):=by kernel_rfl
  obtain⟨i,p,e⟩:=D1Q.1 h;simp only[Prod.mk.injEq]at e;exact⟨i,p,e.1,e.2.1,e.2.2⟩
 have r:Tryz.prog.follows .mixedOrders=true:=by kernel_rfl
 have x:=Tryz.underlying26;have a1:=Tryz.isAgg26;have M:=Tryz.sizeOf26;have v1:=Tryz.zeroValue26;have O:=run_underlying x;have y:=Tryz.underlying3;have a3:=Tryz.isAgg3;have T:=Tryz.sizeOf3;have v3:=Tryz.zeroValue3;have U:=run_underlying y;have I:=Tryz.underlying4;have a4:=Tryz.isAgg4;have V:=Tryz.sizeOf4;have v4:=Tryz.zeroValue4;have W:=run_underlying I;have J:=Tryz.underlying28;have X:=Tryz.isAgg28;have Y:=Tryz.sizeOf28;have v6:=Tryz.zeroValue28;have u6:=run_underlying J;have h1: ¬((n:Int)<0):=by omega
 have h3:RowKit.wrap64 ((n:Int)-0)=(n:Int):=by unfold RowKit.wrap64;omega
 have h4:(n:Int) > 0:=by omega
 have j:=Lib.run_append_nil_zeros w 26 3 26 28 i _ .i64 .i64 x y p A n hn (by omega) (by omega) (by rw[q];omega);obtain⟨G,u⟩: ∃G,G=grownCap w n 0 28:=⟨_,rfl⟩
 have o:n≤grownCap w n 0 28:=grownCap_ge w _ _ _;have z:G≤9223372036854775807:=by
  have:=grownCap_le_maxLen w n 0 28 (by unfold maxLen;omega);rw[←u]at this;unfold maxLen at this;omega
 rw[←u]at j o;obtain⟨cs,m⟩: ∃cs,cs=Builtin.zeroCells (Value.agg #[.int .i64 0,.int .i64 0,.slice none 0 0,.int .i64 0,.bool false,.string ⟨#[]⟩,.slice none 0 0]).cells n++Builtin.zeroCells (Value.agg #[.int .i64 0,.int .i64 0,.slice none 0 0,.int .i64 0,.bool false,.string ⟨#[]⟩,.slice none 0 0]).cells (G-n):=⟨_,rfl⟩
 have hsz:cs.size=G*7:=by
  rw[m,Array.size_append,size_zeroCells,size_zeroCells];show n*7+(G-n)*7=G*7;omega
 rw[←m]at j;clear u m
 go_enter Tryz.func190,Tryz.ntmps190
 go_wp2_with (at_builtin;refine Lib.wpList_append_run _ rfl _ _ _ _ rfl _ _ rfl rfl _ _ j ?_)
 all_goals (go_ret;exact⟨cs,G,rfl,rfl,by first|exact hsz|simpa using hsz,o⟩)
end
section
open Go Go.Av Go.Lin Go.Fo
theorem B7M{Q}(H:Heap)(h:Q .nilsl H):D7 190 [.nilsl,.int .i64 0] H Q:=by
 refine A9 [] A6 Tryz.func190 rfl ?_;simp only[go_sem,seval,Tryz.results190];repeat' (first|with_reducible apply D1H|simp only[go_sem,seval]|simp(disch:=omega) only[A4,B4])
 all_goals exact D2m h
theorem B3h{Q}(n:Nat)(hb:n*96≤140737488355328)(H:Heap)(p:n=0→Q .nilsl H)(h:n≠0→∀b,H b=none→Q (.vec b 7 0 0) (H.set b (.vec 7 []))):D7 190 [.nilsl,.int .i64 n] H Q:=by
 by_cases hn:n=0
 ·subst hn;exact B7M H (p rfl)
 ·refine⟨by kernel_rfl,fun w vs hl hr hs=>?_⟩;obtain⟨a,b,rfl,q,m⟩:=A0E hl hr;have r:a= .slice none 0 0:=by cases q;rfl
  rw[r,m.int_inv];refine(C0C n (by omega) hb w).mono ?_;rintro e w' ⟨cs,G,rfl,rfl,hsz,u⟩;have o:=hs.same (w':=w.drew) rfl (Ext.drewN H w 1);obtain⟨d,H',x,y,z,A,I⟩:=y8 (w:=w.drew) (K:=Q) o (sz:=7) (es:=[]) (vs:=cs) 28 0 G (by omega) ⟨by simp,fun i e he=>by simp at he,fun i e j d he=>by simp at he,fun i e j d he=>by simp at he⟩ (D1c _) hsz (fun b hb=>h hn b hb);exact⟨_,rfl,d,H',x,y,(Ext.drewN H w 1).trans (D2o _ _) z,A,I⟩
theorem A77{Q}(l m:List Fm)(hb:(l.length+m.length)*96≤140737488355328)(H:Heap)(h:Q (.sl 7 (Rw C1 (l++m))) H):D7 153 [.sl 1 [[.sl 7 (Rw C1 l)],[.sl 7 (Rw C1 m)]]] H Q:=by
 refine A9 [] A6 Tryz.func153 rfl ?_;simp only[go_sem,seval,Tryz.results153];refine C8 [0,9,10] (fun(p:Nat×Int)=>[(11,.int .i64 p.1),(3,.int .i64 p.2)]) (fun(p:Nat×Int)=>H) (fun(p:Nat×Int)=>p.1≤2∧(p.1=0→p.2=0)∧(p.1=1→p.2=l.length)∧(p.1=2→p.2=(l.length:Int)+m.length)) (fun(p:Nat×Int)=>2-p.1) ((0,0)) (⟨by simp,by simp,by simp,by simp⟩) (by(try simp only[go_sem,seval])<;>(try simp(disch:=omega) [A4])) (by first|exact D2i _|exact A0 (by assumption)|exact B9 (by assumption)|simp only[Heap.Le,Heap.set,Heap.del]at* <;>grind) ?_;rintro G rfl ⟨k,z⟩ ⟨r,j,o,q⟩;simp only at r j o q
 match k,r,j,o,q with
 |0,r,j,o,q=>
  have u:=j rfl;subst u;repeat' (first|with_reducible apply D1H|simp only[go_sem,seval,D1q]|simp(disch:=omega) only[A4,B4]|intro i|omega)
  exact C4 (1,(l.length:Int)) ⟨by simp,by simp,by simp,by simp⟩ (by simp) (by(try simp only[go_sem,seval])<;>(try simp(disch:=omega) [A4])) (D2i _)
 |1,r,j,o,q=>
  have u:=o rfl;subst u;repeat' (first|with_reducible apply D1H|simp only[go_sem,seval,D1q,D1r]|simp(disch:=omega) only[A4,B4]|intro i|omega)
  exact C4 (2,(l.length:Int)+m.length) ⟨by simp,by simp,by simp,by simp⟩ (by simp) (by(try simp only[go_sem,seval])<;>(try simp(disch:=omega) [A4])) (D2i _)
 |2,r,j,o,q=>
  have u:=q rfl;subst u;have I:(l.length:Int)+m.length=((l.length+m.length:Nat):Int):=by omega
  by_cases x:l.length+m.length=0
  ·have el:l= []:=D1f (by omega);have J:m= []:=D1f (by omega);subst el;subst J;repeat' (first|with_reducible apply D1H|simp only[go_sem,seval,I]|intro i|omega)
   refine B3h 0 (by omega) H (fun _=>?_) (fun e=>absurd rfl e);repeat' simp only[go_sem,seval]
   refine C8 [25,26] (fun(k:Nat)=>[(27,.int .i64 k),(6,.nilsl)]) (fun(k:Nat)=>H) (fun(k:Nat)=>k≤2) (fun(k:Nat)=>2-k) (0) (by omega) (by(try simp only[go_sem,seval])<;>(try simp(disch:=omega) [A4])) (by first|exact D2i _|exact A0 (by assumption)|exact B9 (by assumption)|simp only[Heap.Le,Heap.set,Heap.del]at* <;>grind) ?_;rintro G rfl k hk
   match k,hk with
   |0,_=>
    repeat' (first|with_reducible apply D1H|simp only[go_sem,seval,D1q,A0j]|simp(disch:=omega) only[A4,B4]|intro i|omega)
    exact C4 1 (by omega) (by omega) (by(try simp only[go_sem,seval])<;>(try simp(disch:=omega) [A4])) (D2i _)
   |1,_=>
    repeat' (first|with_reducible apply D1H|simp only[go_sem,seval,D1q,D1r,A0j]|simp(disch:=omega) only[A4,B4]|intro i|omega)
    exact C4 2 (by omega) (by omega) (by(try simp only[go_sem,seval])<;>(try simp(disch:=omega) [A4])) (D2i _)
   |2,_=>
    repeat' (first|with_reducible apply D1H|simp only[go_sem,seval]|intro i|omega)
    exact Fin.out (n:=0) (ob:=none) rfl rfl (D2j (D2i _) h)
   |k+3,hk=>omega
  repeat' (first|with_reducible apply D1H|simp only[go_sem,seval,I]|intro i|omega)
  refine B3h _ hb H (fun e=>absurd e x) fun _ b y=>?_;repeat' simp only[go_sem,seval]
  refine C8 [25,26] (fun(p:Nat×Nat×List Fm)=>[(27,.int .i64 p.1),(6,.vec p.2.1 7 0 p.2.2.length)]) (fun(p:Nat×Nat×List Fm)=>H.set p.2.1 (.vec 7 (Rw C1 p.2.2))) (fun(p:Nat×Nat×List Fm)=>p.1≤2∧H p.2.1=none∧(p.1=0→p.2.2= [])∧(p.1=1→p.2.2=l)∧(p.1=2→p.2.2=l++m)) (fun(p:Nat×Nat×List Fm)=>2-p.1) ((0,b,[])) (⟨by simp,y,by simp,by simp,by simp⟩) (by(try simp only[go_sem,seval])<;>(try simp(disch:=omega) [A4])) (by first|exact D2i _|exact A0 (by assumption)|exact B9 (by assumption)|simp only[Heap.Le,Heap.set,Heap.del]at* <;>grind) ?_;rintro G rfl ⟨k,c,X⟩ ⟨r,hc,j,o,q⟩;simp only at r hc j o q
  match k,r,j,o,q with
  |0,r,j,o,q=>
   have u:=j rfl;subst u;repeat' (first|with_reducible apply D1H|simp only[go_sem,seval,D1q,E9 hc]|simp(disch:=omega) only[A4,B4]|intro i|omega)
   rename_i A;exact C4 (1,A,l) ⟨by simp,i,by simp,by simp,by simp⟩ (by simp) (by(try simp only[go_sem,seval])<;>(try simp(disch:=omega) [A4])) (D2i _)
  |1,r,j,o,q=>
   have u:=(o rfl).symm;subst u;repeat' (first|with_reducible apply D1H|simp only[go_sem,seval,D1q,D1r,E9 hc]|simp(disch:=omega) only[A4,B4]|intro i|omega)
   rename_i A;exact C4 (2,A,l++m) ⟨by simp,i,by simp,by simp,by simp⟩ (by simp) (by(try simp only[go_sem,seval,D1N])<;>(try simp(disch:=omega) [A4])) (by simp only[];rw[←O7,D1W (by rw[D6];exact D1b _)];exact D2i _)
  |2,r,j,o,q=>
   have u:=q rfl;subst u;repeat' (first|with_reducible apply D1H|simp only[go_sem,seval]|intro i|omega)
   exact Fin.out (ob:=some c) (by rw[D6,D1N]) (A3 _ _) (D2j (by show H.Le ((H.set c _).del c);rw[E9 hc];exact D2i _) h)
end
end Go.Proofs.YtibphjonmikciaaGreatDoor
namespace Go.Fo
open Go Go.Av Go.Lin
@[go_sem] theorem D0r(o n:Int)(l:LinV)(s:ByteArray)(ks:List Fm):(Fm.mk o n l s ks).op=o:=rfl
@[go_sem] theorem D06(o n:Int)(l:LinV)(s:ByteArray)(ks:List Fm):(Fm.mk o n l s ks).n=n:=rfl
@[go_sem] theorem D07(o n:Int)(l:LinV)(s:ByteArray)(ks:List Fm):(Fm.mk o n l s ks).l=l:=rfl
@[go_sem] theorem D08(o n:Int)(l:LinV)(s:ByteArray)(ks:List Fm):(Fm.mk o n l s ks).s=s:=rfl
@[go_sem] theorem D0s(o n:Int)(l:LinV)(s:ByteArray)(ks:List Fm):(Fm.mk o n l s ks).ks=ks:=rfl
end Go.Fo
namespace Go.Av
theorem R6{P:Program}{f b n sz:Nat}{es:List (List D)}{ds:List D}{H0:Heap}{Q:D→Heap→Prop}(i:H0 b=none)(hn:n=es.length)(h:ACalls P f (.sl sz es::ds) H0 Q):ACalls P f (.vec b sz 0 n::ds) (H0.set b (.vec sz es)) Q:=
 U9 (A3 _ _) hn (by rw[E9 i];exact h)
theorem A9Z{P:Program}{f b n sz:Nat}{es:List (List D)}{a:D}{ds:List D}{H0:Heap}{Q:D→Heap→Prop}(i:H0 b=none)(hn:n=es.length)(h:ACalls P f (a:: .sl sz es::ds) H0 Q):ACalls P f (a:: .vec b sz 0 n::ds) (H0.set b (.vec sz es)) Q:=
 A0c (A3 _ _) hn (by rw[E9 i];exact h)
theorem A64{P:Program}{f m:Nat}{kvs:List (D×D)}{x:D}{ds:List D}{H:Heap}{Q:D→Heap→Prop}(hm:H m=some (.map kvs))(h:ACalls P f (.agg [x,.fm kvs]::ds) (H.del m) Q):ACalls P f (.agg [x,.map m]::ds) H Q:=by
 refine ACalls.shift (args':=.agg [x,.fm kvs]::ds) (fun w vs h1 r hs=>?_) h;have o:=E6 H m;refine⟨by simpa using h1,fun i d hd=>?_,hs.less o,fun k hn=>o.held hn⟩
 match i with
 |0=>
  cases hd;have p:=r 0 _ rfl;revert p;generalize vs.getD 0 undef=v1;intro p;cases p with
  |agg _ us q ho hr=>
   refine .agg _ us (by simpa using q) (fun i d' j=>?_) (fun i d' j=>?_)
   ·match i with
    |0=>exact ho 0 d' j
    |1=>cases j;rfl
    |i+2=>simp at j
   ·match i with
    |0=>exact(hr 0 d' j).less o
    |1=>
     cases j;exact B3J hs hm o (G7 (by simp[Heap.del])) (hr 1 _ rfl)
    |i+2=>simp at j
 |i+1=>exact(r (i+1) d (by simpa using hd)).less o
end Go.Av
namespace Go.Proofs.YtibphjonmikciaaGreatDoor
open Go Go.Av Go.Lexs Go.Lin Go.Fo
attribute [local irreducible] ACalls S9
theorem B2T{Q}(f:Fm)(H:Heap)(h:Q (.int .i64 (if f.op=6 then 1 else 0)) H):D7 193 [.agg (C1 f)] H Q:=by
 refine A9 [] A6 Tryz.func193 rfl ?_;simp only[go_sem,seval,Tryz.results193];by_cases c:f.op=6
 ·rw[if_pos c]at h;repeat' (first|simp only[go_sem,seval,c]|intro i)
  exact D2j (A0 (by assumption)) h
 ·rw[if_neg c]at h;repeat' (first|simp only[go_sem,seval,c]|intro i)
  exact D2j (A0 (by assumption)) h
theorem C37{Q}(l:List Fm)(n:Int)(h1:n≤1)(g:D)(H:Heap)(h:Q (.tuple []) H):D7 242 [.sl 7 (Rw C1 l),.int .i64 0,.int .i64 n,g] H Q:=by
 refine A9 [(4,.rg),(6,.rd true)] A6 Tryz.func242 rfl ?_;simp only[go_sem,seval,Tryz.results242];have c: ¬1<n:=by omega
 repeat' simp(disch:=omega) only[A4,A3Q,okRest_at,R3,A4G,B3,okRestE_at,A0w,B1u,A6G,B9K,B6u,B4,B4j,A6Z,A4c,J8,A8z,A01]
 refine C8 [0,1,2,3] (fun(k:Nat)=>[(8,.int .i64 1)]) (fun(k:Nat)=>H) (fun(k:Nat)=>True) (fun(k:Nat)=>0) (0) (trivial) (by simp only[go_sem,seval]) (by first|exact D2i _|exact A0 (by assumption)|exact B9 (by assumption)|simp only[Heap.Le,Heap.set,Heap.del]at* <;>grind) ?_;rintro i rfl k _;repeat' simp only[go_sem,seval,c]
 exact D2m h
theorem B7N{Q}(l:List Fm)(hl:l.length≤1)(g:D)(H:Heap)(h:Q (.tuple []) H):D7 219 [.sl 7 (Rw C1 l),.int .i64 l.length,g] H Q:=by
 refine A9 [] A6 Tryz.func219 rfl ?_;simp only[go_sem,seval,Tryz.results219];have c: ¬(20:Int)≤l.length:=by omega
 have i: ¬(20:Int)<l.length:=by omega
 repeat' (first|with_reducible apply D1H|simp only[go_sem,seval]|simp(disch:=omega) only[B4]|intro j|omega)
 refine C8 [0,1,2,6] (fun(k:Nat)=>[(7,.int .i64 0),(8,.int .i64 20)]) (fun(k:Nat)=>H) (fun(k:Nat)=>True) (fun(k:Nat)=>0) (0) (trivial) (by simp only[go_sem,seval]) (by first|exact D2i _|exact A0 (by assumption)|exact B9 (by assumption)|simp only[Heap.Le,Heap.set,Heap.del]at* <;>grind) ?_;rintro m rfl k _;repeat' (first|simp only[go_sem,seval,c]|with_reducible refine C37 l _ (by omega) _ _ ?_)
 refine C8 [0,1,2] (fun(k:Nat)=>[(6,.int .i64 20)]) (fun(k:Nat)=>H) (fun(k:Nat)=>True) (fun(k:Nat)=>0) (0) (trivial) (by simp only[go_sem,seval]) (by first|exact D2i _|exact A0 (by assumption)|exact B9 (by assumption)|simp only[Heap.Le,Heap.set,Heap.del]at* <;>grind) ?_;rintro m rfl k _;repeat' simp only[go_sem,seval,i]
 exact D2m h
theorem A3t{Q}(l:List Fm)(hl:l.length≤1)(g:D)(H:Heap)(h:Q (.tuple []) H):D7 191 [.sl 7 (Rw C1 l),g] H Q:=by
 refine A9 [] A6 Tryz.func191 rfl ?_;simp only[go_sem,seval,Tryz.results191];repeat' (first|simp only[go_sem,seval]|with_reducible refine B7N l hl _ _ ?_)
 exact D2m h
theorem B7O{Q}(c:List Fm)(hc:c≠[])(hl:c.length≤1000000)(H:Heap)(h: ∀b,H b=none→Q (.vec b 7 0 c.length) (H.set b (.vec 7 (Rw C1 c)))):D7 194 [.sl 7 (Rw C1 c)] H Q:=by
 have m:Rw C1 c≠[]:=fun e=>hc (D1f (by rw[←D6 (f:=C1),e];rfl));refine A9 [] A6 Tryz.func194 rfl ?_;simp only[go_sem,seval,Tryz.results194];have hq: ∀(x:Nat),K7 Tryz.prog .eql 26 (J3 (.tmp x)||J3 (.const (.slice none 0 0))) (.sl 7 (Rw C1 c)) .nilsl=some (.bool false):=fun x=>A3W m (by kernel_rfl);repeat' (first|with_reducible apply D1H|simp only[go_sem,seval,hq]|intro i|omega)
 rename_i p o q;have j:=i;clear i;rw[E9 o]at j⊢;exact D2m (h _ j)
theorem B7P{Q}(cs c:List LinV)(m:D)(hm:(∃k,m= .fm k)∨∃b,m= .map b)(hb:(cs.length+c.length)*40≤140737488355328)(H:Heap)(h:Q (.agg [.sl 3 (Rw E8 (cs++c)),m]) H):D7 123 [.agg [.sl 3 (Rw E8 cs),m],.sl 3 (Rw E8 c)] H Q:=by
 refine A9 [] A6 Tryz.func123 rfl ?_;simp only[go_sem,seval,Tryz.results123];rcases hm with⟨k,rfl⟩|⟨b,rfl⟩
 ·repeat' (first|with_reducible apply D1H|simp only[go_sem,seval]|simp(disch:=first|omega|grind) only[A8]|(intro i;try simp only[A5]at i))
  rename_i j o p q x;have hx:=i;clear i;refine R6 (es:=[[.sl 3 (Rw E8 cs)],[.sl 3 (Rw E8 c)]]) (A5.2 ⟨hx.1,A5.2 hx.2⟩) rfl ?_;refine A7y cs c hb _ ?_;repeat' (first|simp only[go_sem,seval]|simp(disch:=first|omega|grind) only[A8])
  exact D2j (by simp only[F0,D3,D4]at* <;>grind) h
 ·repeat' (first|with_reducible apply D1H|simp only[go_sem,seval]|simp(disch:=first|omega|grind) only[A8]|(intro i;try simp only[A5]at i))
  rename_i j o p q x;have hx:=i;clear i;refine R6 (es:=[[.sl 3 (Rw E8 cs)],[.sl 3 (Rw E8 c)]]) (A5.2 ⟨hx.1,A5.2 hx.2⟩) rfl ?_;refine A7y cs c hb _ ?_;repeat' (first|simp only[go_sem,seval]|simp(disch:=first|omega|grind) only[A8])
  exact D2j (by simp only[F0,D3,D4]at* <;>grind) h
end Go.Proofs.YtibphjonmikciaaGreatDoor
namespace Go.Av
section
variable {P:Program} {ops:Array Oper}
def C7S(P:Program)(o:Oper)(K:Kg)(F:FEnv)(H:Heap):Prop:=o.guard=none∧C9 P F.ev H (fun d H'=>K (F.put o.dst d) H') o.op
def C0D(P:Program)(ops:Array Oper)(K:Kg):Nat→Array Bool→Kg
 |0,listed=>fun F H=>Region.ready .any ops listed= []∧K F H
 |fuel+1,listed=>fun F H=>(Region.ready .any ops listed= []→K F H)∧∀i∈Region.ready .any ops listed,∃o,ops[i]? =some o∧C7S P o (C0D P ops K fuel (listed.setIfInBounds i true)) F H
theorem B2U{N:Nat}{w0:World}{H0:Heap}{o:Oper}{K:Kg}{F:FEnv}{H:Heap}{a:Act}{w:World}(hd: ∀t,o.dst=some t→t<N)(h:C7S P o K F H)(hst:StO N w0 H0 F H a w):
  opSem P none o a w fun v w'=>∃r H',StO N w0 H0 r H' (a.put o.dst v) w'∧K r H':=by
 refine(N5 (o:=o) hst.sat hst.evR h.2).mono fun v w' hp=>?_;obtain⟨d,H',u,x,p,q,hk⟩:=hp;refine⟨F.put o.dst d,H',⟨?_,?_,fun i=>?_,x,hst.ext.trans hst.frm p,hst.frm.trans hst.ext.size q⟩,hk⟩
 ·cases j:o.dst<;>simp[Act.put,hst.size]
 ·cases j:o.dst<;>simp[Act.put,hst.defers]
 ·cases j:o.dst with
  |none=>exact(hst.env i).mono p q
  |some t=>
   have ht:=hd t j;simp only[FEnv.put];by_cases m:t=i
   ·subst m;rw[if_pos rfl];have:(a.put (some t) v).eval (.tmp t)=v:=by
     have y:t<a.tmps.size:=by rw[hst.size];exact ht
     simp[Act.eval,Act.put,y]
    rw[this];exact u
   ·rw[if_neg m];have:(a.put (some t) v).eval (.tmp i)=a.eval (.tmp i):=by
     simp[Act.eval,Act.put,D1v m]
    rw[this];exact(hst.env i).mono p q
theorem A6f{N:Nat}{w0:World}{H0:Heap}{K:Kg}{Q:Exit→Act→World→Prop}(hd: ∀o∈ops.toList,∀t,o.dst=some t→t<N)
  (r: ∀F H a w,StO N w0 H0 F H a w→K F H→Q .normal a w): ∀(fuel:Nat) (j:Array Bool) (F:FEnv) (H:Heap) (a:Act) (w:World),
  C0D P ops K fuel j F H→StO N w0 H0 F H a w→Go.wpAny P .any ops Q fuel j a w
 |0,_,F,H,a,w,h,hst=>⟨h.1,r _ _ _ _ hst h.2⟩
 |fuel+1,j,F,H,a,w,h,hst=>⟨fun u=>r _ _ _ _ hst (h.1 u),fun i x=>by
   obtain⟨o,ho,h1⟩:=h.2 i x;unfold Go.wpOp;split
   ·rename_i hn;rw[hn]at ho;cases ho
   ·rename_i o' m;rw[ho]at m;cases m;have p:o∈ops.toList:=by rw[D1w];exact Array.mem_of_getElem? ho
    rw[if_pos (by simp[Region.wanted,h1.1])];exact .inl (opSem.wp ((B2U (hd o p) h1 hst).mono fun v w' hv=>by
     obtain⟨y,H',q,hk⟩:=hv;exact A6f hd r fuel _ _ _ _ _ hk q))⟩
theorem B2V{f:Nat}{fn:Func}{c:Code}{id:Nat}{args:List D}{H:Heap}{Q:D→Heap→Prop}(hm:P.follows .mixedOrders=true)(M:P.funcs[f]? =some fn)(hb:fn.body=some (.seq c (.region id ops true)))(q:A1n P f=true)(hn:args.length≤fn.ntmps)
  (u:fn.results= #[]) (y:N6 P [] fn.ntmps c=true) (hd:(ops.toList.all fun o=>match o.dst with|some t=>decide (t<fn.ntmps)|none=>true)=true)
  (h:wp P [] c (fun x E H=>x= .normal∧C0D P ops (fun _ H=>Fin Q (.tuple []) H) ops.size (Array.replicate ops.size false) E.get H) (V7 0 args) H):ACalls P f args H Q:=by
 refine⟨q,fun w vs hl O hs=>calls_of_wp M hb ?_⟩;have hst:St fn.ntmps w H (V7 0 args) H {tmps:=vs++Array.replicate (fn.ntmps-vs.size) undef,defers:=[]} w:=by
  refine⟨by simp;omega,rfl,fun i=>?_,hs,D2p _ _,D2o _ _⟩;rw[z8,if_pos (D1c _),Nat.sub_zero];cases I:args[i]? with
  |none=>exact .undef _
  |some d=>
   have T:=(D1R.1 I).1;have:({tmps:=vs++Array.replicate (fn.ntmps-vs.size) undef,defers:=[]}:Act).eval (.tmp i)=vs.getD i undef:=by
    simp only[Act.eval];exact G3 (by omega)
   rw[this];exact O i d I
 refine Go.wp_seq (Go.wp_mono (z7 hm c _ _ _ _ _ y h hst) fun e a w' he=>?_);cases e with
 |normal=>
  obtain⟨E,H',j,_,hq⟩:=he;refine wp_region_any hm ?_;have he:Ext H' w' {w' with drawn:=w'.drawn+1}:=Ext.drewN H' w' 1;have z:=j.sat.same (w':={w' with drawn:=w'.drawn+1}) rfl he;refine A6f (N:=fn.ntmps) (w0:=w) (H0:=H) (fun o ho t ht=>?_) (fun F U a1 J m hk=>?_) _ _ E.get H' a _ hq ⟨j.size,j.defers,fun i=>(j.env i).mono he (D2o _ _),z,j.ext.trans j.frm he,j.frm⟩
  ·have:=D1s.1 hd o ho;rw[ht]at this;simpa using this
  ·unfold Fin at hk;obtain⟨V,W,A,X⟩:=hk;have p:St fn.ntmps w H [] U a1 J:=⟨m.size,m.defers,fun i=>.undef _,m.sat,m.ext,m.frm⟩
   obtain⟨v,hv,G⟩:=A2P (P:=P) (fn:=fn) (r:=.tuple []) p (by rw[u];rfl);obtain⟨Y,k2,k3⟩:=A J v G m.sat;exact⟨m.defers,v,hv,v,rfl,W,V,Y,k2,m.ext,fun k hk hn=>k3 k (m.frm k hk hn),X⟩
 |exit id=>obtain⟨E,H',j,hq⟩:=he;exact absurd hq.1 (by simp)
 |ret=>obtain⟨E,H',j,hq⟩:=he;exact absurd hq.1 (by simp)
 |_=>exact he.elim
def K6(o:Oper):List Nat:=(o.after.toList.filter fun e=>Region.binds .any e).map (·.on)
theorem A1Z{j:Array Bool}{i:Nat}(h:i∈Region.ready .any ops j):j.getD i true=false∧∃o,ops[i]? =some o∧∀d∈K6 o,j.getD d false=true:=by
 obtain⟨h1,o,ho,q⟩:=mem_ready.1 h;refine⟨h1,o,ho,fun d hd=>?_⟩;obtain⟨e,he,rfl⟩:=D2F.1 hd;obtain⟨m,p⟩:=List.mem_filter.1 he;exact q e (by simpa using m) p
theorem A6g{j:Array Bool}{i:Nat}{o:Oper}(h1:j.getD i true=false)(ho:ops[i]? =some o)(h: ∀d∈K6 o,j.getD d false=true):i∈Region.ready .any ops j:=
 mem_ready.2 ⟨h1,o,ho,fun e he hb=>h e.on (D2F.2 ⟨e,List.mem_filter.2 ⟨by simpa using he,hb⟩,rfl⟩)⟩
end
section
variable {P:Program} {ops:Array Oper}
structure EvC(ev:Operand→D):Prop where
 const: ∀v,ev (.const v)=D.ofValue v
 func: ∀f,ev (.func f)= .fn (.func f) [] []
def B08(P:Program)(ops:Array Oper)(vals:Nat→D)(B:Heap)(E0:FEnv):Prop:=∀i o,ops[i]? =some o→o.guard=none∧∀F:FEnv,(∀j oj,ops[j]? =some oj→j∈K6 o→∀t,oj.dst=some t→F t=vals j)→(∀t,(ops.toList.all fun oj=>oj.dst != some t)=true→F t=E0 t)→
 C9 P F.ev B (Fin fun d H=>d=vals i∧H=B) o.op
structure C38(ops:Array Oper)(vals:Nat→D)(E0:FEnv)(l:Array Bool)(F:FEnv):Prop where
 size:l.size=ops.size
 set: ∀j oj,ops[j]? =some oj→l.getD j false=true→∀t,oj.dst=some t→F t=vals j
 els: ∀t,(ops.toList.all fun oj=>oj.dst != some t)=true→F t=E0 t
theorem B40{N:Nat}{w0:World}{H0 B:Heap}{vals:Nat→D}{E0:FEnv}{Q:Exit→Act→World→Prop}(hd: ∀o∈ops.toList,∀t,o.dst=some t→t<N)(G: ∀(i j:Nat) (oi oj:Oper),ops[i]? =some oi→ops[j]? =some oj→∀t,oi.dst=some t→oj.dst=some t→i=j)
  (J:B08 P ops vals B E0) (M: ∀l:Array Bool,l.size=ops.size→Region.ready .any ops l= []→∀i,i<ops.size→l.getD i false=true)
  (hQ: ∀F a w,StO N w0 H0 F B a w→C38 ops vals E0 (Array.replicate ops.size true) F→Q .normal a w): ∀(fuel:Nat) (p:Array Bool) (F:FEnv) (a:Act) (w:World),
  (p.toList.filter (!·)).length≤fuel→C38 ops vals E0 p F→StO N w0 H0 F B a w→Go.wpAny P .any ops Q fuel p a w:=by
 have fin: ∀(l:Array Bool) (F:FEnv) (a:Act) (w:World),C38 ops vals E0 l F→StO N w0 H0 F B a w→Region.ready .any ops l= []→Q .normal a w:=fun l F a w I hst U=>by
  refine hQ F a w hst ⟨by simp,fun j oj u _=>I.set j oj u (M l I.size U j (D1g.1 u).1),I.els⟩
 intro fuel
 induction fuel with
 |zero=>
  intro l F a w hc I hst;have hr:Region.ready .any ops l= []:=by
   cases hr:Region.ready .any ops l with
   |nil=>rfl
   |cons i r=>
    exfalso;obtain⟨h1,o,ho,_⟩:=A1Z (by rw[hr];exact D1S .. :i∈Region.ready .any ops l);have hi:=(D1g.1 ho).1;have:=I.size;have hl:l.toList[i]? =some false:=by
     have:i<l.size:=by omega
     simp[this]at h1⊢;exact h1
    have hm:false∈l.toList.filter (!·):=List.mem_filter.2 ⟨D1o hl,rfl⟩;have:=List.length_pos_of_mem hm;omega
  exact⟨hr,fin l F a w I hst hr⟩
 |succ n V=>
  intro l F a w hc I hst;refine⟨fun U=>fin l F a w I hst U,fun i hi=>?_⟩;obtain⟨hu,o,ho,W⟩:=A1Z hi;have b1:=(D1g.1 ho).1;have X:=I.size;have Y:i<l.size:=by omega
  obtain⟨hg,a0⟩:=J i o ho;have x:o∈ops.toList:=by rw[D1w];exact Array.mem_of_getElem? ho
  unfold Go.wpOp;split
  ·rename_i hn;rw[hn]at ho;cases ho
  ·rename_i o' O;rw[ho]at O;cases O;rw[if_pos (by simp[Region.wanted,hg])];refine .inl (opSem.wp ((N5 (o:=o) hst.sat hst.evR (a0 F (fun j oj u hm t ht=>I.set j oj u (W j hm) t ht) I.els)).mono fun v w' hp=>?_));obtain⟨d,H',hR,hS,hE,hF,hk⟩:=hp;unfold Fin at hk;obtain⟨H2,d2,T,a6,a9⟩:=hk;rw[a6,a9]at T;obtain⟨k1,k2,k3⟩:=T w' v hR hS;have b0:Ext H0 w0 w':=hst.ext.trans hst.frm hE;refine V _ (F.put o.dst (vals i)) _ _ ?_ ⟨by simpa using X,fun j oj u hm t ht=>?_,fun t ht=>?_⟩ ⟨?_,?_,fun s=>?_,k2,b0,fun k hk hn=>k3 k ((hst.frm.trans hst.ext.size hF) k hk hn)⟩
   ·have key: ∀(m:List Bool) (i:Nat),m[i]? =some false→((m.set i true).filter (!·)).length+1=(m.filter (!·)).length:=by
     intro m
     induction m with
     |nil=>intro i h;simp at h
     |cons b m V=>
      intro i h;cases i with
      |zero=>simp at h;subst h;simp
      |succ i=>
       have:=V i (by simpa using h);cases b<;>simp[List.set_cons_succ]<;>omega
    have hl:l.toList[i]? =some false:=by
     simp[Y]at hu⊢;exact hu
    have:=key l.toList i hl;rw[Array.toList_setIfInBounds];omega
   ·by_cases e:i=j
    ·subst e;rw[ho]at u;cases u;rw[ht];simp[FEnv.put]
    ·have y:o.dst≠some t:=fun e2=>e (G i j o oj ho u t e2 ht);have hp:F.put o.dst (vals i) t=F t:=by
      cases z:o.dst with
      |none=>rfl
      |some s=>
       have:s≠t:=fun e=>y (by rw[z,e]);simp[FEnv.put,this]
     rw[hp];refine I.set j oj u ?_ t ht;rw[getD_set_ne false e]at hm;exact hm
   ·have y:o.dst≠some t:=fun e=>by
     have:=D1s.1 ht o x;rw[e]at this;simp at this
    have hp:F.put o.dst (vals i) t=F t:=by
     cases z:o.dst with
     |none=>rfl
     |some s=>
      have:s≠t:=fun e=>y (by rw[z,e]);simp[FEnv.put,this]
    rw[hp];exact I.els t ht
   ·cases q:o.dst<;>simp[Act.put,hst.size]
   ·cases q:o.dst<;>simp[Act.put,hst.defers]
   ·have old: ∀s,R w' B (F s) (a.eval (.tmp s)):=fun s=>(hst.env s).mono hE (fun k hk hn=>k3 k (hF k hk hn));cases q:o.dst with
    |none=>exact old s
    |some t=>
     have ht:=hd o x t q;simp only[FEnv.put];by_cases A:t=s
     ·subst A;rw[if_pos rfl];have:(a.put (some t) v).eval (.tmp t)=v:=by
       have h':t<a.tmps.size:=by rw[hst.size];exact ht
       simp[Act.eval,Act.put,h']
      rw[this];exact k1
     ·rw[if_neg A];have:(a.put (some t) v).eval (.tmp s)=a.eval (.tmp s):=by
       simp[Act.eval,Act.put,D1v A]
      rw[this];exact old s
def C39(ops:Array Oper):Bool:=(List.range ops.size).all fun i=>(List.range ops.size).all fun j=>i==j||((ops[i]?.bind (·.dst)).isNone||(ops[i]?.bind (·.dst)) != (ops[j]?.bind (·.dst)))
def B7Q(ops:Array Oper):Bool:=(List.range ops.size).all fun i=>match ops[i]? with
 |some o=>(K6 o).all fun d=>decide (d<i)
 |none=>true
theorem C0E(ht:B7Q ops=true): ∀l:Array Bool,l.size=ops.size→Region.ready .any ops l= []→∀i,i<ops.size→l.getD i false=true:=by
 intro l hs j i
 induction i using Nat.strongRecOn with
 |_ i m=>
  intro h;cases hc:l.getD i false with
  |true=>rfl
  |false=>
   exfalso;have ho:ops[i]? =some ops[i]:=Array.getElem?_eq_getElem h;have h1:=D1s.1 ht i (List.mem_range.2 h);rw[ho]at h1;have o:l.getD i true=false:=by
    have:i<l.size:=by omega
    simp[this]at hc⊢;exact hc
   have:=A6g o ho fun d hd=>by
    have:=D1s.1 h1 d hd;simp only[D1d]at this;exact m d this (by omega)
   rw[j]at this;cases this
theorem A3C{f:Nat}{fn:Func}{c:Code}{id:Nat}{args:List D}{H:Heap}{Q:D→Heap→Prop}(hm:P.follows .mixedOrders=true)(hf:P.funcs[f]? =some fn)(hb:fn.body=some (.seq c (.seq (.region id ops true) .ret)))(T:A1n P f=true)(hn:args.length≤fn.ntmps)
  (i t:Nat) (U:fn.results= #[.tmp t]) (M:(ops[i]?.map (·.dst))=some (some t)) (V:N6 P [] fn.ntmps c=true) (hd:(ops.toList.all fun o=>match o.dst with|some t=>decide (t<fn.ntmps)|none=>true)=true) (y:C39 ops=true) (z:B7Q ops=true)
  (h:wp P [] c (fun x E H'=>x= .normal∧∃vals:Nat→D,B08 P ops vals H' E.get∧Fin Q (vals i) H') (V7 0 args) H):ACalls P f args H Q:=by
 refine⟨T,fun w vs hl hR hs=>calls_of_wp hf hb ?_⟩;have hst:St fn.ntmps w H (V7 0 args) H {tmps:=vs++Array.replicate (fn.ntmps-vs.size) undef,defers:=[]} w:=by
  refine⟨by simp;omega,rfl,fun i=>?_,hs,D2p _ _,D2o _ _⟩;rw[z8,if_pos (D1c _),Nat.sub_zero];cases M:args[i]? with
  |none=>exact .undef _
  |some d=>
   have b4:=(D1R.1 M).1;have:({tmps:=vs++Array.replicate (fn.ntmps-vs.size) undef,defers:=[]}:Act).eval (.tmp i)=vs.getD i undef:=by
    simp only[Act.eval];exact G3 (by omega)
   rw[this];exact hR i d M
 refine Go.wp_seq (Go.wp_mono (z7 hm c _ _ _ _ _ V h hst) fun e a w' he=>?_);cases e with
 |normal=>
  obtain⟨E,H',m,_,vals,hq,q⟩:=he;refine Go.wp_seq (wp_region_any hm ?_);have he:Ext H' w' {w' with drawn:=w'.drawn+1}:=Ext.drewN H' w' 1;have W:=m.sat.same (w':={w' with drawn:=w'.drawn+1}) rfl he;refine B40 (N:=fn.ntmps) (w0:=w) (H0:=H) (B:=H') (vals:=vals) (E0:=E.get) (fun o ho t ht=>?_) (fun i j oi oj A G t X Y=>?_) hq (C0E z) (fun F a1 w1 p I=>?_) ops.size _ E.get a _ ?_ ⟨by simp,fun j oj hj hm=>?_,fun _ _=>rfl⟩ ⟨m.size,m.defers,fun i=>(m.env i).mono he (D2o _ _),W,m.ext.trans m.frm he,m.frm⟩
  ·have:=D1s.1 hd o ho;rw[ht]at this;simpa using this
  ·have a0:=(D1g.1 A).1;have a6:=(D1g.1 G).1;have:=D1s.1 (D1s.1 y i (List.mem_range.2 a0)) j (List.mem_range.2 a6);rw[A,G]at this;simp only[D1l,X,Y,Option.isNone_some,bne_self_eq_false,Bool.or_self,Bool.or_false,beq_iff_eq]at this;exact this
  ·obtain⟨o,ho,a9⟩:=D1Q.1 M;have hF:F t=vals i:=I.set i o ho (by
    have:=(D1g.1 ho).1;simp[this]) t a9
   unfold Fin at q;obtain⟨H2,u,b0,q⟩:=q;have J:St fn.ntmps w H [(t,vals i)] H' a1 w1:=⟨p.size,p.defers,fun j=>by
    by_cases e:t=j
    ·subst e;have:Env.get [(t,vals i)] t=vals i:=by simp[Env.get]
     rw[this,←hF];exact p.env t
    ·have:Env.get [(t,vals i)] j= .undef:=by simp[Env.get,e]
     rw[this];exact .undef _,p.sat,p.ext,p.frm⟩
   refine Go.wp_mono (z7 (P:=P) (Z:=[]) hm .ret (A8f P fn.results.toList Q) _ _ _ _ rfl ⟨vals i,by rw[U];simp[A2x,A0T,Env.get],H2,u,b0,q⟩ J) fun x a w' he=>?_
   have fin: ∀(x:AX) (E:Env) (H':Heap) (a:Act) (w':World),(x= .normal∨x= .ret)→St fn.ntmps w H E H' a w'→A8f P fn.results.toList Q x E H'→
     a.defers= []∧∃v,(results fn a.tmps).run P w'= .ok v w'∧∃v',Ending.returned v= .returned v'∧Post H w Q v' w':=by
    intro x E H' a w' hx m hq;have b1: ∃r,A2x P fn.results.toList E H'=some r∧∃O u,Shift H' r O u∧Q u O:=by rcases hx with rfl|rfl<;>exact hq
    obtain⟨r,hr,O,u,b2,q⟩:=b1;obtain⟨v,hv,b3⟩:=A2P (P:=P) m hr;obtain⟨k1,k2,k3⟩:=b2 _ _ b3 m.sat;exact⟨m.defers,v,hv,v,rfl,u,O,k1,k2,m.ext,fun k hk hn=>k3 k (m.frm k hk hn),q⟩
   cases x with
   |normal=>obtain⟨E,H',m,hq⟩:=he;exact fin .normal E H' a w' (.inl rfl) m hq
   |ret=>obtain⟨E,H',m,hq⟩:=he;exact fin .ret E H' a w' (.inr rfl) m hq
   |exit id=>obtain⟨E,H',m,hq⟩:=he;exact hq.elim
   |_=>exact he.elim
  ·have: ∀n:Nat,((Array.replicate n false).toList.filter (!·)).length≤n:=fun n=>by simp
   exact this _
  ·rw[show (Array.replicate ops.size false).getD j false=false by simp[Array.getElem?_replicate];split<;>simp]at hm;cases hm
 |exit id=>obtain⟨E,H',m,hq⟩:=he;exact absurd hq.1 (by simp)
 |ret=>obtain⟨E,H',m,hq⟩:=he;exact absurd hq.1 (by simp)
 |_=>exact he.elim
end
end Go.Av
namespace Go.Proofs.YtibphjonmikciaaGreatDoor
open Go Go.Av
noncomputable def svOps:Array Oper:=match Tryz.f73.body with|some (.seq _ (.seq (.region _ ops _) _))=>ops|_=> #[]
theorem C4A{vals:Nat→D}{B:Av.Heap}{E0:FEnv}
  (y: ∀ev:Operand→D,EvC ev→Av.C9 Tryz.prog ev B (Av.Fin fun d H=>d=vals 0∧H=B) (Go.Op.makeMap 72 none))
  (h1: ∀ev:Operand→D,EvC ev→ev (.tmp 5)=vals 0→Av.C9 Tryz.prog ev B (Av.Fin fun d H=>d=vals 1∧H=B) (Go.Op.build 150 #[(1,(Go.Operand.tmp 5))]))
  (z: ∀ev:Operand→D,EvC ev→ev (.tmp 1)=E0 1→Av.C9 Tryz.prog ev B (Av.Fin fun d H=>d=vals 2∧H=B) (Go.Op.move (Go.Operand.tmp 1)))
  (A: ∀ev:Operand→D,EvC ev→ev (.tmp 6)=vals 1→ev (.tmp 7)=vals 2→Av.C9 Tryz.prog ev B (Av.Fin fun d H=>d=vals 3∧H=B) (Go.Op.call {callee:=(Go.Callee.value (Go.Operand.func 123)),args:= #[(Go.Operand.tmp 6),(Go.Operand.tmp 7)],argTypes:= #[150,110]}))
  (G: ∀ev:Operand→D,EvC ev→ev (.tmp 2)=E0 2→Av.C9 Tryz.prog ev B (Av.Fin fun d H=>d=vals 4∧H=B) (Go.Op.load 28 (Go.Operand.tmp 2)))
  (h5: ∀ev:Operand→D,EvC ev→ev (.tmp 9)=vals 4→Av.C9 Tryz.prog ev B (Av.Fin fun d H=>d=vals 5∧H=B) (Go.Op.call {callee:=(Go.Callee.value (Go.Operand.func 50)),args:= #[(Go.Operand.tmp 9),(Go.Operand.const (Go.Value.bool false))],argTypes:= #[28,4]}))
  (I: ∀ev:Operand→D,EvC ev→ev (.tmp 10)=vals 5→Av.C9 Tryz.prog ev B (Av.Fin fun d H=>d=vals 6∧H=B) (Go.Op.buildSlice 26 1 #[(0,(Go.Operand.tmp 10))]))
  (J: ∀ev:Operand→D,EvC ev→ev (.tmp 8)=vals 3→ev (.tmp 11)=vals 6→Av.C9 Tryz.prog ev B (Av.Fin fun d H=>d=vals 7∧H=B) (Go.Op.call {callee:=(Go.Callee.value (Go.Operand.func 124)),args:= #[(Go.Operand.tmp 8),(Go.Operand.tmp 11)],argTypes:= #[150,26]}))
  (M: ∀ev:Operand→D,EvC ev→ev (.tmp 12)=vals 7→Av.C9 Tryz.prog ev B (Av.Fin fun d H=>d=vals 8∧H=B) (Go.Op.assign (Go.Operand.tmp 12)))
  :B08 Tryz.prog svOps vals B E0:=by
 obtain⟨O,h,T,U,V,w0⟩: ∃o,svOps[0]? =some o∧o.dst=some 5∧o.op=(Go.Op.makeMap 72 none)∧o.guard=none∧(∀j∈([]:List Nat),j∈K6 o):=⟨_,rfl,rfl,rfl,rfl,by simp⟩
 obtain⟨W,o1,d1,X,Y,w1⟩: ∃o,svOps[1]? =some o∧o.dst=some 6∧o.op=(Go.Op.build 150 #[(1,(Go.Operand.tmp 5))])∧o.guard=none∧(∀j∈([0]:List Nat),j∈K6 o):=⟨_,rfl,rfl,rfl,rfl,by decide+kernel⟩
 obtain⟨x2,o2,d2,p2,g2,w2⟩: ∃o,svOps[2]? =some o∧o.dst=some 7∧o.op=(Go.Op.move (Go.Operand.tmp 1))∧o.guard=none∧(∀j∈([]:List Nat),j∈K6 o):=⟨_,rfl,rfl,rfl,rfl,by simp⟩
 obtain⟨x3,o3,d3,p3,g3,m⟩: ∃o,svOps[3]? =some o∧o.dst=some 8∧o.op=(Go.Op.call {callee:=(Go.Callee.value (Go.Operand.func 123)),args:= #[(Go.Operand.tmp 6),(Go.Operand.tmp 7)],argTypes:= #[150,110]})∧o.guard=none∧(∀j∈([1,2]:List Nat),j∈K6 o):=⟨_,rfl,rfl,rfl,rfl,by decide+kernel⟩
 obtain⟨x4,p,d4,p4,g4,w4⟩: ∃o,svOps[4]? =some o∧o.dst=some 9∧o.op=(Go.Op.load 28 (Go.Operand.tmp 2))∧o.guard=none∧(∀j∈([]:List Nat),j∈K6 o):=⟨_,rfl,rfl,rfl,rfl,by simp⟩
 obtain⟨x5,q,d5,p5,g5,w5⟩: ∃o,svOps[5]? =some o∧o.dst=some 10∧o.op=(Go.Op.call {callee:=(Go.Callee.value (Go.Operand.func 50)),args:= #[(Go.Operand.tmp 9),(Go.Operand.const (Go.Value.bool false))],argTypes:= #[28,4]})∧o.guard=none∧(∀j∈([4]:List Nat),j∈K6 o):=⟨_,rfl,rfl,rfl,rfl,by decide+kernel⟩
 obtain⟨x6,r,d6,p6,g6,w6⟩: ∃o,svOps[6]? =some o∧o.dst=some 11∧o.op=(Go.Op.buildSlice 26 1 #[(0,(Go.Operand.tmp 10))])∧o.guard=none∧(∀j∈([5]:List Nat),j∈K6 o):=⟨_,rfl,rfl,rfl,rfl,by decide+kernel⟩
 obtain⟨x7,u,d7,p7,g7,x⟩: ∃o,svOps[7]? =some o∧o.dst=some 12∧o.op=(Go.Op.call {callee:=(Go.Callee.value (Go.Operand.func 124)),args:= #[(Go.Operand.tmp 8),(Go.Operand.tmp 11)],argTypes:= #[150,26]})∧o.guard=none∧(∀j∈([3,6]:List Nat),j∈K6 o):=⟨_,rfl,rfl,rfl,rfl,by decide+kernel⟩
 obtain⟨x8,o8,d8,p8,g8,w8⟩: ∃o,svOps[8]? =some o∧o.dst=some 4∧o.op=(Go.Op.assign (Go.Operand.tmp 12))∧o.guard=none∧(∀j∈([7]:List Nat),j∈K6 o):=⟨_,rfl,rfl,rfl,rfl,by decide+kernel⟩
 have hs:svOps.size=9:=by kernel_rfl
 have n1:(svOps.toList.all fun oj=>oj.dst != some 1)=true:=by kernel_rfl
 have n2:(svOps.toList.all fun oj=>oj.dst != some 2)=true:=by kernel_rfl
 generalize svOps=ops at*;intro i o ho;have hi:i<9:=by have:=(D1g.1 ho).1;omega
 match i,hi with
 |0,_=>
  rw[h]at ho;cases ho;exact⟨V,fun F hd he=>by rw[U];exact y F.ev ⟨fun _=>rfl,fun _=>rfl⟩⟩
 |1,_=>
  rw[o1]at ho;cases ho;exact⟨Y,fun F hd he=>by rw[X];exact h1 F.ev ⟨fun _=>rfl,fun _=>rfl⟩ (hd 0 O h (w1 0 (by simp)) 5 T)⟩
 |2,_=>
  rw[o2]at ho;cases ho;exact⟨g2,fun F hd he=>by rw[p2];exact z F.ev ⟨fun _=>rfl,fun _=>rfl⟩ (he 1 n1)⟩
 |3,_=>
  rw[o3]at ho;cases ho;exact⟨g3,fun F hd he=>by rw[p3];exact A F.ev ⟨fun _=>rfl,fun _=>rfl⟩ (hd 1 W o1 (m 1 (by simp)) 6 d1) (hd 2 x2 o2 (m 2 (by simp)) 7 d2)⟩
 |4,_=>
  rw[p]at ho;cases ho;exact⟨g4,fun F hd he=>by rw[p4];exact G F.ev ⟨fun _=>rfl,fun _=>rfl⟩ (he 2 n2)⟩
 |5,_=>
  rw[q]at ho;cases ho;exact⟨g5,fun F hd he=>by rw[p5];exact h5 F.ev ⟨fun _=>rfl,fun _=>rfl⟩ (hd 4 x4 p (w5 4 (by simp)) 9 d4)⟩
 |6,_=>
  rw[r]at ho;cases ho;exact⟨g6,fun F hd he=>by rw[p6];exact I F.ev ⟨fun _=>rfl,fun _=>rfl⟩ (hd 5 x5 q (w6 5 (by simp)) 10 d5)⟩
 |7,_=>
  rw[u]at ho;cases ho;exact⟨g7,fun F hd he=>by rw[p7];exact J F.ev ⟨fun _=>rfl,fun _=>rfl⟩ (hd 3 x3 o3 (x 3 (by simp)) 8 d3) (hd 6 x6 r (x 6 (by simp)) 11 d6)⟩
 |8,_=>
  rw[o8]at ho;cases ho;exact⟨g8,fun F hd he=>by rw[p8];exact M F.ev ⟨fun _=>rfl,fun _=>rfl⟩ (hd 7 x7 u (w8 7 (by simp)) 12 d7)⟩
noncomputable def chOps:Array Oper:=match Tryz.f195.body with|some (.seq _ (.seq (.region _ ops _) _))=>ops|_=> #[]
theorem C4B{vals:Nat→D}{B:Av.Heap}{E0:FEnv}
  (u: ∀ev:Operand→D,EvC ev→ev (.tmp 1)=E0 1→Av.C9 Tryz.prog ev B (Av.Fin fun d H=>d=vals 0∧H=B) (Go.Op.load 150 (Go.Operand.tmp 1)))
  (h1: ∀ev:Operand→D,EvC ev→ev (.tmp 3)=E0 3→Av.C9 Tryz.prog ev B (Av.Fin fun d H=>d=vals 1∧H=B) (Go.Op.load 28 (Go.Operand.tmp 3)))
  (x: ∀ev:Operand→D,EvC ev→ev (.tmp 6)=vals 1→Av.C9 Tryz.prog ev B (Av.Fin fun d H=>d=vals 2∧H=B) (Go.Op.buildSlice 26 1 #[(0,(Go.Operand.tmp 6))]))
  (y: ∀ev:Operand→D,EvC ev→ev (.tmp 2)=E0 2→Av.C9 Tryz.prog ev B (Av.Fin fun d H=>d=vals 3∧H=B) (Go.Op.load 26 (Go.Operand.tmp 2)))
  (z: ∀ev:Operand→D,EvC ev→ev (.tmp 7)=vals 2→ev (.tmp 8)=vals 3→Av.C9 Tryz.prog ev B (Av.Fin fun d H=>d=vals 4∧H=B) (Go.Op.buildSlice 210 2 #[(0,(Go.Operand.tmp 7)),(1,(Go.Operand.tmp 8))]))
  (h5: ∀ev:Operand→D,EvC ev→ev (.tmp 9)=vals 4→Av.C9 Tryz.prog ev B (Av.Fin fun d H=>d=vals 5∧H=B) (Go.Op.call {callee:=(Go.Callee.value (Go.Operand.func 153)),args:= #[(Go.Operand.tmp 9)],argTypes:= #[210]}))
  (A: ∀ev:Operand→D,EvC ev→ev (.tmp 5)=vals 0→ev (.tmp 10)=vals 5→Av.C9 Tryz.prog ev B (Av.Fin fun d H=>d=vals 6∧H=B) (Go.Op.call {callee:=(Go.Callee.value (Go.Operand.func 124)),args:= #[(Go.Operand.tmp 5),(Go.Operand.tmp 10)],argTypes:= #[150,26]}))
  (G: ∀ev:Operand→D,EvC ev→ev (.tmp 11)=vals 6→Av.C9 Tryz.prog ev B (Av.Fin fun d H=>d=vals 7∧H=B) (Go.Op.assign (Go.Operand.tmp 11)))
  :B08 Tryz.prog chOps vals B E0:=by
 obtain⟨I,h,J,M,O,w0⟩: ∃o,chOps[0]? =some o∧o.dst=some 5∧o.op=(Go.Op.load 150 (Go.Operand.tmp 1))∧o.guard=none∧(∀j∈([]:List Nat),j∈K6 o):=⟨_,rfl,rfl,rfl,rfl,by simp⟩
 obtain⟨T,o1,d1,U,V,w1⟩: ∃o,chOps[1]? =some o∧o.dst=some 6∧o.op=(Go.Op.load 28 (Go.Operand.tmp 3))∧o.guard=none∧(∀j∈([]:List Nat),j∈K6 o):=⟨_,rfl,rfl,rfl,rfl,by simp⟩
 obtain⟨W,o2,X,Y,g2,w2⟩: ∃o,chOps[2]? =some o∧o.dst=some 7∧o.op=(Go.Op.buildSlice 26 1 #[(0,(Go.Operand.tmp 6))])∧o.guard=none∧(∀j∈([1]:List Nat),j∈K6 o):=⟨_,rfl,rfl,rfl,rfl,by decide+kernel⟩
 obtain⟨x3,o3,d3,p3,g3,w3⟩: ∃o,chOps[3]? =some o∧o.dst=some 8∧o.op=(Go.Op.load 26 (Go.Operand.tmp 2))∧o.guard=none∧(∀j∈([]:List Nat),j∈K6 o):=⟨_,rfl,rfl,rfl,rfl,by simp⟩
 obtain⟨x4,m,d4,p4,g4,p⟩: ∃o,chOps[4]? =some o∧o.dst=some 9∧o.op=(Go.Op.buildSlice 210 2 #[(0,(Go.Operand.tmp 7)),(1,(Go.Operand.tmp 8))])∧o.guard=none∧(∀j∈([2,3]:List Nat),j∈K6 o):=⟨_,rfl,rfl,rfl,rfl,by decide+kernel⟩
 obtain⟨x5,q,d5,p5,g5,w5⟩: ∃o,chOps[5]? =some o∧o.dst=some 10∧o.op=(Go.Op.call {callee:=(Go.Callee.value (Go.Operand.func 153)),args:= #[(Go.Operand.tmp 9)],argTypes:= #[210]})∧o.guard=none∧(∀j∈([4]:List Nat),j∈K6 o):=⟨_,rfl,rfl,rfl,rfl,by decide+kernel⟩
 obtain⟨x6,r,d6,p6,g6,w6⟩: ∃o,chOps[6]? =some o∧o.dst=some 11∧o.op=(Go.Op.call {callee:=(Go.Callee.value (Go.Operand.func 124)),args:= #[(Go.Operand.tmp 5),(Go.Operand.tmp 10)],argTypes:= #[150,26]})∧o.guard=none∧(∀j∈([0,5]:List Nat),j∈K6 o):=⟨_,rfl,rfl,rfl,rfl,by decide+kernel⟩
 obtain⟨x7,o7,d7,p7,g7,w7⟩: ∃o,chOps[7]? =some o∧o.dst=some 4∧o.op=(Go.Op.assign (Go.Operand.tmp 11))∧o.guard=none∧(∀j∈([6]:List Nat),j∈K6 o):=⟨_,rfl,rfl,rfl,rfl,by decide+kernel⟩
 have hs:chOps.size=8:=by kernel_rfl
 have n1:(chOps.toList.all fun oj=>oj.dst != some 1)=true:=by kernel_rfl
 have n2:(chOps.toList.all fun oj=>oj.dst != some 2)=true:=by kernel_rfl
 have n3:(chOps.toList.all fun oj=>oj.dst != some 3)=true:=by kernel_rfl
 generalize chOps=ops at*;intro i o ho;have hi:i<8:=by have:=(D1g.1 ho).1;omega
 match i,hi with
 |0,_=>
  rw[h]at ho;cases ho;exact⟨O,fun F hd he=>by rw[M];exact u F.ev ⟨fun _=>rfl,fun _=>rfl⟩ (he 1 n1)⟩
 |1,_=>
  rw[o1]at ho;cases ho;exact⟨V,fun F hd he=>by rw[U];exact h1 F.ev ⟨fun _=>rfl,fun _=>rfl⟩ (he 3 n3)⟩
 |2,_=>
  rw[o2]at ho;cases ho;exact⟨g2,fun F hd he=>by rw[Y];exact x F.ev ⟨fun _=>rfl,fun _=>rfl⟩ (hd 1 T o1 (w2 1 (by simp)) 6 d1)⟩
 |3,_=>
  rw[o3]at ho;cases ho;exact⟨g3,fun F hd he=>by rw[p3];exact y F.ev ⟨fun _=>rfl,fun _=>rfl⟩ (he 2 n2)⟩
 |4,_=>
  rw[m]at ho;cases ho;exact⟨g4,fun F hd he=>by rw[p4];exact z F.ev ⟨fun _=>rfl,fun _=>rfl⟩ (hd 2 W o2 (p 2 (by simp)) 7 X) (hd 3 x3 o3 (p 3 (by simp)) 8 d3)⟩
 |5,_=>
  rw[q]at ho;cases ho;exact⟨g5,fun F hd he=>by rw[p5];exact h5 F.ev ⟨fun _=>rfl,fun _=>rfl⟩ (hd 4 x4 m (w5 4 (by simp)) 9 d4)⟩
 |6,_=>
  rw[r]at ho;cases ho;exact⟨g6,fun F hd he=>by rw[p6];exact A F.ev ⟨fun _=>rfl,fun _=>rfl⟩ (hd 0 I h (w6 0 (by simp)) 5 J) (hd 5 x5 q (w6 5 (by simp)) 10 d5)⟩
 |7,_=>
  rw[o7]at ho;cases ho;exact⟨g7,fun F hd he=>by rw[p7];exact G F.ev ⟨fun _=>rfl,fun _=>rfl⟩ (hd 6 x6 r (w7 6 (by simp)) 11 d6)⟩
noncomputable def foOps:Array Oper:=match Tryz.f84.body with|some (.seq _ (.seq (.region _ ops _) _))=>ops|_=> #[]
theorem C4C{vals:Nat→D}{B:Av.Heap}{E0:FEnv}
  (u: ∀ev:Operand→D,EvC ev→ev (.tmp 2)=E0 2→Av.C9 Tryz.prog ev B (Av.Fin fun d H=>d=vals 0∧H=B) (Go.Op.load 28 (Go.Operand.tmp 2)))
  (h1: ∀ev:Operand→D,EvC ev→ev (.tmp 3)=E0 3→Av.C9 Tryz.prog ev B (Av.Fin fun d H=>d=vals 1∧H=B) (Go.Op.load 28 (Go.Operand.tmp 3)))
  (x: ∀ev:Operand→D,EvC ev→ev (.tmp 6)=vals 1→Av.C9 Tryz.prog ev B (Av.Fin fun d H=>d=vals 2∧H=B) (Go.Op.call {callee:=(Go.Callee.value (Go.Operand.func 50)),args:= #[(Go.Operand.tmp 6),(Go.Operand.const (Go.Value.bool true))],argTypes:= #[28,4]}))
  (y: ∀ev:Operand→D,EvC ev→ev (.tmp 5)=vals 0→ev (.tmp 7)=vals 2→Av.C9 Tryz.prog ev B (Av.Fin fun d H=>d=vals 3∧H=B) (Go.Op.buildSlice 26 2 #[(0,(Go.Operand.tmp 5)),(1,(Go.Operand.tmp 7))]))
  (z: ∀ev:Operand→D,EvC ev→ev (.tmp 8)=vals 3→Av.C9 Tryz.prog ev B (Av.Fin fun d H=>d=vals 4∧H=B) (Go.Op.build 28 #[(0,(Go.Operand.const (Go.Value.int Go.IntKind.i64 5))),(4,(Go.Operand.tmp 8))]))
  (h5: ∀ev:Operand→D,EvC ev→ev (.tmp 9)=vals 4→Av.C9 Tryz.prog ev B (Av.Fin fun d H=>d=vals 5∧H=B) (Go.Op.call {callee:=(Go.Callee.value (Go.Operand.func 73)),args:= #[(Go.Operand.tmp 9),(Go.Operand.const (Go.Value.slice none 0 0))],argTypes:= #[28,110]}))
  (A: ∀ev:Operand→D,EvC ev→ev (.tmp 10)=vals 5→Av.C9 Tryz.prog ev B (Av.Fin fun d H=>d=vals 6∧H=B) (Go.Op.unOp Go.UnOp.not 4 (Go.Operand.tmp 10)))
  (G: ∀ev:Operand→D,EvC ev→ev (.tmp 11)=vals 6→Av.C9 Tryz.prog ev B (Av.Fin fun d H=>d=vals 7∧H=B) (Go.Op.assign (Go.Operand.tmp 11)))
  :B08 Tryz.prog foOps vals B E0:=by
 obtain⟨I,h,J,M,O,w0⟩: ∃o,foOps[0]? =some o∧o.dst=some 5∧o.op=(Go.Op.load 28 (Go.Operand.tmp 2))∧o.guard=none∧(∀j∈([]:List Nat),j∈K6 o):=⟨_,rfl,rfl,rfl,rfl,by simp⟩
 obtain⟨T,o1,d1,U,V,w1⟩: ∃o,foOps[1]? =some o∧o.dst=some 6∧o.op=(Go.Op.load 28 (Go.Operand.tmp 3))∧o.guard=none∧(∀j∈([]:List Nat),j∈K6 o):=⟨_,rfl,rfl,rfl,rfl,by simp⟩
 obtain⟨W,o2,X,Y,g2,w2⟩: ∃o,foOps[2]? =some o∧o.dst=some 7∧o.op=(Go.Op.call {callee:=(Go.Callee.value (Go.Operand.func 50)),args:= #[(Go.Operand.tmp 6),(Go.Operand.const (Go.Value.bool true))],argTypes:= #[28,4]})∧o.guard=none∧(∀j∈([1]:List Nat),j∈K6 o):=⟨_,rfl,rfl,rfl,rfl,by decide+kernel⟩
 obtain⟨x3,o3,d3,p3,g3,m⟩: ∃o,foOps[3]? =some o∧o.dst=some 8∧o.op=(Go.Op.buildSlice 26 2 #[(0,(Go.Operand.tmp 5)),(1,(Go.Operand.tmp 7))])∧o.guard=none∧(∀j∈([0,2]:List Nat),j∈K6 o):=⟨_,rfl,rfl,rfl,rfl,by decide+kernel⟩
 obtain⟨x4,p,d4,p4,g4,w4⟩: ∃o,foOps[4]? =some o∧o.dst=some 9∧o.op=(Go.Op.build 28 #[(0,(Go.Operand.const (Go.Value.int Go.IntKind.i64 5))),(4,(Go.Operand.tmp 8))])∧o.guard=none∧(∀j∈([3]:List Nat),j∈K6 o):=⟨_,rfl,rfl,rfl,rfl,by decide+kernel⟩
 obtain⟨x5,q,d5,p5,g5,w5⟩: ∃o,foOps[5]? =some o∧o.dst=some 10∧o.op=(Go.Op.call {callee:=(Go.Callee.value (Go.Operand.func 73)),args:= #[(Go.Operand.tmp 9),(Go.Operand.const (Go.Value.slice none 0 0))],argTypes:= #[28,110]})∧o.guard=none∧(∀j∈([4]:List Nat),j∈K6 o):=⟨_,rfl,rfl,rfl,rfl,by decide+kernel⟩
 obtain⟨x6,r,d6,p6,g6,w6⟩: ∃o,foOps[6]? =some o∧o.dst=some 11∧o.op=(Go.Op.unOp Go.UnOp.not 4 (Go.Operand.tmp 10))∧o.guard=none∧(∀j∈([5]:List Nat),j∈K6 o):=⟨_,rfl,rfl,rfl,rfl,by decide+kernel⟩
 obtain⟨x7,o7,d7,p7,g7,w7⟩: ∃o,foOps[7]? =some o∧o.dst=some 4∧o.op=(Go.Op.assign (Go.Operand.tmp 11))∧o.guard=none∧(∀j∈([6]:List Nat),j∈K6 o):=⟨_,rfl,rfl,rfl,rfl,by decide+kernel⟩
 have hs:foOps.size=8:=by kernel_rfl
 have n2:(foOps.toList.all fun oj=>oj.dst != some 2)=true:=by kernel_rfl
 have n3:(foOps.toList.all fun oj=>oj.dst != some 3)=true:=by kernel_rfl
 generalize foOps=ops at*;intro i o ho;have hi:i<8:=by have:=(D1g.1 ho).1;omega
 match i,hi with
 |0,_=>
  rw[h]at ho;cases ho;exact⟨O,fun F hd he=>by rw[M];exact u F.ev ⟨fun _=>rfl,fun _=>rfl⟩ (he 2 n2)⟩
 |1,_=>
  rw[o1]at ho;cases ho;exact⟨V,fun F hd he=>by rw[U];exact h1 F.ev ⟨fun _=>rfl,fun _=>rfl⟩ (he 3 n3)⟩
 |2,_=>
  rw[o2]at ho;cases ho;exact⟨g2,fun F hd he=>by rw[Y];exact x F.ev ⟨fun _=>rfl,fun _=>rfl⟩ (hd 1 T o1 (w2 1 (by simp)) 6 d1)⟩
 |3,_=>
  rw[o3]at ho;cases ho;exact⟨g3,fun F hd he=>by rw[p3];exact y F.ev ⟨fun _=>rfl,fun _=>rfl⟩ (hd 0 I h (m 0 (by simp)) 5 J) (hd 2 W o2 (m 2 (by simp)) 7 X)⟩
 |4,_=>
  rw[p]at ho;cases ho;exact⟨g4,fun F hd he=>by rw[p4];exact z F.ev ⟨fun _=>rfl,fun _=>rfl⟩ (hd 3 x3 o3 (w4 3 (by simp)) 8 d3)⟩
 |5,_=>
  rw[q]at ho;cases ho;exact⟨g5,fun F hd he=>by rw[p5];exact h5 F.ev ⟨fun _=>rfl,fun _=>rfl⟩ (hd 4 x4 p (w5 4 (by simp)) 9 d4)⟩
 |6,_=>
  rw[r]at ho;cases ho;exact⟨g6,fun F hd he=>by rw[p6];exact A F.ev ⟨fun _=>rfl,fun _=>rfl⟩ (hd 5 x5 q (w6 5 (by simp)) 10 d5)⟩
 |7,_=>
  rw[o7]at ho;cases ho;exact⟨g7,fun F hd he=>by rw[p7];exact G F.ev ⟨fun _=>rfl,fun _=>rfl⟩ (hd 6 x6 r (w7 6 (by simp)) 11 d6)⟩
end Go.Proofs.YtibphjonmikciaaGreatDoor
namespace Go.Proofs.YtibphjonmikciaaGreatDoor
open Go Go.Shelf Go.RowKit Go.Maps
set_option maxHeartbeats 2000000 in
set_option maxRecDepth 100000 in
theorem A2o(b:Nat)(es:Array MapEntry)(h:Nat)(w:World)(hb:w.heap[b]? =some (.map es h)):
  Calls Tryz.prog 125 #[.map (some b)] w fun e w'=>e= .returned (.map (some w.heap.size))∧w'=w.alloc (.map es h):=by
 have j:Tryz.prog.follows .mixedOrders=true:=by kernel_rfl
 have y:=Tryz.underlying4;have a4:=Tryz.isAgg4;have z:=Tryz.sizeOf4;have v4:=Tryz.zeroValue4;have i:=Tryz.underlying72;have m:=Tryz.isAgg72;have o:=Tryz.sizeOf72;have p:=Tryz.zeroValue72;have q:=Tryz.underlying20;have r:=Tryz.isAgg20;have u:=Tryz.sizeOf20;have x:=Tryz.zeroValue20;have hq:=fun w=>run_eql_map_nil_sl (P:=Tryz.prog) w 72 _ _ (some b) i
 go_enter Tryz.func125,Tryz.ntmps125
 go_wp2
 rw[run_callFunc_extern Tryz.func156 (by kernel_rfl) (by kernel_rfl) (by kernel_rfl) (e:=Extern.MapsClone.clone) (by kernel_rfl),run_maps_clone_sl w 72 hb];simp only[Result.andThen];rw[Oper.upon_value]
 go_wp2
 rw[run_typeAssert_map_sl _ 72 20 _ _ _ i];simp only[Result.andThen];rw[Oper.upon_value]
 go_wp2
 go_ret
 exact⟨rfl,rfl⟩
open Go Go.Av
theorem A1a{Q}(kvs:List (D×D))(H:Av.Heap)(h: ∀b,H b=none→Q (.map b) (H.set b (.map kvs))):D7 125 [.fm kvs] H Q:=by
 refine⟨by kernel_rfl,fun w vs hl hr hs=>?_⟩;obtain⟨a,rfl,q⟩:=A1z hl hr;cases q with
 |fm _ b es ck hb hn hst hlen hk m o=>
  refine(A2o b es ck w hb).mono ?_;rintro e w' ⟨rfl,rfl⟩;have he:=Ext.alloc H w (.map es ck);have j:=N3 (H:=H) (D1b w.heap.size) (.map kvs);exact⟨_,rfl,.map w.heap.size,H.set w.heap.size (.map kvs),.map _,hs.update he j (fun k hk _=>Go.RowKit.Below.heap_alloc _ _ _ hk) ⟨es,ck,M1 w _,hst,hlen,fun i p hp=>⟨hk i p hp,(m i p hp).mono he j,(o i p hp).mono he j⟩⟩,he,j,h _ (hs.fresh (D1b _))⟩
theorem A2p{Q}(m:Nat)(kvs:List (D×D))(H:Av.Heap)(hm:H m=some (.map kvs))(h: ∀b,H b=none→Q (.map b) (H.set b (.map kvs))):D7 125 [.map m] H Q:=by
 refine⟨by kernel_rfl,fun w vs hl hr hs=>?_⟩;obtain⟨a,rfl,q⟩:=A1z hl hr;cases q;obtain⟨es,ck,hb,hst,hlen,j⟩:=hs m _ hm;refine(A2o m es ck w hb).mono ?_;rintro e w' ⟨rfl,rfl⟩;have he:=Ext.alloc H w (.map es ck);have o:=N3 (H:=H) (D1b w.heap.size) (.map kvs);exact⟨_,rfl,.map w.heap.size,H.set w.heap.size (.map kvs),.map _,hs.update he o (fun k hk _=>Go.RowKit.Below.heap_alloc _ _ _ hk) ⟨es,ck,M1 w _,hst,hlen,fun i p hp=>⟨(j i p hp).1,(j i p hp).2.1.mono he o,(j i p hp).2.2.mono he o⟩⟩,he,o,h _ (hs.fresh (D1b _))⟩
end Go.Proofs.YtibphjonmikciaaGreatDoor
namespace Go.Fo
open Go Go.Av Go.Lexs Go.Lin
def D5:ByteArray:=⟨#[]⟩
def zeroF:Fm:=.mk 0 0 nilL D5 []
def A3D(l:LinV):Fm:=.mk 2 0 l D5 []
def shL(l:LinV)(sg:Int):LinV:=⟨l.t.map fun t=>⟨t.v,sg*t.c⟩,sg*l.k-1,false⟩
def opL(l:LinV):Fm:=if l.e=true then .mk 6 0 nilL D5 [A3D (shL l 1),A3D (shL l (-1))]else A3D (shL l (-1))
def opO(o:Int)(b:Bool):Int:=if b=true then 11-o else o
def normF:Fm→Bool→Fm
 | .mk o n l s ks,b=>
  if o=1 then .mk o (if b=true then 1-n else n) l s ks
  else if o=2 then(if b=true then opL l else .mk o n l s ks)
  else if o=3 then(if b=true then .mk 4 0 nilL D5 [.mk o n l s ks]else .mk o n l s ks)
  else if o=4 then normH ks (!b)
  else .mk (opO o b) 0 nilL D5 (normK ks b)
where
 normH:List Fm→Bool→Fm
 | [],_=>zeroF
 |f::_,b=>normF f b
 normK:List Fm→Bool→List Fm
 | [],_=>[]
 |f::fs,b=>normF f b::normK fs b
theorem B7R(ks:List Fm)(b:Bool):normF.normK ks b=ks.map (normF · b):=by
 induction ks with
 |nil=>rfl
 |cons f fs h=>rw[normF.normK,h];rfl
theorem C17{f:Fm}(b:Bool)(h:f.op=1):normF f b= .mk 1 (if b=true then 1-f.n else f.n) f.l f.s f.ks:=by
 obtain⟨o,n,l,s,ks⟩:=f;simp only[Fm.op]at h;subst h;rw[normF,if_pos rfl];rfl
theorem C18{f:Fm}(b:Bool)(h:f.op=2):normF f b=if b=true then opL f.l else f:=by
 obtain⟨o,n,l,s,ks⟩:=f;simp only[Fm.op]at h;subst h;rw[normF,if_neg (by decide),if_pos rfl];rfl
theorem C19{f:Fm}(b:Bool)(h:f.op=3):normF f b=if b=true then .mk 4 0 nilL D5 [f]else f:=by
 obtain⟨o,n,l,s,ks⟩:=f;simp only[Fm.op]at h;subst h;rw[normF,if_neg (by decide),if_neg (by decide),if_pos rfl]
theorem C2A{f k:Fm}(b:Bool)(h:f.op=4)(hk:f.ks= [k]):normF f b=normF k (!b):=by
 obtain⟨o,n,l,s,ks⟩:=f;simp only[Fm.op]at h;simp only[Fm.ks]at hk;subst h;subst hk;rw[normF,if_neg (by decide),if_neg (by decide),if_neg (by decide),if_pos rfl];rfl
theorem B7S{f:Fm}(b:Bool)(h1:f.op≠1)(h:f.op≠2)(i:f.op≠3)(j:f.op≠4):normF f b= .mk (opO f.op b) 0 nilL D5 (f.ks.map (normF · b)):=by
 obtain⟨o,n,l,s,ks⟩:=f;simp only[Fm.op]at h1 h i j;rw[normF,if_neg h1,if_neg h,if_neg i,if_neg j,B7R];rfl
theorem A3u(l:LinV):B0N l=true↔l=nilL:=by
 obtain⟨t,k,e⟩:=l;unfold B0N nilL;simp only[D1U,D1d,Bool.not_eq_true',LinV.mk.injEq];exact and_assoc
theorem B3i{s:ByteArray}(h:s.size=0):s=D5:=by
 obtain⟨d⟩:=s;have:d= #[]:=Array.eq_empty_of_size_eq_zero h;subst this;rfl
inductive A49:Fm→Prop
 |con (n:Int) (h:n=0∨n=1):A49 (.mk 1 n nilL D5 [])
 |lin (l:LinV) (h:validL l=true) (hp: ∀t∈l.t,plainB t.v=true):A49 (.mk 2 0 l D5 [])
 |var (s:ByteArray) (h:plainB s=true):A49 (.mk 3 0 nilL s [])
 |not (k:Fm):A49 (.mk 4 0 nilL D5 [k])
 |and(ks:List Fm):A49 (.mk 5 0 nilL D5 ks)
 |or (ks:List Fm):A49 (.mk 6 0 nilL D5 ks)
theorem B7T{f:Fm}(h:E3 f=true):A49 f:=by
 unfold E3 at h;by_cases h1:f.op=1
 ·rw[if_pos h1]at h;obtain⟨o,n,l,s,ks⟩:=f;simp only[Fm.op,Fm.n,Fm.l,Fm.s,Fm.ks,D1U,D2e,List.isEmpty_iff]at h h1;obtain⟨⟨⟨hn,hs⟩,hl⟩,hk⟩:=h;have hn:n=0∨n=1:=hn.imp D1I D1I;rw[h1,B3i (D1I hs),(A3u l).1 hl,hk];exact .con n hn
 ·rw[if_neg h1]at h;by_cases i:f.op=2
  ·rw[if_pos i]at h;obtain⟨o,n,l,s,ks⟩:=f;simp only[Fm.op,Fm.n,Fm.l,Fm.s,Fm.ks,D1U,List.isEmpty_iff,D1s]at h i;obtain⟨⟨⟨⟨hn,hs⟩,hk⟩,hl⟩,hp⟩:=h;rw[i,show n=0 from D1I hn,B3i (D1I hs),hk];exact .lin l hl hp
  ·rw[if_neg i]at h;by_cases j:f.op=3
   ·rw[if_pos j]at h;obtain⟨o,n,l,s,ks⟩:=f;simp only[Fm.op,Fm.n,Fm.l,Fm.s,Fm.ks,D1U,List.isEmpty_iff]at h j;obtain⟨⟨⟨hn,hl⟩,hk⟩,hp⟩:=h;rw[j,show n=0 from D1I hn,(A3u l).1 hl,hk];exact .var s hp
   ·rw[if_neg j]at h;by_cases m:f.op=4
    ·rw[if_pos m]at h;obtain⟨o,n,l,s,ks⟩:=f;simp only[Fm.op,Fm.n,Fm.l,Fm.s,Fm.ks,D1U]at h m;obtain⟨⟨⟨hn,hs⟩,hl⟩,hk⟩:=h;obtain⟨k,rfl⟩:=List.length_eq_one_iff.1 (show ks.length=1 from D1I hk);rw[m,show n=0 from D1I hn,B3i (D1I hs),(A3u l).1 hl];exact .not k
    ·rw[if_neg m]at h;by_cases h5:f.op=5∨f.op=6
     ·rw[if_pos h5]at h;obtain⟨o,n,l,s,ks⟩:=f;simp only[Fm.op,Fm.n,Fm.l,Fm.s,Fm.ks,D1U]at h h5;obtain⟨⟨hn,hs⟩,hl⟩:=h;rw[show n=0 from D1I hn,B3i (D1I hs),(A3u l).1 hl];rcases h5 with rfl|rfl
      ·exact .and ks
      ·exact .or ks
     ·rw[if_neg h5]at h;cases h
theorem Z1{f:Fm}(h:J1 E3 f=true):A49 f:=by
 rw[A3o,D1U]at h;exact B7T h.1
theorem S7{f:Fm}{p:Fm→Bool}(h:J1 p f=true){k:Fm}(hk:k∈f.ks):J1 p k=true:=by
 rw[A3o,D1U,D1s]at h;exact h.2 k hk
def notF(f:Fm):Fm×Int:=if D8 f=true then(if D8 (normF f true)=true then(normF f true,0)else(zeroF,3))else(zeroF,2)
theorem M0{f:Fm}(h:D8 f=true):J1 E3 f=true:=by
 rw[A2a]at h;simp only[D1U]at h;exact h.1.1.1.1
theorem A3E{s:ByteArray}(h:I2 (B s)=true):s.size≤200:=by
 unfold I2 at h;simp only[D1U,D1d]at h;have:=h.1.1.2;simpa [B]using this
theorem B2W{l:LinV}(h:validL l=true)(i:Int)(hs:i=1∨i= -1):l4 (shL l i):=by
 have ok:=M4 h;refine⟨by unfold shL;simp only[D10];have:=ok.len;omega,fun t ht=>?_,fun t ht=>?_,?_⟩
 ·obtain⟨x,hx,rfl⟩:=D2F.1 (show t∈l.t.map _ from ht);have:=A3E (N1 ok.t x hx).1;show x.v.size≤_;omega
 ·obtain⟨x,hx,rfl⟩:=D2F.1 (show t∈l.t.map _ from ht);have:=(N1 ok.t x hx).2.2;show U3 (i*x.c);unfold U3;rcases hs with rfl|rfl<;>omega
 ·have:=ok.k;show U3 (i*l.k-1);unfold U3;rcases hs with rfl|rfl<;>omega
theorem u0:l4 nilL:=⟨by simp[nilL],by simp[nilL],by simp[nilL],by simp[nilL,U3]⟩
theorem A18{l:LinV}(h:l4 l):FmFit (A3D l):=.mk _ _ _ _ _ (by simp[U3]) (by simp[U3]) h (by decide) (by simp) (by simp)
theorem P7{o:Int}{ks:List Fm}(ho:U3 o)(hl:ks.length≤1466015503658)(h: ∀k∈ks,FmFit k):FmFit (.mk o 0 nilL D5 ks):=.mk _ _ _ _ _ ho (by simp[U3]) u0 (by decide) hl h
theorem A3v: ∀(f:Fm) (b:Bool),J1 E3 f=true→FmFit f→FmFit (normF f b)∧J9 (normF f b)≤3*J9 f:=by
 intro f
 induction f using O1 with
 |h o n l s ks q=>
  intro b y j;have hk: ∀k∈ks,J1 E3 k=true:=fun k hk=>S7 (f:=.mk o n l s ks) y hk;have r: ∀k∈ks,FmFit k:=fun k hk=>j.kid hk;have i: ∀(p:Int),p=5∨p=6→FmFit (normF (.mk p 0 nilL D5 ks) b)∧J9 (normF (.mk p 0 nilL D5 ks) b)≤3*J9 (.mk p 0 nilL D5 ks):=by
   intro p hp;rw[B7S b (by show p≠1;omega) (by show p≠2;omega) (by show p≠3;omega) (by show p≠4;omega)];refine⟨P7 (by show U3 (opO p b);unfold opO U3;split<;>omega) (by rw[D10];exact j.kl) fun k hm=>?_,?_⟩
   ·obtain⟨x,hx,rfl⟩:=D2F.1 hm;exact(q x hx b (hk x hx) (r x hx)).1
   ·have key: ∀m:List Fm,(∀k∈m,k∈ks)→J9.wtL (m.map (normF · b))≤3*J9.wtL m:=by
     intro m
     induction m with
     |nil=>intro _;simp[J9.wtL]
     |cons g A u=>
      intro hm;have G:=(q g (hm g (D1S ..)) b (hk g (hm g (D1S ..))) (r g (hm g (D1S ..)))).2;have I:=u fun k h=>hm k (D1Z _ h);rw[D2Y,J9.wtL,J9.wtL];omega
    rw[L7,L7];have:=key ks fun _ h=>h;show 1+([]:List LTm).length+J9.wtL (ks.map (normF · b))≤3*(1+([]:List LTm).length+J9.wtL ks);simp only[D1O];omega
  cases Z1 y with
  |con n h=>
   rw[C17 b rfl];refine⟨.mk _ _ _ _ _ (by simp[U3]) ?_ u0 (show D5.size≤_ by decide) (by simp[Fm.ks]) (by simp[Fm.ks]),?_⟩
   ·show U3 (if b=true then 1-n else n);unfold U3;split<;>omega
   ·rw[L7,L7];simp only[Fm.l,Fm.ks];omega
  |lin l h hp=>
   rw[C18 b rfl];cases b with
   |false=>exact⟨j,by simp only[D1X,if_false];omega⟩
   |true=>
    simp only[if_true,Fm.l];unfold opL;split
    ·refine⟨P7 (by simp[U3]) (by simp) fun k hm=>?_,?_⟩
     ·simp only[D1j,D1k,or_false]at hm;rcases hm with rfl|rfl
      ·exact A18 (B2W h _ (.inl rfl))
      ·exact A18 (B2W h _ (.inr rfl))
     ·rw[L7,L7];simp[Fm.l,Fm.ks,J9.wtL,L7,A3D,shL,nilL];omega
    ·refine⟨A18 (B2W h _ (.inr rfl)),?_⟩;rw[L7,L7];simp[Fm.l,Fm.ks,J9.wtL,A3D,shL];omega
  |var s h=>
   rw[C19 b rfl];cases b with
   |false=>exact⟨j,by simp only[D1X,if_false];omega⟩
   |true=>
    simp only[if_true];refine⟨P7 (by simp[U3]) (by simp) fun k hm=>?_,?_⟩
    ·rw[D1i]at hm;rw[hm];exact j
    ·rw[L7,L7];simp[Fm.l,Fm.ks,J9.wtL,L7,nilL]
  |not k=>
   rw[C2A b rfl rfl];have:=q k (D1S ..) (!b) (hk k (D1S ..)) (r k (D1S ..));refine⟨this.1,?_⟩;have z:J9 (.mk 4 0 nilL D5 [k])=1+J9 k:=by rw[L7];simp[Fm.l,Fm.ks,J9.wtL,nilL]
   rw[z];omega
  |and ks=>exact i 5 (.inl rfl)
  |or ks=>exact i 6 (.inr rfl)
end Go.Fo
namespace Go.Proofs.YtibphjonmikciaaGreatDoor
open Go Go.Av Go.Lexs Go.Lin
attribute [local irreducible] ACalls S9
theorem C0F{Q}(a:LinV)(y:l4 a)(H:Heap)(h:Q (.bool true) H):D7 60 [.agg (E8 a),.agg (E8 a)] H Q:=by
 refine A9 [(6,.par)] A6 Tryz.func60 rfl ?_;simp only[go_sem,seval,Tryz.results60];intro j z m u;simp only[A5]at u;have e2:((H.set j (.box (E8 a))).set m (.box (E8 a))) j=some (.box (E8 a)):=by rw[A2 _ u.1.symm,A3]
 have e3:((H.set j (.box (E8 a))).set m (.box (E8 a))) m=some (.box (E8 a)):=A3 _ _;have q:H.Le ((H.set j (.box (E8 a))).set m (.box (E8 a))):=(A0 z).trans (A0 (by simp only[A5];exact u));generalize (H.set j (.box (E8 a))).set m (.box (E8 a))=Bs at e2 e3 q⊢;have A:j∈[j,m]:=by simp
 have G:m∈[j,m]:=by simp
 have hlen:=y.len;obtain⟨T,K,E⟩:=a;have hlen:T.length≤5864062014639:=hlen;have x:(E==E)=true:=by cases E<;>rfl
 repeat' simp only[go_sem,seval,e2,e3,x]
 refine C8 [2,3,29] (fun(i:Nat)=>[(30,.int .i64 i)]) (fun(i:Nat)=>Bs) (fun(i:Nat)=>i≤T.length) (fun(i:Nat)=>T.length-i) (0) (D1c _) (by(try simp only[go_sem,seval])<;>(try simp(disch:=omega) [A4])) (by first|exact D2i _|exact A0 (by assumption)|exact B9 (by assumption)|simp only[Heap.Le,Heap.set,Heap.del]at* <;>grind) ?_;rintro I rfl i J;by_cases o:i<T.length
 ·have p:decide ((i:Int)<T.length)=true:=D1J (by omega);have r:(i:Int)<T.length:=by omega
  repeat' simp only[go_sem,seval,p,r,B3 _ _ o,C3 _ _ o]
  refine F9 (fun M=>.undef) [j,m] ?_;repeat' (first|with_reducible apply D1H|simp only[go_sem,seval,p,r,B3 _ _ o,C3 _ _ o,e2,e3,A,G]|simp(disch:=omega) only[A4,B3]|omega)
  exact C4 (i+1) (by omega) (by omega) (by(try simp only[go_sem,seval])<;>(try simp(disch:=omega) [A4])) (by simp only[F0,D3,D4]at* <;>grind)
 ·have p:decide ((i:Int)<T.length)=false:=D1K (by omega);repeat' simp only[go_sem,seval,p]
  exact D2j q h
end Go.Proofs.YtibphjonmikciaaGreatDoor
