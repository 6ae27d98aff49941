/- Part of the proof: what the last text builds on. No condition stands here. -/
import Derived.Test.YtibphjonmikciaaGreatDoorProg
import Derived.Test.YtibphjonmikciaaGreatDoorRows
import Derived.Test.YtibphjonmikciaaGreatDoorCards
import Derived.Test.YtibphjonmikciaaGreatDoorTie
import Derived.Test.YtibphjonmikciaaGreatDoorVc3
set_option linter.unusedSimpArgs false
set_option linter.unusedVariables false
set_option maxRecDepth 20000
namespace Go.Lin
open Go Go.Av Go.Proofs.YtibphjonmikciaaGreatDoor
abbrev A4i(n m:Nat)(r:Row):Prop:=r.c.length=n∧A5P r m
abbrev hit(r s:Row):Prop:=r.eq=false∧s.eq=false∧A4a r s 1=true
theorem A1G(r s:Row)(l:List Row):A3o r (s::l)=if hit r s then(if r.k<s.k then {s with k:=r.k}else s)::l else s::A3o r l:=rfl
theorem B0q(r:Row): ∀(l:List Row) (j:Nat) (d:j<l.length),(∀(k:Nat) (hk:k<l.length),k<j→¬hit r l[k])→hit r l[j]→A3o r l=if r.k<l[j].k then l.set j {l[j]with k:=r.k}else l
 | [],j,d,_,_=>by simp at d
 |s::l,0,d,_,h=>by
  simp only[D2F]at h⊢;rw[A1G,if_pos h];split<;>rfl
 |s::l,j+1,d,h1,h=>by
  have e:=h1 0 (by simp) (by omega);simp only[D2F]at e;simp only[List.getElem_cons_succ]at h⊢;rw[A1G,if_neg e,B0q r l j (by simpa using d) (fun k hk g=>by have:=h1 (k+1) (by simpa using hk) (by omega);simpa using this) h];split<;>rfl
theorem A7p(r:Row): ∀(l:List Row),(∀(k:Nat) (hk:k<l.length),¬hit r l[k])→A3o r l=l++[r]
 | [],_=>rfl
 |s::l,h1=>by
  have d:=h1 0 (by simp);simp only[D2F]at d;rw[A1G,if_neg d,A7p r l (fun k hk=>by have:=h1 (k+1) (by simpa using hk);simpa using this)];rfl
theorem B6y{n m:Nat}(r:Row)(hr:A4i n m r): ∀(l:List Row),(∀s∈l,A4i n m s)→∀s∈A3o r l,A4i n m s
 | [],_,s,hs=>by simp[A3o]at hs;subst hs;exact hr
 |x::l,h,s,hs=>by
  have hx:=h x (D07 ..);rw[A1G]at hs;split at hs
  ·rcases D1O.1 hs with rfl|hs
   ·split
    ·exact⟨hx.1,hr.2.1,hx.2.2⟩
    ·exact hx
   ·exact h s (D1E _ hs)
  ·rcases D1O.1 hs with rfl|hs
   ·exact hx
   ·exact B6y r hr l (fun y d=>h y (D1E _ d)) s hs
theorem B0r(r:Row): ∀l,(A3o r l).length≤l.length+1
 | []=>by simp[A3o]
 |x::l=>by rw[A1G];have:=B0r r l;split<;>simp<;>omega
theorem B0s(l:List Row)(i:Nat)(h:i<l.length):pairs1 (l.take (i+1))=A3o l[i] (pairs1 (l.take i)):=by
 unfold pairs1;rw[D1F h,D1o];rfl
theorem B0t{n m:Nat}: ∀(l d:List Row),(∀s∈l,A4i n m s)→(∀s∈d,A4i n m s)→∀s∈l.foldl (fun out r=>A3o r out) d,A4i n m s
 | [],_,_,h=>h
 |r::l,d,h1,e=>B0t l _ (fun s hs=>h1 s (D1E _ hs)) (B6y r (h1 r (D07 ..)) d e)
theorem A6X: ∀(l d:List Row),(l.foldl (fun out r=>A3o r out) d).length≤d.length+l.length
 | [],_=>by simp
 |r::l,d=>by have:=A6X l (A3o r d);have:=B0r r d;simp only[List.foldl_cons,D01];omega
theorem B4m(r s:Row)(l:List Row):A5O r (s::l)=if r.eq=true∨s.eq=true∨A4a r s (-1)=false then A5O r l
  else if r.k+s.k<0 then none else if r.k+s.k=0 then A5O {r with eq:=true} l else A5O r l:=rfl
theorem B0u(done:List Row)(r:Row)(l:List Row):A0O done (r::l)=match A5O r done with|none=>none|some r'=>A0O (done++[r']) l:=rfl
def B0v:Option (List Row)→D
 |none=>.tuple [.sl 4 [],.bool false]
 |some l=>.tuple [.sl 4 (Rw C7 l),.bool true]
end Go.Lin
namespace Go.Av
theorem O3.putle{H Hp:Heap}{sz:Nat}{e1 e2 e3:List (List D)}{o1 o2 o3:Option Nat}(h:O3 H Hp sz e1 e2 e3 o1 o2 o3):(putB H sz e1 o1).Le Hp:=by
 cases o1 with
 |none=>exact h.le
 |some b=>
  intro k o hk;have hk:(H.set b (.vec sz e1)) k=some o:=hk;by_cases e:k=b
  ·subst e;rw[A3]at hk;cases hk;exact h.a1
  ·rw[A4 _ e]at hk;exact h.le _ _ hk
theorem O3.base{H d Hp i:Heap}{sz:Nat}{e1 e2 e3:List (List D)}{o1 o2 o3:Option Nat}(h:O3 H Hp sz e1 e2 e3 o1 o2 o3)(h1:d.Le i)(j:Hp.Le i)(hn: ∀b,Hp b≠none→H b=none→d b=none):O3 d i sz e1 e2 e3 o1 o2 o3:=by
 have key: ∀{e:List (List D)} {o:Option Nat},OutAt Hp sz e o→(∀b,o=some b→H b=none)→∀b,o=some b→d b=none:=fun {e o} m p b g=>hn b (by rw[m.some_of g];simp) (p b g);exact⟨h1,h.a1.up j,h.a2.up j,h.a3.up j,key h.a1 h.n1,key h.a2 h.n2,key h.a3 h.n3,h.d12,h.d13,h.d23⟩
end Go.Av
namespace Go.Lin
open Go Go.Av Go.Proofs.YtibphjonmikciaaGreatDoor
def A3L(c:List Int)(j:Nat):Nat:=gcdR (c.take j)
theorem A4j(c:List Int):A3L c 0=0:=rfl
theorem A7q(c:List Int)(j:Nat)(h:j<c.length):A3L c (j+1)=Nat.gcd c[j].natAbs (A3L c j):=by
 unfold A3L gcdR;rw[D1F h,D1o];rfl
theorem A6Y(c:List Int):A3L c c.length=gcdR c:=by unfold A3L;rw[List.take_length]
theorem B3W(c:List Int)(m:Nat)(hm: ∀x∈c,x.natAbs≤m): ∀j,j≤c.length→A3L c j≤m
 |0,_=>by rw[A4j];omega
 |j+1,h=>by
  have d:=B3W c m hm j (by omega);rw[A7q c j (by omega)];by_cases e:A3L c j=0
  ·rw[e,Nat.gcd_zero_right];exact hm _ (D1A _)
  ·exact D12 (Nat.gcd_le_right _ (by omega)) d
def gB(j:Nat)(g:Int):List D:=if j=0 then [.bool false,.nilsl]else C6 g
theorem A5d(j:Nat)(g:Int):gB (j+1) g=C6 g:=rfl
theorem C3o(c:List Int)(j:Nat):NilR (.agg (gB j (A3L c j:Nat))) (.agg (C6 (A3L c j:Nat))):=by
 cases j with
 |zero=>rw[A4j];exact A8q
 |succ j=>exact .same _
def A1H(r:Row):Option (List Row):=
 let g:=gcdR r.c
 if g=0 then(if r.k<0∨(r.eq=true∧0<r.k)then none else some [])
 else if g=1 then some [r]
 else
  let k:=r.k.fdiv g
  if r.eq=true∧k*g-r.k≠0 then none
  else some [⟨r.c.map (Int.fdiv · g),k,r.eq⟩]
theorem B2E(r:Row)(l:List Row):Y6 (r::l)=(A1H r).bind fun x=>(Y6 l).map (x++ ·):=by
 rw[Y6];unfold A1H;simp only[];split
 ·split
  ·rfl
  ·simp
 ·split
  ·rfl
  ·split
   ·rfl
   ·rfl
theorem B4n{l:List Row}{i:Nat}{D:List Row}(h:i<l.length)(d:Y6 l=(Y6 (l.drop i)).map (D++ ·)):Y6 l=(A1H l[i]).bind fun x=>(Y6 (l.drop (i+1))).map ((D++x)++ ·):=by
 rw[d,D1R h,B2E];cases A1H l[i]with
 |none=>rfl
 |some x=>cases Y6 (l.drop (i+1))<;>simp
theorem A3M(a:Int)(b:Nat)(hb:b≠0):(a.fdiv b).natAbs≤a.natAbs:=by
 rw[Int.fdiv_eq_ediv_of_nonneg _ (by omega)];by_cases h:0≤a
 ·have h1:=Int.ediv_nonneg h (show (0:Int)≤b by omega);have d:=Int.ediv_le_self (b:=(b:Int)) h;omega
 ·have h1:a / (b:Int)<0:=Int.ediv_neg_of_neg_of_pos (by omega) (by omega);have d:a≤a / (b:Int):=by
   have:=Int.ediv_mul_le a (show (b:Int)≠0 by omega);have e:=Int.mul_le_mul_of_nonpos_left (show a / (b:Int)≤0 by omega) (show (1:Int)≤b by omega);have g:=Int.lt_ediv_add_one_mul_self a (show (0:Int)<b by omega);refine Int.le_ediv_of_mul_le (by omega) ?_;have:=Int.mul_le_mul_of_nonpos_left (show a≤0 by omega) (show (1:Int)≤b by omega);omega
  omega
theorem B3X{n m:Nat}{r:Row}{x:List Row}(hr:A4i n m r)(h:A1H r=some x):(∀s∈x,A4i n m s)∧x.length≤1:=by
 unfold A1H at h;simp only[]at h;split at h
 ·split at h
  ·cases h
  ·cases h;simp
 ·rename_i d;split at h
  ·cases h;exact⟨fun s hs=>by simp at hs;subst hs;exact hr,by simp⟩
  ·split at h
   ·cases h
   ·cases h;refine⟨fun s hs=>?_,by simp⟩;simp at hs;subst hs;refine⟨by simp[hr.1],D12 (A3M _ _ d) hr.2.1,fun y e=>?_⟩;simp only[D1u]at e;obtain⟨z,g,rfl⟩:=e;exact D12 (A3M _ _ d) (hr.2.2 z g)
end Go.Lin
namespace Go.Lin
open Go Go.Av Go.Lexs
def zrV(names:List ByteArray)(a:LinV):ZR:=⟨n8 names a.t,C7I names a⟩
def zrB(n i:Nat)(s:Int):ZR:=⟨(List.replicate n zB).set i (C6 s),⟨A7b n i s,2147483647,false⟩⟩
def zrR(names:List ByteArray)(l:List LinV)(m:Nat):List ZR:=l.map (zrV names)++(List.range m).flatMap fun i=>[zrB names.length i 1,zrB names.length i (-1)]
theorem B60(d:List ByteArray)(l:List LinV):(zrR d l d.length).map (·.r)=B0X l d:=by
 unfold zrR B0X;rw[D1w,List.map_map,List.map_flatMap];rfl
theorem C3p(d:List ByteArray)(l:List LinV)(m:Nat)(hm:m≤d.length): ∀z∈zrR d l m,zOk z:=fun z e=>by
 unfold zrR at e;rcases D1M.1 e with h|h
 ·obtain⟨a,_,rfl⟩:=D1u.1 h;exact B6p d a.t
 ·obtain⟨i,g,h⟩:=List.mem_flatMap.1 h;have j:=List.mem_range.1 g;rcases D1O.1 h with rfl|h
  ·exact B0h _ _ _ (by omega)
  ·simp at h;rw[h];exact B0h _ _ _ (by omega)
def zrJ(names:List ByteArray)(l:List LinV)(i j:Nat):List ZR:=zrR names l i++([zrB names.length i 1,zrB names.length i (-1)].take j)
theorem B61(d:List ByteArray)(l:List LinV)(i:Nat):zrJ d l i 0=zrR d l i:=by simp[zrJ]
theorem B3Y(d:List ByteArray)(l:List LinV)(i:Nat):zrJ d l i 2=zrR d l (i+1):=by
 unfold zrJ zrR;rw[List.range_succ,List.flatMap_append];simp
theorem B9t(d:List ByteArray)(l:List LinV)(i:Nat):zrJ d l i 1=zrJ d l i 0++[zrB d.length i 1]:=by simp[zrJ]
theorem B62(d:List ByteArray)(l:List LinV)(i:Nat):zrJ d l i 2=zrJ d l i 1++[zrB d.length i (-1)]:=by simp[zrJ]
theorem B63(d:List ByteArray)(l:List LinV):zrR d l 0=l.map (zrV d):=by simp[zrR]
theorem B3Z(d:List ByteArray)(l:List LinV)(i:Nat):(zrR d l i).length=l.length+2*i:=by
 unfold zrR;rw[D02,D1f]
 congr 1
 induction i with
 |zero=>rfl
 |succ i e=>rw[List.range_succ,List.flatMap_append,D02,e];simp;omega
theorem A5f(d:List ByteArray)(l:List LinV)(i j:Nat)(e:j≤2):(zrJ d l i j).length=l.length+2*i+j:=by
 unfold zrJ;rw[D02,B3Z,D1e];simp;omega
end Go.Lin
namespace Go.Proofs.YtibphjonmikciaaGreatDoor
open Go Go.Av Go.Lexs Go.Lin
attribute [local irreducible] ACalls S3
theorem A8w{Q}(b:Nat)(es:List ByteArray)(hn:es.length≤1000000)(H:Heap)(hb:H b=some (.box [.sl 1 (Rw I6 es)]))(h: ∀v,H v=none→Q (.vec v 2 0 es.length) (H.set v (.vec 2 (List.replicate es.length zB)))):E6 227 [.box b 0] H Q:=by
 refine B2 [] A8 Tryz.func227 rfl ?_;simp only[go_sem,seval,Tryz.results227];repeat' (first|with_reducible apply D0w|simp only[go_sem,seval,hb]|intro d|omega)
 rename_i v;exact D2R (h v d)
set_option maxHeartbeats 2000000 in
theorem C3q{Q}(l:List LinV)(d:List ByteArray)(hlen:l.length≤1000000)(hn:d.length≤1000000)(d2:d.Pairwise fun x y=>W8 x y=true)(hv: ∀a∈l,validL a=true)(hm: ∀a∈l,∀t∈a.t,t.v∈d)(H:Heap)(h:Q (.sl 4 (Rw C7 (B0X l d))) H):
  E6 197 [.sl 3 (Rw D7 l),.sl 1 (Rw I6 d)] H Q:=by
 refine B2 [(6,.par),(11,.par),(22,.par)] A8 Tryz.func197 rfl ?_;simp only[go_sem,seval,Tryz.results197];intro W e6;have e3:(H.set W (.box [.sl 1 (Rw I6 d)])) W=some (.box [.sl 1 (Rw I6 d)]):=A3 _ _;have b6:H.Le (H.set W (.box [.sl 1 (Rw I6 d)])):=A0 e6;generalize H.set W (.box [.sl 1 (Rw I6 d)])=Bs at e3 b6⊢;have e7:d.Nodup:=d2.imp fun {x y} g e=>by rw[e,w9]at g;cases g
 repeat' (first|with_reducible apply D0w|simp only[go_sem,seval]|simp(disch:=omega) only[A5,B3]|simp(disch:=first|omega|grind) only[B9]|(intro m;try simp only[A6]at m)|omega)
 refine C8 [3,6,19,20] (fun(p:Nat×Option Nat)=>[(21,.int .i64 p.1),(5,J3 4 p.1 p.2)]) (fun(p:Nat×Option Nat)=>putB Bs 4 (Rw zrC ((l.take p.1).map (zrV d))) p.2) (fun(p:Nat×Option Nat)=>p.1≤l.length∧(p.2=none→p.1=0)∧(∀b,p.2=some b→Bs b=none)) (fun(p:Nat×Option Nat)=>l.length-p.1) ((0,none)) (⟨D1H _,by simp,by simp⟩) (by(try simp only[go_sem,seval])<;>(try simp(disch:=omega) [A5])) (by first|exact D2N _|exact A0 (by assumption)|exact B4 (by assumption)|simp only[Heap.Le,Heap.set,Heap.del]at* <;>grind) ?_;rintro Ec rfl ⟨i,o1⟩ ⟨hi,ho,b7⟩;simp only at hi ho b7;have A:=O3.put (H:=Bs) (sz:=4) (es:=Rw zrC ((l.take i).map (zrV d))) (ob:=o1) (fun e=>by rw[ho e];rfl) b7;have fl:=A8r (zrV d) l i hi;generalize putB Bs 4 (Rw zrC ((l.take i).map (zrV d))) o1=Hp at A⊢;by_cases a5:i<l.length
 ·have c0:decide ((i:Int)<l.length)=true:=D0y (by omega);have g4:(i:Int)<l.length:=by omega
  have d4:=hv _ (D1A a5);have d5:=hm _ (D1A a5);have fs:=A6W (zrV d) l i a5;obtain⟨a,d6⟩: ∃a,a=l[i]:=⟨_,rfl⟩
  rw[←d6]at d4 d5 fs;have ok:=K5 d4;repeat' (first|with_reducible apply D0w|simp only[go_sem,seval,c0,B3 _ _ a5,C3 _ _ a5,←d6]|(intro m;try simp only[A6]at m)|omega)
  rename_i b8;have h8:=m;clear m;have c8:(Hp.set b8 (.box (D7 a))) b8=some (.box (D7 a)):=A3 _ _;have I:Hp.Le (Hp.set b8 (.box (D7 a))):=A0 h8;have c3:(Hp.set b8 (.box (D7 a))) W=some (.box [.sl 1 (Rw I6 d)]):=I _ _ (A.le _ _ e3);generalize Hp.set b8 (.box (D7 a))=B8 at c8 I c3⊢;have m3:W∈[W,b8]:=by simp
  have m8:b8∈[W,b8]:=by simp
  obtain⟨k,hk⟩: ∃k,k=a.k:=⟨_,rfl⟩
  have e8:=ok.k;rw[←hk]at e8;have e9:B8 b8=some (.box [.sl 2 (Rw L4 a.t),.int .i64 k,.bool a.e]):=by rw[hk];exact c8
  refine A3e (fun i'=>if i'=1 then .mk' (fun v=>.vec v 2 0 d.length) (.vec 2 (List.replicate d.length zB))else if i'=4 then .c (.agg (C6 k))else .c .undef) [W,b8] ?_;repeat' (first|with_reducible apply D0w|simp only[go_sem,seval,e9,c3,m3,m8]|simp(disch:=first|omega|grind) only[B9]|(intro m;try simp only[A6]at m)|with_reducible refine C9L c3 m3 (by simp) rfl (fun H' Q hro hb hq=>A8w W d hn H' hb hq) ?_|with_reducible refine P8 (fun H' Q hro hq=>y0 k (by omega) (by omega) H' hq) ?_)
  rename_i bv hv b9;have h9:=m;clear m;have nb:b9≠bv:=h9.1;have k3:W≠bv∧W≠b9:=⟨(fun g=>by rw[g,hv]at c3;cases c3),(fun g=>by rw[g,h9.2]at c3;cases c3)⟩
  rw[show List.replicate d.length zB=n8 d (a.t.take 0)from(B4g d).symm];refine C8 [3,5,6,9,19,20,21,34,35] (fun(j:Nat)=>[(36,.int .i64 j)]) (fun(j:Nat)=>(B8.set bv (.vec 2 (n8 d (a.t.take j)))).set b9 (.box [.vec bv 2 0 d.length,.bool (decide (k<0)),.sl 1 (Rw F5 (C2 k.natAbs)),.bool a.e])) (fun(j:Nat)=>j≤a.t.length) (fun(j:Nat)=>a.t.length-j) (0) (D1H _) (by(try simp only[go_sem,seval])<;>(try simp(disch:=omega) [A5])) (by first|exact D2N _|exact A0 (by assumption)|exact B4 (by assumption)|simp only[Heap.Le,Heap.set,Heap.del]at* <;>grind) ?_;rintro Ec rfl j hj;have g5:=ok.len;by_cases a6:j<a.t.length
  ·have G:decide ((j:Int)<a.t.length)=true:=D0y (by omega);have f0:(j:Int)<a.t.length:=by omega
   obtain⟨t,ht⟩: ∃t,t=a.t[j]:=⟨_,rfl⟩
   have tc:=(A2E ok.t a6).2.2.1;rw[←ht]at tc;obtain⟨x,hx,b2⟩:=List.getElem_of_mem (d5 _ (D1A a6));rw[←ht]at b2;have f4:(x:Int)<d.length:=by omega
   have d7: ∀y∈a.t.take j,y.v≠t.v:=fun y hy g=>by
    obtain⟨q,hq,rfl⟩:=List.getElem_of_mem hy;rw[D1e]at hq;have:=List.pairwise_iff_getElem.1 (B14 ok.t) q j (by omega) a6 (by omega);rw[List.getElem_take]at g;rw[←ht,g,w9]at this;cases this
   obtain⟨z,hz⟩: ∃z,z=t.c:=⟨_,rfl⟩
   have ts:a.t.take (j+1)=a.t.take j++[t]:=by rw[D1F a6,ht]
   have J:=B6o d (a.t.take j) t x hx b2 e7 d7;rw[←ts,←hz]at J;have d8:=B6n d (a.t.take j) x hx (fun y hy=>by rw[b2];exact d7 y hy);have f5:=B0g d (a.t.take j);rw[←hz]at tc;have f6:t.c=z:=hz.symm;repeat' (first|with_reducible apply D0w|simp only[go_sem,seval,G,f0,B3 _ _ a6,C3 _ _ a6,←ht,f6]|simp(disch:=first|omega|grind) only[B9]|(intro m;try simp only[A6]at m)|omega)
   rename_i a7;have b4:=m;clear m;have j1:=b4.1;have j2:=b4.2.1;have j3:W≠a7:=fun g=>by have:=b4.2.2;rw[←g,c3]at this;cases this
   have p9:b9∈[b9,a7]:=by simp
   have f7:a7∈[b9,a7]:=by simp
   repeat' (first|simp only[go_sem,seval,A4 _ j3,A4 _ k3.2,A4 _ k3.1,c3]|with_reducible refine B4l d d2 t.v x hx b2 (by omega) _ ?_)
   refine F4 (fun i'=>if i'=5 then .agg (C6 z)else .undef) [b9,a7] ?_;repeat' (first|with_reducible apply D0w|simp only[go_sem,seval,p9,f7,f4,f5,d8.1,d8.2]|simp(disch:=omega) only[A5,B3]|simp(disch:=first|omega|grind) only[B9]|with_reducible refine P8 (fun H' Q hro hq=>y0 z (by omega) (by omega) H' hq) ?_|omega)
   have c1:(n8 d (a.t.take j)).set x ((zB.set 0 (D.bool (decide (z<0)))).set 1 (D.sl 1 (Rw F5 (C2 z.natAbs))))=n8 d (a.t.take (j+1)):=J;refine C4 (j+1) (by omega) (by omega) (by(try simp only[go_sem,seval])<;>(try simp(disch:=omega) [A5])) ?_;rw[←c1];intro q o hq;have f8:q≠a7:=fun g=>by rw[g,A4 _ j1,A4 _ j2,b4.2.2]at hq;cases hq
   by_cases g:q=bv
   ·subst g;rw[A4 _ nb.symm,A3]at hq;rw[A3];exact hq
   ·rw[A4 _ g,A4 _ f8];by_cases d9:q=b9
    ·subst d9;rw[A3]at hq⊢;exact hq
    ·rw[A4 _ d9,A4 _ g]at hq⊢;exact hq
  ·have G:decide ((j:Int)<a.t.length)=false:=D0z (by omega);have f9:j=a.t.length:=by omega
   subst f9;rw[List.take_length];repeat' (first|simp only[go_sem,seval,G]|(intro m;try simp only[A6]at m))
   rename_i bx;have L:=m;clear m;have g0:Bs bv=none:=(A.le.trans I).none hv;have q1:(Bs.set bv (.vec 2 (n8 d a.t))).Le ((B8.set bv (.vec 2 (n8 d a.t))).set b9 (.box [.vec bv 2 0 d.length,.bool (decide (k<0)),.sl 1 (Rw F5 (C2 k.natAbs)),.bool a.e])):=by
    intro q o hq;by_cases g:q=bv
    ·subst g;rw[A4 _ nb.symm,A3];rw[A3]at hq;exact hq
    ·rw[A4 _ g]at hq;have u:=I _ _ (A.le _ _ hq);have g9:q≠b9:=fun g=>by rw[g,h9.2]at u;cases u
     rw[A4 _ g9,A4 _ g];exact u
   have q2:Hp.Le ((B8.set bv (.vec 2 (n8 d a.t))).set b9 (.box [.vec bv 2 0 d.length,.bool (decide (k<0)),.sl 1 (Rw F5 (C2 k.natAbs)),.bool a.e])):=by
    intro q o hq;have u:=I _ _ hq;have g:q≠bv:=fun g=>by rw[g,hv]at u;cases u
    have g9:q≠b9:=fun g=>by rw[g,h9.2]at u;cases u
    rw[A4 _ g9,A4 _ g];exact u
   have O:=A.base q1 q2 (fun b a9 b0=>by rw[A4 _ (fun g=>a9 (by rw[g];exact I.none hv))];exact b0);refine O3.ap O (e1':=Rw zrC ((l.take i).map (zrV d))++[[.vec bv 2 0 d.length,.bool (decide (k<0)),.sl 1 (Rw F5 (C2 k.natAbs)),.bool a.e]]) (D2N _) (by simp only[A6];exact L) (by simp) (by rw[D6,fl]) (by simp only[D01,D03];omega) (by simp only[D01,D03];omega) rfl fun T H' X=>?_;clear O q1 q2 L;repeat' (first|simp only[go_sem,seval]|simp(disch:=omega) only[A5,B3])
   have C:=X.n1 _ rfl;have U:bv≠T:=fun g=>by rw[←g,A3]at C;cases C
   have eX:Rw zrC ((l.take (i+1)).map (zrV d))=Rw zrC ((l.take i).map (zrV d))++[.sl 2 (n8 d a.t)::[.bool (decide (k<0)),.sl 1 (Rw F5 (C2 k.natAbs)),.bool a.e]]:=by rw[fs,←O9,hk];rfl
   refine B59 (i+1,some T) ⟨by simp only[];omega,by simp,fun b e=>?_⟩ (by simp only[];omega) ?_
   ·have:=X.n1 _ e;rw[A4 _ (by cases e;exact U.symm)]at this;exact this
   ·show A1A _ (Bs.set T (.vec 4 (Rw zrC ((l.take (i+1)).map (zrV d))))) _ _;rw[eX];refine A1D (by(try simp only[go_sem,seval,K4])<;>(try simp(disch:=omega) [A5])) (by rw[B0g]) X.a1 (X.le _ _ (A3 _ _)) U (fun q o hq ho=>?_);have V:q≠bv:=fun g=>by rw[g,g0]at ho;cases ho
    exact⟨V,X.le q o (by rw[A4 _ V];exact ho)⟩
 ·have c0:decide ((i:Int)<l.length)=false:=D0z (by omega);have c2:i=l.length:=by omega
  rw[D1B (by omega),←B63]at A;have g2:i=(zrR d l 0).length:=by rw[B3Z];omega
  have c3:=A.le _ _ e3;rw[g2];repeat' simp only[go_sem,seval,D0z (show¬(((zrR d l 0).length:Nat):Int)<l.length by omega),c3]
  clear c0 b7 ho hi a5 fl c2;refine C8 [6,61] (fun(p:Nat×Option Nat×Heap)=>[(62,.int .i64 p.1),(5,J3 4 (zrR d l p.1).length p.2.1)]) (fun(p:Nat×Option Nat×Heap)=>p.2.2) (fun(p:Nat×Option Nat×Heap)=>p.1≤d.length∧O3 Bs p.2.2 4 (Rw zrC (zrR d l p.1)) [] [] p.2.1 none none) (fun(p:Nat×Option Nat×Heap)=>d.length-p.1) ((0,o1,Hp)) (⟨D1H _,A⟩) (by(try simp only[go_sem,seval])<;>(try simp(disch:=omega) [A5])) (by first|exact D2N _|exact A0 (by assumption)|exact B4 (by assumption)|simp only[Heap.Le,Heap.set,Heap.del]at* <;>grind) ?_;clear A c3;obtain⟨M,hM⟩: ∃M:Int,M=2147483647:=⟨_,rfl⟩
  have wm: ∀(H:Heap) (Q:D→Heap→Prop),Q (.agg (C6 M)) H→E6 228 [.int .i64 2147483647] H Q:=fun H Q hq=>y0 2147483647 (by omega) (by omega) H (by rw[←hM];exact hq);rintro Ec rfl ⟨i,o1,Hp⟩ ⟨hi,A⟩;simp only at hi A;by_cases hit:i<d.length
  ·have G:decide ((i:Int)<d.length)=true:=D0y (by omega);have e0:(i:Int)<d.length:=by omega
   repeat' (first|simp only[go_sem,seval,G]|(intro m;try simp only[A6]at m))
   rename_i bs;have e4:=m;clear m;have g3:=A.grow e4 (.vec 1 [[.int .i64 1],[.int .i64 (-1)]]);have es:(Bs.set bs (.vec 1 [[.int .i64 1],[.int .i64 (-1)]])) bs=some (.vec 1 [[.int .i64 1],[.int .i64 (-1)]]):=A3 _ _;have c4:Bs.Le (Bs.set bs (.vec 1 [[.int .i64 1],[.int .i64 (-1)]])):=A0 (A.le.none e4);generalize Hp.set bs (.vec 1 [[.int .i64 1],[.int .i64 (-1)]])=Hq at g3⊢;generalize Bs.set bs (.vec 1 [[.int .i64 1],[.int .i64 (-1)]])=B1 at g3 es c4;rw[←B61]at g3⊢;refine C8 [6,14,61,62,65,66] (fun(p:Nat×Option Nat×Heap)=>[(67,.int .i64 p.1),(5,J3 4 (zrJ d l i p.1).length p.2.1)]) (fun(p:Nat×Option Nat×Heap)=>p.2.2) (fun(p:Nat×Option Nat×Heap)=>p.1≤2∧O3 B1 p.2.2 4 (Rw zrC (zrJ d l i p.1)) [] [] p.2.1 none none) (fun(p:Nat×Option Nat×Heap)=>2-p.1) ((0,o1,Hq)) (⟨D1H _,g3⟩) (by(try simp only[go_sem,seval])<;>(try simp(disch:=omega) [A5])) (by first|exact D2N _|exact A0 (by assumption)|exact B4 (by assumption)|simp only[Heap.Le,Heap.set,Heap.del]at* <;>grind) ?_;clear g3 A;rintro Ec rfl ⟨j,o1,Hp⟩ ⟨hj,A⟩;simp only at hj A;have d3:=A.le _ _ (c4 _ _ e3);have ds:=A.le _ _ es
   match j,hj with
   |0,_=>
    have k3:decide (((0:Nat):Int)<((2:Nat):Int))=true:=by decide
    have g1:=B9t d l i;have gl:=A5f d l i 0 (by omega);have c5:=A5f d l i (1) (by omega);obtain⟨s,hs⟩: ∃s:Int,s=1:=⟨1,rfl⟩
    have ws: ∀(H:Heap) (Q:D→Heap→Prop),Q (.agg (C6 s)) H→E6 228 [.int .i64 (1)] H Q:=fun H Q hq=>y0 (1) (by omega) (by omega) H (by rw[←hs];exact hq);repeat' (first|with_reducible apply D0w|simp only[go_sem,seval,k3,ds,d3,D1V,D1W]|(intro m;try simp only[A6]at m)|with_reducible refine A8w W d hn _ d3 ?_|with_reducible refine wm _ _ ?_|omega)
    rename_i v hv r;have a0:=m;clear m;have nb:r≠v:=a0.1;have c6:r∈[r]:=by simp
    have a4:(List.replicate d.length zB)[i]? =some zB∧(List.replicate d.length zB).getD i []=zB:=by
     have:(List.replicate d.length zB)[i]? =some zB:=by simp[hit]
     exact⟨this,by rw[List.getD_eq_getElem?_getD,this];rfl⟩
    have b1:(List.replicate d.length zB).length=d.length:=List.length_replicate;refine F4 (fun i'=>if i'=4 then .agg (C6 s)else .undef) [r] ?_;obtain⟨Z,hZ⟩: ∃Z,Z=List.replicate d.length zB:=⟨_,rfl⟩
    rw[←hZ]at a4 b1⊢;repeat' (first|with_reducible apply D0w|simp only[go_sem,seval,c6,e0,b1,a4.1,a4.2]|simp(disch:=first|omega|grind) only[B9]|(intro m;try simp only[A6]at m)|with_reducible refine P8 (fun H' Q hro hq=>ws H' Q hq) ?_|omega)
    rename_i bx;have L:=m;clear m;have J:Z.set i ((zB.set 0 (D.bool (decide (s<0)))).set 1 (D.sl 1 (Rw F5 (C2 s.natAbs))))=(List.replicate d.length zB).set i (C6 s):=by rw[hZ];rfl
    rw[J];obtain⟨Y,hY⟩: ∃Y,Y=(List.replicate d.length zB).set i (C6 s):=⟨_,rfl⟩
    rw[←hY];have c7:Y.length=d.length:=by rw[hY,D1t,List.length_replicate]
    have c9:B1 v=none:=A.le.none hv;have q1:(B1.set v (.vec 2 Y)).Le (((Hp.set v (.vec 2 Z)).set r (.box [.vec v 2 0 d.length,.bool (decide (M<0)),.sl 1 (Rw F5 (C2 M.natAbs)),.bool false])).set v (.vec 2 Y)):=by
     intro q o hq;by_cases g:q=v
     ·subst g;rw[A3]at hq⊢;exact hq
     ·rw[A4 _ g]at hq;have u:=A.le _ _ hq;have g9:q≠r:=fun g=>by rw[g,a0.2]at u;cases u
      rw[A4 _ g,A4 _ g9,A4 _ g];exact u
    have q2:Hp.Le (((Hp.set v (.vec 2 Z)).set r (.box [.vec v 2 0 d.length,.bool (decide (M<0)),.sl 1 (Rw F5 (C2 M.natAbs)),.bool false])).set v (.vec 2 Y)):=by
     intro q o u;have g:q≠v:=fun g=>by rw[g,hv]at u;cases u
     have g9:q≠r:=fun g=>by rw[g,a0.2]at u;cases u
     rw[A4 _ g,A4 _ g9,A4 _ g];exact u
    have O:=A.base q1 q2 (fun b a9 b0=>by rw[A4 _ (fun g=>a9 (by rw[g];exact hv))];exact b0);refine O3.ap O (e1':=Rw zrC (zrJ d l i 0)++[[.vec v 2 0 d.length,.bool (decide (M<0)),.sl 1 (Rw F5 (C2 M.natAbs)),.bool false]]) (D2N _) (by simp only[A6];simp only[L,ne_eq,not_false_eq_true,and_self]) (by simp) (by rw[D6]) (by simp only[D01,D03];omega) (by simp only[D01,D03];omega) rfl fun T H' X=>?_;clear O q1 q2 L;repeat' (first|simp only[go_sem,seval]|simp(disch:=omega) only[A5,B3])
    have C:=X.n1 _ rfl;have U:v≠T:=fun g=>by rw[←g,A3]at C;cases C
    have d0:B1 T=none:=by rw[A4 _ U.symm]at C;exact C
    have eX:Rw zrC (zrJ d l i 1)=Rw zrC (zrJ d l i 0)++[.sl 2 Y::[.bool (decide (M<0)),.sl 1 (Rw F5 (C2 M.natAbs)),.bool false]]:=by rw[g1,←O9,hY,hM,hs];rfl
    refine B59 (1,some T,B1.set T (.vec 4 (Rw zrC (zrJ d l i 1)))) ⟨by simp only[];omega,O3.put (H:=B1) (ob:=some T) (by simp) (fun b e=>by cases e;exact d0)⟩ (by simp only[];omega) ?_;show A1A _ (B1.set T (.vec 4 (Rw zrC (zrJ d l i 1)))) _ _;rw[eX];refine A1D (by(try simp only[go_sem,seval,K4,gl,c5])<;>(try simp(disch:=omega) [A5])) c7.symm X.a1 (X.le _ _ (A3 _ _)) U (fun q o hq ho=>?_);have V:q≠v:=fun g=>by rw[g,c9]at ho;cases ho
    exact⟨V,X.le q o (by rw[A4 _ V];exact ho)⟩
   |1,_=>
    have k3:decide (((1:Nat):Int)<((2:Nat):Int))=true:=by decide
    have g1:=B62 d l i;have gl:=A5f d l i 1 (by omega);have c5:=A5f d l i (2) (by omega);obtain⟨s,hs⟩: ∃s:Int,s= -1:=⟨-1,rfl⟩
    have ws: ∀(H:Heap) (Q:D→Heap→Prop),Q (.agg (C6 s)) H→E6 228 [.int .i64 (-1)] H Q:=fun H Q hq=>y0 (-1) (by omega) (by omega) H (by rw[←hs];exact hq);repeat' (first|with_reducible apply D0w|simp only[go_sem,seval,k3,ds,d3,D1V,D1W]|(intro m;try simp only[A6]at m)|with_reducible refine A8w W d hn _ d3 ?_|with_reducible refine wm _ _ ?_|omega)
    rename_i v hv r;have a0:=m;clear m;have nb:r≠v:=a0.1;have c6:r∈[r]:=by simp
    have a4:(List.replicate d.length zB)[i]? =some zB∧(List.replicate d.length zB).getD i []=zB:=by
     have:(List.replicate d.length zB)[i]? =some zB:=by simp[hit]
     exact⟨this,by rw[List.getD_eq_getElem?_getD,this];rfl⟩
    have b1:(List.replicate d.length zB).length=d.length:=List.length_replicate;refine F4 (fun i'=>if i'=4 then .agg (C6 s)else .undef) [r] ?_;obtain⟨Z,hZ⟩: ∃Z,Z=List.replicate d.length zB:=⟨_,rfl⟩
    rw[←hZ]at a4 b1⊢;repeat' (first|with_reducible apply D0w|simp only[go_sem,seval,c6,e0,b1,a4.1,a4.2]|simp(disch:=first|omega|grind) only[B9]|(intro m;try simp only[A6]at m)|with_reducible refine P8 (fun H' Q hro hq=>ws H' Q hq) ?_|omega)
    rename_i bx;have L:=m;clear m;have J:Z.set i ((zB.set 0 (D.bool (decide (s<0)))).set 1 (D.sl 1 (Rw F5 (C2 s.natAbs))))=(List.replicate d.length zB).set i (C6 s):=by rw[hZ];rfl
    rw[J];obtain⟨Y,hY⟩: ∃Y,Y=(List.replicate d.length zB).set i (C6 s):=⟨_,rfl⟩
    rw[←hY];have c7:Y.length=d.length:=by rw[hY,D1t,List.length_replicate]
    have c9:B1 v=none:=A.le.none hv;have q1:(B1.set v (.vec 2 Y)).Le (((Hp.set v (.vec 2 Z)).set r (.box [.vec v 2 0 d.length,.bool (decide (M<0)),.sl 1 (Rw F5 (C2 M.natAbs)),.bool false])).set v (.vec 2 Y)):=by
     intro q o hq;by_cases g:q=v
     ·subst g;rw[A3]at hq⊢;exact hq
     ·rw[A4 _ g]at hq;have u:=A.le _ _ hq;have g9:q≠r:=fun g=>by rw[g,a0.2]at u;cases u
      rw[A4 _ g,A4 _ g9,A4 _ g];exact u
    have q2:Hp.Le (((Hp.set v (.vec 2 Z)).set r (.box [.vec v 2 0 d.length,.bool (decide (M<0)),.sl 1 (Rw F5 (C2 M.natAbs)),.bool false])).set v (.vec 2 Y)):=by
     intro q o u;have g:q≠v:=fun g=>by rw[g,hv]at u;cases u
     have g9:q≠r:=fun g=>by rw[g,a0.2]at u;cases u
     rw[A4 _ g,A4 _ g9,A4 _ g];exact u
    have O:=A.base q1 q2 (fun b a9 b0=>by rw[A4 _ (fun g=>a9 (by rw[g];exact hv))];exact b0);refine O3.ap O (e1':=Rw zrC (zrJ d l i 1)++[[.vec v 2 0 d.length,.bool (decide (M<0)),.sl 1 (Rw F5 (C2 M.natAbs)),.bool false]]) (D2N _) (by simp only[A6];simp only[L,ne_eq,not_false_eq_true,and_self]) (by simp) (by rw[D6]) (by simp only[D01,D03];omega) (by simp only[D01,D03];omega) rfl fun T H' X=>?_;clear O q1 q2 L;repeat' (first|simp only[go_sem,seval]|simp(disch:=omega) only[A5,B3])
    have C:=X.n1 _ rfl;have U:v≠T:=fun g=>by rw[←g,A3]at C;cases C
    have d0:B1 T=none:=by rw[A4 _ U.symm]at C;exact C
    have eX:Rw zrC (zrJ d l i 2)=Rw zrC (zrJ d l i 1)++[.sl 2 Y::[.bool (decide (M<0)),.sl 1 (Rw F5 (C2 M.natAbs)),.bool false]]:=by rw[g1,←O9,hY,hM,hs];rfl
    refine B59 (2,some T,B1.set T (.vec 4 (Rw zrC (zrJ d l i 2)))) ⟨by simp only[];omega,O3.put (H:=B1) (ob:=some T) (by simp) (fun b e=>by cases e;exact d0)⟩ (by simp only[];omega) ?_;show A1A _ (B1.set T (.vec 4 (Rw zrC (zrJ d l i 2)))) _ _;rw[eX];refine A1D (by(try simp only[go_sem,seval,K4,gl,c5])<;>(try simp(disch:=omega) [A5])) c7.symm X.a1 (X.le _ _ (A3 _ _)) U (fun q o hq ho=>?_);have V:q≠v:=fun g=>by rw[g,c9]at ho;cases ho
    exact⟨V,X.le q o (by rw[A4 _ V];exact ho)⟩
   |2,_=>
    rw[B3Y]at A;repeat' (first|with_reducible apply D0w|simp only[go_sem,seval,B3Y]|simp(disch:=omega) only[A5,B3]|(intro m;try simp only[A6]at m)|omega)
    refine C4 (i+1,o1,Hp) ⟨by simp only[];omega,A.less c4⟩ (by simp only[];omega) (by(try simp only[go_sem,seval])<;>(try simp(disch:=omega) [A5])) (D2N _)
   |j+3,hj=>omega
  ·have G:decide ((i:Int)<d.length)=false:=D0z (by omega);have c2:i=d.length:=by omega
   subst c2;repeat' simp only[go_sem,seval,G]
   refine Fin.out (by rw[D6]) A.a1 (D9 (B4f _ (C3p d l _ (D1G _))) ?_);rw[B60];exact D2O (b6.trans (O3.one A)) h
open Go Go.Av Go.Lin
set_option maxHeartbeats 4000000 in
theorem B9u{Q}(l:List Row)(n:Nat)(hlen:l.length≤1000000)(hn:n≤1000000)(hP: ∀r∈l,A4i n 18446744073709551616 r)(H:Heap)(h:Q (B0v (A0O [] (pairs1 l))) H):E6 250 [.sl 4 (Rw C7 l)] H Q:=by
 refine B2 [(10,.par),(11,.par),(23,.par),(24,.par)] A8 Tryz.func250 rfl ?_;simp only[go_sem,seval,Tryz.results250];have z0:D.nilsl=J3 4 (pairs1 (l.take 0)).length none:=rfl;repeat' (first|with_reducible apply D0w|simp only[go_sem,seval]|simp(disch:=omega) only[A5,B3]|intro L|omega)
 refine C8 [13,14] (fun(p:Nat×Option Nat×Heap)=>[(15,.int .i64 p.1),(4,J3 4 (pairs1 (l.take p.1)).length p.2.1)]) (fun(p:Nat×Option Nat×Heap)=>p.2.2) (fun(p:Nat×Option Nat×Heap)=>p.1≤l.length∧O3 H p.2.2 4 (Rw C7 (pairs1 (l.take p.1))) [] [] p.2.1 none none) (fun(p:Nat×Option Nat×Heap)=>l.length-p.1) ((0,none,H)) (⟨D1H _,O3.nil H 4⟩) (by(try simp only[go_sem,seval])<;>(try simp(disch:=omega) [A5])) (by first|exact D2N _|exact A0 (by assumption)|exact B4 (by assumption)|simp only[Heap.Le,Heap.set,Heap.del]at* <;>grind) ?_;rintro Ec rfl ⟨i,o1,Hp⟩ ⟨hi,x⟩;simp only at hi x;have hz:o1=none→(pairs1 (l.take i)).length=0:=fun e=>by
  have:=x.a1;rw[e]at this;have this:Rw C7 (pairs1 (l.take i))= []:=this;rw[←D6 (f:=C7),this];rfl
 have ol:(pairs1 (l.take i)).length≤1000000:=by have:=A6X (l.take i) [];simp at this;unfold pairs1;omega
 have oP: ∀s∈pairs1 (l.take i),A4i n 18446744073709551616 s:=B0t _ _ (fun s hs=>hP s (List.mem_of_mem_take hs)) (by simp);by_cases a0:i<l.length
 ·have a5:decide ((i:Int)<l.length)=true:=D0y (by omega);have c5:(i:Int)<l.length:=by omega
  have ps:=B0s l i a0;have hr:=hP _ (D1A a0);generalize pairs1 (l.take i)=out at x hz ol oP ps⊢;obtain⟨r,b1⟩: ∃r,r=l[i]:=⟨_,rfl⟩
  rw[←b1]at ps hr;repeat' (first|with_reducible apply D0w|simp only[go_sem,seval,a5,B3 _ _ a0,C3 _ _ a0,←b1,B3D hz]|intro L|omega)
  rename_i b6;have h6:=L;clear L;have e6:(Hp.set b6 (.box (C7 r))) b6=some (.box (C7 r)):=A3 _ _;have C:Hp.Le (Hp.set b6 (.box (C7 r))):=A0 h6;generalize Hp.set b6 (.box (C7 r))=Hq at e6 C⊢;refine C8 [4,6,13,14,15,20] (fun(j:Nat)=>[(21,.int .i64 j)]) (fun(j:Nat)=>Hq) (fun(j:Nat)=>j≤out.length∧∀(k:Nat) (hk:k<out.length),k<j→¬hit r out[k]) (fun(j:Nat)=>out.length-j) (0) (⟨D1H _,fun _ _ h=>absurd h (D2C _)⟩) (by(try simp only[go_sem,seval])<;>(try simp(disch:=omega) [A5])) (by first|exact D2N _|exact A0 (by assumption)|exact B4 (by assumption)|simp only[Heap.Le,Heap.set,Heap.del]at* <;>grind) ?_;rintro Ec rfl j ⟨hj,U⟩;by_cases q:j<out.length
  ·have G:decide ((j:Int)<out.length)=true:=D0y (by omega);have V:(j:Int)<out.length:=by omega
   obtain⟨c,rfl⟩: ∃c,o1=some c:=by
    cases o1 with
    |none=>have:=hz rfl;omega
    |some c=>exact⟨c,rfl⟩
   have O:Hq c=some (.vec 4 (Rw C7 out)):=C _ _ x.a1;have hs:=oP _ (D1A q);have step: ¬hit r out[j]→∀(k:Nat) (hk:k<out.length),k<j+1→¬hit r out[k]:=fun g k hk c6=>by
    by_cases e:k=j
    ·subst e;exact g
    ·exact U k hk (by omega)
   have a6: ¬hit r out[j]→(j+1≤out.length∧∀(k:Nat) (hk:k<out.length),k<j+1→¬hit r out[k]):=fun g=>⟨by omega,step g⟩
   have m6:b6∈[b6,c]:=by simp
   have W:c∈[b6,c]:=by simp
   cases u:r.eq with
   |true=>
    repeat' (first|with_reducible apply D0w|simp only[go_sem,seval,G,e6,O,u]|simp(disch:=omega) only[A5,B3]|omega)
    exact C4 (j+1) (a6 (fun g=>by have:=g.1;rw[u]at this;cases this)) (by omega) (by(try simp only[go_sem,seval])<;>(try simp(disch:=omega) [A5])) (D2N _)
   |false=>
    cases y:out[j].eq with
    |true=>
     repeat' (first|with_reducible apply D0w|simp only[go_sem,seval,G,e6,O,u,V,B3 _ _ q,C3 _ _ q,y]|simp(disch:=omega) only[A5,B3]|omega)
     exact C4 (j+1) (a6 (fun g=>by have:=g.2.1;rw[y]at this;cases this)) (by omega) (by(try simp only[go_sem,seval])<;>(try simp(disch:=omega) [A5])) (D2N _)
    |false=>
     repeat' (first|with_reducible apply D0w|simp only[go_sem,seval,G,e6,O,u,V,B3 _ _ q,C3 _ _ q,y]|omega)
     refine F4 (fun A=>if A=4 then .bool (A4a r out[j] 1)else .undef) [b6,c] ?_;cases ho:A4a r out[j] 1 with
     |false=>
      repeat' (first|simp only[go_sem,seval,e6,O,m6,W,V,B3 _ _ q,C3 _ _ q]|simp(disch:=omega) only[A5,B3]|with_reducible refine P8 (fun H' Q hro hq=>A3G r out[j] 1 (.inl rfl) (by rw[hr.1,hs.1]) (by rw[hr.1];exact hn) hr.2 hs.2 H' (by rw[ho];exact hq)) ?_)
      exact C4 (j+1) (a6 (fun g=>by have:=g.2.2;rw[ho]at this;cases this)) (by omega) (by(try simp only[go_sem,seval])<;>(try simp(disch:=omega) [A5])) (D2N _)
     |true=>
      have hh:hit r out[j]:=⟨u,y,ho⟩
      have ph:=B0q r out j q U hh;have sk:=hr.2.1;have b7:=hs.2.1;have s1:Sz r.k:=I0 (by omega);have s2:Sz out[j].k:=I0 (by omega);repeat' (first|simp only[go_sem,seval,e6,O,m6,W,V,B3 _ _ q,C3 _ _ q]|with_reducible refine P8 (fun H' Q hro hq=>A3G r out[j] 1 (.inl rfl) (by rw[hr.1,hs.1]) (by rw[hr.1];exact hn) hr.2 hs.2 H' (by rw[ho];exact hq)) ?_)
      refine F4 (fun A=>if A=6 then .bool (decide (r.k<out[j].k))else .undef) [b6,c] ?_;repeat' (first|with_reducible apply D0w|simp only[go_sem,seval,e6,O,m6,W,V,B3 _ _ q,C3 _ _ q]|simp(disch:=omega) only[A5,B3]|intro L|with_reducible refine P8 (fun H' Q hro hq=>B3N r.k out[j].k s1 s2 H' hq) ?_|omega)
      ·have hk:r.k<out[j].k:=by assumption
       rw[if_pos hk]at ph;have e:pairs1 (l.take (i+1))=out.set j {out[j]with k:=r.k}:=by rw[ps,ph]
       have el:(pairs1 (l.take (i+1))).length=out.length:=by rw[e,D1t]
       refine C4 (i+1,some c,Hq.set c (.vec 4 (Rw C7 (pairs1 (l.take (i+1)))))) ⟨by simp only[];omega,x.set1 C⟩ (by simp only[];omega) (by(try simp only[go_sem,seval,el,K4])<;>(try simp(disch:=omega) [A5])) ?_;simp only[];rw[e,←Z5 out j {out[j]with k:=r.k} _ rfl];exact D2N _
      ·have hk: ¬r.k<out[j].k:=by omega
       rw[if_neg hk]at ph;have e:pairs1 (l.take (i+1))=out:=by rw[ps,ph]
       refine C4 (i+1,some c,Hp) ⟨by simp only[];omega,by simp only[e];exact x⟩ (by simp only[];omega) (by(try simp only[go_sem,seval,e,K4])<;>(try simp(disch:=omega) [A5])) C
  ·have G:decide ((j:Int)<out.length)=false:=D0z (by omega);have e:pairs1 (l.take (i+1))=out++[r]:=by rw[ps,A7p r out (fun k hk=>U k hk (by omega))]
   have el:(pairs1 (l.take (i+1))).length=out.length+1:=by rw[e];simp
   repeat' (first|simp only[go_sem,seval,G,e6]|intro L)
   rename_i bx;have b8:=L;clear L;refine O3.ap x (e1':=Rw C7 (pairs1 (l.take (i+1)))) C b8 (by simp) (by rw[D6]) (by simp only[D01,D03];omega) (by simp only[D01,D03];omega) (by rw[e,←O9];rfl) fun b' H' h4=>?_;repeat' (first|simp only[go_sem,seval]|simp(disch:=omega) only[A5,B3])
   refine C4 (i+1,some b',H') ⟨by simp only[];omega,h4⟩ (by simp only[];omega) (by(try simp only[go_sem,seval,K4,el])<;>(try simp(disch:=omega) [A5])) (D2N _)
 ·have a5:decide ((i:Int)<l.length)=false:=D0z (by omega);rw[D1B (by omega)]at x hz ol oP;have e1:l.take i=l:=D1B (by omega);rw[e1]at*;have c7:(pairs1 l).length≤1000000:=ol;generalize pairs1 l=m at*;repeat' simp only[go_sem,seval,a5,B3D hz]
  refine C8 [4,59] (fun(p:Nat×List Row×Heap)=>[(60,.int .i64 p.1)]) (fun(p:Nat×List Row×Heap)=>p.2.2) (fun(p:Nat×List Row×Heap)=>p.1≤m.length∧p.2.1.length=m.length∧p.2.1.drop p.1=m.drop p.1∧A0O [] m=A0O (p.2.1.take p.1) (m.drop p.1)∧(∀s∈p.2.1,A4i n 18446744073709551616 s)∧O3 H p.2.2 4 (Rw C7 p.2.1) [] [] o1 none none) (fun(p:Nat×List Row×Heap)=>m.length-p.1) ((0,m,Hp)) (⟨D1H _,rfl,rfl,rfl,oP,x⟩) (by(try simp only[go_sem,seval])<;>(try simp(disch:=omega) [A5])) (by first|exact D2N _|exact A0 (by assumption)|exact B4 (by assumption)|simp only[Heap.Le,Heap.set,Heap.del]at* <;>grind) ?_;clear x oP;rintro Ec rfl ⟨i,X,Hp⟩ ⟨b9,T,a7,z,a4,x⟩;simp only at b9 T a7 z a4 x;by_cases hit:i<m.length
  ·have Y:decide ((i:Int)<m.length)=true:=D0y (by omega);have c8:(i:Int)<m.length:=by omega
   obtain⟨c,rfl⟩: ∃c,o1=some c:=by
    cases o1 with
    |none=>have:=hz rfl;omega
    |some c=>exact⟨c,rfl⟩
   have a9:i<X.length:=by omega
   have c0:m[i]=X[i]:=by
    have h1:=D1R a9;have h2:=D1R hit;rw[a7,h2]at h1;exact(List.cons.inj h1).1
   rw[D1R hit,B0u,c0]at z;repeat' simp only[go_sem,seval,Y]
   refine C8 [4,9,59,60,63] (fun(p:Nat×Row×Heap)=>[(64,.int .i64 p.1)]) (fun(p:Nat×Row×Heap)=>p.2.2) (fun(p:Nat×Row×Heap)=>p.1≤i∧A4i n 18446744073709551616 p.2.1∧A5O X[i] (X.take i)=A5O p.2.1 ((X.take i).drop p.1)∧O3 H p.2.2 4 (Rw C7 (X.set i p.2.1)) [] [] (some c) none none) (fun(p:Nat×Row×Heap)=>i-p.1) ((0,X[i],Hp)) (⟨D1H _,a4 _ (D1A a9),rfl,by rw[List.set_getElem_self];exact x⟩) (by(try simp only[go_sem,seval])<;>(try simp(disch:=omega) [A5])) (by first|exact D2N _|exact A0 (by assumption)|exact B4 (by assumption)|simp only[Heap.Le,Heap.set,Heap.del]at* <;>grind) ?_;clear x;rintro Ec rfl ⟨j,r,Hp⟩ ⟨hj,hr,hm,x⟩;simp only at hj hr hm x;by_cases q:j<i
   ·have I:decide ((j:Int)<i)=true:=D0y (by omega);have c1:j<X.length:=by omega
    have hs:=a4 _ (D1A c1);obtain⟨s,b0⟩: ∃s,s=X[j]:=⟨_,rfl⟩
    rw[←b0]at hs;have dj:(X.take i).drop j=s::(X.take i).drop (j+1):=by
     rw[D1R (by rw[D1e];omega),List.getElem_take,b0]
    rw[dj,B4m]at hm;have yi:(X.set i r).length=X.length:=D1t ..;have b2:i<(X.set i r).length:=by omega
    have b3:j<(X.set i r).length:=by omega
    have gi:(X.set i r)[i]=r:=List.getElem_set_self ..;have gj:(X.set i r)[j]=s:=by rw[List.getElem_set_ne (by omega),b0]
    have d:(i:Int)<X.length:=by omega
    have o:(j:Int)<X.length:=by omega
    have O:Hp c=some (.vec 4 (Rw C7 (X.set i r))):=x.a1;have ri:=B3 (f:=C7) (X.set i r) i b2;have J:=C3 (f:=C7) (X.set i r) i b2;have rj:=B3 (f:=C7) (X.set i r) j b3;have M:=C3 (f:=C7) (X.set i r) j b3;rw[gi]at ri J;rw[gj]at rj M;have W:c∈[c]:=by simp
    cases u:r.eq with
    |true=>
     rw[if_pos (.inl u)]at hm;repeat' (first|with_reducible apply D0w|simp only[go_sem,seval,I,d,o,←T]|omega)
     refine F4 (fun A=>.undef) [c] ?_;repeat' (first|simp only[go_sem,seval,O,W,ri,J,u,yi,d]|simp(disch:=omega) only[A5,B3])
     exact C4 (j+1,r,Hp) ⟨by simp only[];omega,hr,hm,x⟩ (by simp only[];omega) (by(try simp only[go_sem,seval])<;>(try simp(disch:=omega) [A5])) (D2N _)
    |false=>
     cases y:s.eq with
     |true=>
      rw[if_pos (.inr (.inl y))]at hm;repeat' (first|with_reducible apply D0w|simp only[go_sem,seval,I,d,o,←T]|omega)
      refine F4 (fun A=>.undef) [c] ?_;repeat' (first|simp only[go_sem,seval,O,W,ri,J,rj,M,u,y,yi,d,o]|simp(disch:=omega) only[A5,B3])
      exact C4 (j+1,r,Hp) ⟨by simp only[];omega,hr,hm,x⟩ (by simp only[];omega) (by(try simp only[go_sem,seval])<;>(try simp(disch:=omega) [A5])) (D2N _)
     |false=>
      have c2:r.c.length=s.c.length:=by rw[hr.1,hs.1]
      have c3:r.c.length≤1000000:=by rw[hr.1];exact hn
      have b4: ∀(b:Bool),A4a r s (-1)=b→∀(H':Heap) (Q:D→Heap→Prop),Q (.bool b) H'→E6 281 [.agg [.sl 2 (Rw C6 r.c),.bool (decide (r.k<0)),.sl 1 (Rw F5 (C2 r.k.natAbs)),.bool false],.agg [.sl 2 (Rw C6 s.c),.bool (decide (s.k<0)),.sl 1 (Rw F5 (C2 s.k.natAbs)),.bool false],.int .i64 (-1)] H' Q:=fun b hb H' Q hq=>by
       have h0:=A3G (Q:=Q) r s (-1) (.inr rfl) c2 c3 hr.2 hs.2 H' (by rw[hb];exact hq);rw[B6T,B6T,u,y]at h0;exact h0
      repeat' (first|with_reducible apply D0w|simp only[go_sem,seval,I,d,o,←T]|omega)
      cases ho:A4a r s (-1)with
      |false=>
       rw[if_pos (.inr (.inr ho))]at hm;refine F4 (fun A=>if A=17 then .bool false else .undef) [c] ?_;repeat' (first|simp only[go_sem,seval,O,W,ri,J,rj,M,u,y,yi,d,o]|simp(disch:=omega) only[A5,B3]|with_reducible refine P8 (fun H' Q hro hq=>b4 _ ho H' Q hq) ?_)
       exact C4 (j+1,r,Hp) ⟨by simp only[];omega,hr,hm,x⟩ (by simp only[];omega) (by(try simp only[go_sem,seval])<;>(try simp(disch:=omega) [A5])) (D2N _)
      |true=>
       rw[if_neg (by rw[u,y,ho];decide)]at hm;have sk:=hr.2.1;have b7:=hs.2.1;have s1:Sz r.k:=I0 (by omega);have s2:Sz s.k:=I0 (by omega);refine F4 (fun A=>if A=17 then .bool true else .undef) [c] ?_;repeat' (first|simp only[go_sem,seval,O,W,ri,J,rj,M,u,y,yi,d,o]|with_reducible refine P8 (fun H' Q hro hq=>b4 _ ho H' Q hq) ?_)
       rcases Int.lt_trichotomy (r.k+s.k) 0 with g|g|g
       ·rw[if_pos g]at hm;have sg:(r.k+s.k).sign= -1:=Int.sign_eq_neg_one_of_neg g;rw[hm]at z;simp only[]at z;rw[z]at h;refine F4 (fun A=>if A=8 then .agg (C6 (r.k+s.k))else if A=9 then .int .i64 (-1)else .undef) [c] ?_;repeat' (first|simp only[go_sem,seval,O,W,ri,J,rj,M,yi,d,o]|with_reducible refine P8 (fun H' Q hro hq=>A0g r.k s.k s1 s2 H' hq) ?_|with_reducible refine P8 (fun H' Q hro hq=>L8 (r.k+s.k) H' (by rw[sg];exact hq)) ?_)
        exact Fin.nilsl 4 _ (D2O x.le h)
       ·have g1: ¬r.k+s.k<0:=by omega
        rw[if_neg g1,if_pos g]at hm;have sg:(r.k+s.k).sign=0:=by rw[g];rfl
        refine F4 (fun A=>if A=8 then .agg (C6 (r.k+s.k))else if A=9 then .int .i64 0 else .undef) [c] ?_;repeat' (first|with_reducible apply D0w|simp only[go_sem,seval,O,W,ri,J,rj,M,yi,d,o]|simp(disch:=omega) only[A5,B3]|with_reducible refine P8 (fun H' Q hro hq=>A0g r.k s.k s1 s2 H' hq) ?_|with_reducible refine P8 (fun H' Q hro hq=>L8 (r.k+s.k) H' (by rw[sg];exact hq)) ?_|omega)
        refine C4 (j+1,{r with eq:=true},Hp.set c (.vec 4 (Rw C7 (X.set i {r with eq:=true})))) ⟨by simp only[];omega,⟨hr.1,hr.2⟩,hm,x.set1 (D2N _)⟩ (by simp only[];omega) (by(try simp only[go_sem,seval])<;>(try simp(disch:=omega) [A5])) ?_;simp only[];rw[←List.set_set (a:=r) (b:=({r with eq:=true}:Row)),←Z5 (X.set i r) i {r with eq:=true} _ rfl];exact D2N _
       ·have g1: ¬r.k+s.k<0:=by omega
        have g2: ¬r.k+s.k=0:=by omega
        rw[if_neg g1,if_neg g2]at hm;have sg:(r.k+s.k).sign=1:=Int.sign_eq_one_of_pos g;refine F4 (fun A=>if A=8 then .agg (C6 (r.k+s.k))else if A=9 then .int .i64 1 else .undef) [c] ?_;repeat' (first|simp only[go_sem,seval,O,W,ri,J,rj,M,yi,d,o]|simp(disch:=omega) only[A5,B3]|with_reducible refine P8 (fun H' Q hro hq=>A0g r.k s.k s1 s2 H' hq) ?_|with_reducible refine P8 (fun H' Q hro hq=>L8 (r.k+s.k) H' (by rw[sg];exact hq)) ?_)
        exact C4 (j+1,r,Hp) ⟨by simp only[];omega,hr,hm,x⟩ (by simp only[];omega) (by(try simp only[go_sem,seval])<;>(try simp(disch:=omega) [A5])) (D2N _)
   ·have I:decide ((j:Int)<i)=false:=D0z (by omega);have c4:j=i:=by omega
    subst c4;rw[List.drop_eq_nil_of_le (by rw[D1e];omega)]at hm;rw[hm]at z;simp only[A5O]at z;repeat' (first|simp only[go_sem,seval,I]|simp(disch:=omega) only[A5,B3])
    refine C4 (j+1,X.set j r,Hp) ⟨by simp only[];omega,by simp only[D1t];exact T,?_,?_,?_,x⟩ (by simp only[];omega) (by(try simp only[go_sem,seval])<;>(try simp(disch:=omega) [A5])) (D2N _)
    ·show (X.set j r).drop (j+1)=m.drop (j+1);rw[List.drop_set_of_lt (by omega),←D16,←D16,a7]
    ·show A0O [] m=A0O ((X.set j r).take (j+1)) (m.drop (j+1));rw[z,D1F (by rw[D1t];exact a9),List.take_set_of_le (by omega),List.getElem_set_self]
    ·intro s hs;rcases List.mem_or_eq_of_mem_set hs with g|g
     ·exact a4 s g
     ·rw[g];exact hr
  ·have Y:decide ((i:Int)<m.length)=false:=D0z (by omega);rw[List.drop_eq_nil_of_le (by omega),D1B (by omega)]at z;rw[z]at h;repeat' simp only[go_sem,seval,Y]
   refine A60 (by rw[D6];exact T.symm) x.a1 (D2O (O3.one x) h)
end Go.Proofs.YtibphjonmikciaaGreatDoor
namespace Go.Lin
def CS(m:Nat)(c:List Int):Prop:=∀x∈c,x.natAbs<m
def AP(n m:Nat)(l:List Row):Prop:=∀r∈l,A4i n m r
def TA(l:List Row)(X:List Row)(i:Nat):Prop:=Y6 l=(Y6 (l.drop i)).map (X++ ·)
def TS(l X:List Row)(r:Row)(i:Nat):Prop:=Y6 l=(A1H r).bind fun x=>(Y6 (l.drop (i+1))).map ((X++x)++ ·)
end Go.Lin
namespace Go.Proofs.YtibphjonmikciaaGreatDoor
open Go Go.Av Go.Lin
attribute [local irreducible] ACalls S3
set_option maxHeartbeats 4000000 in
theorem C3r{Q}(l:List Row)(n:Nat)(hlen:l.length≤1000000)(hn:n≤1000000)(hP:AP n 4611686018427387904 l)(hS: ∀r∈l,CS 4294967296 r.c)(H:Heap)(h:Q (B0v (B0W l)) H):E6 220 [.sl 4 (Rw C7 l)] H Q:=by
 refine B2 [(17,.par),(19,.par),(23,.par)] A8 Tryz.func220 rfl ?_;simp only[go_sem,seval,Tryz.results220];have z0:D.nilsl=J3 4 0 none:=rfl;unfold B0W at h;repeat' (first|with_reducible apply D0w|simp only[go_sem,seval]|simp(disch:=omega) only[A5,B3]|simp(disch:=first|omega|grind) only[B9]|(intro u;try simp only[A6]at u)|omega)
 refine C8 [15,16] (fun(p:Nat×List Row×Option Nat)=>[(17,.int .i64 p.1),(4,J3 4 p.2.1.length p.2.2)]) (fun(p:Nat×List Row×Option Nat)=>putB H 4 (Rw C7 p.2.1) p.2.2) (fun(p:Nat×List Row×Option Nat)=>p.1≤l.length∧p.2.1.length≤p.1∧AP n 4611686018427387904 p.2.1∧TA l p.2.1 p.1∧(p.2.2=none→p.2.1= [])∧(∀b,p.2.2=some b→H b=none)) (fun(p:Nat×List Row×Option Nat)=>l.length-p.1) ((0,[],none)) (⟨D1H _,D1G _,(fun s hs=>by cases hs),(by simp[TA]),by simp,by simp⟩) (by(try simp only[go_sem,seval])<;>(try simp(disch:=omega) [A5])) (by first|exact D2N _|exact A0 (by assumption)|exact B4 (by assumption)|simp only[Heap.Le,Heap.set,Heap.del]at* <;>grind) ?_;rintro Ec rfl ⟨i,X,o1⟩ ⟨hi,i9,b0,hT,ho,c3⟩;simp only at hi i9 b0 hT ho c3;have h3:=O3.put (H:=H) (sz:=4) (es:=Rw C7 X) (ob:=o1) (fun e=>by rw[ho e];rfl) c3;generalize putB H 4 (Rw C7 X) o1=Hp at h3⊢;by_cases c4:i<l.length
 ·have U:decide ((i:Int)<l.length)=true:=D0y (by omega);have k9:(i:Int)<l.length:=by omega
  have hr:=hP _ (D1A c4);have c5:=hS _ (D1A c4);have st:TS l X l[i] i:=B4n c4 hT;obtain⟨r,g8⟩: ∃r,r=l[i]:=⟨_,rfl⟩
  rw[←g8]at hr c5 st;have l0:r.c.length≤1000000:=by rw[hr.1];exact hn
  repeat' (first|with_reducible apply D0w|simp only[go_sem,seval,U,B3 _ _ c4,C3 _ _ c4,←g8]|simp(disch:=first|omega|grind) only[B9]|(intro u;try simp only[A6]at u)|omega)
  rename_i O h6 M;have h7:=u;clear u;have g9:O≠M:=Ne.symm h7.1;have e6:(Hp.set O (.box (C7 r))) O=some (.box (C7 r)):=A3 _ _;have g7:(Hp.set O (.box (C7 r))) M=none:=by rw[A4 _ h7.1];exact h7.2
  have c8:Hp.Le (Hp.set O (.box (C7 r))):=A0 h6;generalize Hp.set O (.box (C7 r))=B6 at e6 g7 c8⊢;clear h7;have c9:=B3W r.c 4294967295 (fun x hx=>by have:=c5 x hx;omega);have h0: ∀(a:Int) (_:Sz a) (H:Heap) (Q:D→Heap→Prop),Q (.agg (C6 (a.natAbs:Nat))) H→E6 244 [.agg (C6 a),.agg [.bool false,.nilsl]] H Q:=fun a ha H Q hq=>by
   refine R6 (args':=[.agg (C6 a),.agg (C6 0)]) rfl (fun i d d' h1 h2=>?_) (B6d a 0 ha (by decide) H (by rw[show (0:Int).natAbs=0 from rfl,Nat.gcd_zero_right];exact hq))
   match i with
   |0=>cases h1;cases h2;exact .same _
   |1=>cases h1;cases h2;exact A8q
   |i+2=>cases h1
  repeat' (first|with_reducible apply D0w|simp only[go_sem,seval,e6,A4 _ g9]|simp(disch:=omega) only[A5,B3]|simp(disch:=first|omega|grind) only[B9]|(intro u;try simp only[A6]at u)|omega)
  refine C8 [4,6,7,15,16,17,22,23] (fun(j:Nat)=>[(24,.int .i64 j)]) (fun(j:Nat)=>B6.set M (.box (gB j (A3L r.c j:Nat)))) (fun(j:Nat)=>j≤r.c.length) (fun(j:Nat)=>r.c.length-j) (0) (D1H _) (by(try simp only[go_sem,seval])<;>(try simp(disch:=omega) [A5])) (by first|exact D2N _|exact A0 (by assumption)|exact B4 (by assumption)|simp only[Heap.Le,Heap.set,Heap.del]at* <;>grind) ?_
  ·rintro Ec rfl j hj;by_cases A:j<r.c.length
   ·have U:decide ((j:Int)<r.c.length)=true:=D0y (by omega);have b3:(j:Int)<r.c.length:=by omega
    have c1:=c5 _ (D1A A);have s1:Sz r.c[j]:=I0 (by omega);have gs:=A7q r.c j A;have gj:=c9 j hj;cases j with
    |zero=>
     rw[A4j,Nat.gcd_zero_right]at gs;have eg:gB 0 (A3L r.c 0:Nat)= [.bool false,.nilsl]:=rfl;rw[eg];repeat' (first|with_reducible apply D0w|simp only[go_sem,seval,U,b3,B3 _ _ A,C3 _ _ A]|simp(disch:=omega) only[A5,B3]|simp(disch:=first|omega|grind) only[B9]|(intro u;try simp only[A6]at u)|with_reducible refine h0 _ s1 _ _ ?_|omega)
     rename_i b9;have h9:=u;clear u;refine C4 (0+1) (by omega) (by omega) (by(try simp only[go_sem,seval])<;>(try simp(disch:=omega) [A5])) ?_;rw[A5d,gs];exact(by simp only[E3,D1,D2]at* <;>grind)
    |succ j=>
     have hg:Sz ((A3L r.c (j+1):Nat):Int):=I0 (by omega);have k3: ∀(H:Heap) (Q:D→Heap→Prop),Q (.agg (C6 ((A3L r.c (j+1+1):Nat):Int))) H→E6 244 [.agg (C6 r.c[j+1]),.agg (C6 ((A3L r.c (j+1):Nat):Int))] H Q:=fun H Q hq=>
      B6d _ _ s1 (by omega) H (by rw[Int.natAbs_natCast,←gs];exact hq)
     rw[A5d];repeat' (first|with_reducible apply D0w|simp only[go_sem,seval,U,b3,B3 _ _ A,C3 _ _ A]|simp(disch:=omega) only[A5,B3]|simp(disch:=first|omega|grind) only[B9]|(intro u;try simp only[A6]at u)|with_reducible refine k3 _ _ ?_|omega)
     rename_i b9;have h9:=u;clear u;refine C4 (j+1+1) (by omega) (by omega) (by(try simp only[go_sem,seval])<;>(try simp(disch:=omega) [A5])) ?_;rw[A5d];exact(by simp only[E3,D1,D2]at* <;>grind)
   ·have U:decide ((j:Int)<r.c.length)=false:=D0z (by omega);have d0:j=r.c.length:=by omega
    subst d0;rw[A6Y];have c9:=c9 _ (D1G _);rw[A6Y]at c9;have hG:NilR (.agg (gB r.c.length (gcdR r.c:Nat))) (.agg (C6 (gcdR r.c:Nat))):=by have:=C3o r.c r.c.length;rwa [A6Y]at this
    have e4:gcdR r.c≠0→gB r.c.length (gcdR r.c:Nat)=C6 (gcdR r.c:Nat):=fun g=>by
     cases hl:r.c.length with
     |zero=>rw[D1K hl]at g;exact absurd rfl g
     |succ k=>exact A5d _ _
    obtain⟨d1,d2,hd⟩: ∃d1 d2,gB r.c.length (gcdR r.c:Nat)= [d1,d2]:=by
     unfold gB;split
     ·exact⟨_,_,rfl⟩
     ·exact⟨_,_,rfl⟩
    rw[hd]at hG e4⊢;have L:A1H r=if gcdR r.c=0 then(if r.k<0∨(r.eq=true∧0<r.k)then none else some [])else if gcdR r.c=1 then some [r]else if r.eq=true∧r.k.fdiv (gcdR r.c:Nat)*(gcdR r.c:Nat)-r.k≠0 then none else some [⟨r.c.map (Int.fdiv · (gcdR r.c:Nat)),r.k.fdiv (gcdR r.c:Nat),r.eq⟩]:=rfl
    generalize gcdR r.c=g at c9 hG e4 L;have sgn: ∀(s:Int),(g:Int).sign=s→∀(H:Heap) (Q:D→Heap→Prop),Q (.int .i64 s) H→E6 245 [.agg [d1,d2]] H Q:=fun s hs H Q hq=>by
     refine R6 (args':=[.agg (C6 (g:Nat))]) rfl (fun i d d' h1 h2=>?_) (L8 (g:Int) H (by rw[hs];exact hq))
     match i with
     |0=>cases h1;cases h2;exact hG
     |i+1=>cases h1
    have e7:(B6.set M (.box [d1,d2])) M=some (.box [d1,d2]):=A3 _ _;have a4:(B6.set M (.box [d1,d2])) O=some (.box (C7 r)):=by rw[A4 _ g9];exact e6
    have V:Hp.Le (B6.set M (.box [d1,d2])):=c8.trans (A0 g7);generalize B6.set M (.box [d1,d2])=B7 at e7 a4 V⊢;clear e6 g7 c8 h0 hd;have b4:A1H r=none→Q (.tuple [.sl 4 [],.bool false]) H:=fun e=>by
     unfold TS at st;rw[e]at st;rw[st]at h;exact h
    by_cases g0:g=0
    ·rw[if_pos g0]at L;have d3:((g:Nat):Int).sign=0:=by rw[g0];rfl
     have sk:=hr.2.1;by_cases k1:r.k<0
     ·rw[if_pos (.inl k1)]at L;have sg:r.k.sign= -1:=Int.sign_eq_neg_one_of_neg k1;repeat' (first|simp only[go_sem,seval,U,e7,a4,sg]|with_reducible refine sgn 0 d3 _ _ ?_|with_reducible refine L8 r.k _ ?_)
      exact Fin.nilsl 4 _ (D2O (h3.le.trans V) (b4 L))
     ·cases a5:r.eq with
      |true=>
       by_cases k2:0<r.k
       ·rw[if_pos (.inr ⟨a5,k2⟩)]at L;have sg:r.k.sign=1:=Int.sign_eq_one_of_pos k2;repeat' (first|simp only[go_sem,seval,U,e7,a4,sg,a5]|with_reducible refine sgn 0 d3 _ _ ?_|with_reducible refine L8 r.k _ ?_)
        exact Fin.nilsl 4 _ (D2O (h3.le.trans V) (b4 L))
       ·have k0:r.k=0:=by omega
        rw[if_neg (by omega)]at L;have sg:r.k.sign=0:=by rw[k0];rfl
        repeat' (first|simp only[go_sem,seval,U,e7,a4,sg,a5]|simp(disch:=omega) only[A5,B3]|with_reducible refine sgn 0 d3 _ _ ?_|with_reducible refine L8 r.k _ ?_)
        refine C4 (i+1,X,o1) ⟨by simp only[];omega,by simp only[];omega,b0,?_,ho,c3⟩ (by simp only[];omega) (by(try simp only[go_sem,seval])<;>(try simp(disch:=omega) [A5])) (h3.putle.trans V);unfold TS at st;rw[L]at st;simp only[TA];rw[st];simp
      |false=>
       have h8:A1H r=some []:=by rw[L,if_neg (by rw[a5];simp;omega)]
       rcases Int.lt_trichotomy 0 r.k with k2|k2|k2
       ·have sg:r.k.sign=1:=Int.sign_eq_one_of_pos k2;repeat' (first|simp only[go_sem,seval,U,e7,a4,sg,a5]|simp(disch:=omega) only[A5,B3]|with_reducible refine sgn 0 d3 _ _ ?_|with_reducible refine L8 r.k _ ?_)
        refine C4 (i+1,X,o1) ⟨by simp only[];omega,by simp only[];omega,b0,?_,ho,c3⟩ (by simp only[];omega) (by(try simp only[go_sem,seval])<;>(try simp(disch:=omega) [A5])) (h3.putle.trans V);unfold TS at st;rw[h8]at st;simp only[TA];rw[st];simp
       ·have sg:r.k.sign=0:=by rw[←k2];rfl
        repeat' (first|simp only[go_sem,seval,U,e7,a4,sg,a5]|simp(disch:=omega) only[A5,B3]|with_reducible refine sgn 0 d3 _ _ ?_|with_reducible refine L8 r.k _ ?_)
        refine C4 (i+1,X,o1) ⟨by simp only[];omega,by simp only[];omega,b0,?_,ho,c3⟩ (by simp only[];omega) (by(try simp only[go_sem,seval])<;>(try simp(disch:=omega) [A5])) (h3.putle.trans V);unfold TS at st;rw[h8]at st;simp only[TA];rw[st];simp
       ·omega
    ·rw[if_neg g0]at L;have i0:=e4 g0;rw[i0]at e7;clear e4 hG i0 sgn;have gi:((g:Nat):Int)≠0:=by omega
     have gb:((g:Nat):Int).natAbs<4294967296:=by omega
     have sk:=hr.2.1;have s1:Sz r.k:=I0 (by omega);have s2:Sz ((g:Nat):Int):=I0 (by omega);obtain⟨G,e9⟩: ∃G:Int,G=(g:Nat):=⟨_,rfl⟩
     rw[←e9]at L e7 gi gb s2;have sg: ¬G.sign=0:=by rw[Int.sign_eq_zero_iff_zero];exact gi
     by_cases g1:g=1
     ·rw[if_pos g1]at L;have f0:(G.natAbs=1)=True:=by simp[e9,g1]
      repeat' (first|simp only[go_sem,seval,U,e7,a4,sg,f0]|(intro u;try simp only[A6]at u)|with_reducible refine L8 G _ ?_|with_reducible refine B0a G _ ?_)
      rename_i bx;have b8:=u;clear u;refine O3.ap h3 (e1':=Rw C7 (X++[r])) V b8 (by simp) (by rw[D6]) (by simp only[D01,D03];omega) (by simp only[D01,D03];omega) (by rw[←O9];rfl) fun b' H' h4=>?_;repeat' (first|simp only[go_sem,seval]|simp(disch:=omega) only[A5,B3])
      refine C4 (i+1,X++[r],some b') ⟨by simp only[];omega,by simp only[D02,D01,D03];omega,fun s hs=>?_,?_,by simp,fun b e=>h4.n1 b e⟩ (by simp only[];omega) (by(try simp only[go_sem,seval,D02,K4])<;>(try simp(disch:=omega) [A5])) h4.putle
      ·rcases D1M.1 hs with q|q
       ·exact b0 s q
       ·simp at q;rw[q];exact hr
      ·unfold TS at st;rw[L]at st;exact st
     ·rw[if_neg g1]at L;have f0:(G.natAbs=1)=False:=by simp;omega
      obtain⟨K,hK⟩: ∃K,K=r.k.fdiv G:=⟨_,rfl⟩
      rw[←hK]at L;have k8:K.natAbs≤r.k.natAbs:=by rw[hK,e9];exact A3M _ _ g0
      have s3:Sz K:=I0 (by omega);have k4: ∀(H:Heap) (Q:D→Heap→Prop),Q (.agg (C6 K)) H→E6 247 [.agg (C6 r.k),.agg (C6 G)] H Q:=fun H Q hq=>A3r r.k G s1 gi gb H (by rw[←hK];exact hq);repeat' (first|simp only[go_sem,seval,U,e7,a4,sg,f0]|(intro u;try simp only[A6]at u)|with_reducible refine L8 G _ ?_|with_reducible refine B0a G _ ?_|with_reducible refine k4 _ _ ?_)
      rename_i I;have e8:=u;clear u;have i1:M≠I:=fun g=>by rw[g,e8]at e7;cases e7
      have i2:O≠I:=fun g=>by rw[g,e8]at a4;cases a4
      have c7:(B7.set I (.box (C6 K))) M=some (.box (C6 G)):=by rw[A4 _ i1];exact e7
      have c6:(B7.set I (.box (C6 K))) O=some (.box (C7 r)):=by rw[A4 _ i2];exact a4
      have c2:(B7.set I (.box (C6 K))) I=some (.box (C6 K)):=A3 _ _;have J:Hp.Le (B7.set I (.box (C6 K))):=V.trans (A0 e8);generalize B7.set I (.box (C6 K))=B8 at c7 c6 c2 J⊢;clear e7 a4 V e8;have m6:O∈[O,M,I]:=by simp
      have m7:M∈[O,M,I]:=by simp
      have f4:I∈[O,M,I]:=by simp
      have i3:O∈[O,I]:=by simp
      have i4:I∈[O,I]:=by simp
      cases a5:r.eq with
      |true=>
       have a3:=A1d (a:=K) (b:=G) (m:=4611686018427387904) (n:=4294967296) (by omega) (by omega);have s4:Sz (K*G):=I0 (by omega);obtain⟨Z,hZ⟩: ∃Z,Z=K*G-r.k:=⟨_,rfl⟩
       have i5: ∀(H:Heap) (Q:D→Heap→Prop),Q (.agg (C6 Z)) H→E6 249 [.agg (C6 (K*G)),.agg (C6 r.k)] H Q:=fun H Q hq=>A0P (K*G) r.k s4 s1 H (by rw[←hZ];exact hq);refine F4 (fun i'=>if i'=5 then .agg (C6 (K*G))else if i'=8 then .agg (C6 Z)else if i'=9 then .int .i64 Z.sign else .undef) [O,M,I] ?_;by_cases z0:Z=0
       ·have sz:Z.sign=0:=by rw[z0];rfl
        have b1:A1H r=some [⟨r.c.map (Int.fdiv · G),K,r.eq⟩]:=by rw[L,if_neg (by rw[←hZ,z0];simp)]
        rw[sz];repeat' (first|simp only[go_sem,seval,c6,c7,c2,m6,m7,f4,a5]|with_reducible refine P8 (fun H' Q hro hq=>T6 K G s3 s2 H' hq) ?_|with_reducible refine P8 (fun H' Q hro hq=>i5 H' Q hq) ?_|with_reducible refine P8 (fun H' Q hro hq=>L8 Z H' (by rw[sz];exact hq)) ?_)
        obtain⟨C,hC⟩: ∃C,C=r.c.map (Int.fdiv · G):=⟨_,rfl⟩
        have W:C.length=r.c.length:=by rw[hC];simp
        refine F4 (fun i'=>.undef) [O,I] ?_;repeat' (first|with_reducible apply D0w|simp only[go_sem,seval,c6,c7,c2,i3,i4]|simp(disch:=first|omega|grind) only[B9]|(intro u;try simp only[A6]at u)|omega)
        rename_i bv hv z;have a6:=u;clear u;have nb:z≠bv:=a6.1;have k6:O≠bv∧O≠z:=⟨(fun g=>by rw[g,hv]at c6;cases c6),(fun g=>by rw[g,a6.2]at c6;cases c6)⟩
        have k7:M≠bv∧M≠z:=⟨(fun g=>by rw[g,hv]at c7;cases c7),(fun g=>by rw[g,a6.2]at c7;cases c7)⟩
        rw[show List.replicate r.c.length [D.bool false,.nilsl]=m0 C r.c.length 0 from(A2j _ _).symm];obtain⟨RR,d4⟩: ∃RR:Row,RR=⟨C,K,r.eq⟩:=⟨_,rfl⟩
        refine C8 [4,6,7,12,15,16,17,76,77] (fun(j:Nat)=>[(78,.int .i64 j)]) (fun(j:Nat)=>(B8.set bv (.vec 2 (m0 C r.c.length j))).set z (.box [.vec bv 2 0 r.c.length,.bool (decide (K<0)),.sl 1 (Rw F5 (C2 K.natAbs)),.bool r.eq])) (fun(j:Nat)=>j≤r.c.length) (fun(j:Nat)=>r.c.length-j) (0) (D1H _) (by(try simp only[go_sem,seval])<;>(try simp(disch:=omega) [A5])) (by first|exact D2N _|exact A0 (by assumption)|exact B4 (by assumption)|simp only[Heap.Le,Heap.set,Heap.del]at* <;>grind) ?_;rintro Ec rfl j hj;have f5:=A3s C r.c.length j W hj;by_cases A:j<r.c.length
        ·have a7:decide ((j:Int)<r.c.length)=true:=D0y (by omega);have b3:(j:Int)<r.c.length:=by omega
         have c1:=c5 _ (D1A A);have sj:Sz r.c[j]:=I0 (by omega);have k5:j<C.length:=by omega
         have f6:C[j]=r.c[j].fdiv G:=by simp only[hC,D1m]
         have a9:=A2I C r.c.length j W A (C6 (r.c[j].fdiv G)) (by rw[f6]);have f7:=A1F C r.c.length j j W (D1G _) A;have d5:=A1E C r.c.length j j W (D1G _) A;repeat' (first|with_reducible apply D0w|simp only[go_sem,seval,a7,b3,B3 _ _ A,C3 _ _ A]|(intro u;try simp only[A6]at u)|omega)
         rename_i T;have b2:=u;clear u;have f8:z∈[M,z,T]:=by simp
         have f9:T∈[M,z,T]:=by simp
         have p7:M∈[M,z,T]:=by simp
         have j1:=b2.1;have j2:=b2.2.1;have j3:M≠T:=fun g=>by have:=b2.2.2;rw[←g,c7]at this;cases this
         have v7:((B8.set bv (.vec 2 (m0 C r.c.length j))).set z (.box [.vec bv 2 0 r.c.length,.bool (decide (K<0)),.sl 1 (Rw F5 (C2 K.natAbs)),.bool r.eq])) M=some (.box (C6 G)):=by rw[A4 _ k7.2,A4 _ k7.1];exact c7
         obtain⟨y,hy⟩: ∃y,y=r.c[j].fdiv G:=⟨_,rfl⟩
         have g2: ∀(H:Heap) (Q:D→Heap→Prop),Q (.agg (C6 y)) H→E6 247 [.agg (C6 r.c[j]),.agg (C6 G)] H Q:=fun H Q hq=>A3r r.c[j] G sj gi gb H (by rw[←hy];exact hq);rw[←hy]at a9;refine F4 (fun i'=>if i'=5 then .agg (C6 y)else .undef) [M,z,T] ?_;repeat' (first|with_reducible apply D0w|simp only[go_sem,seval,p7,f8,f9,A4 _ j3,A4 _ k7.2,A4 _ k7.1,c7,b3,f5,f7,d5,a9]|simp(disch:=omega) only[A5,B3]|simp(disch:=first|omega|grind) only[B9]|with_reducible refine P8 (fun H' Q hro hq=>g2 H' Q hq) ?_|omega)
         refine C4 (j+1) (by omega) (by omega) (by(try simp only[go_sem,seval])<;>(try simp(disch:=omega) [A5])) ?_;rw[←a9];intro k o hk;have g3:k≠T:=fun g=>by rw[g,A4 _ j1,A4 _ j2,b2.2.2]at hk;cases hk
         by_cases e:k=bv
         ·subst e;rw[A4 _ nb.symm,A3]at hk;rw[A3];exact hk
         ·rw[A4 _ e,A4 _ g3];by_cases a0:k=z
          ·subst a0;rw[A3]at hk⊢;exact hk
          ·rw[A4 _ a0,A4 _ e]at hk⊢;exact hk
        ·have a7:decide ((j:Int)<r.c.length)=false:=D0z (by omega);have d0:j=r.c.length:=by omega
         subst d0;rw[A3t C _ W];repeat' (first|simp only[go_sem,seval,a7,A4 _ k6.1,A4 _ k6.2,c6]|(intro u;try simp only[A6]at u))
         rename_i bx;have b8:=u;clear u;have c0:H.Le B8:=h3.le.trans J;have g4:H bv=none:=c0.none hv;have q1:(H.set bv (.vec 2 (Rw C6 C))).Le (((B8.set bv (.vec 2 (Rw C6 C))).set z (.box [.vec bv 2 0 r.c.length,.bool (decide (K<0)),.sl 1 (Rw F5 (C2 K.natAbs)),.bool r.eq])).set O (.box [.vec bv 2 0 r.c.length,.bool (decide (K<0)),.sl 1 (Rw F5 (C2 K.natAbs)),.bool r.eq])):=by
          intro k o hk;by_cases e:k=bv
          ·subst e;rw[A4 _ k6.1.symm,A4 _ nb.symm,A3];rw[A3]at hk;exact hk
          ·rw[A4 _ e]at hk;have e6:k≠O:=fun g=>by have:=h3.le _ _ hk;rw[g,h6]at this;cases this
           have a0:k≠z:=fun g=>by have:=c0 _ _ hk;rw[g,a6.2]at this;cases this
           rw[A4 _ e6,A4 _ a0,A4 _ e];exact c0 _ _ hk
         have q2:Hp.Le (((B8.set bv (.vec 2 (Rw C6 C))).set z (.box [.vec bv 2 0 r.c.length,.bool (decide (K<0)),.sl 1 (Rw F5 (C2 K.natAbs)),.bool r.eq])).set O (.box [.vec bv 2 0 r.c.length,.bool (decide (K<0)),.sl 1 (Rw F5 (C2 K.natAbs)),.bool r.eq])):=by
          intro k o hk;have e:k≠bv:=fun g=>by have:=J _ _ hk;rw[g,hv]at this;cases this
          have e6:k≠O:=fun g=>by rw[g,h6]at hk;cases hk
          have a0:k≠z:=fun g=>by have:=J _ _ hk;rw[g,a6.2]at this;cases this
          rw[A4 _ e6,A4 _ a0,A4 _ e];exact J _ _ hk
         have d6:=h3.base q1 q2 (fun b g5 g6=>by rw[A4 _ (fun g=>g5 (by rw[g];exact J.none hv))];exact g6);refine O3.ap d6 (e1':=Rw C7 X++[[.vec bv 2 0 r.c.length,.bool (decide (K<0)),.sl 1 (Rw F5 (C2 K.natAbs)),.bool r.eq]]) (D2N _) (by simp only[A6];simp only[b8,ne_eq,not_false_eq_true,and_self]) (by simp) (by rw[D6]) (by simp only[D01,D03];omega) (by simp only[D01,D03];omega) rfl fun b' H' h4=>?_;clear d6 q1 q2 b8;repeat' (first|simp only[go_sem,seval]|simp(disch:=omega) only[A5,B3])
         have d7:=h4.n1 _ rfl;have d8:bv≠b':=fun g=>by rw[←g,A3]at d7;cases d7
         have eX:Rw C7 (X++[RR])=Rw C7 X++[.sl 2 (Rw C6 C)::[.bool (decide (K<0)),.sl 1 (Rw F5 (C2 K.natAbs)),.bool r.eq]]:=by rw[←O9,d4];rfl
         have d9:=B3X hr b1;rw[←hC,←d4]at d9 b1;refine B59 (i+1,X++[RR],some b') ⟨by simp only[];omega,by simp only[D02,D01,D03];omega,fun s hs=>?_,?_,by simp,fun b e=>?_⟩ (by simp only[];omega) ?_
         ·rcases D1M.1 hs with q|q
          ·exact b0 s q
          ·exact d9.1 s q
         ·unfold TS at st;rw[b1]at st;exact st
         ·have:=h4.n1 _ e;rw[A4 _ (by cases e;exact d8.symm)]at this;exact this
         ·show A1A _ (H.set b' (.vec 4 (Rw C7 (X++[RR])))) _ _;rw[eX];refine A1D (by(try simp only[go_sem,seval,D02,K4])<;>(try simp(disch:=omega) [A5])) (by rw[D6,W]) h4.a1 (h4.le _ _ (A3 _ _)) d8 (fun k o hk ho=>?_);have e0:k≠bv:=fun g=>by rw[g,g4]at ho;cases ho
          exact⟨e0,h4.le k o (by rw[A4 _ e0];exact ho)⟩
       ·have sz: ¬Z.sign=0:=by rw[Int.sign_eq_zero_iff_zero];exact z0
        have b1:A1H r=none:=by rw[L,if_pos ⟨a5,by rw[←hZ];exact z0⟩]
        repeat' (first|simp only[go_sem,seval,c6,c7,c2,m6,m7,f4,a5,sz]|with_reducible refine P8 (fun H' Q hro hq=>T6 K G s3 s2 H' hq) ?_|with_reducible refine P8 (fun H' Q hro hq=>i5 H' Q hq) ?_|with_reducible refine P8 (fun H' Q hro hq=>L8 Z H' hq) ?_)
        exact Fin.nilsl 4 _ (D2O (h3.le.trans J) (b4 b1))
      |false=>
       have b1:A1H r=some [⟨r.c.map (Int.fdiv · G),K,r.eq⟩]:=by rw[L,if_neg (by rw[a5];simp)]
       refine F4 (fun i'=>.undef) [O,M,I] ?_;repeat' simp only[go_sem,seval,c6,c7,c2,m6,m7,f4,a5]
       obtain⟨C,hC⟩: ∃C,C=r.c.map (Int.fdiv · G):=⟨_,rfl⟩
       have W:C.length=r.c.length:=by rw[hC];simp
       refine F4 (fun i'=>.undef) [O,I] ?_;repeat' (first|with_reducible apply D0w|simp only[go_sem,seval,c6,c7,c2,i3,i4]|simp(disch:=first|omega|grind) only[B9]|(intro u;try simp only[A6]at u)|omega)
       rename_i bv hv z;have a6:=u;clear u;have nb:z≠bv:=a6.1;have k6:O≠bv∧O≠z:=⟨(fun g=>by rw[g,hv]at c6;cases c6),(fun g=>by rw[g,a6.2]at c6;cases c6)⟩
       have k7:M≠bv∧M≠z:=⟨(fun g=>by rw[g,hv]at c7;cases c7),(fun g=>by rw[g,a6.2]at c7;cases c7)⟩
       rw[show List.replicate r.c.length [D.bool false,.nilsl]=m0 C r.c.length 0 from(A2j _ _).symm];obtain⟨RR,d4⟩: ∃RR:Row,RR=⟨C,K,r.eq⟩:=⟨_,rfl⟩
       refine C8 [4,6,7,12,15,16,17,76,77] (fun(j:Nat)=>[(78,.int .i64 j)]) (fun(j:Nat)=>(B8.set bv (.vec 2 (m0 C r.c.length j))).set z (.box [.vec bv 2 0 r.c.length,.bool (decide (K<0)),.sl 1 (Rw F5 (C2 K.natAbs)),.bool r.eq])) (fun(j:Nat)=>j≤r.c.length) (fun(j:Nat)=>r.c.length-j) (0) (D1H _) (by(try simp only[go_sem,seval])<;>(try simp(disch:=omega) [A5])) (by first|exact D2N _|exact A0 (by assumption)|exact B4 (by assumption)|simp only[Heap.Le,Heap.set,Heap.del]at* <;>grind) ?_;rintro Ec rfl j hj;have f5:=A3s C r.c.length j W hj;by_cases A:j<r.c.length
       ·have a7:decide ((j:Int)<r.c.length)=true:=D0y (by omega);have b3:(j:Int)<r.c.length:=by omega
        have c1:=c5 _ (D1A A);have sj:Sz r.c[j]:=I0 (by omega);have k5:j<C.length:=by omega
        have f6:C[j]=r.c[j].fdiv G:=by simp only[hC,D1m]
        have a9:=A2I C r.c.length j W A (C6 (r.c[j].fdiv G)) (by rw[f6]);have f7:=A1F C r.c.length j j W (D1G _) A;have d5:=A1E C r.c.length j j W (D1G _) A;repeat' (first|with_reducible apply D0w|simp only[go_sem,seval,a7,b3,B3 _ _ A,C3 _ _ A]|(intro u;try simp only[A6]at u)|omega)
        rename_i T;have b2:=u;clear u;have f8:z∈[M,z,T]:=by simp
        have f9:T∈[M,z,T]:=by simp
        have p7:M∈[M,z,T]:=by simp
        have j1:=b2.1;have j2:=b2.2.1;have j3:M≠T:=fun g=>by have:=b2.2.2;rw[←g,c7]at this;cases this
        have v7:((B8.set bv (.vec 2 (m0 C r.c.length j))).set z (.box [.vec bv 2 0 r.c.length,.bool (decide (K<0)),.sl 1 (Rw F5 (C2 K.natAbs)),.bool r.eq])) M=some (.box (C6 G)):=by rw[A4 _ k7.2,A4 _ k7.1];exact c7
        obtain⟨y,hy⟩: ∃y,y=r.c[j].fdiv G:=⟨_,rfl⟩
        have g2: ∀(H:Heap) (Q:D→Heap→Prop),Q (.agg (C6 y)) H→E6 247 [.agg (C6 r.c[j]),.agg (C6 G)] H Q:=fun H Q hq=>A3r r.c[j] G sj gi gb H (by rw[←hy];exact hq);rw[←hy]at a9;refine F4 (fun i'=>if i'=5 then .agg (C6 y)else .undef) [M,z,T] ?_;repeat' (first|with_reducible apply D0w|simp only[go_sem,seval,p7,f8,f9,A4 _ j3,A4 _ k7.2,A4 _ k7.1,c7,b3,f5,f7,d5,a9]|simp(disch:=omega) only[A5,B3]|simp(disch:=first|omega|grind) only[B9]|with_reducible refine P8 (fun H' Q hro hq=>g2 H' Q hq) ?_|omega)
        refine C4 (j+1) (by omega) (by omega) (by(try simp only[go_sem,seval])<;>(try simp(disch:=omega) [A5])) ?_;rw[←a9];intro k o hk;have g3:k≠T:=fun g=>by rw[g,A4 _ j1,A4 _ j2,b2.2.2]at hk;cases hk
        by_cases e:k=bv
        ·subst e;rw[A4 _ nb.symm,A3]at hk;rw[A3];exact hk
        ·rw[A4 _ e,A4 _ g3];by_cases a0:k=z
         ·subst a0;rw[A3]at hk⊢;exact hk
         ·rw[A4 _ a0,A4 _ e]at hk⊢;exact hk
       ·have a7:decide ((j:Int)<r.c.length)=false:=D0z (by omega);have d0:j=r.c.length:=by omega
        subst d0;rw[A3t C _ W];repeat' (first|simp only[go_sem,seval,a7,A4 _ k6.1,A4 _ k6.2,c6]|(intro u;try simp only[A6]at u))
        rename_i bx;have b8:=u;clear u;have c0:H.Le B8:=h3.le.trans J;have g4:H bv=none:=c0.none hv;have q1:(H.set bv (.vec 2 (Rw C6 C))).Le (((B8.set bv (.vec 2 (Rw C6 C))).set z (.box [.vec bv 2 0 r.c.length,.bool (decide (K<0)),.sl 1 (Rw F5 (C2 K.natAbs)),.bool r.eq])).set O (.box [.vec bv 2 0 r.c.length,.bool (decide (K<0)),.sl 1 (Rw F5 (C2 K.natAbs)),.bool r.eq])):=by
         intro k o hk;by_cases e:k=bv
         ·subst e;rw[A4 _ k6.1.symm,A4 _ nb.symm,A3];rw[A3]at hk;exact hk
         ·rw[A4 _ e]at hk;have e6:k≠O:=fun g=>by have:=h3.le _ _ hk;rw[g,h6]at this;cases this
          have a0:k≠z:=fun g=>by have:=c0 _ _ hk;rw[g,a6.2]at this;cases this
          rw[A4 _ e6,A4 _ a0,A4 _ e];exact c0 _ _ hk
        have q2:Hp.Le (((B8.set bv (.vec 2 (Rw C6 C))).set z (.box [.vec bv 2 0 r.c.length,.bool (decide (K<0)),.sl 1 (Rw F5 (C2 K.natAbs)),.bool r.eq])).set O (.box [.vec bv 2 0 r.c.length,.bool (decide (K<0)),.sl 1 (Rw F5 (C2 K.natAbs)),.bool r.eq])):=by
         intro k o hk;have e:k≠bv:=fun g=>by have:=J _ _ hk;rw[g,hv]at this;cases this
         have e6:k≠O:=fun g=>by rw[g,h6]at hk;cases hk
         have a0:k≠z:=fun g=>by have:=J _ _ hk;rw[g,a6.2]at this;cases this
         rw[A4 _ e6,A4 _ a0,A4 _ e];exact J _ _ hk
        have d6:=h3.base q1 q2 (fun b g5 g6=>by rw[A4 _ (fun g=>g5 (by rw[g];exact J.none hv))];exact g6);refine O3.ap d6 (e1':=Rw C7 X++[[.vec bv 2 0 r.c.length,.bool (decide (K<0)),.sl 1 (Rw F5 (C2 K.natAbs)),.bool r.eq]]) (D2N _) (by simp only[A6];simp only[b8,ne_eq,not_false_eq_true,and_self]) (by simp) (by rw[D6]) (by simp only[D01,D03];omega) (by simp only[D01,D03];omega) rfl fun b' H' h4=>?_;clear d6 q1 q2 b8;repeat' (first|simp only[go_sem,seval]|simp(disch:=omega) only[A5,B3])
        have d7:=h4.n1 _ rfl;have d8:bv≠b':=fun g=>by rw[←g,A3]at d7;cases d7
        have eX:Rw C7 (X++[RR])=Rw C7 X++[.sl 2 (Rw C6 C)::[.bool (decide (K<0)),.sl 1 (Rw F5 (C2 K.natAbs)),.bool r.eq]]:=by rw[←O9,d4];rfl
        have d9:=B3X hr b1;rw[←hC,←d4]at d9 b1;refine B59 (i+1,X++[RR],some b') ⟨by simp only[];omega,by simp only[D02,D01,D03];omega,fun s hs=>?_,?_,by simp,fun b e=>?_⟩ (by simp only[];omega) ?_
        ·rcases D1M.1 hs with q|q
         ·exact b0 s q
         ·exact d9.1 s q
        ·unfold TS at st;rw[b1]at st;exact st
        ·have:=h4.n1 _ e;rw[A4 _ (by cases e;exact d8.symm)]at this;exact this
        ·show A1A _ (H.set b' (.vec 4 (Rw C7 (X++[RR])))) _ _;rw[eX];refine A1D (by(try simp only[go_sem,seval,D02,K4])<;>(try simp(disch:=omega) [A5])) (by rw[D6,W]) h4.a1 (h4.le _ _ (A3 _ _)) d8 (fun k o hk ho=>?_);have e0:k≠bv:=fun g=>by rw[g,g4]at ho;cases ho
         exact⟨e0,h4.le k o (by rw[A4 _ e0];exact ho)⟩
 ·have U:decide ((i:Int)<l.length)=false:=D0z (by omega);unfold TA at hT;rw[List.drop_eq_nil_of_le (by omega)]at hT;have hT:Y6 l=some X:=by rw[hT];simp[Y6]
  rw[hT]at h;repeat' simp only[go_sem,seval,U]
  refine ACalls.out (by rw[D6]) h3.a1 ?_;refine B9u X n (by omega) hn (fun r hr=>⟨(b0 r hr).1,by have:=(b0 r hr).2.1;omega,fun x hx=>by have:=(b0 r hr).2.2 x hx;omega⟩) _ ?_;generalize hR:A0O [] (pairs1 X)=R;rw[show ((some X).bind fun l=>A0O [] (pairs1 l))=R from hR]at h;cases R with
  |none=>
   simp only[go_sem,seval,B0v];exact D2O (O3.one h3) h
  |some Y=>
   simp only[go_sem,seval,B0v];exact D2O (O3.one h3) h
end Go.Proofs.YtibphjonmikciaaGreatDoor
namespace Go.Av
theorem A5W{P:Program}{f v sz n:Nat}{es:List (List D)}{a:D}{ds m:List D}{H:Heap}{Q:D→Heap→Prop}(hb:H v=some (.vec sz es))(hn:n=es.length)(h:ACalls P f (a:: .agg (.sl sz es::ds)::m) (H.del v) Q):ACalls P f (a:: .agg (.vec v sz 0 n::ds)::m) H Q:=by
 subst hn;refine ACalls.shift (args':=a:: .agg (.sl sz es::ds)::m) (fun w vs h1 o hs=>?_) h;have e:=F0 H v;refine⟨by simpa using h1,fun i d p=>?_,hs.less e,fun k hn=>e.held hn⟩
 match i with
 |0=>cases p;exact(o 0 _ rfl).less e
 |1=>
  cases p;have j:=o 1 _ rfl;revert j;generalize vs.getD 1 undef=v1;intro j;cases j with
  |agg _ us q ho hr=>
   refine .agg _ us (by simpa using q) (fun i d' g=>?_) (fun i d' g=>?_)
   ·cases i with
    |zero=>cases g;rfl
    |succ i=>exact ho (i+1) d' g
   ·cases i with
    |zero=>
     cases g;have r:Fz v sz es (.vec v sz 0 es.length) (.sl sz es):=.all;exact r.R hs hb (hr 0 _ rfl)
    |succ i=>exact(hr (i+1) d' g).less e
 |i+2=>exact(o (i+2) d (by simpa using p)).less e
end Go.Av
namespace Go.Lin
open Go Go.Av
theorem B0w(a b:Int)(hb:0<b):(A1C a b).natAbs≤b.natAbs:=by
 unfold A1C;have e:(0:Int)<b*2:=by omega
 rw[Int.fdiv_eq_ediv_of_nonneg _ (by omega)];have h1:=Int.ediv_mul_le (a*2+b) (show b*2≠0 by omega);have d:=Int.lt_ediv_add_one_mul_self (a*2+b) e;generalize (a*2+b) / (b*2)=q at h1 d;have e1:q*(b*2)=2*(b*q):=by rw[Int.mul_comm q,Int.mul_assoc,Int.mul_comm 2 q,←Int.mul_assoc,Int.mul_comm _ 2]
 have e2:(q+1)*(b*2)=2*(b*q)+b*2:=by rw[Int.add_mul,e1];omega
 rw[e1]at h1;rw[e2]at d;generalize b*q=z at h1 d;omega
end Go.Lin
namespace Go.Proofs.YtibphjonmikciaaGreatDoor
open Go Go.Av Go.Lin
attribute [local irreducible] ACalls S3
set_option maxHeartbeats 4000000 in
theorem B2F{Q}(l:List Row)(at_ n k:Nat)(hlen:l.length≤10000)(i1:0<n)(hn:n≤1000)(b1:at_<l.length)(hw: ∀r∈l,r.c.length=n)(hr: ∀r∈l,A5P r 4611686018427387904)(c2: ∀r∈l,∀x∈r.c,x.natAbs<1073741824)
  (hk:A4b (l.getD at_ default)=some k) (H:Heap) (h:Q (.sl 4 (Rw C7 (y8 l at_))) H):E6 223 [.sl 4 (Rw C7 l),.int .i64 (at_:Int)] H Q:=by
 refine B2 [(14,.par),(18,.par),(20,.par)] A8 Tryz.func223 rfl ?_;simp only[go_sem,seval,Tryz.results223];have d3:(at_:Int)<l.length:=by omega
 have ge:l.getD at_ default=l[at_]:=by simp[b1]
 have U:=D1A b1;obtain⟨e,he⟩: ∃e,e=l[at_]:=⟨_,rfl⟩
 have J:y8 l at_=if(X2 e.c k).natAbs=1 then(l.take at_++l.drop (at_+1)).map (T5 e k)else((l.take at_++l.drop (at_+1)++[e]).map A2y).map (T5 ⟨e.c.map (A1C · ((X2 e.c k).natAbs+1))++[-(((X2 e.c k).natAbs:Int)+1)],A1C e.k ((X2 e.c k).natAbs+1),true⟩ k):=by
  unfold y8;simp only[];rw[ge,←he];rw[ge,←he]at hk;rw[hk];rfl
 rw[ge,←he]at hk;rw[←he]at U;have f4:=hw e U;have i2:=hr e U;have c3:=c2 e U;have Y:k<e.c.length:=by
  rw[A6V]at hk;exact A2k _ _ _ hk
 have d4:(k:Int)<e.c.length:=by omega
 rw[I3 _ _ Y]at J;have f6:M3 (A4b e)=k:=by rw[hk];rfl
 have d5:(l.take at_++l.drop (at_+1)).length≤10000:=by rw[D02,D1e,D1U];omega
 have a4: ∀r∈l.take at_++l.drop (at_+1),r∈l:=fun r hr=>(D1M.1 hr).elim List.mem_of_mem_take List.mem_of_mem_drop
 repeat' (first|with_reducible apply D0w|simp only[go_sem,seval,d3,B3 _ _ b1,C3 _ _ b1,←he]|simp(disch:=omega) only[A5,B3,I3]|(intro u;try simp only[A6]at u)|omega)
 rename_i b5 h5 bx;have M:=u;clear u;have c5:(H.set b5 (.box (C7 e))) b5=some (.box (C7 e)):=A3 _ _;have W:H.Le (H.set b5 (.box (C7 e))):=A0 h5;have a5:(H.set b5 (.box (C7 e))) bx=none:=by simp only[A6];exact M
 change ACalls _ _ _ ((H.set b5 (.box (C7 e))).set bx _) _;generalize H.set b5 (.box (C7 e))=B5 at c5 W a5⊢;clear h5 M;rw[D1B (show (Rw C7 l).length≤l.length by rw[D6];exact D1G _),A2d,A5b];refine V2 (A3 _ _) rfl ?_;rw[E8 a5];refine A7j _ _ (by rw[D02]at d5;omega) _ ?_;obtain⟨R,hR⟩: ∃R,R=l.take at_++l.drop (at_+1):=⟨_,rfl⟩
 rw[←hR]at J d5 a4⊢;have a0: ∀r∈l,A5P r 18446744073709551616:=fun r hx=>⟨by have:=(hr r hx).1;omega,fun x O=>by have:=(hr r hx).2 x O;omega⟩
 have la: ∀(H:Heap) (Q:D→Heap→Prop),Q (.int .i64 (k:Int)) H→E6 252 [.agg (C7 e)] H Q:=fun H Q hq=>B9k e (by omega) (a0 e U) H (by rw[f6];exact hq);obtain⟨c,hc⟩: ∃c,c=e.c[k]:=⟨_,rfl⟩
 rw[←hc]at J;have i3:c.natAbs<1073741824:=by rw[hc];exact c3 _ (D1A Y)
 by_cases h1:c.natAbs=1
 ·rw[if_pos h1]at J;rw[J]at h;have o1: ∀(H:Heap) (Q:D→Heap→Prop),Q (.bool true) H→E6 246 [.agg (C6 c)] H Q:=fun H Q hq=>B0a c H (by rw[D0y h1];exact hq);repeat' (first|with_reducible apply D0w|simp only[go_sem,seval,c5,d4,B3 _ _ Y,C3 _ _ Y,←hc]|with_reducible refine la _ _ ?_|with_reducible refine o1 _ _ ?_|omega)
  refine A7f R e k n (by omega) (by omega) (fun r hx=>hw r (a4 r hx)) f4 (by omega) (fun r hx=>a0 r (a4 r hx)) (a0 e U) (fun r hx x O=>by have:=c2 r (a4 r hx) x O;omega) (fun x O=>by have:=c3 x O;omega) _ ?_;repeat' simp only[go_sem,seval]
  exact D2O W h
 ·rw[if_neg h1]at J;have o1: ∀(H:Heap) (Q:D→Heap→Prop),Q (.bool false) H→E6 246 [.agg (C6 c)] H Q:=fun H Q hq=>B0a c H (by rw[D0z h1];exact hq);obtain⟨t,ht⟩: ∃t:Int,t=1:=⟨1,rfl⟩
  obtain⟨m,hm⟩: ∃m:Int,m=(c.natAbs:Nat)+1:=⟨_,rfl⟩
  have f7:((c.natAbs:Nat):Int)+t=m:=by rw[ht,hm]
  rw[←hm]at J;have s1:Sz ((c.natAbs:Nat):Int):=I0 (by omega);have s2:Sz t:=I0 (by omega);have w1: ∀(H:Heap) (Q:D→Heap→Prop),Q (.agg (C6 t)) H→E6 228 [.int .i64 1] H Q:=fun H Q hq=>y0 1 (by omega) (by omega) H (by rw[←ht];exact hq);have p1: ∀(H:Heap) (Q:D→Heap→Prop),Q (.agg (C6 m)) H→E6 255 [.agg (C6 ((c.natAbs:Nat):Int)),.agg (C6 t)] H Q:=fun H Q hq=>A0g _ t s1 s2 H (by rw[f7];exact hq);repeat' (first|with_reducible apply D0w|simp only[go_sem,seval,c5,d4,B3 _ _ Y,C3 _ _ Y,←hc]|simp(disch:=first|omega|grind) only[B9,E5]|(intro u;try simp only[A6]at u)|with_reducible refine la _ _ ?_|with_reducible refine o1 _ _ ?_|with_reducible refine B6c c _ ?_|with_reducible refine w1 _ _ ?_|with_reducible refine p1 _ _ ?_|omega)
  rename_i G h8 b2 h2 bx;have M:=u;clear u;have e5:=(A0 (o:=.box (C6 m)) h8) _ _ c5;have e8:(B5.set G (.box (C6 m))) G=some (.box (C6 m)):=A3 _ _;have a6:H.Le (B5.set G (.box (C6 m))):=W.trans (A0 h8);have g2:(B5.set G (.box (C6 m))) b2=none:=by simp only[A6];exact h2
  have gx:(B5.set G (.box (C6 m))) bx=none∧bx≠b2:=by simp only[A6];exact⟨⟨M.2.1,M.2.2⟩,M.1⟩
  change ACalls _ _ _ (((B5.set G (.box (C6 m))).set b2 (.vec 4 [C7 e])).set bx (.vec 1 [[.sl 4 (Rw C7 R)],[.vec b2 4 0 1]])) _;generalize B5.set G (.box (C6 m))=B8 at e5 e8 a6 g2 gx⊢;clear h8 h2 M c5 W a5;refine A6y (b:=b2) (sz:=4) (es:=[C7 e]) (H':=B8.set bx (.vec 1 [[.sl 4 (Rw C7 R)],[.sl 4 [C7 e]]])) (by rw[A4 _ gx.2.symm,A3]) (fun q o' hq=>?_) ?_
  ·by_cases g:q=bx
   ·subst g;rw[A3]at hq;cases hq;refine⟨gx.2,_,A3 _ _,.vec _ _ _ rfl fun i y y' O d6=>?_⟩
    match i with
    |0=>
     cases O;cases d6;exact⟨rfl,fun j d d' X h4=>by rw[X]at h4;cases h4;exact .same _⟩
    |1=>
     cases O;cases d6;refine⟨rfl,fun j d d' X h4=>?_⟩;cases j with
     |zero=>cases X;cases h4;exact .all
     |succ j=>cases X
    |i+2=>cases O
   ·rw[A4 _ g]at hq;have g3:q≠b2:=fun g4=>by rw[g4,g2]at hq;cases hq
    exact⟨g3,o',by rw[A4 _ g,A4 _ g3];exact hq,.same _⟩
  refine V2 (A3 _ _) rfl ?_;rw[E8 gx.1,show ([C7 e]:List (List D))=Rw C7 [e]from rfl];refine A7j R [e] (by simp only[D01,D03];omega) _ ?_;obtain⟨L,hL⟩: ∃L,L=R++[e]:=⟨_,rfl⟩
  rw[←hL]at J⊢;have i4:L.length≤10001:=by rw[hL,D02,D01,D03];omega
  have d7: ∀r∈L,r∈l:=fun r hr=>by
   rw[hL]at hr;rcases D1M.1 hr with g|g
   ·exact a4 r g
   ·simp at g;rw[g];exact U
  clear hL gx g2;repeat' simp only[go_sem,seval]
  refine C8 [5,7,8,9,53,54] (fun(p:Nat×Option Nat×Heap)=>[(55,.int .i64 p.1),(10,J3 4 p.1 p.2.1)]) (fun(p:Nat×Option Nat×Heap)=>p.2.2) (fun(p:Nat×Option Nat×Heap)=>p.1≤L.length∧O3 B8 p.2.2 4 (Rw C7 ((L.take p.1).map A2y)) [] [] p.2.1 none none) (fun(p:Nat×Option Nat×Heap)=>L.length-p.1) ((0,none,B8)) (⟨D1H _,O3.nil B8 4⟩) (by(try simp only[go_sem,seval])<;>(try simp(disch:=omega) [A5])) (by first|exact D2N _|exact A0 (by assumption)|exact B4 (by assumption)|simp only[Heap.Le,Heap.set,Heap.del]at* <;>grind) ?_;rintro Ec rfl ⟨i,o1,Hp⟩ ⟨hi,X⟩;simp only at hi X;by_cases b3:i<L.length
  ·have c4:decide ((i:Int)<L.length)=true:=D0y (by omega);have i5:(i:Int)<L.length:=by omega
   have f9:=d7 _ (D1A b3);have fs:=A6W A2y L i b3;have fl:=A8r A2y L i hi;have d8:L[i].c.length=n:=hw _ f9;have g0:L[i].c≠[]:=fun g=>by rw[g]at d8;simp at d8;omega
   repeat' (first|with_reducible apply D0w|simp only[go_sem,seval,c4,B3 _ _ b3,C3 _ _ b3]|(intro u;try simp only[A6]at u)|with_reducible refine C3l _ g0 (by omega) _ ?_|omega)
   rename_i g5 g6 bx;have M:=u;clear u;have d9:Hp.Le (Hp.set g5 (.box (C7 L[i]))):=A0 g6;refine O3.ap X (e1':=Rw C7 ((L.take (i+1)).map A2y)) d9 (by simp only[A6];exact M) (by simp) (by rw[D6,fl]) (by simp only[D01,D03];omega) (by simp only[D01,D03];omega) (by rw[fs,←O9];rfl) fun b' H' h4=>?_;repeat' (first|simp only[go_sem,seval]|simp(disch:=omega) only[A5,B3,I3])
   refine C4 (i+1,some b',H') ⟨by simp only[];omega,h4⟩ (by simp only[];omega) (by(try simp only[go_sem,seval,K4])<;>(try simp(disch:=omega) [A5])) (D2N _)
  ·have c4:decide ((i:Int)<L.length)=false:=D0z (by omega);have e1:L.take i=L:=D1B (by omega);have e2:i=L.length:=by omega
   rw[e1]at X;have f5:=X.le _ _ e5;have f8:=X.le _ _ e8;repeat' simp only[go_sem,seval,c4]
   obtain⟨C,hC⟩: ∃C,C=e.c.map (A1C · m)++[-m]:=⟨_,rfl⟩
   obtain⟨K,hK⟩: ∃K,K=A1C e.k m:=⟨_,rfl⟩
   rw[←hC,←hK]at J;have T:C.length=e.c.length+1:=by rw[hC,D02,D1f];rfl
   have b4:0<m:=by omega
   have e0:m<2147483648:=by omega
   have g7:e.k.natAbs≤18446744073709551616:=(a0 e U).1;have i9:K.natAbs≤m.natAbs:=by rw[hK];exact B0w _ _ b4
   have e4: ∀x∈C,x.natAbs≤4294967296:=fun x hx=>by
    rw[hC]at hx;rcases D1M.1 hx with g|g
    ·simp only[D1u]at g;obtain⟨z,_,rfl⟩:=g;have:=B0w z m b4;omega
    ·simp at g;omega
   have nr: ∀(H:Heap) (Q:D→Heap→Prop),Q (.agg (C6 K)) H→E6 258 [.agg (C6 e.k),.agg (C6 m)] H Q:=fun H Q hq=>B6e e.k m g7 b4 e0 H (by rw[←hK];exact hq);have m5:b5∈[b5,G]:=by simp
   have m8:G∈[b5,G]:=by simp
   refine F4 (fun i'=>if i'=8 then .agg (C6 K)else .undef) [b5,G] ?_;repeat' (first|with_reducible apply D0w|simp only[go_sem,seval,f5,f8,m5,m8]|simp(disch:=omega) only[A5,B3,I3]|simp(disch:=first|omega|grind) only[B9,E5]|(intro u;try simp only[A6]at u)|with_reducible refine P8 (fun H' Q hro hq=>nr H' Q hq) ?_|omega)
   rename_i bv hv A;have b6:=u;clear u;have nb:A≠bv:=b6.1;have k5:b5≠bv∧b5≠A:=⟨(fun g=>by rw[g,hv]at f5;cases f5),(fun g=>by rw[g,b6.2]at f5;cases f5)⟩
   have k8:G≠bv∧G≠A:=⟨(fun g=>by rw[g,hv]at f8;cases f8),(fun g=>by rw[g,b6.2]at f8;cases f8)⟩
   rw[show (([D.bool false,.nilsl]::List.replicate e.c.length [D.bool false,.nilsl]):List (List D))=m0 C (e.c.length+1) 0 from(A2j C (e.c.length+1)).symm];refine C8 [5,7,8,10,13,77,78] (fun(j:Nat)=>[(79,.int .i64 j)]) (fun(j:Nat)=>(Hp.set bv (.vec 2 (m0 C (e.c.length+1) j))).set A (.box [.vec bv 2 0 (e.c.length+1),.bool (decide (K<0)),.sl 1 (Rw F5 (C2 K.natAbs)),.bool true])) (fun(j:Nat)=>j≤e.c.length) (fun(j:Nat)=>e.c.length-j) (0) (D1H _) (by(try simp only[go_sem,seval])<;>(try simp(disch:=omega) [A5])) (by first|exact D2N _|exact A0 (by assumption)|exact B4 (by assumption)|simp only[Heap.Le,Heap.set,Heap.del]at* <;>grind) ?_;rintro Ec rfl j hj;have e6:=A3s C (e.c.length+1) j T (by omega);by_cases b7:j<e.c.length
   ·have a7:decide ((j:Int)<e.c.length)=true:=D0y (by omega);have e7:(j:Int)<e.c.length:=by omega
    have a9:(j:Int)<((e.c.length:Nat):Int)+1:=by omega
    have g8:j<C.length:=by omega
    have c6:C[j]=A1C e.c[j] m:=by simp only[hC];rw[List.getElem_append_left (by rw[D1f];exact b7),D1m]
    have c1:=c3 _ (D1A b7);have I:=A2I C (e.c.length+1) j T (by omega) (C6 (A1C e.c[j] m)) (by rw[c6]);have c7:=A1F C (e.c.length+1) j j T (D1G _) (by omega);have b0:=A1E C (e.c.length+1) j j T (D1G _) (by omega);repeat' (first|with_reducible apply D0w|simp only[go_sem,seval,a7,e7,B3 _ _ b7,C3 _ _ b7]|(intro u;try simp only[A6]at u)|omega)
    rename_i V;have b9:=u;clear u;have c8:A∈[G,A,V]:=by simp
    have g9:V∈[G,A,V]:=by simp
    have p8:G∈[G,A,V]:=by simp
    have j1:=b9.1;have j2:=b9.2.1;have j3:G≠V:=fun g=>by have:=b9.2.2;rw[←g,f8]at this;cases this
    obtain⟨y,O⟩: ∃y,y=A1C e.c[j] m:=⟨_,rfl⟩
    have h0: ∀(H:Heap) (Q:D→Heap→Prop),Q (.agg (C6 y)) H→E6 258 [.agg (C6 e.c[j]),.agg (C6 m)] H Q:=fun H Q hq=>B6e e.c[j] m (by omega) b4 e0 H (by rw[←O];exact hq);rw[←O]at I;refine F4 (fun i'=>if i'=5 then .agg (C6 y)else .undef) [G,A,V] ?_;repeat' (first|with_reducible apply D0w|simp only[go_sem,seval,p8,c8,g9,A4 _ j3,A4 _ k8.2,A4 _ k8.1,f8,e7,a9,e6,c7,b0,I]|simp(disch:=omega) only[A5,B3,I3]|simp(disch:=first|omega|grind) only[B9,E5]|with_reducible refine P8 (fun H' Q hro hq=>h0 H' Q hq) ?_|omega)
    refine C4 (j+1) (by omega) (by omega) (by(try simp only[go_sem,seval])<;>(try simp(disch:=omega) [A5])) ?_;rw[←I];intro q o hq;have h6:q≠V:=fun g=>by rw[g,A4 _ j1,A4 _ j2,b9.2.2]at hq;cases hq
    by_cases g:q=bv
    ·subst g;rw[A4 _ nb.symm,A3]at hq;rw[A3];exact hq
    ·rw[A4 _ g,A4 _ h6];by_cases e9:q=A
     ·subst e9;rw[A3]at hq⊢;exact hq
     ·rw[A4 _ e9,A4 _ g]at hq⊢;exact hq
   ·have a7:decide ((j:Int)<e.c.length)=false:=D0z (by omega);have h7:j=e.c.length:=by omega
    subst h7;have g8:e.c.length<C.length:=by omega
    have c6:C[e.c.length]= -m:=by simp only[hC];rw[List.getElem_append_right (by rw[D1f];exact D1G _)];simp
    have I:=A2I C (e.c.length+1) e.c.length T (by omega) (C6 (-m)) (by rw[c6]);have c7:=A1F C (e.c.length+1) e.c.length e.c.length T (D1G _) (by omega);have b0:=A1E C (e.c.length+1) e.c.length e.c.length T (D1G _) (by omega);have a9:(e.c.length:Int)<((e.c.length:Nat):Int)+1:=by omega
    obtain⟨y,O⟩: ∃y,y= -m:=⟨_,rfl⟩
    rw[←O,A3t C _ T]at I;have ng: ∀(H:Heap) (Q:D→Heap→Prop),Q (.agg (C6 y)) H→E6 259 [.agg (C6 m)] H Q:=fun H Q hq=>A4e m H (by rw[←O];exact hq);have c8:A∈[b5,G,A]:=by simp
    have p5:b5∈[b5,G,A]:=by simp
    have p8:G∈[b5,G,A]:=by simp
    repeat' simp only[go_sem,seval,a7]
    refine F4 (fun i'=>if i'=6 then .agg (C6 y)else .undef) [b5,G,A] ?_;repeat' (first|with_reducible apply D0w|simp only[go_sem,seval,p8,c8,p5,A4 _ k8.2,A4 _ k8.1,A4 _ k5.2,A4 _ k5.1,f8,f5,a9,e6,c7,b0,I]|simp(disch:=first|omega|grind) only[B9,E5]|with_reducible refine P8 (fun H' Q hro hq=>ng H' Q hq) ?_|omega)
    have c9:(m0 C (e.c.length+1) e.c.length).set e.c.length ((zB.set 0 (D.bool (decide (y<0)))).set 1 (D.sl 1 (Rw F5 (C2 y.natAbs))))=Rw C6 C:=I;rw[c9];obtain⟨Hf,d0⟩: ∃Hf,Hf=((Hp.set bv (.vec 2 (m0 C (e.c.length+1) e.c.length))).set A (.box [.vec bv 2 0 (e.c.length+1),.bool (decide (K<0)),.sl 1 (Rw F5 (C2 K.natAbs)),.bool true])).set bv (.vec 2 (Rw C6 C)):=⟨_,rfl⟩
    have h9:Hf bv=some (.vec 2 (Rw C6 C)):=by rw[d0];exact A3 _ _
    have f0:Hp.Le Hf:=fun q o hq=>by
     have g1:q≠bv:=fun g=>by rw[g,hv]at hq;cases hq
     have g2:q≠A:=fun g=>by rw[g,b6.2]at hq;cases hq
     rw[d0,A4 _ g1,A4 _ g2,A4 _ g1];exact hq
    rw[←d0];have i0:o1≠some bv:=X.a1.ne hv;have c0: ∀(q:Nat) (o:Go.Av.Obj),Hf q=some o→o1≠some q→K2 Hf o1 q=some o:=fun q o hq hn=>by
     cases o1 with
     |none=>exact hq
     |some c=>show (Hf.del c) q=_;rw[E5 (by rintro rfl;exact hn rfl)];exact hq
    refine ACalls.out (by rw[D6,D1f];exact e2) (X.a1.up f0) ?_;refine A5W (c0 _ _ h9 i0) (by rw[D6,T]) ?_;rw[J]at h;have d2: ∀r∈L.map A2y,∃s∈l,r=A2y s:=fun r hr=>by
     obtain⟨s,hs,rfl⟩:=D1u.1 hr;exact⟨s,d7 s hs,rfl⟩
    refine A7f (L.map A2y) ⟨C,K,true⟩ k (n+1) (by rw[D1f];omega) (by omega) (fun r hx=>?_) (by show C.length=n+1;omega) (by omega) (fun r hx=>?_) ⟨by show K.natAbs≤_;omega,fun x hx=>by have:=e4 x hx;omega⟩ (fun r hx x O=>?_) e4 _ ?_
    ·obtain⟨s,hs,rfl⟩:=d2 r hx;show (s.c++[0]).length=n+1;rw[D02,hw s hs];rfl
    ·obtain⟨s,hs,rfl⟩:=d2 r hx;refine⟨(a0 s hs).1,fun x O=>?_⟩;rcases D1M.1 O with g|g
     ·exact(a0 s hs).2 x g
     ·simp at g;rw[g];decide
    ·obtain⟨s,hs,rfl⟩:=d2 r hx;rcases D1M.1 O with g|g
     ·have:=c2 s hs x g;omega
     ·simp at g;rw[g];decide
    ·repeat' simp only[go_sem,seval]
     refine D2O (fun q o hq=>?_) h;have q1:=X.le _ _ (a6 _ _ hq);have q2:q≠bv:=fun g=>by rw[g,hv]at q1;cases q1
     rw[E5 q2];exact c0 _ _ (f0 _ _ q1) (fun g=>by have:=X.n1 _ g;rw[a6 _ _ hq]at this;cases this)
end Go.Proofs.YtibphjonmikciaaGreatDoor
namespace Go.Lin
open Go Go.Av Go.Proofs.YtibphjonmikciaaGreatDoor
structure OkR(n:Nat)(l:List Row):Prop where
 len:l.length≤9999
 nn:n≤1000
 w: ∀r∈l,r.c.length=n
 s: ∀r∈l,A5P r 4611686018427387904
 c: ∀r∈l,∀x∈r.c,x.natAbs<1073741824
theorem A5B{l:List Row}(h:A8o l=true): ∃n,OkR n l:=by
 unfold A8o at h;simp only[D09,D1I]at h;obtain⟨h1,d⟩:=h;cases l with
 |nil=>exact⟨0,by omega,by omega,by simp,by simp,by simp⟩
 |cons r l=>
  simp only[D09,D1I,D1X]at d;obtain⟨d,e⟩:=d;have key: ∀s∈r::l,s.c.length=r.c.length∧(∀x∈s.c,x.natAbs<1073741824)∧s.k.natAbs<4611686018427387904:=fun s hs=>by
   have:=e s hs;unfold C10 at this;simp only[D09,beq_iff_eq,D1I,D1X]at this;exact⟨this.1.1,fun x hx=>by have:=this.1.2 x hx;simpa using this,by have:=this.2;simpa using this⟩
  exact⟨r.c.length,by omega,by omega,fun s hs=>(key s hs).1,fun s hs=>⟨by have:=(key s hs).2.2;omega,fun x hx=>by have:=(key s hs).2.1 x hx;omega⟩,fun s hs=>(key s hs).2.1⟩
theorem B0x(p:Row→Bool): ∀l:List Row,X5 p l=match l.findIdx? p with|none=> -1|some i=>(i:Int)
 | []=>rfl
 |r::l=>by
  rw[X5,B0x p l,List.findIdx?_cons];by_cases h:p r=true
  ·rw[if_pos h,h];rfl
  ·simp only[h];cases l.findIdx? p with
   |none=>simp
   |some i=>simp;omega
theorem B9v{p:Row→Bool}{l:List Row}{i:Nat}(h:l.findIdx? p=some i):i<l.length:=(List.findIdx?_eq_some_iff_findIdx_eq.1 h).1
theorem B2G(l:List Row): ∀(n k:Nat),(chT l n).best=some k→k<n
 |0,k,h=>by simp[chT]at h
 |n+1,k,h=>by
  rw[B0o]at h;unfold A3p at h;simp only[]at h;split at h
  ·have:=B2G l n k h;omega
  ·split at h
   ·simp at h;omega
   ·have:=B2G l n k h;omega
theorem B4o{l:List Row}{n k:Nat}(hl:l≠[])(hw: ∀r∈l,r.c.length=n)(h:(j5 l).best=some k):k<n:=by
 have:j5 l=chT l n:=by
  unfold j5 chT;cases l with
  |nil=>exact absurd rfl hl
  |cons r l=>rw[show ((r::l).headD default).c.length=n from hw r (D07 ..)]
 rw[this]at h;exact B2G l n k h
end Go.Lin
namespace Go.Proofs.YtibphjonmikciaaGreatDoor
open Go Go.Av Go.Lin
attribute [local irreducible] ACalls S3
theorem C3s{Q}(r:Row)(H:Heap)(h:Q (.bool r.eq) H):E6 222 [.agg (C7 r)] H Q:=by
 refine B2 [] A8 Tryz.func222 rfl ?_;simp only[go_sem,seval,Tryz.results222];repeat' intro d
 exact D2O (by simp only[E3,D1,D2]at* <;>grind) h
set_option maxHeartbeats 1000000 in
theorem B2H{Q}(f:Nat)(l:List Row)(b:Bool)(hs:A47 f l=some b)(H:Heap)(h:Q (.bool b) H):E6 196 [.sl 4 (Rw C7 l)] H Q:=by
 refine B2 [] A8 Tryz.func196 rfl ?_;simp only[go_sem,seval,Tryz.results196];repeat' (first|with_reducible apply D0w|simp only[go_sem,seval]|intro g|omega)
 refine C8 [] (fun(p:Nat×List Row)=>[(0,.sl 4 (Rw C7 p.2))]) (fun(p:Nat×List Row)=>H) (fun(p:Nat×List Row)=>A47 p.1 p.2=some b) (fun(p:Nat×List Row)=>p.1) ((f,l)) (hs) (by simp only[go_sem,seval]) (by first|exact D2N _|exact A0 (by assumption)|exact B4 (by assumption)|simp only[Heap.Le,Heap.set,Heap.del]at* <;>grind) ?_;rintro X rfl ⟨f,l⟩ hs;simp only at hs;cases f with
 |zero=>simp[A47]at hs
 |succ f=>
  rw[A47]at hs;split at hs
  case isFalse=>cases hs
  rename_i d;obtain⟨n,ok⟩:=A5B d;have T: ∀(H:Heap) (Q:D→Heap→Prop),Q (B0v (B0W l)) H→E6 220 [.sl 4 (Rw C7 l)] H Q:=fun H Q hq=>C3r l n (by have:=ok.len;omega) (by have:=ok.nn;omega) (fun r hr=>⟨ok.w r hr,ok.s r hr⟩) (fun r hr x hx=>by have:=ok.c r hr x hx;omega) H hq;clear d;repeat' (first|simp only[go_sem,seval]|with_reducible refine T _ _ ?_)
  cases C:B0W l with
  |none=>
   rw[C]at hs;simp only[D1Y]at hs;simp only[go_sem,seval,B0v];repeat' (first|with_reducible apply D0w|simp only[go_sem,seval]|intro g|omega)
   rw[←hs]at h;exact D2R h
  |some m=>
   rw[C]at hs;cases m with
   |nil=>
    simp only[D1Y]at hs;simp only[go_sem,seval,B0v];repeat' (first|with_reducible apply D0w|intro g|omega)
    rw[←hs]at h;exact D2R h
   |cons r m=>
    simp only[]at hs;split at hs
    case isFalse=>cases hs
    rename_i d;obtain⟨L,q⟩: ∃L,L=r::m:=⟨_,rfl⟩
    have u:L≠[]:=by rw[q];simp
    have y: ¬(L.length:Int)=0:=by rw[q];simp;omega
    rw[←q]at hs d;obtain⟨n,ok⟩:=A5B d;simp only[go_sem,seval,B0v];rw[←q];clear d T C q;have A: ∀(H:Heap) (Q:D→Heap→Prop),Q (.int .i64 (X5 (·.eq) L)) H→E6 221 [.sl 4 (Rw C7 L),.fn (.func 222) [] []] H Q:=fun H Q hq=>B6g (·.eq) L (by have:=ok.len;omega) _ [] [] H (fun a _ Q hq=>C3s a H hq) hq;have o:=B0x (·.eq) L;cases G:L.findIdx? (·.eq)with
    |some i=>
     rw[G]at hs o;simp only[]at hs o;split at hs
     case isFalse=>cases hs
     rename_i hk;obtain⟨k,hk⟩:=Option.isSome_iff_exists.1 hk;have I:=B9v G;have J:0<n:=by
      have e:L.getD i default=L[i]:=by simp[I]
      rw[e,A6V]at hk;have:=A2k _ _ _ hk;rw[ok.w _ (D1A I)]at this;omega
     have M: ∀(H:Heap) (Q:D→Heap→Prop),Q (.sl 4 (Rw C7 (y8 L i))) H→E6 223 [.sl 4 (Rw C7 L),.int .i64 (i:Int)] H Q:=fun H Q hq=>B2F L i n k (by have:=ok.len;omega) J ok.nn I ok.w ok.s ok.c hk H hq;have U:(0:Int)≤i:=by omega
     rw[o]at A;repeat' (first|with_reducible apply D0w|simp only[go_sem,seval,y,U]|intro g|with_reducible refine A _ _ ?_|with_reducible refine M _ _ ?_|omega)
     exact C4 (f,y8 L i) hs (Nat.lt_succ_self f) (by simp only[go_sem,seval]) (D2N _)
    |none=>
     rw[G]at hs o;simp only[]at hs o;rw[o]at A;have j: ∀(H:Heap) (Q:D→Heap→Prop),Q (.tuple [.int .i64 (M3 (j5 L).best),.bool (j5 L).sure]) H→E6 224 [.sl 4 (Rw C7 L)] H Q:=fun H Q hq=>B6v L n u (by have:=ok.len;omega) ok.w (by have:=ok.nn;omega) H hq;split at hs
     ·rename_i k cost z;rw[z]at j;have O:k<n:=B4o u ok.w (by rw[z]);have V: ∀(H:Heap) (Q:D→Heap→Prop),Q (.sl 4 (Rw C7 (A2h L k false))) H→E6 226 [.sl 4 (Rw C7 L),.int .i64 (k:Int),.bool false] H Q:=fun H Q hq=>B6i L k n (by have:=ok.len;omega) (by have:=ok.nn;omega) ok.w O (fun r hr=>⟨by have:=(ok.s r hr).1;omega,fun x hx=>by have:=(ok.s r hr).2 x hx;omega⟩) H hq;have W:M3 (some k)=k:=rfl;simp only[W]at j;repeat' (first|with_reducible apply D0w|simp only[go_sem,seval,y]|intro g|with_reducible refine A _ _ ?_|with_reducible refine j _ _ ?_|with_reducible refine V _ _ ?_|omega)
      exact C4 (f,A2h L k false) hs (Nat.lt_succ_self f) (by simp only[go_sem,seval]) (D2N _)
     ·cases hs
end Go.Proofs.YtibphjonmikciaaGreatDoor
namespace Go.Lin
open Go Go.Av Go.Lexs
theorem A7r{s:ByteArray}(h:G7 (B s)=true):s.size≤200:=by
 unfold G7 at h;simp only[D09,D1I]at h;have:=h.1.1.2;rwa [U7]at this
theorem B64{l:List LinV}(hv: ∀a∈l,validL a=true):(P4 l).length≤12*l.length∧∀s∈P4 l,s.size≤200:=by
 constructor
 ·have key: ∀(m:List LinV),(∀c∈m,validL c=true)→(P4 m).length≤12*m.length:=by
   intro m
   induction m with
   |nil=>intro _;simp[P4]
   |cons c m d=>
    intro hm;have e:=d (fun x hx=>hm x (D1E _ hx));have h:=(K5 (hm c (D07 ..))).len;unfold P4 at e⊢;rw[List.flatMap_cons,D02,D1f,D01];omega
  exact key l hv
 ·intro s hs;unfold P4 at hs;obtain⟨c,hc,hs⟩:=List.mem_flatMap.1 hs;obtain⟨t,g,rfl⟩:=D1u.1 hs;exact A7r (L7 (K5 (hv c hc)).t t g).1
theorem A7s(l:List ByteArray)(s:ByteArray):(H7 l s).length≤l.length+1:=by
 induction l with
 |nil=>simp[H7]
 |cons x l d=>
  unfold H7;split
  ·simp;omega
  ·split<;>simp
theorem Z8(m:List ByteArray): ∀l:List ByteArray,(m.foldl H7 l).length≤l.length+m.length:=by
 induction m with
 |nil=>intro l;simp
 |cons s m d=>intro l;have:=d (H7 l s);have:=A7s l s;simp only[List.foldl_cons,D01];omega
theorem B4p{l:List LinV}{a:LinV}(d:a∈l){t:LTm}(e:t∈a.t):t.v∈A2B l:=by
 rw[A7V];exact List.mem_flatMap.2 ⟨a,d,D1u.2 ⟨t,e,rfl⟩⟩
def C9a(P:Program)(can:List LinV→Option Bool)(g:Nat)(cap:List D)(H:Heap):Prop:=∀(more:List LinV) (b:Bool),can more=some b→(∀a∈more,validL a=true)→more.length≤2→∀(H':Heap) (Q:D→Heap→Prop),H.Le H'→Q (.bool b) H'→ACalls P g (.sl 3 (Rw D7 more)::cap) H' Q
theorem A7t{s:ByteArray}(hs:G7 (B s)=true)(c k:Int)(e:Bool)(hc:c≠0)(d:c.natAbs≤1048576)(hk:k.natAbs≤1099511627776):validL ⟨[⟨s,c⟩],k,e⟩=true:=by
 unfold validL W9 A2A J7;simp[hs,hc];omega
theorem A7u{s:ByteArray}(hs:G7 (B s)=true)(n m:Int)(hn:n.natAbs≤1099511627776)(hm:m.natAbs≤1099511627776): ∀a∈[X3 s n,x9 s m],validL a=true:=fun a d=>by
 rcases D1O.1 d with rfl|d
 ·exact A7t hs 1 _ _ (by decide) (by decide) (by omega)
 ·simp at d;rw[d];exact A7t hs (-1) _ _ (by decide) (by decide) hm
theorem B4q(g:List LinV→Option Bool)(s:ByteArray)(f:Nat)(e d:Int):A3q g s (f+1) e d=if e<d then
      match g [X3 s (-((e+d).tdiv 2)),x9 s ((e+d).tdiv 2)]with
      |none=>none
      |some true=>A3q g s f e ((e+d).tdiv 2)
      |some false=>A3q g s f ((e+d).tdiv 2+1) d
    else some e:=rfl
end Go.Lin
namespace Go.Proofs.YtibphjonmikciaaGreatDoor
open Go Go.Av Go.Lexs Go.Lin
attribute [local irreducible] ACalls S3
theorem C3t{Q}(l:List LinV)(hlen:l.length≤1000)(hv: ∀a∈l,validL a=true)(b:Bool)(hs:C11 l=some b)(H:Heap)(h:Q (.bool b) H):E6 155 [.sl 3 (Rw D7 l)] H Q:=by
 refine B2 [] A8 Tryz.func155 rfl ?_;simp only[go_sem,seval,Tryz.results155];obtain⟨n1,n2⟩:=B64 hv;have d:A47 100 (B0X l (A2B l))=some b:=hs;have i:(A2B l).length≤12000:=by have:=Z8 (P4 l) [];simp at this;unfold A2B;omega
 repeat' (first|simp only[go_sem,seval]|with_reducible refine C3n l (by omega) (by omega) (fun s hs=>by have:=n2 s hs;omega) (fun c hc=>by have:=(K5 (hv c hc)).len;omega) _ ?_|with_reducible refine C3q l (A2B l) (by omega) (by omega) (B0P l) hv (fun a e t g=>B4p e g) _ ?_|with_reducible refine B2H 100 _ b d _ ?_)
 exact D2R h
theorem A7v{Q}(s:ByteArray)(n:Int)(hn:n.natAbs≤1000000000000000)(H:Heap)(h:Q (.agg (D7 (X3 s n))) H):E6 127 [.str s,.int .i64 n] H Q:=by
 refine B2 [] A8 Tryz.func127 rfl ?_;simp only[go_sem,seval,Tryz.results127];have w:IntKind.i64.wrap (0-n)= -n:=by rw[A5 (by omega) (by omega)];omega
 repeat' (first|simp only[go_sem,seval,w]|simp(disch:=first|omega|grind) only[B9,E5]|(intro d;try simp only[A6]at d))
 rename_i m p q;have e:=d;clear d;refine A0p (es:=Rw L4 [⟨s,1⟩]) (by rw[A4 _ e.1,A3];rfl) rfl (D2O (fun k o hk=>?_) h);have i:k≠m:=fun g=>by rw[g,p]at hk;cases hk
 have j:k≠q:=fun g=>by rw[g,e.2]at hk;cases hk
 rw[E5 j,A4 _ i,A4 _ j,A4 _ i];exact hk
theorem B0y{Q}(s:ByteArray)(n:Int)(H:Heap)(h:Q (.agg (D7 (x9 s n))) H):E6 128 [.str s,.int .i64 n] H Q:=by
 refine B2 [] A8 Tryz.func128 rfl ?_;simp only[go_sem,seval,Tryz.results128];repeat' (first|simp only[go_sem,seval]|simp(disch:=first|omega|grind) only[B9,E5]|(intro d;try simp only[A6]at d))
 rename_i m p q;have e:=d;clear d;refine A0p (es:=Rw L4 [⟨s,-1⟩]) (by rw[A4 _ e.1,A3];rfl) rfl (D2O (fun k o hk=>?_) h);have i:k≠m:=fun g=>by rw[g,p]at hk;cases hk
 have j:k≠q:=fun g=>by rw[g,e.2]at hk;cases hk
 rw[E5 j,A4 _ i,A4 _ j,A4 _ i];exact hk
theorem B4r{Q}(i:List LinV→Option Bool)(s:ByteArray)(x:G7 (B s)=true)(g:Nat)(cap:List D)(H:Heap)(r:C9a Tryz.prog i g cap H)(n:Int)(hn:B6S i s=some n)(h:Q (.int .i64 n) H):E6 76 [.str s,.fn (.func g) [] cap] H Q:=by
 refine B2 [] A8 Tryz.func76 rfl ?_;simp only[go_sem,seval,Tryz.results76];unfold B6S at hn;cases z:A3q i s 40 0 2147483647 with
 |none=>rw[z]at hn;cases hn
 |some A=>
  rw[z]at hn;simp only[]at hn;repeat' (first|with_reducible apply D0w|simp only[go_sem,seval]|simp(disch:=omega) only[A5]|intro j|omega)
  refine C8 [0,1] (fun(p:Nat×Int×Int)=>[(5,.int .i64 p.2.1),(6,.int .i64 p.2.2)]) (fun(p:Nat×Int×Int)=>H) (fun(p:Nat×Int×Int)=>A3q i s p.1 p.2.1 p.2.2=some A∧0≤p.2.1∧p.2.1≤p.2.2∧p.2.2≤2147483647) (fun(p:Nat×Int×Int)=>p.1) ((40,0,2147483647)) (⟨z,by simp,by simp,by simp⟩) (by simp only[go_sem,seval]) (by first|exact D2N _|exact A0 (by assumption)|exact B4 (by assumption)|simp only[Heap.Le,Heap.set,Heap.del]at* <;>grind) ?_;rintro O rfl ⟨f,d,e⟩ ⟨o,C,I,G⟩;simp only at o C I G;cases f with
  |zero=>simp[A3q]at o
  |succ f=>
   rw[B4q]at o;by_cases q:d<e
   ·rw[if_pos q]at o;obtain⟨m,hm⟩: ∃m,m=(d+e).tdiv 2:=⟨_,rfl⟩
    have J:d≤m∧m<e:=by
     rw[hm,Int.tdiv_eq_ediv_of_nonneg (by omega)];omega
    rw[←hm]at o;have L:IntKind.i64.wrap m=m:=A5 (by omega) (by omega);have M:IntKind.i64.wrap (0-m)= -m:=by rw[A5 (by omega) (by omega)];omega
    cases hc:i [X3 s (-m),x9 s m]with
    |none=>rw[hc]at o;cases o
    |some b=>
     rw[hc]at o;repeat' (first|simp only[go_sem,seval,q,←hm,L,M,Int.zero_sub]|simp(disch:=omega) only[A5]|intro j|with_reducible refine A7v s (-m) (by omega) _ ?_|with_reducible refine B0y s m _ ?_)
     rename_i bs;have u:=j;clear j;refine V2 (es:=Rw D7 [X3 s (-m),x9 s m]) (A3 _ _) rfl ?_;rw[E8 u];refine r _ b hc (A7u x _ _ (by omega) (by omega)) (by simp) _ _ (D2N _) ?_;cases b with
     |true=>
      repeat' simp only[go_sem,seval]
      exact C4 (f,d,m) ⟨o,C,by simp only[];omega,by simp only[];omega⟩ (Nat.lt_succ_self f) (by simp only[go_sem,seval]) (D2N _)
     |false=>
      repeat' (first|simp only[go_sem,seval]|simp(disch:=omega) only[A5])
      exact C4 (f,m+1,e) ⟨o,by simp only[];omega,by simp only[];omega,G⟩ (Nat.lt_succ_self f) (by simp only[go_sem,seval]) (D2N _)
   ·rw[if_neg q]at o;simp only[D1Y]at o;subst o;by_cases y:0<d
    ·rw[if_pos y]at hn;cases hc:i [X3 s d,x9 s d]with
     |none=>rw[hc]at hn;cases hn
     |some b=>
      rw[hc]at hn;repeat' (first|simp only[go_sem,seval,q,y,Int.zero_sub]|intro j|with_reducible refine A7v s d (by omega) _ ?_|with_reducible refine B0y s d _ ?_)
      rename_i bs;have u:=j;clear j;refine V2 (es:=Rw D7 [X3 s d,x9 s d]) (A3 _ _) rfl ?_;rw[E8 u];refine r _ b hc (A7u x _ _ (by omega) (by omega)) (by simp) _ _ (D2N _) ?_;cases b with
      |true=>
       simp only[D1Y]at hn;subst hn;repeat' simp only[go_sem,seval]
       exact D2R h
      |false=>
       simp only[D1Y]at hn;subst hn;repeat' (first|simp only[go_sem,seval,Int.zero_sub]|simp(disch:=omega) only[A5])
       exact D2R h
    ·rw[if_neg y]at hn;simp only[D1Y]at hn;subst hn;repeat' simp only[go_sem,seval,q,y]
     exact D2R h
end Go.Proofs.YtibphjonmikciaaGreatDoor
namespace Go.Av
inductive View(H:Heap):D→D→Prop
 |same (d:D):View H d d
 |vec (b sz n:Nat) (es es':List (List D)) (hb:H b=some (.vec sz es)) (hn:n=es.length) (hl:es.length=es'.length) (h1: ∀(i:Nat) (e e':List D),es[i]? =some e→es'[i]? =some e'→e.length=e'.length)
   (h: ∀(i:Nat) (e e':List D) (j:Nat) (d d':D),es[i]? =some e→es'[i]? =some e'→e[j]? =some d→e'[j]? =some d'→View H d d'):View H (.vec b sz 0 n) (.sl sz es')
 |nil (sz:Nat):View H .nilsl (.sl sz [])
 |box (b:Nat) (cs cs':List D) (Z:Option TypeId) (hb:H b=some (.box cs Z)) (hl:cs.length=cs'.length) (h: ∀(i:Nat) (d d':D),cs[i]? =some d→cs'[i]? =some d'→View H d d'):View H (.box b 0) (.ro cs')
 |agg (cs cs':List D) (hl:cs.length=cs'.length) (h: ∀(i:Nat) (d d':D),cs[i]? =some d→cs'[i]? =some d'→View H d d'):View H (.agg cs) (.agg cs')
 |map (b:Nat) (kvs:List (D×D)) (hb:H b=some (.map kvs)):View H (.map b) (.fm kvs)
theorem B3a{H H':Heap}{w:World}(hs:Sat H w){b:Nat}{kvs:List (D×D)}(hb:H b=some (.map kvs))(hl:H'.Le H)(hn:H'.held b=false){v:Value}(hr:R w H (.map b) v):R w H' (.fm kvs) v:=by
 obtain⟨es,ck,e,g,h,d⟩:=hs b _ hb;cases hr;exact .fm kvs b es ck e hn g h (fun i p hp=>(d i p hp).1) (fun i p hp=>(d i p hp).2.1.less hl) (fun i p hp=>(d i p hp).2.2.less hl)
theorem View.one{H:Heap}{d d':D}(h:View H d d')(ho:d.one=true):d'.one=true:=by
 cases h with
 |same=>exact ho
 |vec=>rfl
 |nil=>rfl
 |box=>rfl
 |map=>rfl
 |agg=>cases ho
theorem View.R{H:Heap}{w:World}(hs:Sat H w){d d':D}(h:View H d d'): ∀{v:Value},R w H d v→R w (roH H) d' v:=by
 induction h with
 |same d=>exact fun hr=>hr.less (A8W H)
 |vec b sz n es es' hb hn hl h1 h r=>
  intro v hr;have q:=hs.lt hb
  --the block itself
  obtain⟨c,T,x,y,u,_,C,z,G,A⟩:=hs b _ hb;cases hr with
  |vec0 b sz lo off=>
   have:es'= []:=D1K (by omega);subst this;exact .sl0 _ _ _
  |vec _ _ _ _ cap V m I J hsz L=>
   rw[hn,hl];refine .sl sz es' b _ cap (fun i j=>c.getD (i*sz+j) Go.undef) q (A3f H b) (fun i e' o=>?_) (by omega) (fun i j M O=>?_) (fun i e' j d' o g=>?_) (fun i e' j d' o g=>?_)
   ·obtain⟨e,he⟩:=G4 hl o;rw[←h1 i e e' he o];exact G i e he
   ·have h5:(i+1)*sz≤es.length*sz:=D1c _ (by omega);rw[Nat.add_mul,Nat.one_mul]at h5;rw[Nat.zero_mul,Nat.zero_add,U0 u];have hsz:i*sz+j<c.size:=by omega
    simp[hsz]
   ·obtain⟨e,he⟩:=G4 hl o;obtain⟨d,p⟩:=G4 (h1 i e e' he o) g;exact(h i e e' j d d' he o p g).one (A i e j d he p).1
   ·obtain⟨e,he⟩:=G4 hl o;obtain⟨d,p⟩:=G4 (h1 i e e' he o) g;exact r i e e' j d d' he o p g (A i e j d he p).2
 |nil sz=>intro v hr;cases hr;exact .sl0 _ _ _
 |map b kvs hb=>exact fun hr=>B3a hs hb (A8W H) (A3f H b) hr
 |box b cs cs' Z hb hl h r=>
  intro v hr;have q:=hs.lt hb;obtain⟨c,T,lo,M,u,_,C,z,_⟩:=hs b _ hb;cases hr;refine .ro cs' b 0 (fun j=>c.getD j Go.undef) q (A3f H b) (fun j O=>?_) (fun j d' g=>?_) (fun j d' g=>?_)
  ·rw[Nat.zero_add,U0 u];have:j<c.size:=by omega
   simp[this]
  ·obtain⟨d,p⟩:=G4 hl g;exact(h j d d' p g).one (z j d p).1
  ·obtain⟨d,p⟩:=G4 hl g;exact r j d d' p g (z j d p).2
 |agg cs cs' hl h r=>
  intro v hr;cases hr with
  |agg _ vs U ho hr=>
   refine .agg cs' vs (by omega) (fun i d' g=>?_) (fun i d' g=>?_)
   ·obtain⟨d,p⟩:=G4 hl g;exact(h i d d' p g).one (ho i d p)
   ·obtain⟨d,p⟩:=G4 hl g;exact r i d d' p g (hr i d p)
theorem A7w{P:Program}{c:CR}{bl:Bl}{ev:Operand→D}{H:Heap}{j:D→Heap→Prop}{s x:Operand}{t I:Nat}(e g:Nat){sz n m bx:Nat}{ob:Option Nat}{es xs:List (List D)}
  (J:H6 P t=some (e,sz,g)) (L:0<sz) (h1:apT (C9 P I)) (M:apZ (G2 P e) sz) (hs:ev s=J3 sz n ob) (hx:ev x= .vec bx sz 0 m) (o:H bx=some (.vec sz xs)) (hm:m=xs.length) (O:xs≠[])
  (i:OutAt H sz es ob) (hn:n=es.length) (p:bx∉bl.l) (u:ob≠some bx) (y: ∀c,ob=some c→c∉bl.l)
  (z:(n+xs.length)*g≤140737488355328) (A:n+xs.length≤9223372036854775807)
  (h: ∀b',K2 (H.del bx) ob b'=none→j (.vec b' sz 0 (n+xs.length)) ((K2 (H.del bx) ob).set b' (.vec sz (es++xs)))):pOp P c bl ev H j (.call ⟨.builtin .append,#[s,x],#[t,I]⟩):=by
 refine A42 ?_;rw[J,B0H];refine⟨L,h1,M,?_⟩;have C:M7 H sz (ev x)=some xs:=by
  rw[hx];unfold M7;simp[o,hm]
 have ho:T0 bl.l [bx]= [bx]:=by rw[B0I bx [] p,W7]
 have r:xOk bl H [bx]:=B3C bx _ o rfl (.inl p);rw[C,B0G,hs,hx];show paS _ bl [bx] sz g xs H j;cases ob with
 |none=>
  have T:es= []:=i;subst T;subst hn;simp only[D03,Nat.zero_add,D18]at z A h;show paS .nilsl bl [bx] sz g xs H j;rw[B9U];refine⟨z,A,by cases xs<;>simp_all,r,fun b hb=>?_⟩;rw[ho,A0K,F7];refine h b ?_;show (H.del bx) b=none;unfold Heap.del;rw[ho]at hb;rcases hb with hb|hb
  ·split<;>simp_all
  ·simp at hb;rw[if_pos hb]
 |some k=>
  have hk:H k=some (.vec sz es):=i;have U:k≠bx:=fun e=>u (by rw[e]);show paS (.vec k sz 0 n) bl [bx] sz g xs H j;rw[B3B,hk,B3A];refine⟨rfl,rfl,rfl,by omega,z,A,.inl (y k rfl),r,fun b' d=>?_⟩;rw[ho,D1B (by omega),A0K,A0K,F7];have G:(H.del k).del bx=(H.del bx).del k:=by funext q;simp only[Heap.del];split<;>split<;>rfl
  rw[G];refine h b' ?_;show ((H.del bx).del k) b'=none;rw[ho]at d;simp only[Heap.del];rcases d with d|d
  ·split
   ·rfl
   ·split
    ·rfl
    ·exact d
  ·simp at d;rcases d with d|d
   ·rw[if_pos d]
   ·split
    ·rfl
    ·first|rfl|rw[if_pos d]
end Go.Av
namespace Go.Lin
open Go Go.Av Go.Lexs
structure FI(H:Heap)(b5 bv:Nat)(so:List LinV)(out:List VlV)(ob:Option Nat)(Hp:Heap):Prop where
 le:H.Le Hp
 h5:H b5=none
 hv:H bv=none
 e5:Hp b5=some (.box [.vec bv 3 0 so.length])
 ev:Hp bv=some (.vec 3 (Rw D7 so))
 eo:OutAt Hp 2 (Rw vlC out) ob
 no: ∀b,ob=some b→H b=none
 n5:ob≠some b5
 nv:ob≠some bv
end Go.Lin
namespace Go.Proofs.YtibphjonmikciaaGreatDoor
open Go Go.Av Go.Lexs Go.Lin
attribute [local irreducible] ACalls S3
end Go.Proofs.YtibphjonmikciaaGreatDoor
namespace Go.Av
theorem ACalls.fin{P:Program}{f:Nat}{args:List D}{H:Heap}{Q:D→Heap→Prop}(h:ACalls P f args H (Fin Q)):ACalls P f args H Q:=by
 refine⟨h.1,fun w vs h1 i j=>(h.2 w vs h1 i j).mono fun e w' ⟨v,he,hp⟩=>⟨v,he,?_⟩⟩;obtain⟨d,A,m,o,p,q,g⟩:=hp;unfold Fin at g;obtain⟨r,u,hs,hq⟩:=g;obtain⟨x,y,z⟩:=hs w' v m o;exact⟨u,r,x,y,p,fun k hk hn=>z k (q k hk hn),hq⟩
structure BxI(H:Heap)(bx sz n:Nat)(X:List (List D))(rest:List D)(ob:Option Nat)(Hp:Heap):Prop where
 le:H.Le Hp
 hx:H bx=none
 ex:Hp bx=some (.box (J3 sz n ob::rest))
 eo:OutAt Hp sz X ob
 no: ∀b,ob=some b→H b=none
 nx:ob≠some bx
theorem A8C{H:Heap}{bx:Nat}(h:H bx=none)(sz:Nat)(rest:List D):BxI H bx sz 0 [] rest none (H.set bx (.box (.nilsl::rest))):=
 ⟨A0 h,h,A3 _ _,rfl,by simp,by simp⟩
theorem BxI.up{H Hp H':Heap}{bx sz n:Nat}{X:List (List D)}{rest:List D}{ob:Option Nat}(h:BxI H bx sz n X rest ob Hp)(d:Hp.Le H'):BxI H bx sz n X rest ob H':=
 ⟨h.le.trans d,h.hx,d _ _ h.ex,h.eo.up d,h.no,h.nx⟩
theorem BxI.ap{H Hp H0 H':Heap}{bx sz n m:Nat}{X Y:List (List D)}{rest:List D}{ob:Option Nat}{i:Nat}(h:BxI H bx sz n X rest ob Hp)(d:Hp.Le H0)(j:Apd H0 sz ob Y i H'):BxI H bx sz m Y rest (some i) (H'.set bx (.box (.vec i sz 0 m::rest)))∧H' bx=some (.box (J3 sz n ob::rest)):=by
 have e5:H' bx=some (.box (J3 sz n ob::rest)):=j.2.1 bx _ (d _ _ h.ex) h.nx;have p:i≠bx:=fun e=>by have:=j.1;rw[e,e5]at this;cases this
 have q:H i=none:=by
  rcases j.2.2 with g|g
  ·exact h.le.none (d.none g)
  ·exact h.no _ g
 refine⟨⟨fun k o hk=>?_,h.hx,A3 _ _,?_,fun b e=>by cases e;exact q,fun e=>p (by cases e;rfl)⟩,e5⟩
 ·rw[A4 _ (fun e=>by rw[e,h.hx]at hk;cases hk)];exact j.2.1 k o (d _ _ (h.le _ _ hk)) (fun e=>by have:=h.no _ e;rw[this]at hk;cases hk)
 ·show (H'.set bx _) i=_;rw[A4 _ p];exact j.1
theorem BxI.putr{H0 H Hp:Heap}{bx sz n i:Nat}{X:List (List D)}{rest cs:List D}{T:Option TypeId}{x:Go.Av.Obj}{ob:Option Nat}(h:BxI H bx sz n X rest ob Hp)(d:H0.Le H)(j:H0 i=none)(m:Hp i=some (.box cs T)):(putB H0 sz X ob).Le (Hp.set i x):=by
 have hl:(putB H0 sz X ob).Le Hp:=fun k o hk=>by
  cases ob with
  |none=>exact h.le _ _ (d _ _ hk)
  |some b=>
   by_cases e:k=b
   ·subst e;have:(H0.set k (.vec sz X)) k=some o:=hk;rw[A3]at this;cases this;exact h.eo
   ·have:(H0.set b (.vec sz X)) k=some o:=hk;rw[A4 _ e]at this;exact h.le _ _ (d _ _ this)
 intro k o hk;have:k≠i:=fun e=>by
  subst e;have g:=hl _ _ hk;cases ob with
  |none=>(have hk:H0 k=some o:=hk);rw[j]at hk;cases hk
  |some b=>
   by_cases e:k=b
   ·subst e;have:=h.eo.some_of rfl;rw[m]at this;cases this
   ·have h1:(H0.set b (.vec sz X)) k=some o:=hk;rw[A4 _ e,j]at h1;cases h1
 rw[A4 _ this];exact hl _ _ hk
end Go.Av
namespace Go.Lin
open Go Go.Av Go.Lexs
theorem A5C(a:LinV)(n:Int)(i:Nat)(h:i<a.t.length)(hn:n≠0):(J1 ⟨a.t.take (i+1),a.k,a.e⟩ n).t=(J1 ⟨a.t.take i,a.k,a.e⟩ n).t++[⟨a.t[i].v,a.t[i].c*n⟩]:=by
 unfold J1;simp only[if_neg hn];rw[D1F h,D1w,D2D];rfl
theorem B2I(a:LinV)(n:Int)(i:Nat):(J1 ⟨a.t.take i,a.k,a.e⟩ n).t.length≤a.t.length:=by
 unfold J1;simp only;split
 ·exact D1H _
 ·rw[D1f,D1e];omega
theorem B0z(a:LinV)(n:Int):(J1 ⟨a.t.take 0,a.k,a.e⟩ n).t= []:=by
 unfold J1;simp
theorem B2J(a:LinV)(n:Int):(J1 ⟨a.t.take a.t.length,a.k,a.e⟩ n).t=(J1 a n).t:=by rw[List.take_length]
theorem B9w(sz:Nat)(ds:List D):NilR (.agg (.nilsl::ds)) (.agg (.sl sz []::ds)):=by
 refine .agg _ _ rfl fun i d d' h1 e=>?_
 match i with
 |0=>cases h1;cases e;exact .nil _
 |i+1=>simp only[D1S]at h1 e;rw[h1]at e;cases e;exact .same _
theorem B8c{Q:D→Heap→Prop}{ds:List D}{H:Heap}{n sz:Nat}{es:List (List D)}{ob:Option Nat}(d:ob=none→es= [])(hb: ∀b,ob=some b→H b=none)(hn:n=es.length)(h:Q (.agg (.sl sz es::ds)) H):Fin Q (.agg (J3 sz n ob::ds)) (putB H sz es ob):=by
 cases ob with
 |none=>rw[d rfl]at h;exact D9 (B9w sz ds) (D2R h)
 |some b=>
  refine A0p (A3 _ _) hn (D2R ?_);show Q _ ((H.set b (.vec sz es)).del b);rw[E8 (hb b rfl)];exact h
end Go.Lin
namespace Go.Proofs.YtibphjonmikciaaGreatDoor
open Go Go.Av Go.Lexs Go.Lin
attribute [local irreducible] ACalls S3
theorem B65{Q}(a:LinV)(Y:L6 a)(n:Int)(hk:(a.k*n).natAbs≤4611686018427387904)(ht: ∀t∈a.t,(t.c*n).natAbs≤4611686018427387904)(H:Heap)
  (h: ∀ob:Option Nat,(ob=none→Rw L4 (J1 a n).t= [])→(∀b,ob=some b→H b=none)→Q (.agg [J3 2 (J1 a n).t.length ob,.int .i64 (a.k*n),.bool a.e]) (putB H 2 (Rw L4 (J1 a n).t) ob)):
  E6 171 [.agg (D7 a),.int .i64 n] H Q:=by
 refine B2 [] A8 Tryz.func171 rfl ?_;simp only[go_sem,seval,Tryz.results171];intro z g2 A J;simp only[A6]at J;have e2:((H.set z (.box (D7 a))).set A (.box [.nilsl,.int .i64 0,.bool false])) z=some (.box (D7 a)):=by rw[A4 _ J.1.symm,A3]
 have M:((H.set z (.box (D7 a))).set A (.box [.nilsl,.int .i64 0,.bool false])) A=some (.box [.nilsl,.int .i64 0,.bool false]):=A3 _ _;have y:H.Le ((H.set z (.box (D7 a))).set A (.box [.nilsl,.int .i64 0,.bool false])):=(A0 g2).trans (A0 (by simp only[A6];exact J));generalize (H.set z (.box (D7 a))).set A (.box [.nilsl,.int .i64 0,.bool false])=Bs at e2 M y⊢;have hlen:=Y.len;have w1:IntKind.i64.wrap (a.k*n)=a.k*n:=A5 (by omega) (by omega);repeat' (first|simp only[go_sem,seval,e2,M,w1]|simp(disch:=first|omega|grind) only[B9]|(intro d;try simp only[A6]at d))
 rename_i b5;have h5:=d;clear d;have L:=A8C h5 2 [.int .i64 (a.k*n),.bool a.e];generalize Bs.set b5 (.box [.nilsl,.int .i64 (a.k*n),.bool a.e])=Hq at L⊢;have C:=L.le _ _ e2;repeat' (first|with_reducible apply D0w|simp only[go_sem,seval,C]|simp(disch:=omega) only[A5,B3]|simp(disch:=first|omega|grind) only[B9]|(intro d;try simp only[A6]at d)|omega)
 refine C8 [1,4,5,16,17] (fun(p:Nat×Option Nat×Heap)=>[(18,.int .i64 p.1)]) (fun(p:Nat×Option Nat×Heap)=>p.2.2) (fun(p:Nat×Option Nat×Heap)=>p.1≤a.t.length∧BxI Bs b5 2 (J1 ⟨a.t.take p.1,a.k,a.e⟩ n).t.length (Rw L4 (J1 ⟨a.t.take p.1,a.k,a.e⟩ n).t) [.int .i64 (a.k*n),.bool a.e] p.2.1 p.2.2) (fun(p:Nat×Option Nat×Heap)=>a.t.length-p.1) ((0,none,Hq)) (⟨D1H _,by rw[B0z];exact L⟩) (by(try simp only[go_sem,seval])<;>(try simp(disch:=omega) [A5])) (by first|exact D2N _|exact A0 (by assumption)|exact B4 (by assumption)|simp only[Heap.Le,Heap.set,Heap.del]at* <;>grind) ?_;clear L C h5;rintro Ec rfl ⟨i,ob,Hp⟩ ⟨hi,q⟩;simp only at hi q;by_cases g:i<a.t.length
 ·have u:decide ((i:Int)<a.t.length)=true:=D0y (by omega);have G:(i:Int)<a.t.length:=by omega
  have hm:=ht _ (D1A g);have w2:IntKind.i64.wrap (a.t[i].c*n)=a.t[i].c*n:=A5 (by omega) (by omega);by_cases hn:n=0
  ·subst hn;have hz: ∀j,(J1 ⟨a.t.take j,a.k,a.e⟩ 0).t= []:=fun j=>by unfold J1;simp
   repeat' (first|with_reducible apply D0w|simp only[go_sem,seval,u,G,B3 _ _ g,C3 _ _ g,decide_true,D2K]|simp(disch:=omega) only[A5,B3]|(intro d;try simp only[A6]at d)|omega)
   refine C4 (i+1,ob,_) ⟨by simp only[];omega,?_⟩ (by simp only[];omega) (by(try simp only[go_sem,seval])<;>(try simp(disch:=omega) [A5])) (D2N _);simp only[];rw[hz]at q⊢;exact q.up (A0 (by assumption))
  ·have hl:=B2I a n i;have e5:=q.ex;have O:decide (n=0)=false:=D0z hn;repeat' (first|with_reducible apply D0w|simp only[go_sem,seval,u,G,B3 _ _ g,C3 _ _ g,O,e5,w2]|simp(disch:=first|omega|grind) only[B9]|(intro d;try simp only[A6]at d)|omega)
   ·rename_i b7 W bx;have T:=d;clear d;refine A48 (P:=Tryz.prog) (H0:=Hp.set b7 (.box [.str a.t[i].v,.int .i64 a.t[i].c])) (es:=Rw L4 (J1 ⟨a.t.take i,a.k,a.e⟩ n).t) (by simp only[A6];exact T) (by simp) (q.eo.up (A0 W)) (by rw[D6]) (by simp only[D01,D03];omega) (by simp only[D01,D03];omega) fun b' H' X=>?_;have hY:Rw L4 (J1 ⟨a.t.take i,a.k,a.e⟩ n).t++[[D.str a.t[i].v,.int .i64 (a.t[i].c*n)]]=Rw L4 (J1 ⟨a.t.take (i+1),a.k,a.e⟩ n).t:=by rw[A5C a n i g hn,←O9];rfl
    rw[hY]at X;obtain⟨f1,U⟩:=q.ap (m:=(J1 ⟨a.t.take (i+1),a.k,a.e⟩ n).t.length) (A0 W) X;have r:(J1 ⟨a.t.take i,a.k,a.e⟩ n).t.length+1=(J1 ⟨a.t.take (i+1),a.k,a.e⟩ n).t.length:=by rw[A5C a n i g hn];simp
    repeat' (first|simp only[go_sem,seval,U]|simp(disch:=omega) only[A5,B3])
    rw[←r]at f1;refine C4 (i+1,some b',_) ⟨by simp only[];omega,?_⟩ (by simp only[];omega) (by(try simp only[go_sem,seval,K4])<;>(try simp(disch:=omega) [A5])) (D2N _);simp only[];rw[←r];exact f1
 ·have u:decide ((i:Int)<a.t.length)=false:=D0z (by omega);have V:i=a.t.length:=by omega
  subst V;have e5:=q.ex;have I:=q.le _ _ M;have o1:(match J3 2 (J1 ⟨a.t.take a.t.length,a.k,a.e⟩ n).t.length ob with|D.undef=>false|D.agg cs=>false|D.tuple cs=>false|x=>true)=true:=by cases ob<;>rfl
  repeat' (first|with_reducible apply D0w|simp only[go_sem,seval,u,e5,I,o1]|simp(disch:=first|omega|grind) only[B9])
  rw[B2J]at q⊢;refine D2O (fun k o hk=>?_) (h ob (fun e=>?_) (fun b e=>y.none (q.no b e)))
  ·exact q.putr y J.2 I k o hk
  ·rw[e]at q;exact q.eo
theorem B66{Q}(a:LinV)(d:L6 a)(n:Int)(hk:(a.k*n).natAbs≤4611686018427387904)(e: ∀t∈a.t,(t.c*n).natAbs≤4611686018427387904)(H:Heap)(h:Q (.agg (D7 (J1 a n))) H):E6 171 [.agg (D7 a),.int .i64 n] H Q:=
 ACalls.fin (B65 a d n hk e H fun ob g hb=>B8c g hb (by rw[D6]) h)
end Go.Proofs.YtibphjonmikciaaGreatDoor
namespace Go.Av
def B3b:D→Bool
 | .tuple ds=>ds.all A9m
 |d=>A9m d
theorem C3u{w:World}{H H':Heap}{d:D}{v:Value}(e:A9m d=true)(hr:R w H d v):R w H' d v:=by
 cases hr<;>first|(cases e;done)|constructor
theorem B9x{w:World}{H H':Heap}{d:D}{v:Value}(e:B3b d=true)(hr:R w H d v):R w H' d v:=by
 cases hr with
 |tuple ds vs hl hr=>exact .tuple ds vs hl fun i d g=>C3u (D1X.1 e d (D1T g)) (hr i d g)
 |_=>first|(cases e;done)|constructor
theorem B4s{H e:Heap}{w w':World}{K:D→Heap→Prop}{v:Value}(hs:Sat H w)(m:e.Le H)(h:Post e w (fun d _=>B3b d=true∧K d (H.sub e)) v w'):Post H w K v w':=by
 obtain⟨d,r,hr,q,he,u,p,hk⟩:=h;have g:Ext H w w':=⟨he.os,he.tape,he.output,he.size,fun k hk hn=>he.block k hk (m.held hn),he.shape⟩
 have i:From w H (H.sub e):=fun k hk hn=>(A8N H e).held hn;refine⟨d,H.sub e,B9x p hr,fun b o hb=>?_,g,i,hk⟩;have hc:e.held b=false:=by
  unfold Heap.sub at hb;split at hb
  ·cases hb
  ·rename_i h;simpa using h
 have j:=A8N H e b o hb;exact(hs b o j).mono g i (he.block b (hs.lt j) hc)
theorem A4A{P:Program}{f:Nat}{args args':List D}{H:Heap}{Q:D→Heap→Prop}(hl:args.length=args'.length)(hv: ∀(i:Nat) d d',args[i]? =some d→args'[i]? =some d'→View H d d')
  (h:ACalls P f args' (roH H) (fun d _=>B3b d=true∧Q d H)):ACalls P f args H Q:=by
 refine⟨h.1,fun w vs h1 o j=>?_⟩;refine(h.2 w vs (by omega) (fun i d' g=>?_) (j.less (A8W H))).mono fun e w' ⟨v,he,hp⟩=>⟨v,he,B4s j (A8W H) (by rw[C2y];exact hp)⟩
 obtain⟨d,m⟩:=G4 hl g;exact(hv i d d' m g).R j (o i d m)
theorem B5S{H:Heap}{n sz:Nat}{es:List (List D)}{ob:Option Nat}{ds:List D}(hn:n=es.length)(ho:OutAt H sz es ob):View H (.agg (J3 sz n ob::ds)) (.agg (.sl sz es::ds)):=by
 refine .agg _ _ rfl fun i d d' h1 g=>?_
 match i with
 |0=>
  cases h1;cases g;cases ob with
  |none=>rw[show es= []from ho];exact .nil sz
  |some b=>exact .vec b sz n es es ho hn rfl (fun i e e' h1 g=>by rw[h1]at g;cases g;rfl) (fun i e e' j d d' h1 g m h=>by rw[h1]at g;cases g;rw[m]at h;cases h;exact .same _)
 |i+1=>simp only[D1S]at h1 g;rw[h1]at g;cases g;exact .same _
theorem A9R{P:Program}{f n sz:Nat}{es:List (List D)}{ob:Option Nat}{ds g:List D}{H:Heap}{Q:D→Heap→Prop}(hn:n=es.length)(ho:OutAt H sz es ob)(h:ACalls P f (.agg (.sl sz es::ds)::g) (roH H) (fun d _=>B3b d=true∧Q d H)):
  ACalls P f (.agg (J3 sz n ob::ds)::g) H Q:=by
 refine A4A (args':=.agg (.sl sz es::ds)::g) rfl (fun i d d' h1 e=>?_) h
 match i with
 |0=>cases h1;cases e;exact B5S hn ho
 |i+1=>simp only[D1S]at h1 e;rw[h1]at e;cases e;exact .same _
end Go.Av
namespace Go.Lin
open Go Go.Av Go.Lexs
theorem B8d{Q:D→Heap→Prop}{ds:List D}{x:D}{H:Heap}{b sz n:Nat}{es:List (List D)}(hb:H b=some (.vec sz es))(hn:n=es.length)(h:Fin Q (.tuple [.agg (.sl sz es::ds),x]) (H.del b)):Fin Q (.tuple [.agg (.vec b sz 0 n::ds),x]) H:=by
 subst hn;refine A0q hb (by simp) (fun i d d' h1 e=>?_) h
 match i with
 |0=>cases h1;cases e;exact .all
 |i+1=>
  simp only[D1S]at h1 e;rw[h1]at e;cases e;exact .same _
theorem A3N(sz n:Nat)(ob:Option Nat):(D.one.match_1 (fun _=>Bool) (J3 sz n ob) (fun _=>false) (fun _=>false) (fun _=>false) fun _=>true)=true:=by cases ob<;>rfl
theorem F3{H Bs:Heap}{b:Nat}{x:Go.Av.Obj}(d:H.Le Bs)(h:H b=none):H.Le (Bs.set b x):=fun k o hk=>by
 rw[A4 _ (fun e=>by rw[e,h]at hk;cases hk)];exact d _ _ hk
end Go.Lin
namespace Go.Proofs.YtibphjonmikciaaGreatDoor
open Go Go.Av Go.Lexs Go.Lin
attribute [local irreducible] ACalls S3
end Go.Proofs.YtibphjonmikciaaGreatDoor
namespace Go.Lin
open Go Go.Av Go.Lexs
theorem B4t{a:LinV}(d:L6 a){n:Int}(hk:(a.k*n).natAbs≤4611686018427387904)(e: ∀t∈a.t,(t.c*n).natAbs≤4611686018427387904):L6 (J1 a n):=by
 unfold J1;refine⟨?_,fun t h=>?_,fun t h=>?_,by unfold S5;simp only;omega⟩<;>simp only at*
 ·split
  ·simp
  ·rw[D1f];exact d.len
 ·split at h
  ·cases h
  ·obtain⟨x,hx,rfl⟩:=D1u.1 h;exact d.str x hx
 ·split at h
  ·cases h
  ·obtain⟨x,hx,rfl⟩:=D1u.1 h;have:=e x hx;unfold S5;simp only;omega
theorem B67{a:LinV}(h:validL a=true){n:Int}(hn:n.natAbs≤1048576):(a.k*n).natAbs≤1152921504606846976∧∀t∈a.t,(t.c*n).natAbs≤1152921504606846976:=by
 have h1:=K5 h;refine⟨?_,fun t d=>?_⟩
 ·rw[Int.natAbs_mul];exact D12 (Nat.mul_le_mul h1.k hn) (by decide)
 ·rw[Int.natAbs_mul];have:=(L7 h1.t t d).2.2;exact D12 (Nat.mul_le_mul (show t.c.natAbs≤1048576 by omega) hn) (by decide)
end Go.Lin
namespace Go.Proofs.YtibphjonmikciaaGreatDoor
open Go Go.Av Go.Lexs Go.Lin
attribute [local irreducible] ACalls S3
theorem B2K{Q}(a:LinV)(q:L6 a)(H:Heap)(h:Q (.tuple [.agg (D7 (negateR a).1),.int .i64 (negateR a).2]) H):E6 135 [.agg (D7 a)] H Q:=by
 refine B2 [] A8 Tryz.func135 rfl ?_;simp only[go_sem,seval,Tryz.results135];intro p J g r;simp only[A6]at r;have e2:((H.set p (.box (D7 a))).set g (.box [.nilsl,.int .i64 0,.bool false])) p=some (.box (D7 a)):=by rw[A4 _ r.1.symm,A3]
 have u:((H.set p (.box (D7 a))).set g (.box [.nilsl,.int .i64 0,.bool false])) g=some (.box [.nilsl,.int .i64 0,.bool false]):=A3 _ _;have i:H.Le ((H.set p (.box (D7 a))).set g (.box [.nilsl,.int .i64 0,.bool false])):=(A0 J).trans (A0 (by simp only[A6];exact r));have j: ∀x,H.Le (((H.set p (.box (D7 a))).set g (.box [.nilsl,.int .i64 0,.bool false])).set g x):=fun x=>F3 i r.2;generalize (H.set p (.box (D7 a))).set g (.box [.nilsl,.int .i64 0,.bool false])=Bs at e2 u i j⊢;by_cases c:validL a=true
 ·by_cases d:a.e=true
  ·have e:negateR a=(nilL,5):=by unfold negateR;rw[if_pos c,if_pos d]
   rw[e]at h;obtain⟨T,K,E⟩:=a;change E=true at d;subst d;repeat' (first|simp only[go_sem,seval,e2,u,c]|with_reducible refine o9 _ q _ ?_)
   exact D9 (A0j 0 5 false) (D2O (j _) h)
  ·have e:negateR a=X1 (A8l a):=by unfold negateR;rw[if_pos c,if_neg d]
   have d:a.e=false:=by simpa using d
   rw[e]at h;obtain⟨L,C⟩:=B67 c (n:= -1) (by decide);have fm:=B4t q (n:= -1) (by omega) (fun t y=>by have:=C t y;omega);have fn:L6 (A8l a):=⟨fm.len,fm.str,fm.co,by unfold A8l S5;simp only;omega⟩
   have G: ∀(H:Heap) (Q:D→Heap→Prop),Q (.agg (D7 (J1 a (-1)))) H→E6 171 [.agg (D7 a),.int .i64 (-1)] H Q:=fun H Q hq=>B66 a q (-1) (by omega) (fun t y=>by have:=C t y;omega) H hq;obtain⟨T,K,E⟩:=a;change E=false at d;subst d;obtain⟨M,I⟩: ∃M,M=(J1 ⟨T,K,false⟩ (-1)).t:=⟨_,rfl⟩
   obtain⟨m,o⟩: ∃m,m=K* -1:=⟨_,rfl⟩
   have O:m.natAbs≤1152921504606846976:=by rw[o];exact L
   have z: ∀(H:Heap) (Q:D→Heap→Prop),Q (.agg [.sl 2 (Rw L4 M),.int .i64 m,.bool false]) H→E6 171 [.agg [.sl 2 (Rw L4 T),.int .i64 K,.bool false],.int .i64 (-1)] H Q:=fun H Q hq=>G H Q (by rw[I,o]at hq;exact hq);have U: ∀(H:Heap) (Q:D→Heap→Prop),Q (.tuple [.agg (D7 (X1 (A8l ⟨T,K,false⟩)).1),.int .i64 (X1 (A8l ⟨T,K,false⟩)).2]) H→E6 172 [.agg [.sl 2 (Rw L4 M),.int .i64 (m-1),.bool false]] H Q:=fun H Q hq=>by
    subst I o;exact C3m (A8l ⟨T,K,false⟩) fn H hq
   have V:IntKind.i64.wrap (m-1)=m-1:=A5 (by omega) (by omega);clear G;repeat' (first|simp only[go_sem,seval,e2,u,c,V]|simp(disch:=first|omega|grind) only[B9]|(intro A;try simp only[A6]at A)|with_reducible refine o9 _ q _ ?_|with_reducible refine z _ _ ?_|with_reducible refine U _ _ ?_)
   exact D2O (F3 (i.trans (A0 (by assumption))) r.2) h
 ·have c:validL a=false:=by simpa using c
  have e:negateR a=(nilL,2):=by unfold negateR;rw[if_neg (by rw[c];simp)]
  rw[e]at h;repeat' (first|simp only[go_sem,seval,e2,u,c]|with_reducible refine o9 a q _ ?_)
  exact D9 (A0j 0 2 false) (D2O (j _) h)
end Go.Proofs.YtibphjonmikciaaGreatDoor
namespace Go.Av
theorem A5V{P:Program}{f v sz n:Nat}{es:List (List D)}{ds m:List D}{H:Heap}{Q:D→Heap→Prop}(hb:H v=some (.vec sz es))(hn:n=es.length)(h:ACalls P f (.agg (.sl sz es::ds)::m) (H.del v) Q):ACalls P f (.agg (.vec v sz 0 n::ds)::m) H Q:=by
 subst hn;refine ACalls.shift (args':=.agg (.sl sz es::ds)::m) (fun w vs h1 p hs=>?_) h;have g:=F0 H v;refine⟨by simpa using h1,fun i d q=>?_,hs.less g,fun k hn=>g.held hn⟩
 match i with
 |0=>
  cases q;have j:=p 0 _ rfl;revert j;generalize vs.getD 0 undef=v1;intro j;cases j with
  |agg _ us o ho hr=>
   refine .agg _ us (by simpa using o) (fun i d' e=>?_) (fun i d' e=>?_)
   ·cases i with
    |zero=>cases e;rfl
    |succ i=>exact ho (i+1) d' e
   ·cases i with
    |zero=>
     cases e;have r:Fz v sz es (.vec v sz 0 es.length) (.sl sz es):=.all;exact r.R hs hb (hr 0 _ rfl)
    |succ i=>exact(hr (i+1) d' e).less g
 |i+1=>exact(p (i+1) d (by simpa using q)).less g
end Go.Av
namespace Go.Lin
open Go Go.Av Go.Lexs
theorem B00{a:LinV}(h:validL a=true): ∀t∈a.t,t.c≠0∧t.c.natAbs≤1048576:=fun t d=>by
 have:=(L7 (K5 h).t t d)
 exact⟨this.2.1,by have:=this.2.2;omega⟩
theorem _root_.Go.Av.BxI.fin{H0 H Hp:Heap}{bx sz n d b:Nat}{X:List (List D)}{rest cs:List D}{T:Option TypeId}{x:Go.Av.Obj}(h:BxI H bx sz n X rest (some b) Hp)(g:H0.Le H)(i:H0 d=none)(j:Hp d=some (.box cs T)):(Hp.set d x) b=some (.vec sz X)∧H0.Le ((Hp.set d x).del b):=by
 have hb:Hp b=some (.vec sz X):=h.eo;have m:b≠d:=fun e=>by rw[e,j]at hb;cases hb
 refine⟨by rw[A4 _ m];exact hb,fun k o hk=>?_⟩;have h1:=g _ _ hk;have p:k≠b:=fun e=>by have:=h.no b rfl;rw[←e,h1]at this;cases this
 rw[E5 p,A4 _ (fun e=>by rw[e,i]at hk;cases hk)];exact h.le _ _ h1
theorem _root_.Go.Av.BxI.re{H Hp:Heap}{bx sz n:Nat}{X:List (List D)}{rest:List D}{ob:Option Nat}(h:BxI H bx sz n X rest ob Hp)(d:List D):BxI H bx sz n X d ob (Hp.set bx (.box (J3 sz n ob::d))):=by
 refine⟨fun k o hk=>?_,h.hx,A3 _ _,?_,h.no,h.nx⟩
 ·rw[A4 _ (fun e=>by rw[e,h.hx]at hk;cases hk)];exact h.le _ _ hk
 ·have:=h.eo;cases ob with
  |none=>exact this
  |some b=>
   show (Hp.set bx _) b=_;rw[A4 _ (fun e=>h.nx (by rw[e]))];exact this
theorem A1h{C T:Nat→Heap→Prop}{G:Prop}(h:(∀b H,C b H→T b H)→G)(t: ∀b H,C b H→T b H):G:=h t
end Go.Lin
namespace Go.Proofs.YtibphjonmikciaaGreatDoor
open Go Go.Av Go.Lexs Go.Lin
attribute [local irreducible] ACalls S3
end Go.Proofs.YtibphjonmikciaaGreatDoor
namespace Go.Lin
open Go Go.Av Go.Lexs
theorem A3v: ∀(l:List ByteArray) (s:ByteArray) (i:Nat) (d:i≤l.length),(∀(k:Nat) (hk:k<l.length),k<i→W8 l[k] s=true)→(∀hk:i<l.length,W8 l[i] s=false)→
  H7 l s=if(∃hk:i<l.length,l[i]=s)then l else l.take i++[s]++l.drop i
 | [],s,i,d,_,_=>by
  have:i=0:=by simpa using d
  subst this;simp[H7]
 |x::l,s,0,_,_,j=>by
  have h:=j (by simp);simp only[D2F]at h;rw[H7,h];by_cases e:x=s
  ·simp[e]
  ·simp[e]
 |x::l,s,i+1,d,h1,j=>by
  have m:=h1 0 (by simp) (by omega);simp only[D2F]at m;rw[H7,if_pos m,A3v l s i (by simpa using d) (fun k hk g=>by have:=h1 (k+1) (by simpa using hk) (by omega);simpa using this) (fun hk=>by have:=j (by simpa using hk);simpa using this)];by_cases e: ∃hk:i<l.length,l[i]=s
  ·rw[if_pos e,if_pos (by obtain⟨a,b⟩:=e;exact⟨by simpa using a,by simpa using b⟩)]
  ·rw[if_neg e,if_neg (fun g=>e (by obtain⟨a,b⟩:=g;exact⟨by simpa using a,by simpa using b⟩))];simp
def nsD:List ByteArray→D
 | []=>.nilsl
 |x::l=>.sl 1 (Rw I6 (x::l))
theorem B68(l:List ByteArray)(s:ByteArray):nsD (H7 l s)= .sl 1 (Rw I6 (H7 l s)):=by
 cases l with
 |nil=>rfl
 |cons x l=>
  rw[H7];split
  ·rfl
  ·split<;>rfl
theorem A8x(l:List ByteArray):NilR (nsD l) (.sl 1 (Rw I6 l)):=by
 cases l with
 |nil=>exact .nil _
 |cons x l=>exact .same _
@[simp] theorem D0S:nsD []= .nilsl:=rfl
end Go.Lin
namespace Go.Proofs.YtibphjonmikciaaGreatDoor
open Go Go.Av Go.Lexs Go.Lin
attribute [local irreducible] ACalls S3
theorem C3v{Q}(l:List ByteArray)(hl:l.length≤1000000000)(s:ByteArray)(H:Heap)(h1:H7 l s=l→Q (.sl 1 (Rw I6 l)) H)(h: ∀x,H x=none→Q (.vec x 1 0 (H7 l s).length) (H.set x (.vec 1 (Rw I6 (H7 l s))))):E6 90 [.sl 1 (Rw I6 l),.str s] H Q:=by
 refine B2 [(6,.wk),(7,.par)] A8 Tryz.func90 rfl ?_;simp only[go_sem,seval,Tryz.results90];refine C8 [0,1] (fun(i:Nat)=>[(5,.int .i64 i)]) (fun(i:Nat)=>H) (fun(i:Nat)=>i≤l.length∧∀(k:Nat) (hk:k<l.length),k<i→W8 l[k] s=true) (fun(i:Nat)=>l.length-i) (0) (⟨D1H _,fun _ _ h=>by omega⟩) (by(try simp only[go_sem,seval])<;>(try simp(disch:=omega) [A5])) (by first|exact D2N _|exact A0 (by assumption)|exact B4 (by assumption)|simp only[Heap.Le,Heap.set,Heap.del]at* <;>grind) ?_;rintro Ec rfl i ⟨y,o⟩;have r: ∀(d:i<l.length),W8 l[i] s=true→∀(k:Nat) (hk:k<l.length),k<i+1→W8 l[k] s=true:=fun d c k hk W=>(Nat.lt_or_ge k i).elim (fun g=>o k hk g) (fun g=>by have:k=i:=(by omega);subst this;exact c);apply Z4 (C:=H7 l s=l.take i++[s]++l.drop i)
 ·intro U;by_cases d:i<l.length
  ·have p:decide ((i:Int)<l.length)=true:=D0y (by omega);have u:(i:Int)<l.length:=by omega
   by_cases c:W8 l[i] s=true
   ·have A:Op.bytesLess l[i].data.toList s.data.toList=true:=c;repeat' (first|with_reducible apply D0w|simp only[go_sem,seval,p,u,B3 _ _ d,C3 _ _ d,A]|simp(disch:=omega) only[A5,B3,A3v]|omega)
    exact C4 (i+1) ⟨by omega,r d c⟩ (by omega) (by(try simp only[go_sem,seval])<;>(try simp(disch:=omega) [A5])) (by simp only[E3,D1,D2]at* <;>grind)
   ·have c:W8 l[i] s=false:=by simpa using c
    have A:Op.bytesLess l[i].data.toList s.data.toList=false:=c;have e:=A3v l s i y o (fun _=>c);by_cases q:l[i]=s
    ·rw[if_pos ⟨d,q⟩]at e;have I:decide (B l[i]=B s)=true:=D0y (by rw[q]);repeat' (first|with_reducible apply D0w|simp only[go_sem,seval,p,u,B3 _ _ d,C3 _ _ d,A,I]|omega)
     exact D2R (h1 e)
    ·rw[if_neg (fun g=>q g.2)]at e;have I:decide (B l[i]=B s)=false:=D0z fun g=>q (Y5 g);repeat' (first|with_reducible apply D0w|simp only[go_sem,seval,p,u,B3 _ _ d,C3 _ _ d,A,I]|omega)
     exact O5 [(0,.sl 1 (Rw I6 l)),(1,.str s),(5,.int .i64 i)] H (by simp only[go_sem,seval]) (D2N _) (U e)
  ·have p:decide ((i:Int)<l.length)=false:=D0z (by omega);have e:=A3v l s i y o (fun g=>absurd g (by omega));rw[if_neg (fun g=>absurd g.1 (by omega))]at e;repeat' simp only[go_sem,seval,p]
   exact O5 [(0,.sl 1 (Rw I6 l)),(1,.str s),(5,.int .i64 i)] H (by simp only[go_sem,seval]) (D2N _) (U e)
 intro e;have hm:=Nat.min_eq_left y;repeat' (first|with_reducible apply D0w|simp only[go_sem,seval,A2d,A5b,hm]|(intro j;try simp only[A6]at j)|omega)
 rename_i x8 X z;have V:=j;clear j;rw[E8 X]at V⊢;refine F4 (fun _=>.undef) [] ?_;repeat' (first|simp only[go_sem,seval,A2d,A5b]|(intro j;try simp only[A6]at j))
 rename_i J;have G:=j;clear j;have L:(H.set z (.vec 1 (Rw I6 (l.take i)))) J=none:=by rw[A4 _ G.1];exact G.2
 refine A7w 9 16 (n:=i) (m:=1) (bx:=J) (ob:=some z) (es:=Rw I6 (l.take i)) (xs:=[[.str s]]) (by simp only[go_sem,seval]) (by decide) (by simp only[go_sem,seval]) (by simp only[go_sem,seval]) (by simp only[go_sem,seval]) (by simp only[go_sem,seval]) (A3 _ _) rfl (by simp) (by show Heap.set _ J _ z=_;rw[A4 _ G.1.symm];exact A3 _ _) (M5 _ _ y).symm (by simp) (fun e=>G.1 (by injection e with e;exact e.symm)) (by simp) (by simp only[D01,D03];omega) (by simp only[D01,D03];omega) fun Y M=>?_;rw[E8 L]at M⊢;rw[show K2 (H.set z (.vec 1 (Rw I6 (l.take i)))) (some z)=H from E8 V]at M⊢;repeat' (first|with_reducible apply D0w|simp only[go_sem,seval,A2d,A5b]|omega)
 have O:(Rw I6 (l.take i)++[[D.str s]]).length=i+1:=by rw[D02,M5 _ _ y];rfl
 refine A7c 9 16 (Rw I6 (l.drop i)) (b:=Y) (es:=Rw I6 (l.take i)++[[.str s]]) rfl (by simp only[go_sem,seval]) (by decide) (by simp only[go_sem,seval]) (by simp only[go_sem,seval]) ?_ ?_ rfl M (by simp) ?_ ?_ fun x hx=>?_
 ·simp only[go_sem,seval,O]
 ·simp only[go_sem,seval,List.take_length]
 ·rw[O,D6,D1U];omega
 ·rw[O,D6,D1U];omega
 ·have hw:Rw I6 (l.take i)++[[D.str s]]++Rw I6 (l.drop i)=Rw I6 (H7 l s):=by rw[e];simp[Rw,I6]
  have T:(Rw I6 (l.take i)++[[D.str s]]).length+(Rw I6 (l.drop i)).length=(H7 l s).length:=by rw[←D02,hw,D6]
  rw[T,hw];repeat' simp only[go_sem,seval]
  exact D2R (h x hx)
theorem C3w{Q}(l:List ByteArray)(hl:l.length≤1000000000)(s:ByteArray)(H:Heap)(h:Q (.sl 1 (Rw I6 (H7 l s))) H):E6 90 [.sl 1 (Rw I6 l),.str s] H Q:=
 ACalls.fin (C3v l hl s H (fun e=>D2R (by rw[e]at h;exact h)) fun x hx=>Fin.out (ob:=some x) (by rw[D6]) (A3 _ _) (D2O (by show H.Le ((H.set x _).del x);rw[E8 hx];exact D2N _) h))
theorem B3c{Q}(l:List ByteArray)(hl:l.length≤1000000000)(s:ByteArray)(H:Heap)(h:Q (nsD (H7 l s)) H):E6 90 [nsD l,.str s] H Q:=by
 refine R6 (args':=[.sl 1 (Rw I6 l),.str s]) rfl (fun i d d' h1 e=>?_) (C3w l hl s H (by rw[B68]at h;exact h))
 match i with
 |0=>cases h1;cases e;exact A8x l
 |1=>cases h1;cases e;exact .same _
 |i+2=>cases h1
end Go.Proofs.YtibphjonmikciaaGreatDoor
namespace Go.Fo
open Go Go.Av Go.Lexs Go.Lin
inductive Fm where
 |mk (op:Int) (n:Int) (l:LinV) (s:ByteArray) (ks:List Fm)
namespace Fm
def op:Fm→Int|mk o _ _ _ _=>o
def n:Fm→Int|mk _ n _ _ _=>n
def l:Fm→LinV|mk _ _ l _ _=>l
def s:Fm→ByteArray|mk _ _ _ s _=>s
def ks:Fm→List Fm|mk _ _ _ _ ks=>ks
end Fm
theorem C4i(f:Fm):f= .mk f.op f.n f.l f.s f.ks:=by cases f;rfl
def C1:Fm→List D
 | .mk o n l s ks=>[.int .i64 o,.int .i64 n,.sl 2 (Rw L4 l.t),.int .i64 l.k,.bool l.e,.str s,.sl 7 (fmsC ks)]
where fmsC:List Fm→List (List D)
 | []=>[]
 |f::fs=>C1 f::fmsC fs
theorem B9y(l:List Fm):C1.fmsC l=Rw C1 l:=by
 induction l with
 |nil=>rfl
 |cons f l d=>simp only[C1.fmsC,d];rfl
theorem O2(f:Fm):C1 f= [.int .i64 f.op,.int .i64 f.n,.sl 2 (Rw L4 f.l.t),.int .i64 f.l.k,.bool f.l.e,.str f.s,.sl 7 (Rw C1 f.ks)]:=by
 cases f;simp only[C1,B9y];rfl
theorem R1{p:Fm→Prop}(h: ∀o n l s ks,(∀k∈ks,p k)→p (.mk o n l s ks)): ∀f,p f
 | .mk o n l s ks=>h o n l s ks (go ks)
where go: ∀ks:List Fm,∀k∈ks,p k
 | [],_,hk=>absurd hk D1P
 |f::fs,k,hk=>(D1O.1 hk).elim (fun e=>e ▸ R1 h f) (go fs k)
inductive FmFit:Fm→Prop
 |mk (o n:Int) (l:LinV) (s:ByteArray) (ks:List Fm) (ho:S5 o) (hn:S5 n) (hl:L6 l) (hs:s.size≤140737488351232) (hk:ks.length≤1466015503658) (h: ∀k∈ks,FmFit k):FmFit (.mk o n l s ks)
def Z9(c:Int):Bool:=decide (c≠40)&&decide (c≠41)&&decide (c≠44)&&decide (c≠33)&&decide (c≠38)&&decide (c≠124)&&decide (c≠63)
def plainB(s:ByteArray):Bool:=G7 (B s)&&(B s).all (ofB Z9)
def lin0(l:LinV):Bool:=decide (l.t= [])&&decide (l.k=0)&& !l.e
def D8(f:Fm):Bool:=
 if f.op=1 then(decide (f.n=0)||decide (f.n=1))&&decide (f.s.size=0)&&lin0 f.l&&f.ks.isEmpty
 else if f.op=2 then decide (f.n=0)&&decide (f.s.size=0)&&f.ks.isEmpty&&validL f.l&&f.l.t.all fun t=>plainB t.v
 else if f.op=3 then decide (f.n=0)&&lin0 f.l&&f.ks.isEmpty&&plainB f.s
 else if f.op=4 then decide (f.n=0)&&decide (f.s.size=0)&&lin0 f.l&&decide (f.ks.length=1)
 else if f.op=5∨f.op=6 then decide (f.n=0)&&decide (f.s.size=0)&&lin0 f.l
 else false
def F6:Fm→Nat
 | .mk _ _ _ _ ks=>1+nodesL ks
where nodesL:List Fm→Nat
 | []=>0
 |f::fs=>F6 f+nodesL fs
def O6:Fm→Nat
 | .mk _ _ _ _ ks=>1+deepL ks
where deepL:List Fm→Nat
 | []=>0
 |f::fs=>max (O6 f) (deepL fs)
def G9(p:Fm→Bool):Fm→Bool
 | .mk o n l s ks=>p (.mk o n l s ks)&&allK ks
where allK:List Fm→Bool
 | []=>true
 |f::fs=>G9 p f&&allK fs
def A0y:Fm→List ByteArray×List ByteArray→List ByteArray×List ByteArray
 | .mk o _ l s ks,(a,b)=>namesK ks ((l.t.map (·.v)).foldl H7 a,if o=3 then H7 b s else b)
where namesK:List Fm→List ByteArray×List ByteArray→List ByteArray×List ByteArray
 | [],p=>p
 |f::fs,p=>namesK fs (A0y f p)
def meetL(l m:List ByteArray):Bool:=l.any fun s=>m.any fun t=>decide (s=t)
def E7(f:Fm):Bool:=G9 D8 f&&decide (O6 f≤60)&&decide (F6 f≤200)&& !meetL (A0y f ([],[])).1 (A0y f ([],[])).2&&decide ((A0y f ([],[])).1.length+(A0y f ([],[])).2.length≤12)
end Go.Fo
namespace Go.Fo
open Go Go.Av Go.Lexs Go.Lin
theorem Q5{f k:Fm}(h:k∈f.ks):SizeOf.sizeOf k<SizeOf.sizeOf f:=by
 cases f with
 |mk o n l s ks=>
  have:SizeOf.sizeOf k<SizeOf.sizeOf ks:=List.sizeOf_lt_of_mem h;simp only[Fm.mk.sizeOf_spec];omega
def J4:Fm→Nat
 | .mk _ _ l _ ks=>1+l.t.length+wtL ks
where wtL:List Fm→Nat
 | []=>0
 |f::fs=>J4 f+wtL fs
theorem L9(f:Fm):J4 f=1+f.l.t.length+J4.wtL f.ks:=by cases f;rw[J4];rfl
theorem A5g(l m:List Fm):J4.wtL (l++m)=J4.wtL l+J4.wtL m:=by
 induction l with
 |nil=>simp[J4.wtL]
 |cons f l d=>simp only[D17,J4.wtL,d];omega
theorem B9z(l:List Fm):l.length≤J4.wtL l:=by
 induction l with
 |nil=>simp
 |cons f l d=>rw[J4.wtL,D01,L9];omega
theorem B90{l:List Fm}{f:Fm}(h:f∈l):J4 f≤J4.wtL l:=by
 induction l with
 |nil=>cases h
 |cons g l d=>
  rw[J4.wtL];rcases D1O.1 h with rfl|h
  ·omega
  ·have:=d h;omega
theorem A4k(l:List Fm)(i:Nat)(h:i<l.length):J4.wtL (l.drop i)=J4 l[i]+J4.wtL (l.drop (i+1)):=by
 rw[D1R h,J4.wtL]
theorem FmFit.inv{f:Fm}(h:FmFit f):S5 f.op∧S5 f.n∧L6 f.l∧f.s.size≤140737488351232∧f.ks.length≤1466015503658∧∀k∈f.ks,FmFit k:=by
 cases h with
 |mk o n l s ks ho hn hl hs hk h=>exact⟨ho,hn,hl,hs,hk,h⟩
theorem FmFit.kid{f:Fm}(h:FmFit f){k:Fm}(hk:k∈f.ks):FmFit k:=h.inv.2.2.2.2.2 k hk
theorem FmFit.lin{f:Fm}(h:FmFit f):L6 f.l:=h.inv.2.2.1
theorem FmFit.txt{f:Fm}(h:FmFit f):f.s.size≤140737488351232:=h.inv.2.2.2.1
theorem FmFit.kl{f:Fm}(h:FmFit f):f.ks.length≤1466015503658:=h.inv.2.2.2.2.1
theorem A2n(f:Fm):F6 f≤J4 f:=by
 induction f using R1 with
 |h o n l s ks d=>
  rw[F6,J4];have key: ∀m:List Fm,(∀k∈m,F6 k≤J4 k)→F6.nodesL m≤J4.wtL m:=by
   intro m
   induction m with
   |nil=>intro _;simp[F6.nodesL]
   |cons f fs d=>intro h;rw[F6.nodesL,J4.wtL];have:=d (fun k hk=>h k (D1E _ hk));have:=h f (D07 ..);omega
  have:=key ks d;omega
def foldF{σ :Type}(step: σ →Fm→Int→ σ):Fm→Int→ σ → σ
 | .mk o n l s ks,d,a=>foldK step ks (IntKind.i64.wrap (d+1)) (step a (.mk o n l s ks) d)
where foldK {σ :Type} (step: σ →Fm→Int→ σ):List Fm→Int→ σ → σ
 | [],_,a=>a
 |f::fs,d,a=>foldK step fs d (foldF step f d a)
theorem A2K{σ :Type}(step: σ →Fm→Int→ σ)(f:Fm)(d:Int)(a: σ):foldF step f d a=foldF.foldK step f.ks (IntKind.i64.wrap (d+1)) (step a f d):=by cases f;rw[foldF];rfl
theorem B4u{σ :Type}(step: σ →Fm→Int→ σ)(l m:List Fm)(d:Int)(a: σ):foldF.foldK step (l++m) d a=foldF.foldK step m d (foldF.foldK step l d a):=by
 induction l generalizing a with
 |nil=>rfl
 |cons f l e=>simp only[D17,foldF.foldK,e]
theorem C5{σ :Type}(step: σ →Fm→Int→ σ)(l:List Fm)(i:Nat)(h:i<l.length)(d:Int)(a: σ):foldF.foldK step (l.take (i+1)) d a=foldF step l[i] d (foldF.foldK step (l.take i) d a):=by
 rw[D1F h,B4u];rfl
theorem B4v{σ :Type}(step: σ →Fm→Int→ σ)(I: σ →Prop)(m: ∀a g d,I a→I (step a g d)): ∀f d a,I a→I (foldF step f d a):=by
 intro f
 induction f using R1 with
 |h o n l s ks j=>
  intro d a h;rw[A2K];have e:=m _ (.mk o n l s ks) d h;revert e;generalize step a (.mk o n l s ks) d=b;show I b→I (foldF.foldK step ks _ b);generalize IntKind.i64.wrap (d+1)=d1;clear h
  induction ks generalizing b with
  |nil=>intro e;exact e
  |cons f fs i=>
   intro e;rw[foldF.foldK];exact i (fun k hk=>j k (D1E _ hk)) _ (j f (D07 ..) _ _ e)
def A0z(a:Int×Int)(_:Fm)(d:Int):Int×Int:=(IntKind.i64.wrap (a.1+1),max a.2 d)
theorem B69: ∀(f:Fm) (d:Int) (a:Int×Int),0≤d→d+J4 f≤2000000→0≤a.1→a.1+J4 f≤2000000→foldF A0z f d a=(a.1+F6 f,max a.2 (d+O6 f-1)):=by
 intro f
 induction f using R1 with
 |h o n l s ks j=>
  intro d a p q r u;have hw:J4 (.mk o n l s ks)=1+l.t.length+J4.wtL ks:=L9 _;rw[hw]at q u;have x:IntKind.i64.wrap (d+1)=d+1:=A5 (by omega) (by omega);have e:IntKind.i64.wrap (a.1+1)=a.1+1:=A5 (by omega) (by omega);rw[A2K,F6,O6,x];have key: ∀(m:List Fm),(∀k∈m,k∈ks)→J4.wtL m≤J4.wtL ks→∀a:Int×Int,0≤a.1→a.1+J4.wtL m≤2000000→foldF.foldK A0z m (d+1) a=(a.1+F6.nodesL m,if m= []then a.2 else max a.2 (d+O6.deepL m)):=by
   intro m
   induction m with
   |nil=>intro _ _ a _ _;simp[foldF.foldK,F6.nodesL]
   |cons f fs i=>
    intro hm hl a y h1;rw[J4.wtL]at hl h1;have hn:=A2n f;rw[foldF.foldK,j f (hm f (D07 ..)) (d+1) a (by omega) (by omega) y (by omega),i (fun k hk=>hm k (D1E _ hk)) (by omega) _ (by simp only[];omega) (by simp only[];omega),F6.nodesL,O6.deepL];have h1:1≤O6 f:=by cases f;rw[O6];omega
    refine Prod.ext ?_ ?_
    ·show a.1+_+_=a.1+_;push_cast;omega
    ·simp only[reduceCtorEq,if_false];cases fs with
     |nil=>simp only[if_true,O6.deepL];push_cast;omega
     |cons g fs=>simp only[reduceCtorEq,if_false];push_cast;omega
  show foldF.foldK A0z ks (d+1) (A0z a _ d)=_;rw[key ks (fun _ h=>h) (D1G _) _ (by unfold A0z;simp only[e];omega) (by unfold A0z;simp only[e];omega)];unfold A0z;simp only[e];refine Prod.ext ?_ ?_
  ·show a.1+1+_=a.1+_;push_cast;omega
  ·cases ks with
   |nil=>simp only[if_true,O6.deepL];push_cast;omega
   |cons g fs=>simp only[reduceCtorEq,if_false];push_cast;omega
def A8y(p:Fm→Bool)(a:Bool)(f:Fm)(_:Int):Bool:=a&&p f
theorem B7A(p:Fm→Bool): ∀(f:Fm) (d:Int) (a:Bool),foldF (A8y p) f d a=(a&&G9 p f):=by
 intro f
 induction f using R1 with
 |h o n l s ks i=>
  intro d a;rw[A2K,G9];have key: ∀(m:List Fm),(∀k∈m,k∈ks)→∀(e:Int) (a:Bool),foldF.foldK (A8y p) m e a=(a&&G9.allK p m):=by
   intro m
   induction m with
   |nil=>intro _ e a;simp[foldF.foldK,G9.allK]
   |cons f fs g=>
    intro hm e a;rw[foldF.foldK,i f (hm f (D07 ..)),g (fun k hk=>hm k (D1E _ hk)),G9.allK,Bool.and_assoc]
  show foldF.foldK (A8y p) ks _ (A8y p a _ d)=_;rw[key ks (fun _ h=>h)];unfold A8y;rw[Bool.and_assoc]
theorem j6(p:Fm→Bool)(f:Fm):G9 p f=(p f&&f.ks.all (G9 p)):=by
 cases f with
 |mk o n l s ks=>
  rw[G9]
  congr 1
  show G9.allK p ks=ks.all (G9 p)
  induction ks with
  |nil=>rfl
  |cons f fs d=>rw[G9.allK,d,D1z]
theorem A3w(f:Fm)(d:Nat):(O6 f≤d)↔1≤d∧∀k∈f.ks,O6 k≤d-1:=by
 cases f with
 |mk o n l s ks=>
  rw[O6];have key: ∀(m:List Fm) (e:Nat),O6.deepL m≤e↔∀k∈m,O6 k≤e:=by
   intro m e
   induction m with
   |nil=>simp[O6.deepL]
   |cons f fs g=>rw[O6.deepL,List.forall_mem_cons,←g];omega
  show _↔1≤d∧∀k∈ks,_;rw[←key];omega
theorem B4w(f:Fm):F6 f=1+F6.nodesL f.ks:=by cases f;rw[F6];rfl
theorem B2L(l m:List Fm):F6.nodesL (l++m)=F6.nodesL l+F6.nodesL m:=by
 induction l with
 |nil=>simp[F6.nodesL]
 |cons f l d=>simp only[D17,F6.nodesL,d];omega
theorem A2o(l:List Fm)(i:Nat)(h:i<l.length):F6.nodesL (l.take (i+1))=F6.nodesL (l.take i)+F6 l[i]:=by
 rw[D1F h,B2L];simp[F6.nodesL]
theorem B4x(l:List Fm):F6.nodesL l≤J4.wtL l:=by
 induction l with
 |nil=>simp[F6.nodesL]
 |cons f l d=>rw[F6.nodesL,J4.wtL];have:=A2n f;omega
def E4:Fm→List ByteArray
 | .mk _ _ l _ ks=>l.t.map (·.v)++intsL ks
where intsL:List Fm→List ByteArray
 | []=>[]
 |f::fs=>E4 f++intsL fs
def D0:Fm→List ByteArray
 | .mk o _ _ s ks=>(if o=3 then [s]else [])++boolsL ks
where boolsL:List Fm→List ByteArray
 | []=>[]
 |f::fs=>D0 f++boolsL fs
theorem B7B(f:Fm):E4 f=f.l.t.map (·.v)++E4.intsL f.ks:=by cases f;rw[E4];rfl
theorem B4y(f:Fm):D0 f=(if f.op=3 then [f.s]else [])++D0.boolsL f.ks:=by cases f;rw[D0];rfl
theorem B4z(l m:List Fm):E4.intsL (l++m)=E4.intsL l++E4.intsL m:=by
 induction l with
 |nil=>rfl
 |cons f l d=>simp only[D17,E4.intsL,d,D1k]
theorem B2M(l m:List Fm):D0.boolsL (l++m)=D0.boolsL l++D0.boolsL m:=by
 induction l with
 |nil=>rfl
 |cons f l d=>simp only[D17,D0.boolsL,d,D1k]
theorem A0T(l:List Fm)(i:Nat)(h:i<l.length):E4.intsL (l.take (i+1))=E4.intsL (l.take i)++E4 l[i]:=by
 rw[D1F h,B4z];simp[E4.intsL]
theorem a8(l:List Fm)(i:Nat)(h:i<l.length):D0.boolsL (l.take (i+1))=D0.boolsL (l.take i)++D0 l[i]:=by
 rw[D1F h,B2M];simp[D0.boolsL]
theorem A3x(f:Fm):(E4 f).length+(D0 f).length≤J4 f:=by
 induction f using R1 with
 |h o n l s ks d=>
  rw[E4,D0,J4];have key: ∀m:List Fm,(∀k∈m,(E4 k).length+(D0 k).length≤J4 k)→(E4.intsL m).length+(D0.boolsL m).length≤J4.wtL m:=by
   intro m
   induction m with
   |nil=>intro _;simp[E4.intsL,D0.boolsL]
   |cons f fs d=>intro h;rw[E4.intsL,D0.boolsL,J4.wtL,D02,D02];have:=d (fun k hk=>h k (D1E _ hk));have:=h f (D07 ..);omega
  have:=key ks d;simp only[D02,D1f];split<;>simp<;>omega
theorem B40(l:List Fm):(E4.intsL l).length+(D0.boolsL l).length≤J4.wtL l:=by
 induction l with
 |nil=>simp[E4.intsL,D0.boolsL]
 |cons f fs d=>rw[E4.intsL,D0.boolsL,J4.wtL,D02,D02];have:=A3x f;omega
theorem B41{f:Fm}(h:FmFit f): ∀s∈E4 f,s.size≤140737488351232:=by
 induction f using R1 with
 |h o n l s ks e=>
  rw[E4];intro x hx;rcases D1M.1 hx with hx|hx
  ·obtain⟨t,g,rfl⟩:=D1u.1 hx;exact h.lin.str t g
  ·have key: ∀m:List Fm,(∀k∈m,k∈ks)→∀s∈E4.intsL m,s.size≤140737488351232:=by
    intro m
    induction m with
    |nil=>intro _ s hs;cases hs
    |cons f fs d=>
     intro hm s hs;rcases D1M.1 hs with hs|hs
     ·exact e f (hm f (D07 ..)) (h.kid (hm f (D07 ..))) s hs
     ·exact d (fun k hk=>hm k (D1E _ hk)) s hs
   exact key ks (fun _ h=>h) x hx
theorem B2N{f:Fm}(h:FmFit f): ∀s∈D0 f,s.size≤140737488351232:=by
 induction f using R1 with
 |h o n l s ks e=>
  rw[D0];intro x hx;rcases D1M.1 hx with hx|hx
  ·split at hx
   ·rw[D1N]at hx;subst hx;exact h.txt
   ·cases hx
  ·have key: ∀m:List Fm,(∀k∈m,k∈ks)→∀s∈D0.boolsL m,s.size≤140737488351232:=by
    intro m
    induction m with
    |nil=>intro _ s hs;cases hs
    |cons f fs d=>
     intro hm s hs;rcases D1M.1 hs with hs|hs
     ·exact e f (hm f (D07 ..)) (h.kid (hm f (D07 ..))) s hs
     ·exact d (fun k hk=>hm k (D1E _ hk)) s hs
   exact key ks (fun _ h=>h) x hx
theorem B01: ∀(f:Fm) (p:List ByteArray×List ByteArray),A0y f p=((E4 f).foldl H7 p.1,(D0 f).foldl H7 p.2):=by
 intro f
 induction f using R1 with
 |h o n l s ks e=>
  rintro⟨a,b⟩;rw[A0y,E4,D0];have key: ∀m:List Fm,(∀k∈m,k∈ks)→∀p,A0y.namesK m p=((E4.intsL m).foldl H7 p.1,(D0.boolsL m).foldl H7 p.2):=by
   intro m
   induction m with
   |nil=>intro _ p;rfl
   |cons f fs d=>
    intro hm p;rw[A0y.namesK,d (fun k hk=>hm k (D1E _ hk)),e f (hm f (D07 ..)),E4.intsL,D0.boolsL,D1o,D1o]
  rw[key ks (fun _ h=>h),D1o,D1o];refine Prod.ext rfl ?_;show List.foldl H7 (if o=3 then H7 b s else b) _=_;split<;>rfl
noncomputable def A5Q(a:List ByteArray×List ByteArray)(f:Fm)(_:Int):List ByteArray×List ByteArray:=((f.l.t.map (·.v)).foldl I7 a.1,if f.op=3 then I7 a.2 f.s else a.2)
theorem B7C: ∀(f:Fm) (d:Int) (p:List ByteArray×List ByteArray),foldF A5Q f d p=((E4 f).foldl I7 p.1,(D0 f).foldl I7 p.2):=by
 intro f
 induction f using R1 with
 |h o n l s ks i=>
  rintro d ⟨a,b⟩;rw[A2K,E4,D0];have key: ∀m:List Fm,(∀k∈m,k∈ks)→∀(e:Int) p,foldF.foldK A5Q m e p=((E4.intsL m).foldl I7 p.1,(D0.boolsL m).foldl I7 p.2):=by
   intro m
   induction m with
   |nil=>intro _ e p;rfl
   |cons f fs g=>
    intro hm e p;rw[foldF.foldK,g (fun k hk=>hm k (D1E _ hk)),i f (hm f (D07 ..)),E4.intsL,D0.boolsL,D1o,D1o]
  show foldF.foldK A5Q ks _ _=_;rw[key ks (fun _ h=>h),D1o,D1o];refine Prod.ext rfl ?_;show List.foldl I7 (if o=3 then I7 b s else b) _=_;split<;>rfl
def upS(l:List ByteArray):List ByteArray:=l.foldl H7 []
theorem A8z(l:List ByteArray):(upS l).Pairwise fun x y=>W8 x y=true:=B0O _ _ .nil
theorem U1(l:List ByteArray)(x:ByteArray):x∈upS l↔x∈l:=by unfold upS;rw[A7U];simp
noncomputable def J8(l:List ByteArray):List ByteArray:=l.foldl I7 []
theorem A1i(l:List ByteArray):(J8 l).Nodup:=V0 _ _ List.nodup_nil
theorem G5(l:List ByteArray)(x:ByteArray):x∈J8 l↔x∈l:=by unfold J8;rw[Go.Lin.A7n];simp
theorem B7D{l:List ByteArray}(h:l.Pairwise fun x y=>W8 x y=true):l.Nodup:=h.imp fun {a b} g e=>by subst e;rw[w9]at g;cases g
theorem A3y(l:List ByteArray):(J8 l).length=(upS l).length:=((List.perm_ext_iff_of_nodup (A1i l) (B7D (A8z l))).2 fun x=>by rw[G5,U1]).length_eq
theorem A5h(l:List ByteArray):(J8 l).length≤l.length:=by have:=A7o l [];simpa [J8]using this
theorem A1I(l m:List ByteArray):meetL l m=true↔∃x,x∈l∧x∈m:=by
 unfold meetL;simp only[List.any_eq_true,D1I];constructor
 ·rintro⟨x,hx,y,d,rfl⟩;exact⟨x,hx,d⟩
 ·rintro⟨x,hx,d⟩;exact⟨x,hx,x,d,rfl⟩
theorem A1j{l m l' m':List ByteArray}(h1: ∀x,x∈l↔x∈l')(d: ∀x,x∈m↔x∈m'):meetL l m=meetL l' m':=by
 rw[Bool.eq_iff_iff,A1I,A1I];exact exists_congr fun x=>by rw[h1,d]
def ivF(f:Fm):List ByteArray:=upS (E4 f)
def bvF(f:Fm):List ByteArray:=upS (D0 f)
theorem B2O(f:Fm):A0y f ([],[])=(ivF f,bvF f):=B01 f _
theorem y9(f:Fm):E7 f=(G9 D8 f&&decide (O6 f≤60)&&decide (F6 f≤200)&& !meetL (ivF f) (bvF f)&&decide ((ivF f).length+(bvF f).length≤12)):=by
 unfold E7;rw[B2O]
@[go_sem] theorem R2(o n:Int)(l:LinV)(s:ByteArray)(ks:List Fm):C1 (.mk o n l s ks)= [.int .i64 o,.int .i64 n,.sl 2 (Rw L4 l.t),.int .i64 l.k,.bool l.e,.str s,.sl 7 (Rw C1 ks)]:=O2 _
@[go_sem] theorem B91(f:Fm):(C1 f).length=7:=by rw[O2];rfl
@[go_sem] theorem C7L(f:Fm):(C1 f).take 7=C1 f:=by rw[O2];rfl
theorem B92(f:Fm):(C1 f).all D.one=true:=by rw[O2];rfl
attribute [go_sem] B92
@[go_sem] theorem D0T(f:Fm):(C1 f).head?=some (.int .i64 f.op):=by rw[O2];rfl
@[go_sem] theorem D0U(f:Fm):((C1 f).drop 1).head?=some (.int .i64 f.n):=by rw[O2];rfl
@[go_sem] theorem D0V(f:Fm):((C1 f).drop 2).head?=some (.sl 2 (Rw L4 f.l.t)):=by rw[O2];rfl
@[go_sem] theorem D0W(f:Fm):((C1 f).drop 3).head?=some (.int .i64 f.l.k):=by rw[O2];rfl
@[go_sem] theorem D0X(f:Fm):((C1 f).drop 4).head?=some (.bool f.l.e):=by rw[O2];rfl
@[go_sem] theorem D0Y(f:Fm):((C1 f).drop 5).head?=some (.str f.s):=by rw[O2];rfl
@[go_sem] theorem D0Z(f:Fm):((C1 f).drop 6).head?=some (.sl 7 (Rw C1 f.ks)):=by rw[O2];rfl
@[go_sem] theorem D0a(f:Fm):((C1 f).drop 2).take 3=D7 f.l:=by rw[O2];rfl
@[go_sem] theorem B93(a b c d e f g:D)(t:Fm):P9 [a,b,c,d,e,f,g] 0 (C1 t)=C1 t:=by rw[O2];rfl
theorem A80{g h j m o p q r u:D}(x:NilR j m)(y:NilR r u):NilR (.agg [g,h,j,o,p,q,r]) (.agg [g,h,m,o,p,q,u]):=by
 refine .agg _ _ rfl fun i d d' h1 e=>?_
 match i with
 |0=>cases h1;cases e;exact .same _
 |1=>cases h1;cases e;exact .same _
 |2=>cases h1;cases e;exact x
 |3=>cases h1;cases e;exact .same _
 |4=>cases h1;cases e;exact .same _
 |5=>cases h1;cases e;exact .same _
 |6=>cases h1;cases e;exact y
 |i+7=>cases h1
theorem B42{x y z:D}(h:NilR x y):NilR (.tuple [x,z]) (.tuple [y,z]):=by
 refine .tuple _ _ rfl fun i d d' h1 e=>?_
 match i with
 |0=>cases h1;cases e;exact h
 |1=>cases h1;cases e;exact .same _
 |i+2=>cases h1
theorem A4l(o n k:Int)(e:Bool)(s:ByteArray):NilR (.agg [.int .i64 o,.int .i64 n,.nilsl,.int .i64 k,.bool e,.str s,.nilsl]) (.agg (C1 (.mk o n ⟨[],k,e⟩ s []))):=by
 rw[R2];exact A80 (.nil 2) (.nil 7)
theorem B2P(o n k:Int)(e:Bool)(s:ByteArray)(ks:List Fm):NilR (.agg [.int .i64 o,.int .i64 n,.nilsl,.int .i64 k,.bool e,.str s,.sl 7 (Rw C1 ks)]) (.agg (C1 (.mk o n ⟨[],k,e⟩ s ks))):=by
 rw[R2];exact A80 (.nil 2) (.same _)
theorem B7E(o n:Int)(l:LinV)(s:ByteArray):NilR (.agg [.int .i64 o,.int .i64 n,.sl 2 (Rw L4 l.t),.int .i64 l.k,.bool l.e,.str s,.nilsl]) (.agg (C1 (.mk o n l s []))):=by
 rw[R2];exact A80 (.same _) (.nil 7)
theorem fz7{b sz:Nat}{es:List (List D)}{g h j m o p q r u:D}(x:Fz b sz es j m)(y:Fz b sz es r u): ∀(i:Nat) d d',[g,h,j,o,p,q,r][i]? =some d→[g,h,m,o,p,q,u][i]? =some d'→Fz b sz es d d':=by
 intro i d d' h1 e
 match i with
 |0=>cases h1;cases e;exact .same _
 |1=>cases h1;cases e;exact .same _
 |2=>cases h1;cases e;exact x
 |3=>cases h1;cases e;exact .same _
 |4=>cases h1;cases e;exact .same _
 |5=>cases h1;cases e;exact .same _
 |6=>cases h1;cases e;exact y
 |i+7=>cases h1
theorem A81{Q:D→Heap→Prop}{H:Heap}{n:Nat}{ob:Option Nat}{o m k:Int}{e:Bool}{s:ByteArray}{ks:List Fm}(hn:n=ks.length)(ho:OutAt H 7 (Rw C1 ks) ob)(h:Fin Q (.agg (C1 (.mk o m ⟨[],k,e⟩ s ks))) (K2 H ob)):
  Fin Q (.agg [.int .i64 o,.int .i64 m,.nilsl,.int .i64 k,.bool e,.str s,J3 7 n ob]) H:=by
 rw[R2]at h;cases ob with
 |none=>
  have d:Rw C1 ks= []:=ho;refine D9 ?_ h;rw[d];exact A80 (.nil 2) (.nil 7)
 |some b=>
  have hb:H b=some (.vec 7 (Rw C1 ks)):=ho;subst hn;refine V3 (cs':=[.int .i64 o,.int .i64 m,.sl 2 [],.int .i64 k,.bool e,.str s,.sl 7 (Rw C1 ks)]) hb rfl (fz7 (.nil 2) ?_) h;show Fz b 7 (Rw C1 ks) (.vec b 7 0 ks.length) _;have:=Fz.all (b:=b) (sz:=7) (es:=Rw C1 ks);rwa [D6]at this
theorem B94{H:Heap}{n:Nat}{ob:Option Nat}{o m k:Int}{e:Bool}{s:ByteArray}{ks:List Fm}(hn:n=ks.length)(ho:OutAt H 7 (Rw C1 ks) ob):
  View H (.agg [.int .i64 o,.int .i64 m,.nilsl,.int .i64 k,.bool e,.str s,J3 7 n ob]) (.agg (C1 (.mk o m ⟨[],k,e⟩ s ks))):=by
 rw[R2];refine .agg _ _ rfl fun i d d' h1 g=>?_
 match i with
 |0=>cases h1;cases g;exact .same _
 |1=>cases h1;cases g;exact .same _
 |2=>cases h1;cases g;exact .nil 2
 |3=>cases h1;cases g;exact .same _
 |4=>cases h1;cases g;exact .same _
 |5=>cases h1;cases g;exact .same _
 |6=>
  cases h1;cases g;cases ob with
  |none=>rw[show Rw C1 ks= []from ho];exact .nil 7
  |some b=>exact .vec b 7 n _ _ ho (by rw[D6];exact hn) rfl (fun i e e' h1 g=>by rw[h1]at g;cases g;rfl) (fun i e e' j d d' h1 g p h=>by rw[h1]at g;cases g;rw[p]at h;cases h;exact .same _)
 |i+7=>cases h1
end Go.Fo
namespace Go.Proofs.YtibphjonmikciaaGreatDoor
section
open Go Go.Shelf Go.RowKit
set_option maxHeartbeats 4000000 in
set_option maxRecDepth 100000 in
theorem B95(n:Nat)(hn:0<n)(hb:n*96≤140737488355328)(w:World):
  Calls Tryz.prog 190 #[.slice none 0 0,.int .i64 n] w fun e w'=>∃(cs:Array Value) (G:Nat),e= .returned (.slice (some ⟨w.heap.size,0,none⟩) 0 G)∧w'=w.drew.alloc (.cells cs 28)∧cs.size=G*7∧n≤G:=by
 obtain⟨i,m,y,hs,o⟩: ∃i,Tryz.prog.info? 28=some i∧i.zero=some (Value.agg #[.int .i64 0,.int .i64 0,.slice none 0 0,.int .i64 0,.bool false,.string ⟨#[]⟩,.slice none 0 0])∧i.size=7∧i.bytes=96:=by
  have h:(Tryz.prog.info? 28).map (fun i=>(i.zero,i.size,i.bytes))=some (some (Value.agg #[.int .i64 0,.int .i64 0,.slice none 0 0,.int .i64 0,.bool false,.string ⟨#[]⟩,.slice none 0 0]),7,96):=by kernel_rfl
  obtain⟨i,m,e⟩:=D05.1 h;simp only[Prod.mk.injEq]at e;exact⟨i,m,e.1,e.2.1,e.2.2⟩
 have p:Tryz.prog.follows .mixedOrders=true:=by kernel_rfl
 have r:=Tryz.underlying26;have a1:=Tryz.isAgg26;have C:=Tryz.sizeOf26;have v1:=Tryz.zeroValue26;have I:=run_underlying r;have u:=Tryz.underlying3;have a3:=Tryz.isAgg3;have J:=Tryz.sizeOf3;have v3:=Tryz.zeroValue3;have L:=run_underlying u;have z:=Tryz.underlying4;have M:=Tryz.isAgg4;have O:=Tryz.sizeOf4;have v4:=Tryz.zeroValue4;have T:=run_underlying z;have A:=Tryz.underlying28;have U:=Tryz.isAgg28;have V:=Tryz.sizeOf28;have W:=Tryz.zeroValue28;have X:=run_underlying A;have h1: ¬((n:Int)<0):=by omega
 have Y:RowKit.wrap64 ((n:Int)-0)=(n:Int):=by unfold RowKit.wrap64;omega
 have h4:(n:Int) > 0:=by omega
 have d:=Lib.run_append_nil_zeros w 26 3 26 28 i _ .i64 .i64 r u m y n hn (by omega) (by omega) (by rw[o];omega);obtain⟨G,q⟩: ∃G,G=grownCap w n 0 28:=⟨_,rfl⟩
 have j:n≤grownCap w n 0 28:=grownCap_ge w _ _ _;have x:G≤9223372036854775807:=by
  have:=grownCap_le_maxLen w n 0 28 (by unfold maxLen;omega);rw[←q]at this;unfold maxLen at this;omega
 rw[←q]at d j;obtain⟨cs,g⟩: ∃cs,cs=Builtin.zeroCells (Value.agg #[.int .i64 0,.int .i64 0,.slice none 0 0,.int .i64 0,.bool false,.string ⟨#[]⟩,.slice none 0 0]).cells n++Builtin.zeroCells (Value.agg #[.int .i64 0,.int .i64 0,.slice none 0 0,.int .i64 0,.bool false,.string ⟨#[]⟩,.slice none 0 0]).cells (G-n):=⟨_,rfl⟩
 have hsz:cs.size=G*7:=by
  rw[g,Array.size_append,size_zeroCells,size_zeroCells];show n*7+(G-n)*7=G*7;omega
 rw[←g]at d;clear q g
 go_enter Tryz.func190,Tryz.ntmps190
 go_wp2_with (at_builtin;refine Lib.wpList_append_run _ rfl _ _ _ _ rfl _ _ rfl rfl _ _ d ?_)
 all_goals (go_ret;exact⟨cs,G,rfl,rfl,by first|exact hsz|simpa using hsz,j⟩)
end
section
open Go Go.Av Go.Lin Go.Fo
theorem B7F{Q}(H:Heap)(d:Q .nilsl H):E6 190 [.nilsl,.int .i64 0] H Q:=by
 refine B2 [] A8 Tryz.func190 rfl ?_;simp only[go_sem,seval,Tryz.results190];repeat' (first|with_reducible apply D0w|simp only[go_sem,seval]|simp(disch:=omega) only[A5,C5])
 all_goals exact D2R d
theorem B3d{Q}(n:Nat)(hb:n*96≤140737488355328)(H:Heap)(o:n=0→Q .nilsl H)(h:n≠0→∀b,H b=none→Q (.vec b 7 0 0) (H.set b (.vec 7 []))):E6 190 [.nilsl,.int .i64 n] H Q:=by
 by_cases hn:n=0
 ·subst hn;exact B7F H (o rfl)
 ·refine⟨by kernel_rfl,fun w vs hl hr hs=>?_⟩;obtain⟨a,b,rfl,p,g⟩:=A0R hl hr;have q:a= .slice none 0 0:=by cases p;rfl
  rw[q,g.int_inv];refine(B95 n (by omega) hb w).mono ?_;rintro e w' ⟨cs,G,rfl,rfl,hsz,r⟩;have m:=hs.same (w':=w.drew) rfl (Ext.drewN H w 1);obtain⟨d,H',u,x,y,z,A⟩:=A0C (w:=w.drew) (K:=Q) m (sz:=7) (es:=[]) (vs:=cs) 28 0 G (by omega) ⟨by simp,fun i e he=>by simp at he,fun i e j d he=>by simp at he,fun i e j d he=>by simp at he⟩ (D1H _) hsz (fun b hb=>h hn b hb);exact⟨_,rfl,d,H',u,x,(Ext.drewN H w 1).trans (D2T _ _) y,z,A⟩
theorem A7x{Q}(l m:List Fm)(hb:(l.length+m.length)*96≤140737488355328)(H:Heap)(h:Q (.sl 7 (Rw C1 (l++m))) H):E6 153 [.sl 1 [[.sl 7 (Rw C1 l)],[.sl 7 (Rw C1 m)]]] H Q:=by
 refine B2 [] A8 Tryz.func153 rfl ?_;simp only[go_sem,seval,Tryz.results153];refine C8 [0,9,10] (fun(p:Nat×Int)=>[(11,.int .i64 p.1),(3,.int .i64 p.2)]) (fun(p:Nat×Int)=>H) (fun(p:Nat×Int)=>p.1≤2∧(p.1=0→p.2=0)∧(p.1=1→p.2=l.length)∧(p.1=2→p.2=(l.length:Int)+m.length)) (fun(p:Nat×Int)=>2-p.1) ((0,0)) (⟨by simp,by simp,by simp,by simp⟩) (by(try simp only[go_sem,seval])<;>(try simp(disch:=omega) [A5])) (by first|exact D2N _|exact A0 (by assumption)|exact B4 (by assumption)|simp only[Heap.Le,Heap.set,Heap.del]at* <;>grind) ?_;rintro y rfl ⟨k,z⟩ ⟨o,g,i,j⟩;simp only at o g i j
 match k,o,g,i,j with
 |0,o,g,i,j=>
  have q:=g rfl;subst q;repeat' (first|with_reducible apply D0w|simp only[go_sem,seval,D1V]|simp(disch:=omega) only[A5,C5]|intro d|omega)
  exact C4 (1,(l.length:Int)) ⟨by simp,by simp,by simp,by simp⟩ (by simp) (by(try simp only[go_sem,seval])<;>(try simp(disch:=omega) [A5])) (D2N _)
 |1,o,g,i,j=>
  have q:=i rfl;subst q;repeat' (first|with_reducible apply D0w|simp only[go_sem,seval,D1V,D1W]|simp(disch:=omega) only[A5,C5]|intro d|omega)
  exact C4 (2,(l.length:Int)+m.length) ⟨by simp,by simp,by simp,by simp⟩ (by simp) (by(try simp only[go_sem,seval])<;>(try simp(disch:=omega) [A5])) (D2N _)
 |2,o,g,i,j=>
  have q:=j rfl;subst q;have A:(l.length:Int)+m.length=((l.length+m.length:Nat):Int):=by omega
  by_cases r:l.length+m.length=0
  ·have el:l= []:=D1K (by omega);have C:m= []:=D1K (by omega);subst el;subst C;repeat' (first|with_reducible apply D0w|simp only[go_sem,seval,A]|intro d|omega)
   refine B3d 0 (by omega) H (fun _=>?_) (fun e=>absurd rfl e);repeat' simp only[go_sem,seval]
   refine C8 [25,26] (fun(k:Nat)=>[(27,.int .i64 k),(6,.nilsl)]) (fun(k:Nat)=>H) (fun(k:Nat)=>k≤2) (fun(k:Nat)=>2-k) (0) (by omega) (by(try simp only[go_sem,seval])<;>(try simp(disch:=omega) [A5])) (by first|exact D2N _|exact A0 (by assumption)|exact B4 (by assumption)|simp only[Heap.Le,Heap.set,Heap.del]at* <;>grind) ?_;rintro y rfl k hk
   match k,hk with
   |0,_=>
    repeat' (first|with_reducible apply D0w|simp only[go_sem,seval,D1V,A0w]|simp(disch:=omega) only[A5,C5]|intro d|omega)
    exact C4 1 (by omega) (by omega) (by(try simp only[go_sem,seval])<;>(try simp(disch:=omega) [A5])) (D2N _)
   |1,_=>
    repeat' (first|with_reducible apply D0w|simp only[go_sem,seval,D1V,D1W,A0w]|simp(disch:=omega) only[A5,C5]|intro d|omega)
    exact C4 2 (by omega) (by omega) (by(try simp only[go_sem,seval])<;>(try simp(disch:=omega) [A5])) (D2N _)
   |2,_=>
    repeat' (first|with_reducible apply D0w|simp only[go_sem,seval]|intro d|omega)
    exact Fin.out (n:=0) (ob:=none) rfl rfl (D2O (D2N _) h)
   |k+3,hk=>omega
  repeat' (first|with_reducible apply D0w|simp only[go_sem,seval,A]|intro d|omega)
  refine B3d _ hb H (fun e=>absurd e r) fun _ b u=>?_;repeat' simp only[go_sem,seval]
  refine C8 [25,26] (fun(p:Nat×Nat×List Fm)=>[(27,.int .i64 p.1),(6,.vec p.2.1 7 0 p.2.2.length)]) (fun(p:Nat×Nat×List Fm)=>H.set p.2.1 (.vec 7 (Rw C1 p.2.2))) (fun(p:Nat×Nat×List Fm)=>p.1≤2∧H p.2.1=none∧(p.1=0→p.2.2= [])∧(p.1=1→p.2.2=l)∧(p.1=2→p.2.2=l++m)) (fun(p:Nat×Nat×List Fm)=>2-p.1) ((0,b,[])) (⟨by simp,u,by simp,by simp,by simp⟩) (by(try simp only[go_sem,seval])<;>(try simp(disch:=omega) [A5])) (by first|exact D2N _|exact A0 (by assumption)|exact B4 (by assumption)|simp only[Heap.Le,Heap.set,Heap.del]at* <;>grind) ?_;rintro y rfl ⟨k,c,X⟩ ⟨o,hc,g,i,j⟩;simp only at o hc g i j
  match k,o,g,i,j with
  |0,o,g,i,j=>
   have q:=g rfl;subst q;repeat' (first|with_reducible apply D0w|simp only[go_sem,seval,D1V,E8 hc]|simp(disch:=omega) only[A5,C5]|intro d|omega)
   rename_i x;exact C4 (1,x,l) ⟨by simp,d,by simp,by simp,by simp⟩ (by simp) (by(try simp only[go_sem,seval])<;>(try simp(disch:=omega) [A5])) (D2N _)
  |1,o,g,i,j=>
   have q:=(i rfl).symm;subst q;repeat' (first|with_reducible apply D0w|simp only[go_sem,seval,D1V,D1W,E8 hc]|simp(disch:=omega) only[A5,C5]|intro d|omega)
   rename_i x;exact C4 (2,x,l++m) ⟨by simp,d,by simp,by simp,by simp⟩ (by simp) (by(try simp only[go_sem,seval,D02])<;>(try simp(disch:=omega) [A5])) (by simp only[];rw[←O9,D1B (by rw[D6];exact D1G _)];exact D2N _)
  |2,o,g,i,j=>
   have q:=j rfl;subst q;repeat' (first|with_reducible apply D0w|simp only[go_sem,seval]|intro d|omega)
   exact Fin.out (ob:=some c) (by rw[D6,D02]) (A3 _ _) (D2O (by show H.Le ((H.set c _).del c);rw[E8 hc];exact D2N _) h)
end
end Go.Proofs.YtibphjonmikciaaGreatDoor
namespace Go.Fo
open Go Go.Av Go.Lin
@[go_sem] theorem D0b(o n:Int)(l:LinV)(s:ByteArray)(ks:List Fm):(Fm.mk o n l s ks).op=o:=rfl
@[go_sem] theorem D0n(o n:Int)(l:LinV)(s:ByteArray)(ks:List Fm):(Fm.mk o n l s ks).n=n:=rfl
@[go_sem] theorem D0o(o n:Int)(l:LinV)(s:ByteArray)(ks:List Fm):(Fm.mk o n l s ks).l=l:=rfl
@[go_sem] theorem D0p(o n:Int)(l:LinV)(s:ByteArray)(ks:List Fm):(Fm.mk o n l s ks).s=s:=rfl
@[go_sem] theorem D0c(o n:Int)(l:LinV)(s:ByteArray)(ks:List Fm):(Fm.mk o n l s ks).ks=ks:=rfl
end Go.Fo
namespace Go.Fo
open Go Go.Av Go.Lexs Go.Lin
structure AH(sz:Nat)(Cs:Heap)(bx:Nat)(ac:D→List D)(es:List (List D))(n:Nat)(ob:Option Nat)(Hp:Heap):Prop where
 box:Hp bx=some (.box (ac (J3 sz n ob)))
 out:OutAt Hp sz es ob
 keep: ∀q o,q≠bx→Cs q=some o→Hp q=some o
 fresh: ∀b,ob=some b→Cs b=none∧b≠bx
theorem q8{sz:Nat}{Cs:Heap}{bx:Nat}{ac:D→List D}(h:Cs bx=some (.box (ac .nilsl))):AH sz Cs bx ac [] 0 none Cs:=⟨h,rfl,fun _ _ _ h=>h,fun _ e=>by cases e⟩
theorem AH.ne7{sz:Nat}{Cs:Heap}{bx:Nat}{ac:D→List D}{es:List (List D)}{n:Nat}{ob:Option Nat}{Hp:Heap}(h:AH sz Cs bx ac es n ob Hp){b:Nat}(hb:Hp b=none):bx≠b:=fun e=>by rw[←e,h.box]at hb;cases hb
theorem AH.at7{sz:Nat}{Cs:Heap}{bx:Nat}{ac:D→List D}{es:List (List D)}{n:Nat}{ob:Option Nat}{Hp:Heap}(h:AH sz Cs bx ac es n ob Hp){b:Nat}(hb:Hp b=none)(o:Av.Obj):(Hp.set b o) bx=some (.box (ac (J3 sz n ob)))∧(Hp.set b o) b=some o∧OutAt (Hp.set b o) sz es ob∧∀c,ob=some c→c≠b:=by
 refine⟨by rw[A4 _ (h.ne7 hb)];exact h.box,A3 _ _,?_,fun c e g=>?_⟩
 ·cases ob with
  |none=>exact h.out
  |some c=>
   have hc:Hp c=some _:=h.out;have:c≠b:=fun e=>by rw[e,hb]at hc;cases hc
   show (Hp.set b o) c=_;rw[A4 _ this];exact hc
 ·subst e;have hc:Hp c=some _:=h.out;rw[g,hb]at hc;cases hc
theorem AH.step{sz:Nat}{Cs:Heap}{bx:Nat}{ac:D→List D}{es:List (List D)}{n:Nat}{ob:Option Nat}{Hp:Heap}(h:AH sz Cs bx ac es n ob Hp){b d:Nat}(hb:Hp b=none)(o:Av.Obj)(j:K2 (Hp.set b o) ob d=none)(c:List D):
  d≠bx∧((K2 (Hp.set b o) ob).set d (.vec sz (es++[c]))) bx=some (.box (ac (J3 sz n ob)))∧AH sz Cs bx ac (es++[c]) (n+1) (some d) (((K2 (Hp.set b o) ob).set d (.vec sz (es++[c]))).set bx (.box (ac (.vec d sz 0 (n+1))))):=by
 obtain⟨x,z,A,C⟩:=h.at7 hb o;have y:K2 (Hp.set b o) ob bx=some (.box (ac (J3 sz n ob))):=by
  cases ob with
  |none=>exact x
  |some q=>
   have:=(h.fresh q rfl).2;show Heap.del _ q bx=_;rw[E5 this.symm];exact x
 have i:d≠bx:=fun e=>by rw[e,y]at j;cases j
 have hk: ∀q o',q≠bx→Cs q=some o'→K2 (Hp.set b o) ob q=some o':=fun q o' hq m=>by
  have h1:=h.keep q o' hq m;have p:q≠b:=fun e=>by rw[e,hb]at h1;cases h1
  cases ob with
  |none=>show (Hp.set b o) q=_;rw[A4 _ p];exact h1
  |some r=>
   have u:q≠r:=fun e=>by have:=(h.fresh r rfl).1;rw[←e,m]at this;cases this
   show Heap.del _ r q=_;rw[E5 u,A4 _ p];exact h1
 refine⟨i,by rw[A4 _ i.symm];exact y,A3 _ _,?_,fun q o' hq m=>?_,fun q e=>?_⟩
 ·show (Heap.set _ bx _) d=_;rw[A4 _ i];exact A3 _ _
 ·have h1:=hk q o' hq m;have p:q≠d:=fun e=>by rw[e,j]at h1;cases h1
  rw[A4 _ hq,A4 _ p];exact h1
 ·cases e;refine⟨?_,i⟩;cases g:Cs d with
  |none=>rfl
  |some o'=>have:=hk d o' i g;rw[j]at this;cases this
theorem AH.more{sz:Nat}{Cs:Heap}{bx:Nat}{ac:D→List D}{es:List (List D)}{n:Nat}{ob:Option Nat}{Hp:Heap}(h:AH sz Cs bx ac es n ob Hp){b:Nat}(hb:Hp b=none)(o:Av.Obj):AH sz Cs bx ac es n ob (Hp.set b o):=by
 obtain⟨g,j,i,m⟩:=h.at7 hb o;refine⟨g,i,fun q o' hq d=>?_,h.fresh⟩;have h1:=h.keep q o' hq d;have:q≠b:=fun e=>by rw[e,hb]at h1;cases h1
 rw[A4 _ this];exact h1
theorem AH.le{sz:Nat}{Cs H:Heap}{bx:Nat}{ac:D→List D}{es:List (List D)}{n:Nat}{ob:Option Nat}{Hp:Heap}(h:AH sz Cs bx ac es n ob Hp)(d:H.Le Cs)(hx:H bx=none):H.Le (K2 Hp ob):=fun k o hk=>by
 have g:k≠bx:=fun e=>by rw[e,hx]at hk;cases hk
 have h1:=h.keep k o g (d _ _ hk);cases ob with
 |none=>exact h1
 |some c=>
  have:k≠c:=fun e=>by have:=(h.fresh c rfl).1;rw[←e,d _ _ hk]at this;cases this
  show Heap.del _ c k=_;rw[E5 this];exact h1
theorem AH.le2{sz:Nat}{Cs H:Heap}{bx g:Nat}{ac:D→List D}{es:List (List D)}{n:Nat}{ob:Option Nat}{Hp:Heap}(h:AH sz Cs bx ac es n ob Hp)(d:H.Le Cs)(hx:H bx=none)(m:H g=none)(o:Av.Obj):H.Le (K2 (Hp.set g o) ob):=fun k q hk=>by
 have i:k≠g:=fun e=>by rw[e,m]at hk;cases hk
 have h1:=h.le d hx _ _ hk;cases ob with
 |none=>show (Hp.set g o) k=_;rw[A4 _ i];exact h1
 |some c=>
  have j:k≠c:=fun e=>by have:=(h.fresh c rfl).1;rw[←e,d _ _ hk]at this;cases this
  have h1:Heap.del Hp c k=some q:=h1;rw[E5 j]at h1;show Heap.del _ c k=_;rw[E5 j,A4 _ i];exact h1
theorem AH.out2{sz:Nat}{Cs:Heap}{bx d:Nat}{ac:D→List D}{es:List (List D)}{n:Nat}{ob:Option Nat}{Hp:Heap}(h:AH sz Cs bx ac es n ob Hp){g:Av.Obj}(i:Cs d=some g)(o:Av.Obj):OutAt (Hp.set d o) sz es ob:=by
 cases ob with
 |none=>exact h.out
 |some c=>
  have:c≠d:=fun e=>by have:=(h.fresh c rfl).1;rw[e,i]at this;cases this
  show (Hp.set d o) c=_;rw[A4 _ this];exact h.out
theorem A5i{H:Heap}{sz:Nat}{es:List (List D)}{ob:Option Nat}(h:OutAt H sz es ob){x:Nat}(hx:H x=none)(o:Av.Obj):OutAt (H.set x o) sz es ob∧ob≠some x:=by
 cases ob with
 |none=>exact⟨h,by simp⟩
 |some c=>
  have hc:H c=some _:=h;have:c≠x:=fun e=>by rw[e,hx]at hc;cases hc
  refine⟨?_,fun e=>this (by injection e)⟩;show (H.set x o) c=_;rw[A4 _ this];exact hc
theorem B3e{H:Heap}{b:Nat}{o:Av.Obj}(h:H b=some o):H.set b o=H:=by
 funext k
 unfold Av.Heap.set;by_cases e:k=b
 ·subst e;rw[if_pos rfl,h]
 ·rw[if_neg e]
theorem C3x{Q:D→Heap→Prop}{H:Heap}{n:Nat}{ob:Option Nat}{l:LinV}(hn:n=l.t.length)(ho:OutAt H 2 (Rw L4 l.t) ob)(h:Fin Q (.agg (D7 l)) (K2 H ob)):Fin Q (.agg [J3 2 n ob,.int .i64 l.k,.bool l.e]) H:=by
 have j: ∀(i:Nat) d d',[D.int .i64 l.k,.bool l.e][i]? =some d→[D.int .i64 l.k,.bool l.e][i]? =some d'→d=d':=fun i d d' h1 g=>by rw[h1]at g;injection g
 cases ob with
 |none=>
  have m:Rw L4 l.t= []:=ho;rw[A4Y,m]at h;refine D9 (d':=.agg [.sl 2 [],.int .i64 l.k,.bool l.e]) (.agg _ _ rfl fun i d d' h1 g=>?_) h
  match i with
  |0=>cases h1;cases g;exact .nil 2
  |i+1=>
   simp only[D1S]at h1 g;rw[j i d d' h1 g];exact .same _
 |some b=>
  have hb:H b=some (.vec 2 (Rw L4 l.t)):=ho;subst hn;refine V3 (cs':=D7 l) hb rfl (fun i d d' h1 g=>?_) h
  match i with
  |0=>
   cases h1;cases g;show Fz b 2 (Rw L4 l.t) (.vec b 2 0 l.t.length) _;have:=Fz.all (b:=b) (sz:=2) (es:=Rw L4 l.t);rwa [D6]at this
  |i+1=>
   simp only[A4Y,D1S]at h1 g;rw[j i d d' h1 g];exact .same _
theorem B7G(f:Fm):(C1 f).set 2 (.sl 2 (Rw L4 f.l.t))=C1 f:=by rw[O2];rfl
theorem B7H(f:Fm)(x:D):(C1 f).set 6 x= [.int .i64 f.op,.int .i64 f.n,.sl 2 (Rw L4 f.l.t),.int .i64 f.l.k,.bool f.l.e,.str f.s,x]:=by rw[O2];rfl
abbrev ac6(f:Fm)(x:D):List D:=[.int .i64 f.op,.int .i64 f.n,.sl 2 (Rw L4 f.l.t),.int .i64 f.l.k,.bool f.l.e,.str f.s,x]
theorem C3y{Q:D→Heap→Prop}{H:Heap}{n:Nat}{ob:Option Nat}{f:Fm}{ks:List Fm}(hn:n=ks.length)(ho:OutAt H 7 (Rw C1 ks) ob)(h:Fin Q (.agg (C1 (.mk f.op f.n f.l f.s ks))) (K2 H ob)):Fin Q (.agg (ac6 f (J3 7 n ob))) H:=by
 rw[R2]at h;cases ob with
 |none=>
  have d:Rw C1 ks= []:=ho;refine D9 ?_ h;rw[d];exact A80 (.same _) (.nil 7)
 |some b=>
  have hb:H b=some (.vec 7 (Rw C1 ks)):=ho;subst hn;refine V3 (cs':=ac6 f (.sl 7 (Rw C1 ks))) hb rfl (fz7 (.same _) ?_) h;show Fz b 7 (Rw C1 ks) (.vec b 7 0 ks.length) _;have:=Fz.all (b:=b) (sz:=7) (es:=Rw C1 ks);rwa [D6]at this
end Go.Fo
namespace Go.Av
theorem S2{P:Program}{f b n sz:Nat}{es:List (List D)}{ds:List D}{H0:Heap}{Q:D→Heap→Prop}(d:H0 b=none)(hn:n=es.length)(h:ACalls P f (.sl sz es::ds) H0 Q):ACalls P f (.vec b sz 0 n::ds) (H0.set b (.vec sz es)) Q:=
 V2 (A3 _ _) hn (by rw[E8 d];exact h)
theorem A9S{P:Program}{f b n sz:Nat}{es:List (List D)}{a:D}{ds:List D}{H0:Heap}{Q:D→Heap→Prop}(d:H0 b=none)(hn:n=es.length)(h:ACalls P f (a:: .sl sz es::ds) H0 Q):ACalls P f (a:: .vec b sz 0 n::ds) (H0.set b (.vec sz es)) Q:=
 A0o (A3 _ _) hn (by rw[E8 d];exact h)
theorem A6z{P:Program}{f m:Nat}{kvs:List (D×D)}{x:D}{ds:List D}{H:Heap}{Q:D→Heap→Prop}(hm:H m=some (.map kvs))(h:ACalls P f (.agg [x,.fm kvs]::ds) (H.del m) Q):ACalls P f (.agg [x,.map m]::ds) H Q:=by
 refine ACalls.shift (args':=.agg [x,.fm kvs]::ds) (fun w vs h1 p hs=>?_) h;have g:=F0 H m;refine⟨by simpa using h1,fun i d q=>?_,hs.less g,fun k hn=>g.held hn⟩
 match i with
 |0=>
  cases q;have j:=p 0 _ rfl;revert j;generalize vs.getD 0 undef=v1;intro j;cases j with
  |agg _ us o ho hr=>
   refine .agg _ us (by simpa using o) (fun i d' e=>?_) (fun i d' e=>?_)
   ·match i with
    |0=>exact ho 0 d' e
    |1=>cases e;rfl
    |i+2=>simp at e
   ·match i with
    |0=>exact(hr 0 d' e).less g
    |1=>
     cases e;exact B3a hs hm g (I1 (by simp[Heap.del])) (hr 1 _ rfl)
    |i+2=>simp at e
 |i+1=>exact(p (i+1) d (by simpa using q)).less g
end Go.Av
namespace Go.Proofs.YtibphjonmikciaaGreatDoor
open Go Go.Av Go.Lexs Go.Lin Go.Fo
attribute [local irreducible] ACalls S3
theorem B2Q{Q}(f:Fm)(H:Heap)(h:Q (.int .i64 (if f.op=6 then 1 else 0)) H):E6 193 [.agg (C1 f)] H Q:=by
 refine B2 [] A8 Tryz.func193 rfl ?_;simp only[go_sem,seval,Tryz.results193];by_cases c:f.op=6
 ·rw[if_pos c]at h;repeat' (first|simp only[go_sem,seval,c]|intro d)
  exact D2O (A0 (by assumption)) h
 ·rw[if_neg c]at h;repeat' (first|simp only[go_sem,seval,c]|intro d)
  exact D2O (A0 (by assumption)) h
theorem C3z{Q}(l:List Fm)(n:Int)(h1:n≤1)(g:D)(H:Heap)(h:Q (.tuple []) H):E6 242 [.sl 7 (Rw C1 l),.int .i64 0,.int .i64 n,g] H Q:=by
 refine B2 [(4,.rg),(6,.rd true)] A8 Tryz.func242 rfl ?_;simp only[go_sem,seval,Tryz.results242];have c: ¬1<n:=by omega
 repeat' simp(disch:=omega) only[A5,A3Z,okRest_at,U0,A4J,B3,okRestE_at,A08,B1s,A8V,B9G,A4k,C5,A2o,A0T,a8,K3,A8n,S0]
 refine C8 [0,1,2,3] (fun(k:Nat)=>[(8,.int .i64 1)]) (fun(k:Nat)=>H) (fun(k:Nat)=>True) (fun(k:Nat)=>0) (0) (trivial) (by simp only[go_sem,seval]) (by first|exact D2N _|exact A0 (by assumption)|exact B4 (by assumption)|simp only[Heap.Le,Heap.set,Heap.del]at* <;>grind) ?_;rintro d rfl k _;repeat' simp only[go_sem,seval,c]
 exact D2R h
theorem B7I{Q}(l:List Fm)(hl:l.length≤1)(g:D)(H:Heap)(h:Q (.tuple []) H):E6 219 [.sl 7 (Rw C1 l),.int .i64 l.length,g] H Q:=by
 refine B2 [] A8 Tryz.func219 rfl ?_;simp only[go_sem,seval,Tryz.results219];have c: ¬(20:Int)≤l.length:=by omega
 have d: ¬(20:Int)<l.length:=by omega
 repeat' (first|with_reducible apply D0w|simp only[go_sem,seval]|simp(disch:=omega) only[C5]|intro e|omega)
 refine C8 [0,1,2,6] (fun(k:Nat)=>[(7,.int .i64 0),(8,.int .i64 20)]) (fun(k:Nat)=>H) (fun(k:Nat)=>True) (fun(k:Nat)=>0) (0) (trivial) (by simp only[go_sem,seval]) (by first|exact D2N _|exact A0 (by assumption)|exact B4 (by assumption)|simp only[Heap.Le,Heap.set,Heap.del]at* <;>grind) ?_;rintro i rfl k _;repeat' (first|simp only[go_sem,seval,c]|with_reducible refine C3z l _ (by omega) _ _ ?_)
 refine C8 [0,1,2] (fun(k:Nat)=>[(6,.int .i64 20)]) (fun(k:Nat)=>H) (fun(k:Nat)=>True) (fun(k:Nat)=>0) (0) (trivial) (by simp only[go_sem,seval]) (by first|exact D2N _|exact A0 (by assumption)|exact B4 (by assumption)|simp only[Heap.Le,Heap.set,Heap.del]at* <;>grind) ?_;rintro i rfl k _;repeat' simp only[go_sem,seval,d]
 exact D2R h
theorem A3z{Q}(l:List Fm)(hl:l.length≤1)(g:D)(H:Heap)(h:Q (.tuple []) H):E6 191 [.sl 7 (Rw C1 l),g] H Q:=by
 refine B2 [] A8 Tryz.func191 rfl ?_;simp only[go_sem,seval,Tryz.results191];repeat' (first|simp only[go_sem,seval]|with_reducible refine B7I l hl _ _ ?_)
 exact D2R h
theorem B7J{Q}(c:List Fm)(hc:c≠[])(hl:c.length≤1000000)(H:Heap)(h: ∀b,H b=none→Q (.vec b 7 0 c.length) (H.set b (.vec 7 (Rw C1 c)))):E6 194 [.sl 7 (Rw C1 c)] H Q:=by
 have i:Rw C1 c≠[]:=fun e=>hc (D1K (by rw[←D6 (f:=C1),e];rfl));refine B2 [] A8 Tryz.func194 rfl ?_;simp only[go_sem,seval,Tryz.results194];have hq: ∀(x:Nat),L3 Tryz.prog .eql 26 (L2 (.tmp x)||L2 (.const (.slice none 0 0))) (.sl 7 (Rw C1 c)) .nilsl=some (.bool false):=fun x=>A6G i (by kernel_rfl);repeat' (first|with_reducible apply D0w|simp only[go_sem,seval,hq]|intro d|omega)
 rename_i m j o;have g:=d;clear d;rw[E8 j]at g⊢;exact D2R (h _ g)
theorem B7K{Q}(cs c:List LinV)(m:D)(hm:(∃k,m= .fm k)∨∃b,m= .map b)(hb:(cs.length+c.length)*40≤140737488355328)(H:Heap)(h:Q (.agg [.sl 3 (Rw D7 (cs++c)),m]) H):E6 123 [.agg [.sl 3 (Rw D7 cs),m],.sl 3 (Rw D7 c)] H Q:=by
 refine B2 [] A8 Tryz.func123 rfl ?_;simp only[go_sem,seval,Tryz.results123];rcases hm with⟨k,rfl⟩|⟨b,rfl⟩
 ·repeat' (first|with_reducible apply D0w|simp only[go_sem,seval]|simp(disch:=first|omega|grind) only[B9]|(intro d;try simp only[A6]at d))
  rename_i e g i j x;have hx:=d;clear d;refine S2 (es:=[[.sl 3 (Rw D7 cs)],[.sl 3 (Rw D7 c)]]) (A6.2 ⟨hx.1,A6.2 hx.2⟩) rfl ?_;refine A7k cs c hb _ ?_;repeat' (first|simp only[go_sem,seval]|simp(disch:=first|omega|grind) only[B9])
  exact D2O (by simp only[E3,D1,D2]at* <;>grind) h
 ·repeat' (first|with_reducible apply D0w|simp only[go_sem,seval]|simp(disch:=first|omega|grind) only[B9]|(intro d;try simp only[A6]at d))
  rename_i e g i j x;have hx:=d;clear d;refine S2 (es:=[[.sl 3 (Rw D7 cs)],[.sl 3 (Rw D7 c)]]) (A6.2 ⟨hx.1,A6.2 hx.2⟩) rfl ?_;refine A7k cs c hb _ ?_;repeat' (first|simp only[go_sem,seval]|simp(disch:=first|omega|grind) only[B9])
  exact D2O (by simp only[E3,D1,D2]at* <;>grind) h
end Go.Proofs.YtibphjonmikciaaGreatDoor
namespace Go.Av
section
variable {P:Program} {ops:Array Oper}
def C7N(P:Program)(o:Oper)(K:Kg)(F:FEnv)(H:Heap):Prop:=o.guard=none∧D3 P F.ev H (fun d H'=>K (F.put o.dst d) H') o.op
def B96(P:Program)(ops:Array Oper)(K:Kg):Nat→Array Bool→Kg
 |0,listed=>fun F H=>Region.ready .any ops listed= []∧K F H
 |fuel+1,listed=>fun F H=>(Region.ready .any ops listed= []→K F H)∧∀i∈Region.ready .any ops listed,∃o,ops[i]? =some o∧C7N P o (B96 P ops K fuel (listed.setIfInBounds i true)) F H
theorem B2R{N:Nat}{w0:World}{H0:Heap}{o:Oper}{K:Kg}{F:FEnv}{H:Heap}{a:Act}{w:World}(q: ∀t,o.dst=some t→t<N)(h:C7N P o K F H)(hst:StO N w0 H0 F H a w):
  opSem P none o a w fun v w'=>∃p H',StO N w0 H0 p H' (a.put o.dst v) w'∧K p H':=by
 refine(O0 (o:=o) hst.sat hst.evR h.2).mono fun v w' hp=>?_;obtain⟨d,H',r,u,j,m,hk⟩:=hp;refine⟨F.put o.dst d,H',⟨?_,?_,fun i=>?_,u,hst.ext.trans hst.frm j,hst.frm.trans hst.ext.size m⟩,hk⟩
 ·cases e:o.dst<;>simp[Act.put,hst.size]
 ·cases e:o.dst<;>simp[Act.put,hst.defers]
 ·cases e:o.dst with
  |none=>exact(hst.env i).mono j m
  |some t=>
   have x:=q t e;simp only[FEnv.put];by_cases g:t=i
   ·subst g;rw[if_pos rfl];have:(a.put (some t) v).eval (.tmp t)=v:=by
     have y:t<a.tmps.size:=by rw[hst.size];exact x
     simp[Act.eval,Act.put,y]
    rw[this];exact r
   ·rw[if_neg g];have:(a.put (some t) v).eval (.tmp i)=a.eval (.tmp i):=by
     simp[Act.eval,Act.put,D1a g]
    rw[this];exact(hst.env i).mono j m
theorem A6a{N:Nat}{w0:World}{H0:Heap}{K:Kg}{Q:Exit→Act→World→Prop}(p: ∀o∈ops.toList,∀t,o.dst=some t→t<N)
  (m: ∀F H a w,StO N w0 H0 F H a w→K F H→Q .normal a w): ∀(fuel:Nat) (d:Array Bool) (F:FEnv) (H:Heap) (a:Act) (w:World),
  B96 P ops K fuel d F H→StO N w0 H0 F H a w→Go.wpAny P .any ops Q fuel d a w
 |0,_,F,H,a,w,h,hst=>⟨h.1,m _ _ _ _ hst h.2⟩
 |fuel+1,d,F,H,a,w,h,hst=>⟨fun q=>m _ _ _ _ hst (h.1 q),fun i r=>by
   obtain⟨o,ho,h1⟩:=h.2 i r;unfold Go.wpOp;split
   ·rename_i hn;rw[hn]at ho;cases ho
   ·rename_i o' e;rw[ho]at e;cases e;have g:o∈ops.toList:=by rw[D1b];exact Array.mem_of_getElem? ho
    rw[if_pos (by simp[Region.wanted,h1.1])];exact .inl (opSem.wp ((B2R (p o g) h1 hst).mono fun v w' hv=>by
     obtain⟨u,H',j,hk⟩:=hv;exact A6a p m fuel _ _ _ _ _ hk j))⟩
theorem B2S{f:Nat}{fn:Func}{c:Code}{id:Nat}{args:List D}{H:Heap}{Q:D→Heap→Prop}(hm:P.follows .mixedOrders=true)(I:P.funcs[f]? =some fn)(hb:fn.body=some (.seq c (.region id ops true)))(p:A1y P f=true)(hn:args.length≤fn.ntmps)
  (q:fn.results= #[]) (u:O1 P [] fn.ntmps c=true) (J:(ops.toList.all fun o=>match o.dst with|some t=>decide (t<fn.ntmps)|none=>true)=true)
  (h:wp P [] c (fun x E H=>x= .normal∧B96 P ops (fun _ H=>Fin Q (.tuple []) H) ops.size (Array.replicate ops.size false) E.get H) (W6 0 args) H):ACalls P f args H Q:=by
 refine⟨p,fun w vs hl L hs=>calls_of_wp I hb ?_⟩;have hst:St fn.ntmps w H (W6 0 args) H {tmps:=vs++Array.replicate (fn.ntmps-vs.size) undef,defers:=[]} w:=by
  refine⟨by simp;omega,rfl,fun i=>?_,hs,D2U _ _,D2T _ _⟩;rw[A0F,if_pos (D1H _),Nat.sub_zero];cases C:args[i]? with
  |none=>exact .undef _
  |some d=>
   have M:=(D06.1 C).1;have:({tmps:=vs++Array.replicate (fn.ntmps-vs.size) undef,defers:=[]}:Act).eval (.tmp i)=vs.getD i undef:=by
    simp only[Act.eval];exact G3 (by omega)
   rw[this];exact L i d C
 refine Go.wp_seq (Go.wp_mono (A0E hm c _ _ _ _ _ u h hst) fun e a w' he=>?_);cases e with
 |normal=>
  obtain⟨E,H',g,_,hq⟩:=he;refine wp_region_any hm ?_;have he:Ext H' w' {w' with drawn:=w'.drawn+1}:=Ext.drewN H' w' 1;have y:=g.sat.same (w':={w' with drawn:=w'.drawn+1}) rfl he;refine A6a (N:=fn.ntmps) (w0:=w) (H0:=H) (fun o ho t O=>?_) (fun F T a1 G j hk=>?_) _ _ E.get H' a _ hq ⟨g.size,g.defers,fun i=>(g.env i).mono he (D2T _ _),y,g.ext.trans g.frm he,g.frm⟩
  ·have:=D1X.1 J o ho;rw[O]at this;simpa using this
  ·unfold Fin at hk;obtain⟨U,V,z,W⟩:=hk;have m:St fn.ntmps w H [] T a1 G:=⟨j.size,j.defers,fun i=>.undef _,j.sat,j.ext,j.frm⟩
   obtain⟨v,hv,A⟩:=A2b (P:=P) (fn:=fn) (r:=.tuple []) m (by rw[q];rfl);obtain⟨X,Y,k3⟩:=z G v A j.sat;exact⟨j.defers,v,hv,v,rfl,V,U,X,Y,j.ext,fun k hk hn=>k3 k (j.frm k hk hn),W⟩
 |exit id=>obtain⟨E,H',g,hq⟩:=he;exact absurd hq.1 (by simp)
 |ret=>obtain⟨E,H',g,hq⟩:=he;exact absurd hq.1 (by simp)
 |_=>exact he.elim
def K6(o:Oper):List Nat:=(o.after.toList.filter fun e=>Region.binds .any e).map (·.on)
theorem A1k{g:Array Bool}{i:Nat}(h:i∈Region.ready .any ops g):g.getD i true=false∧∃o,ops[i]? =some o∧∀d∈K6 o,g.getD d false=true:=by
 obtain⟨h1,o,ho,p⟩:=mem_ready.1 h;refine⟨h1,o,ho,fun d q=>?_⟩;obtain⟨e,he,rfl⟩:=D1u.1 q;obtain⟨j,m⟩:=List.mem_filter.1 he;exact p e (by simpa using j) m
theorem A6b{g:Array Bool}{i:Nat}{o:Oper}(h1:g.getD i true=false)(ho:ops[i]? =some o)(h: ∀d∈K6 o,g.getD d false=true):i∈Region.ready .any ops g:=
 mem_ready.2 ⟨h1,o,ho,fun e he hb=>h e.on (D1u.2 ⟨e,List.mem_filter.2 ⟨by simpa using he,hb⟩,rfl⟩)⟩
end
section
variable {P:Program} {ops:Array Oper}
structure EvC(ev:Operand→D):Prop where
 const: ∀v,ev (.const v)=D.ofValue v
 func: ∀f,ev (.func f)= .fn (.func f) [] []
def B02(P:Program)(ops:Array Oper)(vals:Nat→D)(B:Heap)(E0:FEnv):Prop:=∀i o,ops[i]? =some o→o.guard=none∧∀F:FEnv,(∀j oj,ops[j]? =some oj→j∈K6 o→∀t,oj.dst=some t→F t=vals j)→(∀t,(ops.toList.all fun oj=>oj.dst != some t)=true→F t=E0 t)→
 D3 P F.ev B (Fin fun d H=>d=vals i∧H=B) o.op
structure C30(ops:Array Oper)(vals:Nat→D)(E0:FEnv)(l:Array Bool)(F:FEnv):Prop where
 size:l.size=ops.size
 set: ∀j oj,ops[j]? =some oj→l.getD j false=true→∀t,oj.dst=some t→F t=vals j
 els: ∀t,(ops.toList.all fun oj=>oj.dst != some t)=true→F t=E0 t
theorem B43{N:Nat}{w0:World}{H0 B:Heap}{vals:Nat→D}{E0:FEnv}{Q:Exit→Act→World→Prop}(hd: ∀o∈ops.toList,∀t,o.dst=some t→t<N)(C: ∀(i j:Nat) (oi oj:Oper),ops[i]? =some oi→ops[j]? =some oj→∀t,oi.dst=some t→oj.dst=some t→i=j)
  (G:B02 P ops vals B E0) (J: ∀l:Array Bool,l.size=ops.size→Region.ready .any ops l= []→∀i,i<ops.size→l.getD i false=true)
  (hQ: ∀F a w,StO N w0 H0 F B a w→C30 ops vals E0 (Array.replicate ops.size true) F→Q .normal a w): ∀(fuel:Nat) (g:Array Bool) (F:FEnv) (a:Act) (w:World),
  (g.toList.filter (!·)).length≤fuel→C30 ops vals E0 g F→StO N w0 H0 F B a w→Go.wpAny P .any ops Q fuel g a w:=by
 have fin: ∀(l:Array Bool) (F:FEnv) (a:Act) (w:World),C30 ops vals E0 l F→StO N w0 H0 F B a w→Region.ready .any ops l= []→Q .normal a w:=fun l F a w I hst O=>by
  refine hQ F a w hst ⟨by simp,fun j oj u _=>I.set j oj u (J l I.size O j (D1L.1 u).1),I.els⟩
 intro fuel
 induction fuel with
 |zero=>
  intro l F a w hc I hst;have hr:Region.ready .any ops l= []:=by
   cases hr:Region.ready .any ops l with
   |nil=>rfl
   |cons i r=>
    exfalso;obtain⟨h1,o,ho,_⟩:=A1k (by rw[hr];exact D07 .. :i∈Region.ready .any ops l);have hi:=(D1L.1 ho).1;have:=I.size;have hl:l.toList[i]? =some false:=by
     have:i<l.size:=by omega
     simp[this]at h1⊢;exact h1
    have hm:false∈l.toList.filter (!·):=List.mem_filter.2 ⟨D1T hl,rfl⟩;have:=List.length_pos_of_mem hm;omega
  exact⟨hr,fin l F a w I hst hr⟩
 |succ n T=>
  intro l F a w hc I hst;refine⟨fun O=>fin l F a w I hst O,fun i hi=>?_⟩;obtain⟨hu,o,ho,U⟩:=A1k hi;have a5:=(D1L.1 ho).1;have V:=I.size;have W:i<l.size:=by omega
  obtain⟨hg,X⟩:=G i o ho;have x:o∈ops.toList:=by rw[D1b];exact Array.mem_of_getElem? ho
  unfold Go.wpOp;split
  ·rename_i hn;rw[hn]at ho;cases ho
  ·rename_i o' L;rw[ho]at L;cases L;rw[if_pos (by simp[Region.wanted,hg])];refine .inl (opSem.wp ((O0 (o:=o) hst.sat hst.evR (X F (fun j oj u hm t q=>I.set j oj u (U j hm) t q) I.els)).mono fun v w' hp=>?_));obtain⟨d,H',hR,hS,hE,hF,hk⟩:=hp;unfold Fin at hk;obtain⟨H2,d2,M,Y,a0⟩:=hk;rw[Y,a0]at M;obtain⟨k1,k2,k3⟩:=M w' v hR hS;have a4:Ext H0 w0 w':=hst.ext.trans hst.frm hE;refine T _ (F.put o.dst (vals i)) _ _ ?_ ⟨by simpa using V,fun j oj u hm t q=>?_,fun t q=>?_⟩ ⟨?_,?_,fun s=>?_,k2,a4,fun k hk hn=>k3 k ((hst.frm.trans hst.ext.size hF) k hk hn)⟩
   ·have key: ∀(m:List Bool) (i:Nat),m[i]? =some false→((m.set i true).filter (!·)).length+1=(m.filter (!·)).length:=by
     intro m
     induction m with
     |nil=>intro i h;simp at h
     |cons b m T=>
      intro i h;cases i with
      |zero=>simp at h;subst h;simp
      |succ i=>
       have:=T i (by simpa using h);cases b<;>simp[List.set_cons_succ]<;>omega
    have hl:l.toList[i]? =some false:=by
     simp[W]at hu⊢;exact hu
    have:=key l.toList i hl;rw[Array.toList_setIfInBounds];omega
   ·by_cases e:i=j
    ·subst e;rw[ho]at u;cases u;rw[q];simp[FEnv.put]
    ·have y:o.dst≠some t:=fun e2=>e (C i j o oj ho u t e2 q);have hp:F.put o.dst (vals i) t=F t:=by
      cases z:o.dst with
      |none=>rfl
      |some s=>
       have:s≠t:=fun e=>y (by rw[z,e]);simp[FEnv.put,this]
     rw[hp];refine I.set j oj u ?_ t q;rw[getD_set_ne false e]at hm;exact hm
   ·have y:o.dst≠some t:=fun e=>by
     have:=D1X.1 q o x;rw[e]at this;simp at this
    have hp:F.put o.dst (vals i) t=F t:=by
     cases z:o.dst with
     |none=>rfl
     |some s=>
      have:s≠t:=fun e=>y (by rw[z,e]);simp[FEnv.put,this]
    rw[hp];exact I.els t q
   ·cases p:o.dst<;>simp[Act.put,hst.size]
   ·cases p:o.dst<;>simp[Act.put,hst.defers]
   ·have old: ∀s,R w' B (F s) (a.eval (.tmp s)):=fun s=>(hst.env s).mono hE (fun k hk hn=>k3 k (hF k hk hn));cases p:o.dst with
    |none=>exact old s
    |some t=>
     have q:=hd o x t p;simp only[FEnv.put];by_cases A:t=s
     ·subst A;rw[if_pos rfl];have:(a.put (some t) v).eval (.tmp t)=v:=by
       have h':t<a.tmps.size:=by rw[hst.size];exact q
       simp[Act.eval,Act.put,h']
      rw[this];exact k1
     ·rw[if_neg A];have:(a.put (some t) v).eval (.tmp s)=a.eval (.tmp s):=by
       simp[Act.eval,Act.put,D1a A]
      rw[this];exact old s
def C31(ops:Array Oper):Bool:=(List.range ops.size).all fun i=>(List.range ops.size).all fun j=>i==j||((ops[i]?.bind (·.dst)).isNone||(ops[i]?.bind (·.dst)) != (ops[j]?.bind (·.dst)))
def B7L(ops:Array Oper):Bool:=(List.range ops.size).all fun i=>match ops[i]? with
 |some o=>(K6 o).all fun d=>decide (d<i)
 |none=>true
theorem B97(g:B7L ops=true): ∀l:Array Bool,l.size=ops.size→Region.ready .any ops l= []→∀i,i<ops.size→l.getD i false=true:=by
 intro l hs h i
 induction i using Nat.strongRecOn with
 |_ i j=>
  intro e;cases hc:l.getD i false with
  |true=>rfl
  |false=>
   exfalso;have ho:ops[i]? =some ops[i]:=Array.getElem?_eq_getElem e;have h1:=D1X.1 g i (List.mem_range.2 e);rw[ho]at h1;have m:l.getD i true=false:=by
    have:i<l.size:=by omega
    simp[this]at hc⊢;exact hc
   have:=A6b m ho fun d o=>by
    have:=D1X.1 h1 d o;simp only[D1I]at this;exact j d this (by omega)
   rw[h]at this;cases this
theorem A3O{f:Nat}{fn:Func}{c:Code}{id:Nat}{args:List D}{H:Heap}{Q:D→Heap→Prop}(hm:P.follows .mixedOrders=true)(hf:P.funcs[f]? =some fn)(hb:fn.body=some (.seq c (.seq (.region id ops true) .ret)))(L:A1y P f=true)(hn:args.length≤fn.ntmps)
  (i t:Nat) (M:fn.results= #[.tmp t]) (G:(ops[i]?.map (·.dst))=some (some t)) (O:O1 P [] fn.ntmps c=true) (hd:(ops.toList.all fun o=>match o.dst with|some t=>decide (t<fn.ntmps)|none=>true)=true) (u:C31 ops=true) (y:B7L ops=true)
  (h:wp P [] c (fun x E H'=>x= .normal∧∃vals:Nat→D,B02 P ops vals H' E.get∧Fin Q (vals i) H') (W6 0 args) H):ACalls P f args H Q:=by
 refine⟨L,fun w vs hl hR hs=>calls_of_wp hf hb ?_⟩;have hst:St fn.ntmps w H (W6 0 args) H {tmps:=vs++Array.replicate (fn.ntmps-vs.size) undef,defers:=[]} w:=by
  refine⟨by simp;omega,rfl,fun i=>?_,hs,D2U _ _,D2T _ _⟩;rw[A0F,if_pos (D1H _),Nat.sub_zero];cases G:args[i]? with
  |none=>exact .undef _
  |some d=>
   have a7:=(D06.1 G).1;have:({tmps:=vs++Array.replicate (fn.ntmps-vs.size) undef,defers:=[]}:Act).eval (.tmp i)=vs.getD i undef:=by
    simp only[Act.eval];exact G3 (by omega)
   rw[this];exact hR i d G
 refine Go.wp_seq (Go.wp_mono (A0E hm c _ _ _ _ _ O h hst) fun e a w' he=>?_);cases e with
 |normal=>
  obtain⟨E,H',g,_,vals,hq,p⟩:=he;refine Go.wp_seq (wp_region_any hm ?_);have he:Ext H' w' {w' with drawn:=w'.drawn+1}:=Ext.drewN H' w' 1;have T:=g.sat.same (w':={w' with drawn:=w'.drawn+1}) rfl he;refine B43 (N:=fn.ntmps) (w0:=w) (H0:=H) (B:=H') (vals:=vals) (E0:=E.get) (fun o ho t ht=>?_) (fun i j oi oj z A t U V=>?_) hq (B97 y) (fun F a1 w1 m I=>?_) ops.size _ E.get a _ ?_ ⟨by simp,fun j oj hj hm=>?_,fun _ _=>rfl⟩ ⟨g.size,g.defers,fun i=>(g.env i).mono he (D2T _ _),T,g.ext.trans g.frm he,g.frm⟩
  ·have:=D1X.1 hd o ho;rw[ht]at this;simpa using this
  ·have W:=(D1L.1 z).1;have X:=(D1L.1 A).1;have:=D1X.1 (D1X.1 u i (List.mem_range.2 W)) j (List.mem_range.2 X);rw[z,A]at this;simp only[D1Q,U,V,Option.isNone_some,bne_self_eq_false,Bool.or_self,Bool.or_false,beq_iff_eq]at this;exact this
  ·obtain⟨o,ho,Y⟩:=D05.1 G;have hF:F t=vals i:=I.set i o ho (by
    have:=(D1L.1 ho).1;simp[this]) t Y
   unfold Fin at p;obtain⟨H2,q,a0,p⟩:=p;have C:St fn.ntmps w H [(t,vals i)] H' a1 w1:=⟨m.size,m.defers,fun j=>by
    by_cases e:t=j
    ·subst e;have:Env.get [(t,vals i)] t=vals i:=by simp[Env.get]
     rw[this,←hF];exact m.env t
    ·have:Env.get [(t,vals i)] j= .undef:=by simp[Env.get,e]
     rw[this];exact .undef _,m.sat,m.ext,m.frm⟩
   refine Go.wp_mono (A0E (P:=P) (Z:=[]) hm .ret (A8S P fn.results.toList Q) _ _ _ _ rfl ⟨vals i,by rw[M];simp[A28,A0d,Env.get],H2,q,a0,p⟩ C) fun x a w' he=>?_
   have fin: ∀(x:AX) (E:Env) (H':Heap) (a:Act) (w':World),(x= .normal∨x= .ret)→St fn.ntmps w H E H' a w'→A8S P fn.results.toList Q x E H'→
     a.defers= []∧∃v,(results fn a.tmps).run P w'= .ok v w'∧∃v',Ending.returned v= .returned v'∧Post H w Q v' w':=by
    intro x E H' a w' hx g hq;have a4: ∃r,A28 P fn.results.toList E H'=some r∧∃J q,Shift H' r J q∧Q q J:=by rcases hx with rfl|rfl<;>exact hq
    obtain⟨r,hr,J,q,a5,p⟩:=a4;obtain⟨v,hv,a6⟩:=A2b (P:=P) g hr;obtain⟨k1,k2,k3⟩:=a5 _ _ a6 g.sat;exact⟨g.defers,v,hv,v,rfl,q,J,k1,k2,g.ext,fun k hk hn=>k3 k (g.frm k hk hn),p⟩
   cases x with
   |normal=>obtain⟨E,H',g,hq⟩:=he;exact fin .normal E H' a w' (.inl rfl) g hq
   |ret=>obtain⟨E,H',g,hq⟩:=he;exact fin .ret E H' a w' (.inr rfl) g hq
   |exit id=>obtain⟨E,H',g,hq⟩:=he;exact hq.elim
   |_=>exact he.elim
  ·have: ∀n:Nat,((Array.replicate n false).toList.filter (!·)).length≤n:=fun n=>by simp
   exact this _
  ·rw[show (Array.replicate ops.size false).getD j false=false by simp[Array.getElem?_replicate];split<;>simp]at hm;cases hm
 |exit id=>obtain⟨E,H',g,hq⟩:=he;exact absurd hq.1 (by simp)
 |ret=>obtain⟨E,H',g,hq⟩:=he;exact absurd hq.1 (by simp)
 |_=>exact he.elim
end
end Go.Av
namespace Go.Proofs.YtibphjonmikciaaGreatDoor
open Go Go.Av
noncomputable def svOps:Array Oper:=match Tryz.f73.body with|some (.seq _ (.seq (.region _ ops _) _))=>ops|_=> #[]
theorem C32{vals:Nat→D}{B:Av.Heap}{E0:FEnv}
  (x: ∀ev:Operand→D,EvC ev→Av.D3 Tryz.prog ev B (Av.Fin fun d H=>d=vals 0∧H=B) (Go.Op.makeMap 72 none))
  (h1: ∀ev:Operand→D,EvC ev→ev (.tmp 5)=vals 0→Av.D3 Tryz.prog ev B (Av.Fin fun d H=>d=vals 1∧H=B) (Go.Op.build 150 #[(1,(Go.Operand.tmp 5))]))
  (y: ∀ev:Operand→D,EvC ev→ev (.tmp 1)=E0 1→Av.D3 Tryz.prog ev B (Av.Fin fun d H=>d=vals 2∧H=B) (Go.Op.move (Go.Operand.tmp 1)))
  (z: ∀ev:Operand→D,EvC ev→ev (.tmp 6)=vals 1→ev (.tmp 7)=vals 2→Av.D3 Tryz.prog ev B (Av.Fin fun d H=>d=vals 3∧H=B) (Go.Op.call {callee:=(Go.Callee.value (Go.Operand.func 123)),args:= #[(Go.Operand.tmp 6),(Go.Operand.tmp 7)],argTypes:= #[150,110]}))
  (A: ∀ev:Operand→D,EvC ev→ev (.tmp 2)=E0 2→Av.D3 Tryz.prog ev B (Av.Fin fun d H=>d=vals 4∧H=B) (Go.Op.load 28 (Go.Operand.tmp 2)))
  (h5: ∀ev:Operand→D,EvC ev→ev (.tmp 9)=vals 4→Av.D3 Tryz.prog ev B (Av.Fin fun d H=>d=vals 5∧H=B) (Go.Op.call {callee:=(Go.Callee.value (Go.Operand.func 50)),args:= #[(Go.Operand.tmp 9),(Go.Operand.const (Go.Value.bool false))],argTypes:= #[28,4]}))
  (C: ∀ev:Operand→D,EvC ev→ev (.tmp 10)=vals 5→Av.D3 Tryz.prog ev B (Av.Fin fun d H=>d=vals 6∧H=B) (Go.Op.buildSlice 26 1 #[(0,(Go.Operand.tmp 10))]))
  (G: ∀ev:Operand→D,EvC ev→ev (.tmp 8)=vals 3→ev (.tmp 11)=vals 6→Av.D3 Tryz.prog ev B (Av.Fin fun d H=>d=vals 7∧H=B) (Go.Op.call {callee:=(Go.Callee.value (Go.Operand.func 124)),args:= #[(Go.Operand.tmp 8),(Go.Operand.tmp 11)],argTypes:= #[150,26]}))
  (I: ∀ev:Operand→D,EvC ev→ev (.tmp 12)=vals 7→Av.D3 Tryz.prog ev B (Av.Fin fun d H=>d=vals 8∧H=B) (Go.Op.assign (Go.Operand.tmp 12)))
  :B02 Tryz.prog svOps vals B E0:=by
 obtain⟨J,g,L,M,O,w0⟩: ∃o,svOps[0]? =some o∧o.dst=some 5∧o.op=(Go.Op.makeMap 72 none)∧o.guard=none∧(∀j∈([]:List Nat),j∈K6 o):=⟨_,rfl,rfl,rfl,rfl,by simp⟩
 obtain⟨T,o1,d1,U,V,W⟩: ∃o,svOps[1]? =some o∧o.dst=some 6∧o.op=(Go.Op.build 150 #[(1,(Go.Operand.tmp 5))])∧o.guard=none∧(∀j∈([0]:List Nat),j∈K6 o):=⟨_,rfl,rfl,rfl,rfl,by decide+kernel⟩
 obtain⟨X,o2,Y,p2,g2,w2⟩: ∃o,svOps[2]? =some o∧o.dst=some 7∧o.op=(Go.Op.move (Go.Operand.tmp 1))∧o.guard=none∧(∀j∈([]:List Nat),j∈K6 o):=⟨_,rfl,rfl,rfl,rfl,by simp⟩
 obtain⟨x3,o3,d3,p3,g3,h⟩: ∃o,svOps[3]? =some o∧o.dst=some 8∧o.op=(Go.Op.call {callee:=(Go.Callee.value (Go.Operand.func 123)),args:= #[(Go.Operand.tmp 6),(Go.Operand.tmp 7)],argTypes:= #[150,110]})∧o.guard=none∧(∀j∈([1,2]:List Nat),j∈K6 o):=⟨_,rfl,rfl,rfl,rfl,by decide+kernel⟩
 obtain⟨x4,m,d4,p4,g4,w4⟩: ∃o,svOps[4]? =some o∧o.dst=some 9∧o.op=(Go.Op.load 28 (Go.Operand.tmp 2))∧o.guard=none∧(∀j∈([]:List Nat),j∈K6 o):=⟨_,rfl,rfl,rfl,rfl,by simp⟩
 obtain⟨x5,p,d5,p5,g5,w5⟩: ∃o,svOps[5]? =some o∧o.dst=some 10∧o.op=(Go.Op.call {callee:=(Go.Callee.value (Go.Operand.func 50)),args:= #[(Go.Operand.tmp 9),(Go.Operand.const (Go.Value.bool false))],argTypes:= #[28,4]})∧o.guard=none∧(∀j∈([4]:List Nat),j∈K6 o):=⟨_,rfl,rfl,rfl,rfl,by decide+kernel⟩
 obtain⟨x6,q,d6,p6,g6,w6⟩: ∃o,svOps[6]? =some o∧o.dst=some 11∧o.op=(Go.Op.buildSlice 26 1 #[(0,(Go.Operand.tmp 10))])∧o.guard=none∧(∀j∈([5]:List Nat),j∈K6 o):=⟨_,rfl,rfl,rfl,rfl,by decide+kernel⟩
 obtain⟨x7,r,d7,p7,g7,u⟩: ∃o,svOps[7]? =some o∧o.dst=some 12∧o.op=(Go.Op.call {callee:=(Go.Callee.value (Go.Operand.func 124)),args:= #[(Go.Operand.tmp 8),(Go.Operand.tmp 11)],argTypes:= #[150,26]})∧o.guard=none∧(∀j∈([3,6]:List Nat),j∈K6 o):=⟨_,rfl,rfl,rfl,rfl,by decide+kernel⟩
 obtain⟨x8,o8,d8,p8,g8,w8⟩: ∃o,svOps[8]? =some o∧o.dst=some 4∧o.op=(Go.Op.assign (Go.Operand.tmp 12))∧o.guard=none∧(∀j∈([7]:List Nat),j∈K6 o):=⟨_,rfl,rfl,rfl,rfl,by decide+kernel⟩
 have hs:svOps.size=9:=by kernel_rfl
 have n1:(svOps.toList.all fun oj=>oj.dst != some 1)=true:=by kernel_rfl
 have n2:(svOps.toList.all fun oj=>oj.dst != some 2)=true:=by kernel_rfl
 generalize svOps=ops at*;intro i o ho;have hi:i<9:=by have:=(D1L.1 ho).1;omega
 match i,hi with
 |0,_=>
  rw[g]at ho;cases ho;exact⟨O,fun F e he=>by rw[M];exact x F.ev ⟨fun _=>rfl,fun _=>rfl⟩⟩
 |1,_=>
  rw[o1]at ho;cases ho;exact⟨V,fun F e he=>by rw[U];exact h1 F.ev ⟨fun _=>rfl,fun _=>rfl⟩ (e 0 J g (W 0 (by simp)) 5 L)⟩
 |2,_=>
  rw[o2]at ho;cases ho;exact⟨g2,fun F e he=>by rw[p2];exact y F.ev ⟨fun _=>rfl,fun _=>rfl⟩ (he 1 n1)⟩
 |3,_=>
  rw[o3]at ho;cases ho;exact⟨g3,fun F e he=>by rw[p3];exact z F.ev ⟨fun _=>rfl,fun _=>rfl⟩ (e 1 T o1 (h 1 (by simp)) 6 d1) (e 2 X o2 (h 2 (by simp)) 7 Y)⟩
 |4,_=>
  rw[m]at ho;cases ho;exact⟨g4,fun F e he=>by rw[p4];exact A F.ev ⟨fun _=>rfl,fun _=>rfl⟩ (he 2 n2)⟩
 |5,_=>
  rw[p]at ho;cases ho;exact⟨g5,fun F e he=>by rw[p5];exact h5 F.ev ⟨fun _=>rfl,fun _=>rfl⟩ (e 4 x4 m (w5 4 (by simp)) 9 d4)⟩
 |6,_=>
  rw[q]at ho;cases ho;exact⟨g6,fun F e he=>by rw[p6];exact C F.ev ⟨fun _=>rfl,fun _=>rfl⟩ (e 5 x5 p (w6 5 (by simp)) 10 d5)⟩
 |7,_=>
  rw[r]at ho;cases ho;exact⟨g7,fun F e he=>by rw[p7];exact G F.ev ⟨fun _=>rfl,fun _=>rfl⟩ (e 3 x3 o3 (u 3 (by simp)) 8 d3) (e 6 x6 q (u 6 (by simp)) 11 d6)⟩
 |8,_=>
  rw[o8]at ho;cases ho;exact⟨g8,fun F e he=>by rw[p8];exact I F.ev ⟨fun _=>rfl,fun _=>rfl⟩ (e 7 x7 r (w8 7 (by simp)) 12 d7)⟩
noncomputable def chOps:Array Oper:=match Tryz.f195.body with|some (.seq _ (.seq (.region _ ops _) _))=>ops|_=> #[]
theorem C33{vals:Nat→D}{B:Av.Heap}{E0:FEnv}
  (r: ∀ev:Operand→D,EvC ev→ev (.tmp 1)=E0 1→Av.D3 Tryz.prog ev B (Av.Fin fun d H=>d=vals 0∧H=B) (Go.Op.load 150 (Go.Operand.tmp 1)))
  (h1: ∀ev:Operand→D,EvC ev→ev (.tmp 3)=E0 3→Av.D3 Tryz.prog ev B (Av.Fin fun d H=>d=vals 1∧H=B) (Go.Op.load 28 (Go.Operand.tmp 3)))
  (u: ∀ev:Operand→D,EvC ev→ev (.tmp 6)=vals 1→Av.D3 Tryz.prog ev B (Av.Fin fun d H=>d=vals 2∧H=B) (Go.Op.buildSlice 26 1 #[(0,(Go.Operand.tmp 6))]))
  (x: ∀ev:Operand→D,EvC ev→ev (.tmp 2)=E0 2→Av.D3 Tryz.prog ev B (Av.Fin fun d H=>d=vals 3∧H=B) (Go.Op.load 26 (Go.Operand.tmp 2)))
  (y: ∀ev:Operand→D,EvC ev→ev (.tmp 7)=vals 2→ev (.tmp 8)=vals 3→Av.D3 Tryz.prog ev B (Av.Fin fun d H=>d=vals 4∧H=B) (Go.Op.buildSlice 210 2 #[(0,(Go.Operand.tmp 7)),(1,(Go.Operand.tmp 8))]))
  (h5: ∀ev:Operand→D,EvC ev→ev (.tmp 9)=vals 4→Av.D3 Tryz.prog ev B (Av.Fin fun d H=>d=vals 5∧H=B) (Go.Op.call {callee:=(Go.Callee.value (Go.Operand.func 153)),args:= #[(Go.Operand.tmp 9)],argTypes:= #[210]}))
  (z: ∀ev:Operand→D,EvC ev→ev (.tmp 5)=vals 0→ev (.tmp 10)=vals 5→Av.D3 Tryz.prog ev B (Av.Fin fun d H=>d=vals 6∧H=B) (Go.Op.call {callee:=(Go.Callee.value (Go.Operand.func 124)),args:= #[(Go.Operand.tmp 5),(Go.Operand.tmp 10)],argTypes:= #[150,26]}))
  (A: ∀ev:Operand→D,EvC ev→ev (.tmp 11)=vals 6→Av.D3 Tryz.prog ev B (Av.Fin fun d H=>d=vals 7∧H=B) (Go.Op.assign (Go.Operand.tmp 11)))
  :B02 Tryz.prog chOps vals B E0:=by
 obtain⟨C,g,G,I,J,w0⟩: ∃o,chOps[0]? =some o∧o.dst=some 5∧o.op=(Go.Op.load 150 (Go.Operand.tmp 1))∧o.guard=none∧(∀j∈([]:List Nat),j∈K6 o):=⟨_,rfl,rfl,rfl,rfl,by simp⟩
 obtain⟨L,o1,d1,M,O,w1⟩: ∃o,chOps[1]? =some o∧o.dst=some 6∧o.op=(Go.Op.load 28 (Go.Operand.tmp 3))∧o.guard=none∧(∀j∈([]:List Nat),j∈K6 o):=⟨_,rfl,rfl,rfl,rfl,by simp⟩
 obtain⟨T,o2,U,V,W,X⟩: ∃o,chOps[2]? =some o∧o.dst=some 7∧o.op=(Go.Op.buildSlice 26 1 #[(0,(Go.Operand.tmp 6))])∧o.guard=none∧(∀j∈([1]:List Nat),j∈K6 o):=⟨_,rfl,rfl,rfl,rfl,by decide+kernel⟩
 obtain⟨Y,o3,d3,p3,g3,w3⟩: ∃o,chOps[3]? =some o∧o.dst=some 8∧o.op=(Go.Op.load 26 (Go.Operand.tmp 2))∧o.guard=none∧(∀j∈([]:List Nat),j∈K6 o):=⟨_,rfl,rfl,rfl,rfl,by simp⟩
 obtain⟨x4,h,d4,p4,g4,m⟩: ∃o,chOps[4]? =some o∧o.dst=some 9∧o.op=(Go.Op.buildSlice 210 2 #[(0,(Go.Operand.tmp 7)),(1,(Go.Operand.tmp 8))])∧o.guard=none∧(∀j∈([2,3]:List Nat),j∈K6 o):=⟨_,rfl,rfl,rfl,rfl,by decide+kernel⟩
 obtain⟨x5,p,d5,p5,g5,w5⟩: ∃o,chOps[5]? =some o∧o.dst=some 10∧o.op=(Go.Op.call {callee:=(Go.Callee.value (Go.Operand.func 153)),args:= #[(Go.Operand.tmp 9)],argTypes:= #[210]})∧o.guard=none∧(∀j∈([4]:List Nat),j∈K6 o):=⟨_,rfl,rfl,rfl,rfl,by decide+kernel⟩
 obtain⟨x6,q,d6,p6,g6,w6⟩: ∃o,chOps[6]? =some o∧o.dst=some 11∧o.op=(Go.Op.call {callee:=(Go.Callee.value (Go.Operand.func 124)),args:= #[(Go.Operand.tmp 5),(Go.Operand.tmp 10)],argTypes:= #[150,26]})∧o.guard=none∧(∀j∈([0,5]:List Nat),j∈K6 o):=⟨_,rfl,rfl,rfl,rfl,by decide+kernel⟩
 obtain⟨x7,o7,d7,p7,g7,w7⟩: ∃o,chOps[7]? =some o∧o.dst=some 4∧o.op=(Go.Op.assign (Go.Operand.tmp 11))∧o.guard=none∧(∀j∈([6]:List Nat),j∈K6 o):=⟨_,rfl,rfl,rfl,rfl,by decide+kernel⟩
 have hs:chOps.size=8:=by kernel_rfl
 have n1:(chOps.toList.all fun oj=>oj.dst != some 1)=true:=by kernel_rfl
 have n2:(chOps.toList.all fun oj=>oj.dst != some 2)=true:=by kernel_rfl
 have n3:(chOps.toList.all fun oj=>oj.dst != some 3)=true:=by kernel_rfl
 generalize chOps=ops at*;intro i o ho;have hi:i<8:=by have:=(D1L.1 ho).1;omega
 match i,hi with
 |0,_=>
  rw[g]at ho;cases ho;exact⟨J,fun F e he=>by rw[I];exact r F.ev ⟨fun _=>rfl,fun _=>rfl⟩ (he 1 n1)⟩
 |1,_=>
  rw[o1]at ho;cases ho;exact⟨O,fun F e he=>by rw[M];exact h1 F.ev ⟨fun _=>rfl,fun _=>rfl⟩ (he 3 n3)⟩
 |2,_=>
  rw[o2]at ho;cases ho;exact⟨W,fun F e he=>by rw[V];exact u F.ev ⟨fun _=>rfl,fun _=>rfl⟩ (e 1 L o1 (X 1 (by simp)) 6 d1)⟩
 |3,_=>
  rw[o3]at ho;cases ho;exact⟨g3,fun F e he=>by rw[p3];exact x F.ev ⟨fun _=>rfl,fun _=>rfl⟩ (he 2 n2)⟩
 |4,_=>
  rw[h]at ho;cases ho;exact⟨g4,fun F e he=>by rw[p4];exact y F.ev ⟨fun _=>rfl,fun _=>rfl⟩ (e 2 T o2 (m 2 (by simp)) 7 U) (e 3 Y o3 (m 3 (by simp)) 8 d3)⟩
 |5,_=>
  rw[p]at ho;cases ho;exact⟨g5,fun F e he=>by rw[p5];exact h5 F.ev ⟨fun _=>rfl,fun _=>rfl⟩ (e 4 x4 h (w5 4 (by simp)) 9 d4)⟩
 |6,_=>
  rw[q]at ho;cases ho;exact⟨g6,fun F e he=>by rw[p6];exact z F.ev ⟨fun _=>rfl,fun _=>rfl⟩ (e 0 C g (w6 0 (by simp)) 5 G) (e 5 x5 p (w6 5 (by simp)) 10 d5)⟩
 |7,_=>
  rw[o7]at ho;cases ho;exact⟨g7,fun F e he=>by rw[p7];exact A F.ev ⟨fun _=>rfl,fun _=>rfl⟩ (e 6 x6 q (w7 6 (by simp)) 11 d6)⟩
noncomputable def foOps:Array Oper:=match Tryz.f84.body with|some (.seq _ (.seq (.region _ ops _) _))=>ops|_=> #[]
theorem C34{vals:Nat→D}{B:Av.Heap}{E0:FEnv}
  (r: ∀ev:Operand→D,EvC ev→ev (.tmp 2)=E0 2→Av.D3 Tryz.prog ev B (Av.Fin fun d H=>d=vals 0∧H=B) (Go.Op.load 28 (Go.Operand.tmp 2)))
  (h1: ∀ev:Operand→D,EvC ev→ev (.tmp 3)=E0 3→Av.D3 Tryz.prog ev B (Av.Fin fun d H=>d=vals 1∧H=B) (Go.Op.load 28 (Go.Operand.tmp 3)))
  (u: ∀ev:Operand→D,EvC ev→ev (.tmp 6)=vals 1→Av.D3 Tryz.prog ev B (Av.Fin fun d H=>d=vals 2∧H=B) (Go.Op.call {callee:=(Go.Callee.value (Go.Operand.func 50)),args:= #[(Go.Operand.tmp 6),(Go.Operand.const (Go.Value.bool true))],argTypes:= #[28,4]}))
  (x: ∀ev:Operand→D,EvC ev→ev (.tmp 5)=vals 0→ev (.tmp 7)=vals 2→Av.D3 Tryz.prog ev B (Av.Fin fun d H=>d=vals 3∧H=B) (Go.Op.buildSlice 26 2 #[(0,(Go.Operand.tmp 5)),(1,(Go.Operand.tmp 7))]))
  (y: ∀ev:Operand→D,EvC ev→ev (.tmp 8)=vals 3→Av.D3 Tryz.prog ev B (Av.Fin fun d H=>d=vals 4∧H=B) (Go.Op.build 28 #[(0,(Go.Operand.const (Go.Value.int Go.IntKind.i64 5))),(4,(Go.Operand.tmp 8))]))
  (h5: ∀ev:Operand→D,EvC ev→ev (.tmp 9)=vals 4→Av.D3 Tryz.prog ev B (Av.Fin fun d H=>d=vals 5∧H=B) (Go.Op.call {callee:=(Go.Callee.value (Go.Operand.func 73)),args:= #[(Go.Operand.tmp 9),(Go.Operand.const (Go.Value.slice none 0 0))],argTypes:= #[28,110]}))
  (z: ∀ev:Operand→D,EvC ev→ev (.tmp 10)=vals 5→Av.D3 Tryz.prog ev B (Av.Fin fun d H=>d=vals 6∧H=B) (Go.Op.unOp Go.UnOp.not 4 (Go.Operand.tmp 10)))
  (A: ∀ev:Operand→D,EvC ev→ev (.tmp 11)=vals 6→Av.D3 Tryz.prog ev B (Av.Fin fun d H=>d=vals 7∧H=B) (Go.Op.assign (Go.Operand.tmp 11)))
  :B02 Tryz.prog foOps vals B E0:=by
 obtain⟨C,g,G,I,J,w0⟩: ∃o,foOps[0]? =some o∧o.dst=some 5∧o.op=(Go.Op.load 28 (Go.Operand.tmp 2))∧o.guard=none∧(∀j∈([]:List Nat),j∈K6 o):=⟨_,rfl,rfl,rfl,rfl,by simp⟩
 obtain⟨L,o1,d1,M,O,w1⟩: ∃o,foOps[1]? =some o∧o.dst=some 6∧o.op=(Go.Op.load 28 (Go.Operand.tmp 3))∧o.guard=none∧(∀j∈([]:List Nat),j∈K6 o):=⟨_,rfl,rfl,rfl,rfl,by simp⟩
 obtain⟨T,o2,U,V,W,X⟩: ∃o,foOps[2]? =some o∧o.dst=some 7∧o.op=(Go.Op.call {callee:=(Go.Callee.value (Go.Operand.func 50)),args:= #[(Go.Operand.tmp 6),(Go.Operand.const (Go.Value.bool true))],argTypes:= #[28,4]})∧o.guard=none∧(∀j∈([1]:List Nat),j∈K6 o):=⟨_,rfl,rfl,rfl,rfl,by decide+kernel⟩
 obtain⟨Y,o3,d3,p3,g3,h⟩: ∃o,foOps[3]? =some o∧o.dst=some 8∧o.op=(Go.Op.buildSlice 26 2 #[(0,(Go.Operand.tmp 5)),(1,(Go.Operand.tmp 7))])∧o.guard=none∧(∀j∈([0,2]:List Nat),j∈K6 o):=⟨_,rfl,rfl,rfl,rfl,by decide+kernel⟩
 obtain⟨x4,m,d4,p4,g4,w4⟩: ∃o,foOps[4]? =some o∧o.dst=some 9∧o.op=(Go.Op.build 28 #[(0,(Go.Operand.const (Go.Value.int Go.IntKind.i64 5))),(4,(Go.Operand.tmp 8))])∧o.guard=none∧(∀j∈([3]:List Nat),j∈K6 o):=⟨_,rfl,rfl,rfl,rfl,by decide+kernel⟩
 obtain⟨x5,p,d5,p5,g5,w5⟩: ∃o,foOps[5]? =some o∧o.dst=some 10∧o.op=(Go.Op.call {callee:=(Go.Callee.value (Go.Operand.func 73)),args:= #[(Go.Operand.tmp 9),(Go.Operand.const (Go.Value.slice none 0 0))],argTypes:= #[28,110]})∧o.guard=none∧(∀j∈([4]:List Nat),j∈K6 o):=⟨_,rfl,rfl,rfl,rfl,by decide+kernel⟩
 obtain⟨x6,q,d6,p6,g6,w6⟩: ∃o,foOps[6]? =some o∧o.dst=some 11∧o.op=(Go.Op.unOp Go.UnOp.not 4 (Go.Operand.tmp 10))∧o.guard=none∧(∀j∈([5]:List Nat),j∈K6 o):=⟨_,rfl,rfl,rfl,rfl,by decide+kernel⟩
 obtain⟨x7,o7,d7,p7,g7,w7⟩: ∃o,foOps[7]? =some o∧o.dst=some 4∧o.op=(Go.Op.assign (Go.Operand.tmp 11))∧o.guard=none∧(∀j∈([6]:List Nat),j∈K6 o):=⟨_,rfl,rfl,rfl,rfl,by decide+kernel⟩
 have hs:foOps.size=8:=by kernel_rfl
 have n2:(foOps.toList.all fun oj=>oj.dst != some 2)=true:=by kernel_rfl
 have n3:(foOps.toList.all fun oj=>oj.dst != some 3)=true:=by kernel_rfl
 generalize foOps=ops at*;intro i o ho;have hi:i<8:=by have:=(D1L.1 ho).1;omega
 match i,hi with
 |0,_=>
  rw[g]at ho;cases ho;exact⟨J,fun F e he=>by rw[I];exact r F.ev ⟨fun _=>rfl,fun _=>rfl⟩ (he 2 n2)⟩
 |1,_=>
  rw[o1]at ho;cases ho;exact⟨O,fun F e he=>by rw[M];exact h1 F.ev ⟨fun _=>rfl,fun _=>rfl⟩ (he 3 n3)⟩
 |2,_=>
  rw[o2]at ho;cases ho;exact⟨W,fun F e he=>by rw[V];exact u F.ev ⟨fun _=>rfl,fun _=>rfl⟩ (e 1 L o1 (X 1 (by simp)) 6 d1)⟩
 |3,_=>
  rw[o3]at ho;cases ho;exact⟨g3,fun F e he=>by rw[p3];exact x F.ev ⟨fun _=>rfl,fun _=>rfl⟩ (e 0 C g (h 0 (by simp)) 5 G) (e 2 T o2 (h 2 (by simp)) 7 U)⟩
 |4,_=>
  rw[m]at ho;cases ho;exact⟨g4,fun F e he=>by rw[p4];exact y F.ev ⟨fun _=>rfl,fun _=>rfl⟩ (e 3 Y o3 (w4 3 (by simp)) 8 d3)⟩
 |5,_=>
  rw[p]at ho;cases ho;exact⟨g5,fun F e he=>by rw[p5];exact h5 F.ev ⟨fun _=>rfl,fun _=>rfl⟩ (e 4 x4 m (w5 4 (by simp)) 9 d4)⟩
 |6,_=>
  rw[q]at ho;cases ho;exact⟨g6,fun F e he=>by rw[p6];exact z F.ev ⟨fun _=>rfl,fun _=>rfl⟩ (e 5 x5 p (w6 5 (by simp)) 10 d5)⟩
 |7,_=>
  rw[o7]at ho;cases ho;exact⟨g7,fun F e he=>by rw[p7];exact A F.ev ⟨fun _=>rfl,fun _=>rfl⟩ (e 6 x6 q (w7 6 (by simp)) 11 d6)⟩
end Go.Proofs.YtibphjonmikciaaGreatDoor
namespace Go.Proofs.YtibphjonmikciaaGreatDoor
open Go Go.Shelf Go.RowKit Go.Maps
set_option maxHeartbeats 2000000 in
set_option maxRecDepth 100000 in
theorem A2z(b:Nat)(es:Array MapEntry)(d:Nat)(w:World)(hb:w.heap[b]? =some (.map es d)):
  Calls Tryz.prog 125 #[.map (some b)] w fun e w'=>e= .returned (.map (some w.heap.size))∧w'=w.alloc (.map es d):=by
 have h:Tryz.prog.follows .mixedOrders=true:=by kernel_rfl
 have u:=Tryz.underlying4;have x:=Tryz.isAgg4;have y:=Tryz.sizeOf4;have v4:=Tryz.zeroValue4;have g:=Tryz.underlying72;have i:=Tryz.isAgg72;have j:=Tryz.sizeOf72;have m:=Tryz.zeroValue72;have o:=Tryz.underlying20;have p:=Tryz.isAgg20;have q:=Tryz.sizeOf20;have r:=Tryz.zeroValue20;have hq:=fun w=>run_eql_map_nil_sl (P:=Tryz.prog) w 72 _ _ (some b) g
 go_enter Tryz.func125,Tryz.ntmps125
 go_wp2
 rw[run_callFunc_extern Tryz.func156 (by kernel_rfl) (by kernel_rfl) (by kernel_rfl) (e:=Extern.MapsClone.clone) (by kernel_rfl),run_maps_clone_sl w 72 hb];simp only[Result.andThen];rw[Oper.upon_value]
 go_wp2
 rw[run_typeAssert_map_sl _ 72 20 _ _ _ g];simp only[Result.andThen];rw[Oper.upon_value]
 go_wp2
 go_ret
 exact⟨rfl,rfl⟩
open Go Go.Av
theorem A1l{Q}(kvs:List (D×D))(H:Av.Heap)(h: ∀b,H b=none→Q (.map b) (H.set b (.map kvs))):E6 125 [.fm kvs] H Q:=by
 refine⟨by kernel_rfl,fun w vs hl hr hs=>?_⟩;obtain⟨a,rfl,m⟩:=A2J hl hr;cases m with
 |fm _ b es ck hb hn hst hlen hk g j=>
  refine(A2z b es ck w hb).mono ?_;rintro e w' ⟨rfl,rfl⟩;have he:=Ext.alloc H w (.map es ck);have d:=N8 (H:=H) (D1G w.heap.size) (.map kvs);exact⟨_,rfl,.map w.heap.size,H.set w.heap.size (.map kvs),.map _,hs.update he d (fun k hk _=>Go.RowKit.Below.heap_alloc _ _ _ hk) ⟨es,ck,M8 w _,hst,hlen,fun i p hp=>⟨hk i p hp,(g i p hp).mono he d,(j i p hp).mono he d⟩⟩,he,d,h _ (hs.fresh (D1G _))⟩
theorem A20{Q}(m:Nat)(kvs:List (D×D))(H:Av.Heap)(hm:H m=some (.map kvs))(h: ∀b,H b=none→Q (.map b) (H.set b (.map kvs))):E6 125 [.map m] H Q:=by
 refine⟨by kernel_rfl,fun w vs hl hr hs=>?_⟩;obtain⟨a,rfl,j⟩:=A2J hl hr;cases j;obtain⟨es,ck,hb,hst,hlen,d⟩:=hs m _ hm;refine(A2z m es ck w hb).mono ?_;rintro e w' ⟨rfl,rfl⟩;have he:=Ext.alloc H w (.map es ck);have g:=N8 (H:=H) (D1G w.heap.size) (.map kvs);exact⟨_,rfl,.map w.heap.size,H.set w.heap.size (.map kvs),.map _,hs.update he g (fun k hk _=>Go.RowKit.Below.heap_alloc _ _ _ hk) ⟨es,ck,M8 w _,hst,hlen,fun i p hp=>⟨(d i p hp).1,(d i p hp).2.1.mono he g,(d i p hp).2.2.mono he g⟩⟩,he,g,h _ (hs.fresh (D1G _))⟩
end Go.Proofs.YtibphjonmikciaaGreatDoor
namespace Go.Fo
open Go Go.Av Go.Lexs Go.Lin
def D5:ByteArray:=⟨#[]⟩
def zeroF:Fm:=.mk 0 0 nilL D5 []
def i6(l:LinV):Fm:=.mk 2 0 l D5 []
def shL(l:LinV)(sg:Int):LinV:=⟨l.t.map fun t=>⟨t.v,sg*t.c⟩,sg*l.k-1,false⟩
def opL(l:LinV):Fm:=if l.e=true then .mk 6 0 nilL D5 [i6 (shL l 1),i6 (shL l (-1))]else i6 (shL l (-1))
def opO(o:Int)(b:Bool):Int:=if b=true then 11-o else o
def normF:Fm→Bool→Fm
 | .mk o n l s ks,b=>
  if o=1 then .mk o (if b=true then 1-n else n) l s ks
  else if o=2 then(if b=true then opL l else .mk o n l s ks)
  else if o=3 then(if b=true then .mk 4 0 nilL D5 [.mk o n l s ks]else .mk o n l s ks)
  else if o=4 then normH ks (!b)
  else .mk (opO o b) 0 nilL D5 (normK ks b)
where
 normH:List Fm→Bool→Fm
 | [],_=>zeroF
 |f::_,b=>normF f b
 normK:List Fm→Bool→List Fm
 | [],_=>[]
 |f::fs,b=>normF f b::normK fs b
theorem B7M(ks:List Fm)(b:Bool):normF.normK ks b=ks.map (normF · b):=by
 induction ks with
 |nil=>rfl
 |cons f fs d=>rw[normF.normK,d];rfl
theorem B7N{f:Fm}(b:Bool)(h:f.op=1):normF f b= .mk 1 (if b=true then 1-f.n else f.n) f.l f.s f.ks:=by
 obtain⟨o,n,l,s,ks⟩:=f;simp only[Fm.op]at h;subst h;rw[normF,if_pos rfl];rfl
theorem B7O{f:Fm}(b:Bool)(h:f.op=2):normF f b=if b=true then opL f.l else f:=by
 obtain⟨o,n,l,s,ks⟩:=f;simp only[Fm.op]at h;subst h;rw[normF,if_neg (by decide),if_pos rfl];rfl
theorem B7P{f:Fm}(b:Bool)(h:f.op=3):normF f b=if b=true then .mk 4 0 nilL D5 [f]else f:=by
 obtain⟨o,n,l,s,ks⟩:=f;simp only[Fm.op]at h;subst h;rw[normF,if_neg (by decide),if_neg (by decide),if_pos rfl]
theorem B7Q{f k:Fm}(b:Bool)(h:f.op=4)(hk:f.ks= [k]):normF f b=normF k (!b):=by
 obtain⟨o,n,l,s,ks⟩:=f;simp only[Fm.op]at h;simp only[Fm.ks]at hk;subst h;subst hk;rw[normF,if_neg (by decide),if_neg (by decide),if_neg (by decide),if_pos rfl];rfl
theorem B3g{f:Fm}(b:Bool)(h1:f.op≠1)(d:f.op≠2)(e:f.op≠3)(g:f.op≠4):normF f b= .mk (opO f.op b) 0 nilL D5 (f.ks.map (normF · b)):=by
 obtain⟨o,n,l,s,ks⟩:=f;simp only[Fm.op]at h1 d e g;rw[normF,if_neg h1,if_neg d,if_neg e,if_neg g,B7M];rfl
theorem A30(l:LinV):lin0 l=true↔l=nilL:=by
 obtain⟨t,k,e⟩:=l;unfold lin0 nilL;simp only[D09,D1I,Bool.not_eq_true',LinV.mk.injEq];exact and_assoc
theorem B3h{s:ByteArray}(h:s.size=0):s=D5:=by
 obtain⟨d⟩:=s;have:d= #[]:=Array.eq_empty_of_size_eq_zero h;subst this;rfl
inductive A5D:Fm→Prop
 |con (n:Int) (h:n=0∨n=1):A5D (.mk 1 n nilL D5 [])
 |lin (l:LinV) (h:validL l=true) (hp: ∀t∈l.t,plainB t.v=true):A5D (.mk 2 0 l D5 [])
 |var (s:ByteArray) (h:plainB s=true):A5D (.mk 3 0 nilL s [])
 |not (k:Fm):A5D (.mk 4 0 nilL D5 [k])
 |and(ks:List Fm):A5D (.mk 5 0 nilL D5 ks)
 |or (ks:List Fm):A5D (.mk 6 0 nilL D5 ks)
theorem B3i{f:Fm}(h:D8 f=true):A5D f:=by
 unfold D8 at h;by_cases h1:f.op=1
 ·rw[if_pos h1]at h;obtain⟨o,n,l,s,ks⟩:=f;simp only[Fm.op,Fm.n,Fm.l,Fm.s,Fm.ks,D09,D2J,List.isEmpty_iff]at h h1;obtain⟨⟨⟨hn,hs⟩,hl⟩,hk⟩:=h;have hn:n=0∨n=1:=hn.imp D0x D0x;rw[h1,B3h (D0x hs),(A30 l).1 hl,hk];exact .con n hn
 ·rw[if_neg h1]at h;by_cases d:f.op=2
  ·rw[if_pos d]at h;obtain⟨o,n,l,s,ks⟩:=f;simp only[Fm.op,Fm.n,Fm.l,Fm.s,Fm.ks,D09,List.isEmpty_iff,D1X]at h d;obtain⟨⟨⟨⟨hn,hs⟩,hk⟩,hl⟩,hp⟩:=h;rw[d,show n=0 from D0x hn,B3h (D0x hs),hk];exact .lin l hl hp
  ·rw[if_neg d]at h;by_cases e:f.op=3
   ·rw[if_pos e]at h;obtain⟨o,n,l,s,ks⟩:=f;simp only[Fm.op,Fm.n,Fm.l,Fm.s,Fm.ks,D09,List.isEmpty_iff]at h e;obtain⟨⟨⟨hn,hl⟩,hk⟩,hp⟩:=h;rw[e,show n=0 from D0x hn,(A30 l).1 hl,hk];exact .var s hp
   ·rw[if_neg e]at h;by_cases g:f.op=4
    ·rw[if_pos g]at h;obtain⟨o,n,l,s,ks⟩:=f;simp only[Fm.op,Fm.n,Fm.l,Fm.s,Fm.ks,D09]at h g;obtain⟨⟨⟨hn,hs⟩,hl⟩,hk⟩:=h;obtain⟨k,rfl⟩:=List.length_eq_one_iff.1 (show ks.length=1 from D0x hk);rw[g,show n=0 from D0x hn,B3h (D0x hs),(A30 l).1 hl];exact .not k
    ·rw[if_neg g]at h;by_cases h5:f.op=5∨f.op=6
     ·rw[if_pos h5]at h;obtain⟨o,n,l,s,ks⟩:=f;simp only[Fm.op,Fm.n,Fm.l,Fm.s,Fm.ks,D09]at h h5;obtain⟨⟨hn,hs⟩,hl⟩:=h;rw[show n=0 from D0x hn,B3h (D0x hs),(A30 l).1 hl];rcases h5 with rfl|rfl
      ·exact .and ks
      ·exact .or ks
     ·rw[if_neg h5]at h;cases h
theorem A2M{l:LinV}(h:D8 (i6 l)=true):validL l=true:=by
 cases B3i h with
 |lin l h hp=>exact h
theorem S1{f:Fm}(h:G9 D8 f=true):A5D f:=by
 rw[j6,D09]at h;exact B3i h.1
theorem K7{f:Fm}{p:Fm→Bool}(h:G9 p f=true){k:Fm}(hk:k∈f.ks):G9 p k=true:=by
 rw[j6,D09,D1X]at h;exact h.2 k hk
def A1s(l:LinV):LinV:=⟨l.t,l.k-1,false⟩
def N3(l:LinV):LinV:=⟨l.t.map fun t=>⟨t.v,-t.c⟩,-l.k-1,false⟩
def opR(l:LinV):Fm×Bool:=if l.e=true then(.mk 6 0 nilL D5 [i6 (A1s l),i6 (N3 l)],validL (N3 l)&&validL (A1s l))else(i6 (negateR l).1,decide ((negateR l).2=0))
def G6:Fm→Bool→Fm×Bool
 | .mk o n l s ks,b=>
  if o=4 then turnH ks (!b)
  else if o=3 then(if b=true then .mk 4 0 nilL D5 [.mk o n l s ks]else .mk o n l s ks,true)
  else if o=1 then(.mk o (if b=true then 1-n else n) l s ks,true)
  else if o=2 then(if b=true then opR l else(.mk o n l s ks,true))
  else(.mk (opO o b) 0 nilL D5 ((turnK ks b).map (·.1)),(turnK ks b).all (·.2))
where
 turnH:List Fm→Bool→Fm×Bool
 | [],_=>(zeroF,true)
 |f::_,b=>G6 f b
 turnK:List Fm→Bool→List (Fm×Bool)
 | [],_=>[]
 |f::fs,b=>G6 f b::turnK fs b
theorem B7R(ks:List Fm)(b:Bool):G6.turnK ks b=ks.map (G6 · b):=by
 induction ks with
 |nil=>rfl
 |cons f fs d=>rw[G6.turnK,d];rfl
theorem C13{f:Fm}(b:Bool)(h:f.op=1):G6 f b=(.mk 1 (if b=true then 1-f.n else f.n) f.l f.s f.ks,true):=by
 obtain⟨o,n,l,s,ks⟩:=f;simp only[Fm.op]at h;subst h;rw[G6,if_neg (by decide),if_neg (by decide),if_pos rfl];rfl
theorem C14{f:Fm}(b:Bool)(h:f.op=2):G6 f b=if b=true then opR f.l else(f,true):=by
 obtain⟨o,n,l,s,ks⟩:=f;simp only[Fm.op]at h;subst h;rw[G6,if_neg (by decide),if_neg (by decide),if_neg (by decide),if_pos rfl];rfl
theorem C15{f:Fm}(b:Bool)(h:f.op=3):G6 f b=(if b=true then .mk 4 0 nilL D5 [f]else f,true):=by
 obtain⟨o,n,l,s,ks⟩:=f;simp only[Fm.op]at h;subst h;rw[G6,if_neg (by decide),if_pos rfl]
theorem C16{f k:Fm}(b:Bool)(h:f.op=4)(hk:f.ks= [k]):G6 f b=G6 k (!b):=by
 obtain⟨o,n,l,s,ks⟩:=f;simp only[Fm.op]at h;simp only[Fm.ks]at hk;subst h;subst hk;rw[G6,if_pos rfl];rfl
theorem B7S{f:Fm}(b:Bool)(h1:f.op≠1)(d:f.op≠2)(e:f.op≠3)(g:f.op≠4):G6 f b=(.mk (opO f.op b) 0 nilL D5 ((f.ks.map (G6 · b)).map (·.1)),(f.ks.map (G6 · b)).all (·.2)):=by
 obtain⟨o,n,l,s,ks⟩:=f;simp only[Fm.op]at h1 d e g;rw[G6,if_neg g,if_neg e,if_neg h1,if_neg d,B7R];rfl
theorem B3j{l:LinV}:shL l 1=A1s l:=by
 unfold shL A1s;simp only[Int.one_mul]
 congr 1
 exact List.map_id' _
theorem B3k{l:LinV}:shL l (-1)=N3 l:=by
 unfold shL N3
 congr 1
 ·exact List.map_congr_left fun t _=>by rw[Int.neg_one_mul]
 ·omega
theorem C35(l:LinV)(h:l.e=false):A8l l=shL l (-1):=by
 unfold A8l J1 shL;simp only[h,LinV.mk.injEq,and_true];refine⟨?_,by omega⟩;rw[if_neg (by decide)];exact List.map_congr_left fun t _=>by rw[Int.mul_comm]
theorem A6c{l:LinV}(hv:validL l=true)(he:l.e=false):(validL (shL l (-1))=true→negateR l=(shL l (-1),0))∧(validL (shL l (-1))=false→negateR l=(nilL,3)):=by
 unfold negateR;rw[if_pos hv,he,C35 l he];unfold X1;constructor<;>intro h<;>simp[h]
theorem C36{l:LinV}(hv:validL l=true)(h:(opR l).2=true):(opR l).1=opL l:=by
 unfold opR opL at*;cases he:l.e with
 |true=>simp only[he,if_true]at h⊢;rw[B3j,B3k]
 |false=>
  simp only[he,D1C,if_false,D1I]at h⊢;obtain⟨h1,d⟩:=A6c hv he;cases hw:validL (shL l (-1))with
  |true=>rw[h1 hw]
  |false=>rw[d hw]at h;cases h
theorem C37{l:LinV}(hv:validL l=true)(h:(opR l).2=false):G9 D8 (opL l)=false:=by
 rw[←D2I];intro hc;unfold opR opL at*;cases he:l.e with
 |true=>
  simp only[he,if_true]at h hc;have h1:=A2M (by have:=K7 hc (k:=i6 (shL l 1)) (D07 ..);rw[j6,D09]at this;exact this.1);have d:=A2M (by have:=K7 hc (k:=i6 (shL l (-1))) (D1E _ (D07 ..));rw[j6,D09]at this;exact this.1);rw[B3j]at h1;rw[B3k]at d;rw[h1,d]at h;cases h
 |false=>
  simp only[he,D1C,if_false,decide_eq_false_iff_not]at h hc;rw[j6,D09]at hc;exact h (by rw[(A6c hv he).1 (A2M hc.1)])
theorem B3l: ∀(f:Fm) (b:Bool),G9 D8 f=true→((G6 f b).2=true→(G6 f b).1=normF f b)∧((G6 f b).2=false→G9 D8 (normF f b)=false):=by
 intro f
 induction f using R1 with
 |h o n l s ks e=>
  intro b j;have hk: ∀k∈ks,G9 D8 k=true:=fun k hk=>K7 (f:=.mk o n l s ks) j hk;have d: ∀(p:Int),p≠1→p≠2→p≠3→p≠4→((G6 (.mk p 0 nilL D5 ks) b).2=true→(G6 (.mk p 0 nilL D5 ks) b).1=normF (.mk p 0 nilL D5 ks) b)∧((G6 (.mk p 0 nilL D5 ks) b).2=false→G9 D8 (normF (.mk p 0 nilL D5 ks) b)=false):=by
   intro p h1 m q r;rw[B7S (f:=.mk p 0 nilL D5 ks) b h1 m q r,B3g (f:=.mk p 0 nilL D5 ks) b h1 m q r];constructor
   ·intro h;simp only[List.all_map,D1X,Function.comp]at h;show Fm.mk _ _ _ _ _=_
    congr 1
    rw[List.map_map];exact List.map_congr_left fun k hm=>(e k hm b (hk k hm)).1 (h k hm)
   ·intro h;rw[←D2I];intro hc;have h:(ks.map (G6 · b)).all (·.2)=false:=h;rw[List.all_eq_false]at h;obtain⟨x,hx,i⟩:=h;obtain⟨k,hm,rfl⟩:=D1u.1 hx;have:=(e k hm b (hk k hm)).2 (by simpa using i);rw[K7 hc (D1u.2 ⟨k,hm,rfl⟩)]at this;cases this
  cases S1 j with
  |con n h=>rw[C13 b rfl,B7N b rfl];exact⟨fun _=>rfl,fun h=>by cases h⟩
  |lin l h hp=>
   rw[C14 b rfl,B7O b rfl];cases b with
   |false=>exact⟨fun _=>rfl,fun h=>by cases h⟩
   |true=>exact⟨fun g=>C36 h g,fun g=>C37 h g⟩
  |var s h=>rw[C15 b rfl,B7P b rfl];exact⟨fun _=>rfl,fun h=>by cases h⟩
  |not k=>rw[C16 b rfl rfl,B7Q b rfl rfl];exact e k (D07 ..) (!b) (hk k (D07 ..))
  |and ks=>exact d 5 (by decide) (by decide) (by decide) (by decide)
  |or ks=>exact d 6 (by decide) (by decide) (by decide) (by decide)
def notF(f:Fm):Fm×Int:=if E7 f=true then(if E7 (normF f true)=true then(normF f true,0)else(zeroF,3))else(zeroF,2)
theorem K1{f:Fm}(h:E7 f=true):G9 D8 f=true:=by
 rw[y9]at h;simp only[D09]at h;exact h.1.1.1.1
theorem B98{f:Fm}(h:E7 f=true):(if(G6 f true).2=true∧E7 (G6 f true).1=true then((G6 f true).1,0)else(zeroF,3))=notF f:=by
 unfold notF;rw[if_pos h];have d:=B3l f true (K1 h);cases ho:(G6 f true).2 with
 |true=>rw[d.1 ho];simp
 |false=>
  have:E7 (normF f true)=false:=by
   rw[←D2I];intro hc;have:=d.2 ho;rw[K1 hc]at this;cases this
  simp[this]
theorem A3P{s:ByteArray}(h:G7 (B s)=true):s.size≤200:=by
 unfold G7 at h;simp only[D09,D1I]at h;have:=h.1.1.2;simpa [B]using this
theorem B2T{l:LinV}(h:validL l=true)(d:Int)(hs:d=1∨d= -1):L6 (shL l d):=by
 have ok:=K5 h;refine⟨by unfold shL;simp only[D1f];have:=ok.len;omega,fun t e=>?_,fun t e=>?_,?_⟩
 ·obtain⟨x,hx,rfl⟩:=D1u.1 (show t∈l.t.map _ from e);have:=A3P (L7 ok.t x hx).1;show x.v.size≤_;omega
 ·obtain⟨x,hx,rfl⟩:=D1u.1 (show t∈l.t.map _ from e);have:=(L7 ok.t x hx).2.2;show S5 (d*x.c);unfold S5;rcases hs with rfl|rfl<;>omega
 ·have:=ok.k;show S5 (d*l.k-1);unfold S5;rcases hs with rfl|rfl<;>omega
theorem A0l:L6 nilL:=⟨by simp[nilL],by simp[nilL],by simp[nilL],by simp[nilL,S5]⟩
theorem A2N{l:LinV}(h:L6 l):FmFit (i6 l):=.mk _ _ _ _ _ (by simp[S5]) (by simp[S5]) h (by decide) (by simp) (by simp)
theorem T7{o:Int}{ks:List Fm}(ho:S5 o)(hl:ks.length≤1466015503658)(h: ∀k∈ks,FmFit k):FmFit (.mk o 0 nilL D5 ks):=.mk _ _ _ _ _ ho (by simp[S5]) A0l (by decide) hl h
theorem A31: ∀(f:Fm) (b:Bool),G9 D8 f=true→FmFit f→FmFit (normF f b)∧J4 (normF f b)≤3*J4 f:=by
 intro f
 induction f using R1 with
 |h o n l s ks i=>
  intro b r e;have hk: ∀k∈ks,G9 D8 k=true:=fun k hk=>K7 (f:=.mk o n l s ks) r hk;have j: ∀k∈ks,FmFit k:=fun k hk=>e.kid hk;have d: ∀(p:Int),p=5∨p=6→FmFit (normF (.mk p 0 nilL D5 ks) b)∧J4 (normF (.mk p 0 nilL D5 ks) b)≤3*J4 (.mk p 0 nilL D5 ks):=by
   intro p hp;rw[B3g b (by show p≠1;omega) (by show p≠2;omega) (by show p≠3;omega) (by show p≠4;omega)];refine⟨T7 (by show S5 (opO p b);unfold opO S5;split<;>omega) (by rw[D1f];exact e.kl) fun k hm=>?_,?_⟩
   ·obtain⟨x,hx,rfl⟩:=D1u.1 hm;exact(i x hx b (hk x hx) (j x hx)).1
   ·have key: ∀m:List Fm,(∀k∈m,k∈ks)→J4.wtL (m.map (normF · b))≤3*J4.wtL m:=by
     intro m
     induction m with
     |nil=>intro _;simp[J4.wtL]
     |cons g y q=>
      intro hm;have z:=(i g (hm g (D07 ..)) b (hk g (hm g (D07 ..))) (j g (hm g (D07 ..)))).2;have A:=q fun k h=>hm k (D1E _ h);rw[D2D,J4.wtL,J4.wtL];omega
    rw[L9,L9];have:=key ks fun _ h=>h;show 1+([]:List LTm).length+J4.wtL (ks.map (normF · b))≤3*(1+([]:List LTm).length+J4.wtL ks);simp only[D03];omega
  cases S1 r with
  |con n h=>
   rw[B7N b rfl];refine⟨.mk _ _ _ _ _ (by simp[S5]) ?_ A0l (show D5.size≤_ by decide) (by simp[Fm.ks]) (by simp[Fm.ks]),?_⟩
   ·show S5 (if b=true then 1-n else n);unfold S5;split<;>omega
   ·rw[L9,L9];simp only[Fm.l,Fm.ks];omega
  |lin l h hp=>
   rw[B7O b rfl];cases b with
   |false=>exact⟨e,by simp only[D1C,if_false];omega⟩
   |true=>
    simp only[if_true,Fm.l];unfold opL;split
    ·refine⟨T7 (by simp[S5]) (by simp) fun k hm=>?_,?_⟩
     ·simp only[D1O,D1P,or_false]at hm;rcases hm with rfl|rfl
      ·exact A2N (B2T h _ (.inl rfl))
      ·exact A2N (B2T h _ (.inr rfl))
     ·rw[L9,L9];simp[Fm.l,Fm.ks,J4.wtL,L9,i6,shL,nilL];omega
    ·refine⟨A2N (B2T h _ (.inr rfl)),?_⟩;rw[L9,L9];simp[Fm.l,Fm.ks,J4.wtL,i6,shL];omega
  |var s h=>
   rw[B7P b rfl];cases b with
   |false=>exact⟨e,by simp only[D1C,if_false];omega⟩
   |true=>
    simp only[if_true];refine⟨T7 (by simp[S5]) (by simp) fun k hm=>?_,?_⟩
    ·rw[D1N]at hm;rw[hm];exact e
    ·rw[L9,L9];simp[Fm.l,Fm.ks,J4.wtL,L9,nilL]
  |not k=>
   rw[B7Q b rfl rfl];have:=i k (D07 ..) (!b) (hk k (D07 ..)) (j k (D07 ..));refine⟨this.1,?_⟩;have u:J4 (.mk 4 0 nilL D5 [k])=1+J4 k:=by rw[L9];simp[Fm.l,Fm.ks,J4.wtL,nilL]
   rw[u];omega
  |and ks=>exact d 5 (.inl rfl)
  |or ks=>exact d 6 (.inr rfl)
end Go.Fo
namespace Go.Proofs.YtibphjonmikciaaGreatDoor
open Go Go.Av Go.Lexs Go.Lin
attribute [local irreducible] ACalls S3
theorem B99{Q}(a:LinV)(r:L6 a)(H:Heap)(h:Q (.bool true) H):E6 60 [.agg (D7 a),.agg (D7 a)] H Q:=by
 refine B2 [(6,.par)] A8 Tryz.func60 rfl ?_;simp only[go_sem,seval,Tryz.results60];intro d u e p;simp only[A6]at p;have e2:((H.set d (.box (D7 a))).set e (.box (D7 a))) d=some (.box (D7 a)):=by rw[A4 _ p.1.symm,A3]
 have e3:((H.set d (.box (D7 a))).set e (.box (D7 a))) e=some (.box (D7 a)):=A3 _ _;have m:H.Le ((H.set d (.box (D7 a))).set e (.box (D7 a))):=(A0 u).trans (A0 (by simp only[A6];exact p));generalize (H.set d (.box (D7 a))).set e (.box (D7 a))=Bs at e2 e3 m⊢;have x:d∈[d,e]:=by simp
 have y:e∈[d,e]:=by simp
 have hlen:=r.len;obtain⟨T,K,E⟩:=a;have hlen:T.length≤5864062014639:=hlen;have q:(E==E)=true:=by cases E<;>rfl
 repeat' simp only[go_sem,seval,e2,e3,q]
 refine C8 [2,3,29] (fun(i:Nat)=>[(30,.int .i64 i)]) (fun(i:Nat)=>Bs) (fun(i:Nat)=>i≤T.length) (fun(i:Nat)=>T.length-i) (0) (D1H _) (by(try simp only[go_sem,seval])<;>(try simp(disch:=omega) [A5])) (by first|exact D2N _|exact A0 (by assumption)|exact B4 (by assumption)|simp only[Heap.Le,Heap.set,Heap.del]at* <;>grind) ?_;rintro z rfl i A;by_cases g:i<T.length
 ·have j:decide ((i:Int)<T.length)=true:=D0y (by omega);have o:(i:Int)<T.length:=by omega
  repeat' simp only[go_sem,seval,j,o,B3 _ _ g,C3 _ _ g]
  refine F4 (fun C=>.undef) [d,e] ?_;repeat' (first|with_reducible apply D0w|simp only[go_sem,seval,j,o,B3 _ _ g,C3 _ _ g,e2,e3,x,y]|simp(disch:=omega) only[A5,B3]|omega)
  exact C4 (i+1) (by omega) (by omega) (by(try simp only[go_sem,seval])<;>(try simp(disch:=omega) [A5])) (by simp only[E3,D1,D2]at* <;>grind)
 ·have j:decide ((i:Int)<T.length)=false:=D0z (by omega);repeat' simp only[go_sem,seval,j]
  exact D2O m h
end Go.Proofs.YtibphjonmikciaaGreatDoor
namespace Go.Lin
open Go Go.Av Go.Lexs
theorem N1(n:Int):Lib.itoa n=(if n<0 then [45]else [])++dec n.natAbs:=by
 unfold Lib.itoa dec;by_cases h:n<0
 ·rw[if_pos h,if_pos h];rfl
 ·rw[if_neg h,if_neg h];have:n.toNat=n.natAbs:=by omega
  rw[this];rfl
theorem A6d(n:Int)(h:n.natAbs<10000000000000000000):(Lib.itoa n).length≤20:=by
 rw[N1,D02];have:=A5c 18 n.natAbs (by omega);split<;>simp<;>omega
theorem B7T{α :Type}(T:List α)(i:Nat)(h:i<T.length):(T.take i).isEmpty=decide (i=0):=by
 cases T with
 |nil=>simp at h
 |cons x T=>cases i<;>simp
end Go.Lin
namespace Go.Proofs.YtibphjonmikciaaGreatDoor
open Go Go.Av Go.Lexs Go.Lin
attribute [local irreducible] ACalls S3
set_option maxHeartbeats 1000000 in
theorem B7U{Q}(a:LinV)(fa:L6 a)(H:Heap)(hT:Tabs H)(h:Q (.tuple [.str (if validL a=true then S (F8 a)else S []),.int .i64 (if validL a=true then 0 else 2)]) H):E6 115 [.agg (D7 a)] H Q:=by
 refine B2 [] A8 Tryz.func115 rfl ?_;simp only[go_sem,seval,Tryz.results115];intro b2 g2;have e2:(H.set b2 (.box (D7 a))) b2=some (.box (D7 a)):=A3 _ _;have m:H.Le (H.set b2 (.box (D7 a))):=A0 g2;generalize H.set b2 (.box (D7 a))=Bs at e2 m⊢;have a0:=hT.le m;by_cases c:validL a=true
 ·rw[if_pos c,if_pos c]at h;have hlen:=(K5 c).len;have vt:=B00 c;have nm: ∀t∈a.t,t.v.size≤200:=fun t ht=>A7r ((L7 (K5 c).t t ht).1);repeat' (first|simp only[go_sem,seval,e2,c]|with_reducible refine A8v a fa _ ?_)
  refine C8 [1,12,13] (fun(p:Nat×ByteArray×Heap)=>[(14,.int .i64 p.1),(4,.str p.2.1)]) (fun(p:Nat×ByteArray×Heap)=>p.2.2) (fun(p:Nat×ByteArray×Heap)=>p.1≤a.t.length∧B p.2.1=M2 true (a.t.take p.1)∧p.2.1.size≤1000*p.1∧Bs.Le p.2.2) (fun(p:Nat×ByteArray×Heap)=>a.t.length-p.1) ((0,⟨#[]⟩,Bs)) (⟨D1H _,rfl,D1H _,D2N _⟩) (by(try simp only[go_sem,seval])<;>(try simp(disch:=omega) [A5])) (by first|exact D2N _|exact A0 (by assumption)|exact B4 (by assumption)|simp only[Heap.Le,Heap.set,Heap.del]at* <;>grind) ?_;rintro Ec rfl ⟨i,x,Hp⟩ ⟨hi,q,a4,hp⟩;simp only at hi q a4 hp;by_cases g:i<a.t.length
  ·have j:decide ((i:Int)<a.t.length)=true:=D0y (by omega);have C:(i:Int)<a.t.length:=by omega
   obtain⟨x0,x1⟩:=vt _ (D1A g);have a6:=nm _ (D1A g);have r:=a0.le hp;have hz: ∀b o,Hp b=none→Tabs (Hp.set b o):=fun b o hb=>r.le (A0 hb);have G:(⟨#[45]⟩:ByteArray).size=1:=rfl;have z:(⟨#[43]⟩:ByteArray).size=1:=rfl;have I:(⟨#[42]⟩:ByteArray).size=1:=rfl;have Y:M2 true (a.t.take (i+1))=M2 true (a.t.take i)++U8 (decide (i=0)) a.t[i]:=by rw[D1F g,B0S,B7T _ _ g,Bool.true_and]
   have ws:IntKind.i64.wrap (0-a.t[i].c)= -a.t[i].c:=by rw[A5 (by omega) (by omega)];omega
   have u:=A6d a.t[i].c (by omega);by_cases J:a.t[i].c<0
   ·have u:=A6d (-a.t[i].c) (by omega);by_cases V: -a.t[i].c=1
    ·have W:True:=trivial;repeat' (first|with_reducible apply D0w|simp only[go_sem,seval,j,C,B3 _ _ g,C3 _ _ g,ws,J,V,W,u]|simp(disch:=omega) only[A5,B3]|intro M|omega)
     have O:a.t[i].c.natAbs=1:=by omega
     have T:Lib.itoa (-a.t[i].c)=dec a.t[i].c.natAbs:=by rw[N1,if_neg (by omega),D18]<;>(try(congr 1;omega))
     skip
     refine C4 (i+1,x++⟨#[45]⟩++a.t[i].v,_) ⟨by simp only[];omega,?_,?_,hp.trans (A0 (by assumption))⟩ (by simp only[];omega) (by(try simp only[go_sem,seval])<;>(try simp(disch:=omega) [A5])) (D2N _)
     ·simp only[A0G,y5,A0e,q,Y,U8,O,J,T,if_true,if_false];simp
     ·simp only[ByteArray.size_append,P3,G,z,I];omega
    ·have W:True:=trivial;repeat' (first|with_reducible apply D0w|simp only[go_sem,seval,j,C,B3 _ _ g,C3 _ _ g,ws,J,V,W,u]|simp(disch:=omega) only[A5,B3]|intro M|with_reducible refine A1f _ (by omega) (by omega) _ (hz _ _ (by assumption)) ?_|omega)
     have O: ¬a.t[i].c.natAbs=1:=by omega
     have T:Lib.itoa (-a.t[i].c)=dec a.t[i].c.natAbs:=by rw[N1,if_neg (by omega),D18]<;>(try(congr 1;omega))
     skip
     refine C4 (i+1,x++⟨#[45]⟩++(S (Lib.itoa (-a.t[i].c))++⟨#[42]⟩)++a.t[i].v,_) ⟨by simp only[];omega,?_,?_,hp.trans (A0 (by assumption))⟩ (by simp only[];omega) (by(try simp only[go_sem,seval])<;>(try simp(disch:=omega) [A5])) (D2N _)
     ·simp only[A0G,y5,A0e,q,Y,U8,O,J,T,if_true,if_false];simp
     ·simp only[ByteArray.size_append,P3,G,z,I];omega
   ·by_cases W:(0:Int)<i
    ·by_cases V:a.t[i].c=1
     ·repeat' (first|with_reducible apply D0w|simp only[go_sem,seval,j,C,B3 _ _ g,C3 _ _ g,ws,J,V,W,u]|simp(disch:=omega) only[A5,B3]|intro M|omega)
      have O:a.t[i].c.natAbs=1:=by omega
      have T:Lib.itoa a.t[i].c=dec a.t[i].c.natAbs:=by rw[N1,if_neg (by omega),D18]<;>(try(congr 1;omega))
      have X:decide (i=0)=false:=by simp;omega
      refine C4 (i+1,x++⟨#[43]⟩++a.t[i].v,_) ⟨by simp only[];omega,?_,?_,hp.trans (A0 (by assumption))⟩ (by simp only[];omega) (by(try simp only[go_sem,seval])<;>(try simp(disch:=omega) [A5])) (D2N _)
      ·simp only[A0G,y5,A0e,q,Y,U8,O,J,T,X,if_true,if_false];simp
      ·simp only[ByteArray.size_append,P3,G,z,I];omega
     ·repeat' (first|with_reducible apply D0w|simp only[go_sem,seval,j,C,B3 _ _ g,C3 _ _ g,ws,J,V,W,u]|simp(disch:=omega) only[A5,B3]|intro M|with_reducible refine A1f _ (by omega) (by omega) _ (hz _ _ (by assumption)) ?_|omega)
      have O: ¬a.t[i].c.natAbs=1:=by omega
      have T:Lib.itoa a.t[i].c=dec a.t[i].c.natAbs:=by rw[N1,if_neg (by omega),D18]<;>(try(congr 1;omega))
      have X:decide (i=0)=false:=by simp;omega
      refine C4 (i+1,x++⟨#[43]⟩++(S (Lib.itoa a.t[i].c)++⟨#[42]⟩)++a.t[i].v,_) ⟨by simp only[];omega,?_,?_,hp.trans (A0 (by assumption))⟩ (by simp only[];omega) (by(try simp only[go_sem,seval])<;>(try simp(disch:=omega) [A5])) (D2N _)
      ·simp only[A0G,y5,A0e,q,Y,U8,O,J,T,X,if_true,if_false];simp
      ·simp only[ByteArray.size_append,P3,G,z,I];omega
    ·by_cases V:a.t[i].c=1
     ·repeat' (first|with_reducible apply D0w|simp only[go_sem,seval,j,C,B3 _ _ g,C3 _ _ g,ws,J,V,W,u]|simp(disch:=omega) only[A5,B3]|intro M|omega)
      have O:a.t[i].c.natAbs=1:=by omega
      have T:Lib.itoa a.t[i].c=dec a.t[i].c.natAbs:=by rw[N1,if_neg (by omega),D18]<;>(try(congr 1;omega))
      have X:decide (i=0)=true:=by simp;omega
      refine C4 (i+1,x++a.t[i].v,_) ⟨by simp only[];omega,?_,?_,hp.trans (A0 (by assumption))⟩ (by simp only[];omega) (by(try simp only[go_sem,seval])<;>(try simp(disch:=omega) [A5])) (D2N _)
      ·simp only[A0G,y5,A0e,q,Y,U8,O,J,T,X,if_true,if_false];simp
      ·simp only[ByteArray.size_append,P3,G,z,I];omega
     ·repeat' (first|with_reducible apply D0w|simp only[go_sem,seval,j,C,B3 _ _ g,C3 _ _ g,ws,J,V,W,u]|simp(disch:=omega) only[A5,B3]|intro M|with_reducible refine A1f _ (by omega) (by omega) _ (hz _ _ (by assumption)) ?_|omega)
      have O: ¬a.t[i].c.natAbs=1:=by omega
      have T:Lib.itoa a.t[i].c=dec a.t[i].c.natAbs:=by rw[N1,if_neg (by omega),D18]<;>(try(congr 1;omega))
      have X:decide (i=0)=true:=by simp;omega
      refine C4 (i+1,x++(S (Lib.itoa a.t[i].c)++⟨#[42]⟩)++a.t[i].v,_) ⟨by simp only[];omega,?_,?_,hp.trans (A0 (by assumption))⟩ (by simp only[];omega) (by(try simp only[go_sem,seval])<;>(try simp(disch:=omega) [A5])) (D2N _)
      ·simp only[A0G,y5,A0e,q,Y,U8,O,J,T,X,if_true,if_false];simp
      ·simp only[ByteArray.size_append,P3,G,z,I];omega
  ·have j:decide ((i:Int)<a.t.length)=false:=D0z (by omega);have a5:i=a.t.length:=by omega
   subst a5;have y:=hp _ _ e2;have r:=a0.le hp;rw[List.take_length]at q;have vk:=(K5 c).k;have u:=A6d a.k (by omega);have z:(⟨#[43]⟩:ByteArray).size=1:=rfl;by_cases t0:a.t= []
   ·have U:(a.t.length:Int)=0:=by rw[t0];rfl
    have x0:x=⟨#[]⟩:=Y5 (by rw[q,t0];rfl);by_cases d:a.e=true
    ·have d:a.e=true:=d;have A:B (x++S (Lib.itoa a.k)++⟨#[61,48]⟩)=F8 a:=by
      unfold F8 M9 S6;simp[A0G,y5,A0e,q,d,A0W,N1,t0]
     have hs:S (F8 a)=x++S (Lib.itoa a.k)++⟨#[61,48]⟩:=Y5 (by rw[y5,A]);rw[hs]at h;repeat' (first|with_reducible apply D0w|simp only[go_sem,seval,j,y,d,U]|with_reducible refine A1f _ (by omega) (by omega) _ r ?_|omega)
     exact D2O (m.trans hp) h
    ·have d:a.e=false:=by simpa using d
     have A:B (x++S (Lib.itoa a.k)++⟨#[62,61,48]⟩)=F8 a:=by
      unfold F8 M9 S6;simp[A0G,y5,A0e,q,d,A0W,N1,t0]
     have hs:S (F8 a)=x++S (Lib.itoa a.k)++⟨#[62,61,48]⟩:=Y5 (by rw[y5,A]);rw[hs]at h;repeat' (first|with_reducible apply D0w|simp only[go_sem,seval,j,y,d,U]|with_reducible refine A1f _ (by omega) (by omega) _ r ?_|omega)
     exact D2O (m.trans hp) h
   ·have U: ¬(a.t.length:Int)=0:=fun e=>t0 (D1K (by omega));have l1:(0:Int)<a.t.length:=by omega
    have le:a.t.isEmpty=false:=by cases h:a.t with|nil=>exact absurd h t0|cons=>rfl
    by_cases L:a.k=0
    ·by_cases d:a.e=true
     ·have d:a.e=true:=d;have A:B (x++⟨#[61,48]⟩)=F8 a:=by
       unfold F8 M9 S6;simp[A0G,y5,A0e,q,d,A0W,N1,L,t0]
      have hs:S (F8 a)=x++⟨#[61,48]⟩:=Y5 (by rw[y5,A]);rw[hs]at h;repeat' (first|with_reducible apply D0w|simp only[go_sem,seval,j,y,d,U,l1,L]|omega)
      exact D2O (m.trans hp) h
     ·have d:a.e=false:=by simpa using d
      have A:B (x++⟨#[62,61,48]⟩)=F8 a:=by
       unfold F8 M9 S6;simp[A0G,y5,A0e,q,d,A0W,N1,L,t0]
      have hs:S (F8 a)=x++⟨#[62,61,48]⟩:=Y5 (by rw[y5,A]);rw[hs]at h;repeat' (first|with_reducible apply D0w|simp only[go_sem,seval,j,y,d,U,l1,L]|omega)
      exact D2O (m.trans hp) h
    ·by_cases k1:0<a.k
     ·have k2: ¬a.k<0:=by omega
      by_cases d:a.e=true
      ·have d:a.e=true:=d;have A:B (x++⟨#[43]⟩++S (Lib.itoa a.k)++⟨#[61,48]⟩)=F8 a:=by
        unfold F8 M9 S6;simp[A0G,y5,A0e,q,d,A0W,N1,L,t0,k2,le]
       have hs:S (F8 a)=x++⟨#[43]⟩++S (Lib.itoa a.k)++⟨#[61,48]⟩:=Y5 (by rw[y5,A]);rw[hs]at h;repeat' (first|with_reducible apply D0w|simp only[go_sem,seval,j,y,d,U,l1,L,k1]|with_reducible refine A1f _ (by omega) (by omega) _ r ?_|omega)
       exact D2O (m.trans hp) h
      ·have d:a.e=false:=by simpa using d
       have A:B (x++⟨#[43]⟩++S (Lib.itoa a.k)++⟨#[62,61,48]⟩)=F8 a:=by
        unfold F8 M9 S6;simp[A0G,y5,A0e,q,d,A0W,N1,L,t0,k2,le]
       have hs:S (F8 a)=x++⟨#[43]⟩++S (Lib.itoa a.k)++⟨#[62,61,48]⟩:=Y5 (by rw[y5,A]);rw[hs]at h;repeat' (first|with_reducible apply D0w|simp only[go_sem,seval,j,y,d,U,l1,L,k1]|with_reducible refine A1f _ (by omega) (by omega) _ r ?_|omega)
       exact D2O (m.trans hp) h
     ·have k2:a.k<0:=by omega
      by_cases d:a.e=true
      ·have d:a.e=true:=d;have A:B (x++S (Lib.itoa a.k)++⟨#[61,48]⟩)=F8 a:=by
        unfold F8 M9 S6;simp[A0G,y5,A0e,q,d,A0W,N1,L,t0,k2,le]
       have hs:S (F8 a)=x++S (Lib.itoa a.k)++⟨#[61,48]⟩:=Y5 (by rw[y5,A]);rw[hs]at h;repeat' (first|with_reducible apply D0w|simp only[go_sem,seval,j,y,d,U,l1,L,k1]|with_reducible refine A1f _ (by omega) (by omega) _ r ?_|omega)
       exact D2O (m.trans hp) h
      ·have d:a.e=false:=by simpa using d
       have A:B (x++S (Lib.itoa a.k)++⟨#[62,61,48]⟩)=F8 a:=by
        unfold F8 M9 S6;simp[A0G,y5,A0e,q,d,A0W,N1,L,t0,k2,le]
       have hs:S (F8 a)=x++S (Lib.itoa a.k)++⟨#[62,61,48]⟩:=Y5 (by rw[y5,A]);rw[hs]at h;repeat' (first|with_reducible apply D0w|simp only[go_sem,seval,j,y,d,U,l1,L,k1]|with_reducible refine A1f _ (by omega) (by omega) _ r ?_|omega)
       exact D2O (m.trans hp) h
 ·rw[if_neg c,if_neg c]at h;have c:validL a=false:=by simpa using c
  repeat' (first|simp only[go_sem,seval,e2,c]|with_reducible refine A8v a fa _ ?_)
  exact D2O m h
end Go.Proofs.YtibphjonmikciaaGreatDoor
namespace Go.Lin
open Go Go.Av Go.Lexs
theorem B7V(l:List UInt8)(c:UInt8)(h:c∈l):Lib.indexByte l c=((l.takeWhile (· != c)).length:Int)∧(l.takeWhile (· != c)).length<l.length:=by
 induction l with
 |nil=>cases h
 |cons b l d=>
  unfold Lib.indexByte;by_cases e:b=c
  ·subst e;simp
  ·have e1:(b==c)=false:=by simpa using e
   have hm:c∈l:=(D1O.1 h).resolve_left (fun g=>e g.symm);obtain⟨i,j⟩:=d hm;have e2:(b != c)=true:=by simp[e]
   rw[e1,i,List.takeWhile_cons,if_pos e2];have e3:(((l.takeWhile (· != c)).length:Int)== -1)=false:=by
    simp only[beq_eq_false_iff_ne,ne_eq];omega
   rw[e3];simp only[D1C,if_false,D01];omega
theorem B7W(l:List UInt8)(c:UInt8)(h:c∉l):Lib.indexByte l c= -1:=by
 induction l with
 |nil=>rfl
 |cons b l d=>
  unfold Lib.indexByte;have e1:(b==c)=false:=by
   simp only[beq_eq_false_iff_ne,ne_eq];rintro rfl;exact h (D07 ..)
  rw[e1,d (fun g=>h (D1E _ g))];rfl
theorem C0A(l:List UInt8)(p:UInt8→Bool):l.take (l.takeWhile p).length=l.takeWhile p:=by
 induction l with
 |nil=>rfl
 |cons b l d=>rw[List.takeWhile_cons];split<;>simp[d]
theorem C0B(l:List UInt8)(p:UInt8→Bool):l.drop (l.takeWhile p).length=l.dropWhile p:=by
 induction l with
 |nil=>rfl
 |cons b l d=>rw[List.takeWhile_cons,List.dropWhile_cons];split<;>simp[d]
theorem A6e{l c n:List UInt8}(h:A0X l=some (c,n)):Lib.indexByte l 42=(c.length:Int)∧c.length<l.length∧l.take c.length=c∧l.drop (c.length+1)=n:=by
 unfold A0X at h;split at h
 ·rename_i hm;injection h with h
  have h1:l.takeWhile (· != 42)=c:=congrArg Prod.fst h;have i:(l.dropWhile (· != 42)).drop 1=n:=congrArg Prod.snd h;obtain⟨e,g⟩:=B7V l 42 hm;have t:=C0A l (· != 42);have d:=C0B l (· != 42);rw[h1]at e g t d;refine⟨e,g,t,?_⟩;rw[←i,←d,D16]
 ·cases h
theorem B7X{l:List UInt8}(h:A0X l=none):Lib.indexByte l 42= -1:=by
 unfold A0X at h;split at h
 ·cases h
 ·rename_i hm;exact B7W l 42 hm
end Go.Lin
namespace Go.Proofs.YtibphjonmikciaaGreatDoor
open Go Go.Av Go.RowKit Go.Lexs Go.Lin
attribute [local irreducible] ACalls S3
theorem B3m{Q}(s:ByteArray)(H:Heap)(h:Q (.int .i64 (Lib.indexByte (B s) 42)) H):E6 236 [.str s,.str ⟨#[42]⟩] H Q:=
 J2 (by kernel_rfl) (fun w vs hl hr hs=>by
  obtain⟨a,b,rfl,d,hb⟩:=A0R hl hr;rw[d.str_inv,hb.str_inv];refine(Tryz.stringslite_Index_one s 42 w).mono fun e w' ⟨he,hw⟩=>?_;subst hw;exact⟨_,he,Below.refl _ _,.int _ _⟩) h
theorem C38{Q}(s:ByteArray)(c n:List UInt8)(hc:A0X (B s)=some (c,n))(hsz:s.size≤1000000000000)(H:Heap)(h:Q (.tuple [.str (S c),.str (S n),.bool true]) H):E6 216 [.str s,.str ⟨#[42]⟩] H Q:=by
 refine B2 [] A8 Tryz.func216 rfl ?_;simp only[go_sem,seval,Tryz.results216];obtain⟨h1,o,i,j⟩:=A6e hc;have hl:=U7 s;have d:((⟨#[42]⟩:ByteArray).size:Int)=1:=rfl;have hw:IntKind.i64.wrap ((c.length:Int)+1)=(c.length:Int)+1:=A5 (by omega) (by omega);have e:(0:Int)≤(c.length:Int)+1:=by omega
 have hk:(c.length:Int)≤s.size:=by omega
 have g:(c.length:Int)+1≤s.size:=by omega
 repeat' (first|with_reducible apply D0w|simp only[go_sem,seval,h1,d,hw,hk,g,e]|intro m|with_reducible refine B3m s _ ?_|omega)
 rw[i,j];exact D2R h
theorem C39{Q}(s:ByteArray)(c n:List UInt8)(hc:A0X (B s)=some (c,n))(hsz:s.size≤1000000000000)(H:Heap)(h:Q (.tuple [.str (S c),.str (S n),.bool true]) H):E6 187 [.str s,.str ⟨#[42]⟩] H Q:=by
 refine B2 [] A8 Tryz.func187 rfl ?_;simp only[go_sem,seval,Tryz.results187];repeat' (first|simp only[go_sem,seval]|with_reducible refine C38 s c n hc hsz _ ?_)
 exact D2R h
theorem C4A{Q}(s:ByteArray)(hc:A0X (B s)=none)(H:Heap)(h:Q (.tuple [.str s,.str ⟨#[]⟩,.bool false]) H):E6 216 [.str s,.str ⟨#[42]⟩] H Q:=by
 refine B2 [] A8 Tryz.func216 rfl ?_;simp only[go_sem,seval,Tryz.results216];have h1:=B7X hc;repeat' (first|simp only[go_sem,seval,h1]|with_reducible refine B3m s _ ?_)
 exact D2R h
theorem A82{Q}(s:ByteArray)(hc:A0X (B s)=none)(H:Heap)(h:Q (.tuple [.str s,.str ⟨#[]⟩,.bool false]) H):E6 187 [.str s,.str ⟨#[42]⟩] H Q:=by
 refine B2 [] A8 Tryz.func187 rfl ?_;simp only[go_sem,seval,Tryz.results187];repeat' (first|simp only[go_sem,seval]|with_reducible refine C4A s hc _ ?_)
 exact D2R h
theorem C0C{Q}(s:ByteArray)(hsz:s.size≤1000000000000)(v:Int)(hv:Lib.atoiAll (B s)= .ok v)(H:Heap)(h:Q (.tuple [.int .i64 v,.nilif]) H):E6 188 [.str s] H Q:=
 J2 (by kernel_rfl) (fun w vs hl hr hs=>by
  obtain⟨a,rfl,j⟩:=A2J hl hr;rw[j.str_inv];refine(Tryz.strconv_Atoi_ok s (by omega) v hv w).mono fun e w' ⟨he,hw⟩=>?_;have m:Below w.heap.size w w':=by
   rcases hw with rfl|⟨t,rfl⟩
   ·exact Below.refl _ _
   ·exact B0f _ _ _
  exact⟨_,he,m,.tuple _ _ rfl fun i d g=>(match i,g with|0,g=>by simp at g;subst g;exact .int _ _|1,g=>by simp at g;subst g;exact .nilif|i+2,g=>by simp at g)⟩) h
theorem B03{w:World}{H:Heap}{g t:Nat}(hs:Sat H w)(h:H g=some (.ro [.iface t .undef])): ∃v,w.cell? ⟨g,0,none⟩=some (.iface t v):=by
 obtain⟨c,T,m,h1,i,j⟩:=hs g _ h;have d:=(j 0 _ rfl).2;have o:c.size=1:=i;have e:w.cell? ⟨g,0,none⟩=some (c.getD 0 Go.undef):=by
  rw[U0 h1];have:0<c.size:=by omega
  simp[this]
 generalize c.getD 0 Go.undef=x at d e;cases d with
 |iface _ _ v hr=>exact⟨v,e⟩
theorem C0D{Q}(s:ByteArray)(hsz:s.size≤1000000000000)(hv: ∀v,Lib.atoiAll (B s)≠ .ok v)(H:Heap)(p:Tabs H)(h: ∀n t,Q (.tuple [.int .i64 n,.iface t .undef]) H):E6 188 [.str s] H Q:=by
 have q: ∀(w:World) (n:Int) (t:Nat) (v:Value),R w H (.tuple [.int .i64 n,.iface t .undef]) (.tuple #[.int .i64 n,.iface t v]):=fun w n t v=>
  .tuple _ _ rfl fun i d g=>(match i,g with|0,g=>by simp at g;subst g;exact .int _ _|1,g=>by simp at g;subst g;exact .iface _ _ _ (.undef _)|i+2,g=>by simp at g)
 cases hc:Lib.atoiAll (B s)with
 |ok v=>exact absurd hc (hv v)
 |range=>
  refine J2 (r:=.tuple [.int .i64 (Lib.atoiSat (B s)),.iface 266 .undef]) (by kernel_rfl) (fun w vs hl hr hs=>?_) (h _ _);obtain⟨a,rfl,j⟩:=A2J hl hr;rw[j.str_inv];obtain⟨t,m⟩:=p.rng;obtain⟨x,hx⟩:=B03 hs m;refine(Tryz.strconv_Atoi_range s (by omega) hc _ w hx (.inr ⟨_,_,rfl⟩)).mono fun e w' ⟨N,he,_,_,o⟩=>⟨_,he,o,q w' _ _ _⟩
 |_=>
  refine J2 (r:=.tuple [.int .i64 0,.iface 266 .undef]) (by kernel_rfl) (fun w vs hl hr hs=>?_) (h _ _);obtain⟨a,rfl,j⟩:=A2J hl hr;rw[j.str_inv];obtain⟨t,m⟩:=p.syn;obtain⟨x,hx⟩:=B03 hs m;refine(Tryz.strconv_Atoi_syntax s (by omega) hc _ w hx (.inr ⟨_,_,rfl⟩)).mono fun e w' ⟨N,he,_,_,o⟩=>⟨_,he,o,q w' _ _ _⟩
end Go.Proofs.YtibphjonmikciaaGreatDoor
namespace Go.Lin
open Go Go.Av Go.Lexs
theorem C0E{l:List UInt8}{k:Nat}(h:k<l.length):V5 l k=(l[k].toNat:Int):=by simp[V5,h]
theorem A83{l:List UInt8}{k:Nat}(h:k<l.length):sgn l[k]=true↔(V5 l k=43∨V5 l k=45):=by
 rw[C0E h];unfold sgn;simp only[D2J,beq_iff_eq];constructor
 ·rintro(e|e)
  ·left;rw[e];rfl
  ·right;rw[e];rfl
 ·rintro(e|e)
  ·left;apply UInt8.toNat_inj.1;show _=43;omega
  ·right;apply UInt8.toNat_inj.1;show _=45;omega
theorem C7O:S []=⟨#[]⟩:=rfl
theorem C7P:S [49]=⟨#[49]⟩:=rfl
theorem B7Y{P:Program}{t:Nat}(hb:C9 P t= .iface):L3 P .eql t true .nilif .nilif=some (.bool true):=by simp[L3,A5r,A9e,hb]
theorem B7Z{P:Program}{t u:Nat}{d:D}(hb:C9 P t= .iface):L3 P .eql t true (.iface u d) .nilif=some (.bool false):=by simp[L3,A5r,A9e,hb]
theorem B3n{p:UInt8→Bool}: ∀(l:List UInt8) (k:Nat),k≤l.length→(∀c∈l.take k,p c=true)→(∀h:k<l.length,p l[k]=false)→l.takeWhile p=l.take k∧l.dropWhile p=l.drop k
 | [],k,hk,_,_=>by simp
 |c::l,0,_,_,h=>by
  have:p c=false:=h (by simp);simp[this]
 |c::l,k+1,hk,h1,d=>by
  have hc:p c=true:=h1 c (by simp);obtain⟨a,b⟩:=B3n l k (by simpa using hk) (fun x hx=>h1 x (by simp[hx])) (fun h=>d (by simpa using h));simp[hc,a,b]
theorem A69{p:UInt8→Bool}{v:Bool}{l:List UInt8}{k:Nat}(h:k<l.length)(h1: ∀c∈l.take k,p c=v)(d:p l[k]=v): ∀c∈l.take (k+1),p c=v:=fun c hc=>by
 rw[D1F h]at hc;rcases D1M.1 hc with g|g
 ·exact h1 c g
 ·rw[D1N]at g;subst g;exact d
theorem B2U{b:List UInt8}(h:A0N b=none):b= []:=by
 unfold A0N at h;cases hc:A0X b with
 |some p=>rw[hc]at h;cases h
 |none=>
  rw[hc]at h;simp only[]at h;split at h
  ·cases h
  ·split at h
   ·rename_i e;exact e
   ·cases h
theorem split_some{b c n:List UInt8}(h:A0N b=some (c,n)):A0X b=some (c,n)∨(A0X b=none∧b≠[]∧((Q3 b=true∧c=b∧n= [])∨(Q3 b=false∧c= [49]∧n=b))):=by
 unfold A0N at h;cases hc:A0X b with
 |some p=>rw[hc]at h;left;exact h
 |none=>
  rw[hc]at h;simp only[]at h
  right
  split at h
  ·rename_i d;injection h with h
   refine⟨rfl,?_,.inl ⟨d,(congrArg Prod.fst h).symm,(congrArg Prod.snd h).symm⟩⟩;rintro rfl;cases d
  ·rename_i d;split at h
   ·cases h
   ·rename_i e;injection h with h
    exact⟨rfl,e,.inr ⟨by simpa using d,(congrArg Prod.fst h).symm,(congrArg Prod.snd h).symm⟩⟩
theorem B44{b c n:List UInt8}(h:A0N b=some (c,n)):c.length≤b.length+1:=by
 rcases split_some h with h|⟨_,d,⟨_,rfl,_⟩|⟨_,rfl,_⟩⟩
 ·have:=(A6e h).2.1;omega
 ·omega
 ·have:=List.length_pos_iff.2 d;simp
end Go.Lin
namespace Go.Proofs.YtibphjonmikciaaGreatDoor
open Go Go.Av Go.Lexs Go.Lin
attribute [local irreducible] ACalls S3
set_option maxHeartbeats 4000000 in
theorem C4B{Q}(s:ByteArray)(x:UInt8)(r:List UInt8)(hB:B s=x::r)(hs:s.size≤1000000000)(H:Heap)(hT:Tabs H)
  (hN:N4 (x::r.takeWhile (!sgn ·))=none→∀v n z,Q (.tuple [.agg [.str v,.int .i64 n],.str z,.bool false]) H)
  (hY: ∀n v,N4 (x::r.takeWhile (!sgn ·))=some (n,v)→Q (.tuple [.agg [.str (S n),.int .i64 v],.str (S (r.dropWhile (!sgn ·))),.bool true]) H):
  E6 150 [.str s] H Q:=by
 refine B2 [(4,.wk),(8,.wk),(15,.wk)] A8 Tryz.func150 rfl ?_;simp only[go_sem,seval,Tryz.results150];have hl:=U7 s;have c3:s.size=r.length+1:=by rw[←hl,hB];rfl
 intro j g2;have e2:(H.set j (.box [.str ⟨#[]⟩,.int .i64 0])) j=some (.box [.str ⟨#[]⟩,.int .i64 0]):=A3 _ _;have u:H.Le (H.set j (.box [.str ⟨#[]⟩,.int .i64 0])):=A0 g2;generalize H.set j (.box [.str ⟨#[]⟩,.int .i64 0])=Bs at e2 u⊢;have b6:=hT.le u;refine C8 [0,2] (fun(n:Nat)=>[(5,.int .i64 n)]) (fun(n:Nat)=>Bs) (fun(n:Nat)=>1≤n∧n-1≤r.length∧∀c∈r.take (n-1),sgn c=false) (fun(n:Nat)=>r.length+1-n) (1) (⟨D1G _,D1H _,by simp⟩) (by(try simp only[go_sem,seval])<;>(try simp(disch:=omega) [A5])) (by first|exact D2N _|exact A0 (by assumption)|exact B4 (by assumption)|simp only[Heap.Le,Heap.set,Heap.del]at* <;>grind) ?_;rintro Ec rfl n ⟨c4,hk,y⟩;obtain⟨k,b7⟩: ∃k,k=n-1:=⟨_,rfl⟩
 rw[←b7]at hk y;have W:n=k+1:=by omega
 apply Z4 (C:=∀h:k<r.length,sgn r[k]=true)
 ·intro A;have hw:IntKind.i64.wrap ((n:Int)+1)=(n:Int)+1:=A5 (by omega) (by omega);have hn:S3 s (n:Int)=V5 r k:=by
   rw[B9p,hB,show (n:Int).toNat=k+1 by omega];rfl
  by_cases G:k<r.length
  ·have I:decide ((n:Int)<s.size)=true:=D0y (by omega);have Y:(n:Int)<s.size:=by omega
   by_cases J:V5 r k=43
   ·repeat' (first|with_reducible apply D0w|simp only[go_sem,seval,I,Y,hn,J,decide_true,decide_false,D2K]|omega)
    exact O5 [(0,.str s),(2,.box j 0),(5,.int .i64 n)] Bs (by simp only[go_sem,seval]) (D2N _) (A fun _=>(A83 G).2 (.inl J))
   ·by_cases X:V5 r k=45
    ·repeat' (first|with_reducible apply D0w|simp only[go_sem,seval,I,Y,hn,J,X,decide_true,decide_false,D2L,D2K]|omega)
     exact O5 [(0,.str s),(2,.box j 0),(5,.int .i64 n)] Bs (by simp only[go_sem,seval]) (D2N _) (A fun _=>(A83 G).2 (.inr X))
    ·have i:sgn r[k]=false:=by
      rw[←D2I,A83 G];rintro(g|g)
      ·exact J g
      ·exact X g
     repeat' (first|with_reducible apply D0w|simp only[go_sem,seval,I,Y,hn,J,X,decide_false,D2L]|simp(disch:=omega) only[A5]|omega)
     exact C4 (n+1) ⟨by omega,by omega,by rw[show n+1-1=k+1 by omega];exact A69 G y i⟩ (by omega) (by(try simp only[go_sem,seval])<;>(try simp(disch:=omega) [A5])) (by simp only[E3,D1,D2]at* <;>grind)
  ·have I:decide ((n:Int)<s.size)=false:=D0z (by omega);repeat' simp only[go_sem,seval,I]
   exact O5 [(0,.str s),(2,.box j 0),(5,.int .i64 n)] Bs (by simp only[go_sem,seval]) (D2N _) (A fun h=>absurd h G)
 intro a6;obtain⟨tw,dw⟩:=B3n (p:=(!sgn ·)) r k hk (fun c hc=>by rw[y c hc];rfl) (fun h=>by rw[a6 h];rfl);rw[tw]at hN hY;rw[dw]at hY;have hP:(B s).take n=x::r.take k:=by rw[hB,W];rfl
 have hD:(B s).drop n=r.drop k:=by rw[hB,W];rfl
 obtain⟨P,a7⟩: ∃P,P=x::r.take k:=⟨_,rfl⟩
 rw[←a7]at hN hY hP;have b8:P.length≤r.length+1:=by rw[a7];simp;omega
 have L:(n:Int)≤s.size:=by omega
 have M:n≤s.size:=by omega
 have tc: ∀(H:Heap) (Q:D→Heap→Prop),Q (.str (S (Lib.trimPrefix P [43]))) H→E6 185 [.str (S P),.str ⟨#[43]⟩] H Q:=fun H Q hq=>A8s _ _ H (by rw[y5];exact hq);obtain⟨d,O⟩: ∃d,d=Lib.trimPrefix P [43]:=⟨_,rfl⟩
 rw[←O]at tc;have a9:d.length≤r.length+1:=by
  rw[O];unfold Lib.trimPrefix;split
  ·rw[D1U];omega
  ·exact b8
 have b3: ∀(H:Heap) (Q:D→Heap→Prop),Q (.bool (Lib.hasPrefix d [45])) H→E6 186 [.str (S d),.str ⟨#[45]⟩] H Q:=fun H Q hq=>B0i _ _ H (by rw[y5];exact hq);obtain⟨U,i⟩: ∃U:Int,U=if(s9 P).1=true then-1 else 1:=⟨_,rfl⟩
 obtain⟨b,hb⟩: ∃b,b=(s9 P).2:=⟨_,rfl⟩
 have c5:b.length≤r.length+1:=by
  rw[hb];unfold s9;simp only[];rw[←O];split
  ·simp only[D1U];omega
  ·exact a9
 apply Z4 (C:=True)
 ·intro A;by_cases hp:Lib.hasPrefix d [45]=true
  ·have a0:s9 P=(true,d.drop 1):=by unfold s9;simp only[];rw[←O,if_pos hp]
   have b9:1≤d.length:=by
    cases d with
    |nil=>cases hp
    |cons _ _=>simp
   have c0:1≤(S d).size:=by rw[P3];exact b9
   have b4:(1:Int)≤(S d).size:=by omega
   rw[a0]at i hb;simp only[if_true]at i hb;have c1:S ((B (S d)).drop 1)=S b:=by rw[y5,hb]
   repeat' (first|with_reducible apply D0w|simp only[go_sem,seval,L,M,hP,hp,c0,b4,c1]|with_reducible refine tc _ _ ?_|with_reducible refine b3 _ _ ?_|omega)
   exact O5 [(0,.str s),(2,.box j 0),(5,.int .i64 n),(6,.str (S b)),(7,.int .i64 U)] Bs (by simp only[go_sem,seval,i,hb]) (D2N _) (A trivial)
  ·have a0:s9 P=(false,d):=by unfold s9;simp only[];rw[←O,if_neg hp]
   have hp:Lib.hasPrefix d [45]=false:=by simpa using hp
   rw[a0]at i hb;simp only[D1C,if_false]at i hb;repeat' (first|with_reducible apply D0w|simp only[go_sem,seval,L,M,hP,hp]|with_reducible refine tc _ _ ?_|with_reducible refine b3 _ _ ?_|omega)
   exact O5 [(0,.str s),(2,.box j 0),(5,.int .i64 n),(6,.str (S b)),(7,.int .i64 U)] Bs (by simp only[go_sem,seval,i,hb]) (D2N _) (A trivial)
 intro _;have c6:=P3 b;cases o:A0N b with
 |none=>
  have d:=B2U o;have a4:N4 P=none:=by unfold N4;rw[←hb,o]
  subst d;have cc: ∀(H:Heap) (Q:D→Heap→Prop),Q (.tuple [.str (S []),.str ⟨#[]⟩,.bool false]) H→E6 187 [.str (S []),.str ⟨#[42]⟩] H Q:=fun H Q hq=>A82 (S []) (by rw[y5];rfl) H hq;repeat' (first|simp only[go_sem,seval,e2]|with_reducible refine cc _ _ ?_)
  exact D2O (F3 u g2) (hN a4 _ _ _)
 |some p=>
  obtain⟨c,m⟩:=p;have c7:=B44 o;apply Z4 (C:=True)
  ·intro A;rcases split_some o with T|⟨T,d,V⟩
   ·repeat' (first|simp only[go_sem,seval]|with_reducible refine C39 (S b) c m (by rw[y5];exact T) (by omega) _ ?_)
    exact O5 [(0,.str s),(2,.box j 0),(5,.int .i64 n),(7,.int .i64 U),(8,.str (S c)),(9,.str (S m))] Bs (by simp only[go_sem,seval]) (D2N _) (A trivial)
   ·have b1: ¬S b=⟨#[]⟩:=fun e=>d (by have:=congrArg B e;rwa [y5]at this);have bz:0<(S b).size:=by rw[P3];exact List.length_pos_iff.2 d
    have bi:(0:Int)<(S b).size:=by omega
    have a5:A0X (B (S b))=none:=by rw[y5];exact T
    rcases V with⟨V,rfl,rfl⟩|⟨V,rfl,rfl⟩
    ·have q:48≤V5 c 0∧V5 c 0≤57:=by unfold Q3 at V;simp only[D09]at V;exact(U4 _).1 V.2
     obtain⟨J,X⟩:=q;repeat' (first|with_reducible apply D0w|simp only[go_sem,seval,d,b1,bz,bi,J,X]|with_reducible refine A82 (S c) a5 _ ?_|omega)
     exact O5 [(0,.str s),(2,.box j 0),(5,.int .i64 n),(7,.int .i64 U),(8,.str (S c)),(9,.str (S []))] Bs (by simp only[go_sem,seval,C7O]) (D2N _) (A trivial)
    ·have q: ¬(48≤V5 m 0∧V5 m 0≤57):=fun g=>by
      unfold Q3 at V;rw[(U4 _).2 g]at V;simp[d]at V
     by_cases J:48≤V5 m 0
     ·have X: ¬V5 m 0≤57:=fun g=>q ⟨J,g⟩;repeat' (first|with_reducible apply D0w|simp only[go_sem,seval,d,b1,bz,bi,J,X]|with_reducible refine A82 (S m) a5 _ ?_|omega)
      exact O5 [(0,.str s),(2,.box j 0),(5,.int .i64 n),(7,.int .i64 U),(8,.str (S [49])),(9,.str (S m))] Bs (by simp only[go_sem,seval,C7P]) (D2N _) (A trivial)
     ·repeat' (first|with_reducible apply D0w|simp only[go_sem,seval,d,b1,bz,bi,J]|with_reducible refine A82 (S m) a5 _ ?_|omega)
      exact O5 [(0,.str s),(2,.box j 0),(5,.int .i64 n),(7,.int .i64 U),(8,.str (S [49])),(9,.str (S m))] Bs (by simp only[go_sem,seval,C7P]) (D2N _) (A trivial)
  intro _;by_cases hv: ∃v,Lib.atoiAll c= .ok v
  ·obtain⟨v,hv⟩:=hv;have c2:N4 P=some (m,IntKind.i64.wrap (U*v)):=by unfold N4;rw[←hb,o,i];simp only[];rw[hv]
   have hq: ∀x,L3 Tryz.prog .eql 140 (L2 (.tmp x)||L2 (.const .nilIface)) .nilif .nilif=some (.bool true):=fun x=>B7Y (by kernel_rfl);repeat' (first|with_reducible apply D0w|simp only[go_sem,seval,e2,L,M,hD,hq]|with_reducible refine C0C (S c) (by rw[P3];omega) v (by rw[y5];exact hv) _ ?_|omega)
   exact D2O (F3 u g2) (hY _ _ c2)
  ·have hv: ∀v,Lib.atoiAll c≠ .ok v:=fun v g=>hv ⟨v,g⟩;have a4:N4 P=none:=by
    unfold N4;rw[←hb,o];cases hq:Lib.atoiAll c with
    |ok v=>exact absurd hq (hv v)
    |_=>simp only[]
   have hq: ∀x t,L3 Tryz.prog .eql 140 (L2 (.tmp x)||L2 (.const .nilIface)) (.iface t .undef) .nilif=some (.bool false):=fun x t=>B7Z (by kernel_rfl);repeat' simp only[go_sem,seval,e2,L,M,hD]
   refine C0D (S c) (by rw[P3];omega) (fun v=>by rw[y5];exact hv v) _ b6 fun z t=>?_;repeat' (first|with_reducible apply D0w|simp only[go_sem,seval,e2,L,M,hD,hq]|omega)
   exact D2O (F3 u g2) (hN a4 _ _ _)
end Go.Proofs.YtibphjonmikciaaGreatDoor
