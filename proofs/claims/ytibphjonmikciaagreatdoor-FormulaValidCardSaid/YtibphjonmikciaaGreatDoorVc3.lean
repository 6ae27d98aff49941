/- Part of the proof: what the last text builds on. No condition stands here. -/
import Derived.Test.YtibphjonmikciaaGreatDoorProg
import Derived.Test.YtibphjonmikciaaGreatDoorRows
import Derived.Test.YtibphjonmikciaaGreatDoorCards
import Derived.Test.YtibphjonmikciaaGreatDoorTie
import Derived.Test.YtibphjonmikciaaGreatDoorVc2
set_option linter.unusedSimpArgs false
set_option linter.unusedVariables false
set_option maxRecDepth 20000
namespace Go.Lin
open Go Go.Av Go.Lexs
structure Row where
 c:List Int
 k:Int
 eq:Bool
 deriving DecidableEq
instance :Inhabited Row:=⟨⟨[],0,false⟩⟩
def X2(l:List Int)(i:Nat):Int:=l.getD i 0
def A2F(x:Row)(a:Int)(y:Row)(b:Int):Row:=⟨List.zipWith (fun p q=>p*a+q*b) x.c y.c,x.k*a+y.k*b,x.eq⟩
def gcdR(l:List Int):Nat:=l.foldl (fun g c=>Nat.gcd c.natAbs g) 0
def Y6:List Row→Option (List Row)
 | []=>some []
 |r::l=>
  let g:=gcdR r.c
  if g=0 then(if r.k<0∨(r.eq=true∧0<r.k)then none else Y6 l)
  else if g=1 then(Y6 l).map (r:: ·)
  else
   let k:=r.k.fdiv g
   if r.eq=true∧k*g-r.k≠0 then none
   else(Y6 l).map (⟨r.c.map (Int.fdiv · g),k,r.eq⟩:: ·)
def A4a(a b:Row)(sign:Int):Bool:=a.c==b.c.map (· *sign)
def A3o(r:Row):List Row→List Row
 | []=>[r]
 |s::l=>if r.eq=false∧s.eq=false∧A4a r s 1=true then(if r.k<s.k then {s with k:=r.k}else s)::l else s::A3o r l
def pairs1(l:List Row):List Row:=l.foldl (fun out r=>A3o r out) []
def A5O(r:Row):List Row→Option Row
 | []=>some r
 |s::l=>if r.eq=true∨s.eq=true∨A4a r s (-1)=false then A5O r l
  else if r.k+s.k<0 then none else if r.k+s.k=0 then A5O {r with eq:=true} l else A5O r l
def A0O:List Row→List Row→Option (List Row)
 |done,[]=>some done
 |done,r::l=>match A5O r done with
  |none=>none
  |some r'=>A0O (done++[r']) l
def B0W(l:List Row):Option (List Row):=(Y6 l).bind fun l=>A0O [] (pairs1 l)
def A6T(c:List Int):List Int→Nat→Option Nat→Option Nat
 | [],_,b=>b
 |x::l,i,b=>A6T c l (i+1) (if x≠0∧(match b with|none=>true|some j=>decide (x.natAbs<(X2 c j).natAbs))=true then some i else b)
def A4b(r:Row):Option Nat:=A6T r.c r.c 0 none
def T5(e:Row)(k:Nat)(r:Row):Row:=if X2 r.c k=0 then r else A2F r 1 e (-(X2 r.c k*X2 e.c k))
def A1C(a b:Int):Int:=a-b*Int.fdiv (a*2+b) (b*2)
def A2y(r:Row):Row:={r with c:=r.c++[0]}
def y8(l:List Row)(i:Nat):List Row:=
 let e:=l.getD i default
 let rest:=l.take i++l.drop (i+1)
 let k:=(A4b e).getD 0
 if(X2 e.c k).natAbs=1 then rest.map (T5 e k)
 else
  let m:Int:=(X2 e.c k).natAbs+1
  let f:Row:=⟨e.c.map (A1C · m)++[-m],A1C e.k m,true⟩
  ((rest++[e]).map A2y).map (T5 f k)
def I9(l:List Row)(k:Nat):List Row:=l.filter fun r=>decide (0<X2 r.c k)
def G1(l:List Row)(k:Nat):List Row:=l.filter fun r=>decide (X2 r.c k<0)
def U9(l:List Row)(k:Nat):List Row:=l.filter fun r=>decide (X2 r.c k=0)
def A2G(l:List Row)(k:Nat):Bool:=l.all fun r=>(X2 r.c k).natAbs==1
structure Ch where
 best:Option Nat
 sure:Bool
 cost:Int
def A3p(l:List Row)(b:Ch)(k:Nat):Ch:=
 let low:=I9 l k;let high:=G1 l k
 if low.length+high.length=0 then b
 else
  let ex:=A2G low k||A2G high k
  let n:Int:=(low.length:Int)*high.length-low.length-high.length
  if b.best=none∨(ex=true∧b.sure=false)∨(ex=b.sure∧n<b.cost)then⟨some k,ex,n⟩else b
def j5(l:List Row):Ch:=(List.range (l.headD default).c.length).foldl (A3p l) ⟨none,false,0⟩
def A1c(a b:Row)(k:Nat)(dark:Bool):Row:=
 let p:=X2 a.c k;let q:= -(X2 b.c k)
 let r:=A2F a q b p
 if dark then {r with k:=r.k-(p-1)*(q-1)}else r
def A2h(l:List Row)(k:Nat)(dark:Bool):List Row:=U9 l k++(I9 l k).flatMap fun a=>(G1 l k).map fun b=>A1c a b k dark
def C10(n:Nat)(r:Row):Bool:=r.c.length==n&&r.c.all (fun x=>x.natAbs<2^30)&&decide (r.k.natAbs<2^62)
def A8o(l:List Row):Bool:=decide (l.length<10000)&&match l with| []=>true|r::_=>decide (r.c.length<1000)&&l.all (C10 r.c.length)
def A47:Nat→List Row→Option Bool
 |0,_=>none
 |n+1,l=>if A8o l=true then match B0W l with
   |none=>some false
   |some []=>some true
   |some (r::l')=>if A8o (r::l')=true then match (r::l').findIdx? (·.eq)with
    |some i=>if(A4b ((r::l').getD i default)).isSome=true then A47 n (y8 (r::l') i)else none
    |none=>match j5 (r::l')with
     |⟨some k,true,_⟩=>A47 n (A2h (r::l') k false)
     |_=>none
    else none
  else none
def A7b(n i:Nat)(s:Int):List Int:=(List.range n).map fun j=>if j=i then s else 0
def C3c(n i:Nat):List Row:=[⟨A7b n i 1,2147483647,false⟩,⟨A7b n i (-1),2147483647,false⟩]
def C7I(names:List ByteArray)(a:LinV):Row:=⟨names.map (B0V a.t),a.k,a.e⟩
def B0X(l:List LinV)(names:List ByteArray):List Row:=l.map (C7I names)++(List.range names.length).flatMap (C3c names.length)
def C11(l:List LinV):Option Bool:=A47 100 (B0X l (A2B l))
def X3(s:ByteArray)(n:Int):LinV:=⟨[⟨s,1⟩],-n,false⟩
def x9(s:ByteArray)(n:Int):LinV:=⟨[⟨s,-1⟩],n,false⟩
def A3q(can:List LinV→Option Bool)(s:ByteArray):Nat→Int→Int→Option Int
 |0,_,_=>none
 |f+1,low,high=>if low<high then
   match can [X3 s (-((low+high).tdiv 2)),x9 s ((low+high).tdiv 2)]with
   |none=>none
   |some true=>A3q can s f low ((low+high).tdiv 2)
   |some false=>A3q can s f ((low+high).tdiv 2+1) high
  else some low
def B6S(can:List LinV→Option Bool)(s:ByteArray):Option Int:=match A3q can s 40 0 2147483647 with
 |none=>none
 |some low=>if 0<low then(match can [X3 s low,x9 s low]with
   |none=>none
   |some true=>some low
   |some false=>some (-low))else some low
def D0Q(c:LinV):LinV:={J1 c (-1)with k:=c.k* -1-1,e:=false}
end Go.Lin
namespace Go.Lin
open Go Go.Av
theorem C3d(n:Nat):Y2 n= .sl 1 (Rw F5 (C2 n)):=rfl
abbrev C6(n:Int):List D:=[.bool (decide (n<0)),.sl 1 (Rw F5 (C2 n.natAbs))]
theorem C3e(n:Int):C6 n= [.bool (decide (n<0)),.sl 1 (Rw F5 (C2 n.natAbs))]:=rfl
abbrev C7(r:Row):List D:=[.sl 2 (Rw C6 r.c),.bool (decide (r.k<0)),.sl 1 (Rw F5 (C2 r.k.natAbs)),.bool r.eq]
theorem B6T(r:Row):C7 r= [.sl 2 (Rw C6 r.c),.bool (decide (r.k<0)),.sl 1 (Rw F5 (C2 r.k.natAbs)),.bool r.eq]:=rfl
theorem A0Y{n:Int}(d:0≤n)(h1:n<18446744073709551616):IntKind.u64.wrap n=n:=by
 simp only[IntKind.wrap,IntKind.signed,IntKind.bits];simp;omega
theorem A68{n:Int}:IntKind.u32.wrap n=n % 4294967296:=by
 simp only[IntKind.wrap,IntKind.signed,IntKind.bits];simp
theorem B9h{n:Int}(d:0≤n)(h1:n<4294967296):IntKind.u32.wrap n=n:=by rw[A68];omega
theorem C3f{r x:Nat}(hr:r<4294967296)(hx:x<4294967296):IntKind.u64.wrap (((BitVec.ofInt 64 ((r:Int)*4294967296)|||BitVec.ofInt 64 (x:Int)).toNat:Nat):Int)=((r*4294967296+x:Nat):Int):=by
 have e1:BitVec.ofInt 64 ((r:Int)*4294967296)=BitVec.ofNat 64 (r*4294967296):=by
  rw[show ((r:Int)*4294967296)=((r*4294967296:Nat):Int)by omega,BitVec.ofInt_natCast]
 rw[e1,BitVec.ofInt_natCast,BitVec.toNat_or,BitVec.toNat_ofNat,BitVec.toNat_ofNat,D1x (by omega),D1x (by omega)];have e2:r*4294967296|||x=r*4294967296+x:=by
  have:=Nat.two_pow_add_eq_or_of_lt (i:=32) (b:=x) (by simpa using hx) r;rw[show r*4294967296=2 ^ 32*r by omega];exact this.symm
 rw[e2];exact A0Y (by omega) (by omega)
section
variable {P:Program} {t:Nat} {c:Bool}
@[go_sem] theorem C8R(a:Int):L3 P .shr t c (.int .u64 a) (.int .u64 32)=some (.int .u64 (a / 4294967296)):=by
 show (if(32:Int)<0 then none else some (D.int .u64 (a.fdiv (2 ^ (min (32:Int).toNat IntKind.u64.bits)))))=_;rw[if_neg (by decide)];have e:(2:Int) ^ (min (32:Int).toNat IntKind.u64.bits)=4294967296:=by decide
 rw[e,Int.fdiv_eq_ediv_of_nonneg _ (by decide)]
@[go_sem] theorem C9P(a:Int):L3 P .shr t c (.int .i64 a) (.int .u64 32)=some (.int .i64 (a / 4294967296)):=by
 show (if(32:Int)<0 then none else some (D.int .i64 (a.fdiv (2 ^ (min (32:Int).toNat IntKind.i64.bits)))))=_;rw[if_neg (by decide)];have e:(2:Int) ^ (min (32:Int).toNat IntKind.i64.bits)=4294967296:=by decide
 rw[e,Int.fdiv_eq_ediv_of_nonneg _ (by decide)]
@[go_sem] theorem C8S(a:Int):L3 P .shl t c (.int .u64 a) (.int .u64 32)=some (.int .u64 (IntKind.u64.wrap (a*4294967296))):=by
 show (if(32:Int)<0 then none else some (D.int .u64 (IntKind.u64.wrap (a*(2 ^ (min (32:Int).toNat IntKind.u64.bits))))))=_;rw[if_neg (by decide)];have e:(2:Int) ^ (min (32:Int).toNat IntKind.u64.bits)=4294967296:=by decide
 rw[e]
@[go_sem] theorem C9Q(a b:Int):L3 P .or t c (.int .u64 a) (.int .u64 b)=some (.int .u64 (IntKind.u64.wrap ((BitVec.ofInt 64 a|||BitVec.ofInt 64 b).toNat:Nat))):=rfl
end
end Go.Lin
namespace Go.Av
section
variable {H Hc:Heap} {KD:D→Heap→Prop} {sz by_ n:Nat} {ob:Option Nat} {es xs:List (List D)}
theorem B6U(e:OutIn H sz es ob Hc)(g:xs≠[])(hn:n=es.length)(h1:(n+xs.length)*by_≤140737488355328)(i:n+xs.length≤9223372036854775807)
  (h: ∀b',H b'=none→K2 Hc ob b'=none→(∀o,(H.set b' o).Le ((K2 Hc ob).set b' o))→KD (.vec b' sz 0 (n+xs.length)) ((K2 Hc ob).set b' (.vec sz (es++xs)))):apS (J3 sz n ob) sz by_ xs Hc KD:=
 A2c es g hn e.2.1 h1 i fun b' d=>h b' (e.new d) d fun o=>e.step o
theorem M4{α :Type}{f: α →List D}(l:List α)(k:Nat)(h:k<l.length):Rw f (l.take (k+1))=Rw f (l.take k)++[f l[k]]:=by
 rw[D1F h];simp only[Rw,D1w,D2D,List.map_nil]
theorem M5{α :Type}{f: α →List D}(l:List α)(k:Nat)(h:k≤l.length):(Rw f (l.take k)).length=k:=by simp[Rw];omega
end
theorem B16{b sz:Nat}{es:List (List D)}{E0 E:Env}(h:Av.Sub E0 E): ∀p∈E0,Fz b sz es (E.get p.1) p.2:=fun p hp=>by
 rw[h.all p hp];exact .same _
theorem V3{Q:D→Heap→Prop}{cs cs':List D}{H:Heap}{b sz:Nat}{es:List (List D)}(hb:H b=some (.vec sz es))(hl:cs.length=cs'.length)
  (o: ∀(i:Nat) d d',cs[i]? =some d→cs'[i]? =some d'→Fz b sz es d d') (h:Fin Q (.agg cs') (H.del b)):Fin Q (.agg cs) H:=by
 unfold Fin at h⊢;obtain⟨p,d1,h1,q⟩:=h;refine⟨p,d1,Shift.trans (fun w v hr hs=>?_) h1,q⟩;refine⟨?_,hs.less (F0 H b),fun k hn=>(F0 H b).held hn⟩;cases hr with
 |agg _ vs r ho hr=>
  have key: ∀(i:Nat) d',cs'[i]? =some d'→∃d,cs[i]? =some d∧Fz b sz es d d':=fun i d' e=>by
   have u:=(D06.1 e).1;have g:i<cs.length:=by omega
   exact⟨cs[i],D1D g,o i _ _ (D1D g) e⟩
  refine .agg cs' vs (by omega) (fun i d' e=>?_) (fun i d' e=>?_)
  ·obtain⟨d,j,m⟩:=key i d' e;exact m.one (ho i d j)
  ·obtain⟨d,j,m⟩:=key i d' e;exact m.R hs hb (hr i d j)
theorem C9R{P:Program}{H0:Heap}{d:D→Heap→Prop}{bl:Bl}{g b:Nat}{e:List D}{c:D}{o:Obj}(i:H0 b=none)(hr:o.rw=true)(hn:b∉bl.l)(h: ∀(H':Heap) (Q:D→Heap→Prop),(∀k cs,(H0.set b o) k=some (.ro cs)→H' k=some (.ro cs))→H' b=some o→Q c (H'.del b)→ACalls P g e H' Q)(hk:d c H0):pcB P (.c c) bl g e [b] (H0.set b o) d:=
 pc1 (A3 _ _) hr hn h (by rw[E8 i];exact hk)
theorem C3g{H0:Heap}{i:D→Heap→Prop}{bl:Bl}{b sz n e:Nat}{es xs:List (List D)}(g:H0 b=none)(hn:n=es.length)(hb:b∉bl.l)(h1:(n+xs.length)*e≤140737488355328)(j:n+xs.length≤9223372036854775807)
  (h: ∀b',H0 b'=none→i (.vec b' sz 0 (n+xs.length)) (H0.set b' (.vec sz (es++xs)))):paV (some (.vec sz es)) bl [] b sz n e xs (H0.set b (.vec sz es)) i:=by
 rw[B3A];refine⟨rfl,by omega,h1,j,.inl hb,by rw[A8e];trivial,fun b' d=>?_⟩;rw[W7,A0K,F7,E8 g,D1B (by omega)];refine h b' ?_;rcases d with d|d
 ·exact(A0 g).none d
 ·rw[W7]at d;simp at d;rw[d];exact g
theorem A7c{P:Program}{c:CR}{bl:Bl}{ev:Operand→D}{H:Heap}{j:D→Heap→Prop}{s x:Operand}{t m:Nat}(e d:Nat)(xs:List (List D)){sz b:Nat}{es:List (List D)}{H0:Heap}(o:H=H0.set b (.vec sz es))
  (p:H6 P t=some (e,sz,d)) (q:0<sz) (h1:apT (C9 P m)) (r:apZ (G2 P e) sz) (hs:ev s= .vec b sz 0 es.length) (hx:M7 H sz (ev x)=some xs) (hv:S9 (ev x)= []) (g:H0 b=none) (i:b∉bl.l)
  (u:(es.length+xs.length)*d≤140737488355328) (y:es.length+xs.length≤9223372036854775807) (h: ∀b',H0 b'=none→j (.vec b' sz 0 (es.length+xs.length)) (H0.set b' (.vec sz (es++xs)))):pOp P c bl ev H j (.call ⟨.builtin .append,#[s,x],#[t,m]⟩):=by
 subst o;refine A42 ?_;rw[p,B0H];refine⟨q,h1,r,?_⟩;rw[hx,B0G,hs,hv,B3B,A3];exact⟨rfl,rfl,C3g g rfl i u y h⟩
theorem C7J{d:Heap}{ob:Option Nat}{e k:Nat}{x o:Obj}(h1:d k=some o)(i:ob≠some k)(g:K2 d ob e=none):((K2 d ob).set e x) k=some o:=by
 have h:K2 d ob k=some o:=by
  cases ob with
  |none=>exact h1
  |some c=>
   show (d.del c) k=_;rw[E5 (by rintro rfl;exact i rfl)];exact h1
 rw[A4 _ (by rintro rfl;rw[h]at g;cases g)];exact h
theorem newK{h:Heap}{ob:Option Nat}{d:Nat}(g:K2 h ob d=none):h d=none∨ob=some d:=by
 cases ob with
 |none=>exact .inl g
 |some c=>
  change (h.del c) d=none at g;simp only[Heap.del]at g;by_cases e:d=c
  ·exact .inr (by rw[e])
  ·rw[if_neg e]at g;exact .inl g
def Apd(H0:Heap)(sz:Nat)(ob:Option Nat)(es:List (List D))(b':Nat)(H':Heap):Prop:=
 H' b'=some (.vec sz es)∧(∀q o,H0 q=some o→ob≠some q→H' q=some o)∧(H0 b'=none∨ob=some b')
theorem A48{P:Program}{z:D→Heap→Prop}{H0:Heap}{sz m n bx:Nat}{ob:Option Nat}{o:Obj}{es xs:List (List D)}(i:H0 bx=none)(r:xs≠[])(d:OutAt H0 sz es ob)(hn:n=es.length)(h1:(n+xs.length)*m≤140737488355328)(A:n+xs.length≤9223372036854775807)
  (h: ∀b' H',Apd H0 sz ob (es++xs) b' H'→z (.vec b' sz 0 (n+xs.length)) H'):apS (J3 sz n ob) sz m xs (H0.set bx o) z:=by
 have u:ob≠some bx:=fun e=>by subst e;have:H0 bx=some (.vec sz es):=d;rw[i]at this;cases this
 have j:OutAt (H0.set bx o) sz es ob:=by
  cases ob with
  |none=>exact d
  |some c=>show Heap.set _ bx _ c=_;rw[A4 _ (fun e=>u (by rw[e]))];exact d
 refine A2c es r hn j h1 A fun b' p=>?_;refine h b' _ ⟨A3 _ _,fun q x hq y=>C7J (by rw[A4 _ (by rintro rfl;rw[i]at hq;cases hq)];exact hq) y p,?_⟩;rcases newK p with g|g
 ·exact .inl ((A0 i).none g)
 ·exact .inr g
theorem A0q{Q:D→Heap→Prop}{cs cs':List D}{x:D}{H:Heap}{b sz:Nat}{es:List (List D)}(hb:H b=some (.vec sz es))(hl:cs.length=cs'.length)
  (u: ∀(i:Nat) d d',cs[i]? =some d→cs'[i]? =some d'→Fz b sz es d d') (h:Fin Q (.tuple [.agg cs',x]) (H.del b)):Fin Q (.tuple [.agg cs,x]) H:=by
 unfold Fin at h⊢;obtain⟨y,d1,h1,z⟩:=h;refine⟨y,d1,Shift.trans (fun w v hr hs=>?_) h1,z⟩;refine⟨?_,hs.less (F0 H b),fun k hn=>(F0 H b).held hn⟩;cases hr with
 |tuple _ us o j=>
  refine .tuple [.agg cs',x] us o (fun q d' e=>?_)
  match q with
  |0=>
   cases e;have g:=j 0 (.agg cs) rfl;revert g;generalize us.getD 0 undef=v0;intro g;cases g with
   |agg _ vs A ho hr=>
    have key: ∀(i:Nat) d',cs'[i]? =some d'→∃d,cs[i]? =some d∧Fz b sz es d d':=fun i d' e=>by
     have C:=(D06.1 e).1;have m:i<cs.length:=by omega
     exact⟨cs[i],D1D m,u i _ _ (D1D m) e⟩
    refine .agg cs' vs (by omega) (fun i d' e=>?_) (fun i d' e=>?_)
    ·obtain⟨d,p,r⟩:=key i d' e;exact r.one (ho i d p)
    ·obtain⟨d,p,r⟩:=key i d' e;exact r.R hs hb (hr i d p)
  |1=>cases e;exact(j 1 _ rfl).less (F0 H b)
  |q+2=>cases e
theorem A6y{P:Program}{f b sz:Nat}{es:List (List D)}{args:List D}{H H':Heap}{Q:D→Heap→Prop}(hb:H b=some (.vec sz es))
  (A: ∀k o',H' k=some o'→k≠b∧∃o,H k=some o∧OFz b sz es o o') (h:ACalls P f args H' Q):ACalls P f args H Q:=by
 refine ACalls.shift (fun w vs h1 x hs=>?_) h;have e: ∀k,H.held k=false→H'.held k=false:=fun k hk=>by
  cases ho:H' k with
  |none=>exact I1 ho
  |some o'=>
   obtain⟨_,o,h1,x⟩:=A k o' ho;rw[J5 h1]at hk;rw[J5 ho];cases x<;>exact hk
 have C: ∀{d d':D} {v:Value},Fz b sz es d d'→R w H d v→R w H' d' v:=fun r hr=>(r.R hs hb hr).mono (D2U _ _) fun k _ hk=>by
  by_cases y:k=b
  ·subst y;cases ho:H' k with
   |none=>exact I1 ho
   |some o'=>exact absurd rfl (A k o' ho).1
  ·refine e k ?_;rw[←A0Z (H:=H) (H':=H.del b) (k:=k) (by unfold Heap.del;rw[if_neg y])];exact hk
 refine⟨h1,fun i d q=>C (.same d) (x i d q),fun k o' ho=>?_,e⟩;obtain⟨_,o,h1,x⟩:=A k o' ho;have u:=hs k o h1;cases x with
 |same=>exact u.mono (D2U H w) (fun k _ hk=>e k hk) rfl
 |box cs cs' Z hl r=>
  obtain⟨c,T,lo,G,I,J,O,z,L⟩:=u;refine⟨c,T,lo,G,I,J,by omega,fun j d' m=>?_,L⟩;have V:=(D06.1 m).1;have q:cs[j]? =some (cs[j]'(by omega)):=D1D _;have p:=r j _ _ q m;exact⟨p.one (z j _ q).1,C p (z j _ q).2⟩
 |vec s xs xs' hl r=>
  obtain⟨c,T,lo,G,I,J,O,z,L,U⟩:=u;refine⟨c,T,lo,G,I,J,O,by rw[←hl];exact z,fun i x' g=>?_,fun i x' j d' g m=>?_⟩
  ·have M:=(D06.1 g).1;have hx:xs[i]? =some (xs[i]'(by omega)):=D1D _;rw[←(r i _ _ hx g).1];exact L i _ hx
  ·have M:=(D06.1 g).1;have hx:xs[i]? =some (xs[i]'(by omega)):=D1D _;have hlen:=(r i _ _ hx g).1;have V:=(D06.1 m).1;have q:(xs[i]'(by omega))[j]? =some ((xs[i]'(by omega))[j]'(by omega)):=D1D _;have p:=(r i _ _ hx g).2 j _ _ q m;exact⟨p.one (U i _ j _ hx q).1,C p (U i _ j _ hx q).2⟩
inductive NilR:D→D→Prop
 |same (d:D):NilR d d
 |nil (z:Nat):NilR .nilsl (.sl z [])
 |agg (cs cs':List D) (hl:cs.length=cs'.length) (h: ∀(i:Nat) d d',cs[i]? =some d→cs'[i]? =some d'→NilR d d'):NilR (.agg cs) (.agg cs')
 |tuple (cs cs':List D) (hl:cs.length=cs'.length) (h: ∀(i:Nat) d d',cs[i]? =some d→cs'[i]? =some d'→NilR d d'):NilR (.tuple cs) (.tuple cs')
 |sl (sz:Nat) (es es':List (List D)) (hl:es.length=es'.length) (h1: ∀(i:Nat) (e e':List D),es[i]? =some e→es'[i]? =some e'→e.length=e'.length)
   (h: ∀(i:Nat) (e e':List D) (j:Nat) (d d':D),es[i]? =some e→es'[i]? =some e'→e[j]? =some d→e'[j]? =some d'→NilR d d'):NilR (.sl sz es) (.sl sz es')
theorem NilR.one{d d':D}(h:NilR d d')(ho:d.one=true):d'.one=true:=by
 cases h with
 |same=>exact ho
 |nil=>rfl
 |agg=>cases ho
 |tuple=>cases ho
 |sl=>rfl
theorem G4{α β :Type}{l:List α}{m:List β}(hl:l.length=m.length){i:Nat}{y: β}(h:m[i]? =some y): ∃x,l[i]? =some x:=by
 have d:=(D06.1 h).1;exact⟨l[i]'(by omega),D1D _⟩
theorem NilR.R{d d':D}(h:NilR d d'): ∀{w:World} {H:Heap} {v:Value},R w H d v→R w H d' v:=by
 induction h with
 |same d=>exact fun hr=>hr
 |nil z=>intro w H v hr;cases hr;exact .sl0 _ _ _
 |agg cs cs' hl h p=>
  intro w H v hr;cases hr with
  |agg _ vs q ho hr=>
   refine .agg cs' vs (by omega) (fun i d' g=>?_) (fun i d' g=>?_)
   ·obtain⟨d,o⟩:=G4 hl g;exact(h i d d' o g).one (ho i d o)
   ·obtain⟨d,o⟩:=G4 hl g;exact p i d d' o g (hr i d o)
 |tuple cs cs' hl h p=>
  intro w H v hr;cases hr with
  |tuple _ vs q hr=>
   refine .tuple cs' vs (by omega) (fun i d' g=>?_);obtain⟨d,o⟩:=G4 hl g;exact p i d d' o g (hr i d o)
 |sl sz es es' hl h1 h p=>
  intro w H v hr;cases hr with
  |sl0 _ a cap=>
   have:es'= []:=D1K (by simpa using hl.symm);subst this;exact .sl0 _ _ _
  |sl _ _ b off cap u hb hn hlen hcap hc ho hr=>
   rw[hl];refine .sl sz es' b off cap u hb hn (fun i e' m=>?_) (by omega) (fun i j x r=>hc i j (by omega) r) (fun i e' j d' m g=>?_) (fun i e' j d' m g=>?_)
   ·obtain⟨e,he⟩:=G4 hl m;rw[←h1 i e e' he m];exact hlen i e he
   ·obtain⟨e,he⟩:=G4 hl m;obtain⟨d,o⟩:=G4 (h1 i e e' he m) g;exact(h i e e' j d d' he m o g).one (ho i e j d he o)
   ·obtain⟨e,he⟩:=G4 hl m;obtain⟨d,o⟩:=G4 (h1 i e e' he m) g;exact p i e e' j d d' he m o g (hr i e j d he o)
theorem NilR.rw{α :Type}{f g: α →List D}(sz:Nat)(l:List α)(h1: ∀x∈l,(f x).length=(g x).length)(h: ∀x∈l,∀(j:Nat) d d',(f x)[j]? =some d→(g x)[j]? =some d'→NilR d d'):NilR (.sl sz (Rw f l)) (.sl sz (Rw g l)):=by
 refine .sl sz _ _ (by simp[Rw]) (fun i e e' he m=>?_) (fun i e e' j d d' he m q p=>?_)
 ·simp only[Rw,D1J,D05]at he m;obtain⟨x,hx,rfl⟩:=he;obtain⟨y,o,rfl⟩:=m;rw[hx]at o;cases o;exact h1 x (D1T hx)
 ·simp only[Rw,D1J,D05]at he m;obtain⟨x,hx,rfl⟩:=he;obtain⟨y,o,rfl⟩:=m;rw[hx]at o;cases o;exact h x (D1T hx) j d d' q p
theorem D9{Q:D→Heap→Prop}{d d':D}{H:Heap}(hn:NilR d d')(h:Fin Q d' H):Fin Q d H:=by
 unfold Fin at h⊢;obtain⟨e,d1,h1,g⟩:=h;exact⟨e,d1,Shift.trans (fun w v hr hs=>⟨hn.R hr,hs,fun k hk=>hk⟩) h1,g⟩
theorem R6{P:Program}{f:Nat}{args args':List D}{H:Heap}{Q:D→Heap→Prop}(hl:args.length=args'.length)(hn: ∀(i:Nat) d d',args[i]? =some d→args'[i]? =some d'→NilR d d')(h:ACalls P f args' H Q):ACalls P f args H Q:=
 ACalls.shift (args':=args') (fun w vs h1 j m=>⟨by omega,fun i d' e=>by
  obtain⟨d,g⟩:=G4 hl e;exact(hn i d d' g e).R (j i d g),m,fun _ hk=>hk⟩) h
end Go.Av
namespace Go.Proofs.YtibphjonmikciaaGreatDoor
open Go Go.Av Go.Lin
abbrev E6:=ACalls Tryz.prog
attribute [local irreducible] ACalls S3
theorem A4c{Q}(l:List Nat)(b:Nat)(H:Heap)(n:Nat)(hn:n=l.length)(hl:l.length≤1000000)(hb:H b=some (.vec 1 (Rw F5 l)))(h:Q (.vec b 1 0 (A0M l n)) H):E6 287 [.vec b 1 0 n] H Q:=by
 subst hn;refine B2 [] A8 Tryz.func287 rfl ?_;simp only[go_sem,seval,Tryz.results287];repeat' (first|with_reducible apply D0w|simp only[go_sem,seval]|simp(disch:=omega) only[A5]|intro d|omega)
 refine C8 [] (fun(m:Nat)=>[(0,.vec b 1 0 m)]) (fun(m:Nat)=>H) (fun(m:Nat)=>m≤l.length∧A0M l m=A0M l l.length) (fun(m:Nat)=>m) (l.length) (⟨D1G _,rfl⟩) (by simp only[go_sem,seval]) (by first|exact D2N _|exact A0 (by assumption)|exact B4 (by assumption)|simp only[Heap.Le,Heap.set,Heap.del]at* <;>grind) ?_;rintro q rfl m ⟨hm,g⟩;by_cases r:0<m
 ·obtain⟨k,rfl⟩: ∃k,m=k+1:=⟨m-1,by omega⟩
  have hk:k<l.length:=by omega
  have p:l.getD k 0=l[k]:=by simp[hk]
  have o:(((k+1:Nat):Int)-1)=(k:Int):=by omega
  rw[A0M,p]at g;by_cases i:l[k]=0
  ·rw[if_pos i]at g;repeat' (first|with_reducible apply D0w|simp only[go_sem,seval,hb,B3 _ _ hk,C3 _ _ hk,o,i,decide_true]|simp(disch:=omega) only[A5]|intro d|omega)
   exact C4 k ⟨by omega,g⟩ (by omega) (by simp only[go_sem,seval]) (D2N _)
  ·rw[if_neg i]at g;have j: ¬((l[k]:Nat):Int)=0:=by omega
   repeat' (first|with_reducible apply D0w|simp only[go_sem,seval,hb,B3 _ _ hk,C3 _ _ hk,o,j,decide_false]|simp(disch:=omega) only[A5]|intro d|omega)
   rw[←g]at h;exact D2R h
 ·have e:m=0:=by omega
  subst e;rw[A0M]at g;repeat' (first|with_reducible apply D0w|simp only[go_sem,seval]|simp(disch:=omega) only[A5]|intro d|omega)
  rw[←g]at h;exact D2R h
theorem A2H{Q:D→Heap→Prop}{H:Heap}{b n:Nat}{l:List Nat}(d:Dig l)(hn:n=l.length)(hb:H b=some (.vec 1 (Rw F5 l)))(h:Av.Fin Q (Y2 (F2 l)) (H.del b)):Av.Fin Q (.vec b 1 0 (A0M l n)) H:=by
 subst hn;refine Fin.freeze hb (.vec 0 _ (by rw[Nat.zero_add,D6];exact B0J _ _)) ?_;rw[List.drop_zero,A2d,B0K d];exact h
theorem C3h{Q}(n:Nat)(hn:n<18446744073709551616)(H:Heap)(h:Q (Y2 n) H):E6 265 [.int .u64 n] H Q:=by
 refine B2 [] A8 Tryz.func265 rfl ?_;simp only[go_sem,seval,Tryz.results265];repeat' intro d
 rename_i b;have hb:=d;clear d;have e1:IntKind.u32.wrap (n:Int)=((n % 4294967296:Nat):Int):=by rw[A68];omega
 have e2:IntKind.u32.wrap ((n:Int) / 4294967296)=((n / 4294967296:Nat):Int):=by rw[A68];omega
 have e:Dig [n % 4294967296,n / 4294967296]:=fun x hx=>by
  simp only[D1O,D1P,or_false]at hx;rcases hx with rfl|rfl<;>omega
 have hv:F2 [n % 4294967296,n / 4294967296]=n:=by simp only[F2];omega
 rw[e1,e2];refine A4c [n % 4294967296,n / 4294967296] b _ 2 rfl (by simp) (A3 _ _) ?_;repeat' simp only[go_sem,seval]
 refine A2H e rfl (A3 _ _) ?_;rw[hv,E8 hb];exact D2R h
def C7K(a b:Nat)(c:Int):Prop:=(c<0↔a<b)∧(c=0↔a=b)
theorem B6W{Q}(a b:Nat)(L:(C2 a).length≤1000000)(hb:(C2 b).length≤1000000)(H:Heap)(h: ∀c:Int,C7K a b c→Q (.int .i64 c) H):E6 283 [Y2 a,Y2 b] H Q:=by
 refine B2 [] A8 Tryz.func283 rfl ?_;simp only[go_sem,seval,Tryz.results283];have u:=L0 a;have x:=L0 b;have C:=Q1 a;have G:=Q1 b;by_cases hl:(C2 a).length=(C2 b).length
 ·have y:((C2 a).length:Int)=(C2 b).length:=by omega
  repeat' (first|with_reducible apply D0w|simp only[go_sem,seval,y,bne_self_eq_false]|simp(disch:=omega) only[A5,B3])
  refine C8 [0,1] (fun(k:Nat)=>[(5,.int .i64 ((k:Int)-1))]) (fun(k:Nat)=>H) (fun(k:Nat)=>k≤(C2 a).length∧(C2 a).drop k=(C2 b).drop k) (fun(k:Nat)=>k) ((C2 b).length) (⟨by omega,by rw[List.drop_length,List.drop_eq_nil_of_le (by omega)]⟩) (by simp only[go_sem,seval]) (by first|exact D2N _|exact A0 (by assumption)|exact B4 (by assumption)|simp only[Heap.Le,Heap.set,Heap.del]at* <;>grind) ?_;rintro M rfl k ⟨hk,d⟩;by_cases O:0<k
  ·obtain⟨j,rfl⟩: ∃j,k=j+1:=⟨k-1,by omega⟩
   have m:j<(C2 a).length:=by omega
   have o:j<(C2 b).length:=by omega
   have z:(((j+1:Nat):Int)-1)=(j:Int):=by omega
   have r:decide ((0:Int)≤(j:Int))=true:=D0y (by omega);by_cases he:(C2 a)[j]=(C2 b)[j]
   ·have i:((((C2 a)[j]:Nat):Int) != (((C2 b)[j]:Nat):Int))=false:=by rw[he];exact bne_self_eq_false _
    repeat' (first|with_reducible apply D0w|simp only[go_sem,seval,B3 _ _ m,C3 _ _ m,B3 _ _ o,C3 _ _ o,z,r,i]|simp(disch:=omega) only[A5,B3]|intro p|omega)
    exact C4 j ⟨by omega,by rw[D1R m,D1R o,d,he]⟩ (by omega) (by simp only[go_sem,seval]) (D2N _)
   ·have i:((((C2 a)[j]:Nat):Int) != (((C2 b)[j]:Nat):Int))=true:=by rw[bne_iff_ne];omega
    by_cases A:(C2 a)[j]<(C2 b)[j]
    ·have q:decide ((((C2 a)[j]:Nat):Int)<(((C2 b)[j]:Nat):Int))=true:=D0y (by omega);repeat' (first|with_reducible apply D0w|simp only[go_sem,seval,B3 _ _ m,C3 _ _ m,B3 _ _ o,C3 _ _ o,z,r,i,q]|simp(disch:=omega) only[A5,B3]|intro p|omega)
     have:=B0M C G hl m d A;rw[u,x]at this;exact D2R (h _ ⟨by omega,by omega⟩)
    ·have q:decide ((((C2 a)[j]:Nat):Int)<(((C2 b)[j]:Nat):Int))=false:=D0z (by omega);repeat' (first|with_reducible apply D0w|simp only[go_sem,seval,B3 _ _ m,C3 _ _ m,B3 _ _ o,C3 _ _ o,z,r,i,q]|simp(disch:=omega) only[A5,B3]|intro p|omega)
     have:=B0M G C hl.symm o d.symm (by omega);rw[u,x]at this;exact D2R (h _ ⟨by omega,by omega⟩)
  ·have e:k=0:=by omega
   subst e;have r:decide ((0:Int)≤(((0:Nat):Int)-1))=false:=by decide
   rw[List.drop_zero,List.drop_zero]at d;have I:a=b:=by rw[←u,←x,d]
   repeat' simp only[go_sem,seval,r]
   exact D2R (h _ ⟨by omega,by omega⟩)
 ·have J:((((C2 a).length:Nat):Int) != (((C2 b).length:Nat):Int))=true:=by rw[bne_iff_ne];omega
  repeat' (first|with_reducible apply D0w|simp(disch:=omega) only[A5,B3]|intro p|omega)
  refine D2R (h _ ?_);rcases Nat.lt_or_gt_of_ne hl with g|g
  ·have:=A0f g;exact⟨by omega,by omega⟩
  ·have:=A0f g;exact⟨by omega,by omega⟩
theorem B6X{Q}(m n:Nat)(hm:(C2 m).length≤100000)(hn:(C2 n).length≤100000)(H:Heap)(h:Q (Y2 (m+n)) H):E6 279 [Y2 m,Y2 n] H Q:=by
 refine B2 [] A8 Tryz.func279 rfl ?_;simp only[go_sem,seval,Tryz.results279];by_cases T:(C2 m).length<(C2 n).length
 ·have o:decide (((C2 m).length:Int)<(C2 n).length)=true:=D0y (by omega);repeat' (first|with_reducible apply D0w|simp only[go_sem,seval,o]|simp(disch:=omega) only[A5,B3,K3]|intro q|omega)
  rename_i C;have z:=q;clear q;have r:([D.int .u32 0]::List.replicate (C2 n).length [D.int .u32 0])=Rw F5 (T3 [] ((C2 n).length+1)):=by rw[←List.replicate_succ,A6M];exact A6J _ _ _ rfl
  rw[r];refine C8 [0,1,5,20] (fun(p:List Nat×Nat)=>[(21,.int .i64 p.1.length),(6,.int .u64 p.2)]) (fun(p:List Nat×Nat)=>H.set C (.vec 1 (Rw F5 (T3 p.1 ((C2 n).length+1))))) (fun(p:List Nat×Nat)=>p.1.length≤(C2 n).length∧Dig p.1∧p.2≤1∧F2 p.1+4294967296 ^ p.1.length*p.2=F2 ((C2 n).take p.1.length)+F2 ((C2 m).take p.1.length)) (fun(p:List Nat×Nat)=>(C2 n).length-p.1.length) (([],0)) (⟨D1H _,by simp[Dig],by simp,by simp[F2]⟩) (by(try simp only[go_sem,seval])<;>(try simp(disch:=omega) [A5])) (by first|exact D2N _|exact A0 (by assumption)|exact B4 (by assumption)|simp only[Heap.Le,Heap.set,Heap.del]at* <;>grind) ?_;rintro U rfl ⟨L,c⟩ ⟨J,x,hc,hv⟩;simp only at J x hc hv;have g:=A6L L ((C2 n).length+1) (by omega);by_cases d:L.length<(C2 n).length
  ·have e:decide ((L.length:Int)<(C2 n).length)=true:=D0y (by omega);have V:=K3 (Q1 n) d;have G:IntKind.u64.wrap (((C2 n)[L.length]:Nat):Int)=(((C2 n)[L.length]:Nat):Int):=A0Y (by omega) (by omega);have A:IntKind.u64.wrap ((c:Int)+((C2 n)[L.length]:Nat))=((c+(C2 n)[L.length]:Nat):Int):=by rw[A0Y (by omega) (by omega)];omega
   have I:L.length<(T3 L ((C2 n).length+1)).length:=by omega
   by_cases y:L.length<(C2 m).length
   ·have i:decide ((L.length:Int)<(C2 m).length)=true:=D0y (by omega);have W:=K3 (Q1 m) y;have M:IntKind.u64.wrap (((C2 m)[L.length]:Nat):Int)=(((C2 m)[L.length]:Nat):Int):=A0Y (by omega) (by omega);obtain⟨s,hs⟩: ∃s,s=c+(C2 n)[L.length]+(C2 m)[L.length]:=⟨_,rfl⟩
    have O:IntKind.u64.wrap (((c+(C2 n)[L.length]:Nat):Int)+((C2 m)[L.length]:Nat))=(s:Int):=by rw[A0Y (by omega) (by omega)];omega
    have w5:IntKind.u32.wrap (s:Int)=((s % 4294967296:Nat):Int):=by rw[A68];omega
    have w6:(s:Int) / 4294967296=((s / 4294967296:Nat):Int):=by omega
    have e1:(Rw F5 (T3 L ((C2 n).length+1))).set L.length [.int .u32 ((s % 4294967296:Nat):Int)]=Rw F5 (T3 (L++[s % 4294967296]) ((C2 n).length+1)):=by rw[←l9 L _ _ (by omega)];exact Z5 _ _ _ _ rfl
    repeat' (first|with_reducible apply D0w|simp only[go_sem,seval,e,i,g,B3 _ _ d,C3 _ _ d,B3 _ _ y,C3 _ _ y,G,A,M,O,w5,w6,e1]|simp(disch:=omega) only[A5,B3,K3]|omega)
    refine C4 (L++[s % 4294967296],s / 4294967296) ⟨by simp only[D02,D04];omega,l8 x (by omega),by simp only[];omega,?_⟩ (by simp only[D02,D04];omega) (by(try simp only[go_sem,seval,D02,D04])<;>(try simp(disch:=omega) [A5])) (D2N _);simp only[D02,D04];rw[A1Z,H9 _ _ d,H9 _ _ y,hs,Nat.mul_add,Nat.mul_add];omega
   ·have i:decide ((L.length:Int)<(C2 m).length)=false:=D0z (by omega);obtain⟨s,hs⟩: ∃s,s=c+(C2 n)[L.length]:=⟨_,rfl⟩
    rw[←hs]at A;have w5:IntKind.u32.wrap (s:Int)=((s % 4294967296:Nat):Int):=by rw[A68];omega
    have w6:(s:Int) / 4294967296=((s / 4294967296:Nat):Int):=by omega
    have e1:(Rw F5 (T3 L ((C2 n).length+1))).set L.length [.int .u32 ((s % 4294967296:Nat):Int)]=Rw F5 (T3 (L++[s % 4294967296]) ((C2 n).length+1)):=by rw[←l9 L _ _ (by omega)];exact Z5 _ _ _ _ rfl
    repeat' (first|with_reducible apply D0w|simp only[go_sem,seval,e,i,g,B3 _ _ d,C3 _ _ d,G,A,w5,w6,e1]|simp(disch:=omega) only[A5,B3,K3]|omega)
    refine C4 (L++[s % 4294967296],s / 4294967296) ⟨by simp only[D02,D04];omega,l8 x (by omega),by simp only[];omega,?_⟩ (by simp only[D02,D04];omega) (by(try simp only[go_sem,seval,D02,D04])<;>(try simp(disch:=omega) [A5])) (D2N _);simp only[D02,D04];rw[D1B (l:=C2 m) (by omega)]at hv;rw[A1Z,H9 _ _ d,D1B (l:=C2 m) (by omega),hs,Nat.mul_add];omega
  ·have e:decide ((L.length:Int)<(C2 n).length)=false:=D0z (by omega);have j:L.length=(C2 n).length:=by omega
   have w5:IntKind.u32.wrap (c:Int)=((c:Nat):Int):=B9h (by omega) (by omega);have e1:(Rw F5 (T3 L ((C2 n).length+1))).set (C2 n).length [.int .u32 ((c:Nat):Int)]=Rw F5 (L++[c]):=by
    rw[←j,←A4X (L++[c]) (L.length+1) (by simp),←l9 L _ _ (by omega)];exact Z5 _ _ _ _ rfl
   have u:F2 (L++[c])=m+n:=by
    rw[y7,hv,D1B (by omega),D1B (by omega),L0,L0];omega
   repeat' (first|with_reducible apply D0w|simp only[go_sem,seval,e,g,w5,e1]|simp(disch:=omega) only[A5,B3,K3]|omega)
   refine A4c (L++[c]) C _ _ (by simp[j]) (by simp;omega) (A3 _ _) ?_;repeat' simp only[go_sem,seval]
   refine A2H (l:=L++[c]) (l8 x (show c<4294967296 by omega)) (by simp[j]) (A3 _ _) ?_;rw[u,E8 z];exact D2R h
 ·have o:decide (((C2 m).length:Int)<(C2 n).length)=false:=D0z (by omega);repeat' (first|with_reducible apply D0w|simp only[go_sem,seval,o]|simp(disch:=omega) only[A5,B3,K3]|intro q|omega)
  rename_i C;have z:=q;clear q;have r:([D.int .u32 0]::List.replicate (C2 m).length [D.int .u32 0])=Rw F5 (T3 [] ((C2 m).length+1)):=by rw[←List.replicate_succ,A6M];exact A6J _ _ _ rfl
  rw[r];refine C8 [0,1,5,20] (fun(p:List Nat×Nat)=>[(21,.int .i64 p.1.length),(6,.int .u64 p.2)]) (fun(p:List Nat×Nat)=>H.set C (.vec 1 (Rw F5 (T3 p.1 ((C2 m).length+1))))) (fun(p:List Nat×Nat)=>p.1.length≤(C2 m).length∧Dig p.1∧p.2≤1∧F2 p.1+4294967296 ^ p.1.length*p.2=F2 ((C2 m).take p.1.length)+F2 ((C2 n).take p.1.length)) (fun(p:List Nat×Nat)=>(C2 m).length-p.1.length) (([],0)) (⟨D1H _,by simp[Dig],by simp,by simp[F2]⟩) (by(try simp only[go_sem,seval])<;>(try simp(disch:=omega) [A5])) (by first|exact D2N _|exact A0 (by assumption)|exact B4 (by assumption)|simp only[Heap.Le,Heap.set,Heap.del]at* <;>grind) ?_;rintro U rfl ⟨L,c⟩ ⟨J,x,hc,hv⟩;simp only at J x hc hv;have g:=A6L L ((C2 m).length+1) (by omega);by_cases d:L.length<(C2 m).length
  ·have e:decide ((L.length:Int)<(C2 m).length)=true:=D0y (by omega);have V:=K3 (Q1 m) d;have G:IntKind.u64.wrap (((C2 m)[L.length]:Nat):Int)=(((C2 m)[L.length]:Nat):Int):=A0Y (by omega) (by omega);have A:IntKind.u64.wrap ((c:Int)+((C2 m)[L.length]:Nat))=((c+(C2 m)[L.length]:Nat):Int):=by rw[A0Y (by omega) (by omega)];omega
   have I:L.length<(T3 L ((C2 m).length+1)).length:=by omega
   by_cases y:L.length<(C2 n).length
   ·have i:decide ((L.length:Int)<(C2 n).length)=true:=D0y (by omega);have W:=K3 (Q1 n) y;have M:IntKind.u64.wrap (((C2 n)[L.length]:Nat):Int)=(((C2 n)[L.length]:Nat):Int):=A0Y (by omega) (by omega);obtain⟨s,hs⟩: ∃s,s=c+(C2 m)[L.length]+(C2 n)[L.length]:=⟨_,rfl⟩
    have O:IntKind.u64.wrap (((c+(C2 m)[L.length]:Nat):Int)+((C2 n)[L.length]:Nat))=(s:Int):=by rw[A0Y (by omega) (by omega)];omega
    have w5:IntKind.u32.wrap (s:Int)=((s % 4294967296:Nat):Int):=by rw[A68];omega
    have w6:(s:Int) / 4294967296=((s / 4294967296:Nat):Int):=by omega
    have e1:(Rw F5 (T3 L ((C2 m).length+1))).set L.length [.int .u32 ((s % 4294967296:Nat):Int)]=Rw F5 (T3 (L++[s % 4294967296]) ((C2 m).length+1)):=by rw[←l9 L _ _ (by omega)];exact Z5 _ _ _ _ rfl
    repeat' (first|with_reducible apply D0w|simp only[go_sem,seval,e,i,g,B3 _ _ d,C3 _ _ d,B3 _ _ y,C3 _ _ y,G,A,M,O,w5,w6,e1]|simp(disch:=omega) only[A5,B3,K3]|omega)
    refine C4 (L++[s % 4294967296],s / 4294967296) ⟨by simp only[D02,D04];omega,l8 x (by omega),by simp only[];omega,?_⟩ (by simp only[D02,D04];omega) (by(try simp only[go_sem,seval,D02,D04])<;>(try simp(disch:=omega) [A5])) (D2N _);simp only[D02,D04];rw[A1Z,H9 _ _ d,H9 _ _ y,hs,Nat.mul_add,Nat.mul_add];omega
   ·have i:decide ((L.length:Int)<(C2 n).length)=false:=D0z (by omega);obtain⟨s,hs⟩: ∃s,s=c+(C2 m)[L.length]:=⟨_,rfl⟩
    rw[←hs]at A;have w5:IntKind.u32.wrap (s:Int)=((s % 4294967296:Nat):Int):=by rw[A68];omega
    have w6:(s:Int) / 4294967296=((s / 4294967296:Nat):Int):=by omega
    have e1:(Rw F5 (T3 L ((C2 m).length+1))).set L.length [.int .u32 ((s % 4294967296:Nat):Int)]=Rw F5 (T3 (L++[s % 4294967296]) ((C2 m).length+1)):=by rw[←l9 L _ _ (by omega)];exact Z5 _ _ _ _ rfl
    repeat' (first|with_reducible apply D0w|simp only[go_sem,seval,e,i,g,B3 _ _ d,C3 _ _ d,G,A,w5,w6,e1]|simp(disch:=omega) only[A5,B3,K3]|omega)
    refine C4 (L++[s % 4294967296],s / 4294967296) ⟨by simp only[D02,D04];omega,l8 x (by omega),by simp only[];omega,?_⟩ (by simp only[D02,D04];omega) (by(try simp only[go_sem,seval,D02,D04])<;>(try simp(disch:=omega) [A5])) (D2N _);simp only[D02,D04];rw[D1B (l:=C2 n) (by omega)]at hv;rw[A1Z,H9 _ _ d,D1B (l:=C2 n) (by omega),hs,Nat.mul_add];omega
  ·have e:decide ((L.length:Int)<(C2 m).length)=false:=D0z (by omega);have j:L.length=(C2 m).length:=by omega
   have w5:IntKind.u32.wrap (c:Int)=((c:Nat):Int):=B9h (by omega) (by omega);have e1:(Rw F5 (T3 L ((C2 m).length+1))).set (C2 m).length [.int .u32 ((c:Nat):Int)]=Rw F5 (L++[c]):=by
    rw[←j,←A4X (L++[c]) (L.length+1) (by simp),←l9 L _ _ (by omega)];exact Z5 _ _ _ _ rfl
   have u:F2 (L++[c])=m+n:=by
    rw[y7,hv,D1B (by omega),D1B (by omega),L0,L0]
   repeat' (first|with_reducible apply D0w|simp only[go_sem,seval,e,g,w5,e1]|simp(disch:=omega) only[A5,B3,K3]|omega)
   refine A4c (L++[c]) C _ _ (by simp[j]) (by simp;omega) (A3 _ _) ?_;repeat' simp only[go_sem,seval]
   refine A2H (l:=L++[c]) (l8 x (show c<4294967296 by omega)) (by simp[j]) (A3 _ _) ?_;rw[u,E8 z];exact D2R h
theorem B6Y{Q}(m n:Nat)(O:n≤m)(hm:(C2 m).length≤100000)(H:Heap)(h:Q (Y2 (m-n)) H):E6 284 [Y2 m,Y2 n] H Q:=by
 refine B2 [] A8 Tryz.func284 rfl ?_;simp only[go_sem,seval,Tryz.results284];have T:(C2 n).length≤(C2 m).length:=by
  by_cases g:(C2 m).length<(C2 n).length
  ·have:=A0f g;omega
  ·omega
 repeat' (first|with_reducible apply D0w|intro o|omega)
 rename_i G;have z:=o;clear o;have q:List.replicate (C2 m).length [D.int .u32 0]=Rw F5 (T3 [] (C2 m).length):=by rw[A6M];exact A6J _ _ _ rfl
 rw[q];refine C8 [0,1,5,12] (fun(p:List Nat×Int)=>[(13,.int .i64 p.1.length),(6,.int .i64 p.2)]) (fun(p:List Nat×Int)=>H.set G (.vec 1 (Rw F5 (T3 p.1 (C2 m).length)))) (fun(p:List Nat×Int)=>p.1.length≤(C2 m).length∧Dig p.1∧(-1≤p.2∧p.2≤0)∧(F2 p.1:Int)+(4294967296:Int) ^ p.1.length*p.2=F2 ((C2 m).take p.1.length)-F2 ((C2 n).take p.1.length)) (fun(p:List Nat×Int)=>(C2 m).length-p.1.length) (([],0)) (⟨D1H _,by simp[Dig],by simp,by simp[F2]⟩) (by(try simp only[go_sem,seval])<;>(try simp(disch:=omega) [A5])) (by first|exact D2N _|exact A0 (by assumption)|exact B4 (by assumption)|simp only[Heap.Le,Heap.set,Heap.del]at* <;>grind) ?_;rintro X rfl ⟨L,c⟩ ⟨U,r,hc,hv⟩;simp only at U r hc hv;have u:=A6L L (C2 m).length (by omega);by_cases d:L.length<(C2 m).length
 ·have e:decide ((L.length:Int)<(C2 m).length)=true:=D0y (by omega);have Y:=K3 (Q1 m) d;have I:IntKind.i64.wrap (((C2 m)[L.length]:Nat):Int)=(((C2 m)[L.length]:Nat):Int):=A5 (by omega) (by omega);have A:IntKind.i64.wrap (c+((C2 m)[L.length]:Nat))=c+((C2 m)[L.length]:Nat):=A5 (by omega) (by omega);have J:(F2 ((C2 m).take (L.length+1)):Int)=F2 ((C2 m).take L.length)+(4294967296:Int) ^ L.length*((C2 m)[L.length]:Nat):=by
   rw[H9 _ _ d,Int.natCast_add,Int.natCast_mul,Int.natCast_pow];rfl
  by_cases y:L.length<(C2 n).length
  ·have i:decide ((L.length:Int)<(C2 n).length)=true:=D0y (by omega);have y1:=K3 (Q1 n) y;have V:IntKind.i64.wrap (((C2 n)[L.length]:Nat):Int)=(((C2 n)[L.length]:Nat):Int):=A5 (by omega) (by omega);have ty:(F2 ((C2 n).take (L.length+1)):Int)=F2 ((C2 n).take L.length)+(4294967296:Int) ^ L.length*((C2 n)[L.length]:Nat):=by
    rw[H9 _ _ y,Int.natCast_add,Int.natCast_mul,Int.natCast_pow];rfl
   obtain⟨s,hs⟩: ∃s,s=c+((C2 m)[L.length]:Nat)-((C2 n)[L.length]:Nat):=⟨_,rfl⟩
   have W:IntKind.i64.wrap (c+((C2 m)[L.length]:Nat)-((C2 n)[L.length]:Nat))=s:=by rw[A5 (by omega) (by omega)];omega
   have w5:IntKind.u32.wrap s=(((s % 4294967296).toNat:Nat):Int):=by rw[A68];omega
   have e1:(Rw F5 (T3 L (C2 m).length)).set L.length [.int .u32 (((s % 4294967296).toNat:Nat):Int)]=Rw F5 (T3 (L++[(s % 4294967296).toNat]) (C2 m).length):=by rw[←l9 L _ _ (by omega)];exact Z5 _ _ _ _ rfl
   repeat' (first|with_reducible apply D0w|simp only[go_sem,seval,e,i,u,B3 _ _ d,C3 _ _ d,B3 _ _ y,C3 _ _ y,I,A,V,W,w5,e1]|simp(disch:=omega) only[A5,B3,K3]|omega)
   refine C4 (L++[(s % 4294967296).toNat],s / 4294967296) ⟨by simp only[D02,D04];omega,l8 r (by omega),by simp only[];omega,?_⟩ (by simp only[D02,D04];omega) (by(try simp only[go_sem,seval,D02,D04])<;>(try simp(disch:=omega) [A5])) (D2N _);simp only[D02,D04];have:=A43 L s;rw[J,ty];rw[hs]at this⊢;rw[Int.mul_sub,Int.mul_add]at this;omega
  ·have i:decide ((L.length:Int)<(C2 n).length)=false:=D0z (by omega);obtain⟨s,hs⟩: ∃s,s=c+((C2 m)[L.length]:Nat):=⟨_,rfl⟩
   rw[←hs]at A;have w5:IntKind.u32.wrap s=(((s % 4294967296).toNat:Nat):Int):=by rw[A68];omega
   have e1:(Rw F5 (T3 L (C2 m).length)).set L.length [.int .u32 (((s % 4294967296).toNat:Nat):Int)]=Rw F5 (T3 (L++[(s % 4294967296).toNat]) (C2 m).length):=by rw[←l9 L _ _ (by omega)];exact Z5 _ _ _ _ rfl
   repeat' (first|with_reducible apply D0w|simp only[go_sem,seval,e,i,u,B3 _ _ d,C3 _ _ d,I,←hs,A,w5,e1]|simp(disch:=omega) only[A5,B3,K3]|omega)
   refine C4 (L++[(s % 4294967296).toNat],s / 4294967296) ⟨by simp only[D02,D04];omega,l8 r (by omega),by simp only[];omega,?_⟩ (by simp only[D02,D04];omega) (by(try simp only[go_sem,seval,D02,D04])<;>(try simp(disch:=omega) [A5])) (D2N _);simp only[D02,D04];have:=A43 L s;rw[D1B (l:=C2 n) (by omega)]at hv;rw[J,D1B (l:=C2 n) (by omega)];rw[hs]at this⊢;rw[Int.mul_add]at this;omega
 ·have e:decide ((L.length:Int)<(C2 m).length)=false:=D0z (by omega);have j:L.length=(C2 m).length:=by omega
  have e1:Rw F5 (T3 L (C2 m).length)=Rw F5 L:=by rw[A4X _ _ j]
  rw[D1B (by omega),D1B (by omega),L0,L0]at hv;have M:=A8f r;have x:F2 L=m-n:=by
   have hp:((4294967296 ^ L.length:Nat):Int)=(4294967296:Int) ^ L.length:=Int.natCast_pow _ _;have C:c=0∨c= -1:=by omega
   rcases C with rfl|rfl
   ·omega
   ·rw[←hp]at hv;omega
  repeat' simp only[go_sem,seval,e,e1]
  refine A4c L G _ _ (by simp[j]) (by omega) (A3 _ _) ?_;repeat' simp only[go_sem,seval]
  refine A2H (l:=L) r (by simp[j]) (A3 _ _) ?_;rw[x,E8 z];exact D2R h
set_option maxHeartbeats 1000000 in
theorem C3i{Q}(m n:Nat)(hm:(C2 m).length≤100000)(hn:(C2 n).length≤100000)(H:Heap)(h:Q (Y2 (m*n)) H):E6 280 [Y2 m,Y2 n] H Q:=by
 refine B2 [] A8 Tryz.func280 rfl ?_;simp only[go_sem,seval,Tryz.results280];repeat' (first|with_reducible apply D0w|simp(disch:=omega) only[A5,B3,K3]|intro A|omega)
 rename_i G;have I:=A;clear A;have C:List.replicate (((C2 m).length:Int)+(C2 n).length).toNat [D.int .u32 0]=Rw F5 (List.replicate ((C2 m).length+(C2 n).length) 0):=by rw[show (((C2 m).length:Int)+(C2 n).length).toNat=(C2 m).length+(C2 n).length by omega];exact A6J _ _ _ rfl
 rw[C];refine C8 [1,5,17,18] (fun(p:Nat×List Nat)=>[(19,.int .i64 p.1)]) (fun(p:Nat×List Nat)=>H.set G (.vec 1 (Rw F5 p.2))) (fun(p:Nat×List Nat)=>p.1≤(C2 m).length∧p.2.length=(C2 m).length+(C2 n).length∧Dig p.2∧F2 p.2=F2 ((C2 m).take p.1)*n∧∀(k:Nat) (hk:k<p.2.length),p.1+(C2 n).length≤k→p.2[k]=0) (fun(p:Nat×List Nat)=>(C2 m).length-p.1) ((0,List.replicate ((C2 m).length+(C2 n).length) 0)) (⟨D1H _,by simp,B4Z _,by simp[B12,F2],fun k hk _=>by simp⟩) (by(try simp only[go_sem,seval])<;>(try simp(disch:=omega) [A5])) (by first|exact D2N _|exact A0 (by assumption)|exact B4 (by assumption)|simp only[Heap.Le,Heap.set,Heap.del]at* <;>grind) ?_;rintro Ec rfl ⟨i,out⟩ ⟨O,o,e,d,g⟩;simp only at O o e d g;by_cases r:i<(C2 m).length
 ·have x:decide ((i:Int)<(C2 m).length)=true:=D0y (by omega);have T:=K3 (Q1 m) r;repeat' (first|with_reducible apply D0w|simp only[go_sem,seval,x,B3 _ _ r,C3 _ _ r]|omega)
  refine C8 [1,5,6,7,17,18,19,24,25] (fun(q:Nat×List Nat×Nat)=>[(26,.int .i64 q.1),(8,.int .u64 q.2.2)]) (fun(q:Nat×List Nat×Nat)=>H.set G (.vec 1 (Rw F5 q.2.1))) (fun(q:Nat×List Nat×Nat)=>q.1≤(C2 n).length∧q.2.1.length=(C2 m).length+(C2 n).length∧Dig q.2.1∧q.2.2<4294967296∧F2 q.2.1+4294967296 ^ (i+q.1)*q.2.2=F2 ((C2 m).take i)*n+4294967296 ^ i*(C2 m)[i]*F2 ((C2 n).take q.1)∧∀(k:Nat) (hk:k<q.2.1.length),i+(C2 n).length≤k→q.2.1[k]=0) (fun(q:Nat×List Nat×Nat)=>(C2 n).length-q.1) ((0,out,0)) (⟨D1H _,o,e,by simp,by simp[d,F2],g⟩) (by(try simp only[go_sem,seval])<;>(try simp(disch:=omega) [A5])) (by first|exact D2N _|exact A0 (by assumption)|exact B4 (by assumption)|simp only[Heap.Le,Heap.set,Heap.del]at* <;>grind) ?_;clear o e d g;rintro U rfl ⟨j,o2,c⟩ ⟨V,o,e,hc,d,g⟩;simp only at V o e hc d g;by_cases u:j<(C2 n).length
  ·have y:decide ((j:Int)<(C2 n).length)=true:=D0y (by omega);have W:=K3 (Q1 n) u;have hp:i+j<o2.length:=by omega
   have o1:=K3 e hp;obtain⟨s,hs⟩: ∃s,s=c+((C2 m)[i]*(C2 n)[j]+o2[i+j]):=⟨_,rfl⟩
   obtain⟨m1,m2⟩:=C3X T W o1 hc;have X:IntKind.u64.wrap (((C2 m)[i]:Nat):Int)=(((C2 m)[i]:Nat):Int):=A0Y (by omega) (by omega);have Y:IntKind.u64.wrap (((C2 n)[j]:Nat):Int)=(((C2 n)[j]:Nat):Int):=A0Y (by omega) (by omega);have w3:IntKind.u64.wrap ((o2[i+j]:Nat):Int)=((o2[i+j]:Nat):Int):=A0Y (by omega) (by omega);have w4:IntKind.u64.wrap ((((C2 m)[i]:Nat):Int)*(((C2 n)[j]:Nat):Int))=(((C2 m)[i]*(C2 n)[j]:Nat):Int):=by rw[←Int.natCast_mul];exact A0Y (by omega) (by omega)
   have w5:IntKind.u64.wrap ((((C2 m)[i]*(C2 n)[j]:Nat):Int)+((o2[i+j]:Nat):Int))=(((C2 m)[i]*(C2 n)[j]+o2[i+j]:Nat):Int):=by rw[←Int.natCast_add];exact A0Y (by omega) (by omega)
   have w6:IntKind.u64.wrap ((c:Int)+(((C2 m)[i]*(C2 n)[j]+o2[i+j]:Nat):Int))=(s:Int):=by rw[←Int.natCast_add,←hs];exact A0Y (by omega) (by omega)
   have J:IntKind.u32.wrap (s:Int)=((s % 4294967296:Nat):Int):=by rw[A68];omega
   have w8:(s:Int) / 4294967296=((s / 4294967296:Nat):Int):=by omega
   have L:(i:Int)+(j:Int)=((i+j:Nat):Int):=by omega
   have e1:(Rw F5 o2).set (i+j) [.int .u32 ((s % 4294967296:Nat):Int)]=Rw F5 (o2.set (i+j) (s % 4294967296)):=Z5 _ _ _ _ rfl;repeat' (first|with_reducible apply D0w|simp only[go_sem,seval,y,L,B3 _ _ r,C3 _ _ r,B3 _ _ u,C3 _ _ u,B3 _ _ hp,C3 _ _ hp,X,Y,w3,w4,w5,w6,J,w8,e1]|simp(disch:=omega) only[A5,B3,K3]|omega)
   refine C4 (j+1,o2.set (i+j) (s % 4294967296),s / 4294967296) ⟨by simp only[];omega,by simp only[D1t];omega,B3E e (by omega),by simp only[];omega,?_,fun k hk z=>?_⟩ (by simp only[];omega) (by(try simp only[go_sem,seval])<;>(try simp(disch:=omega) [A5])) (D2N _)
   ·simp only[];rw[H9 _ _ u,←Nat.add_assoc];exact B6G o2 (i+j) i j s _ _ c _ _ hp rfl d hs
   ·simp only[]at hk⊢;rw[List.getElem_set_ne (by omega)];exact g k (by simpa using hk) z
  ·have y:decide ((j:Int)<(C2 n).length)=false:=D0z (by omega);have M:j=(C2 n).length:=by omega
   subst M;have hp:i+(C2 n).length<o2.length:=by omega
   have L:(i:Int)+((C2 n).length:Int)=((i+(C2 n).length:Nat):Int):=by omega
   have J:IntKind.u32.wrap (c:Int)=(c:Int):=B9h (by omega) (by omega);have e1:(Rw F5 o2).set (i+(C2 n).length) [.int .u32 (c:Int)]=Rw F5 (o2.set (i+(C2 n).length) c):=Z5 _ _ _ _ rfl;repeat' (first|with_reducible apply D0w|simp only[go_sem,seval,y,L,B3 _ _ hp,C3 _ _ hp,J,e1]|simp(disch:=omega) only[A5,B3,K3]|omega)
   refine C4 (i+1,o2.set (i+(C2 n).length) c) ⟨by simp only[];omega,by simp only[D1t];omega,B3E e hc,?_,fun k hk z=>?_⟩ (by simp only[];omega) (by(try simp only[go_sem,seval])<;>(try simp(disch:=omega) [A5])) (D2N _)
   ·simp only[];rw[D1B (l:=C2 n) (by omega),L0]at d;rw[B9a o2 _ c _ _ hp (g _ hp (by omega)) d,H9 _ _ r,Nat.add_mul]
   ·simp only[]at hk z⊢;rw[List.getElem_set_ne (by omega)];exact g k (by simpa using hk) (by omega)
 ·have x:decide ((i:Int)<(C2 m).length)=false:=D0z (by omega);rw[D1B (by omega),L0]at d;repeat' simp only[go_sem,seval,x]
  refine A4c out G _ _ (by rw[o];omega) (by omega) (A3 _ _) ?_;repeat' simp only[go_sem,seval]
  refine A2H (l:=out) e (by rw[o];omega) (A3 _ _) ?_;rw[d,E8 I];exact D2R h
theorem C9S{q:Nat}(h:q<18446744073709551616):IntKind.u64.wrap (q:Int)=q:=A0Y (by omega) (by omega)
theorem C9T{q:Nat}(h:q<4294967296):IntKind.u32.wrap (q:Int)=q:=B9h (by omega) (by omega)
theorem B6Z{Q}(m n:Nat)(hm:(C2 m).length≤100000)(h0:n≠0)(hn:n<4294967296)(H:Heap)(h:Q (.tuple [Y2 (m / n),Y2 (m % n)]) H):E6 278 [Y2 m,Y2 n] H Q:=by
 refine B2 [(26,.par)] A8 Tryz.func278 rfl ?_;simp only[go_sem,seval,Tryz.results278];have y:C2 n= [n]:=A3g hn h0;have a0:(C2 n).length=1:=by rw[y];rfl
 have z:0<(C2 n).length:=by omega
 have hg:(C2 n)[0]=n:=by simp[y]
 by_cases o:m<n
 ·repeat' (first|with_reducible apply D0w|simp only[go_sem,seval]|simp(disch:=omega) only[A5,B3,K3]|intro q|omega)
  refine B6W m n (by omega) (by omega) _ fun c hc=>?_;have u:decide (c<0)=true:=D0y (hc.1.2 o);repeat' simp only[go_sem,seval,u]
  rw[Nat.div_eq_of_lt o,D1x o]at h;refine Fin.nilsl 1 _ ?_;exact D2R (by rw[show Y2 0= .sl 1 []by rw[C3d,J9];rfl]at h;exact h)
 ·repeat' (first|with_reducible apply D0w|simp only[go_sem,seval]|simp(disch:=omega) only[A5,B3,K3]|intro q|omega)
  refine B6W m n (by omega) (by omega) _ fun c hc=>?_;have u:decide (c<0)=false:=D0z (fun g=>o (hc.1.1 g));have A:((C2 n).length:Int)=1:=by omega
  repeat' (first|with_reducible apply D0w|simp only[go_sem,seval,u,A]|simp(disch:=omega) only[A5,B3,K3]|intro q|omega)
  rename_i J;have M:=q;clear q;have C:List.replicate (C2 m).length [D.int .u32 0]=Rw F5 (A3h [] (C2 m).length):=by rw[B6E];exact A6J _ _ _ rfl
  rw[C];refine C8 [0,1,6] (fun(p:Nat×List Nat×Nat)=>[(8,.int .i64 ((p.1:Int)-1)),(7,.int .u64 p.2.2)]) (fun(p:Nat×List Nat×Nat)=>H.set J (.vec 1 (Rw F5 (A3h p.2.1 (C2 m).length)))) (fun(p:Nat×List Nat×Nat)=>p.2.1.length+p.1=(C2 m).length∧Dig p.2.1∧p.2.2<n∧F2 p.2.1*n+p.2.2=F2 ((C2 m).drop p.1)) (fun(p:Nat×List Nat×Nat)=>p.1) (((C2 m).length,[],0)) (⟨by simp,by simp[Dig],by simp only[];omega,by simp[F2]⟩) (by(try simp only[go_sem,seval])<;>(try simp(disch:=omega) [A5])) (by first|exact D2N _|exact A0 (by assumption)|exact B4 (by assumption)|simp only[Heap.Le,Heap.set,Heap.del]at* <;>grind) ?_;rintro Ec rfl ⟨k,L,r⟩ ⟨hk,O,hr,hv⟩;simp only at hk O hr hv;have T:=B6C L (C2 m).length (by omega);by_cases a4:0<k
  ·obtain⟨j,rfl⟩: ∃j,k=j+1:=⟨k-1,by omega⟩
   have I:j<(C2 m).length:=by omega
   have ek:(((j+1:Nat):Int)-1)=(j:Int):=by omega
   have U:decide ((0:Int)≤(j:Int))=true:=D0y (by omega);have x1:=K3 (Q1 m) I;have w1:IntKind.u64.wrap (((C2 m)[j]:Nat):Int)=(((C2 m)[j]:Nat):Int):=A0Y (by omega) (by omega);have w2:IntKind.u64.wrap ((r:Int)*4294967296)=(r:Int)*4294967296:=A0Y (by omega) (by omega);have X:=C3f (r:=r) (x:=(C2 m)[j]) (by omega) x1;obtain⟨s,hs⟩: ∃s,s=r*4294967296+(C2 m)[j]:=⟨_,rfl⟩
   rw[←hs]at X;have G:s / n<4294967296:=by
    rw[Nat.div_lt_iff_lt_mul (by omega)];have:=Nat.mul_le_mul_left 4294967296 (show r+1≤n by omega);omega
   have w4:IntKind.u64.wrap ((n:Nat):Int)=(n:Int):=A0Y (by omega) (by omega);have V:s<18446744073709551616:=by omega
   have w5:IntKind.u64.wrap ((s:Int).tdiv (n:Int))=((s / n:Nat):Int):=by rw[←Int.ofNat_tdiv];exact C9S (Nat.lt_of_le_of_lt (Nat.div_le_self s n) V)
   have w6:IntKind.u32.wrap ((s / n:Nat):Int)=((s / n:Nat):Int):=C9T G;have w7:(s:Int).tmod (n:Int)=((s % n:Nat):Int):=(Int.ofNat_tmod s n).symm;have nz: ¬((n:Int)=0):=by omega
   have e1:(Rw F5 (A3h L (C2 m).length)).set j [.int .u32 ((s / n:Nat):Int)]=Rw F5 (A3h ((s / n)::L) (C2 m).length):=by rw[←B6D L _ _ j (by omega)];exact Z5 _ _ _ _ rfl
   repeat' (first|with_reducible apply D0w|simp only[go_sem,seval,ek,U,T,B3 _ _ I,C3 _ _ I,B3 _ _ z,C3 _ _ z,hg,w1,w2,X,w4,w5,w6,w7,nz,e1]|simp(disch:=omega) only[A5,B3,K3]|omega)
   refine C4 (j,s / n::L,s % n) ⟨by simp only[D01];omega,fun x hx=>?_,Nat.mod_lt _ (by omega),?_⟩ (by simp only[];omega) (by simp only[go_sem,seval]) (D2N _)
   ·rcases D1O.1 hx with rfl|g
    ·exact G
    ·exact O x g
   ·simp only[F2];rw[A2e _ _ I,hs];exact B6F (by omega) hv
  ·have e:k=0:=by omega
   subst e;have U:decide ((0:Int)≤(((0:Nat):Int)-1))=false:=by decide
   rw[List.drop_zero,L0]at hv;obtain⟨q1,q2⟩:=B9Z hr hv;have e1:A3h L (C2 m).length=L:=B4a _ _ (by omega);repeat' simp only[go_sem,seval,U,e1]
   refine A4c L J _ _ (by omega) (by omega) (A3 _ _) ?_;repeat' simp only[go_sem,seval]
   refine C3h r (by omega) _ ?_;repeat' simp only[go_sem,seval]
   refine Fin.freeze (b:=J) (A3 _ _) (.tuple _ [.sl 1 (((Rw F5 L).drop 0).take (A0M L (C2 m).length)),Y2 r] rfl fun i d d' W Y=>?_) ?_
   ·match i with
    |0=>cases W;cases Y;exact .vec 0 _ (by rw[Nat.zero_add,D6];have:=B0J L (C2 m).length;omega)
    |1=>cases W;cases Y;exact .same _
    |i+2=>cases W
   ·have e2:L.take (A0M L (C2 m).length)=C2 (F2 L):=by have:=B0K O;rwa [show L.length=(C2 m).length by omega]at this
    rw[List.drop_zero,A2d,e2,←q1,←q2,E8 M];exact D2R h
theorem C3j{Q}(m n:Nat)(hm:(C2 m).length≤100000)(hn:n<4294967296)(H:Heap)(h:Q (Y2 (Nat.gcd m n)) H):E6 277 [Y2 m,Y2 n] H Q:=by
 refine B2 [] A8 Tryz.func277 rfl ?_;simp only[go_sem,seval,Tryz.results277];repeat' (first|with_reducible apply D0w|simp only[go_sem,seval]|intro q|omega)
 refine C8 [] (fun(p:Nat×Nat)=>[(0,Y2 p.1),(1,Y2 p.2)]) (fun(p:Nat×Nat)=>H) (fun(p:Nat×Nat)=>(C2 p.1).length≤100000∧p.2<4294967296∧Nat.gcd p.1 p.2=Nat.gcd m n) (fun(p:Nat×Nat)=>p.2) ((m,n)) (⟨hm,hn,rfl⟩) (by simp only[go_sem,seval]) (by first|exact D2N _|exact A0 (by assumption)|exact B4 (by assumption)|simp only[Heap.Le,Heap.set,Heap.del]at* <;>grind) ?_;rintro r rfl ⟨a,b⟩ ⟨o,hb,i⟩;simp only at o hb i;by_cases d:b=0
 ·subst d;have hl:(C2 0).length=0:=by rw[J9];rfl
  have j:decide ((0:Int)<((C2 0).length:Int))=false:=by rw[hl];rfl
  repeat' simp only[go_sem,seval,j]
  rw[Nat.gcd_zero_right]at i;rw[←i]at h;exact D2R h
 ·have hl:(C2 b).length≠0:=fun e=>d ((I8 b).1 e);have j:decide ((0:Int)<((C2 b).length:Int))=true:=D0y (by omega);repeat' simp only[go_sem,seval,j]
  refine B6Z a b o d hb _ ?_;repeat' simp only[go_sem,seval]
  have g:=Nat.mod_lt a (Nat.pos_of_ne_zero d);exact C4 (b,a % b) ⟨by simp only[];exact D12 (B0L b 1 (by simpa using hb)) (by decide),by simp only[];omega,by simp only[];rw[←i,Nat.gcd_comm a b,Nat.gcd_rec b a,Nat.gcd_comm]⟩ (by simp only[];exact g) (by simp only[go_sem,seval]) (D2N _)
end Go.Proofs.YtibphjonmikciaaGreatDoor
namespace Go.Lin
open Go Go.Av
abbrev Sz(n:Int):Prop:=(C2 n.natAbs).length≤100000
theorem B0Y{n:Int}{k:Nat}(h:n.natAbs<4294967296 ^ k)(hk:k≤100000):Sz n:=D12 (B0L _ k h) hk
theorem I0{n:Int}(h:n.natAbs<340282366920938463463374607431768211456):Sz n:=B0Y (k:=4) (by simpa using h) (by decide)
theorem A8p(n:Int):decide ((0:Int)<((C2 n.natAbs).length:Int))=decide (n≠0):=by
 apply D1Z.2;have:=I8 n.natAbs;omega
theorem A6U(k:Nat):C6 (k:Int)= [.bool false,.sl 1 (Rw F5 (C2 k))]:=by
 unfold C6;rw[D0z (by omega),Int.natAbs_natCast]
theorem X4(n:Int)(k:Nat)(b:Bool)(h1:n.natAbs=k)(d:b=decide (n<0)): [D.bool b,.sl 1 (Rw F5 (C2 k))]=C6 n:=by subst h1;subst d;rfl
theorem A7d(n:Int)(k:Nat)(h:n=(k:Int)): [D.bool false,.sl 1 (Rw F5 (C2 k))]=C6 n:=by subst h;exact(A6U k).symm
theorem A7e(n:Int)(k:Nat)(h:n= -(k:Int)): [D.bool (decide (-(k:Int)<0)),.sl 1 (Rw F5 (C2 k))]=C6 n:=by subst h;exact X4 _ k _ (by omega) rfl
theorem B6a{a b:Int}(h:decide (a<0)=decide (b<0)):decide (a*b<0)=false:=by
 apply D0z;have h:=D1Z.1 h;by_cases d:a<0
 ·have:=Int.mul_pos_of_neg_of_neg d (h.1 d);omega
 ·have:=Int.mul_nonneg (show 0≤a by omega) (show 0≤b by have:=mt h.2 d;omega);omega
theorem B6b{a b:Int}(h: ¬decide (a<0)=decide (b<0)):decide ((0:Int)<((C2 (a.natAbs*b.natAbs)).length:Int))=decide (a*b<0):=by
 rw[←Int.natAbs_mul,A8p];apply D1Z.2;constructor
 ·intro g;have a1:a≠0:=by rintro rfl;exact g (Int.zero_mul _)
  have i:b≠0:=by rintro rfl;exact g (Int.mul_zero _)
  by_cases e:a<0
  ·have d: ¬b<0:=fun d=>h (by rw[D0y e,D0y d]);exact Int.mul_neg_of_neg_of_pos e (by omega)
  ·have d:b<0:=by
    by_cases d:b<0
    ·exact d
    ·exact absurd (by rw[D0z e,D0z d]) h
   exact Int.mul_neg_of_pos_of_neg (by omega) d
 ·omega
theorem B0Z(a b:Int)(d:b≠0):a.fdiv b=(if b<0 then-a else a) / (b.natAbs:Int):=by
 by_cases hb:b<0
 ·rw[if_pos hb,←Int.neg_fdiv_neg,Int.fdiv_eq_ediv_of_nonneg _ (by omega)]
  congr 1;omega
 ·rw[if_neg hb,Int.fdiv_eq_ediv_of_nonneg _ (by omega)]
  congr 1;omega
theorem A2i(a b:Int)(d:b≠0)(h:decide (a<0)=decide (b<0)∨a=0):a.fdiv b=((a.natAbs / b.natAbs:Nat):Int):=by
 rw[B0Z a b d,Int.natCast_ediv]
 congr 1
 rcases h with h|h
 ·have h:=D1Z.1 h;split<;>omega
 ·subst h;split<;>simp
theorem B3L{a b q r:Int}(hb:0<b)(h:r+b*q=a)(h1:0≤r)(d:r<b):a / b=q:=((Int.ediv_emod_unique hb).2 ⟨h,h1,d⟩).1
theorem B3M(k:Nat):decide ((0:Int)<((C2 k).length:Int))=decide (-(k:Int)<0):=by
 apply D1Z.2;have:=I8 k;omega
theorem A4d(a b:Int)(j:b≠0)(m:a≠0)(h: ¬decide (a<0)=decide (b<0)):a.fdiv b=if a.natAbs % b.natAbs=0 then-((a.natAbs / b.natAbs:Nat):Int)else-((a.natAbs / b.natAbs+1:Nat):Int):=by
 have hs:(if b<0 then-a else a)= -(a.natAbs:Int):=by
  have h: ¬(a<0↔b<0):=fun g=>h (D1Z.2 g);split
  ·rename_i hb;have: ¬a<0:=fun g=>h ⟨fun _=>hb,fun _=>g⟩;omega
  ·rename_i hb;by_cases g:a<0
   ·omega
   ·exact absurd ⟨fun q=>absurd q g,fun q=>absurd q hb⟩ h
 rw[B0Z a b j,hs];have hb:(0:Int)<(b.natAbs:Int):=by omega
 have e:=Nat.div_add_mod a.natAbs b.natAbs;have d:(a.natAbs:Int)=(b.natAbs:Int)*((a.natAbs / b.natAbs:Nat):Int)+((a.natAbs % b.natAbs:Nat):Int):=by rw[←Int.natCast_mul,←Int.natCast_add,e]
 have hm:=Nat.mod_lt a.natAbs (show 0<b.natAbs by omega);split
 ·rename_i i;refine(B3L hb (r:=0) ?_ (by omega) hb).symm ▸ rfl;rw[i]at d;rw[d,Int.mul_neg];simp
 ·rename_i i;refine(B3L hb (r:=(b.natAbs:Int)-((a.natAbs % b.natAbs:Nat):Int)) ?_ (by omega) (by omega)).symm ▸ rfl;rw[d,Int.natCast_add,Int.mul_neg,Int.mul_add];omega
theorem A8q:NilR (.agg [.bool false,.nilsl]) (.agg (C6 0)):=by
 have e:C6 0= [.bool false,.sl 1 []]:=by
  unfold C6;rw[show (0:Int).natAbs=0 from rfl,J9];rfl
 rw[e];refine .agg _ _ rfl fun i d d' h1 g=>?_
 match i with
 |0=>cases h1;cases g;exact .same _
 |1=>cases h1;cases g;exact .nil _
 |i+2=>cases h1
end Go.Lin
namespace Go.Proofs.YtibphjonmikciaaGreatDoor
open Go Go.Av Go.Lin
attribute [local irreducible] ACalls S3
theorem L8{Q}(n:Int)(H:Heap)(h:Q (.int .i64 n.sign) H):E6 245 [.agg (C6 n)] H Q:=by
 refine B2 [] A8 Tryz.func245 rfl ?_;simp only[go_sem,seval,Tryz.results245];intro g d;have e1:=A3 (H:=H) g (.box (C6 n));simp only[C3e]at e1;by_cases i:n=0
 ·have e:(C2 n.natAbs).length=0:=(I8 _).2 (by omega);repeat' (first|with_reducible apply D0w|simp only[go_sem,seval,e1,e]|intro j|omega)
  rw[i]at h;exact D2O (A0 d) h
 ·have e: ¬(((C2 n.natAbs).length:Int)=0):=by have:=I8 n.natAbs;omega
  by_cases hn:n<0
  ·repeat' (first|with_reducible apply D0w|simp only[go_sem,seval,e1,e,hn,decide_true,decide_false])
   rw[Int.sign_eq_neg_one_of_neg hn]at h;exact D2O (A0 d) h
  ·repeat' (first|with_reducible apply D0w|simp only[go_sem,seval,e1,e,hn,decide_true,decide_false])
   rw[Int.sign_eq_one_of_pos (by omega)]at h;exact D2O (A0 d) h
theorem B6c{Q}(n:Int)(H:Heap)(h:Q (.agg (C6 n.natAbs)) H):E6 254 [.agg (C6 n)] H Q:=by
 refine B2 [] A8 Tryz.func254 rfl ?_;simp only[go_sem,seval,Tryz.results254];rw[A6U]at h;repeat' (first|simp only[go_sem,seval]|simp(disch:=first|omega|grind) only[B9]|(intro d;try simp only[A6]at d))
 exact D2O (by simp only[E3,D1,D2]at* <;>grind) h
theorem A4e{Q}(n:Int)(H:Heap)(h:Q (.agg (C6 (-n))) H):E6 259 [.agg (C6 n)] H Q:=by
 refine B2 [] A8 Tryz.func259 rfl ?_;simp only[go_sem,seval,Tryz.results259];by_cases hn:n<0
 ·rw[←X4 (-n) n.natAbs false (by omega) (by rw[D0z (by omega)])]at h;repeat' (first|simp only[go_sem,seval,hn,decide_true]|simp(disch:=first|omega|grind) only[B9]|(intro d;try simp only[A6]at d))
  all_goals exact D2O (by simp only[E3,D1,D2]at* <;>grind) h
 ·by_cases g:n=0
  ·have e:((C2 n.natAbs).length:Int)=0:=by have:=I8 n.natAbs;omega
   rw[←X4 (-n) n.natAbs false (by omega) (by rw[D0z (by omega)])]at h;repeat' (first|simp only[go_sem,seval,hn,decide_false,e]|simp(disch:=first|omega|grind) only[B9]|(intro d;try simp only[A6]at d))
   all_goals exact D2O (by simp only[E3,D1,D2]at* <;>grind) h
  ·have e:(0:Int)<((C2 n.natAbs).length:Int):=by have:=I8 n.natAbs;omega
   rw[←X4 (-n) n.natAbs true (by omega) (by rw[D0y (by omega)])]at h;repeat' (first|simp only[go_sem,seval,hn,decide_false,e,decide_true]|simp(disch:=first|omega|grind) only[B9]|(intro d;try simp only[A6]at d))
   all_goals exact D2O (by simp only[E3,D1,D2]at* <;>grind) h
theorem B0a{Q}(n:Int)(H:Heap)(h:Q (.bool (decide (n.natAbs=1))) H):E6 246 [.agg (C6 n)] H Q:=by
 refine B2 [] A8 Tryz.func246 rfl ?_;simp only[go_sem,seval,Tryz.results246];by_cases hl:(C2 n.natAbs).length=1
 ·have i:((C2 n.natAbs).length:Int)=1:=by omega
  have j:0<(C2 n.natAbs).length:=by omega
  have hv:=L0 n.natAbs;obtain⟨d,o⟩:=List.length_eq_one_iff.1 hl;have p:(C2 n.natAbs)[0]=d:=by simp[o]
  rw[o]at hv;simp only[F2,Nat.mul_zero,Nat.add_zero]at hv;have e:decide (n.natAbs=1)=decide ((d:Int)=1):=D1Z.2 (by omega);rw[e]at h;repeat' (first|simp only[go_sem,seval,i,B3 _ _ j,C3 _ _ j,p]|intro m)
  all_goals (first|exact D2O (by simp only[E3,D1,D2]at* <;>grind) h|(refine D2O (H':=H) (by simp only[E3,D1,D2]at* <;>grind) ?_;simp_all))
 ·have i: ¬(((C2 n.natAbs).length:Int)=1):=by omega
  have e:decide (n.natAbs=1)=false:=D0z (fun g=>hl (by rw[g,A3g (by decide) (by decide)];rfl));rw[e]at h;repeat' (first|simp only[go_sem,seval,i,decide_false]|intro m)
  all_goals exact D2O (by simp only[E3,D1,D2]at* <;>grind) h
theorem T6{Q}(a b:Int)(g:Sz a)(hb:Sz b)(H:Heap)(h:Q (.agg (C6 (a*b))) H):E6 248 [.agg (C6 a),.agg (C6 b)] H Q:=by
 refine B2 [] A8 Tryz.func248 rfl ?_;simp only[go_sem,seval,Tryz.results248];have d:(a*b).natAbs=a.natAbs*b.natAbs:=Int.natAbs_mul a b;repeat' (first|with_reducible apply D0w|simp only[go_sem,seval]|simp(disch:=first|omega|grind) only[B9]|(intro e;try simp only[A6]at e)|with_reducible refine C3i _ _ g hb _ ?_)
 ·rw[X4 (a*b) _ _ d (B6b (by assumption))];exact D2O (by simp only[E3,D1,D2]at* <;>grind) h
 ·rw[X4 (a*b) _ _ d (B6a (by assumption)).symm];exact D2O (by simp only[E3,D1,D2]at* <;>grind) h
theorem A3r{Q}(a b:Int)(m:Sz a)(g:b≠0)(hb:b.natAbs<4294967296)(H:Heap)(h:Q (.agg (C6 (a.fdiv b))) H):E6 247 [.agg (C6 a),.agg (C6 b)] H Q:=by
 refine B2 [] A8 Tryz.func247 rfl ?_;simp only[go_sem,seval,Tryz.results247];repeat' (first|with_reducible apply D0w|simp only[go_sem,seval]|simp(disch:=first|omega|grind) only[B9,E5]|(intro i;try simp only[A6]at i)|with_reducible refine B6Z _ _ m (by omega) hb _ ?_)
 ·have d:a=0:=by have:=I8 a.natAbs;omega
  rw[A7d (a.fdiv b) _ (A2i a b g (.inr d))];exact D2O (by simp only[E3,D1,D2]at* <;>grind) h
 ·have d:a≠0:=by have:=I8 a.natAbs;omega
  have hr: ¬a.natAbs % b.natAbs=0:=by have:=I8 (a.natAbs % b.natAbs);omega
  have e:=A4d a b g d (by assumption);rw[if_neg hr]at e;have h1:Rw F5 (C2 1)= [[D.int .u32 1]]:=by rw[A3g (by decide) (by decide)];rfl
  refine A0o (es:=Rw F5 (C2 1)) (by rw[h1];exact A3 _ _) (by rw[h1];rfl) ?_;have j:(C2 (a.natAbs / b.natAbs)).length≤100000:=D12 (B4Y (Nat.div_le_self _ _)) m;refine B6X _ 1 j (by rw[A3g (by decide) (by decide)];decide) _ ?_;repeat' (first|simp only[go_sem,seval]|simp(disch:=first|omega|grind) only[B9,E5])
  rw[B3M,A7e (a.fdiv b) _ e];exact D2O (by simp only[E3,D1,D2]at* <;>grind) h
 ·have d:a≠0:=by have:=I8 a.natAbs;omega
  have hr:a.natAbs % b.natAbs=0:=by have:=I8 (a.natAbs % b.natAbs);omega
  have e:=A4d a b g d (by assumption);rw[if_pos hr]at e;rw[B3M,A7e (a.fdiv b) _ e];exact D2O (by simp only[E3,D1,D2]at* <;>grind) h
 ·rw[A7d (a.fdiv b) _ (A2i a b g (.inl (by assumption)))];exact D2O (by simp only[E3,D1,D2]at* <;>grind) h
theorem A0g{Q}(a b:Int)(u:Sz a)(hb:Sz b)(H:Heap)(h:Q (.agg (C6 (a+b))) H):E6 255 [.agg (C6 a),.agg (C6 b)] H Q:=by
 refine B2 [(2,.par),(7,.par),(8,.par)] A8 Tryz.func255 rfl ?_;simp only[go_sem,seval,Tryz.results255];intro e y j m L d;simp only[A6]at m d;have p:e∈[e,j]:=by simp
 have q:j∈[e,j]:=by simp
 have z:=d.2.1.symm;have A:=d.1.symm;have C:=m.1.symm;by_cases hs:decide (a<0)=decide (b<0)
 ·have G:=D1Z.1 hs;repeat' (first|simp only[go_sem,seval,hs,beq_self_eq_true]|simp(disch:=first|omega|grind) only[B9])
  refine F4 (fun i=>if i=6 then Y2 (a.natAbs+b.natAbs)else .undef) [e,j] ?_;repeat' (first|with_reducible apply D0w|simp only[go_sem,seval,p,q]|simp(disch:=first|omega|grind) only[B9]|with_reducible refine P8 (fun H' Q hro hq=>B6X _ _ u hb H' hq) ?_)
  rw[X4 (a+b) _ _ (by omega) (by apply D1Z.2;omega)];exact D2O (by simp only[E3,D1,D2]at* <;>grind) h
 ·have G: ¬(a<0↔b<0):=fun g=>hs (D1Z.2 g);have r:(decide (a<0)==decide (b<0))=false:=by rw[beq_eq_false_iff_ne];exact hs
  repeat' (first|simp only[go_sem,seval,r]|simp(disch:=first|omega|grind) only[B9])
  refine B6W _ _ (by omega) (by omega) _ fun c hc=>?_;have M:=hc.1;have I:=hc.2;by_cases o:c=0
  ·have J:a+b=0:=by have:=I.1 o;omega
   repeat' simp only[go_sem,seval,o]
   rw[J]at h;exact D9 A8q (D2O (by simp only[E3,D1,D2]at* <;>grind) h)
  ·by_cases x:0<c
   ·have hsz:b.natAbs≤a.natAbs:=by omega
    repeat' simp only[go_sem,seval,o,x,decide_true,decide_false]
    refine F4 (fun i=>if i=6 then Y2 (a.natAbs-b.natAbs)else .undef) [e,j] ?_;repeat' (first|with_reducible apply D0w|simp only[go_sem,seval,p,q]|simp(disch:=first|omega|grind) only[B9]|with_reducible refine P8 (fun H' Q hro hq=>B6Y _ _ hsz u H' hq) ?_)
    rw[X4 (a+b) _ _ (by omega) (by apply D1Z.2;omega)];exact D2O (by simp only[E3,D1,D2]at* <;>grind) h
   ·have hsz:a.natAbs≤b.natAbs:=by omega
    repeat' simp only[go_sem,seval,o,x,decide_true,decide_false]
    refine F4 (fun i=>if i=6 then Y2 (b.natAbs-a.natAbs)else .undef) [e,j] ?_;repeat' (first|with_reducible apply D0w|simp only[go_sem,seval,p,q]|simp(disch:=first|omega|grind) only[B9]|with_reducible refine P8 (fun H' Q hro hq=>B6Y _ _ hsz hb H' hq) ?_)
    rw[X4 (a+b) _ _ (by omega) (by apply D1Z.2;omega)];exact D2O (by simp only[E3,D1,D2]at* <;>grind) h
theorem A0P{Q}(a b:Int)(p:Sz a)(hb:Sz b)(H:Heap)(h:Q (.agg (C6 (a-b))) H):E6 249 [.agg (C6 a),.agg (C6 b)] H Q:=by
 refine B2 [(1,.par)] A8 Tryz.func249 rfl ?_;simp only[go_sem,seval,Tryz.results249];intro j q m g A d;simp only[A6]at g d;have r:j∈[j,m]:=by simp
 have u:m∈[j,m]:=by simp
 have x:=d.2.1.symm;have y:=d.1.symm;have z:=g.1.symm;have o:Sz (-b):=by unfold Sz;rw[Int.natAbs_neg];exact hb
 have e:a+ -b=a-b:=by omega
 rw[←e]at h;refine F4 (fun i=>if i=2 then .agg (C6 (-b))else if i=3 then .agg (C6 (a+ -b))else .undef) [j,m] ?_;repeat' (first|with_reducible apply D0w|simp only[go_sem,seval,r,u]|simp(disch:=first|omega|grind) only[B9]|with_reducible refine P8 (fun H' Q hro hq=>A4e b H' hq) ?_|with_reducible refine P8 (fun H' Q hro hq=>A0g a (-b) p o H' hq) ?_)
 exact D2O (by simp only[E3,D1,D2]at* <;>grind) h
theorem B3N{Q}(a b:Int)(g:Sz a)(hb:Sz b)(H:Heap)(h:Q (.bool (decide (a<b))) H):E6 262 [.agg (C6 a),.agg (C6 b)] H Q:=by
 refine B2 [] A8 Tryz.func262 rfl ?_;simp only[go_sem,seval,Tryz.results262];have e:decide (a<b)=decide ((a-b).sign<0):=by
  apply D1Z.2;rw[Int.sign_neg_iff];omega
 rw[e]at h;repeat' (first|simp only[go_sem,seval]|simp(disch:=first|omega|grind) only[B9]|(intro d;try simp only[A6]at d)|with_reducible refine A0P a b g hb _ ?_|with_reducible refine L8 (a-b) _ ?_)
 exact D2O (by simp only[E3,D1,D2]at* <;>grind) h
theorem B6d{Q}(a b:Int)(e:Sz a)(hb:b.natAbs<4294967296)(H:Heap)(h:Q (.agg (C6 (Nat.gcd a.natAbs b.natAbs))) H):E6 244 [.agg (C6 a),.agg (C6 b)] H Q:=by
 refine B2 [] A8 Tryz.func244 rfl ?_;simp only[go_sem,seval,Tryz.results244];rw[A6U]at h;repeat' (first|simp only[go_sem,seval]|simp(disch:=first|omega|grind) only[B9]|(intro d;try simp only[A6]at d)|with_reducible refine C3j _ _ e hb _ ?_)
 exact D2O (by simp only[E3,D1,D2]at* <;>grind) h
theorem y0{Q}(n:Int)(i: -9223372036854775808≤n)(h1:n≤9223372036854775807)(H:Heap)(h:Q (.agg (C6 n)) H):E6 228 [.int .i64 n] H Q:=by
 refine B2 [] A8 Tryz.func228 rfl ?_;simp only[go_sem,seval,Tryz.results228];by_cases hn:n<0
 ·have d:IntKind.u64.wrap n=n+18446744073709551616:=by rw[IntKind.wrap];simp only[IntKind.signed,IntKind.bits];simp;omega
  have g:IntKind.u64.wrap (0-(n+18446744073709551616))=(n.natAbs:Int):=by rw[IntKind.wrap];simp only[IntKind.signed,IntKind.bits];simp;omega
  rw[←X4 n n.natAbs true rfl (by rw[D0y hn])]at h;repeat' (first|simp only[go_sem,seval,hn,decide_true,d,g]|intro e|with_reducible refine C3h n.natAbs (by omega) _ ?_)
  exact D2O (by simp only[E3,D1,D2]at* <;>grind) h
 ·have d:IntKind.u64.wrap n=(n.natAbs:Int):=by rw[A0Y (by omega) (by omega)];omega
  rw[←X4 n n.natAbs false rfl (by rw[D0z hn])]at h;repeat' (first|simp only[go_sem,seval,hn,decide_false,d]|intro e|with_reducible refine C3h n.natAbs (by omega) _ ?_)
  exact D2O (by simp only[E3,D1,D2]at* <;>grind) h
end Go.Proofs.YtibphjonmikciaaGreatDoor
namespace Go.Av
theorem A1D{H u:Heap}{E z:Env}{c m sz s n:Nat}{rest:List D}{es X:List (List D)}(A:Av.Sub z E)(hn:n=es.length)(hc:u c=some (.vec s (X++[.vec m sz 0 n::rest])))(hm:u m=some (.vec sz es))(x:m≠c)
  (C: ∀k o,k≠c→H k=some o→k≠m∧u k=some o):A1A z (H.set c (.vec s (X++[.sl sz es::rest]))) E u:=by
 refine A18 hm (B16 A) (fun k o' ho=>?_);unfold Heap.set at ho;by_cases hk:k=c
 ·subst hk;rw[if_pos rfl]at ho;cases ho;refine⟨Ne.symm x,_,hc,.vec _ _ _ (by simp) fun i y J g e=>?_⟩;by_cases G:i<X.length
  ·rw[D1q G]at g e;rw[g]at e;cases e;exact⟨rfl,fun j d d' p h=>by rw[p]at h;cases h;exact .same _⟩
  ·rw[D1r (by omega)]at g e;by_cases r:i-X.length=0
   ·rw[r]at g e;cases g;cases e;refine⟨by simp,fun j d d' p h=>?_⟩;cases j with
    |zero=>cases p;cases h;rw[hn];exact .all
    |succ j=>
     rw[D1S]at p h;rw[p]at h;cases h;exact .same _
   ·obtain⟨q,hq⟩: ∃q,i-X.length=q+1:=⟨_,(Nat.succ_pred r).symm⟩
    rw[hq]at g;cases g
 ·rw[if_neg hk]at ho;obtain⟨h1,I⟩:=C k o' hk ho;exact⟨h1,o',I,.same _⟩
end Go.Av
namespace Go.Lin
open Go Go.Av
theorem B9i(a b:Int)(d:b≠0):(a.fdiv b).natAbs≤a.natAbs+1:=by
 have hk:=Nat.div_le_self a.natAbs b.natAbs;by_cases e:a=0
 ·rw[A2i a b d (.inr e),Int.natAbs_natCast];omega
 ·by_cases hs:decide (a<0)=decide (b<0)
  ·rw[A2i a b d (.inl hs),Int.natAbs_natCast];omega
  ·rw[A4d a b d e hs];split
   ·rw[Int.natAbs_neg,Int.natAbs_natCast];omega
   ·rw[Int.natAbs_neg,Int.natAbs_natCast];omega
theorem A1d{a b:Int}{m n:Nat}(d:a.natAbs≤m)(hb:b.natAbs≤n):(a*b).natAbs≤m*n:=by rw[Int.natAbs_mul];exact Nat.mul_le_mul d hb
theorem B3O{H:Heap}{b c:Nat}{A d B:Av.Obj}(h:c≠b):((H.set b d).set c B).Le (((H.set b A).set c B).set b d):=fun q o hq=>by
 by_cases e:q=b
 ·subst e;rw[A4 _ h.symm,A3]at hq;rw[A3];exact hq
 ·rw[A4 _ e];by_cases e2:q=c
  ·subst e2;rw[A3]at hq⊢;exact hq
  ·rw[A4 _ e2,A4 _ e]at hq⊢;exact hq
def zB:List D:=[.bool false,.nilsl]
def m0(C:List Int)(n i:Nat):List (List D):=Rw C6 (C.take i)++List.replicate (n-i) zB
theorem A3s(C:List Int)(n i:Nat)(h:C.length=n)(d:i≤n):(m0 C n i).length=n:=by simp[m0,Rw];omega
theorem A2j(C:List Int)(n:Nat):m0 C n 0=List.replicate n zB:=by simp[m0,Rw]
theorem A3t(C:List Int)(n:Nat)(h:C.length=n):m0 C n n=Rw C6 C:=by simp[m0,←h]
theorem A2I(C:List Int)(n i:Nat)(h:C.length=n)(d:i<n)(c:List D)(hc:C6 (C[i]'(by omega))=c):(m0 C n i).set i c=m0 C n (i+1):=by
 subst hc;unfold m0;have hl:(Rw C6 (C.take i)).length=i:=by simp[Rw];omega
 have e:n-i=(n-(i+1))+1:=by omega
 rw[List.set_append_right _ _ (by omega),hl,Nat.sub_self,e,List.replicate_succ,List.set_cons_zero,M4 _ _ (by omega),D1k];rfl
theorem A1E(C:List Int)(n i j:Nat)(h:C.length=n)(d:i≤j)(e:j<n):(m0 C n i)[j]? =some zB:=by
 unfold m0;have hl:(Rw C6 (C.take i)).length=i:=by simp[Rw];omega
 rw[D1r (by omega),hl,List.getElem?_replicate,if_pos (by omega)]
theorem A1F(C:List Int)(n i j:Nat)(h:C.length=n)(d:i≤j)(e:j<n):(m0 C n i).getD j []=zB:=by
 rw[List.getD_eq_getElem?_getD,A1E C n i j h d e];rfl
end Go.Lin
namespace Go.Proofs.YtibphjonmikciaaGreatDoor
open Go Go.Av Go.Lin
attribute [local irreducible] ACalls S3
theorem B6e{Q}(a b:Int)(ha:a.natAbs≤18446744073709551616)(G:0<b)(hb:b<2147483648)(H:Heap)(h:Q (.agg (C6 (A1C a b))) H):E6 258 [.agg (C6 a),.agg (C6 b)] H Q:=by
 refine B2 [(2,.par)] A8 Tryz.func258 rfl ?_;simp only[go_sem,seval,Tryz.results258];intro p I q r b4 g;simp only[A6]at r g;have J:=g.2.1.symm;have L:=g.1.symm;have M:=r.1.symm;obtain⟨t,d⟩: ∃t:Int,t=2:=⟨2,rfl⟩
 have hw: ∀(H':Heap) (x:D→Heap→Prop),x (.agg (C6 t)) H'→E6 228 [.int .i64 2] H' x:=fun H' x hq=>y0 2 (by omega) (by omega) H' (by rw[←d];exact hq);repeat' (first|simp only[go_sem,seval]|(intro j;try simp only[A6]at j)|with_reducible refine hw _ _ ?_)
 rename_i b5;have o:=j;clear j;have O:p∈[p,q,b5]:=by simp
 have T:q∈[p,q,b5]:=by simp
 have U:b5∈[p,q,b5]:=by simp
 have V:=o.1;have W:=o.2.1.symm;have X:=o.2.2.1.symm;obtain⟨f,y⟩: ∃f,f=(a*t+b).fdiv (b*t):=⟨_,rfl⟩
 have u:=B9i (a*t+b) (b*t) (by subst d;omega);rw[←y]at u;have u:f.natAbs≤55340232221128654849:=by(have:(a*t+b).natAbs≤55340232221128654848:=by(subst d;omega));omega
 have Y:=A1d (a:=b) (b:=f) (m:=2147483648) (n:=55340232221128654849) (by omega) (by omega);have A:Sz a:=I0 (by omega);have z:Sz b:=I0 (by omega);have C:Sz t:=I0 (by omega);have s4:Sz (a*t):=I0 (by subst d;omega);have s5:Sz (a*t+b):=I0 (by subst d;omega);have s6:Sz f:=I0 (by omega);have s7:Sz (b*f):=I0 (by omega);refine F4 (fun i=>if i=4 then .agg (C6 (a*t))else if i=6 then .agg (C6 (a*t+b))else if i=9 then .agg (C6 (b*t))else if i=10 then .agg (C6 f)else if i=11 then .agg (C6 (b*f))else if i=12 then .agg (C6 (a-b*f))else .undef) [p,q,b5] ?_;repeat' (first|with_reducible apply D0w|simp only[go_sem,seval,O,T,U]|simp(disch:=first|omega|grind) only[B9]|with_reducible refine P8 (fun H' Q hro hq=>T6 a t A C H' hq) ?_|with_reducible refine P8 (fun H' Q hro hq=>A0g (a*t) b s4 z H' hq) ?_|with_reducible refine P8 (fun H' Q hro hq=>T6 b t z C H' hq) ?_|with_reducible refine P8 (fun H' Q hro hq=>A3r (a*t+b) (b*t) s5 (by subst d;omega) (by subst d;omega) H' (by rw[←y];exact hq)) ?_|with_reducible refine P8 (fun H' Q hro hq=>T6 b f z s6 H' hq) ?_|with_reducible refine P8 (fun H' Q hro hq=>A0P a (b*f) A s7 H' hq) ?_)
 have e:A1C a b=a-b*f:=by rw[y,d];rfl
 rw[e]at h;exact D2O (by simp only[E3,D1,D2]at* <;>grind) h
def A5P(r:Row)(m:Nat):Prop:=r.k.natAbs≤m∧∀x∈r.c,x.natAbs≤m
theorem A3G{Q}(a b:Row)(s:Int)(hs:s=1∨s= -1)(hl:a.c.length=b.c.length)(hlen:a.c.length≤1000000)(M:A5P a 18446744073709551616)(hb:A5P b 18446744073709551616)(H:Heap)(h:Q (.bool (A4a a b s)) H):
  E6 281 [.agg (C7 a),.agg (C7 b),.int .i64 s] H Q:=by
 refine B2 [] A8 Tryz.func281 rfl ?_;simp only[go_sem,seval,Tryz.results281];intro y O z A;simp only[A6]at A;have e3:((H.set y (.box (C7 a))).set z (.box (C7 b))) y=some (.box (C7 a)):=by rw[A4 _ A.1.symm,A3]
 have x:((H.set y (.box (C7 a))).set z (.box (C7 b))) z=some (.box (C7 b)):=A3 _ _;have C:H.Le ((H.set y (.box (C7 a))).set z (.box (C7 b))):=(by simp only[E3,D1,D2]at* <;>grind)
 generalize (H.set y (.box (C7 a))).set z (.box (C7 b))=Bs at e3 x C⊢;repeat' simp only[go_sem,seval,e3,x]
 have key:A4a a b s=true↔∀(k:Nat) (h1:k<a.c.length) (o:k<b.c.length),a.c[k]=b.c[k]*s:=by
  unfold A4a;rw[beq_iff_eq];constructor
  ·intro e k h1 o;have:=List.getElem_of_eq e h1;rw[this,D1m]
  ·intro e;apply D2H (by simpa using hl);intro k h1 o;rw[D1m];exact e k h1 (by simpa using o)
 refine C8 [2,4,11,12] (fun(i:Nat)=>[(13,.int .i64 i)]) (fun(i:Nat)=>Bs) (fun(i:Nat)=>i≤a.c.length∧∀(k:Nat) (h1:k<a.c.length) (o:k<b.c.length),k<i→a.c[k]=b.c[k]*s) (fun(i:Nat)=>a.c.length-i) (0) (⟨D1H _,fun k _ _ h=>absurd h (D2C _)⟩) (by(try simp only[go_sem,seval])<;>(try simp(disch:=omega) [A5])) (by first|exact D2N _|exact A0 (by assumption)|exact B4 (by assumption)|simp only[Heap.Le,Heap.set,Heap.del]at* <;>grind) ?_;rintro T rfl i ⟨U,q⟩;by_cases d:i<a.c.length
 ·have p:decide ((i:Int)<a.c.length)=true:=D0y (by omega);have j:i<b.c.length:=by omega
  have a1:=M.2 _ (D1A d);have V:=hb.2 _ (D1A j);have J:Sz a.c[i]:=I0 (by omega);have L:Sz b.c[i]:=I0 (by omega);have r:(i:Int)<b.c.length:=by omega
  have G:Sz (-b.c[i]):=I0 (by omega);rcases hs with rfl|rfl
  ·have I:b.c[i]*1=b.c[i]:=by omega
   by_cases he:a.c[i]=b.c[i]
   ·have u:(a.c[i]-b.c[i]).sign=0:=by rw[he,Int.sub_self];rfl
    repeat' (first|with_reducible apply D0w|simp only[go_sem,seval,p,e3,x,r,B3 _ _ d,C3 _ _ d,B3 _ _ j,C3 _ _ j,u]|simp(disch:=omega) only[A5,B3]|simp(disch:=first|omega|grind) only[B9]|(intro m;try simp only[A6]at m)|with_reducible refine A0P _ _ J L _ ?_|with_reducible refine L8 _ _ ?_|omega)
    refine C4 (i+1) ⟨by omega,fun k h1 o hk=>?_⟩ (by omega) (by(try simp only[go_sem,seval])<;>(try simp(disch:=omega) [A5])) (by simp only[E3,D1,D2]at* <;>grind);by_cases e:k=i
    ·subst e;rw[I];exact he
    ·exact q k h1 o (by omega)
   ·have u: ¬((a.c[i]-b.c[i]).sign=0):=by rw[Int.sign_eq_zero_iff_zero];omega
    have h1:A4a a b (1)=false:=by rw[←D2I];exact fun g=>he (by rw[←I];exact key.1 g i d j)
    have o:((a.c[i]-b.c[i]).sign != 0)=true:=by rw[bne_iff_ne];exact u
    repeat' (first|with_reducible apply D0w|simp only[go_sem,seval,p,e3,x,r,B3 _ _ d,C3 _ _ d,B3 _ _ j,C3 _ _ j,o]|simp(disch:=omega) only[A5,B3]|simp(disch:=first|omega|grind) only[B9]|(intro m;try simp only[A6]at m)|with_reducible refine A0P _ _ J L _ ?_|with_reducible refine L8 _ _ ?_|omega)
    rw[h1]at h;exact D2O (by simp only[E3,D1,D2]at* <;>grind) h
  ·have I:b.c[i]* -1= -b.c[i]:=by omega
   by_cases he:a.c[i]= -b.c[i]
   ·have u:(a.c[i]- -b.c[i]).sign=0:=by rw[he,Int.sub_self];rfl
    repeat' (first|with_reducible apply D0w|simp only[go_sem,seval,p,e3,x,r,B3 _ _ d,C3 _ _ d,B3 _ _ j,C3 _ _ j,u]|simp(disch:=omega) only[A5,B3]|simp(disch:=first|omega|grind) only[B9]|(intro m;try simp only[A6]at m)|with_reducible refine A4e _ _ ?_|with_reducible refine A0P _ _ J G _ ?_|with_reducible refine L8 _ _ ?_|omega)
    refine C4 (i+1) ⟨by omega,fun k h1 o hk=>?_⟩ (by omega) (by(try simp only[go_sem,seval])<;>(try simp(disch:=omega) [A5])) (by simp only[E3,D1,D2]at* <;>grind);by_cases e:k=i
    ·subst e;rw[I];exact he
    ·exact q k h1 o (by omega)
   ·have u: ¬((a.c[i]- -b.c[i]).sign=0):=by rw[Int.sign_eq_zero_iff_zero];omega
    have h1:A4a a b (-1)=false:=by rw[←D2I];exact fun g=>he (by rw[←I];exact key.1 g i d j)
    have o:((a.c[i]- -b.c[i]).sign != 0)=true:=by rw[bne_iff_ne];exact u
    repeat' (first|with_reducible apply D0w|simp only[go_sem,seval,p,e3,x,r,B3 _ _ d,C3 _ _ d,B3 _ _ j,C3 _ _ j,o]|simp(disch:=omega) only[A5,B3]|simp(disch:=first|omega|grind) only[B9]|(intro m;try simp only[A6]at m)|with_reducible refine A4e _ _ ?_|with_reducible refine A0P _ _ J G _ ?_|with_reducible refine L8 _ _ ?_|omega)
    rw[h1]at h;exact D2O (by simp only[E3,D1,D2]at* <;>grind) h
 ·have p:decide ((i:Int)<a.c.length)=false:=D0z (by omega);repeat' simp only[go_sem,seval,p]
  rw[key.2 (fun k h1 o=>q k h1 o (by omega))]at h;exact D2O C h
set_option maxHeartbeats 1000000 in
theorem B6f{Q}(x y:Row)(a b:Int)(hl:x.c.length=y.c.length)(hlen:x.c.length≤1000000)(hx:A5P x 18446744073709551616)(hy:A5P y 18446744073709551616)(ha:a.natAbs≤18446744073709551616)(hb:b.natAbs≤18446744073709551616)(H:Heap)
  (h:Q (.agg (C7 (A2F x a y b))) H):E6 264 [.agg (C7 x),.agg (C6 a),.agg (C7 y),.agg (C6 b)] H Q:=by
 refine B2 [(1,.par),(5,.par)] A8 Tryz.func264 rfl ?_;simp only[go_sem,seval,Tryz.results264];intro g h4 b5 h5 j h6 m h7 G h8;simp only[A6]at h5 h6 h7 h8;have O:(((((H.set g (.box (C7 x))).set b5 (.box (C6 a))).set j (.box (C7 y))).set m (.box (C6 b))).set G (.box [.nilsl,.bool false,.nilsl,.bool false])) g=some (.box (C7 x)):=by simp(disch:=first|omega|grind) only[B9,A3]
 have e5:(((((H.set g (.box (C7 x))).set b5 (.box (C6 a))).set j (.box (C7 y))).set m (.box (C6 b))).set G (.box [.nilsl,.bool false,.nilsl,.bool false])) b5=some (.box (C6 a)):=by simp(disch:=first|omega|grind) only[B9,A3]
 have T:(((((H.set g (.box (C7 x))).set b5 (.box (C6 a))).set j (.box (C7 y))).set m (.box (C6 b))).set G (.box [.nilsl,.bool false,.nilsl,.bool false])) j=some (.box (C7 y)):=by simp(disch:=first|omega|grind) only[B9,A3]
 have U:(((((H.set g (.box (C7 x))).set b5 (.box (C6 a))).set j (.box (C7 y))).set m (.box (C6 b))).set G (.box [.nilsl,.bool false,.nilsl,.bool false])) m=some (.box (C6 b)):=by simp(disch:=first|omega|grind) only[B9,A3]
 have e8:(((((H.set g (.box (C7 x))).set b5 (.box (C6 a))).set j (.box (C7 y))).set m (.box (C6 b))).set G (.box [.nilsl,.bool false,.nilsl,.bool false])) G=some (.box [.nilsl,.bool false,.nilsl,.bool false]):=A3 _ _;have V:H.Le ((((H.set g (.box (C7 x))).set b5 (.box (C6 a))).set j (.box (C7 y))).set m (.box (C6 b))):=(by simp only[E3,D1,D2]at* <;>grind)
 have W:((((H.set g (.box (C7 x))).set b5 (.box (C6 a))).set j (.box (C7 y))).set m (.box (C6 b))) G=none:=by simp only[A6];exact h8
 have L:=V.trans (A0 (o:=.box [.nilsl,.bool false,.nilsl,.bool false]) W);have b0:H G=none:=V.none W;generalize (((((H.set g (.box (C7 x))).set b5 (.box (C6 a))).set j (.box (C7 y))).set m (.box (C6 b))).set G (.box [.nilsl,.bool false,.nilsl,.bool false]))=Bs at O e5 T U e8 L⊢;clear V W h4 h5 h6 h7 h8;have xk:=hx.1;have yk:=hy.1;have m1:=A1d xk ha;have m2:=A1d yk hb;have s1:Sz x.k:=I0 (by omega);have s2:Sz y.k:=I0 (by omega);have s3:Sz a:=I0 (by omega);have s4:Sz b:=I0 (by omega);have s5:Sz (x.k*a):=B0Y (k:=5) (by omega) (by decide);have s6:Sz (y.k*b):=B0Y (k:=5) (by omega) (by decide);have q4:g∈[g,b5,j,m]:=by simp
 have q5:b5∈[g,b5,j,m]:=by simp
 have q6:j∈[g,b5,j,m]:=by simp
 have q7:m∈[g,b5,j,m]:=by simp
 refine F4 (fun i=>if i=7 then .agg (C6 (x.k*a))else if i=11 then .agg (C6 (y.k*b))else if i=12 then .agg (C6 (x.k*a+y.k*b))else .undef) [g,b5,j,m] ?_;repeat' (first|with_reducible apply D0w|simp only[go_sem,seval,O,e5,T,U,q4,q5,q6,q7]|simp(disch:=first|omega|grind) only[B9,E5]|(intro X;try simp only[A6]at X)|with_reducible refine P8 (fun H' Q hro hq=>T6 x.k a s1 s3 H' hq) ?_|with_reducible refine P8 (fun H' Q hro hq=>T6 y.k b s2 s4 H' hq) ?_|with_reducible refine P8 (fun H' Q hro hq=>A0g (x.k*a) (y.k*b) s5 s6 H' hq) ?_|omega)
 rename_i I u r;have Y:=X;clear X;obtain⟨C,hC⟩: ∃C,C=List.zipWith (fun p q=>p*a+q*b) x.c y.c:=⟨_,rfl⟩
 have z:C.length=x.c.length:=by rw[hC];simp[hl]
 have a7:List.replicate x.c.length [D.bool false,.nilsl]=m0 C x.c.length 0:=(A2j _ _).symm;rw[a7];obtain⟨k,hk⟩: ∃k,k=x.k*a+y.k*b:=⟨_,rfl⟩
 have n9:r≠I:=Y.1;have f4:g≠I:=fun e=>by rw[e,u]at O;cases O
 have f5:b5≠I:=fun e=>by rw[e,u]at e5;cases e5
 have f6:j≠I:=fun e=>by rw[e,u]at T;cases T
 have f7:m≠I:=fun e=>by rw[e,u]at U;cases U
 have f8:G≠I:=fun e=>by rw[e,u]at e8;cases e8
 have g4:g≠r:=fun e=>by rw[e,Y.2]at O;cases O
 have g5:b5≠r:=fun e=>by rw[e,Y.2]at e5;cases e5
 have g6:j≠r:=fun e=>by rw[e,Y.2]at T;cases T
 have g7:m≠r:=fun e=>by rw[e,Y.2]at U;cases U
 have g8:G≠r:=fun e=>by rw[e,Y.2]at e8;cases e8
 refine C8 [4,5,6,7,8,9,29] (fun(i:Nat)=>[(30,.int .i64 i)]) (fun(i:Nat)=>(Bs.set I (.vec 2 (m0 C x.c.length i))).set r (.box [.vec I 2 0 x.c.length,.bool (decide (x.k*a+y.k*b<0)),.sl 1 (Rw F5 (C2 (x.k*a+y.k*b).natAbs)),.bool x.eq])) (fun(i:Nat)=>i≤x.c.length) (fun(i:Nat)=>x.c.length-i) (0) (D1H _) (by(try simp only[go_sem,seval])<;>(try simp(disch:=omega) [A5])) (by first|exact D2N _|exact A0 (by assumption)|exact B4 (by assumption)|simp only[Heap.Le,Heap.set,Heap.del]at* <;>grind) ?_;rintro Ec rfl i hi;have b1:=A3s C x.c.length i z hi;by_cases A:i<x.c.length
 ·have a0:decide ((i:Int)<x.c.length)=true:=D0y (by omega);have a4:i<y.c.length:=by omega
  have b2:(i:Int)<y.c.length:=by omega
  have c2:i<C.length:=by omega
  have x1:=hx.2 _ (D1A A);have y1:=hy.2 _ (D1A a4);have p1:=A1d x1 ha;have p2:=A1d y1 hb;have t1:Sz x.c[i]:=I0 (by omega);have t2:Sz y.c[i]:=I0 (by omega);have t3:Sz (x.c[i]*a):=B0Y (k:=5) (by omega) (by decide);have t4:Sz (y.c[i]*b):=B0Y (k:=5) (by omega) (by decide);have b3:C[i]=x.c[i]*a+y.c[i]*b:=by simp only[hC,List.getElem_zipWith]
  have M:=A2I C x.c.length i z A (C6 (x.c[i]*a+y.c[i]*b)) (by rw[b3]);have c0:=A1F C x.c.length i i z (D1G _) A;have a9:=A1E C x.c.length i i z (D1G _) A;have r4:g∈[g,b5,j,m,r]:=by simp
  have r5:b5∈[g,b5,j,m,r]:=by simp
  have r6:j∈[g,b5,j,m,r]:=by simp
  have r7:m∈[g,b5,j,m,r]:=by simp
  have r9:r∈[g,b5,j,m,r]:=by simp
  repeat' simp only[go_sem,seval,a0]
  refine F4 (fun i'=>if i'=9 then .agg (C6 (x.c[i]*a))else if i'=16 then .agg (C6 (y.c[i]*b))else if i'=17 then .agg (C6 (x.c[i]*a+y.c[i]*b))else .undef) [g,b5,j,m,r] ?_;repeat' (first|with_reducible apply D0w|simp only[go_sem,seval,O,e5,T,U,r4,r5,r6,r7,r9,b2,b1,c0,a9,B3 _ _ A,C3 _ _ A,B3 _ _ a4,C3 _ _ a4,M]|simp(disch:=omega) only[A5,B3]|simp(disch:=first|omega|grind) only[B9,E5]|with_reducible refine P8 (fun H' Q hro hq=>T6 x.c[i] a t1 s3 H' hq) ?_|with_reducible refine P8 (fun H' Q hro hq=>T6 y.c[i] b t2 s4 H' hq) ?_|with_reducible refine P8 (fun H' Q hro hq=>A0g (x.c[i]*a) (y.c[i]*b) t3 t4 H' hq) ?_|omega)
  refine C4 (i+1) (by omega) (by omega) (by(try simp only[go_sem,seval])<;>(try simp(disch:=omega) [A5])) ?_;have a5:(m0 C x.c.length i).set i ((zB.set 0 (D.bool (decide (x.c[i]*a+y.c[i]*b<0)))).set 1 (D.sl 1 (Rw F5 (C2 (x.c[i]*a+y.c[i]*b).natAbs))))=m0 C x.c.length (i+1):=M;rw[a5];exact B3O n9
 ·have a0:decide ((i:Int)<x.c.length)=false:=D0z (by omega);have c1:i=x.c.length:=by omega
  subst c1;rw[A3t C _ z];repeat' (first|simp only[go_sem,seval,a0,e8]|simp(disch:=first|omega|grind) only[B9,E5])
  have a6:x.c.length=(Rw C6 C).length:=by rw[D6,z]
  refine V3 (b:=I) (sz:=2) (es:=Rw C6 C) (cs':=C7 (A2F x a y b)) (by rw[A4 _ f8.symm,A4 _ n9.symm,A3]) rfl (fun i d d' e1 e2=>?_) (D2O (fun q o hq=>?_) h)
  ·match i with
   |0=>
    cases e1;cases e2;show Fz I 2 (Rw C6 C) (.vec I 2 0 x.c.length) (.sl 2 (Rw C6 (List.zipWith (fun p q=>p*a+q*b) x.c y.c)));rw[←hC,a6];exact .all
   |1=>cases e1;cases e2;exact .same _
   |2=>cases e1;cases e2;exact .same _
   |3=>cases e1;cases e2;exact .same _
   |i+4=>cases e1
  ·have J:=L q o hq;have d1:q≠I:=fun e=>by rw[e,u]at J;cases J
   have d2:q≠r:=fun e=>by rw[e,Y.2]at J;cases J
   have d3:q≠G:=fun e=>by rw[e,b0]at hq;cases hq
   rw[E5 d1,A4 _ d3,A4 _ d2,A4 _ d1];exact J
end Go.Proofs.YtibphjonmikciaaGreatDoor
namespace Go.Av
theorem B5R{n sz:Nat}{es:List (List D)}{ob:Option Nat}{a:D}{ds:List D}{Q:D→Heap→Prop}{H:Heap}(hn:n=es.length)(hc:OutAt H sz es ob)(h:Fin Q (.tuple (a:: .sl sz es::ds)) (K2 H ob)):Fin Q (.tuple (a::J3 sz n ob::ds)) H:=by
 subst hn;cases ob with
 |none=>
  have e:es= []:=hc;subst e;refine D9 (.tuple _ _ (by simp) fun i d d' h1 g=>?_) h
  match i with
  |0=>cases h1;cases g;exact .same _
  |1=>cases h1;cases g;exact .nil _
  |i+2=>
   simp only[D1S]at h1 g;rw[h1]at g;cases g;exact .same _
 |some c=>
  refine Fin.freeze hc (.tuple _ _ (by simp) fun i d d' h1 g=>?_) h
  match i with
  |0=>cases h1;cases g;exact .same _
  |1=>cases h1;cases g;exact .all
  |i+2=>
   simp only[D1S]at h1 g;rw[h1]at g;cases g;exact .same _
theorem OutAt.up{H H':Heap}{sz:Nat}{es:List (List D)}{ob:Option Nat}(h:OutAt H sz es ob)(d:H.Le H'):OutAt H' sz es ob:=by
 cases ob with
 |none=>exact h
 |some c=>exact d _ _ h
theorem OutAt.keep{H0 H':Heap}{sz sz':Nat}{es e2:List (List D)}{ob o2:Option Nat}{d:Nat}(h:OutAt H0 sz' e2 o2)(e:Apd H0 sz ob es d H')(g: ∀b,o2=some b→ob≠some b):OutAt H' sz' e2 o2:=by
 cases o2 with
 |none=>exact h
 |some c=>exact e.2.1 c _ h (g c rfl)
structure O3(H Hp:Heap)(sz:Nat)(e1 e2 e3:List (List D))(o1 o2 o3:Option Nat):Prop where
 le:H.Le Hp
 a1:OutAt Hp sz e1 o1
 a2:OutAt Hp sz e2 o2
 a3:OutAt Hp sz e3 o3
 n1: ∀b,o1=some b→H b=none
 n2: ∀b,o2=some b→H b=none
 n3: ∀b,o3=some b→H b=none
 d12: ∀b,o1=some b→o2≠some b
 d13: ∀b,o1=some b→o3≠some b
 d23: ∀b,o2=some b→o3≠some b
theorem O3.nil(H:Heap)(sz:Nat):O3 H H sz [] [] [] none none none:=⟨D2N H,rfl,rfl,rfl,by simp,by simp,by simp,by simp,by simp,by simp⟩
theorem O3.rot{H Hp:Heap}{sz:Nat}{e1 e2 e3:List (List D)}{o1 o2 o3:Option Nat}(h:O3 H Hp sz e1 e2 e3 o1 o2 o3):O3 H Hp sz e2 e3 e1 o2 o3 o1:=
 ⟨h.le,h.a2,h.a3,h.a1,h.n2,h.n3,h.n1,h.d23,fun b e e2=>h.d12 b e2 e,fun b e e2=>h.d13 b e2 e⟩
theorem OutAt.some_of{H:Heap}{sz:Nat}{es:List (List D)}{ob:Option Nat}(h:OutAt H sz es ob){b:Nat}(e:ob=some b):H b=some (.vec sz es):=by subst e;exact h
theorem O3.app1{H Hp H0 H':Heap}{sz:Nat}{e1 e2 e3 e1':List (List D)}{o1 o2 o3:Option Nat}{j:Nat}(h:O3 H Hp sz e1 e2 e3 o1 o2 o3)(d:Hp.Le H0)(i:Apd H0 sz o1 e1' j H'):O3 H H' sz e1' e2 e3 (some j) o2 o3:=by
 have p: ∀{e:List (List D)} {o:Option Nat},OutAt Hp sz e o→(∀b,o1=some b→o≠some b)→o≠some j:=fun {e o} m q hb=>by
  rcases i.2.2 with g|g
  ·have:=d _ _ (m.some_of hb);rw[g]at this;cases this
  ·exact q _ g hb
 refine⟨fun k o hk=>i.2.1 k o (d k o (h.le k o hk)) (fun e=>by have:=h.n1 k e;rw[this]at hk;cases hk),i.1,(h.a2.up d).keep i (fun b e g=>h.d12 b g e),(h.a3.up d).keep i (fun b e g=>h.d13 b g e),fun b e=>?_,h.n2,h.n3,fun b e g=>?_,fun b e g=>?_,h.d23⟩
 ·cases e;rcases i.2.2 with g|g
  ·exact h.le.none (d.none g)
  ·exact h.n1 _ g
 ·cases e;exact p h.a2 h.d12 g
 ·cases e;exact p h.a3 h.d13 g
theorem O3.app2{H Hp H0 H':Heap}{sz:Nat}{e1 e2 e3 d:List (List D)}{o1 o2 o3:Option Nat}{g:Nat}(h:O3 H Hp sz e1 e2 e3 o1 o2 o3)(e:Hp.Le H0)(i:Apd H0 sz o2 d g H'):O3 H H' sz e1 d e3 o1 (some g) o3:=(h.rot.app1 e i).rot.rot
theorem O3.app3{H Hp H0 H':Heap}{sz:Nat}{e1 e2 e3 d:List (List D)}{o1 o2 o3:Option Nat}{g:Nat}(h:O3 H Hp sz e1 e2 e3 o1 o2 o3)(e:Hp.Le H0)(i:Apd H0 sz o3 d g H'):O3 H H' sz e1 e2 d o1 o2 (some g):=(h.rot.rot.app1 e i).rot
theorem O3.ap{H Hp H0:Heap}{j:D→Heap→Prop}{sz d n bx:Nat}{o:Go.Av.Obj}{e1 e2 e3 e1' xs:List (List D)}{o1 o2 o3:Option Nat}(h:O3 H Hp sz e1 e2 e3 o1 o2 o3)(e:Hp.Le H0)(g:H0 bx=none)(i:xs≠[])(hn:n=e1.length)
  (h1:(n+xs.length)*d≤140737488355328) (m:n+xs.length≤9223372036854775807) (he:e1'=e1++xs)
  (K: ∀b' H',O3 H H' sz e1' e2 e3 (some b') o2 o3→j (.vec b' sz 0 (n+xs.length)) H'):apS (J3 sz n o1) sz d xs (H0.set bx o) j:=
 A48 (P:=default) g i (h.a1.up e) hn h1 m fun b' H' p=>K b' H' (h.app1 e (by rw[he];exact p))
theorem O3.last{H Hp:Heap}{sz:Nat}{e1 e2 e3:List (List D)}{o1 o2 o3:Option Nat}(h:O3 H Hp sz e1 e2 e3 o1 o2 o3):(putB H sz e3 o3).Le (K2 (K2 Hp o1) o2)∧OutAt (K2 Hp o1) sz e2 o2:=by
 have i: ∀(K:Heap) (o:Option Nat) (k:Nat) (x:Go.Av.Obj),K k=some x→o≠some k→K2 K o k=some x:=fun K o k x hk hn=>by
  cases o with
  |none=>exact hk
  |some c=>show (K.del c) k=_;rw[E5 (by rintro rfl;exact hn rfl)];exact hk
 constructor
 ·intro k x hk;have old: ∀y,H k=some y→o1≠some k∧o2≠some k∧Hp k=some y:=fun y g=>
   ⟨fun e=>(by have:=h.n1 _ e;rw[this]at g;cases g),fun e=>(by have:=h.n2 _ e;rw[this]at g;cases g),h.le _ _ g⟩
  have d:o1≠some k∧o2≠some k∧Hp k=some x:=by
   cases o3 with
   |none=>exact old x hk
   |some c=>
    replace hk:(H.set c (.vec sz e3)) k=some x:=hk;simp only[Heap.set]at hk;by_cases e:k=c
    ·rw[if_pos e]at hk;cases hk;rw[e];exact⟨fun e=>h.d13 _ e rfl,fun e=>h.d23 _ e rfl,h.a3⟩
    ·rw[if_neg e]at hk;exact old x hk
  exact i _ _ _ _ (i _ _ _ _ d.2.2 d.1) d.2.1
 ·cases o2 with
  |none=>exact h.a2
  |some c=>exact i _ _ _ _ h.a2 (fun e=>h.d12 _ e rfl)
end Go.Av
namespace Go.Lin
open Go Go.Av
def X5{α :Type}(p: α →Bool):List α →Int
 | []=> -1
 |a::l=>if p a=true then 0 else if X5 p l<0 then-1 else X5 p l+1
theorem A1e{α :Type}(p: α →Bool): ∀l,-1≤X5 p l
 | []=>by rw[X5];omega
 |a::l=>by have:=A1e p l;rw[X5];split;omega;split<;>omega
theorem A3u{α :Type}(p: α →Bool): ∀l,decide (0≤X5 p l)=l.any p
 | []=>rfl
 |a::l=>by
  have:=A3u p l;rw[X5,D11,←this];split
  ·rename_i h;simp[h]
  ·rename_i h;simp only[h,Bool.false_or];apply D1Z.2;split<;>omega
theorem A4f{α :Type}(p: α →Bool)(l:List α)(k:Nat)(h:k<l.length):X5 p (l.drop k)=if p l[k]=true then 0 else if X5 p (l.drop (k+1))<0 then-1 else X5 p (l.drop (k+1))+1:=by
 rw[D1R h,X5]
end Go.Lin
namespace Go.Proofs.YtibphjonmikciaaGreatDoor
open Go Go.Av Go.Lin
attribute [local irreducible] ACalls S3
theorem B6g{Q}(p:Row→Bool)(l:List Row)(hl:l.length≤1000000000000000)(g:Nat)(first cap:List D)(H:Heap)
  (i: ∀a∈l,∀(Q:D→Heap→Prop),Q (.bool (p a)) H→E6 g (first++[.agg (C7 a)]++cap) H Q) (h:Q (.int .i64 (X5 p l)) H):
  E6 221 [.sl 4 (Rw C7 l),.fn (.func g) first cap] H Q:=by
 refine B2 [] A8 Tryz.func221 rfl ?_;simp only[go_sem,seval,Tryz.results221];refine C8 [0,1,7] (fun(k:Nat)=>[(8,.int .i64 k)]) (fun(k:Nat)=>H) (fun(k:Nat)=>k≤l.length∧X5 p l=if X5 p (l.drop k)<0 then-1 else X5 p (l.drop k)+k) (fun(k:Nat)=>l.length-k) (0) (⟨D1H _,by have:=A1e p l;rw[List.drop_zero];split<;>omega⟩) (by(try simp only[go_sem,seval])<;>(try simp(disch:=omega) [A5])) (by first|exact D2N _|exact A0 (by assumption)|exact B4 (by assumption)|simp only[Heap.Le,Heap.set,Heap.del]at* <;>grind) ?_;rintro m rfl k ⟨hk,hp⟩;by_cases d:k<l.length
 ·have e:decide ((k:Int)<l.length)=true:=D0y (by omega);rw[A4f p l k d]at hp;repeat' (first|with_reducible apply D0w|simp only[go_sem,seval,e,B3 _ _ d]|simp(disch:=omega) only[A5,B3]|intro j|with_reducible refine i l[k] (D1A d) _ ?_|omega)
  ·have h1:p l[k]=true:=by assumption
   rw[if_pos h1]at hp;simp only[Int.zero_add,show¬((0:Int)<0)by omega,if_false]at hp;rw[hp]at h;exact D2R h
  ·have h1: ¬p l[k]=true:=by simp_all
   rw[if_neg h1]at hp;exact C4 (k+1) ⟨by omega,by rw[hp];have:=A1e p (l.drop (k+1));split<;>split<;>omega⟩ (by omega) (by(try simp only[go_sem,seval])<;>(try simp(disch:=omega) [A5])) (D2N _)
 ·have e:decide ((k:Int)<l.length)=false:=D0z (by omega);rw[List.drop_eq_nil_of_le (by omega),X5]at hp;repeat' simp only[go_sem,seval,e]
  simp only[show ((-1:Int)<0)by omega,if_true]at hp;rw[hp]at h;exact D2R h
theorem C3k{Q}(p:Row→Bool)(l:List Row)(hl:l.length≤1000000000000000)(g:Nat)(first cap:List D)(H:Heap)
  (d: ∀a∈l,∀(Q:D→Heap→Prop),Q (.bool (p a)) H→E6 g (first++[.agg (C7 a)]++cap) H Q) (h:Q (.bool (l.any p)) H):
  E6 285 [.sl 4 (Rw C7 l),.fn (.func g) first cap] H Q:=by
 refine B2 [] A8 Tryz.func285 rfl ?_;simp only[go_sem,seval,Tryz.results285];rw[←A3u]at h;repeat' (first|simp only[go_sem,seval]|with_reducible refine B6g p l hl g first cap _ d ?_)
 exact D2R h
end Go.Proofs.YtibphjonmikciaaGreatDoor
namespace Go.Lin
open Go Go.Av
def M3:Option Nat→Int
 |none=> -1
 |some j=>j
def B9j(c:List Int)(x:Int):Option Nat→Bool
 |none=>true
 |some j=>decide (x.natAbs<(X2 c j).natAbs)
def N0(c:List Int):Nat→Option Nat
 |0=>none
 |i+1=>if X2 c i≠0∧B9j c (X2 c i) (N0 c i)=true then some i else N0 c i
theorem A2k(c:List Int): ∀(i j:Nat),N0 c i=some j→j<i
 |0,j,h=>by simp[N0]at h
 |i+1,j,h=>by
  rw[N0]at h;split at h
  ·simp at h;omega
  ·have:=A2k c i j h;omega
theorem B0b(c:List Int)(x:Int)(l:List Int)(i:Nat)(b:Option Nat):A6T c (x::l) i b=A6T c l (i+1) (if x≠0∧B9j c x b=true then some i else b):=by
 cases b<;>rfl
theorem B0c(c:List Int): ∀(l:List Int) (i:Nat),i≤c.length→l=c.drop i→A6T c l i (N0 c i)=N0 c c.length
 | [],i,g,h=>by
  have:c.length≤i:=by
   have:=congrArg List.length h;simp at this;omega
  rw[show i=c.length by omega];rfl
 |x::l,i,g,h=>by
  have d:i<c.length:=by
   have:=congrArg List.length h;simp at this;omega
  rw[D1R d]at h;simp only[List.cons.injEq]at h;have e:X2 c i=x:=by simp[X2,d,h.1]
  rw[B0b,←B0c c l (i+1) (by omega) h.2,N0,e]
theorem A6V(r:Row):A4b r=N0 r.c r.c.length:=B0c r.c r.c 0 (D1H _) rfl
theorem I3(c:List Int)(i:Nat)(h:i<c.length):X2 c i=c[i]:=by simp[X2,h]
theorem A4g{p:Row→Bool}(l:List Row)(i:Nat)(h:i<l.length):(l.take (i+1)).filter p=(l.take i).filter p++if p l[i]=true then [l[i]]else []:=by
 rw[D1F h,List.filter_append]
 congr 1
 by_cases c:p l[i]=true
 ·rw[if_pos c];simp[c]
 ·rw[if_neg c];simp[c]
theorem X6{p:Row→Bool}(l:List Row):(l.filter p).length≤l.length:=List.length_filter_le _ _
end Go.Lin
namespace Go.Proofs.YtibphjonmikciaaGreatDoor
open Go Go.Av Go.Lin
attribute [local irreducible] ACalls S3
theorem B9k{Q}(r:Row)(hlen:r.c.length≤1000000)(hr:A5P r 18446744073709551616)(H:Heap)(h:Q (.int .i64 (M3 (A4b r))) H):E6 252 [.agg (C7 r)] H Q:=by
 refine B2 [(5,.par)] A8 Tryz.func252 rfl ?_;simp only[go_sem,seval,Tryz.results252];intro m C;have e1:(H.set m (.box (C7 r))) m=some (.box (C7 r)):=A3 _ _;have A:H.Le (H.set m (.box (C7 r))):=A0 C;generalize H.set m (.box (C7 r))=Bs at e1 A⊢;have t0:M3 (N0 r.c 0)= -1:=rfl;repeat' (first|with_reducible apply D0w|simp only[go_sem,seval,e1]|simp(disch:=omega) only[A5,B3,I3]|simp(disch:=first|omega|grind) only[B9]|intro p|omega)
 rw[←t0];refine C8 [1,7,8] (fun(i:Nat)=>[(9,.int .i64 i),(3,.int .i64 (M3 (N0 r.c i)))]) (fun(i:Nat)=>Bs) (fun(i:Nat)=>i≤r.c.length) (fun(i:Nat)=>r.c.length-i) (0) (D1H _) (by(try simp only[go_sem,seval])<;>(try simp(disch:=omega) [A5])) (by first|exact D2N _|exact A0 (by assumption)|exact B4 (by assumption)|simp only[Heap.Le,Heap.set,Heap.del]at* <;>grind) ?_;rintro X rfl i Y;by_cases q:i<r.c.length
 ·have z:decide ((i:Int)<r.c.length)=true:=D0y (by omega);have G:(i:Int)<r.c.length:=by omega
  have a1:=hr.2 _ (D1A q);have sa:Sz r.c[i]:=I0 (by omega);have I:Sz ((r.c[i].natAbs:Nat):Int):=I0 (by omega);have J:N0 r.c (i+1)=if r.c[i]≠0∧B9j r.c r.c[i] (N0 r.c i)=true then some i else N0 r.c i:=by rw[N0,I3 _ _ q]
  repeat' (first|with_reducible apply D0w|simp only[go_sem,seval,z,e1,G,B3 _ _ q,C3 _ _ q]|intro p|omega)
  rename_i b5;have h5:=p;clear p;have V:m≠b5:=fun e=>by rw[e,h5]at e1;cases e1
  have L:m∈[m,b5]:=by simp
  have M:b5∈[m,b5]:=by simp
  by_cases hx:r.c[i]=0
  ·have d:N0 r.c (i+1)=N0 r.c i:=by rw[J,if_neg (fun g=>g.1 hx)]
   have u:r.c[i].sign=0:=by rw[hx];rfl
   refine F4 (fun y=>if y=1 then .int .i64 0 else .undef) [m,b5] ?_;repeat' (first|simp only[go_sem,seval,e1,L,M,decide_true,D2K]|simp(disch:=omega) only[A5,B3,I3]|with_reducible refine P8 (fun H' Q hro hq=>L8 r.c[i] H' (by rw[u];exact hq)) ?_)
   refine C4 (i+1) (by omega) (by omega) (by(try simp only[go_sem,seval,d])<;>(try simp(disch:=omega) [A5])) (A0 h5)
  ·have u: ¬(r.c[i].sign=0):=fun g=>hx (Int.sign_eq_zero_iff_zero.1 g);cases hb:N0 r.c i with
   |none=>
    have d:N0 r.c (i+1)=some i:=by rw[J,hb,if_pos ⟨hx,rfl⟩]
    have o:M3 (N0 r.c (i+1))=i:=by rw[d];rfl
    have O:M3 none= -1:=rfl;refine F4 (fun y=>if y=1 then .int .i64 r.c[i].sign else .undef) [m,b5] ?_;repeat' (first|simp only[go_sem,seval,e1,L,M,u,hb,O,decide_true,decide_false,D2K,D2L]|simp(disch:=omega) only[A5,B3,I3]|with_reducible refine P8 (fun H' Q hro hq=>L8 r.c[i] H' hq) ?_)
    refine C4 (i+1) (by omega) (by omega) (by(try simp only[go_sem,seval,o])<;>(try simp(disch:=omega) [A5])) (A0 h5)
   |some j=>
    have hj:=A2k _ _ _ hb;have x:j<r.c.length:=by omega
    have T:(j:Int)<r.c.length:=by omega
    have a2:=hr.2 _ (D1A x);have W:Sz ((r.c[j].natAbs:Nat):Int):=I0 (by omega);have d:N0 r.c (i+1)=if r.c[i].natAbs<r.c[j].natAbs then some i else some j:=by
     rw[J,hb,B9j,I3 _ _ x];by_cases g:r.c[i].natAbs<r.c[j].natAbs
     ·rw[if_pos ⟨hx,D0y g⟩,if_pos g]
     ·rw[if_neg (fun k=>g (D0x k.2)),if_neg g]
    have O:M3 (some j)=j:=rfl;have oj: ¬((j:Int)<0):=by omega
    refine F4 (fun y=>if y=1 then .int .i64 r.c[i].sign else if y=8 then .agg (C6 (r.c[i].natAbs:Nat))else if y=14 then .agg (C6 (r.c[j].natAbs:Nat))else if y=15 then .bool (decide (((r.c[i].natAbs:Nat):Int)<((r.c[j].natAbs:Nat):Int)))else .undef) [m,b5] ?_;repeat' (first|with_reducible apply D0w|simp only[go_sem,seval,e1,L,M,u,hb,O,oj,T,B3 _ _ x,C3 _ _ x,decide_true,decide_false,D2K,D2L]|simp(disch:=omega) only[A5,B3,I3]|simp(disch:=first|omega|grind) only[B9]|intro p|with_reducible refine P8 (fun H' Q hro hq=>L8 r.c[i] H' hq) ?_|with_reducible refine P8 (fun H' Q hro hq=>B6c r.c[i] H' hq) ?_|with_reducible refine P8 (fun H' Q hro hq=>B6c r.c[j] H' hq) ?_|with_reducible refine P8 (fun H' Q hro hq=>B3N _ _ I W H' hq) ?_|omega)
    ·have g:r.c[i].natAbs<r.c[j].natAbs:=by omega
     rw[if_pos g]at d;have o:M3 (N0 r.c (i+1))=i:=by rw[d];rfl
     refine C4 (i+1) (by omega) (by omega) (by(try simp only[go_sem,seval,o])<;>(try simp(disch:=omega) [A5])) (A0 h5)
    ·have g: ¬r.c[i].natAbs<r.c[j].natAbs:=by omega
     rw[if_neg g]at d;have o:M3 (N0 r.c (i+1))=j:=by rw[d];rfl
     refine C4 (i+1) (by omega) (by omega) (by(try simp only[go_sem,seval,o])<;>(try simp(disch:=omega) [A5])) (A0 h5)
 ·have z:decide ((i:Int)<r.c.length)=false:=D0z (by omega);have U:i=r.c.length:=by omega
  subst U;rw[A6V]at h;repeat' simp only[go_sem,seval,z]
  exact D2O A h
theorem B3P{Q}(l:List Row)(k:Nat)(hlen:l.length≤1000000)(hk: ∀r∈l,k<r.c.length)(H:Heap)
  (h: ∀ob,(ob=none→U9 l k= [])→(∀b,ob=some b→H b=none)→Q (.tuple [.sl 4 (Rw C7 (I9 l k)),.sl 4 (Rw C7 (G1 l k)),J3 4 (U9 l k).length ob]) (putB H 4 (Rw C7 (U9 l k)) ob)):
  E6 260 [.sl 4 (Rw C7 l),.int .i64 (k:Int)] H Q:=by
 refine B2 [] A8 Tryz.func260 rfl ?_;simp only[go_sem,seval,Tryz.results260];have M:D.nilsl=J3 4 (I9 (l.take 0) k).length none:=rfl;have O:D.nilsl=J3 4 (G1 (l.take 0) k).length none:=rfl;have T:D.nilsl=J3 4 (U9 (l.take 0) k).length none:=rfl;repeat' (first|with_reducible apply D0w|simp only[go_sem,seval]|simp(disch:=omega) only[A5,B3,I3]|(intro d;try simp only[A6]at d)|omega)
 refine C8 [1,9,10] (fun(p:Nat×Option Nat×Option Nat×Option Nat×Heap)=>[(11,.int .i64 p.1),(4,J3 4 (I9 (l.take p.1) k).length p.2.1),(5,J3 4 (G1 (l.take p.1) k).length p.2.2.1),(6,J3 4 (U9 (l.take p.1) k).length p.2.2.2.1)]) (fun(p:Nat×Option Nat×Option Nat×Option Nat×Heap)=>p.2.2.2.2) (fun(p:Nat×Option Nat×Option Nat×Option Nat×Heap)=>p.1≤l.length∧O3 H p.2.2.2.2 4 (Rw C7 (I9 (l.take p.1) k)) (Rw C7 (G1 (l.take p.1) k)) (Rw C7 (U9 (l.take p.1) k)) p.2.1 p.2.2.1 p.2.2.2.1) (fun(p:Nat×Option Nat×Option Nat×Option Nat×Heap)=>l.length-p.1) ((0,none,none,none,H)) (⟨D1H _,O3.nil H 4⟩) (by(try simp only[go_sem,seval])<;>(try simp(disch:=omega) [A5])) (by first|exact D2N _|exact A0 (by assumption)|exact B4 (by assumption)|simp only[Heap.Le,Heap.set,Heap.del]at* <;>grind) ?_;rintro U rfl ⟨i,o1,o2,o3,Hp⟩ ⟨I,m⟩;simp only at I m;by_cases g:i<l.length
 ·have o:decide ((i:Int)<l.length)=true:=D0y (by omega);have J:(i:Int)<l.length:=by omega
  have j:=hk _ (D1A g);have A:(k:Int)<l[i].c.length:=by omega
  have L:=I3 l[i].c k j;have f1:=A4g (p:=fun r=>decide (0<X2 r.c k)) l i g;have f2:=A4g (p:=fun r=>decide (X2 r.c k<0)) l i g;have f3:=A4g (p:=fun r=>decide (X2 r.c k=0)) l i g;simp only[L,D1I]at f1 f2 f3;change I9 (l.take (i+1)) k=I9 (l.take i) k++_ at f1;change G1 (l.take (i+1)) k=G1 (l.take i) k++_ at f2;change U9 (l.take (i+1)) k=U9 (l.take i) k++_ at f3;have V:(I9 (l.take i) k).length≤1000000:=D12 (X6 _) (by rw[D1e];omega);have W:(G1 (l.take i) k).length≤1000000:=D12 (X6 _) (by rw[D1e];omega);have X:(U9 (l.take i) k).length≤1000000:=D12 (X6 _) (by rw[D1e];omega);rcases Int.lt_trichotomy l[i].c[k] 0 with c|c|c
  ·have s:l[i].c[k].sign= -1:=Int.sign_eq_neg_one_of_neg c;rw[if_neg (by omega),D1l]at f1;rw[if_pos c]at f2;rw[if_neg (by omega),D1l]at f3;repeat' (first|with_reducible apply D0w|simp only[go_sem,seval,o,B3 _ _ g,C3 _ _ g,B3 _ _ j,C3 _ _ j,A,s]|(intro d;try simp only[A6]at d)|with_reducible refine L8 _ _ ?_|omega)
   rename_i x y bx;have q:=d;clear d;refine A48 (P:=Tryz.prog) (H0:=Hp.set x (.box (C7 l[i]))) (es:=Rw C7 (G1 (l.take i) k)) (by rw[A6];exact q) (by simp) (m.a2.up (A0 y)) (by rw[D6]) (by simp only[D01,D03];omega) (by simp only[D01,D03];omega) fun z H' C=>?_;repeat' (first|simp only[go_sem,seval]|simp(disch:=omega) only[A5,B3,I3])
   have u:Apd (Hp.set x (.box (C7 l[i]))) 4 o2 (Rw C7 (G1 (l.take (i+1)) k)) z H':=by rw[f2,←O9];exact C
   refine C4 (i+1,o1,some z,o3,H') ⟨by simp only[];omega,?_⟩ (by simp only[];omega) (by(try simp only[go_sem,seval,f1,f2,f3,D02,K4])<;>(try simp(disch:=omega) [A5])) (D2N _);simp only[];have:=m.app2 (A0 y) u;rw[f1,f3];exact this
  ·have s:l[i].c[k].sign=0:=(by rw[c];rfl)
   rw[if_neg (by omega),D1l]at f1;rw[if_neg (by omega),D1l]at f2;rw[if_pos c]at f3;repeat' (first|with_reducible apply D0w|simp only[go_sem,seval,o,B3 _ _ g,C3 _ _ g,B3 _ _ j,C3 _ _ j,A,s]|(intro d;try simp only[A6]at d)|with_reducible refine L8 _ _ ?_|omega)
   rename_i x y bx;have q:=d;clear d;refine A48 (P:=Tryz.prog) (H0:=Hp.set x (.box (C7 l[i]))) (es:=Rw C7 (U9 (l.take i) k)) (by rw[A6];exact q) (by simp) (m.a3.up (A0 y)) (by rw[D6]) (by simp only[D01,D03];omega) (by simp only[D01,D03];omega) fun z H' C=>?_;repeat' (first|simp only[go_sem,seval]|simp(disch:=omega) only[A5,B3,I3])
   have u:Apd (Hp.set x (.box (C7 l[i]))) 4 o3 (Rw C7 (U9 (l.take (i+1)) k)) z H':=by rw[f3,←O9];exact C
   refine C4 (i+1,o1,o2,some z,H') ⟨by simp only[];omega,?_⟩ (by simp only[];omega) (by(try simp only[go_sem,seval,f1,f2,f3,D02,K4])<;>(try simp(disch:=omega) [A5])) (D2N _);simp only[];have:=m.app3 (A0 y) u;rw[f1,f2];exact this
  ·have s:l[i].c[k].sign=1:=Int.sign_eq_one_of_pos c;rw[if_pos c]at f1;rw[if_neg (by omega),D1l]at f2;rw[if_neg (by omega),D1l]at f3;repeat' (first|with_reducible apply D0w|simp only[go_sem,seval,o,B3 _ _ g,C3 _ _ g,B3 _ _ j,C3 _ _ j,A,s]|(intro d;try simp only[A6]at d)|with_reducible refine L8 _ _ ?_|omega)
   rename_i x y bx;have q:=d;clear d;refine A48 (P:=Tryz.prog) (H0:=Hp.set x (.box (C7 l[i]))) (es:=Rw C7 (I9 (l.take i) k)) (by rw[A6];exact q) (by simp) (m.a1.up (A0 y)) (by rw[D6]) (by simp only[D01,D03];omega) (by simp only[D01,D03];omega) fun z H' C=>?_;repeat' (first|simp only[go_sem,seval]|simp(disch:=omega) only[A5,B3,I3])
   have u:Apd (Hp.set x (.box (C7 l[i]))) 4 o1 (Rw C7 (I9 (l.take (i+1)) k)) z H':=by rw[f1,←O9];exact C
   refine C4 (i+1,some z,o2,o3,H') ⟨by simp only[];omega,?_⟩ (by simp only[];omega) (by(try simp only[go_sem,seval,f1,f2,f3,D02,K4])<;>(try simp(disch:=omega) [A5])) (D2N _);simp only[];have:=m.app1 (A0 y) u;rw[f2,f3];exact this
 ·have o:decide ((i:Int)<l.length)=false:=D0z (by omega);rw[D1B (by omega)]at m;have e1:l.take i=l:=D1B (by omega);repeat' simp only[go_sem,seval,o,e1]
  have G:=m.last;refine A60 (by rw[D6]) m.a1 (B5R (by rw[D6]) G.2 (D2O G.1 (h o3 (fun e=>?_) m.n3)));have:=m.a3;rw[e]at this;have this:Rw C7 (U9 l k)= []:=this;exact D1K (by rw[←D6 (f:=C7),this];rfl)
end Go.Proofs.YtibphjonmikciaaGreatDoor
namespace Go.Lin
open Go Go.Av
theorem O3.one{H Hp:Heap}{sz:Nat}{e1:List (List D)}{o1:Option Nat}(h:O3 H Hp sz e1 [] [] o1 none none):H.Le (K2 Hp o1):=by
 have:=h.last.1;exact fun k o hk=>this k o hk
theorem A6W{α β :Type}(f: α → β)(l:List α)(i:Nat)(h:i<l.length):(l.take (i+1)).map f=(l.take i).map f++[f l[i]]:=by
 rw[D1F h,D1w];rfl
theorem A8r{α β :Type}(f: α → β)(l:List α)(i:Nat)(h:i≤l.length):((l.take i).map f).length=i:=by rw[D1f,D1e];omega
end Go.Lin
namespace Go.Proofs.YtibphjonmikciaaGreatDoor
open Go Go.Av Go.Lin
attribute [local irreducible] ACalls S3
theorem A7f{Q}(l:List Row)(e:Row)(k n:Nat)(hlen:l.length≤1000000)(hn:n≤1000000)(hw: ∀r∈l,r.c.length=n)(he:e.c.length=n)(hk:k<n)(hr: ∀r∈l,A5P r 18446744073709551616)(a4:A5P e 18446744073709551616)(a5: ∀r∈l,∀x∈r.c,x.natAbs≤4294967296)(a6: ∀x∈e.c,x.natAbs≤4294967296)(H:Heap)
  (h:Q (.sl 4 (Rw C7 (l.map (T5 e k)))) H):E6 253 [.sl 4 (Rw C7 l),.agg (C7 e),.int .i64 (k:Int)] H Q:=by
 refine B2 [(7,.par)] A8 Tryz.func253 rfl ?_;simp only[go_sem,seval,Tryz.results253];intro z a7;have e4:(H.set z (.box (C7 e))) z=some (.box (C7 e)):=A3 _ _;have L:H.Le (H.set z (.box (C7 e))):=A0 a7;generalize H.set z (.box (C7 e))=Bs at e4 L⊢;have z0:D.nilsl=J3 4 ((l.take 0).map (T5 e k)).length none:=rfl;repeat' (first|with_reducible apply D0w|simp only[go_sem,seval]|simp(disch:=omega) only[A5,B3,I3]|simp(disch:=first|omega|grind) only[B9]|(intro d;try simp only[A6]at d)|omega)
 refine C8 [2,4,11,12] (fun(p:Nat×Option Nat×Heap)=>[(13,.int .i64 p.1),(7,J3 4 p.1 p.2.1)]) (fun(p:Nat×Option Nat×Heap)=>p.2.2) (fun(p:Nat×Option Nat×Heap)=>p.1≤l.length∧O3 Bs p.2.2 4 (Rw C7 ((l.take p.1).map (T5 e k))) [] [] p.2.1 none none) (fun(p:Nat×Option Nat×Heap)=>l.length-p.1) ((0,none,Bs)) (⟨D1H _,O3.nil Bs 4⟩) (by(try simp only[go_sem,seval])<;>(try simp(disch:=omega) [A5])) (by first|exact D2N _|exact A0 (by assumption)|exact B4 (by assumption)|simp only[Heap.Le,Heap.set,Heap.del]at* <;>grind) ?_;rintro Ec rfl ⟨i,o1,Hp⟩ ⟨hi,G⟩;simp only at hi G;by_cases o:i<l.length
 ·have I:decide ((i:Int)<l.length)=true:=D0y (by omega);have b1:(i:Int)<l.length:=by omega
  have b2:=hw _ (D1A o);have u:k<l[i].c.length:=by omega
  have W:(k:Int)<l[i].c.length:=by omega
  have J:k<e.c.length:=by omega
  have X:(k:Int)<e.c.length:=by omega
  have gk:=I3 l[i].c k u;have ge:=I3 e.c k J;have fs:=A6W (T5 e k) l i o;have fl:=A8r (T5 e k) l i hi;have q4:Hp z=some (.box (C7 e)):=G.le _ _ e4;by_cases c0:l[i].c[k]=0
  ·have s:l[i].c[k].sign=0:=by rw[c0];rfl
   have er:T5 e k l[i]=l[i]:=by unfold T5;rw[gk,if_pos c0]
   repeat' (first|with_reducible apply D0w|simp only[go_sem,seval,I,B3 _ _ o,C3 _ _ o,B3 _ _ u,C3 _ _ u,W,s,decide_true,D2K]|simp(disch:=first|omega|grind) only[B9]|(intro d;try simp only[A6]at d)|with_reducible refine L8 _ _ ?_|omega)
   rename_i q h9 j M bx;have O:=d;clear d;have A:Hp.Le ((Hp.set q (.box (C7 l[i]))).set j (.box (C6 l[i].c[k]))):=(by simp only[E3,D1,D2]at* <;>grind)
   obtain⟨R,T⟩: ∃R,R=(Hp.set q (.box (C7 l[i]))).set j (.box (C6 l[i].c[k])):=⟨_,rfl⟩
   have m:Hp.Le R:=by rw[T];exact A
   rw[←T];have C:R bx=none:=by rw[T];simp only[A6];exact O
   refine A48 (P:=Tryz.prog) (H0:=R) (es:=Rw C7 ((l.take i).map (T5 e k))) C (by simp) (G.a1.up m) (by rw[D6,fl]) (by simp only[D01,D03];omega) (by simp only[D01,D03];omega) fun Y H' hA=>?_;repeat' (first|simp only[go_sem,seval]|simp(disch:=omega) only[A5,B3,I3])
   have U:Rw C7 ((l.take (i+1)).map (T5 e k))=Rw C7 ((l.take i).map (T5 e k))++[C7 (l[i])]:=by rw[fs,er,←O9];rfl
   have V:Apd R 4 o1 (Rw C7 ((l.take (i+1)).map (T5 e k))) Y H':=by rw[U];exact hA
   refine C4 (i+1,some Y,H') ⟨by simp only[];omega,G.app1 m V⟩ (by simp only[];omega) (by(try simp only[go_sem,seval,K4])<;>(try simp(disch:=omega) [A5])) (D2N _)
  ·have s: ¬(l[i].c[k].sign=0):=fun g=>c0 (Int.sign_eq_zero_iff_zero.1 g);repeat' (first|with_reducible apply D0w|simp only[go_sem,seval,I,B3 _ _ o,C3 _ _ o,B3 _ _ u,C3 _ _ u,W,s,decide_false,D2L]|(intro d;try simp only[A6]at d)|with_reducible refine L8 _ _ ?_|omega)
   rename_i q h9 j;have M:=d;clear d;obtain⟨a9,M⟩:=M;have e9:((Hp.set q (.box (C7 l[i]))).set j (.box (C6 l[i].c[k]))) q=some (.box (C7 l[i])):=by rw[A4 _ (Ne.symm a9),A3]
   have a0:((Hp.set q (.box (C7 l[i]))).set j (.box (C6 l[i].c[k]))) j=some (.box (C6 l[i].c[k])):=A3 _ _;have m:Hp.Le (((Hp.set q (.box (C7 l[i]))).set j (.box (C6 l[i].c[k]))).del q):=(by simp only[E3,D1,D2]at* <;>grind)
   have f4:=(m.trans (F0 _ _)) _ _ q4;have b3:z≠q:=fun g=>by rw[g,h9]at q4;cases q4
   generalize (Hp.set q (.box (C7 l[i]))).set j (.box (C6 l[i].c[k]))=Hq at e9 a0 m f4⊢;have m4:z∈[z,q,j]:=by simp
   have m9:q∈[z,q,j]:=by simp
   have b0:j∈[z,q,j]:=by simp
   have a1:=a5 _ (D1A o) _ (D1A u);have a2:=a6 _ (D1A J);have a3:=A1d a1 a2;obtain⟨t,ht⟩: ∃t:Int,t=1:=⟨1,rfl⟩
   obtain⟨x,hx⟩: ∃x:Int,x=l[i].c[k]:=⟨_,rfl⟩
   obtain⟨y,hy⟩: ∃y:Int,y=e.c[k]:=⟨_,rfl⟩
   have er:T5 e k l[i]=A2F l[i] t e (-(x*y)):=by unfold T5;rw[gk,if_neg c0,ge,ht,hx,hy]
   rw[←hx]at a1 a3;rw[←hy]at a2 a3;have s1:Sz x:=I0 (by omega);have s2:Sz y:=I0 (by omega);refine F4 (fun i'=>if i'=1 then .agg (C6 t)else if i'=9 then .agg (C6 (x*y))else if i'=10 then .agg (C6 (-(x*y)))else if i'=11 then .agg (C7 (A2F l[i] t e (-(x*y))))else .undef) [z,q,j] ?_;repeat' (first|with_reducible apply D0w|simp only[go_sem,seval,e9,a0,f4,m4,m9,b0,B3 _ _ J,C3 _ _ J,X,←hx,←hy]|(intro d;try simp only[A6]at d)|with_reducible refine P8 (fun H' Q hro hq=>y0 1 (by omega) (by omega) H' (by rw[←ht];exact hq)) ?_|with_reducible refine P8 (fun H' Q hro hq=>T6 x y s1 s2 H' hq) ?_|with_reducible refine P8 (fun H' Q hro hq=>A4e (x*y) H' hq) ?_|with_reducible refine P8 (fun H' Q hro hq=>B6f l[i] e t (-(x*y)) (by omega) (by omega) (hr _ (D1A o)) a4 (by omega) (by omega) H' hq) ?_|omega)
   rename_i bx;have O:=d;clear d;have A:Hp.Le (Hq.set q (.box (C7 (A2F l[i] t e (-(x*y)))))):=(by simp only[E3,D1,D2]at* <;>grind)
   obtain⟨R,T⟩: ∃R,R=Hq.set q (.box (C7 (A2F l[i] t e (-(x*y))))):=⟨_,rfl⟩
   have m:Hp.Le R:=by rw[T];exact A
   rw[←T];have C:R bx=none:=by rw[T];simp only[A6];exact O
   refine A48 (P:=Tryz.prog) (H0:=R) (es:=Rw C7 ((l.take i).map (T5 e k))) C (by simp) (G.a1.up m) (by rw[D6,fl]) (by simp only[D01,D03];omega) (by simp only[D01,D03];omega) fun Y H' hA=>?_;repeat' (first|simp only[go_sem,seval]|simp(disch:=omega) only[A5,B3,I3])
   have U:Rw C7 ((l.take (i+1)).map (T5 e k))=Rw C7 ((l.take i).map (T5 e k))++[C7 (A2F l[i] t e (-(x*y)))]:=by rw[fs,er,←O9];rfl
   have V:Apd R 4 o1 (Rw C7 ((l.take (i+1)).map (T5 e k))) Y H':=by rw[U];exact hA
   refine C4 (i+1,some Y,H') ⟨by simp only[];omega,G.app1 m V⟩ (by simp only[];omega) (by(try simp only[go_sem,seval,K4])<;>(try simp(disch:=omega) [A5])) (D2N _)
 ·have I:decide ((i:Int)<l.length)=false:=D0z (by omega);have e1:l.take i=l:=D1B (by omega);have e2:i=l.length:=by omega
  rw[e1]at G;repeat' simp only[go_sem,seval,I]
  exact Fin.out (by rw[D6,D1f];exact e2) G.a1 (D2O (L.trans (O3.one G)) h)
end Go.Proofs.YtibphjonmikciaaGreatDoor
namespace Go.Av
theorem OutAt.ne{H:Heap}{sz:Nat}{es:List (List D)}{o:Option Nat}(h:OutAt H sz es o){b:Nat}(hb:H b=none):o≠some b:=fun e=>by
 have:=h.some_of e;rw[hb]at this;cases this
theorem O3.less{H H' Hp:Heap}{sz:Nat}{e1 e2 e3:List (List D)}{o1 o2 o3:Option Nat}(h:O3 H Hp sz e1 e2 e3 o1 o2 o3)(hl:H'.Le H):O3 H' Hp sz e1 e2 e3 o1 o2 o3:=
 ⟨hl.trans h.le,h.a1,h.a2,h.a3,fun b e=>hl.none (h.n1 b e),fun b e=>hl.none (h.n2 b e),fun b e=>hl.none (h.n3 b e),h.d12,h.d13,h.d23⟩
theorem O3.grow{H Hp:Heap}{sz:Nat}{e1 e2 e3:List (List D)}{o1 o2 o3:Option Nat}(h:O3 H Hp sz e1 e2 e3 o1 o2 o3){b:Nat}(hb:Hp b=none)(x:Go.Av.Obj):O3 (H.set b x) (Hp.set b x) sz e1 e2 e3 o1 o2 o3:=by
 have d:=A0 (o:=x) hb;have nn: ∀{c:Nat} {o:Option Nat} {e:List (List D)},OutAt Hp sz e o→o=some c→H c=none→(H.set b x) c=none:=fun {c o e} g e hn=>by
  rw[A4 _ (by rintro rfl;exact g.ne hb e)];exact hn
 refine⟨fun k o hk=>?_,h.a1.up d,h.a2.up d,h.a3.up d,fun c e=>nn h.a1 e (h.n1 c e),fun c e=>nn h.a2 e (h.n2 c e),fun c e=>nn h.a3 e (h.n3 c e),h.d12,h.d13,h.d23⟩;by_cases e:k=b
 ·subst e;rw[A3]at hk⊢;exact hk
 ·rw[A4 _ e]at hk⊢;exact h.le k o hk
theorem O3.put{H:Heap}{sz:Nat}{es:List (List D)}{ob:Option Nat}(d:ob=none→es= [])(h1: ∀b,ob=some b→H b=none):O3 H (putB H sz es ob) sz es [] [] ob none none:=by
 refine⟨?_,B4W d,rfl,rfl,h1,by simp,by simp,by simp,by simp,by simp⟩;cases ob with
 |none=>exact D2N H
 |some b=>exact A0 (h1 b rfl)
theorem O3.set1{H Hp g:Heap}{sz c:Nat}{e1 e2 e3 e1':List (List D)}{o2 o3:Option Nat}(h:O3 H Hp sz e1 e2 e3 (some c) o2 o3)(d:Hp.Le g):O3 H (g.set c (.vec sz e1')) sz e1' e2 e3 (some c) o2 o3:=by
 have up: ∀{e:List (List D)} {o:Option Nat},OutAt Hp sz e o→o≠some c→OutAt (g.set c (.vec sz e1')) sz e o:=fun {e o} i hn=>by
  cases o with
  |none=>exact i
  |some b=>show (g.set c _) b=_;rw[A4 _ (by rintro rfl;exact hn rfl)];exact d _ _ i
 refine⟨fun k o hk=>?_,A3 _ _,up h.a2 (h.d12 _ rfl),up h.a3 (h.d13 _ rfl),h.n1,h.n2,h.n3,h.d12,h.d13,h.d23⟩;rw[A4 _ (by rintro rfl;have:=h.n1 _ rfl;rw[this]at hk;cases hk)];exact d _ _ (h.le _ _ hk)
end Go.Av
namespace Go.Lin
open Go Go.Av
def A0Q(l:List Row)(k:Nat)(i j:Nat):List Row:=U9 l k++((I9 l k).take i).flatMap (fun a=>(G1 l k).map fun b=>A1c a b k false)++((G1 l k).take j).map fun b=>A1c ((I9 l k).getD i default) b k false
theorem A7g(l:List Row)(k:Nat):A0Q l k 0 0=U9 l k:=by simp[A0Q]
theorem A7h(l:List Row)(k i:Nat)(h:i<(I9 l k).length):A0Q l k i (G1 l k).length=A0Q l k (i+1) 0:=by
 unfold A0Q;rw[D1F h,List.take_length,List.flatMap_append];simp[h]
theorem B0d(l:List Row)(k:Nat):A0Q l k (I9 l k).length 0=A2h l k false:=by simp[A0Q,A2h]
theorem A7i(l:List Row)(k i j:Nat)(h:j<(G1 l k).length):A0Q l k i (j+1)=A0Q l k i j++[A1c ((I9 l k).getD i default) (G1 l k)[j] k false]:=by
 unfold A0Q;rw[D1F h,D1w,←D1k];rfl
theorem B6h(l:List Row)(k i j:Nat)(hl:l.length≤10000)(g:i≤10000):(A0Q l k i j).length≤100020000:=by
 unfold A0Q;rw[D02,D02,D1f,D1e];have h1:(U9 l k).length≤l.length:=X6 _;have h:(G1 l k).length≤l.length:=X6 _;have key: ∀(m:List Row),(m.flatMap fun a=>(G1 l k).map fun b=>A1c a b k false).length=m.length*(G1 l k).length:=by
  intro m
  induction m with
  |nil=>simp
  |cons a m d=>rw[List.flatMap_cons,D02,d,D1f,D01,Nat.succ_mul];omega
 rw[key];have e:((I9 l k).take i).length≤10000:=by rw[D1e];omega
 have o:((I9 l k).take i).length*(G1 l k).length≤10000*10000:=Nat.mul_le_mul e (by omega);omega
end Go.Lin
namespace Go.Proofs.YtibphjonmikciaaGreatDoor
open Go Go.Av Go.Lin
attribute [local irreducible] ACalls S3
theorem B6i{Q}(l:List Row)(k n:Nat)(hlen:l.length≤10000)(hn:n≤1000000)(hw: ∀r∈l,r.c.length=n)(hk:k<n)(hr: ∀r∈l,A5P r 18446744073709551616)(H:Heap)
  (h:Q (.sl 4 (Rw C7 (A2h l k false))) H):E6 226 [.sl 4 (Rw C7 l),.int .i64 (k:Int),.bool false] H Q:=by
 refine B2 [(9,.par),(12,.par)] A8 Tryz.func226 rfl ?_;simp only[go_sem,seval,Tryz.results226];have wl: ∀r∈I9 l k,r∈l:=fun r hr=>(List.mem_filter.1 hr).1;have wh: ∀r∈G1 l k,r∈l:=fun r hr=>(List.mem_filter.1 hr).1;have l1:(I9 l k).length≤10000:=D12 (X6 _) hlen;have l2:(G1 l k).length≤10000:=D12 (X6 _) hlen;obtain⟨t,ht⟩: ∃t:Int,t=1:=⟨1,rfl⟩
 repeat' (first|with_reducible apply D0w|simp only[go_sem,seval]|simp(disch:=omega) only[A5,B3,I3]|simp(disch:=first|omega|grind) only[B9]|(intro d;try simp only[A6]at d)|omega)
 refine B3P l k (by omega) (fun r hr=>by rw[hw r hr];exact hk) _ fun ob M G=>?_;have o0:=O3.put (H:=H) (sz:=4) (es:=Rw C7 (U9 l k)) (ob:=ob) (fun e=>by rw[M e];rfl) G;have a0:(U9 l k).length=(A0Q l k 0 0).length:=by rw[A7g]
 rw[←A7g l k]at o0⊢;generalize putB H 4 (Rw C7 (A0Q l k 0 0)) ob=Hp at o0⊢;repeat' (first|simp only[go_sem,seval]|(intro d;try simp only[A6]at d)|with_reducible refine y0 1 (by omega) (by omega) _ ?_)
 rename_i b6;have a4:=d;clear d;refine C8 [1,2,8,10,26,27] (fun(p:Nat×Option Nat×Heap)=>[(28,.int .i64 p.1),(9,J3 4 (A0Q l k p.1 0).length p.2.1)]) (fun(p:Nat×Option Nat×Heap)=>p.2.2) (fun(p:Nat×Option Nat×Heap)=>p.1≤(I9 l k).length∧O3 H p.2.2 4 (Rw C7 (A0Q l k p.1 0)) [] [] p.2.1 none none) (fun(p:Nat×Option Nat×Heap)=>(I9 l k).length-p.1) ((0,ob,Hp)) (⟨D1H _,o0⟩) (by(try simp only[go_sem,seval])<;>(try simp(disch:=omega) [A5])) (by first|exact D2N _|exact A0 (by assumption)|exact B4 (by assumption)|simp only[Heap.Le,Heap.set,Heap.del]at* <;>grind) ?_;clear o0 a4 a0 M G;rintro Ec rfl ⟨i,o1,Hp⟩ ⟨hi,x⟩;simp only at hi x;by_cases y:i<(I9 l k).length
 ·have o:decide ((i:Int)<(I9 l k).length)=true:=D0y (by omega);have b7:(i:Int)<(I9 l k).length:=by omega
  have A:=wl _ (D1A y);have C:k<(I9 l k)[i].c.length:=by rw[hw _ A];exact hk
  have a5:(k:Int)<(I9 l k)[i].c.length:=by omega
  have gi:(I9 l k).getD i default=(I9 l k)[i]:=by simp[y]
  repeat' (first|with_reducible apply D0w|simp only[go_sem,seval,o,B3 _ _ y,C3 _ _ y]|(intro d;try simp only[A6]at d)|omega)
  rename_i g;have O:=d;clear d;have g3:=x.grow O (.box (C7 (I9 l k)[i]));have J:(Hp.set g (.box (C7 (I9 l k)[i]))) g=some (.box (C7 (I9 l k)[i])):=A3 _ _;have hH:H.Le (H.set g (.box (C7 (I9 l k)[i]))):=A0 (x.le.none O);have J:(H.set g (.box (C7 (I9 l k)[i]))) g=some (.box (C7 (I9 l k)[i])):=A3 _ _;generalize Hp.set g (.box (C7 (I9 l k)[i]))=Hq at g3⊢;generalize H.set g (.box (C7 (I9 l k)[i]))=H1 at g3 J hH;refine C8 [1,2,8,10,12,26,27,28,32,33] (fun(p:Nat×Option Nat×Heap)=>[(34,.int .i64 p.1),(9,J3 4 (A0Q l k i p.1).length p.2.1)]) (fun(p:Nat×Option Nat×Heap)=>p.2.2) (fun(p:Nat×Option Nat×Heap)=>p.1≤(G1 l k).length∧O3 H1 p.2.2 4 (Rw C7 (A0Q l k i p.1)) [] [] p.2.1 none none) (fun(p:Nat×Option Nat×Heap)=>(G1 l k).length-p.1) ((0,o1,Hq)) (⟨D1H _,g3⟩) (by(try simp only[go_sem,seval])<;>(try simp(disch:=omega) [A5])) (by first|exact D2N _|exact A0 (by assumption)|exact B4 (by assumption)|simp only[Heap.Le,Heap.set,Heap.del]at* <;>grind) ?_;clear g3 x;rintro Ec rfl ⟨j,o1,Hp⟩ ⟨hj,x⟩;simp only at hj x;have a6:=x.le _ _ J;by_cases z:j<(G1 l k).length
  ·have o:decide ((j:Int)<(G1 l k).length)=true:=D0y (by omega);have b8:(j:Int)<(G1 l k).length:=by omega
   have L:=wh _ (D1A z);have u:k<(G1 l k)[j].c.length:=by rw[hw _ L];exact hk
   have T:(k:Int)<(G1 l k)[j].c.length:=by omega
   repeat' (first|with_reducible apply D0w|simp only[go_sem,seval,o,B3 _ _ z,C3 _ _ z]|(intro d;try simp only[A6]at d)|omega)
   rename_i m;have U:=d;clear d;have V:(Hp.set m (.box (C7 (G1 l k)[j]))) m=some (.box (C7 (G1 l k)[j])):=A3 _ _;have W:(Hp.set m (.box (C7 (G1 l k)[j]))) g=some (.box (C7 (I9 l k)[i])):=(A0 U) _ _ a6;have I:Hp.Le (Hp.set m (.box (C7 (G1 l k)[j]))):=A0 U;generalize Hp.set m (.box (C7 (G1 l k)[j]))=Hr at V W I⊢;have a7:g∈[g,m]:=by simp
   have a9:m∈[g,m]:=by simp
   have X:=hr _ A;have Y:=hr _ L;have x1:=X.2 _ (D1A C);have x2:=Y.2 _ (D1A u);obtain⟨p,hp⟩: ∃p,p=(I9 l k)[i].c[k]:=⟨_,rfl⟩
   obtain⟨q,hq⟩: ∃q,q= -(G1 l k)[j].c[k]:=⟨_,rfl⟩
   have es:A1c ((I9 l k).getD i default) (G1 l k)[j] k false=A2F (I9 l k)[i] q (G1 l k)[j] p:=by
    unfold A1c;simp only[gi,I3 _ _ C,I3 _ _ u,←hp,←hq];rfl
   have lz:=B6h l k i j hlen (by omega);have b0:Rw C7 (A0Q l k i (j+1))=Rw C7 (A0Q l k i j)++[C7 (A2F (I9 l k)[i] q (G1 l k)[j] p)]:=by rw[A7i l k i j z,es,←O9];rfl
   have fl:(A0Q l k i (j+1)).length=(A0Q l k i j).length+1:=by rw[A7i l k i j z];simp
   refine F4 (fun i'=>if i'=10 then .agg (C6 q)else .undef) [g,m] ?_;repeat' (first|with_reducible apply D0w|simp only[go_sem,seval,a7,a9,W,V,a5,T,B3 _ _ C,C3 _ _ C,B3 _ _ u,C3 _ _ u,←hp]|simp(disch:=first|omega|grind) only[B9]|(intro d;try simp only[A6]at d)|with_reducible refine P8 (fun H' Q hro b1=>A4e (G1 l k)[j].c[k] H' (by rw[←hq];exact b1)) ?_|with_reducible refine B6f (I9 l k)[i] (G1 l k)[j] q p (by rw[hw _ A,hw _ L]) (by rw[hw _ A];exact hn) X Y (by omega) (by omega) _ ?_|omega)
   rename_i b9 c0 c1 c2 c3 c4 bx;have b2:=d;clear d;refine O3.ap x (e1':=Rw C7 (A0Q l k i (j+1))) (I.trans (by simp only[E3,D1,D2]at* <;>grind)) (by simp only[A6];simp only[b2,ne_eq,not_false_eq_true,and_self]) (by simp) (by rw[D6]) (by simp only[D01,D03];omega) (by simp only[D01,D03];omega) b0 fun b' H' h4=>?_;repeat' (first|simp only[go_sem,seval]|simp(disch:=omega) only[A5,B3,I3])
   refine C4 (j+1,some b',H') ⟨by simp only[];omega,h4⟩ (by simp only[];omega) (by(try simp only[go_sem,seval,K4,fl])<;>(try simp(disch:=omega) [A5])) (D2N _)
  ·have o:decide ((j:Int)<(G1 l k).length)=false:=D0z (by omega);have b3:j=(G1 l k).length:=by omega
   subst b3;rw[A7h l k i y]at x;repeat' (first|simp only[go_sem,seval,o,A7h l k i y]|simp(disch:=omega) only[A5,B3,I3])
   refine C4 (i+1,o1,Hp) ⟨by simp only[];omega,x.less hH⟩ (by simp only[];omega) (by(try simp only[go_sem,seval])<;>(try simp(disch:=omega) [A5])) (D2N _)
 ·have o:decide ((i:Int)<(I9 l k).length)=false:=D0z (by omega);have b4:i=(I9 l k).length:=by omega
  subst b4;rw[B0d]at x;repeat' simp only[go_sem,seval,o,B0d]
  exact Fin.out (by rw[D6]) x.a1 (D2O (O3.one x) h)
end Go.Proofs.YtibphjonmikciaaGreatDoor
namespace Go.Av
open Go.RowKit
theorem A2l{H:Heap}{w w':World}(h:Below w.heap.size w w'):Ext H w w':=
 ⟨h.os,h.tape,h.output,h.size,fun k hk _=>h.block k hk,fun k hk=>by unfold World.shape?;rw[h.block k hk]⟩
theorem A4h{H:Heap}{w w':World}(hs:Sat H w)(h:Below w.heap.size w w'):Sat H w':=fun b o hb=>
 (hs b o hb).mono (A2l h) (D2T _ _) (h.block b (hs.lt hb))
theorem J2{P:Program}{f:Nat}{args:List D}{H:Heap}{Q:D→Heap→Prop}{r:D}(hb:A1y P f=true)
  (h: ∀w (vs:Array Value),args.length=vs.size→(∀(i:Nat) d,args[i]? =some d→R w H d (vs.getD i Go.undef))→Sat H w→Calls P f vs w fun e w'=>∃v,e= .returned v∧Below w.heap.size w w'∧R w' H r v)
  (hq:Q r H):ACalls P f args H Q:=
 ⟨hb,fun w vs h1 m g=>(h w vs h1 m g).mono fun e w' ⟨v,he,j,o⟩=>⟨v,he,r,H,o,A4h g j,A2l j,D2T _ _,hq⟩⟩
theorem A2J{w:World}{H:Heap}{d:D}{vs:Array Value}(hl: [d].length=vs.size)(hr: ∀(i:Nat) d',[d][i]? =some d'→R w H d' (vs.getD i Go.undef)): ∃a,vs= #[a]∧R w H d a:=by
 obtain⟨l⟩:=vs
 match l,hl with
 | [a],_=>exact⟨a,rfl,by simpa using hr 0 d rfl⟩
theorem A0R{w:World}{H:Heap}{d e:D}{vs:Array Value}(hl: [d,e].length=vs.size)(hr: ∀(i:Nat) d',[d,e][i]? =some d'→R w H d' (vs.getD i Go.undef)): ∃a b,vs= #[a,b]∧R w H d a∧R w H e b:=by
 obtain⟨l⟩:=vs
 match l,hl with
 | [a,b],_=>exact⟨a,b,rfl,by simpa using hr 0 d rfl,by simpa using hr 1 e rfl⟩
def B0e(k:IntKind)(zs:List Int):List D:=zs.map (D.int k)
theorem B6j{P:Program}{w:World}{H:Heap}{name:String}{g:Nat}{k:IntKind}{j:List Int}(o:P.globalNamed name=some g)(hs:Sat H w)(h:H g=some (.ro (B0e k j))):Lib.TabIs P w name k j:=by
 obtain⟨c,T,r,h1,p,q⟩:=hs g _ h;unfold Lib.TabIs World.var?;rw[o];simp only[D1Q,h1,D1Y];apply Array.ext
 ·simpa [B0e]using p
 ·intro i m d;simp at d;have:=(q i (.int k j[i]) (by simp[B0e,d])).2;have e:=this.int_inv;simp[m]at e;simp[e]
theorem B17(w:World)(k:Nat)(os:Array Go.Obj):Below w.heap.size w (Sort.grow (w.drewN k) os):=
 ⟨rfl,rfl,rfl,by simp[Sort.grow,World.drewN],fun i d=>by
  have:(w.drewN k).heap=w.heap:=rfl;simp only[Sort.grow,this];rw[Array.getElem?_append,if_pos d]⟩
theorem B0f(w:World)(e:TypeId)(s:ByteArray):Below w.heap.size w (Lib.bytesWorld w e s):=
 ⟨rfl,rfl,rfl,by rw[Lib.bytesWorld_size];omega,fun i d=>Lib.bytesWorld_at_old w e s i d⟩
end Go.Av
namespace Go.Proofs.YtibphjonmikciaaGreatDoor
section
open Go Go.Shelf Go.RowKit
set_option maxHeartbeats 4000000 in
set_option maxRecDepth 100000 in
theorem B9l(n:Nat)(hn:0<n)(hb:n*64≤140737488355328)(w:World):
  Calls Tryz.prog 282 #[.slice none 0 0,.int .i64 n] w fun e w'=>∃(cs:Array Value) (G:Nat),e= .returned (.slice (some ⟨w.heap.size,0,none⟩) 0 G)∧w'=w.drew.alloc (.cells cs 246)∧cs.size=G*4∧n≤G:=by
 obtain⟨i,m,y,hs,o⟩: ∃i,Tryz.prog.info? 246=some i∧i.zero=some (Value.agg #[.slice none 0 0,.bool false,.slice none 0 0,.bool false])∧i.size=4∧i.bytes=64:=by
  have h:(Tryz.prog.info? 246).map (fun i=>(i.zero,i.size,i.bytes))=some (some (Value.agg #[.slice none 0 0,.bool false,.slice none 0 0,.bool false]),4,64):=by kernel_rfl
  obtain⟨i,m,e⟩:=D05.1 h;simp only[Prod.mk.injEq]at e;exact⟨i,m,e.1,e.2.1,e.2.2⟩
 have p:Tryz.prog.follows .mixedOrders=true:=by kernel_rfl
 have r:=Tryz.underlying216;have a1:=Tryz.isAgg216;have C:=Tryz.sizeOf216;have v1:=Tryz.zeroValue216;have I:=run_underlying r;have u:=Tryz.underlying3;have a3:=Tryz.isAgg3;have J:=Tryz.sizeOf3;have v3:=Tryz.zeroValue3;have L:=run_underlying u;have z:=Tryz.underlying4;have M:=Tryz.isAgg4;have O:=Tryz.sizeOf4;have v4:=Tryz.zeroValue4;have T:=run_underlying z;have A:=Tryz.underlying246;have U:=Tryz.isAgg246;have V:=Tryz.sizeOf246;have W:=Tryz.zeroValue246;have X:=run_underlying A;have h1: ¬((n:Int)<0):=by omega
 have Y:RowKit.wrap64 ((n:Int)-0)=(n:Int):=by unfold RowKit.wrap64;omega
 have h4:(n:Int) > 0:=by omega
 have d:=Lib.run_append_nil_zeros w 216 3 216 246 i _ .i64 .i64 r u m y n hn (by omega) (by omega) (by rw[o];omega);obtain⟨G,q⟩: ∃G,G=grownCap w n 0 246:=⟨_,rfl⟩
 have j:n≤grownCap w n 0 246:=grownCap_ge w _ _ _;have x:G≤9223372036854775807:=by
  have:=grownCap_le_maxLen w n 0 246 (by unfold maxLen;omega);rw[←q]at this;unfold maxLen at this;omega
 rw[←q]at d j;obtain⟨cs,g⟩: ∃cs,cs=Builtin.zeroCells (Value.agg #[.slice none 0 0,.bool false,.slice none 0 0,.bool false]).cells n++Builtin.zeroCells (Value.agg #[.slice none 0 0,.bool false,.slice none 0 0,.bool false]).cells (G-n):=⟨_,rfl⟩
 have hsz:cs.size=G*4:=by
  rw[g,Array.size_append,size_zeroCells,size_zeroCells];show n*4+(G-n)*4=G*4;omega
 rw[←g]at d;clear q g
 go_enter Tryz.func282,Tryz.ntmps282
 go_wp2_with (at_builtin;refine Lib.wpList_append_run _ rfl _ _ _ _ rfl _ _ rfl rfl _ _ d ?_)
 all_goals (go_ret;exact⟨cs,G,rfl,rfl,by first|exact hsz|simpa using hsz,j⟩)
end
section
open Go Go.Av Go.Lin
theorem B6k{Q}(H:Heap)(d:Q .nilsl H):E6 282 [.nilsl,.int .i64 0] H Q:=by
 refine B2 [] A8 Tryz.func282 rfl ?_;simp only[go_sem,seval,Tryz.results282];repeat' (first|with_reducible apply D0w|simp only[go_sem,seval]|simp(disch:=omega) only[A5])
 all_goals exact D2R d
theorem B3Q{Q}(n:Nat)(hb:n*64≤140737488355328)(H:Heap)(o:n=0→Q .nilsl H)(h:n≠0→∀b,H b=none→Q (.vec b 4 0 0) (H.set b (.vec 4 []))):E6 282 [.nilsl,.int .i64 n] H Q:=by
 by_cases hn:n=0
 ·subst hn;exact B6k H (o rfl)
 ·refine⟨by kernel_rfl,fun w vs hl hr hs=>?_⟩;obtain⟨a,b,rfl,p,g⟩:=A0R hl hr;have q:a= .slice none 0 0:=by cases p;rfl
  rw[q,g.int_inv];refine(B9l n (by omega) hb w).mono ?_;rintro e w' ⟨cs,G,rfl,rfl,hsz,r⟩;have m:=hs.same (w':=w.drew) rfl (Ext.drewN H w 1);obtain⟨d,H',u,x,y,z,A⟩:=A0C (w:=w.drew) (K:=Q) m (sz:=4) (es:=[]) (vs:=cs) 246 0 G (by omega) ⟨by simp,fun i e he=>by simp at he,fun i e j d he=>by simp at he,fun i e j d he=>by simp at he⟩ (D1H _) hsz (fun b hb=>h hn b hb);exact⟨_,rfl,d,H',u,x,(Ext.drewN H w 1).trans (D2T _ _) y,z,A⟩
theorem A7j{Q}(l m:List Row)(hb:(l.length+m.length)*64≤140737488355328)(H:Heap)(h:Q (.sl 4 (Rw C7 (l++m))) H):E6 251 [.sl 1 [[.sl 4 (Rw C7 l)],[.sl 4 (Rw C7 m)]]] H Q:=by
 refine B2 [] A8 Tryz.func251 rfl ?_;simp only[go_sem,seval,Tryz.results251];refine C8 [0,9,10] (fun(p:Nat×Int)=>[(11,.int .i64 p.1),(3,.int .i64 p.2)]) (fun(p:Nat×Int)=>H) (fun(p:Nat×Int)=>p.1≤2∧(p.1=0→p.2=0)∧(p.1=1→p.2=l.length)∧(p.1=2→p.2=(l.length:Int)+m.length)) (fun(p:Nat×Int)=>2-p.1) ((0,0)) (⟨by simp,by simp,by simp,by simp⟩) (by(try simp only[go_sem,seval])<;>(try simp(disch:=omega) [A5])) (by first|exact D2N _|exact A0 (by assumption)|exact B4 (by assumption)|simp only[Heap.Le,Heap.set,Heap.del]at* <;>grind) ?_;rintro y rfl ⟨k,z⟩ ⟨o,g,i,j⟩;simp only at o g i j
 match k,o,g,i,j with
 |0,o,g,i,j=>
  have q:=g rfl;subst q;repeat' (first|with_reducible apply D0w|simp only[go_sem,seval,D1V]|simp(disch:=omega) only[A5]|intro d|omega)
  exact C4 (1,(l.length:Int)) ⟨by simp,by simp,by simp,by simp⟩ (by simp) (by(try simp only[go_sem,seval])<;>(try simp(disch:=omega) [A5])) (D2N _)
 |1,o,g,i,j=>
  have q:=i rfl;subst q;repeat' (first|with_reducible apply D0w|simp only[go_sem,seval,D1V,D1W]|simp(disch:=omega) only[A5]|intro d|omega)
  exact C4 (2,(l.length:Int)+m.length) ⟨by simp,by simp,by simp,by simp⟩ (by simp) (by(try simp only[go_sem,seval])<;>(try simp(disch:=omega) [A5])) (D2N _)
 |2,o,g,i,j=>
  have q:=j rfl;subst q;have A:(l.length:Int)+m.length=((l.length+m.length:Nat):Int):=by omega
  by_cases r:l.length+m.length=0
  ·have el:l= []:=D1K (by omega);have C:m= []:=D1K (by omega);subst el;subst C;repeat' (first|with_reducible apply D0w|simp only[go_sem,seval,A]|intro d|omega)
   refine B3Q 0 (by omega) H (fun _=>?_) (fun e=>absurd rfl e);repeat' simp only[go_sem,seval]
   refine C8 [25,26] (fun(k:Nat)=>[(27,.int .i64 k),(6,.nilsl)]) (fun(k:Nat)=>H) (fun(k:Nat)=>k≤2) (fun(k:Nat)=>2-k) (0) (by omega) (by(try simp only[go_sem,seval])<;>(try simp(disch:=omega) [A5])) (by first|exact D2N _|exact A0 (by assumption)|exact B4 (by assumption)|simp only[Heap.Le,Heap.set,Heap.del]at* <;>grind) ?_;rintro y rfl k hk
   match k,hk with
   |0,_=>
    repeat' (first|with_reducible apply D0w|simp only[go_sem,seval,D1V,A0w]|simp(disch:=omega) only[A5]|intro d|omega)
    exact C4 1 (by omega) (by omega) (by(try simp only[go_sem,seval])<;>(try simp(disch:=omega) [A5])) (D2N _)
   |1,_=>
    repeat' (first|with_reducible apply D0w|simp only[go_sem,seval,D1V,D1W,A0w]|simp(disch:=omega) only[A5]|intro d|omega)
    exact C4 2 (by omega) (by omega) (by(try simp only[go_sem,seval])<;>(try simp(disch:=omega) [A5])) (D2N _)
   |2,_=>
    repeat' (first|with_reducible apply D0w|simp only[go_sem,seval]|intro d|omega)
    exact Fin.out (n:=0) (ob:=none) rfl rfl (D2O (D2N _) h)
   |k+3,hk=>omega
  repeat' (first|with_reducible apply D0w|simp only[go_sem,seval,A]|intro d|omega)
  refine B3Q _ hb H (fun e=>absurd e r) fun _ b u=>?_;repeat' simp only[go_sem,seval]
  refine C8 [25,26] (fun(p:Nat×Nat×List Row)=>[(27,.int .i64 p.1),(6,.vec p.2.1 4 0 p.2.2.length)]) (fun(p:Nat×Nat×List Row)=>H.set p.2.1 (.vec 4 (Rw C7 p.2.2))) (fun(p:Nat×Nat×List Row)=>p.1≤2∧H p.2.1=none∧(p.1=0→p.2.2= [])∧(p.1=1→p.2.2=l)∧(p.1=2→p.2.2=l++m)) (fun(p:Nat×Nat×List Row)=>2-p.1) ((0,b,[])) (⟨by simp,u,by simp,by simp,by simp⟩) (by(try simp only[go_sem,seval])<;>(try simp(disch:=omega) [A5])) (by first|exact D2N _|exact A0 (by assumption)|exact B4 (by assumption)|simp only[Heap.Le,Heap.set,Heap.del]at* <;>grind) ?_;rintro y rfl ⟨k,c,X⟩ ⟨o,hc,g,i,j⟩;simp only at o hc g i j
  match k,o,g,i,j with
  |0,o,g,i,j=>
   have q:=g rfl;subst q;repeat' (first|with_reducible apply D0w|simp only[go_sem,seval,D1V,E8 hc]|simp(disch:=omega) only[A5]|intro d|omega)
   rename_i x;exact C4 (1,x,l) ⟨by simp,d,by simp,by simp,by simp⟩ (by simp) (by(try simp only[go_sem,seval])<;>(try simp(disch:=omega) [A5])) (D2N _)
  |1,o,g,i,j=>
   have q:=(i rfl).symm;subst q;repeat' (first|with_reducible apply D0w|simp only[go_sem,seval,D1V,D1W,E8 hc]|simp(disch:=omega) only[A5]|intro d|omega)
   rename_i x;exact C4 (2,x,l++m) ⟨by simp,d,by simp,by simp,by simp⟩ (by simp) (by(try simp only[go_sem,seval,D02])<;>(try simp(disch:=omega) [A5])) (by simp only[];rw[←O9,D1B (by rw[D6];exact D1G _)];exact D2N _)
  |2,o,g,i,j=>
   have q:=j rfl;subst q;repeat' (first|with_reducible apply D0w|simp only[go_sem,seval]|intro d|omega)
   exact Fin.out (ob:=some c) (by rw[D6,D02]) (A3 _ _) (D2O (by show H.Le ((H.set c _).del c);rw[E8 hc];exact D2N _) h)
end
section
open Go Go.Shelf Go.RowKit
set_option maxHeartbeats 4000000 in
set_option maxRecDepth 100000 in
theorem B9m(n:Nat)(hn:0<n)(hb:n*40≤140737488355328)(w:World):
  Calls Tryz.prog 189 #[.slice none 0 0,.int .i64 n] w fun e w'=>∃(cs:Array Value) (G:Nat),e= .returned (.slice (some ⟨w.heap.size,0,none⟩) 0 G)∧w'=w.drew.alloc (.cells cs 25)∧cs.size=G*3∧n≤G:=by
 obtain⟨i,m,y,hs,o⟩: ∃i,Tryz.prog.info? 25=some i∧i.zero=some (Value.agg #[.slice none 0 0,.int .i64 0,.bool false])∧i.size=3∧i.bytes=40:=by
  have h:(Tryz.prog.info? 25).map (fun i=>(i.zero,i.size,i.bytes))=some (some (Value.agg #[.slice none 0 0,.int .i64 0,.bool false]),3,40):=by kernel_rfl
  obtain⟨i,m,e⟩:=D05.1 h;simp only[Prod.mk.injEq]at e;exact⟨i,m,e.1,e.2.1,e.2.2⟩
 have p:Tryz.prog.follows .mixedOrders=true:=by kernel_rfl
 have r:=Tryz.underlying110;have a1:=Tryz.isAgg110;have C:=Tryz.sizeOf110;have v1:=Tryz.zeroValue110;have I:=run_underlying r;have u:=Tryz.underlying3;have a3:=Tryz.isAgg3;have J:=Tryz.sizeOf3;have v3:=Tryz.zeroValue3;have L:=run_underlying u;have z:=Tryz.underlying4;have M:=Tryz.isAgg4;have O:=Tryz.sizeOf4;have v4:=Tryz.zeroValue4;have T:=run_underlying z;have A:=Tryz.underlying25;have U:=Tryz.isAgg25;have V:=Tryz.sizeOf25;have W:=Tryz.zeroValue25;have X:=run_underlying A;have h1: ¬((n:Int)<0):=by omega
 have Y:RowKit.wrap64 ((n:Int)-0)=(n:Int):=by unfold RowKit.wrap64;omega
 have h4:(n:Int) > 0:=by omega
 have d:=Lib.run_append_nil_zeros w 110 3 110 25 i _ .i64 .i64 r u m y n hn (by omega) (by omega) (by rw[o];omega);obtain⟨G,q⟩: ∃G,G=grownCap w n 0 25:=⟨_,rfl⟩
 have j:n≤grownCap w n 0 25:=grownCap_ge w _ _ _;have x:G≤9223372036854775807:=by
  have:=grownCap_le_maxLen w n 0 25 (by unfold maxLen;omega);rw[←q]at this;unfold maxLen at this;omega
 rw[←q]at d j;obtain⟨cs,g⟩: ∃cs,cs=Builtin.zeroCells (Value.agg #[.slice none 0 0,.int .i64 0,.bool false]).cells n++Builtin.zeroCells (Value.agg #[.slice none 0 0,.int .i64 0,.bool false]).cells (G-n):=⟨_,rfl⟩
 have hsz:cs.size=G*3:=by
  rw[g,Array.size_append,size_zeroCells,size_zeroCells];show n*3+(G-n)*3=G*3;omega
 rw[←g]at d;clear q g
 go_enter Tryz.func189,Tryz.ntmps189
 go_wp2_with (at_builtin;refine Lib.wpList_append_run _ rfl _ _ _ _ rfl _ _ rfl rfl _ _ d ?_)
 all_goals (go_ret;exact⟨cs,G,rfl,rfl,by first|exact hsz|simpa using hsz,j⟩)
end
section
open Go Go.Av Go.Lin
theorem B6l{Q}(H:Heap)(d:Q .nilsl H):E6 189 [.nilsl,.int .i64 0] H Q:=by
 refine B2 [] A8 Tryz.func189 rfl ?_;simp only[go_sem,seval,Tryz.results189];repeat' (first|with_reducible apply D0w|simp only[go_sem,seval]|simp(disch:=omega) only[A5])
 all_goals exact D2R d
theorem B3R{Q}(n:Nat)(hb:n*40≤140737488355328)(H:Heap)(o:n=0→Q .nilsl H)(h:n≠0→∀b,H b=none→Q (.vec b 3 0 0) (H.set b (.vec 3 []))):E6 189 [.nilsl,.int .i64 n] H Q:=by
 by_cases hn:n=0
 ·subst hn;exact B6l H (o rfl)
 ·refine⟨by kernel_rfl,fun w vs hl hr hs=>?_⟩;obtain⟨a,b,rfl,p,g⟩:=A0R hl hr;have q:a= .slice none 0 0:=by cases p;rfl
  rw[q,g.int_inv];refine(B9m n (by omega) hb w).mono ?_;rintro e w' ⟨cs,G,rfl,rfl,hsz,r⟩;have m:=hs.same (w':=w.drew) rfl (Ext.drewN H w 1);obtain⟨d,H',u,x,y,z,A⟩:=A0C (w:=w.drew) (K:=Q) m (sz:=3) (es:=[]) (vs:=cs) 25 0 G (by omega) ⟨by simp,fun i e he=>by simp at he,fun i e j d he=>by simp at he,fun i e j d he=>by simp at he⟩ (D1H _) hsz (fun b hb=>h hn b hb);exact⟨_,rfl,d,H',u,x,(Ext.drewN H w 1).trans (D2T _ _) y,z,A⟩
theorem A7k{Q}(l m:List LinV)(hb:(l.length+m.length)*40≤140737488355328)(H:Heap)(h:Q (.sl 3 (Rw D7 (l++m))) H):E6 152 [.sl 1 [[.sl 3 (Rw D7 l)],[.sl 3 (Rw D7 m)]]] H Q:=by
 refine B2 [] A8 Tryz.func152 rfl ?_;simp only[go_sem,seval,Tryz.results152];refine C8 [0,9,10] (fun(p:Nat×Int)=>[(11,.int .i64 p.1),(3,.int .i64 p.2)]) (fun(p:Nat×Int)=>H) (fun(p:Nat×Int)=>p.1≤2∧(p.1=0→p.2=0)∧(p.1=1→p.2=l.length)∧(p.1=2→p.2=(l.length:Int)+m.length)) (fun(p:Nat×Int)=>2-p.1) ((0,0)) (⟨by simp,by simp,by simp,by simp⟩) (by(try simp only[go_sem,seval])<;>(try simp(disch:=omega) [A5])) (by first|exact D2N _|exact A0 (by assumption)|exact B4 (by assumption)|simp only[Heap.Le,Heap.set,Heap.del]at* <;>grind) ?_;rintro y rfl ⟨k,z⟩ ⟨o,g,i,j⟩;simp only at o g i j
 match k,o,g,i,j with
 |0,o,g,i,j=>
  have q:=g rfl;subst q;repeat' (first|with_reducible apply D0w|simp only[go_sem,seval,D1V]|simp(disch:=omega) only[A5]|intro d|omega)
  exact C4 (1,(l.length:Int)) ⟨by simp,by simp,by simp,by simp⟩ (by simp) (by(try simp only[go_sem,seval])<;>(try simp(disch:=omega) [A5])) (D2N _)
 |1,o,g,i,j=>
  have q:=i rfl;subst q;repeat' (first|with_reducible apply D0w|simp only[go_sem,seval,D1V,D1W]|simp(disch:=omega) only[A5]|intro d|omega)
  exact C4 (2,(l.length:Int)+m.length) ⟨by simp,by simp,by simp,by simp⟩ (by simp) (by(try simp only[go_sem,seval])<;>(try simp(disch:=omega) [A5])) (D2N _)
 |2,o,g,i,j=>
  have q:=j rfl;subst q;have A:(l.length:Int)+m.length=((l.length+m.length:Nat):Int):=by omega
  by_cases r:l.length+m.length=0
  ·have el:l= []:=D1K (by omega);have C:m= []:=D1K (by omega);subst el;subst C;repeat' (first|with_reducible apply D0w|simp only[go_sem,seval,A]|intro d|omega)
   refine B3R 0 (by omega) H (fun _=>?_) (fun e=>absurd rfl e);repeat' simp only[go_sem,seval]
   refine C8 [25,26] (fun(k:Nat)=>[(27,.int .i64 k),(6,.nilsl)]) (fun(k:Nat)=>H) (fun(k:Nat)=>k≤2) (fun(k:Nat)=>2-k) (0) (by omega) (by(try simp only[go_sem,seval])<;>(try simp(disch:=omega) [A5])) (by first|exact D2N _|exact A0 (by assumption)|exact B4 (by assumption)|simp only[Heap.Le,Heap.set,Heap.del]at* <;>grind) ?_;rintro y rfl k hk
   match k,hk with
   |0,_=>
    repeat' (first|with_reducible apply D0w|simp only[go_sem,seval,D1V,A0w]|simp(disch:=omega) only[A5]|intro d|omega)
    exact C4 1 (by omega) (by omega) (by(try simp only[go_sem,seval])<;>(try simp(disch:=omega) [A5])) (D2N _)
   |1,_=>
    repeat' (first|with_reducible apply D0w|simp only[go_sem,seval,D1V,D1W,A0w]|simp(disch:=omega) only[A5]|intro d|omega)
    exact C4 2 (by omega) (by omega) (by(try simp only[go_sem,seval])<;>(try simp(disch:=omega) [A5])) (D2N _)
   |2,_=>
    repeat' (first|with_reducible apply D0w|simp only[go_sem,seval]|intro d|omega)
    exact Fin.out (n:=0) (ob:=none) rfl rfl (D2O (D2N _) h)
   |k+3,hk=>omega
  repeat' (first|with_reducible apply D0w|simp only[go_sem,seval,A]|intro d|omega)
  refine B3R _ hb H (fun e=>absurd e r) fun _ b u=>?_;repeat' simp only[go_sem,seval]
  refine C8 [25,26] (fun(p:Nat×Nat×List LinV)=>[(27,.int .i64 p.1),(6,.vec p.2.1 3 0 p.2.2.length)]) (fun(p:Nat×Nat×List LinV)=>H.set p.2.1 (.vec 3 (Rw D7 p.2.2))) (fun(p:Nat×Nat×List LinV)=>p.1≤2∧H p.2.1=none∧(p.1=0→p.2.2= [])∧(p.1=1→p.2.2=l)∧(p.1=2→p.2.2=l++m)) (fun(p:Nat×Nat×List LinV)=>2-p.1) ((0,b,[])) (⟨by simp,u,by simp,by simp,by simp⟩) (by(try simp only[go_sem,seval])<;>(try simp(disch:=omega) [A5])) (by first|exact D2N _|exact A0 (by assumption)|exact B4 (by assumption)|simp only[Heap.Le,Heap.set,Heap.del]at* <;>grind) ?_;rintro y rfl ⟨k,c,X⟩ ⟨o,hc,g,i,j⟩;simp only at o hc g i j
  match k,o,g,i,j with
  |0,o,g,i,j=>
   have q:=g rfl;subst q;repeat' (first|with_reducible apply D0w|simp only[go_sem,seval,D1V,E8 hc]|simp(disch:=omega) only[A5]|intro d|omega)
   rename_i x;exact C4 (1,x,l) ⟨by simp,d,by simp,by simp,by simp⟩ (by simp) (by(try simp only[go_sem,seval])<;>(try simp(disch:=omega) [A5])) (D2N _)
  |1,o,g,i,j=>
   have q:=(i rfl).symm;subst q;repeat' (first|with_reducible apply D0w|simp only[go_sem,seval,D1V,D1W,E8 hc]|simp(disch:=omega) only[A5]|intro d|omega)
   rename_i x;exact C4 (2,x,l++m) ⟨by simp,d,by simp,by simp,by simp⟩ (by simp) (by(try simp only[go_sem,seval,D02])<;>(try simp(disch:=omega) [A5])) (by simp only[];rw[←O9,D1B (by rw[D6];exact D1G _)];exact D2N _)
  |2,o,g,i,j=>
   have q:=j rfl;subst q;repeat' (first|with_reducible apply D0w|simp only[go_sem,seval]|intro d|omega)
   exact Fin.out (ob:=some c) (by rw[D6,D02]) (A3 _ _) (D2O (by show H.Le ((H.set c _).del c);rw[E8 hc];exact D2N _) h)
end
section
open Go Go.Shelf Go.RowKit
end
section
open Go Go.Av Go.Lin
end
end Go.Proofs.YtibphjonmikciaaGreatDoor
namespace Go.Lin
open Go Go.Av
theorem A7l:C6 0= [.bool false,.sl 1 []]:=by
 unfold C6;rw[show (0:Int).natAbs=0 from rfl,J9];rfl
theorem B18{es es':List (List D)}(hl:es.length=es'.length)(h: ∀(i:Nat) e e',es[i]? =some e→es'[i]? =some e'→e=e'∨(e=zB∧e'=C6 0)):NilR (.sl 2 es) (.sl 2 es'):=by
 refine .sl 2 es es' hl (fun i e e' h1 o=>?_) (fun i e e' j d d' h1 o m g=>?_)
 ·rcases h i e e' h1 o with rfl|⟨rfl,rfl⟩
  ·rfl
  ·rw[A7l];rfl
 ·rcases h i e e' h1 o with rfl|⟨rfl,rfl⟩
  ·rw[m]at g;cases g;exact .same _
  ·rw[A7l]at g
   match j with
   |0=>cases m;cases g;exact .same _
   |1=>cases m;cases g;exact .nil _
   |j+2=>cases m
theorem B4d(c:List Int):NilR (.sl 2 (Rw C6 c++[zB])) (.sl 2 (Rw C6 (c++[0]))):=by
 refine B18 (by simp[Rw]) fun i e e' h1 d=>?_;rw[←O9]at d;by_cases h:i<c.length
 ·rw[D1q (by rw[D6];exact h)]at h1 d;rw[h1]at d;cases d;exact .inl rfl
 ·rw[D1r (by rw[D6];omega),D6]at h1 d;by_cases g:i-c.length=0
  ·rw[g]at h1 d;cases h1;cases d;exact .inr ⟨rfl,rfl⟩
  ·obtain⟨q,hq⟩: ∃q,i-c.length=q+1:=⟨_,(Nat.succ_pred g).symm⟩
   rw[hq]at h1;cases h1
theorem B4e{a a':D}{ds:List D}(h:NilR a a'):NilR (.agg (a::ds)) (.agg (a'::ds)):=by
 refine .agg _ _ (by simp) fun i d d' h1 e=>?_
 match i with
 |0=>cases h1;cases e;exact h
 |i+1=>
  simp only[D1S]at h1 e;rw[h1]at e;cases e;exact .same _
theorem A0p{Q:D→Heap→Prop}{ds:List D}{H:Heap}{b sz n:Nat}{es:List (List D)}(hb:H b=some (.vec sz es))(hn:n=es.length)(h:Fin Q (.agg (.sl sz es::ds)) (H.del b)):Fin Q (.agg (.vec b sz 0 n::ds)) H:=by
 subst hn;refine V3 hb (by simp) (fun i d d' h1 e=>?_) h
 match i with
 |0=>cases h1;cases e;exact .all
 |i+1=>
  simp only[D1S]at h1 e;rw[h1]at e;cases e;exact .same _
end Go.Lin
namespace Go.Proofs.YtibphjonmikciaaGreatDoor
open Go Go.Av Go.Lin
attribute [local irreducible] ACalls S3
theorem B6m{Q}(c:List Int)(hc:c≠[])(hl:c.length≤1000000)(H:Heap)(h: ∀(ob:Option Nat) (b:Nat),ob=some b→H b=none→Q (J3 2 c.length ob) (H.set b (.vec 2 (Rw C6 c)))):E6 257 [.sl 2 (Rw C6 c)] H Q:=by
 refine B2 [] A8 Tryz.func257 rfl ?_;simp only[go_sem,seval,Tryz.results257];have i:Rw C6 c≠[]:=fun e=>hc (D1K (by rw[←D6 (f:=C6),e];rfl));have hq: ∀(x:Nat),L3 Tryz.prog .eql 240 (L2 (.tmp x)||L2 (.const (.slice none 0 0))) (.sl 2 (Rw C6 c)) .nilsl=some (.bool false):=fun x=>A6G i (by kernel_rfl);repeat' (first|with_reducible apply D0w|simp only[go_sem,seval,hq]|intro d|omega)
 rename_i j o m;have g:=d;clear d;have hs:(H.set j (.vec 2 [])).del j=H:=E8 o;rw[hs]at g⊢;exact D2R (h (some m) m rfl g)
theorem C3l{Q}(r:Row)(hc:r.c≠[])(hl:r.c.length≤1000000)(H:Heap)(h:Q (.agg (C7 (A2y r))) H):E6 256 [.agg (C7 r)] H Q:=by
 refine B2 [] A8 Tryz.func256 rfl ?_;simp only[go_sem,seval,Tryz.results256];intro d h1 i q;simp only[A6]at q;have e1:((H.set d (.box (C7 r))).set i (.box [.nilsl,.bool false,.nilsl,.bool false])) d=some (.box (C7 r)):=by rw[A4 _ q.1.symm,A3]
 have e2:((H.set d (.box (C7 r))).set i (.box [.nilsl,.bool false,.nilsl,.bool false])) i=some (.box [.nilsl,.bool false,.nilsl,.bool false]):=A3 _ _;have u:H.Le ((H.set d (.box (C7 r))).set i (.box [.nilsl,.bool false,.nilsl,.bool false])):=(A0 h1).trans (A0 (by simp only[A6];exact q));have n1:d≠i:=q.1.symm;generalize (H.set d (.box (C7 r))).set i (.box [.nilsl,.bool false,.nilsl,.bool false])=Bs at e1 e2 u⊢;repeat' simp only[go_sem,seval,e1]
 refine B6m _ hc hl _ fun ob bv j z=>?_;have o3:=O3.put (H:=Bs) (sz:=2) (es:=Rw C6 r.c) (ob:=some bv) (by simp) (fun b e=>by cases e;exact z);rw[←j]at o3;have x:putB Bs 2 (Rw C6 r.c) ob=Bs.set bv (.vec 2 (Rw C6 r.c)):=by rw[j];rfl
 rw[x]at o3;generalize Bs.set bv (.vec 2 (Rw C6 r.c))=Hp at o3⊢;clear j x;repeat' (first|simp only[go_sem,seval]|(intro m;try simp only[A6]at m))
 rename_i bx;have y:=m;clear m;refine O3.ap o3 (e1':=Rw C6 r.c++[zB]) (D2N _) y (by simp) (by rw[D6]) (by simp only[D01,D03];omega) (by simp only[D01,D03];omega) rfl fun A H' p=>?_;clear o3 y;have J:=p.le _ _ e1;have L:=p.le _ _ e2;have C:A≠d:=fun g=>by have:=p.n1 _ rfl;rw[g,e1]at this;cases this
 have G:A≠i:=fun g=>by have:=p.n1 _ rfl;rw[g,e2]at this;cases this
 repeat' simp only[go_sem,seval,J,L,A4 _ n1,A4 _ n1.symm]
 refine A0p (es:=Rw C6 r.c++[zB]) (by rw[A4 _ G,A4 _ C];exact p.a1) (by rw[D02,D6];rfl) (D9 (B4e (B4d r.c)) (D2O (fun k o hk=>?_) h));have M:k≠d:=fun g=>by rw[g,h1]at hk;cases hk
 have O:k≠i:=fun g=>by rw[g,q.2]at hk;cases hk
 have I:=u _ _ hk;have T:k≠A:=fun g=>by have:=p.n1 _ rfl;rw[←g,I]at this;cases this
 rw[E5 T,A4 _ O,A4 _ M];exact p.le _ _ I
end Go.Proofs.YtibphjonmikciaaGreatDoor
namespace Go.Lin
open Go Go.Av Go.Lexs
structure ZR where
 es:List (List D)
 r:Row
def zrC(z:ZR):List D:=[.sl 2 z.es,.bool (decide (z.r.k<0)),.sl 1 (Rw F5 (C2 z.r.k.natAbs)),.bool z.r.eq]
def zOk(z:ZR):Prop:=NilR (.sl 2 z.es) (.sl 2 (Rw C6 z.r.c))
theorem B4f(l:List ZR)(h: ∀z∈l,zOk z):NilR (.sl 4 (Rw zrC l)) (.sl 4 (Rw C7 (l.map (·.r)))):=by
 have e:Rw C7 (l.map (·.r))=Rw (fun z:ZR=>C7 z.r) l:=by simp[Rw]
 rw[e];refine NilR.rw 4 l (fun z i=>rfl) fun z i j d d' h1 g=>?_
 match j with
 |0=>cases h1;cases g;exact h z i
 |1=>cases h1;cases g;exact .same _
 |2=>cases h1;cases g;exact .same _
 |3=>cases h1;cases g;exact .same _
 |j+4=>cases h1
def n8(names:List ByteArray)(ts:List LTm):List (List D):=names.map fun s=>match ts.find? (fun t=>decide (t.v=s))with|some t=>C6 t.c|none=>zB
theorem B4g(d:List ByteArray):n8 d []=List.replicate d.length zB:=by
 unfold n8;simp only[List.find?_nil];rw[List.map_const']
theorem B0g(d:List ByteArray)(e:List LTm):(n8 d e).length=d.length:=by simp[n8]
theorem B6n(d:List ByteArray)(e:List LTm)(i:Nat)(g:i<d.length)(hn: ∀t∈e,t.v≠d[i]):(n8 d e)[i]? =some zB∧(n8 d e).getD i []=zB:=by
 have h:e.find? (fun t=>decide (t.v=d[i]))=none:=by
  rw[List.find?_eq_none];intro t j;simp[hn t j]
 have:(n8 d e)[i]? =some zB:=by
  unfold n8;rw[D1J,D1D g,Option.map_some,h]
 exact⟨this,by rw[List.getD_eq_getElem?_getD,this];rfl⟩
theorem B6o(d:List ByteArray)(h:List LTm)(t:LTm)(i:Nat)(p:i<d.length)(he:d[i]=t.v)(m:d.Nodup)(hn: ∀x∈h,x.v≠t.v):(n8 d h).set i (C6 t.c)=n8 d (h++[t]):=by
 apply D2H
 ·simp[n8]
 ·intro j h1 y;have r:j<d.length:=by simpa [n8]using y
  by_cases e:i=j
  ·subst e;rw[List.getElem_set_self];have u:h.find? (fun x=>decide (x.v=d[i]))=none:=by
    rw[List.find?_eq_none];intro x hx;simp[he,hn x hx]
   simp only[n8,D1m,List.find?_append,u];simp[he]
  ·rw[List.getElem_set_ne e];have o:t.v≠d[j]:=fun g=>by
    rw[←he]at g;have hp:=List.pairwise_iff_getElem.1 m;rcases Nat.lt_or_gt_of_ne e with q|q
    ·exact hp i j p r q g
    ·exact hp j i r p q g.symm
   simp only[n8,D1m,List.find?_append];cases u:h.find? (fun x=>decide (x.v=d[j]))with
   |some x=>simp
   |none=>simp[o]
theorem B4h(l:List LTm)(s:ByteArray):B0V l s=match l.find? (fun t=>decide (t.v=s))with|some t=>t.c|none=>0:=by
 induction l with
 |nil=>rfl
 |cons t l d=>
  rw[B0V,List.find?_cons];by_cases h:t.v=s
  ·simp[h]
  ·simp[h,d]
theorem B6p(d:List ByteArray)(h:List LTm):NilR (.sl 2 (n8 d h)) (.sl 2 (Rw C6 (d.map (B0V h)))):=by
 refine B18 (by simp[n8,Rw]) fun i e e' h1 j=>?_;simp only[n8,Rw,D1J,D05]at h1 j;obtain⟨s,hs,rfl⟩:=h1;obtain⟨x,⟨m,g,rfl⟩,rfl⟩:=j;rw[hs]at g;cases g;rw[B4h];cases h.find? (fun t=>decide (t.v=s))with
 |some t=>exact .inl rfl
 |none=>exact .inr ⟨rfl,rfl⟩
theorem B0h(n i:Nat)(s:Int)(m:i<n):NilR (.sl 2 ((List.replicate n zB).set i (C6 s))) (.sl 2 (Rw C6 (A7b n i s))):=by
 refine B18 (by simp[Rw,A7b]) fun j e e' h1 d=>?_;have h:j<n:=by have:=(D06.1 h1).1;simpa using this
 simp only[Rw,A7b,D1J,D05]at d;obtain⟨x,⟨k,hk,rfl⟩,rfl⟩:=d;rw[List.getElem?_range h]at hk;cases hk;by_cases g:i=j
 ·subst g;rw[List.getElem?_set_self (by simpa using m)]at h1;cases h1;rw[if_pos rfl];exact .inl rfl
 ·rw[List.getElem?_set_ne g]at h1;simp[h]at h1;rw[if_neg (fun q=>g q.symm)];exact .inr ⟨h1.symm,rfl⟩
end Go.Lin
namespace Go.Proofs
open Go.RowKit Go.Maps Go.Sort Go.Shelf

--maps.Keys[map[string]bool,string,bool] (function 47;its iterator 89) · slices.Sorted[string] (46) · slices.Sort[[]string,string] (88) · the map's type 72,the keys' 9
def Tryz.keys47_ren:Go.Shelf.Ren:=⟨fun|7=>47|10=>89|n=>n,fun|23=>72|26=>9|3=>4|28=>77|0=>0|27=>76|33=>123|4=>4|n=>n,fun|n=>n⟩
theorem A2V:SlLaysZ.n7 Tryz.prog Tryz.keys47_ren:={
 mixed:=by kernel_rfl
 f7:=Exists.intro "maps.Keys[map[string]bool,string,bool]" ⟨D0x (by kernel_rfl),(Tryz.func47).trans (congrArg some (by kernel_rfl))⟩
 f10:=Exists.intro "maps.Keys[map[string]bool,string,bool]$1" ⟨D0x (by kernel_rfl),(Tryz.func89).trans (congrArg some (by kernel_rfl))⟩
 t0:=Tryz.underlying0
 a0:=Tryz.isAgg0
 z0:=Tryz.sizeOf0
 v0:=Tryz.zeroValue0
 t4:=Tryz.underlying4
 a4:=Tryz.isAgg4
 z4:=Tryz.sizeOf4
 v4:=Tryz.zeroValue4
 t23:=Tryz.underlying72
 a23:=Tryz.isAgg72
 z23:=Tryz.sizeOf72
 v23:=Tryz.zeroValue72
 t26:=Tryz.underlying9
 a26:=Tryz.isAgg9
 z26:=Tryz.sizeOf9
 v26:=Tryz.zeroValue9
 t27:=Tryz.underlying76
 a27:=Tryz.isAgg76
 z27:=Tryz.sizeOf76
 v27:=Tryz.zeroValue76
 t28:=Tryz.underlying77
 a28:=Tryz.isAgg77
 z28:=Tryz.sizeOf77
 v28:=Tryz.zeroValue77
 t33:=Tryz.underlying123
 a33:=Tryz.isAgg123
 z33:=Tryz.sizeOf123
 v33:=Tryz.zeroValue123}
def Tryz.sorted46_ren:Go.Shelf.Ren:=⟨fun|6=>46|8=>87|9=>88|11=>132|13=>134|12=>133|23=>169|24=>170|14=>160|15=>161|16=>162|17=>163|18=>164|19=>165|20=>166|21=>167|22=>168|25=>203|26=>204|27=>205|28=>206|29=>207|30=>208|31=>231|n=>n,fun|26=>9|28=>77|24=>31|0=>0|3=>3|37=>163|48=>194|50=>196|4=>4|40=>188|39=>187|45=>92|5=>5|9=>9|51=>226|55=>230|57=>256|58=>257|33=>123|n=>n,fun|n=>n⟩
theorem A22:SlLaysZ.n6 Tryz.prog Tryz.sorted46_ren:={
 mixed:=by kernel_rfl
 f6:=Exists.intro "slices.Sorted[string]" ⟨D0x (by kernel_rfl),(Tryz.func46).trans (congrArg some (by kernel_rfl))⟩
 f8:=Exists.intro "slices.Collect[string]" ⟨D0x (by kernel_rfl),(Tryz.func87).trans (congrArg some (by kernel_rfl))⟩
 f11:=Exists.intro "slices.AppendSeq[[]string,string]" ⟨D0x (by kernel_rfl),(Tryz.func132).trans (congrArg some (by kernel_rfl))⟩
 t0:=Tryz.underlying0
 a0:=Tryz.isAgg0
 z0:=Tryz.sizeOf0
 v0:=Tryz.zeroValue0
 t24:=Tryz.underlying31
 a24:=Tryz.isAgg31
 z24:=Tryz.sizeOf31
 v24:=Tryz.zeroValue31
 t26:=Tryz.underlying9
 a26:=Tryz.isAgg9
 z26:=Tryz.sizeOf9
 v26:=Tryz.zeroValue9
 t28:=Tryz.underlying77
 a28:=Tryz.isAgg77
 z28:=Tryz.sizeOf77
 v28:=Tryz.zeroValue77
 i26:=by kernel_rfl}
def Tryz.sort88_ren:Go.Shelf.Ren:=⟨fun|6=>88|8=>134|9=>133|19=>169|20=>170|21=>160|22=>161|23=>162|24=>163|25=>164|26=>165|27=>166|28=>167|29=>168|36=>203|31=>204|32=>205|37=>206|38=>207|39=>208|41=>231|n=>n,fun|27=>31|29=>9|3=>3|32=>163|26=>31|0=>0|44=>194|46=>196|4=>4|36=>188|35=>187|41=>92|5=>5|9=>9|53=>226|57=>230|63=>256|64=>257|n=>n,fun|n=>n⟩
theorem A5J:SlLaysM.n6 Tryz.prog Tryz.sort88_ren:={
 mixed:=by kernel_rfl
 f6:=Exists.intro "slices.Sort[[]string,string]" ⟨D0x (by kernel_rfl),(Tryz.func88).trans (congrArg some (by kernel_rfl))⟩
 f8:=(Tryz.func134).trans (congrArg some (by kernel_rfl))
 f9:=Exists.intro "slices.pdqsortOrdered[string]" ⟨D0x (by kernel_rfl),(Tryz.func133).trans (congrArg some (by kernel_rfl))⟩
 f19:=(Tryz.func169).trans (congrArg some (by kernel_rfl))
 f20:=(Tryz.func170).trans (congrArg some (by kernel_rfl))
 f21:=Exists.intro "slices.insertionSortOrdered[string]" ⟨D0x (by kernel_rfl),(Tryz.func160).trans (congrArg some (by kernel_rfl))⟩
 f22:=Exists.intro "slices.heapSortOrdered[string]" ⟨D0x (by kernel_rfl),(Tryz.func161).trans (congrArg some (by kernel_rfl))⟩
 f23:=Exists.intro "slices.breakPatternsOrdered[string]" ⟨D0x (by kernel_rfl),(Tryz.func162).trans (congrArg some (by kernel_rfl))⟩
 f24:=Exists.intro "slices.choosePivotOrdered[string]" ⟨D0x (by kernel_rfl),(Tryz.func163).trans (congrArg some (by kernel_rfl))⟩
 f25:=Exists.intro "slices.reverseRangeOrdered[string]" ⟨D0x (by kernel_rfl),(Tryz.func164).trans (congrArg some (by kernel_rfl))⟩
 f26:=Exists.intro "slices.partialInsertionSortOrdered[string]" ⟨D0x (by kernel_rfl),(Tryz.func165).trans (congrArg some (by kernel_rfl))⟩
 f27:=Exists.intro "cmp.Less[string]" ⟨D0x (by kernel_rfl),(Tryz.func166).trans (congrArg some (by kernel_rfl))⟩
 f28:=Exists.intro "slices.partitionEqualOrdered[string]" ⟨D0x (by kernel_rfl),(Tryz.func167).trans (congrArg some (by kernel_rfl))⟩
 f29:=Exists.intro "slices.partitionOrdered[string]" ⟨D0x (by kernel_rfl),(Tryz.func168).trans (congrArg some (by kernel_rfl))⟩
 f31:=(Tryz.func204).trans (congrArg some (by kernel_rfl))
 f32:=(Tryz.func205).trans (congrArg some (by kernel_rfl))
 f36:=Exists.intro "slices.siftDownOrdered[string]" ⟨D0x (by kernel_rfl),(Tryz.func203).trans (congrArg some (by kernel_rfl))⟩
 f37:=Exists.intro "slices.medianAdjacentOrdered[string]" ⟨D0x (by kernel_rfl),(Tryz.func206).trans (congrArg some (by kernel_rfl))⟩
 f38:=Exists.intro "slices.medianOrdered[string]" ⟨D0x (by kernel_rfl),(Tryz.func207).trans (congrArg some (by kernel_rfl))⟩
 f39:=Exists.intro "cmp.isNaN[string]" ⟨D0x (by kernel_rfl),(Tryz.func208).trans (congrArg some (by kernel_rfl))⟩
 f41:=Exists.intro "slices.order2Ordered[string]" ⟨D0x (by kernel_rfl),(Tryz.func231).trans (congrArg some (by kernel_rfl))⟩
 t0:=Tryz.underlying0
 a0:=Tryz.isAgg0
 z0:=Tryz.sizeOf0
 v0:=Tryz.zeroValue0
 t3:=Tryz.underlying3
 a3:=Tryz.isAgg3
 z3:=Tryz.sizeOf3
 v3:=Tryz.zeroValue3
 t4:=Tryz.underlying4
 a4:=Tryz.isAgg4
 z4:=Tryz.sizeOf4
 v4:=Tryz.zeroValue4
 t5:=Tryz.underlying5
 a5:=Tryz.isAgg5
 z5:=Tryz.sizeOf5
 v5:=Tryz.zeroValue5
 t9:=Tryz.underlying9
 a9:=Tryz.isAgg9
 z9:=Tryz.sizeOf9
 v9:=Tryz.zeroValue9
 t26:=Tryz.underlying31
 a26:=Tryz.isAgg31
 z26:=Tryz.sizeOf31
 v26:=Tryz.zeroValue31
 t27:=Tryz.underlying31
 a27:=Tryz.isAgg31
 z27:=Tryz.sizeOf31
 v27:=Tryz.zeroValue31
 t29:=Tryz.underlying9
 a29:=Tryz.isAgg9
 z29:=Tryz.sizeOf9
 v29:=Tryz.zeroValue9
 t32:=Tryz.underlying163
 a32:=Tryz.isAgg163
 z32:=Tryz.sizeOf163
 v32:=Tryz.zeroValue163
 t35:=Tryz.underlying187
 a35:=Tryz.isAgg187
 z35:=Tryz.sizeOf187
 v35:=Tryz.zeroValue187
 t36:=Tryz.underlying188
 a36:=Tryz.isAgg188
 z36:=Tryz.sizeOf188
 v36:=Tryz.zeroValue188
 t41:=Tryz.underlying92
 a41:=Tryz.isAgg92
 z41:=Tryz.sizeOf92
 v41:=Tryz.zeroValue92
 t44:=Tryz.underlying194
 a44:=Tryz.isAgg194
 z44:=Tryz.sizeOf194
 v44:=Tryz.zeroValue194
 t46:=Tryz.underlying196
 a46:=Tryz.isAgg196
 z46:=Tryz.sizeOf196
 v46:=Tryz.zeroValue196
 t53:=Tryz.underlying226
 a53:=Tryz.isAgg226
 z53:=Tryz.sizeOf226
 v53:=Tryz.zeroValue226
 t57:=Tryz.underlying230
 a57:=Tryz.isAgg230
 z57:=Tryz.sizeOf230
 v57:=Tryz.zeroValue230
 t63:=Tryz.underlying256
 a63:=Tryz.isAgg256
 z63:=Tryz.sizeOf256
 v63:=Tryz.zeroValue256
 t64:=Tryz.underlying257
 a64:=Tryz.isAgg257
 z64:=Tryz.sizeOf257
 v64:=Tryz.zeroValue257}
theorem A4C(m:Nat):AnyZ.SortsIn Tryz.prog Tryz.sorted46_ren Fence.wide m:=
  ⟨fun e off cap g W h d hsz=>callsIn_wide.2 (AnyM.slices_Sort_string A5J e off cap g W h d hsz),
   fun p cap W=>callsIn_wide.2 (AnyM.slices_Sort_string_none A5J p cap W)⟩
theorem A0r(mb:Option Nat)(W:World):CallsIn Fence.wide 5 Tryz.prog 47 #[.map mb] W fun e w'=>e= .returned (.func (.func 89) #[] #[.pointer (some ⟨W.heap.size,0,none⟩)])∧w'=W.alloc (.cells #[.map mb] 72):=
 AnyZ.keys_in A2V Fence.wide 5 trivial rfl mb W
end Go.Proofs
namespace Go.Lin
open Go Go.Av Go.RowKit Go.Maps Go.Sort Go.Shelf Go.Lexs Go.WideElems
theorem A49{H:Type}(x:Lit×DataW H): ∀l:List (Lit×DataW H),(DataW.insert x l).Perm (x::l)
 | []=>List.Perm.refl _
 |y::l=>by
  unfold DataW.insert;split
  ·exact List.Perm.refl _
  ·exact((A49 x l).cons y).trans (List.Perm.swap x y l)
theorem A0S{H:Type}: ∀l:List (Lit×DataW H),(l.foldr DataW.insert []).Perm l
 | []=>List.Perm.refl _
 |x::l=>(A49 x _).trans ((A0S l).cons x)
def A1u{H:Type}:Value→Option (DataW H×List MemPlace):=fun _=>some (.lit (.bool true),[])
def D4(f:ByteArray→D)(ks:List ByteArray):List (D×D):=ks.map fun s=>(.str s,f s)
theorem B3S{d:List (List UInt8)}(e:d.Nodup):((d.mergeSort (fun x y=>decide (x≤y))).map S).Pairwise fun x y=>W8 x y=true:=by
 have h1:(d.mergeSort (fun x y=>decide (x≤y))).Pairwise (fun x y=>decide (x≤y)=true):=List.pairwise_mergeSort (fun a b c h1 i=>by simp only[D1I]at*;exact List.le_trans h1 i) (fun a b=>by simp only[D2J,D1I];exact List.le_total a b) d;have i:(d.mergeSort (fun x y=>decide (x≤y))).Nodup:=(List.mergeSort_perm d _).nodup_iff.2 e;rw[List.pairwise_map];refine(h1.and i).imp fun {x y} h=>?_;rw[A3l,y5,y5];have j:x≤y:=D0x h.1;by_cases g:x<y
 ·exact g
 ·exact absurd (List.le_antisymm j (List.not_lt.1 g)) h.2
end Go.Lin
namespace Go.Proofs.YtibphjonmikciaaGreatDoor
open Go Go.Av Go.RowKit Go.Maps Go.Sort Go.Shelf Go.Lexs Go.WideElems Go.Lin
theorem B9n{Q}(b:Nat)(H:Heap)(h: ∀bk,H bk=none→Q (.fn (.func 89) [] [.box bk 0]) (H.set bk (.box [.map b]))):E6 47 [.map b] H Q:=by
 refine⟨by kernel_rfl,fun w vs hl hr hs=>?_⟩;obtain⟨a,rfl,m⟩:=A2J hl hr;have o:a= .map (some b):=by cases m;rfl
 subst o;refine(callsIn_wide.1 (A0r (some b) w)).mono ?_;rintro e w' ⟨rfl,rfl⟩;have hp:=A3V (K:=fun d H'=>∃bk,d= .box bk 0∧H bk=none∧H'=H.set bk (.box [.map b])) hs (cs:=[.map b]) (vs:= #[.map (some b)]) 72 (Z:=none) (by simp) ⟨rfl,fun i d g=>(match i,g with|0,g=>by cases g;rfl|i+1,g=>by cases g),fun i d g=>(match i,g with|0,g=>by cases g;exact .map b|i+1,g=>by cases g)⟩ (fun bk j=>⟨bk,rfl,j,rfl⟩);obtain⟨d,x,p,q,r,u,bk,rfl,j,rfl⟩:=hp;refine⟨_,rfl,.fn (.func 89) [] [.box bk 0],_,?_,q,r,u,h bk j⟩;refine .fn _ [] [.box bk 0] #[] #[_] rfl rfl (by simp) fun i d g=>?_
 match i with
 |0=>cases g;exact p
 |i+1=>cases g
theorem B9o{Q}(r b:Nat)(f:ByteArray→D)(ks:List ByteArray)(hlen:ks.length≤1000000000)(hsz: ∀s∈ks,s.size≤4611686018427387904)(H:Heap)(h1:H r=some (.box [.map b]))(O:H b=some (.map (D4 f ks)))
  (h: ∀l:List ByteArray,l.Pairwise (fun x y=>W8 x y=true)→(∀s,s∈l↔s∈ks)→Q (.sl 1 (Rw I6 l)) H):E6 46 [.fn (.func 89) [] [.box r 0]] H Q:=by
 refine⟨by kernel_rfl,fun w vs hl hr hs=>?_⟩;obtain⟨a,rfl,ha⟩:=A2J hl hr;have ea:a= .func (.func 89) #[] #[.pointer (some ⟨r,0,none⟩)]:=by
  cases ha with
  |fn _ _ _ a9 b0 b1 b2 q1 q2=>
   have e1:a9= #[]:=Array.eq_empty_of_size_eq_zero (by simpa using b1.symm);obtain⟨l2⟩:=b0
   match l2,b2 with
   | [x],_=>
    have hx:=q2 0 _ rfl;have:x= .pointer (some ⟨r,0,none⟩):=by
     simp at hx;cases hx;rfl
    rw[e1,this]
 subst ea;obtain⟨c,T,lo,u,c1,_,c2,c3,_⟩:=hs _ _ h1;obtain⟨es,C,m1,m2,m3,m4⟩:=hs _ _ O;have b3:c[0]? =some (.map (some b)):=by
  have h0:=(c3 0 (.map b) rfl).2;have hsz:0<c.size:=by rw[c2];simp
  have e:c[0]? =some (c.getD 0 undef):=by simp[hsz]
  rw[e];revert h0;generalize c.getD 0 undef=x;intro h0;cases h0;rfl
 have G:w.cell? ⟨r,0,none⟩=some (.map (some b)):=by
  unfold World.cell?;simp only[c1];exact b3
 have b4:r<w.heap.size:=hs.lt h1;have U: ∀(i:Nat) (u:i<ks.length),(es.getD i default).key= .string ks[i]:=fun i u=>by
  have:=(m4 i (.str ks[i],f ks[i]) (by simp[D4,u])).2.1;revert this;generalize (es.getD i default).key=x;intro this;cases this;rfl
 have V:es.size=ks.length:=by rw[m3];simp[D4]
 have I:es.toList.map (·.key)=ks.map .string:=by
  apply D2H
  ·simp[V]
  ·intro i h1 O;have u:i<ks.length:=by simpa using O
   have:=U i u;have m:i<es.size:=by omega
   simp[m]at this;simp[this]
 have W: ∀x∈es.toList,∃s∈ks,x.key= .string s:=fun x hx=>by
  have:x.key∈es.toList.map (·.key):=D1u.2 ⟨x,hx,rfl⟩;rw[I]at this;obtain⟨s,hs,e⟩:=D1u.1 this;exact⟨s,hs,e.symm⟩
 have X:Tryz.prog.underlying 9=some .string:=by kernel_rfl
 have Y: ∀x∈es.toList,∀s,s∈ks→x.key= .string s→WideElems.rd (H:=Unit) Tryz.prog 9 A1u x=some (.string s.data.toList,.lit (.bool true)):=fun x _ s hs e=>by
  unfold WideElems.rd;rw[e,WideMaps.keyOf_string_mk X (by have:=hsz s hs;unfold maxLen;omega)];rfl
 have a0:w.ownsMap (H:=Unit) Tryz.prog 9 A1u b es.size (.map ((es.toList.map (rg Tryz.prog 9 A1u)).foldr DataW.insert [])):=by
  refine⟨es,C,m1,⟨by unfold maxLen;omega,m2,fun x hx=>?_⟩,D1G _,rfl⟩;obtain⟨s,hs,e⟩:=W x hx;exact⟨_,Y x hx s hs e⟩
 have b6: ∀x∈es.toList,∀s,s∈ks→x.key= .string s→rg (H:=Unit) Tryz.prog 9 A1u x=(.string s.data.toList,.lit (.bool true)):=fun x hx s hs e=>rg_of (Y x hx s hs e);have b7:(strKeys (H:=Unit) (.map ((es.toList.map (rg Tryz.prog 9 A1u)).foldr DataW.insert []))).Perm (ks.map B):=by
  show (((es.toList.map (rg Tryz.prog 9 A1u)).foldr DataW.insert []).map fun p=>strOf p.1).Perm _;refine((A0S _).map _).trans ?_;rw[List.map_map];have:es.toList.map ((fun p=>strOf p.1) ∘ rg (H:=Unit) Tryz.prog 9 A1u)=ks.map B:=by
   have e2:ks.map B=(es.toList.map (·.key)).map (fun v=>match v with| .string s=>B s|_=>[]):=by rw[I,List.map_map];rfl
   rw[e2,List.map_map];refine List.map_congr_left fun x hx=>?_;obtain⟨s,hs,e⟩:=W x hx;simp only[Function.comp];rw[b6 x hx s hs e,e];rfl
  rw[this]
 have b8:(ks.map B).Nodup:=by
  have:=m2.2.2;rw[I]at this;have O:List.Pairwise (fun a b:ByteArray=>Value.string a≠Value.string b) ks:=List.pairwise_map.1 this;have M:List.Pairwise (fun a b:ByteArray=>B a≠B b) ks:=O.imp fun {a b} h e=>h (congrArg Value.string (Y5 e));exact List.pairwise_map.2 M
 have a4:=AnyZ.keys_gives (ρ :=Tryz.keys47_ren) {A2V with} Fence.wide 2 trivial rfl (by omega) r b es.size _ w b4 G a0;have a5:Maps.size (.map ((es.toList.map (rg (H:=Unit) Tryz.prog 9 A1u)).foldr DataW.insert []):DataW Unit)=ks.length:=by
  show (((es.toList.map (rg Tryz.prog 9 A1u)).foldr DataW.insert [])).length=_;rw[(A0S _).length_eq];simp[V]
 refine(callsIn_wide.1 (AnyZ.sorted_in A22 Fence.wide 5 trivial trivial trivial trivial rfl (by omega) (A4C _) (enters_of Tryz.func88 (by kernel_rfl) rfl) 89 #[.pointer (some ⟨r,0,none⟩)] trivial (enters_of Tryz.func89 (by kernel_rfl) rfl) _ _ (by rw[a5];unfold maxLen;omega) (by rw[a5];omega) w a4)).mono ?_;rintro e w' ⟨v,o,rfl,hS,A,_,hB⟩;have hp:o.Perm (ks.map B):=hS.trans b7;have b9:o.Nodup:=hp.nodup_iff.2 b8;have c0:=B3S b9;have a6: ∀s,s∈(o.mergeSort (fun x y=>decide (x≤y))).map S↔s∈ks:=fun s=>by
  rw[D1u];constructor
  ·rintro⟨x,hx,rfl⟩;have:=hp.mem_iff.1 ((List.mergeSort_perm o _).mem_iff.1 hx);obtain⟨t,ht,rfl⟩:=D1u.1 this;rw[S_B];exact ht
  ·intro hs;refine⟨B s,(List.mergeSort_perm o _).mem_iff.2 (hp.mem_iff.2 (D1u.2 ⟨s,hs,rfl⟩)),S_B s⟩
 refine⟨v,rfl,.sl 1 (Rw I6 ((o.mergeSort (fun x y=>decide (x≤y))).map S)),H,?_,A4h hs hB,A2l hB,D2T _ _,h _ c0 a6⟩;have J:((o.mergeSort (fun x y=>decide (x≤y))).map S).length=o.length:=by simp
 generalize o.mergeSort (fun x y=>decide (x≤y))=zs at A J⊢;obtain⟨r1,r2⟩:=A;rcases r2 with⟨rfl,r3⟩|⟨g,cap,q,rfl,r3,r4,r5,r6,r7,r8⟩
 ·have:zs.map S= []:=D1K (by rw[J,r3]);rw[this];exact .sl0 _ _ _
 ·have L:(Rw I6 (zs.map S)).length=o.length:=by rw[D6,J]
  rw[←L];refine .sl 1 _ g 0 cap (fun i j=>q.getD i undef) ?_ ?_ (fun i e he=>?_) (by rw[L];exact r5) (fun i j u hj=>?_) (fun i e j d he hd=>?_) (fun i e j d he hd=>?_)
  ·by_cases a7:g<w'.heap.size
   ·exact a7
   ·rw[Array.getElem?_eq_none (Nat.le_of_not_lt a7)]at r4;cases r4
  ·exact I1 (hs.fresh r3)
  ·rw[Rw,D1J]at he;obtain⟨x,_,rfl⟩:=D05.1 he;rfl
  ·have c4:j=0:=by omega
   subst c4;have m:i<q.size:=by rw[L]at u;rw[r7];omega
   unfold World.cell?;simp only[r4];simp[m]
  ·rw[Rw,D1J]at he;obtain⟨x,_,rfl⟩:=D05.1 he
   match j with
   |0=>cases hd;rfl
   |j+1=>cases hd
  ·rw[Rw,D1J,D1J]at he;obtain⟨x,hx,rfl⟩:=D05.1 he;obtain⟨z,hz,rfl⟩:=D05.1 hx
   match j with
   |0=>
    cases hd;have u:i<zs.length:=(D06.1 hz).1;have M:(q.toList.take (o.length*1))[i]? =some (encStr z):=by rw[r8,D1J,hz];rfl
    rw[List.getElem?_take]at M;split at M
    ·have:q[i]? =some (encStr z):=by simpa using M
     have e:q.getD i undef=encStr z:=by
      have m:=(D1L.1 this)
      obtain⟨c5,c6⟩:=m;simp[c5,c6]
     rw[e];exact .str _
    ·cases M
   |j+1=>cases hd
end Go.Proofs.YtibphjonmikciaaGreatDoor
namespace Go.Proofs
open Go.Shelf
def Tryz.lays106_ren:Go.Shelf.Ren:=⟨fun|106=>106|213=>139|265=>174|n=>n,fun|9=>9|3=>3|n=>n,fun|n=>n⟩
theorem A9Z:Go.Proofs.Lays.n106 Tryz.prog Tryz.lays106_ren:={
 mixed:=by kernel_rfl
 f106:=Tryz.func106.trans (congrArg some (by kernel_rfl))
 f213:=Tryz.func139.trans (congrArg some (by kernel_rfl))
 f265:=Tryz.func174.trans (congrArg some (by kernel_rfl))
 t3:=Tryz.underlying3
 a3:=Tryz.isAgg3
 z3:=Tryz.sizeOf3
 v3:=Tryz.zeroValue3
 t9:=Tryz.underlying9
 a9:=Tryz.isAgg9
 z9:=Tryz.sizeOf9
 v9:=Tryz.zeroValue9}
open Go.RowKit in
theorem Tryz.strings_Compare(a b:ByteArray)(w:World):
  Calls Tryz.prog 106 #[.string a,.string b] w fun e w'=>e= .returned (.int .i64 (Lib.compareBytes a.data.toList b.data.toList))∧w'=w:=Any.strings_Compare A9Z a b w
def Tryz.lays137_ren:Go.Shelf.Ren:=⟨fun|137=>138|217=>173|266=>209|n=>n,fun|9=>9|5=>5|3=>3|n=>n,fun|n=>n⟩
theorem A9a:Go.Proofs.Lays.n137 Tryz.prog Tryz.lays137_ren:={
 mixed:=by kernel_rfl
 f137:=Tryz.func138.trans (congrArg some (by kernel_rfl))
 f217:=Tryz.func173.trans (congrArg some (by kernel_rfl))
 f266:=Tryz.func209.trans (congrArg some (by kernel_rfl))
 t3:=Tryz.underlying3
 a3:=Tryz.isAgg3
 z3:=Tryz.sizeOf3
 v3:=Tryz.zeroValue3
 t5:=Tryz.underlying5
 a5:=Tryz.isAgg5
 z5:=Tryz.sizeOf5
 v5:=Tryz.zeroValue5
 t9:=Tryz.underlying9
 a9:=Tryz.isAgg9
 z9:=Tryz.sizeOf9
 v9:=Tryz.zeroValue9}
open Go.RowKit in
theorem Tryz.strings_IndexByte(s:ByteArray)(c:Int)(w:World):
  Calls Tryz.prog 138 #[.string s,.int .u8 c] w fun e w'=>e= .returned (.int .i64 (Lib.indexByte s.data.toList c.toNat.toUInt8))∧w'=w:=Any.strings_IndexByte A9a s c w
def Tryz.lays103_ren:Go.Shelf.Ren:=⟨fun|103=>145|210=>177|206=>211|n=>n,fun|9=>9|4=>4|24=>171|3=>3|n=>n,fun|n=>n⟩
theorem A9X:Go.Proofs.Lays.n103 Tryz.prog Tryz.lays103_ren:={
 mixed:=by kernel_rfl
 f103:=Tryz.func145.trans (congrArg some (by kernel_rfl))
 f206:=Tryz.func211.trans (congrArg some (by kernel_rfl))
 f210:=Tryz.func177.trans (congrArg some (by kernel_rfl))
 t3:=Tryz.underlying3
 a3:=Tryz.isAgg3
 z3:=Tryz.sizeOf3
 v3:=Tryz.zeroValue3
 t4:=Tryz.underlying4
 a4:=Tryz.isAgg4
 z4:=Tryz.sizeOf4
 v4:=Tryz.zeroValue4
 t9:=Tryz.underlying9
 a9:=Tryz.isAgg9
 z9:=Tryz.sizeOf9
 v9:=Tryz.zeroValue9
 t24:=Tryz.underlying171
 a24:=Tryz.isAgg171
 z24:=Tryz.sizeOf171
 v24:=Tryz.zeroValue171}
open Go.RowKit in
theorem Tryz.strings_CutPrefix(s p:ByteArray)(w:World):
  Calls Tryz.prog 145 #[.string s,.string p] w fun e w'=>e= .returned (.tuple #[.string ⟨(Lib.trimPrefix s.data.toList p.data.toList).toArray⟩,.bool (Lib.hasPrefix s.data.toList p.data.toList)])∧w'=w:=Any.strings_CutPrefix A9X s p w
def Tryz.lays104_ren:Go.Shelf.Ren:=⟨fun|104=>147|211=>182|207=>184|n=>n,fun|9=>9|4=>4|24=>171|3=>3|n=>n,fun|n=>n⟩
theorem A9Y:Go.Proofs.Lays.n104 Tryz.prog Tryz.lays104_ren:={
 mixed:=by kernel_rfl
 f104:=Tryz.func147.trans (congrArg some (by kernel_rfl))
 f207:=Tryz.func184.trans (congrArg some (by kernel_rfl))
 f211:=Tryz.func182.trans (congrArg some (by kernel_rfl))
 t3:=Tryz.underlying3
 a3:=Tryz.isAgg3
 z3:=Tryz.sizeOf3
 v3:=Tryz.zeroValue3
 t4:=Tryz.underlying4
 a4:=Tryz.isAgg4
 z4:=Tryz.sizeOf4
 v4:=Tryz.zeroValue4
 t9:=Tryz.underlying9
 a9:=Tryz.isAgg9
 z9:=Tryz.sizeOf9
 v9:=Tryz.zeroValue9
 t24:=Tryz.underlying171
 a24:=Tryz.isAgg171
 z24:=Tryz.sizeOf171
 v24:=Tryz.zeroValue171}
open Go.RowKit in
theorem Tryz.strings_CutSuffix(s p:ByteArray)(w:World)(hs:s.size≤9223372036854775807):
  Calls Tryz.prog 147 #[.string s,.string p] w fun e w'=>e= .returned (.tuple #[.string ⟨(Lib.trimSuffix s.data.toList p.data.toList).toArray⟩,.bool (Lib.hasSuffix s.data.toList p.data.toList)])∧w'=w:=Any.strings_CutSuffix A9Y s p w hs
def Tryz.laysM171_ren:Go.Shelf.Ren:=⟨fun|171=>142|243=>176|246=>210|283=>232|284=>233|285=>234|286=>235|129=>170|317=>268|318=>269|319=>270|320=>271|337=>289|338=>290|n=>n,fun|3=>3|9=>9|2=>2|4=>4|171=>259|0=>0|53=>196|37=>95|5=>5|173=>261|212=>288|51=>194|20=>20|213=>289|46=>163|232=>316|233=>317|n=>n,fun|17=>1|18=>4|19=>5|n=>n⟩
theorem A7D:Go.Proofs.LaysM.n171 Tryz.prog Tryz.laysM171_ren:={
 mixed:=by kernel_rfl
 f129:=Tryz.func170.trans (congrArg some (by kernel_rfl))
 f171:=Tryz.func142.trans (congrArg some (by kernel_rfl))
 f243:=Tryz.func176.trans (congrArg some (by kernel_rfl))
 f246:=Tryz.func210.trans (congrArg some (by kernel_rfl))
 f283:=Tryz.func232.trans (congrArg some (by kernel_rfl))
 f284:=Tryz.func233.trans (congrArg some (by kernel_rfl))
 f285:=Tryz.func234.trans (congrArg some (by kernel_rfl))
 f286:=Tryz.func235.trans (congrArg some (by kernel_rfl))
 f317:=Tryz.func268.trans (congrArg some (by kernel_rfl))
 f318:=Tryz.func269.trans (congrArg some (by kernel_rfl))
 f319:=Tryz.func270.trans (congrArg some (by kernel_rfl))
 f320:=Tryz.func271.trans (congrArg some (by kernel_rfl))
 f337:=Tryz.func289.trans (congrArg some (by kernel_rfl))
 f338:=Tryz.func290.trans (congrArg some (by kernel_rfl))
 t0:=Tryz.underlying0
 a0:=Tryz.isAgg0
 z0:=Tryz.sizeOf0
 v0:=Tryz.zeroValue0
 t2:=Tryz.underlying2
 a2:=Tryz.isAgg2
 z2:=Tryz.sizeOf2
 v2:=Tryz.zeroValue2
 t3:=Tryz.underlying3
 a3:=Tryz.isAgg3
 z3:=Tryz.sizeOf3
 v3:=Tryz.zeroValue3
 t4:=Tryz.underlying4
 a4:=Tryz.isAgg4
 z4:=Tryz.sizeOf4
 v4:=Tryz.zeroValue4
 t5:=Tryz.underlying5
 a5:=Tryz.isAgg5
 z5:=Tryz.sizeOf5
 v5:=Tryz.zeroValue5
 t9:=Tryz.underlying9
 a9:=Tryz.isAgg9
 z9:=Tryz.sizeOf9
 v9:=Tryz.zeroValue9
 t20:=Tryz.underlying20
 a20:=Tryz.isAgg20
 z20:=Tryz.sizeOf20
 v20:=Tryz.zeroValue20
 t37:=Tryz.underlying95
 a37:=Tryz.isAgg95
 z37:=Tryz.sizeOf95
 v37:=Tryz.zeroValue95
 t46:=Tryz.underlying163
 a46:=Tryz.isAgg163
 z46:=Tryz.sizeOf163
 v46:=Tryz.zeroValue163
 t51:=Tryz.underlying194
 a51:=Tryz.isAgg194
 z51:=Tryz.sizeOf194
 v51:=Tryz.zeroValue194
 t53:=Tryz.underlying196
 a53:=Tryz.isAgg196
 z53:=Tryz.sizeOf196
 v53:=Tryz.zeroValue196
 t171:=Tryz.underlying259
 a171:=Tryz.isAgg259
 z171:=Tryz.sizeOf259
 v171:=Tryz.zeroValue259
 t173:=Tryz.underlying261
 a173:=Tryz.isAgg261
 z173:=Tryz.sizeOf261
 v173:=Tryz.zeroValue261
 t212:=Tryz.underlying288
 a212:=Tryz.isAgg288
 z212:=Tryz.sizeOf288
 v212:=Tryz.zeroValue288
 t213:=Tryz.underlying289
 a213:=Tryz.isAgg289
 z213:=Tryz.sizeOf289
 t232:=Tryz.underlying316
 a232:=Tryz.isAgg316
 z232:=Tryz.sizeOf316
 v232:=Tryz.zeroValue316
 t233:=Tryz.underlying317
 a233:=Tryz.isAgg317
 z233:=Tryz.sizeOf317
 v233:=Tryz.zeroValue317
 g17:=by kernel_rfl
 g18:=by kernel_rfl
 g19:=by kernel_rfl
 i0:=by kernel_rfl
 i2:=by kernel_rfl
 i3:=by kernel_rfl
 i4:=by kernel_rfl
 i5:=by kernel_rfl
 i9:=by kernel_rfl
 i20:=by kernel_rfl
 i37:=by kernel_rfl
 i46:=by kernel_rfl
 i51:=by kernel_rfl
 i53:=by kernel_rfl
 i171:=by kernel_rfl
 i173:=by kernel_rfl
 i212:=by kernel_rfl
 i232:=by kernel_rfl
 i233:=by kernel_rfl
 m17:=by kernel_rfl
 m18:=by kernel_rfl
 m19:=by kernel_rfl}
open Go.RowKit Go.Sort Go.Lib in
theorem Tryz.strconv_Itoa(n:Int)(g: -9223372036854775808≤n)(h1:n≤9223372036854775807)(w:World)(d:Lib.TabIs Tryz.prog w "internal/strconv.uint64pow10" .u64 Lib.pow10Tab):
  Calls Tryz.prog 142 #[.int .i64 n] w fun e w'=>e= .returned (.string ⟨(Lib.itoa n).toArray⟩)∧∃k os,w'=grow (w.drewN k) os:=Any.strconv_Itoa A7D n g h1 w d
def Tryz.laysC172_ren:Go.Shelf.Ren:=⟨fun|172=>188|244=>217|245=>218|247=>237|279=>238|280=>239|281=>240|282=>241|287=>273|316=>274|171=>142|205=>275|321=>292|322=>293|243=>176|246=>210|283=>232|284=>233|285=>234|286=>235|129=>170|317=>268|318=>269|319=>270|320=>271|337=>289|338=>290|n=>n,fun|9=>9|3=>3|75=>140|76=>141|4=>4|5=>5|167=>263|37=>95|0=>0|85=>264|2=>2|168=>266|53=>196|175=>290|46=>163|210=>294|127=>144|145=>312|143=>310|21=>21|171=>259|173=>261|212=>288|51=>194|20=>20|213=>289|232=>316|233=>317|80=>99|n=>n,fun|15=>2|16=>3|17=>1|18=>4|19=>5|n=>n⟩
theorem A01:Go.Proofs.LaysC.n172 Tryz.prog Tryz.laysC172_ren:={
 mixed:=by kernel_rfl
 f129:=Tryz.func170.trans (congrArg some (by kernel_rfl))
 f171:=Tryz.func142.trans (congrArg some (by kernel_rfl))
 f172:=Tryz.func188.trans (congrArg some (by kernel_rfl))
 f205:=Tryz.func275.trans (congrArg some (by kernel_rfl))
 f243:=Tryz.func176.trans (congrArg some (by kernel_rfl))
 f244:=Tryz.func217.trans (congrArg some (by kernel_rfl))
 f245:=Tryz.func218.trans (congrArg some (by kernel_rfl))
 f246:=Tryz.func210.trans (congrArg some (by kernel_rfl))
 f247:=Tryz.func237.trans (congrArg some (by kernel_rfl))
 f279:=Tryz.func238.trans (congrArg some (by kernel_rfl))
 f280:=Tryz.func239.trans (congrArg some (by kernel_rfl))
 f281:=Tryz.func240.trans (congrArg some (by kernel_rfl))
 f282:=Tryz.func241.trans (congrArg some (by kernel_rfl))
 f283:=Tryz.func232.trans (congrArg some (by kernel_rfl))
 f284:=Tryz.func233.trans (congrArg some (by kernel_rfl))
 f285:=Tryz.func234.trans (congrArg some (by kernel_rfl))
 f286:=Tryz.func235.trans (congrArg some (by kernel_rfl))
 f287:=Tryz.func273.trans (congrArg some (by kernel_rfl))
 f316:=Tryz.func274.trans (congrArg some (by kernel_rfl))
 f317:=Tryz.func268.trans (congrArg some (by kernel_rfl))
 f318:=Tryz.func269.trans (congrArg some (by kernel_rfl))
 f319:=Tryz.func270.trans (congrArg some (by kernel_rfl))
 f320:=Tryz.func271.trans (congrArg some (by kernel_rfl))
 f321:=Tryz.func292.trans (congrArg some (by kernel_rfl))
 f322:=Tryz.func293.trans (congrArg some (by kernel_rfl))
 f337:=Tryz.func289.trans (congrArg some (by kernel_rfl))
 f338:=Tryz.func290.trans (congrArg some (by kernel_rfl))
 t0:=Tryz.underlying0
 a0:=Tryz.isAgg0
 z0:=Tryz.sizeOf0
 v0:=Tryz.zeroValue0
 t2:=Tryz.underlying2
 a2:=Tryz.isAgg2
 z2:=Tryz.sizeOf2
 v2:=Tryz.zeroValue2
 t3:=Tryz.underlying3
 a3:=Tryz.isAgg3
 z3:=Tryz.sizeOf3
 v3:=Tryz.zeroValue3
 t4:=Tryz.underlying4
 a4:=Tryz.isAgg4
 z4:=Tryz.sizeOf4
 v4:=Tryz.zeroValue4
 t5:=Tryz.underlying5
 a5:=Tryz.isAgg5
 z5:=Tryz.sizeOf5
 v5:=Tryz.zeroValue5
 t9:=Tryz.underlying9
 a9:=Tryz.isAgg9
 z9:=Tryz.sizeOf9
 v9:=Tryz.zeroValue9
 t20:=Tryz.underlying20
 a20:=Tryz.isAgg20
 z20:=Tryz.sizeOf20
 v20:=Tryz.zeroValue20
 t21:=Tryz.underlying21
 a21:=Tryz.isAgg21
 z21:=Tryz.sizeOf21
 v21:=Tryz.zeroValue21
 t37:=Tryz.underlying95
 a37:=Tryz.isAgg95
 z37:=Tryz.sizeOf95
 v37:=Tryz.zeroValue95
 t46:=Tryz.underlying163
 a46:=Tryz.isAgg163
 z46:=Tryz.sizeOf163
 v46:=Tryz.zeroValue163
 t51:=Tryz.underlying194
 a51:=Tryz.isAgg194
 z51:=Tryz.sizeOf194
 v51:=Tryz.zeroValue194
 t53:=Tryz.underlying196
 a53:=Tryz.isAgg196
 z53:=Tryz.sizeOf196
 v53:=Tryz.zeroValue196
 t75:=Tryz.underlying140
 a75:=Tryz.isAgg140
 z75:=Tryz.sizeOf140
 v75:=Tryz.zeroValue140
 t76:=Tryz.underlying141
 a76:=Tryz.isAgg141
 z76:=Tryz.sizeOf141
 v76:=Tryz.zeroValue141
 t85:=Tryz.underlying264
 a85:=Tryz.isAgg264
 z85:=Tryz.sizeOf264
 v85:=Tryz.zeroValue264
 t127:=Tryz.underlying144
 a127:=Tryz.isAgg144
 z127:=Tryz.sizeOf144
 v127:=Tryz.zeroValue144
 t143:=Tryz.underlying310
 a143:=Tryz.isAgg310
 z143:=Tryz.sizeOf310
 v143:=Tryz.zeroValue310
 t145:=Tryz.underlying312
 a145:=Tryz.isAgg312
 z145:=Tryz.sizeOf312
 v145:=Tryz.zeroValue312
 t167:=Tryz.underlying263
 a167:=Tryz.isAgg263
 z167:=Tryz.sizeOf263
 v167:=Tryz.zeroValue263
 t168:=Tryz.underlying266
 a168:=Tryz.isAgg266
 z168:=Tryz.sizeOf266
 v168:=Tryz.zeroValue266
 t171:=Tryz.underlying259
 a171:=Tryz.isAgg259
 z171:=Tryz.sizeOf259
 v171:=Tryz.zeroValue259
 t173:=Tryz.underlying261
 a173:=Tryz.isAgg261
 z173:=Tryz.sizeOf261
 v173:=Tryz.zeroValue261
 t175:=Tryz.underlying290
 a175:=Tryz.isAgg290
 z175:=Tryz.sizeOf290
 v175:=Tryz.zeroValue290
 t210:=Tryz.underlying294
 a210:=Tryz.isAgg294
 z210:=Tryz.sizeOf294
 v210:=Tryz.zeroValue294
 t212:=Tryz.underlying288
 a212:=Tryz.isAgg288
 z212:=Tryz.sizeOf288
 v212:=Tryz.zeroValue288
 t213:=Tryz.underlying289
 a213:=Tryz.isAgg289
 z213:=Tryz.sizeOf289
 t232:=Tryz.underlying316
 a232:=Tryz.isAgg316
 z232:=Tryz.sizeOf316
 v232:=Tryz.zeroValue316
 t233:=Tryz.underlying317
 a233:=Tryz.isAgg317
 z233:=Tryz.sizeOf317
 v233:=Tryz.zeroValue317
 g15:=by kernel_rfl
 g16:=by kernel_rfl
 g17:=by kernel_rfl
 g18:=by kernel_rfl
 g19:=by kernel_rfl
 t80:=Tryz.underlying99
 a80:=Tryz.isAgg99
 z80:=Tryz.sizeOf99
 v80:=Tryz.zeroValue99
 i0:=by kernel_rfl
 i2:=by kernel_rfl
 i3:=by kernel_rfl
 i4:=by kernel_rfl
 i5:=by kernel_rfl
 i9:=by kernel_rfl
 i20:=by kernel_rfl
 i21:=by kernel_rfl
 i37:=by kernel_rfl
 i46:=by kernel_rfl
 i51:=by kernel_rfl
 i53:=by kernel_rfl
 i75:=by kernel_rfl
 i76:=by kernel_rfl
 i80:=by kernel_rfl
 i85:=by kernel_rfl
 i127:=by kernel_rfl
 i143:=by kernel_rfl
 i145:=by kernel_rfl
 i167:=by kernel_rfl
 i168:=by kernel_rfl
 i171:=by kernel_rfl
 i173:=by kernel_rfl
 i175:=by kernel_rfl
 i210:=by kernel_rfl
 i212:=by kernel_rfl
 i232:=by kernel_rfl
 i233:=by kernel_rfl
 m15:=by kernel_rfl
 m16:=by kernel_rfl
 m17:=by kernel_rfl
 m18:=by kernel_rfl
 m19:=by kernel_rfl
 c0:=by kernel_rfl
 c2:=by kernel_rfl
 c3:=by kernel_rfl
 c4:=by kernel_rfl
 c5:=by kernel_rfl
 c9:=by kernel_rfl
 c20:=by kernel_rfl
 c21:=by kernel_rfl
 c37:=by kernel_rfl
 c46:=by kernel_rfl
 c51:=by kernel_rfl
 c53:=by kernel_rfl
 c75:=by kernel_rfl
 c76:=by kernel_rfl
 c80:=by kernel_rfl
 c85:=by kernel_rfl
 c127:=by kernel_rfl
 c143:=by kernel_rfl
 c145:=by kernel_rfl
 c167:=by kernel_rfl
 c168:=by kernel_rfl
 c171:=by kernel_rfl
 c173:=by kernel_rfl
 c175:=by kernel_rfl
 c210:=by kernel_rfl
 c212:=by kernel_rfl
 c213:=by kernel_rfl
 c232:=by kernel_rfl
 c233:=by kernel_rfl}
open Go.RowKit in
theorem Tryz.strconv_Atoi_ok(s:ByteArray)(d:s.size≤9223372036854775806)(v:Int)(h:Lib.atoiAll s.data.toList= .ok v)(w:World):
  Calls Tryz.prog 188 #[.string s] w fun e w'=>e= .returned (.tuple #[.int .i64 v,.nilIface])∧(w'=w∨∃t,w'=Lib.bytesWorld w 5 t):=Any.strconv_Atoi_ok A01 s d v h w
open Go.RowKit in
theorem Tryz.strconv_Atoi_syntax(s:ByteArray)(d:s.size≤281474976710656)(h:Lib.atoiAll s.data.toList=Lib.atoiAll [])(ev:Value)(w:World)(hv:w.cell? ⟨2,0,none⟩=some ev)(g:ev= .nilIface∨∃te pe,ev= .iface te pe):
  Calls Tryz.prog 188 #[.string s] w fun e w'=>∃N,e= .returned (.tuple #[.int .i64 (0),.iface 266 (.pointer (some ⟨N,0,none⟩))])∧w.heap.size≤N∧w'.heap[N]? =some (.cells #[.string ⟨#[65,116,111,105]⟩,.string s,ev] 294 (0,0))∧Below w.heap.size w w':=Any.strconv_Atoi_syntax A01 s d h ev w hv g
open Go.RowKit in
theorem Tryz.strconv_Atoi_range(s:ByteArray)(d:s.size≤281474976710656)(h:Lib.atoiAll s.data.toList= .range)(ev:Value)(w:World)(hv:w.cell? ⟨3,0,none⟩=some ev)(g:ev= .nilIface∨∃te pe,ev= .iface te pe):
  Calls Tryz.prog 188 #[.string s] w fun e w'=>∃N,e= .returned (.tuple #[.int .i64 (Lib.atoiSat s.data.toList),.iface 266 (.pointer (some ⟨N,0,none⟩))])∧w.heap.size≤N∧w'.heap[N]? =some (.cells #[.string ⟨#[65,116,111,105]⟩,.string s,ev] 294 (0,0))∧Below w.heap.size w w':=Any.strconv_Atoi_range A01 s d h ev w hv g
def Tryz.lays219_ren:Go.Shelf.Ren:=⟨fun|219=>236|217=>173|225=>214|224=>213|267=>272|266=>209|314=>291|n=>n,fun|9=>9|3=>3|4=>4|5=>5|46=>163|146=>307|51=>194|n=>n,fun|1=>0|n=>n⟩
theorem A9d:Go.Proofs.Lays.n219 Tryz.prog Tryz.lays219_ren:={
 mixed:=by kernel_rfl
 f217:=Tryz.func173.trans (congrArg some (by kernel_rfl))
 f219:=Tryz.func236.trans (congrArg some (by kernel_rfl))
 f224:=Tryz.func213.trans (congrArg some (by kernel_rfl))
 f225:=Tryz.func214.trans (congrArg some (by kernel_rfl))
 f266:=Tryz.func209.trans (congrArg some (by kernel_rfl))
 f267:=Tryz.func272.trans (congrArg some (by kernel_rfl))
 f314:=Tryz.func291.trans (congrArg some (by kernel_rfl))
 t3:=Tryz.underlying3
 a3:=Tryz.isAgg3
 z3:=Tryz.sizeOf3
 v3:=Tryz.zeroValue3
 t4:=Tryz.underlying4
 a4:=Tryz.isAgg4
 z4:=Tryz.sizeOf4
 v4:=Tryz.zeroValue4
 t5:=Tryz.underlying5
 a5:=Tryz.isAgg5
 z5:=Tryz.sizeOf5
 v5:=Tryz.zeroValue5
 t9:=Tryz.underlying9
 a9:=Tryz.isAgg9
 z9:=Tryz.sizeOf9
 v9:=Tryz.zeroValue9
 t46:=Tryz.underlying163
 a46:=Tryz.isAgg163
 z46:=Tryz.sizeOf163
 v46:=Tryz.zeroValue163
 t51:=Tryz.underlying194
 a51:=Tryz.isAgg194
 z51:=Tryz.sizeOf194
 v51:=Tryz.zeroValue194
 t146:=Tryz.underlying307
 a146:=Tryz.isAgg307
 z146:=Tryz.sizeOf307
 v146:=Tryz.zeroValue307
 g1:=by kernel_rfl}
open Go.RowKit Go.Lib in
theorem Tryz.stringslite_Index_one(s:ByteArray)(c:UInt8)(w:World):
  Calls Tryz.prog 236 #[.string s,.string ⟨#[c]⟩] w fun e w'=>e= .returned (.int .i64 (Lib.indexByte s.data.toList c))∧w'=w:=Any.stringslite_Index_one A9d s c w
def Tryz.lays99_ren:Go.Shelf.Ren:=⟨fun|99=>186|206=>211|n=>n,fun|9=>9|4=>4|3=>3|n=>n,fun|n=>n⟩
theorem B1a:Go.Proofs.Lays.n99 Tryz.prog Tryz.lays99_ren:={
 mixed:=by kernel_rfl
 f99:=Tryz.func186.trans (congrArg some (by kernel_rfl))
 f206:=Tryz.func211.trans (congrArg some (by kernel_rfl))
 t3:=Tryz.underlying3
 a3:=Tryz.isAgg3
 z3:=Tryz.sizeOf3
 v3:=Tryz.zeroValue3
 t4:=Tryz.underlying4
 a4:=Tryz.isAgg4
 z4:=Tryz.sizeOf4
 v4:=Tryz.zeroValue4
 t9:=Tryz.underlying9
 a9:=Tryz.isAgg9
 z9:=Tryz.sizeOf9
 v9:=Tryz.zeroValue9}
open Go.RowKit Go.Lib in
theorem Tryz.strings_HasPrefix(s p:ByteArray)(w:World):
  Calls Tryz.prog 186 #[.string s,.string p] w fun e w'=>e= .returned (.bool (Lib.hasPrefix s.data.toList p.data.toList))∧w'=w:=Any.strings_HasPrefix B1a s p w
def Tryz.lays100_ren:Go.Shelf.Ren:=⟨fun|100=>149|207=>184|n=>n,fun|9=>9|4=>4|3=>3|n=>n,fun|n=>n⟩
theorem A9U:Go.Proofs.Lays.n100 Tryz.prog Tryz.lays100_ren:={
 mixed:=by kernel_rfl
 f100:=Tryz.func149.trans (congrArg some (by kernel_rfl))
 f207:=Tryz.func184.trans (congrArg some (by kernel_rfl))
 t3:=Tryz.underlying3
 a3:=Tryz.isAgg3
 z3:=Tryz.sizeOf3
 v3:=Tryz.zeroValue3
 t4:=Tryz.underlying4
 a4:=Tryz.isAgg4
 z4:=Tryz.sizeOf4
 v4:=Tryz.zeroValue4
 t9:=Tryz.underlying9
 a9:=Tryz.isAgg9
 z9:=Tryz.sizeOf9
 v9:=Tryz.zeroValue9}
open Go.RowKit Go.Lib in
theorem Tryz.strings_HasSuffix(s p:ByteArray)(w:World)(hs:s.size≤9223372036854775807):
  Calls Tryz.prog 149 #[.string s,.string p] w fun e w'=>e= .returned (.bool (Lib.hasSuffix s.data.toList p.data.toList))∧w'=w:=Any.strings_HasSuffix A9U s p w hs
def Tryz.lays101_ren:Go.Shelf.Ren:=⟨fun|101=>185|208=>215|206=>211|n=>n,fun|9=>9|4=>4|3=>3|n=>n,fun|n=>n⟩
theorem A9V:Go.Proofs.Lays.n101 Tryz.prog Tryz.lays101_ren:={
 mixed:=by kernel_rfl
 f101:=Tryz.func185.trans (congrArg some (by kernel_rfl))
 f206:=Tryz.func211.trans (congrArg some (by kernel_rfl))
 f208:=Tryz.func215.trans (congrArg some (by kernel_rfl))
 t3:=Tryz.underlying3
 a3:=Tryz.isAgg3
 z3:=Tryz.sizeOf3
 v3:=Tryz.zeroValue3
 t4:=Tryz.underlying4
 a4:=Tryz.isAgg4
 z4:=Tryz.sizeOf4
 v4:=Tryz.zeroValue4
 t9:=Tryz.underlying9
 a9:=Tryz.isAgg9
 z9:=Tryz.sizeOf9
 v9:=Tryz.zeroValue9}
open Go.RowKit Go.Lib in
theorem Tryz.strings_TrimPrefix(s p:ByteArray)(w:World):
  Calls Tryz.prog 185 #[.string s,.string p] w fun e w'=>e= .returned (.string ⟨(Lib.trimPrefix s.data.toList p.data.toList).toArray⟩)∧w'=w:=Any.strings_TrimPrefix A9V s p w
def Tryz.lays102_ren:Go.Shelf.Ren:=⟨fun|102=>148|209=>183|207=>184|n=>n,fun|9=>9|4=>4|3=>3|n=>n,fun|n=>n⟩
theorem A9W:Go.Proofs.Lays.n102 Tryz.prog Tryz.lays102_ren:={
 mixed:=by kernel_rfl
 f102:=Tryz.func148.trans (congrArg some (by kernel_rfl))
 f207:=Tryz.func184.trans (congrArg some (by kernel_rfl))
 f209:=Tryz.func183.trans (congrArg some (by kernel_rfl))
 t3:=Tryz.underlying3
 a3:=Tryz.isAgg3
 z3:=Tryz.sizeOf3
 v3:=Tryz.zeroValue3
 t4:=Tryz.underlying4
 a4:=Tryz.isAgg4
 z4:=Tryz.sizeOf4
 v4:=Tryz.zeroValue4
 t9:=Tryz.underlying9
 a9:=Tryz.isAgg9
 z9:=Tryz.sizeOf9
 v9:=Tryz.zeroValue9}
open Go.RowKit Go.Lib in
theorem Tryz.strings_TrimSuffix(s p:ByteArray)(w:World)(hs:s.size≤9223372036854775807):
  Calls Tryz.prog 148 #[.string s,.string p] w fun e w'=>e= .returned (.string ⟨(Lib.trimSuffix s.data.toList p.data.toList).toArray⟩)∧w'=w:=Any.strings_TrimSuffix A9W s p w hs
def Tryz.lays153_ren:Go.Shelf.Ren:=⟨fun|153=>146|152=>178|226=>179|227=>180|228=>181|137=>138|119=>212|224=>213|225=>214|217=>173|266=>209|n=>n,fun|9=>9|3=>3|4=>4|5=>5|21=>21|117=>203|116=>202|0=>0|46=>163|124=>234|n=>n,fun|n=>n⟩
theorem A9c:Go.Proofs.Lays.n153 Tryz.prog Tryz.lays153_ren:={
 mixed:=by kernel_rfl
 f119:=Tryz.func212.trans (congrArg some (by kernel_rfl))
 f137:=Tryz.func138.trans (congrArg some (by kernel_rfl))
 f152:=Tryz.func178.trans (congrArg some (by kernel_rfl))
 f153:=Tryz.func146.trans (congrArg some (by kernel_rfl))
 f217:=Tryz.func173.trans (congrArg some (by kernel_rfl))
 f224:=Tryz.func213.trans (congrArg some (by kernel_rfl))
 f225:=Tryz.func214.trans (congrArg some (by kernel_rfl))
 f226:=Tryz.func179.trans (congrArg some (by kernel_rfl))
 f227:=Tryz.func180.trans (congrArg some (by kernel_rfl))
 f228:=Tryz.func181.trans (congrArg some (by kernel_rfl))
 f266:=Tryz.func209.trans (congrArg some (by kernel_rfl))
 t0:=Tryz.underlying0
 a0:=Tryz.isAgg0
 z0:=Tryz.sizeOf0
 v0:=Tryz.zeroValue0
 t3:=Tryz.underlying3
 a3:=Tryz.isAgg3
 z3:=Tryz.sizeOf3
 v3:=Tryz.zeroValue3
 t4:=Tryz.underlying4
 a4:=Tryz.isAgg4
 z4:=Tryz.sizeOf4
 v4:=Tryz.zeroValue4
 t5:=Tryz.underlying5
 a5:=Tryz.isAgg5
 z5:=Tryz.sizeOf5
 v5:=Tryz.zeroValue5
 t9:=Tryz.underlying9
 a9:=Tryz.isAgg9
 z9:=Tryz.sizeOf9
 v9:=Tryz.zeroValue9
 t21:=Tryz.underlying21
 a21:=Tryz.isAgg21
 z21:=Tryz.sizeOf21
 v21:=Tryz.zeroValue21
 t46:=Tryz.underlying163
 a46:=Tryz.isAgg163
 z46:=Tryz.sizeOf163
 v46:=Tryz.zeroValue163
 t116:=Tryz.underlying202
 a116:=Tryz.isAgg202
 z116:=Tryz.sizeOf202
 t117:=Tryz.underlying203
 a117:=Tryz.isAgg203
 z117:=Tryz.sizeOf203
 v117:=Tryz.zeroValue203
 t124:=Tryz.underlying234
 a124:=Tryz.isAgg234
 z124:=Tryz.sizeOf234
 v124:=Tryz.zeroValue234}
def Tryz.lays150_ren:Go.Shelf.Ren:=⟨fun|150=>137|153=>146|152=>178|226=>179|227=>180|228=>181|137=>138|119=>212|224=>213|225=>214|217=>173|266=>209|n=>n,fun|9=>9|4=>4|3=>3|5=>5|21=>21|117=>203|116=>202|0=>0|46=>163|124=>234|n=>n,fun|n=>n⟩
theorem A9b:Go.Proofs.Lays.n150 Tryz.prog Tryz.lays150_ren:={
 mixed:=by kernel_rfl
 f119:=Tryz.func212.trans (congrArg some (by kernel_rfl))
 f137:=Tryz.func138.trans (congrArg some (by kernel_rfl))
 f150:=Tryz.func137.trans (congrArg some (by kernel_rfl))
 f152:=Tryz.func178.trans (congrArg some (by kernel_rfl))
 f153:=Tryz.func146.trans (congrArg some (by kernel_rfl))
 f217:=Tryz.func173.trans (congrArg some (by kernel_rfl))
 f224:=Tryz.func213.trans (congrArg some (by kernel_rfl))
 f225:=Tryz.func214.trans (congrArg some (by kernel_rfl))
 f226:=Tryz.func179.trans (congrArg some (by kernel_rfl))
 f227:=Tryz.func180.trans (congrArg some (by kernel_rfl))
 f228:=Tryz.func181.trans (congrArg some (by kernel_rfl))
 f266:=Tryz.func209.trans (congrArg some (by kernel_rfl))
 t0:=Tryz.underlying0
 a0:=Tryz.isAgg0
 z0:=Tryz.sizeOf0
 v0:=Tryz.zeroValue0
 t3:=Tryz.underlying3
 a3:=Tryz.isAgg3
 z3:=Tryz.sizeOf3
 v3:=Tryz.zeroValue3
 t4:=Tryz.underlying4
 a4:=Tryz.isAgg4
 z4:=Tryz.sizeOf4
 v4:=Tryz.zeroValue4
 t5:=Tryz.underlying5
 a5:=Tryz.isAgg5
 z5:=Tryz.sizeOf5
 v5:=Tryz.zeroValue5
 t9:=Tryz.underlying9
 a9:=Tryz.isAgg9
 z9:=Tryz.sizeOf9
 v9:=Tryz.zeroValue9
 t21:=Tryz.underlying21
 a21:=Tryz.isAgg21
 z21:=Tryz.sizeOf21
 v21:=Tryz.zeroValue21
 t46:=Tryz.underlying163
 a46:=Tryz.isAgg163
 z46:=Tryz.sizeOf163
 v46:=Tryz.zeroValue163
 t116:=Tryz.underlying202
 a116:=Tryz.isAgg202
 z116:=Tryz.sizeOf202
 t117:=Tryz.underlying203
 a117:=Tryz.isAgg203
 z117:=Tryz.sizeOf203
 v117:=Tryz.zeroValue203
 t124:=Tryz.underlying234
 a124:=Tryz.isAgg234
 z124:=Tryz.sizeOf234
 v124:=Tryz.zeroValue234}
open Go.RowKit Go.Lib in
theorem Tryz.strings_IndexAny_laid(s d:ByteArray)(w:World)(hs:s.size<4294967281)(g:d.size<4294967281)(h: ∀(j:Nat) b,s.data.toList[j]? =some b→b.toNat<128)(i: ∀(j:Nat) b,d.data.toList[j]? =some b→b.toNat<128):
  Calls Tryz.prog 146 #[.string s,.string d] w fun e w'=>e= .returned (.int .i64 (Lib.indexAny s.data.toList d.data.toList))∧Below w.heap.size w w':=Any.strings_IndexAny_laid A9c (by kernel_rfl) s d w hs g h i
open Go.RowKit Go.Lib in
theorem Tryz.strings_ContainsAny_laid(s d:ByteArray)(w:World)(hs:s.size<4294967281)(g:d.size<4294967281)(h: ∀(j:Nat) b,s.data.toList[j]? =some b→b.toNat<128)(i: ∀(j:Nat) b,d.data.toList[j]? =some b→b.toNat<128):
  Calls Tryz.prog 137 #[.string s,.string d] w fun e w'=>e= .returned (.bool (Lib.containsAny s.data.toList d.data.toList))∧Below w.heap.size w w':=Any.strings_ContainsAny_laid A9b (by kernel_rfl) s d w hs g h i
end Go.Proofs
namespace Go.Lexs
open Go.Av
theorem B9p(s:ByteArray)(i:Int):S3 s i=V5 (B s) i.toNat:=rfl
end Go.Lexs
namespace Go.Proofs.YtibphjonmikciaaGreatDoor
open Go Go.Av Go.RowKit Go.Lin
theorem A0h{Q}(s:ByteArray)(c:Int)(H:Heap)(h:Q (.int .i64 (Lib.indexByte (B s) c.toNat.toUInt8)) H):E6 138 [.str s,.int .u8 c] H Q:=
 J2 (by kernel_rfl) (fun w vs hl hr hs=>by
  obtain⟨a,b,rfl,d,hb⟩:=A0R hl hr;rw[d.str_inv,hb.int_inv];refine(Tryz.strings_IndexByte s c w).mono fun e w' ⟨he,hw⟩=>?_;subst hw;exact⟨_,he,Below.refl _ _,.int _ _⟩) h
theorem B0i{Q}(s p:ByteArray)(H:Heap)(h:Q (.bool ((B p).isPrefixOf (B s))) H):E6 186 [.str s,.str p] H Q:=
 J2 (by kernel_rfl) (fun w vs hl hr hs=>by
  obtain⟨a,b,rfl,d,hb⟩:=A0R hl hr;rw[d.str_inv,hb.str_inv];refine(Tryz.strings_HasPrefix s p w).mono fun e w' ⟨he,hw⟩=>?_;subst hw;exact⟨_,he,Below.refl _ _,.bool _⟩) h
theorem A8s{Q}(s p:ByteArray)(H:Heap)(h:Q (.str (S (Lib.trimPrefix (B s) (B p)))) H):E6 185 [.str s,.str p] H Q:=
 J2 (by kernel_rfl) (fun w vs hl hr hs=>by
  obtain⟨a,b,rfl,d,hb⟩:=A0R hl hr;rw[d.str_inv,hb.str_inv];refine(Tryz.strings_TrimPrefix s p w).mono fun e w' ⟨he,hw⟩=>?_;subst hw;exact⟨_,he,Below.refl _ _,.str _⟩) h
theorem A8t{Q}(s p:ByteArray)(hsz:s.size≤1000000000000)(H:Heap)(h:Q (.str (S (Lib.trimSuffix (B s) (B p)))) H):E6 148 [.str s,.str p] H Q:=
 J2 (by kernel_rfl) (fun w vs hl hr hs=>by
  obtain⟨a,b,rfl,d,hb⟩:=A0R hl hr;rw[d.str_inv,hb.str_inv];refine(Tryz.strings_TrimSuffix s p w (by omega)).mono fun e w' ⟨he,hw⟩=>?_;subst hw;exact⟨_,he,Below.refl _ _,.str _⟩) h
theorem B0j{Q}(s p:ByteArray)(hsz:s.size≤1000000000000)(H:Heap)(h:Q (.bool (Lib.hasSuffix (B s) (B p))) H):E6 149 [.str s,.str p] H Q:=
 J2 (by kernel_rfl) (fun w vs hl hr hs=>by
  obtain⟨a,b,rfl,d,hb⟩:=A0R hl hr;rw[d.str_inv,hb.str_inv];refine(Tryz.strings_HasSuffix s p w (by omega)).mono fun e w' ⟨he,hw⟩=>?_;subst hw;exact⟨_,he,Below.refl _ _,.bool _⟩) h
theorem B0k{Q}(s p:ByteArray)(hsz:s.size≤1000000000000)(H:Heap)(h:Q (.tuple [.str (S (Lib.trimSuffix (B s) (B p))),.bool (Lib.hasSuffix (B s) (B p))]) H):E6 147 [.str s,.str p] H Q:=
 J2 (by kernel_rfl) (fun w vs hl hr hs=>by
  obtain⟨a,b,rfl,j,hb⟩:=A0R hl hr;rw[j.str_inv,hb.str_inv];refine(Tryz.strings_CutSuffix s p w (by omega)).mono fun e w' ⟨he,hw⟩=>?_;subst hw;exact⟨_,he,Below.refl _ _,.tuple _ _ rfl fun i d g=>(match i,g with|0,g=>by simp at g;subst g;exact .str _|1,g=>by simp at g;subst g;exact .bool _|i+2,g=>by simp at g)⟩) h
theorem B4i{Q}(s p:ByteArray)(H:Heap)(h:Q (.int .i64 (Lib.compareBytes (B s) (B p))) H):E6 106 [.str s,.str p] H Q:=
 J2 (by kernel_rfl) (fun w vs hl hr hs=>by
  obtain⟨a,b,rfl,d,hb⟩:=A0R hl hr;rw[d.str_inv,hb.str_inv];refine(Tryz.strings_Compare s p w).mono fun e w' ⟨he,hw⟩=>?_;subst hw;exact⟨_,he,Below.refl _ _,.int _ _⟩) h
structure Tabs(H:Heap):Prop where
 pow:H 1=some (.ro (B0e .u64 Lib.pow10Tab))
 syn: ∃t,H 2=some (.ro [.iface t .undef])
 rng: ∃t,H 3=some (.ro [.iface t .undef])
theorem Tabs.le{H H':Heap}(h:Tabs H)(hl:H.Le H'):Tabs H':=⟨hl _ _ h.pow,let ⟨t,e⟩:=h.syn;⟨t,hl _ _ e⟩,let ⟨t,e⟩:=h.rng;⟨t,hl _ _ e⟩⟩
theorem A1f{Q}(n:Int)(i: -9223372036854775808≤n)(h1:n≤9223372036854775807)(H:Heap)(j:Tabs H)(h:Q (.str (S (Lib.itoa n))) H):E6 142 [.int .i64 n] H Q:=
 J2 (by kernel_rfl) (fun w vs d hr hs=>by
  obtain⟨a,rfl,m⟩:=A2J d hr;rw[m.int_inv];refine(Tryz.strconv_Itoa n i h1 w (B6j (g:=1) (by kernel_rfl) hs j.pow)).mono fun e w' ⟨he,k,os,hw⟩=>?_;subst hw;exact⟨_,he,B17 _ _ _,.str _⟩) h
end Go.Proofs.YtibphjonmikciaaGreatDoor
namespace Go.Lin
open Go Go.Av Go.Lexs
theorem S0(s:ByteArray)(i:Nat)(h:i<s.size):(F1 s).getD i []= [.int .u8 (V5 (B s) i)]:=by
 have d:i<s.data.toList.length:=by rw[D1n];exact h
 unfold F1 V5 B;rw[List.getD_eq_getElem?_getD,D1J,List.getD_eq_getElem?_getD,D1D d];rfl
theorem A3H(s:ByteArray)(i:Nat)(h:i<s.size):(F1 s)[i]? =some [.int .u8 (V5 (B s) i)]:=by
 have d:i<s.data.toList.length:=by rw[D1n];exact h
 unfold F1 V5 B;rw[D1J,List.getD_eq_getElem?_getD,D1D d];rfl
theorem A3I(s:ByteArray):(F1 s).length=s.size:=by unfold F1;rw[D1f,D1n];rfl
def A8u:List UInt8:=[43,45,42,60,62,61]
theorem A5A{x:Int}(d:33≤x)(h1:x≤126):decide (0≤Lib.indexByte A8u x.toNat.toUInt8)= !R0 x:=by
 obtain⟨n,rfl⟩: ∃n:Nat,x=n:=⟨x.toNat,by omega⟩
 have key: ∀n:Fin 127,33≤n.val→decide (0≤Lib.indexByte A8u (n.val:Int).toNat.toUInt8)= !R0 (n.val:Int):=by decide+kernel
 exact key ⟨n,by omega⟩ (by simpa using(by omega:33≤n))
end Go.Lin
namespace Go.Proofs.YtibphjonmikciaaGreatDoor
open Go Go.Av Go.Lexs Go.Lin
attribute [local irreducible] ACalls S3
theorem X7{Q}(n m:Int)(e: -9223372036854775807≤m)(h1:m≤9223372036854775807)(H:Heap)(h:Q (.bool (J7 n m)) H):E6 103 [.int .i64 n,.int .i64 m] H Q:=by
 refine B2 [] A8 Tryz.func103 rfl ?_;simp only[go_sem,seval,Tryz.results103];unfold J7 at h;have w:IntKind.i64.wrap (0-m)= -m:=by rw[A5 (by omega) (by omega)];omega
 repeat' (first|with_reducible apply D0w|simp only[go_sem,seval,w]|intro d)
 all_goals exact D2R (by simpa [*]using h)
theorem O7{Q}(s:ByteArray)(H:Heap)(h:Q (.bool (G7 (B s))) H):E6 102 [.str s] H Q:=by
 refine B2 [] A8 Tryz.func102 rfl ?_;simp only[go_sem,seval,Tryz.results102];have hl:=U7 s;have j:=A3I s;have C:S3 s 0=V5 (B s) 0:=B0F s;by_cases hv:B s≠[]∧s.size≤200∧Q4 (V5 (B s) 0)=false
 ·obtain⟨v1,v2,v3⟩:=hv;have I: ¬((200:Int)<s.size):=by omega
  have v4: ¬(48≤V5 (B s) 0∧V5 (B s) 0≤57):=fun g=>by have:=(U4 _).2 g;rw[this]at v3;cases v3
  have vs:0<s.size:=by have:=List.length_pos_iff.2 v1;omega
  have o:(0:Int)<s.size:=by omega
  have L:G7 (B s)=(B s).all (ofB R0):=by unfold G7;rw[D0y v1,v3,D0y (by omega)];rfl
  rw[L]at h;by_cases M:48≤V5 (B s) 0
  ·have T: ¬V5 (B s) 0≤57:=fun g=>v4 ⟨M,g⟩;repeat' (first|with_reducible apply D0w|simp only[go_sem,seval,v1,I,o,C,M,T,decide_true,decide_false])
   refine A7Q _ _ _ (by kernel_rfl) (by kernel_rfl) ?_;repeat' (first|simp only[go_sem,seval]|intro p)
   rename_i b;have hb:=p;clear p;refine C8 [23,24] (fun(i:Nat)=>[(25,.int .i64 i)]) (fun(i:Nat)=>H.set b (.vec 1 (F1 s))) (fun(i:Nat)=>i≤s.size∧((B s).take i).all (ofB R0)=true) (fun(i:Nat)=>s.size-i) (0) (⟨D1H _,by simp⟩) (by(try simp only[go_sem,seval])<;>(try simp(disch:=omega) [A5])) (by first|exact D2N _|exact A0 (by assumption)|exact B4 (by assumption)|simp only[Heap.Le,Heap.set,Heap.del]at* <;>grind) ?_;rintro U rfl i ⟨V,e⟩;by_cases q:i<s.size
   ·have d:decide ((i:Int)<s.size)=true:=D0y (by omega);have r:i<(B s).length:=by omega
    have u:=A3H s i q;have y:=S0 s i q;obtain⟨x,hx⟩: ∃x,x=V5 (B s) i:=⟨_,rfl⟩
    have bad:R0 x=false→(B s).all (ofB R0)=false:=fun g=>v8 R0 (B s) i r (by rw[←hx];exact g);rw[←hx]at u y;have O:decide ((i:Int)<(F1 s).length)=true:=D0y (by rw[A3I];omega);by_cases z:x<33
    ·rw[bad (A3k (by omega))]at h;repeat' (first|with_reducible apply D0w|simp only[go_sem,seval,d,u,y,j,z,decide_true]|omega)
     exact D2O (A0 hb) h
    ·by_cases G:126<x
     ·rw[bad (A3k (by omega))]at h;repeat' (first|with_reducible apply D0w|simp only[go_sem,seval,d,u,y,j,z,G,decide_true,decide_false]|omega)
      exact D2O (A0 hb) h
     ·have A:=A5A (x:=x) (by omega) (by omega);have J:B ({data:= #[43,45,42,60,62,61]}:ByteArray)=A8u:=rfl;by_cases m:R0 x=true
      ·rw[m]at A;repeat' (first|with_reducible apply D0w|simp only[go_sem,seval,d,u,y,j,z,G,J,A,decide_true,decide_false]|simp(disch:=omega) only[A5,S0]|with_reducible refine A0h _ _ _ ?_|omega)
       exact C4 (i+1) ⟨by omega,by rw[j4 _ _ _ r,e,←hx,m];rfl⟩ (by omega) (by(try simp only[go_sem,seval])<;>(try simp(disch:=omega) [A5])) (D2N _)
      ·have m:R0 x=false:=by simpa using m
       rw[m]at A;rw[bad m]at h;repeat' (first|with_reducible apply D0w|simp only[go_sem,seval,d,u,y,j,z,G,J,A,decide_true,decide_false]|with_reducible refine A0h _ _ _ ?_|omega)
       exact D2O (A0 hb) h
   ·have d:decide ((i:Int)<s.size)=false:=D0z (by omega);rw[D1B (by omega)]at e;rw[e]at h;repeat' simp only[go_sem,seval,d]
    exact D2O (A0 hb) h
  ·repeat' (first|with_reducible apply D0w|simp only[go_sem,seval,v1,I,o,C,M,decide_true,decide_false])
   refine A7Q _ _ _ (by kernel_rfl) (by kernel_rfl) ?_;repeat' (first|simp only[go_sem,seval]|intro p)
   rename_i b;have hb:=p;clear p;refine C8 [23,24] (fun(i:Nat)=>[(25,.int .i64 i)]) (fun(i:Nat)=>H.set b (.vec 1 (F1 s))) (fun(i:Nat)=>i≤s.size∧((B s).take i).all (ofB R0)=true) (fun(i:Nat)=>s.size-i) (0) (⟨D1H _,by simp⟩) (by(try simp only[go_sem,seval])<;>(try simp(disch:=omega) [A5])) (by first|exact D2N _|exact A0 (by assumption)|exact B4 (by assumption)|simp only[Heap.Le,Heap.set,Heap.del]at* <;>grind) ?_;rintro U rfl i ⟨V,e⟩;by_cases q:i<s.size
   ·have d:decide ((i:Int)<s.size)=true:=D0y (by omega);have r:i<(B s).length:=by omega
    have u:=A3H s i q;have y:=S0 s i q;obtain⟨x,hx⟩: ∃x,x=V5 (B s) i:=⟨_,rfl⟩
    have bad:R0 x=false→(B s).all (ofB R0)=false:=fun g=>v8 R0 (B s) i r (by rw[←hx];exact g);rw[←hx]at u y;have O:decide ((i:Int)<(F1 s).length)=true:=D0y (by rw[A3I];omega);by_cases z:x<33
    ·rw[bad (A3k (by omega))]at h;repeat' (first|with_reducible apply D0w|simp only[go_sem,seval,d,u,y,j,z,decide_true]|omega)
     exact D2O (A0 hb) h
    ·by_cases G:126<x
     ·rw[bad (A3k (by omega))]at h;repeat' (first|with_reducible apply D0w|simp only[go_sem,seval,d,u,y,j,z,G,decide_true,decide_false]|omega)
      exact D2O (A0 hb) h
     ·have A:=A5A (x:=x) (by omega) (by omega);have J:B ({data:= #[43,45,42,60,62,61]}:ByteArray)=A8u:=rfl;by_cases m:R0 x=true
      ·rw[m]at A;repeat' (first|with_reducible apply D0w|simp only[go_sem,seval,d,u,y,j,z,G,J,A,decide_true,decide_false]|simp(disch:=omega) only[A5,S0]|with_reducible refine A0h _ _ _ ?_|omega)
       exact C4 (i+1) ⟨by omega,by rw[j4 _ _ _ r,e,←hx,m];rfl⟩ (by omega) (by(try simp only[go_sem,seval])<;>(try simp(disch:=omega) [A5])) (D2N _)
      ·have m:R0 x=false:=by simpa using m
       rw[m]at A;rw[bad m]at h;repeat' (first|with_reducible apply D0w|simp only[go_sem,seval,d,u,y,j,z,G,J,A,decide_true,decide_false]|with_reducible refine A0h _ _ _ ?_|omega)
       exact D2O (A0 hb) h
   ·have d:decide ((i:Int)<s.size)=false:=D0z (by omega);rw[D1B (by omega)]at e;rw[e]at h;repeat' simp only[go_sem,seval,d]
    exact D2O (A0 hb) h
 ·have W:G7 (B s)=false:=by
   rw[←D2I];intro g;unfold G7 at g;simp only[D09,D1I,Bool.not_eq_true']at g;exact hv ⟨g.1.1.1,by omega,g.1.2⟩
  rw[W]at h;by_cases v1:B s= []
  ·repeat' (first|with_reducible apply D0w|simp only[go_sem,seval,v1,decide_true])
   exact D2R h
  ·have o:(0:Int)<s.size:=by have:=List.length_pos_iff.2 v1;omega
   by_cases v2:(200:Int)<s.size
   ·repeat' (first|with_reducible apply D0w|simp only[go_sem,seval,v1,v2,o,decide_true,decide_false])
    exact D2R h
   ·have v3:48≤V5 (B s) 0∧V5 (B s) 0≤57:=by
     rw[←U4];cases g:Q4 (V5 (B s) 0)with
     |true=>rfl
     |false=>exact absurd ⟨v1,by omega,g⟩ hv
    repeat' (first|with_reducible apply D0w|simp only[go_sem,seval,v1,v2,o,C,v3.1,v3.2,decide_true,decide_false])
    exact D2R h
theorem A0i{Q}(s:ByteArray)(hs:s.size≤4611686018427387904)(H:Heap)(h:Q (.bool (G7 (B s))) H):E6 111 [.str s] H Q:=by
 refine B2 [] A8 Tryz.func111 rfl ?_;simp only[go_sem,seval,Tryz.results111];have hl:=U7 s;have q:S3 s 0=V5 (B s) 0:=B0F s;refine C8 [0] (fun(i:Nat)=>[(3,.int .i64 i)]) (fun(i:Nat)=>H) (fun(i:Nat)=>i≤s.size∧((B s).take i).all (ofB R0)=true) (fun(i:Nat)=>s.size-i) (0) (⟨D1H _,by simp⟩) (by(try simp only[go_sem,seval])<;>(try simp(disch:=omega) [A5])) (by first|exact D2N _|exact A0 (by assumption)|exact B4 (by assumption)|simp only[Heap.Le,Heap.set,Heap.del]at* <;>grind) ?_;rintro Ec rfl i ⟨hi,j⟩;by_cases L:i<s.size
 ·have d:decide ((i:Int)<s.size)=true:=D0y (by omega);have p:(i:Int)<s.size:=by omega
  have r:i<(B s).length:=by omega
  obtain⟨x,hx⟩: ∃x,x=V5 (B s) i:=⟨_,rfl⟩
  have m:S3 s (i:Int)=x:=by rw[hx];exact B29 s i
  by_cases y:R0 x=true
  ·have c:=(A2f x).1 y;obtain⟨d1,d2,M,O,T,U,V,W⟩:=c;have z: ¬x<33:=by omega
   have A: ¬126<x:=by omega
   repeat' (first|with_reducible apply D0w|simp only[go_sem,seval,d,p,m,z,A,M,O,T,U,V,W,decide_false]|simp(disch:=omega) only[A5]|omega)
   exact C4 (i+1) ⟨by omega,by rw[j4 _ _ _ r,j,←hx,y];rfl⟩ (by omega) (by(try simp only[go_sem,seval])<;>(try simp(disch:=omega) [A5])) (D2N _)
  ·have X:R0 x=false:=by simpa using y
   have Y:G7 (B s)=false:=by
    unfold G7;rw[v8 R0 (B s) i r (by rw[←hx];exact X),Bool.and_false]
   rw[Y]at h;have C:x<33∨126<x∨x=43∨x=45∨x=42∨x=60∨x=62∨x=61:=by
    have:=mt (A2f x).2 y;omega
   rcases C with g|g|g
   ·repeat' (first|with_reducible apply D0w|simp only[go_sem,seval,d,p,m,g,decide_true]|omega)
    exact D2R h
   ·have g0: ¬x<33:=by omega
    repeat' (first|with_reducible apply D0w|simp only[go_sem,seval,d,p,m,g0,g,decide_true,decide_false]|omega)
    exact D2R h
   ·rcases g with g|g|g|g|g|g<;>rw[g]at m
    all_goals
     repeat' (first|with_reducible apply D0w|simp only[go_sem,seval,d,p,m,decide_true,decide_false]|omega)
     exact D2R h
 ·have d:decide ((i:Int)<s.size)=false:=D0z (by omega);rw[D1B (by omega)]at j;have G:G7 (B s)=(decide (B s≠[])&&decide ((B s).length≤200)&& !Q4 (V5 (B s) 0)):=by unfold G7;rw[j,Bool.and_true]
  rw[G]at h;by_cases v1:B s= []
  ·have vs:s.size=0:=by rw[←hl,v1];rfl
   have e:(decide (B s≠[])&&decide ((B s).length≤200)&& !Q4 (V5 (B s) 0))=false:=by rw[D0z (by simpa using v1)];rfl
   rw[e]at h;have o: ¬((1:Int)≤s.size):=by omega
   repeat' simp only[go_sem,seval,d,o,decide_false]
   all_goals exact D2R h
  ·have vs:0<s.size:=by have:=List.length_pos_iff.2 v1;omega
   have o:(1:Int)≤s.size:=by omega
   have u:(0:Int)<s.size:=by omega
   rw[D0y (show B s≠[]from v1)]at h;by_cases v2:(s.size:Int)≤200
   ·rw[D0y (show (B s).length≤200 by omega)]at h;by_cases I:V5 (B s) 0<48
    ·have e:Q4 (V5 (B s) 0)=false:=by rw[←D2I,U4];omega
     rw[e]at h;repeat' simp only[go_sem,seval,d,o,u,v2,q,I,decide_true]
     all_goals exact D2R h
    ·have e:Q4 (V5 (B s) 0)= !decide (57<V5 (B s) 0):=by
      by_cases J:57<V5 (B s) 0
      ·rw[D0y J];rw[show (!true)=false from rfl,←D2I,U4];omega
      ·rw[D0z J];rw[show (!false)=true from rfl,U4];omega
     rw[e]at h;repeat' simp only[go_sem,seval,d,o,u,v2,q,I,decide_true,decide_false]
     all_goals exact D2R (by simpa using h)
   ·rw[D0z (show¬(B s).length≤200 by omega)]at h;repeat' simp only[go_sem,seval,d,o,v2,decide_true,decide_false]
    all_goals exact D2R h
theorem A1g(P:Program)(t:TypeId)(c:Bool)(x y:ByteArray):L3 P .geq t c (.str x) (.str y)=some (.bool (!Op.bytesLess x.data.toList y.data.toList)):=rfl
theorem A8v{Q}(a:LinV)(M:L6 a)(H:Heap)(h:Q (.bool (validL a)) H):E6 96 [.agg (D7 a)] H Q:=by
 refine B2 [] A8 Tryz.func96 rfl ?_;simp only[go_sem,seval,Tryz.results96];intro C I;have e1:(H.set C (.box (D7 a))) C=some (.box (D7 a)):=A3 _ _;have J:H.Le (H.set C (.box (D7 a))):=A0 I;generalize H.set C (.box (D7 a))=Bs at e1 J⊢;have hlen:=M.len;repeat' (first|with_reducible apply D0w|simp only[go_sem,seval,e1]|simp(disch:=omega) only[A5,B3]|simp(disch:=first|omega|grind) only[B9]|intro m|omega)
 refine C8 [1,6,7] (fun(i:Nat)=>[(8,.int .i64 i)]) (fun(i:Nat)=>Bs) (fun(i:Nat)=>i≤a.t.length∧(List.range i).all (A2A a.t)=true) (fun(i:Nat)=>a.t.length-i) (0) (⟨D1H _,rfl⟩) (by(try simp only[go_sem,seval])<;>(try simp(disch:=omega) [A5])) (by first|exact D2N _|exact A0 (by assumption)|exact B4 (by assumption)|simp only[Heap.Le,Heap.set,Heap.del]at* <;>grind) ?_;rintro V rfl i ⟨W,r⟩;by_cases d:i<a.t.length
 ·have j:decide ((i:Int)<a.t.length)=true:=D0y (by omega);have T:(i:Int)<a.t.length:=by omega
  have U:=M.co _ (D1A d);have e:a.t.getD i default=a.t[i]:=by simp[d]
  have e2: ∀q:i-1<a.t.length,a.t.getD (i-1) default=a.t[i-1]:=fun q=>by simp[q]
  have o:A2A a.t i=(G7 (B a.t[i].v)&&(decide (i=0)||W8 (a.t.getD (i-1) default).v a.t[i].v)&&decide (a.t[i].c≠0)&&J7 a.t[i].c 1048576):=by unfold A2A;rw[e]
  have bad:A2A a.t i=false→validL a=false:=fun g=>by
   unfold validL W9;have:(List.range a.t.length).all (A2A a.t)=false:=by rw[List.all_eq_false];exact⟨i,List.mem_range.2 d,by rw[g];decide⟩
   rw[this];rfl
  by_cases n1:G7 (B a.t[i].v)=true
  ·by_cases n2:i=0
   ·have y: ¬((0:Int)<i):=by omega
    have p:(G7 (B a.t[i].v)&&(decide (i=0)||W8 (a.t.getD (i-1) default).v a.t[i].v))=true:=by rw[n1,D0y n2];rfl
    by_cases u:a.t[i].c=0
    ·rw[bad (by rw[o,p,u];simp)]at h;repeat' (first|with_reducible apply D0w|simp only[go_sem,seval,j,e1,n1,B3 _ _ d,C3 _ _ d,y,u,decide_true,decide_false]|intro m|with_reducible refine O7 _ _ ?_|omega)
     exact D2O (by simp only[E3,D1,D2]at* <;>grind) h
    ·by_cases w:J7 a.t[i].c 1048576=true
     ·have z:A2A a.t i=true:=by rw[o,p,w,D0y (show a.t[i].c≠0 from u)];rfl
      repeat' (first|with_reducible apply D0w|simp only[go_sem,seval,j,e1,n1,B3 _ _ d,C3 _ _ d,y,u,w,decide_true,decide_false]|simp(disch:=omega) only[A5,B3]|intro m|with_reducible refine O7 _ _ ?_|with_reducible refine X7 _ _ (by omega) (by omega) _ ?_|omega)
      exact C4 (i+1) ⟨by omega,by rw[List.range_succ,D10,r];simp[z]⟩ (by omega) (by(try simp only[go_sem,seval])<;>(try simp(disch:=omega) [A5])) (by simp only[E3,D1,D2]at* <;>grind)
     ·have w:J7 a.t[i].c 1048576=false:=by simpa using w
      rw[bad (by rw[o,p,w,Bool.and_false])]at h;repeat' (first|with_reducible apply D0w|simp only[go_sem,seval,j,e1,n1,B3 _ _ d,C3 _ _ d,y,u,w,decide_true,decide_false]|intro m|with_reducible refine O7 _ _ ?_|with_reducible refine X7 _ _ (by omega) (by omega) _ ?_|omega)
      exact D2O (by simp only[E3,D1,D2]at* <;>grind) h
   ·have q:i-1<a.t.length:=by omega
    have y:(0:Int)<i:=by omega
    have G:(i:Int)-1=((i-1:Nat):Int):=by omega
    have x:((i-1:Nat):Int)<a.t.length:=by omega
    by_cases l:W8 a.t[i-1].v a.t[i].v=true
    ·have p:(G7 (B a.t[i].v)&&(decide (i=0)||W8 (a.t.getD (i-1) default).v a.t[i].v))=true:=by rw[n1,e2 q,l,Bool.or_true];rfl
     have A:Op.bytesLess a.t[i-1].v.data.toList a.t[i].v.data.toList=true:=l;by_cases u:a.t[i].c=0
     ·rw[bad (by rw[o,p,u];simp)]at h;repeat' (first|with_reducible apply D0w|simp only[go_sem,seval,j,e1,n1,B3 _ _ d,C3 _ _ d,y,G,x,B3 _ _ q,C3 _ _ q,A1g,A,D2K,D2L,u,decide_true,decide_false]|simp(disch:=omega) only[A5,B3]|simp(disch:=first|omega|grind) only[B9]|intro m|with_reducible refine O7 _ _ ?_|omega)
      exact D2O (by simp only[E3,D1,D2]at* <;>grind) h
     ·by_cases w:J7 a.t[i].c 1048576=true
      ·have z:A2A a.t i=true:=by rw[o,p,w,D0y (show a.t[i].c≠0 from u)];rfl
       repeat' (first|with_reducible apply D0w|simp only[go_sem,seval,j,e1,n1,B3 _ _ d,C3 _ _ d,y,G,x,B3 _ _ q,C3 _ _ q,A1g,A,D2K,D2L,u,w,decide_true,decide_false]|simp(disch:=omega) only[A5,B3]|simp(disch:=first|omega|grind) only[B9]|intro m|with_reducible refine O7 _ _ ?_|with_reducible refine X7 _ _ (by omega) (by omega) _ ?_|omega)
       exact C4 (i+1) ⟨by omega,by rw[List.range_succ,D10,r];simp[z]⟩ (by omega) (by(try simp only[go_sem,seval])<;>(try simp(disch:=omega) [A5])) (by simp only[E3,D1,D2]at* <;>grind)
      ·have w:J7 a.t[i].c 1048576=false:=by simpa using w
       rw[bad (by rw[o,p,w,Bool.and_false])]at h;repeat' (first|with_reducible apply D0w|simp only[go_sem,seval,j,e1,n1,B3 _ _ d,C3 _ _ d,y,G,x,B3 _ _ q,C3 _ _ q,A1g,A,D2K,D2L,u,w,decide_true,decide_false]|simp(disch:=omega) only[A5,B3]|simp(disch:=first|omega|grind) only[B9]|intro m|with_reducible refine O7 _ _ ?_|with_reducible refine X7 _ _ (by omega) (by omega) _ ?_|omega)
       exact D2O (by simp only[E3,D1,D2]at* <;>grind) h
    ·have l:W8 a.t[i-1].v a.t[i].v=false:=by simpa using l
     have A:Op.bytesLess a.t[i-1].v.data.toList a.t[i].v.data.toList=false:=l;rw[bad (by rw[o,n1,e2 q,l,D0z n2];rfl)]at h;repeat' (first|with_reducible apply D0w|simp only[go_sem,seval,j,e1,n1,B3 _ _ d,C3 _ _ d,y,G,x,B3 _ _ q,C3 _ _ q,A1g,A,D2K,D2L,decide_true,decide_false]|simp(disch:=omega) only[A5,B3]|simp(disch:=first|omega|grind) only[B9]|intro m|with_reducible refine O7 _ _ ?_|omega)
     exact D2O (by simp only[E3,D1,D2]at* <;>grind) h
  ·have n1:G7 (B a.t[i].v)=false:=by simpa using n1
   rw[bad (by rw[o,n1];rfl)]at h;repeat' (first|with_reducible apply D0w|simp only[go_sem,seval,j,e1,n1,B3 _ _ d,C3 _ _ d]|intro m|with_reducible refine O7 _ _ ?_|omega)
   exact D2O (by simp only[E3,D1,D2]at* <;>grind) h
 ·have j:decide ((i:Int)<a.t.length)=false:=D0z (by omega);have L:i=a.t.length:=by omega
  subst L;have hv:validL a=(decide (a.t.length≤12)&&J7 a.k 1099511627776):=by unfold validL W9;rw[r];rfl
  rw[hv]at h;by_cases O:(a.t.length:Int)≤12
  ·rw[D0y (show a.t.length≤12 by omega)]at h;repeat' (first|simp only[go_sem,seval,j,e1,O,decide_true]|with_reducible refine X7 _ _ (by omega) (by omega) _ ?_)
   all_goals exact D2O (by simp only[E3,D1,D2]at* <;>grind) h
  ·rw[D0z (show¬a.t.length≤12 by omega)]at h;repeat' simp only[go_sem,seval,j,e1,O,decide_false]
   all_goals exact D2O (by simp only[E3,D1,D2]at* <;>grind) h
theorem o9{Q}(a:LinV)(J:L6 a)(H:Heap)(h:Q (.bool (validL a)) H):E6 101 [.agg (D7 a)] H Q:=by
 refine B2 [] A8 Tryz.func101 rfl ?_;simp only[go_sem,seval,Tryz.results101];intro A L;have e1:(H.set A (.box (D7 a))) A=some (.box (D7 a)):=A3 _ _;have p:H.Le (H.set A (.box (D7 a))):=A0 L;generalize H.set A (.box (D7 a))=Bs at e1 p⊢;have hlen:=J.len;by_cases C:(12:Int)<a.t.length
 ·have hv:validL a=false:=by unfold validL;rw[D0z (show¬a.t.length≤12 by omega)];simp
  rw[hv]at h;repeat' (first|with_reducible apply D0w|simp only[go_sem,seval,e1,C,decide_true])
  exact D2O p h
 by_cases M:a.k< -1099511627776
 ·have hv:validL a=false:=by unfold validL J7;rw[D0z (show¬ -1099511627776≤a.k by omega)];simp
  rw[hv]at h;repeat' (first|with_reducible apply D0w|simp only[go_sem,seval,e1,C,M,decide_true,decide_false])
  exact D2O p h
 by_cases U:1099511627776<a.k
 ·have hv:validL a=false:=by unfold validL J7;rw[D0z (show¬a.k≤1099511627776 by omega)];simp
  rw[hv]at h;repeat' (first|with_reducible apply D0w|simp only[go_sem,seval,e1,C,M,U,decide_true,decide_false])
  exact D2O p h
 repeat' (first|with_reducible apply D0w|simp only[go_sem,seval,e1,C,M,U,decide_true,decide_false])
 refine C8 [1,20,21] (fun(i:Nat)=>[(22,.int .i64 i)]) (fun(i:Nat)=>Bs) (fun(i:Nat)=>i≤a.t.length∧(List.range i).all (A2A a.t)=true) (fun(i:Nat)=>a.t.length-i) (0) (⟨D1H _,rfl⟩) (by(try simp only[go_sem,seval])<;>(try simp(disch:=omega) [A5])) (by first|exact D2N _|exact A0 (by assumption)|exact B4 (by assumption)|simp only[Heap.Le,Heap.set,Heap.del]at* <;>grind) ?_;rintro Y rfl i ⟨hi,q⟩;by_cases d:i<a.t.length
 ·have j:decide ((i:Int)<a.t.length)=true:=D0y (by omega);have W:(i:Int)<a.t.length:=by omega
  have X:=J.co _ (D1A d);have hst:a.t[i].v.size≤4611686018427387904:=by have:=J.str _ (D1A d);omega
  have e:a.t.getD i default=a.t[i]:=by simp[d]
  have e2: ∀r:i-1<a.t.length,a.t.getD (i-1) default=a.t[i-1]:=fun r=>by simp[r]
  have m:A2A a.t i=(G7 (B a.t[i].v)&&(decide (i=0)||W8 (a.t.getD (i-1) default).v a.t[i].v)&&decide (a.t[i].c≠0)&&J7 a.t[i].c 1048576):=by unfold A2A;rw[e]
  have bad:A2A a.t i=false→validL a=false:=fun g=>by
   unfold validL W9;have:(List.range a.t.length).all (A2A a.t)=false:=by rw[List.all_eq_false];exact⟨i,List.mem_range.2 d,by rw[g];decide⟩
   rw[this];rfl
  by_cases n1:G7 (B a.t[i].v)=true
  ·by_cases u:a.t[i].c=0
   ·rw[bad (by rw[m,u];simp)]at h;repeat' (first|with_reducible apply D0w|simp only[go_sem,seval,j,e1,n1,B3 _ _ d,C3 _ _ d,u,D2K,D2L,decide_true,decide_false]|intro o|with_reducible refine A0i _ hst _ ?_|omega)
    exact D2O (by simp only[E3,D1,D2]at* <;>grind) h
   ·by_cases y:a.t[i].c< -1048576
    ·rw[bad (by rw[m];unfold J7;rw[D0z (show¬ -1048576≤a.t[i].c by omega)];simp)]at h;repeat' (first|with_reducible apply D0w|simp only[go_sem,seval,j,e1,n1,B3 _ _ d,C3 _ _ d,u,y,D2K,D2L,decide_true,decide_false]|intro o|with_reducible refine A0i _ hst _ ?_|omega)
     exact D2O (by simp only[E3,D1,D2]at* <;>grind) h
    ·by_cases G:1048576<a.t[i].c
     ·rw[bad (by rw[m];unfold J7;rw[D0z (show¬a.t[i].c≤1048576 by omega)];simp)]at h;repeat' (first|with_reducible apply D0w|simp only[go_sem,seval,j,e1,n1,B3 _ _ d,C3 _ _ d,u,y,G,D2K,D2L,decide_true,decide_false]|intro o|with_reducible refine A0i _ hst _ ?_|omega)
      exact D2O (by simp only[E3,D1,D2]at* <;>grind) h
     ·have w:J7 a.t[i].c 1048576=true:=by unfold J7;rw[D0y (show-1048576≤a.t[i].c by omega),D0y (show a.t[i].c≤1048576 by omega)];rfl
      by_cases n2:i=0
      ·have I: ¬((0:Int)<i):=by omega
       have x:A2A a.t i=true:=by rw[m,n1,w,D0y n2,D0y (show a.t[i].c≠0 from u)];rfl
       repeat' (first|with_reducible apply D0w|simp only[go_sem,seval,j,e1,n1,B3 _ _ d,C3 _ _ d,u,y,G,I,D2K,D2L,decide_true,decide_false]|simp(disch:=omega) only[A5,B3]|intro o|with_reducible refine A0i _ hst _ ?_|omega)
       exact C4 (i+1) ⟨by omega,by rw[List.range_succ,D10,q];simp[x]⟩ (by omega) (by(try simp only[go_sem,seval])<;>(try simp(disch:=omega) [A5])) (by simp only[E3,D1,D2]at* <;>grind)
      ·have r:i-1<a.t.length:=by omega
       have I:(0:Int)<i:=by omega
       have V:(i:Int)-1=((i-1:Nat):Int):=by omega
       have z:((i-1:Nat):Int)<a.t.length:=by omega
       by_cases l:W8 a.t[i-1].v a.t[i].v=true
       ·have O:Op.bytesLess a.t[i-1].v.data.toList a.t[i].v.data.toList=true:=l;have x:A2A a.t i=true:=by rw[m,n1,w,e2 r,l,Bool.or_true,D0y (show a.t[i].c≠0 from u)];rfl
        repeat' (first|with_reducible apply D0w|simp only[go_sem,seval,j,e1,n1,B3 _ _ d,C3 _ _ d,u,y,G,I,V,z,B3 _ _ r,C3 _ _ r,A1g,O,D2K,D2L,decide_true,decide_false]|simp(disch:=omega) only[A5,B3]|simp(disch:=first|omega|grind) only[B9]|intro o|with_reducible refine A0i _ hst _ ?_|omega)
        exact C4 (i+1) ⟨by omega,by rw[List.range_succ,D10,q];simp[x]⟩ (by omega) (by(try simp only[go_sem,seval])<;>(try simp(disch:=omega) [A5])) (by simp only[E3,D1,D2]at* <;>grind)
       ·have l:W8 a.t[i-1].v a.t[i].v=false:=by simpa using l
        have O:Op.bytesLess a.t[i-1].v.data.toList a.t[i].v.data.toList=false:=l;rw[bad (by rw[m,n1,e2 r,l,D0z n2];rfl)]at h;repeat' (first|with_reducible apply D0w|simp only[go_sem,seval,j,e1,n1,B3 _ _ d,C3 _ _ d,u,y,G,I,V,z,B3 _ _ r,C3 _ _ r,A1g,O,D2K,D2L,decide_true,decide_false]|simp(disch:=omega) only[A5,B3]|simp(disch:=first|omega|grind) only[B9]|intro o|with_reducible refine A0i _ hst _ ?_|omega)
        exact D2O (by simp only[E3,D1,D2]at* <;>grind) h
  ·have n1:G7 (B a.t[i].v)=false:=by simpa using n1
   rw[bad (by rw[m,n1];rfl)]at h;repeat' (first|with_reducible apply D0w|simp only[go_sem,seval,j,e1,n1,B3 _ _ d,C3 _ _ d,D2K,D2L,decide_true,decide_false]|intro o|with_reducible refine A0i _ hst _ ?_|omega)
   exact D2O (by simp only[E3,D1,D2]at* <;>grind) h
 ·have j:decide ((i:Int)<a.t.length)=false:=D0z (by omega);have T:i=a.t.length:=by omega
  subst T;have hv:validL a=true:=by
   unfold validL W9 J7;rw[q,D0y (show a.t.length≤12 by omega),D0y (show-1099511627776≤a.k by omega),D0y (show a.k≤1099511627776 by omega)];rfl
  rw[hv]at h;repeat' simp only[go_sem,seval,j,e1]
  exact D2O p h
end Go.Proofs.YtibphjonmikciaaGreatDoor
namespace Go.Lin
open Go Go.Av Go.Lexs
theorem A0j(k n:Int)(e:Bool):NilR (.tuple [.agg [.nilsl,.int .i64 k,.bool e],.int .i64 n]) (.tuple [.agg (D7 ⟨[],k,e⟩),.int .i64 n]):=by
 refine .tuple _ _ rfl fun i d d' h1 g=>?_
 match i with
 |0=>
  cases h1;cases g;refine .agg _ _ rfl fun i d d' h1 g=>?_
  match i with
  |0=>cases h1;cases g;exact .nil _
  |1=>cases h1;cases g;exact .same _
  |2=>cases h1;cases g;exact .same _
  |i+3=>cases h1
 |1=>cases h1;cases g;exact .same _
 |i+2=>cases h1
end Go.Lin
namespace Go.Proofs.YtibphjonmikciaaGreatDoor
open Go Go.Av Go.Lexs Go.Lin
attribute [local irreducible] ACalls S3
theorem B6q{Q}(l:List VlV)(C:A7S l)(H:Heap)(h:Q (.bool (N7 l)) H):E6 61 [.sl 2 (Rw vlC l)] H Q:=by
 refine B2 [] A8 Tryz.func61 rfl ?_;simp only[go_sem,seval,Tryz.results61];have hlen:=C.len;refine C8 [0,5,6] (fun(i:Nat)=>[(7,.int .i64 i)]) (fun(i:Nat)=>H) (fun(i:Nat)=>i≤l.length∧(List.range i).all (okV l)=true) (fun(i:Nat)=>l.length-i) (0) (⟨D1H _,rfl⟩) (by(try simp only[go_sem,seval])<;>(try simp(disch:=omega) [A5])) (by first|exact D2N _|exact A0 (by assumption)|exact B4 (by assumption)|simp only[Heap.Le,Heap.set,Heap.del]at* <;>grind) ?_;rintro I rfl i ⟨J,o⟩;by_cases d:i<l.length
 ·have j:decide ((i:Int)<l.length)=true:=D0y (by omega);have G:(i:Int)<l.length:=by omega
  have e:l.getD i default=l[i]:=by simp[d]
  have e2: ∀p:i-1<l.length,l.getD (i-1) default=l[i-1]:=fun p=>by simp[p]
  have m:okV l i=(G7 (B l[i].v)&&(decide (i=0)||W8 (l.getD (i-1) default).v l[i].v)&&J7 l[i].n 2147483647):=by unfold okV;rw[e]
  have bad:okV l i=false→N7 l=false:=fun g=>by
   unfold N7;have:(List.range l.length).all (okV l)=false:=by rw[List.all_eq_false];exact⟨i,List.mem_range.2 d,by rw[g];decide⟩
   rw[this];rfl
  by_cases n1:G7 (B l[i].v)=true
  ·by_cases n2:i=0
   ·have x: ¬((0:Int)<i):=by omega
    by_cases w:J7 l[i].n 2147483647=true
    ·have r:okV l i=true:=by rw[m,n1,w,D0y n2];rfl
     repeat' (first|with_reducible apply D0w|simp only[go_sem,seval,j,n1,B3 _ _ d,C3 _ _ d,x,w,D2K,D2L,decide_true,decide_false]|simp(disch:=omega) only[A5,B3]|intro q|with_reducible refine O7 _ _ ?_|with_reducible refine X7 _ _ (by omega) (by omega) _ ?_|omega)
     exact C4 (i+1) ⟨by omega,by rw[List.range_succ,D10,o];simp[r]⟩ (by omega) (by(try simp only[go_sem,seval])<;>(try simp(disch:=omega) [A5])) (by simp only[E3,D1,D2]at* <;>grind)
    ·have w:J7 l[i].n 2147483647=false:=by simpa using w
     rw[bad (by rw[m,w,Bool.and_false])]at h;repeat' (first|with_reducible apply D0w|simp only[go_sem,seval,j,n1,B3 _ _ d,C3 _ _ d,x,w,D2K,D2L,decide_true,decide_false]|intro q|with_reducible refine O7 _ _ ?_|with_reducible refine X7 _ _ (by omega) (by omega) _ ?_|omega)
     exact D2O (by simp only[E3,D1,D2]at* <;>grind) h
   ·have p:i-1<l.length:=by omega
    have x:(0:Int)<i:=by omega
    have z:(i:Int)-1=((i-1:Nat):Int):=by omega
    have u:((i-1:Nat):Int)<l.length:=by omega
    by_cases g:W8 l[i-1].v l[i].v=true
    ·have y:Op.bytesLess l[i-1].v.data.toList l[i].v.data.toList=true:=g;by_cases w:J7 l[i].n 2147483647=true
     ·have r:okV l i=true:=by rw[m,n1,w,e2 p,g,Bool.or_true];rfl
      repeat' (first|with_reducible apply D0w|simp only[go_sem,seval,j,n1,B3 _ _ d,C3 _ _ d,x,z,u,B3 _ _ p,C3 _ _ p,A1g,y,w,D2K,D2L,decide_true,decide_false]|simp(disch:=omega) only[A5,B3]|intro q|with_reducible refine O7 _ _ ?_|with_reducible refine X7 _ _ (by omega) (by omega) _ ?_|omega)
      exact C4 (i+1) ⟨by omega,by rw[List.range_succ,D10,o];simp[r]⟩ (by omega) (by(try simp only[go_sem,seval])<;>(try simp(disch:=omega) [A5])) (by simp only[E3,D1,D2]at* <;>grind)
     ·have w:J7 l[i].n 2147483647=false:=by simpa using w
      rw[bad (by rw[m,w,Bool.and_false])]at h;repeat' (first|with_reducible apply D0w|simp only[go_sem,seval,j,n1,B3 _ _ d,C3 _ _ d,x,z,u,B3 _ _ p,C3 _ _ p,A1g,y,w,D2K,D2L,decide_true,decide_false]|simp(disch:=omega) only[A5,B3]|intro q|with_reducible refine O7 _ _ ?_|with_reducible refine X7 _ _ (by omega) (by omega) _ ?_|omega)
      exact D2O (by simp only[E3,D1,D2]at* <;>grind) h
    ·have g:W8 l[i-1].v l[i].v=false:=by simpa using g
     have y:Op.bytesLess l[i-1].v.data.toList l[i].v.data.toList=false:=g;rw[bad (by rw[m,n1,e2 p,g,D0z n2];rfl)]at h;repeat' (first|with_reducible apply D0w|simp only[go_sem,seval,j,n1,B3 _ _ d,C3 _ _ d,x,z,u,B3 _ _ p,C3 _ _ p,A1g,y,D2K,D2L,decide_true,decide_false]|simp(disch:=omega) only[A5,B3]|intro q|with_reducible refine O7 _ _ ?_|omega)
     exact D2O (by simp only[E3,D1,D2]at* <;>grind) h
  ·have n1:G7 (B l[i].v)=false:=by simpa using n1
   rw[bad (by rw[m,n1];rfl)]at h;repeat' (first|with_reducible apply D0w|simp only[go_sem,seval,j,n1,B3 _ _ d,C3 _ _ d,D2K,D2L,decide_true,decide_false]|intro q|with_reducible refine O7 _ _ ?_|omega)
   exact D2O (by simp only[E3,D1,D2]at* <;>grind) h
 ·have j:decide ((i:Int)<l.length)=false:=D0z (by omega);have A:i=l.length:=by omega
  subst A;have hv:N7 l=decide ((l.length:Int)≤24):=by
   unfold N7;rw[o];by_cases g:l.length≤24
   ·rw[D0y g,D0y (show (l.length:Int)≤24 by omega)];rfl
   ·rw[D0z g,D0z (show¬(l.length:Int)≤24 by omega)];rfl
  rw[hv]at h;repeat' simp only[go_sem,seval,j]
  exact D2O (by simp only[E3,D1,D2]at* <;>grind) h
theorem C3m{Q}(a:LinV)(j:L6 a)(H:Heap)(h:Q (.tuple [.agg (D7 (X1 a).1),.int .i64 (X1 a).2]) H):E6 172 [.agg (D7 a)] H Q:=by
 refine B2 [] A8 Tryz.func172 rfl ?_;simp only[go_sem,seval,Tryz.results172];intro d e;have e1:(H.set d (.box (D7 a))) d=some (.box (D7 a)):=A3 _ _;have g:H.Le (H.set d (.box (D7 a))):=A0 e;generalize H.set d (.box (D7 a))=Bs at e1 g⊢;by_cases c:validL a=true
 ·have el:X1 a=(a,0):=if_pos c;rw[el]at h;repeat' (first|simp only[go_sem,seval,e1,c]|simp(disch:=first|omega|grind) only[B9]|intro i|with_reducible refine o9 a j _ ?_)
  exact D2O (by simp only[E3,D1,D2]at* <;>grind) h
 ·have el:X1 a=(nilL,3):=if_neg c;rw[el]at h;have c:validL a=false:=by simpa using c
  repeat' (first|simp only[go_sem,seval,e1,c]|simp(disch:=first|omega|grind) only[B9]|intro i|with_reducible refine o9 a j _ ?_)
  exact D9 (A0j 0 3 false) (D2O (by simp only[E3,D1,D2]at* <;>grind) h)
end Go.Proofs.YtibphjonmikciaaGreatDoor
namespace Go.Lin
open Go Go.Av Go.Lexs
open Classical in
noncomputable def I7(ks:List ByteArray)(s:ByteArray):List ByteArray:=if s∈ks then ks else ks++[s]
theorem A3J{ks:List ByteArray}{s:ByteArray}(h:ks.Nodup):(I7 ks s).Nodup:=by
 unfold I7;split
 ·exact h
 ·rename_i g;exact List.nodup_append.2 ⟨h,by simp,fun a d b hb=>by simp at hb;subst hb;exact fun e=>g (e ▸ d)⟩
theorem B0l{ks:List ByteArray}{s x:ByteArray}:x∈I7 ks s↔x∈ks∨x=s:=by
 unfold I7;split
 ·rename_i g;constructor
  ·exact .inl
  ·rintro(h|rfl);exact h;exact g
 ·simp
theorem B6r(ks:List ByteArray)(s:ByteArray):(I7 ks s).length≤ks.length+1:=by
 unfold I7;split<;>simp
theorem V0(m:List ByteArray): ∀ks:List ByteArray,ks.Nodup→(m.foldl I7 ks).Nodup:=by
 induction m with
 |nil=>exact fun ks h=>h
 |cons s m d=>exact fun ks h=>d _ (A3J h)
theorem A7n(m:List ByteArray)(x:ByteArray): ∀ks:List ByteArray,x∈m.foldl I7 ks↔x∈ks∨x∈m:=by
 induction m with
 |nil=>intro ks;simp
 |cons s m d=>intro ks;rw[List.foldl_cons,d,B0l,D1O,or_assoc]
theorem A7o(m:List ByteArray): ∀ks:List ByteArray,(m.foldl I7 ks).length≤ks.length+m.length:=by
 induction m with
 |nil=>intro ks;simp
 |cons s m d=>intro ks;have:=d (I7 ks s);have:=B6r ks s;simp only[List.foldl_cons,D01];omega
theorem B4j(f:ByteArray→D)(s:ByteArray)(ks:List ByteArray):D4 f (s::ks)=(.str s,f s)::D4 f ks:=rfl
theorem find_strM(f:ByteArray→D)(s:ByteArray): ∀(ks:List ByteArray) (i:Nat),(s∉ks∧Q0 (.one .str) (.str s) (D4 f ks) i=some none)∨∃j,∃h:j<ks.length,ks[j]=s∧Q0 (.one .str) (.str s) (D4 f ks) i=some (some (i+j,f s))
 | [],i=>.inl ⟨by simp,rfl⟩
 |t::ks,i=>by
  have e:A4w (.one .str) (.str s) (.str t)=some (decide (s=t)):=by
   rw[A4w,V6]
   congr 1
   rw[Bool.eq_iff_iff,beq_iff_eq,D1I];exact⟨fun g=>Y5 g,fun g=>by rw[g]⟩
  rw[B4j,Q0];simp only[e,D1Q,D1I];by_cases c:s=t
  ·subst c;rw[if_pos rfl];exact .inr ⟨0,by simp,rfl,rfl⟩
  ·rw[if_neg c];rcases find_strM f s ks (i+1)with⟨h1,d⟩|⟨j,h,h1,d⟩
   ·exact .inl ⟨by rw[D1O,not_or];exact⟨c,h1⟩,d⟩
   ·exact .inr ⟨j+1,by simpa using h,by simpa using h1,by rw[d];congr 3;omega⟩
def B0m(f:ByteArray→D)(s:ByteArray)(x:D):ByteArray→D:=fun t=>if t=s then x else f t
theorem B6s(f:ByteArray→D)(s:ByteArray)(x:D)(ks:List ByteArray)(hn:ks.Nodup):(Q0 (.one .str) (.str s) (D4 f ks) 0).map (fun r=>A5x (D4 f ks) (.str s) x r)=some (D4 (B0m f s x) (I7 ks s)):=by
 rcases find_strM f s ks 0 with⟨h1,d⟩|⟨j,h,h1,d⟩
 ·rw[d];show some (D4 f ks++[(.str s,x)])=_;unfold I7;rw[if_neg h1];unfold D4;rw[D1w]
  congr 2
  ·refine List.map_congr_left fun t o=>?_;have:t≠s:=fun e=>h1 (e ▸ o);simp[B0m,this]
  ·simp[B0m]
 ·rw[d];show some ((D4 f ks).set (0+j) (.str s,x))=_;have hm:s∈ks:=by rw[←h1];exact D1A h
  unfold I7;rw[if_pos hm,Nat.zero_add]
  congr 1
  apply D2H
  ·simp[D4]
  ·intro i u p;have m:i<ks.length:=by simpa [D4]using p
   by_cases e:j=i
   ·subst e;rw[List.getElem_set_self];simp[D4,B0m,h1]
   ·rw[List.getElem_set_ne e];have:ks[i]≠s:=fun g=>by
     have hp:=List.pairwise_iff_getElem.1 hn;rcases Nat.lt_or_gt_of_ne e with q|q
     ·exact hp j i h m q (h1.trans g.symm)
     ·exact hp i j m h q (g.trans h1.symm)
    simp[D4,B0m,this]
theorem Z7{H:Heap}{b:Nat}(f:ByteArray→D)(s:ByteArray)(x:D)(ks:List ByteArray)(hn:ks.Nodup):(Q0 (.one .str) (.str s) (D4 f ks) 0).map (fun r=>H.set b (.map (A5x (D4 f ks) (.str s) x r)))=some (H.set b (.map (D4 (B0m f s x) (I7 ks s)))):=by
 have:=congrArg (Option.map fun m=>H.set b (.map m)) (B6s f s x ks hn);rw[Option.map_map]at this;exact this
open Classical in
theorem A2m(f:ByteArray→D)(s:ByteArray)(z:D)(ks:List ByteArray):(Q0 (.one .str) (.str s) (D4 f ks) 0).map (A23 false z)=some (if s∈ks then f s else z):=by
 rcases find_strM f s ks 0 with⟨h1,d⟩|⟨j,e,h1,d⟩
 ·rw[d,if_neg h1];rfl
 ·have hm:s∈ks:=by rw[←h1];exact D1A e
  rw[d,if_pos hm];rfl
abbrev tt:ByteArray→D:=fun _=>.bool true
theorem A3K(s:ByteArray):B0m tt s (.bool true)=tt:=by
 funext t;unfold B0m;split<;>rfl
def A0k(l:List LinV)(i j:Nat):List ByteArray:=P4 (l.take i)++(((l.getD i default).t.take j).map (·.v))
theorem B19(l:List LinV)(i:Nat)(h:i<l.length):A0k l i l[i].t.length=A0k l (i+1) 0:=by
 unfold A0k P4;rw[D1F h,List.flatMap_append];simp[h]
theorem B2A(l:List LinV)(i j:Nat)(h:i<l.length)(d:j<l[i].t.length):A0k l i (j+1)=A0k l i j++[l[i].t[j].v]:=by
 unfold A0k;rw[show l.getD i default=l[i]by simp[h],D1F d,D1w,←D1k];rfl
theorem B4k(l:List LinV):A0k l l.length 0=P4 l:=by simp[A0k]
theorem B2B(m:List ByteArray)(s:ByteArray):(m++[s]).foldl I7 []=I7 (m.foldl I7 []) s:=by rw[D1o];rfl
end Go.Lin
namespace Go.Proofs.YtibphjonmikciaaGreatDoor
open Go Go.Av Go.Lexs Go.Lin
attribute [local irreducible] ACalls S3
theorem C3n{Q}(l:List LinV)(hlen:l.length≤1000000000)(M:(P4 l).length≤1000000000)(hst: ∀s∈P4 l,s.size≤4611686018427387904)(C: ∀c∈l,c.t.length≤1000000000)(H:Heap)(h:Q (.sl 1 (Rw I6 (A2B l))) H):E6 198 [.sl 3 (Rw D7 l)] H Q:=by
 refine B2 [] A8 Tryz.func198 rfl ?_;simp only[go_sem,seval,Tryz.results198];repeat' (intro d;try simp only[A6]at d)
 rename_i g;have O:=d;clear d;rw[show ([]:List (D×D))=D4 tt ((A0k l 0 0).foldl I7 [])from rfl];refine C8 [3,9,10] (fun(i:Nat)=>[(11,.int .i64 i)]) (fun(i:Nat)=>H.set g (.map (D4 tt ((A0k l i 0).foldl I7 [])))) (fun(i:Nat)=>i≤l.length) (fun(i:Nat)=>l.length-i) (0) (D1H _) (by(try simp only[go_sem,seval])<;>(try simp(disch:=omega) [A5])) (by first|exact D2N _|exact A0 (by assumption)|exact B4 (by assumption)|simp only[Heap.Le,Heap.set,Heap.del]at* <;>grind) ?_;rintro T rfl i hi;by_cases m:i<l.length
 ·have q:decide ((i:Int)<l.length)=true:=D0y (by omega);have U:(i:Int)<l.length:=by omega
  have V:=C _ (D1A m);repeat' (first|with_reducible apply D0w|simp only[go_sem,seval,q,B3 _ _ m,C3 _ _ m]|(intro d;try simp only[A6]at d)|omega)
  rename_i b5;have h5:=d;clear d;have W:(H.set g (.map (D4 tt ((A0k l i 0).foldl I7 [])))).Le ((H.set g (.map (D4 tt ((A0k l i 0).foldl I7 [])))).set b5 (.box (D7 l[i]))):=(by simp only[E3,D1,D2]at* <;>grind)
  refine C8 [3,9,10,11,16,17] (fun(j:Nat)=>[(18,.int .i64 j)]) (fun(j:Nat)=>H.set g (.map (D4 tt ((A0k l i j).foldl I7 [])))) (fun(j:Nat)=>j≤l[i].t.length) (fun(j:Nat)=>l[i].t.length-j) (0) (D1H _) (by(try simp only[go_sem,seval])<;>(try simp(disch:=omega) [A5])) (by first|exact D2N _|exact A0 (by assumption)|exact B4 (by assumption)|simp only[Heap.Le,Heap.set,Heap.del]at* <;>grind) ?_;rintro T rfl j hj;by_cases r:j<l[i].t.length
  ·have p:decide ((j:Int)<l[i].t.length)=true:=D0y (by omega);have G:(j:Int)<l[i].t.length:=by omega
   have u:((A0k l i j).foldl I7 []).Nodup:=V0 _ [] List.nodup_nil;have X:=B2A l i j m r;repeat' (first|with_reducible apply D0w|simp only[go_sem,seval,p,G,B3 _ _ r,C3 _ _ r,Z7 _ _ _ _ u,A3K]|simp(disch:=omega) only[A5,B3]|simp(disch:=first|omega|grind) only[B9]|(intro d;try simp only[A6]at d)|omega)
   rename_i Y;have L:=d;clear d;refine C4 (j+1) (by omega) (by omega) (by(try simp only[go_sem,seval])<;>(try simp(disch:=omega) [A5])) ?_;rw[X,B2B];refine Heap.Le.trans (A0 (b:=Y) (o:=.box (L4 l[i].t[j])) (by simp only[A6];exact L)) (B3O L.1)
  ·have p:decide ((j:Int)<l[i].t.length)=false:=D0z (by omega);have I:j=l[i].t.length:=by omega
   subst I;rw[B19 l i m];repeat' (first|simp only[go_sem,seval,p]|simp(disch:=omega) only[A5,B3])
   exact C4 (i+1) (by omega) (by omega) (by(try simp only[go_sem,seval])<;>(try simp(disch:=omega) [A5])) (D2N _)
 ·have q:decide ((i:Int)<l.length)=false:=D0z (by omega);have J:i=l.length:=by omega
  subst J;rw[B4k];have u:((P4 l).foldl I7 []).Nodup:=V0 _ [] List.nodup_nil;have y:=A7o (P4 l) [];rw[D03,Nat.zero_add]at y;have x: ∀s,s∈(P4 l).foldl I7 []↔s∈P4 l:=fun s=>by rw[A7n];simp
  generalize (P4 l).foldl I7 []=ks at u y x⊢;repeat' simp only[go_sem,seval,q]
  refine B9n g _ fun A z=>?_;have f1:((H.set g (.map (D4 tt ks))).set A (.box [.map g])) A=some (.box [.map g]):=A3 _ _;have f2:((H.set g (.map (D4 tt ks))).set A (.box [.map g])) g=some (.map (D4 tt ks)):=(A0 z) _ _ (A3 _ _);repeat' simp only[go_sem,seval]
  refine B9o A g tt ks (by omega) (fun s hs=>hst s ((x s).1 hs)) _ f1 f2 fun v hv hm=>?_;have e:v=A2B l:=A6O hv (B0P l) fun s=>by rw[hm,x,A7V]
  rw[e];repeat' simp only[go_sem,seval]
  exact D2O ((A0 O).trans (A0 z)) h
end Go.Proofs.YtibphjonmikciaaGreatDoor
namespace Go.Lin
open Go Go.Av Go.Lexs
section
variable {P:Program} {t:Nat} {c:Bool}
@[go_sem] theorem C9U(a:Int):L3 P .shr t c (.int .u64 a) (.int .u64 1)=some (.int .u64 (a / 2)):=by
 show (if(1:Int)<0 then none else some (D.int .u64 (a.fdiv (2 ^ (min (1:Int).toNat IntKind.u64.bits)))))=_;rw[if_neg (by decide)];have e:(2:Int) ^ (min (1:Int).toNat IntKind.u64.bits)=2:=by decide
 rw[e,Int.fdiv_eq_ediv_of_nonneg _ (by decide)]
end
theorem B6t: ∀(x y:List UInt8),decide (Lib.compareBytes x y<0)=Op.bytesLess x y
 | [],[]=>rfl
 | [],y::g=>rfl
 |x::xs,[]=>rfl
 |x::xs,y::g=>by
  unfold Lib.compareBytes Op.bytesLess;have h:=B6t xs g;by_cases h1:x<y
  ·simp[h1]
  ·by_cases d:y<x
   ·have:x≠y:=fun e=>by subst e;exact h1 d
    simp[h1,d,this]
   ·have:x=y:=UInt8.le_antisymm (UInt8.not_lt.1 d) (UInt8.not_lt.1 h1);simp[h1,d,this,h]
theorem B3T: ∀(x y:List UInt8),decide (Lib.compareBytes x y=0)=decide (x=y)
 | [],[]=>rfl
 | [],y::g=>rfl
 |x::xs,[]=>rfl
 |x::xs,y::g=>by
  unfold Lib.compareBytes;have h:=B3T xs g;by_cases h1:x<y
  ·have:x≠y:=fun e=>by subst e;exact absurd h1 (UInt8.lt_irrefl _)
   simp[h1,this]
  ·by_cases d:y<x
   ·have:x≠y:=fun e=>by subst e;exact absurd d h1
    simp[h1,d,this]
   ·have:x=y:=UInt8.le_antisymm (UInt8.not_lt.1 d) (UInt8.not_lt.1 h1);subst this;simp[UInt8.lt_irrefl];simpa using h
end Go.Lin
namespace Go.Proofs.YtibphjonmikciaaGreatDoor
open Go Go.Av Go.Lexs Go.Lin
attribute [local irreducible] ACalls S3
theorem B6u{Q}(s:ByteArray)(H:Heap)(h:Q (.bool false) H):E6 208 [.str s] H Q:=by
 refine B2 [] A8 Tryz.func208 rfl ?_;simp only[go_sem,seval,Tryz.results208];repeat' (first|with_reducible apply D0w|simp only[go_sem,seval]|intro d|omega)
 exact D2R h
theorem B3U{Q}(x y:ByteArray)(H:Heap)(h:Q (.bool (W8 x y)) H):E6 166 [.str x,.str y] H Q:=by
 refine B2 [] A8 Tryz.func166 rfl ?_;simp only[go_sem,seval,Tryz.results166];repeat' (first|simp only[go_sem,seval]|with_reducible refine B6u _ _ ?_)
 exact D2R h
theorem B4l{Q}(o:List ByteArray)(A:o.Pairwise fun x y=>W8 x y=true)(s:ByteArray)(i:Nat)(z:i<o.length)(he:o[i]=s)(hlen:o.length≤1000000000)(H:Heap)(h:Q (.tuple [.int .i64 (i:Int),.bool true]) H):
  E6 229 [.sl 1 (Rw I6 o),.str s] H Q:=by
 refine B2 [] A8 Tryz.func229 rfl ?_;simp only[go_sem,seval,Tryz.results229];have r:=List.pairwise_iff_getElem.1 A;repeat' (first|with_reducible apply D0w|simp only[go_sem,seval]|simp(disch:=omega) only[A5,B3]|intro T|omega)
 refine C8 [0,1,6] (fun(p:Nat×Nat)=>[(7,.int .i64 (p.1:Int)),(8,.int .i64 (p.2:Int))]) (fun(p:Nat×Nat)=>H) (fun(p:Nat×Nat)=>p.1≤i∧i≤p.2∧p.2≤o.length) (fun(p:Nat×Nat)=>p.2-p.1) ((0,o.length)) (⟨D1H _,by omega,D1G _⟩) (by(try simp only[go_sem,seval])<;>(try simp(disch:=omega) [A5])) (by first|exact D2N _|exact A0 (by assumption)|exact B4 (by assumption)|simp only[Heap.Le,Heap.set,Heap.del]at* <;>grind) ?_;rintro W rfl ⟨lo,d⟩ ⟨I,J,L⟩;simp only at I J L;by_cases U:lo<d
 ·have q:decide ((lo:Int)<d)=true:=D0y (by omega);obtain⟨m,hm⟩: ∃m,m=(lo+d) / 2:=⟨_,rfl⟩
  have j:m<o.length:=by omega
  have u:(m:Int)<o.length:=by omega
  have M:IntKind.u64.wrap ((lo:Int)+d) / 2=(m:Int):=by rw[A0Y (by omega) (by omega)];omega
  have O:IntKind.i64.wrap (m:Int)=m:=by rw[A5 (by omega) (by omega)]
  have hc:W8 o[m] s=decide (m<i):=by
   by_cases g:m<i
   ·rw[D0y g,←he];exact r m i j z g
   ·rw[D0z g,←he];rcases Nat.lt_or_eq_of_le (Nat.le_of_not_lt g)with C|C
    ·have:=r i m z j C;rw[←D2I];intro V;have:=Z6 this V;rw[w9]at this;cases this
    ·simp only[C];exact w9 _
  by_cases g:m<i
  ·rw[D0y g]at hc;repeat' (first|with_reducible apply D0w|simp only[go_sem,seval,q,M,O,u,B3 _ _ j,C3 _ _ j,hc]|simp(disch:=omega) only[A5,B3]|with_reducible refine B3U _ _ _ ?_|omega)
   exact C4 (m+1,d) ⟨by simp only[];omega,J,L⟩ (by simp only[];omega) (by(try simp only[go_sem,seval])<;>(try simp(disch:=omega) [A5])) (D2N _)
  ·rw[D0z g]at hc;repeat' (first|with_reducible apply D0w|simp only[go_sem,seval,q,M,O,u,B3 _ _ j,C3 _ _ j,hc]|simp(disch:=omega) only[A5,B3]|with_reducible refine B3U _ _ _ ?_|omega)
   exact C4 (lo,m) ⟨I,by simp only[];omega,by simp only[];omega⟩ (by simp only[];omega) (by simp only[go_sem,seval]) (D2N _)
 ·have q:decide ((lo:Int)<d)=false:=D0z (by omega);have e:lo=i:=by omega
  subst e;have G:(lo:Int)<o.length:=by omega
  repeat' (first|with_reducible apply D0w|simp only[go_sem,seval,q,G,B3 _ _ z,C3 _ _ z,he]|omega)
  exact D2R h
theorem B2C{Q}(x:VlV)(s:ByteArray)(H:Heap)(h:Q (.int .i64 (Lib.compareBytes (B x.v) (B s))) H):E6 105 [.agg (vlC x),.str s] H Q:=by
 refine B2 [] A8 Tryz.func105 rfl ?_;simp only[go_sem,seval,Tryz.results105];repeat' (first|simp only[go_sem,seval]|intro d|with_reducible refine B4i _ _ _ ?_)
 exact D2O (by simp only[E3,D1,D2]at* <;>grind) h
def C9V(l:List VlV)(s:ByteArray)(i:Nat):Prop:=i≤l.length∧(∀(k:Nat) (hk:k<l.length),k<i→W8 l[k].v s=true)∧∀hk:i<l.length,W8 l[i].v s=false
theorem B2D{Q}(l:List VlV)(hv:N7 l=true)(s:ByteArray)(hlen:l.length≤1000000000000000)(H:Heap)(h: ∀i,C9V l s i→Q (.tuple [.int .i64 (i:Int),.bool (if hk:i<l.length then decide (l[i].v=s)else false)]) H):
  E6 104 [.sl 2 (Rw vlC l),.str s,.fn (.func 105) [] []] H Q:=by
 refine B2 [] A8 Tryz.func104 rfl ?_;simp only[go_sem,seval,Tryz.results104];have x:=A7a hv;repeat' (first|with_reducible apply D0w|simp only[go_sem,seval]|simp(disch:=omega) only[A5,B3]|intro J|omega)
 refine C8 [0,1,2,8] (fun(p:Nat×Nat)=>[(9,.int .i64 (p.1:Int)),(10,.int .i64 (p.2:Int))]) (fun(p:Nat×Nat)=>H) (fun(p:Nat×Nat)=>p.1≤p.2∧p.2≤l.length∧(∀(k:Nat) (hk:k<l.length),k<p.1→W8 l[k].v s=true)∧∀(k:Nat) (hk:k<l.length),p.2≤k→W8 l[k].v s=false) (fun(p:Nat×Nat)=>p.2-p.1) ((0,l.length)) (⟨D1H _,D1G _,fun k _ h=>absurd h (D2C _),fun k hk h=>absurd hk (by simp only[]at h;omega)⟩) (by(try simp only[go_sem,seval])<;>(try simp(disch:=omega) [A5])) (by first|exact D2N _|exact A0 (by assumption)|exact B4 (by assumption)|simp only[Heap.Le,Heap.set,Heap.del]at* <;>grind) ?_;rintro T rfl ⟨lo,d⟩ ⟨L,z,A,C⟩;simp only at L z A C;by_cases M:lo<d
 ·have o:decide ((lo:Int)<d)=true:=D0y (by omega);obtain⟨m,hm⟩: ∃m,m=(lo+d) / 2:=⟨_,rfl⟩
  have j:m<l.length:=by omega
  have y:(m:Int)<l.length:=by omega
  have G:IntKind.u64.wrap ((lo:Int)+d) / 2=(m:Int):=by rw[A0Y (by omega) (by omega)];omega
  have I:IntKind.i64.wrap (m:Int)=m:=by rw[A5 (by omega) (by omega)]
  have hc:decide (Lib.compareBytes (B l[m].v) (B s)<0)=W8 l[m].v s:=B6t _ _;cases g:W8 l[m].v s with
  |true=>
   rw[g]at hc;repeat' (first|with_reducible apply D0w|simp only[go_sem,seval,o,G,I,y,B3 _ _ j,C3 _ _ j,hc]|simp(disch:=omega) only[A5,B3]|with_reducible refine B2C _ _ _ ?_|omega)
   refine C4 (m+1,d) ⟨by simp only[];omega,z,fun k hk q=>?_,C⟩ (by simp only[];omega) (by(try simp only[go_sem,seval])<;>(try simp(disch:=omega) [A5])) (D2N _);simp only[]at q;rcases Nat.lt_or_ge k m with u|u
   ·exact Z6 (x k m hk j u) g
   ·have:k=m:=by omega
    subst this;exact g
  |false=>
   rw[g]at hc;repeat' (first|with_reducible apply D0w|simp only[go_sem,seval,o,G,I,y,B3 _ _ j,C3 _ _ j,hc]|simp(disch:=omega) only[A5,B3]|with_reducible refine B2C _ _ _ ?_|omega)
   refine C4 (lo,m) ⟨by simp only[];omega,by simp only[];omega,A,fun k hk q=>?_⟩ (by simp only[];omega) (by simp only[go_sem,seval]) (D2N _);simp only[]at q;rcases Nat.lt_or_eq_of_le q with u|u
   ·rw[←D2I];intro O;have:=Z6 (x m k j hk u) O;rw[g]at this;cases this
   ·subst u;exact g
 ·have o:decide ((lo:Int)<d)=false:=D0z (by omega);have e:lo=d:=by omega
  subst e;have h:=h lo ⟨z,A,fun hk=>C lo hk (D1G _)⟩;by_cases hl:lo<l.length
  ·have r:(lo:Int)<l.length:=by omega
   have hc:decide (Lib.compareBytes (B l[lo].v) (B s)=0)=decide (l[lo].v=s):=by
    rw[B3T];exact D1Z.2 ⟨fun g=>Y5 g,fun g=>by rw[g]⟩
   rw[dif_pos hl]at h;repeat' (first|with_reducible apply D0w|simp only[go_sem,seval,o,r,B3 _ _ hl,C3 _ _ hl,hc]|with_reducible refine B2C _ _ _ ?_|omega)
   exact D2R h
  ·have r: ¬(lo:Int)<l.length:=by omega
   rw[dif_neg hl]at h;repeat' simp only[go_sem,seval,o,r]
   exact D2R h
theorem B0n{Q}(l:List VlV)(hv:N7 l=true)(s:ByteArray)(hlen:l.length≤1000000000000000)(H:Heap)(h:Q (.tuple [.int .i64 ((P6 l s).getD 0),.bool (P6 l s).isSome]) H):E6 62 [.sl 2 (Rw vlC l),.str s] H Q:=by
 refine B2 [] A8 Tryz.func62 rfl ?_;simp only[go_sem,seval,Tryz.results62];repeat' (first|with_reducible apply D0w|simp only[go_sem,seval]|simp(disch:=omega) only[B3,A8n]|intro e|omega)
 refine B2D l hv s hlen _ fun i hp=>?_;obtain⟨j,m,o⟩:=hp;rw[A8n hv j m o]at h;by_cases hl:i<l.length
 ·have d:(i:Int)<l.length:=by omega
  rw[dif_pos hl]at h⊢;by_cases g:l[i].v=s
  ·rw[if_pos g]at h;rw[D0y g];simp only[Option.getD_some,Option.isSome_some]at h;repeat' (first|with_reducible apply D0w|simp only[go_sem,seval,d,B3 _ _ hl,C3 _ _ hl]|omega)
   exact D2R h
  ·rw[if_neg g]at h;rw[D0z g];simp only[Option.getD_none,Option.isSome_none]at h;repeat' simp only[go_sem,seval]
   exact D2R h
 ·rw[dif_neg hl]at h⊢;simp only[Option.getD_none,Option.isSome_none]at h;repeat' simp only[go_sem,seval]
  exact D2R h
end Go.Proofs.YtibphjonmikciaaGreatDoor
namespace Go.Lin
open Go Go.Av
theorem B9q{H:Heap}{sz:Nat}{es:List (List D)}{ob:Option Nat}(h: ∀b,ob=some b→H b=none):H.Le (putB H sz es ob):=by
 cases ob with
 |none=>exact D2N H
 |some b=>exact A0 (h b rfl)
theorem B3V{α :Type}(p: α →Bool): ∀l:List α,(!l.any fun x=> !p x)=l.all p
 | []=>rfl
 |x::l=>by rw[D11,D1z,←B3V p l];cases p x<;>simp
def chT(l:List Row)(k:Nat):Ch:=(List.range k).foldl (A3p l) ⟨none,false,0⟩
@[go_sem] theorem C9W(l:List Row):M3 (chT l 0).best= -1:=rfl
@[go_sem] theorem C9X(l:List Row):(chT l 0).sure=false:=rfl
@[go_sem] theorem C9Y(l:List Row):(chT l 0).cost=0:=rfl
theorem B0o(l:List Row)(k:Nat):chT l (k+1)=A3p l (chT l k) k:=by simp[chT,List.range_succ,D1o]
end Go.Lin
namespace Go.Proofs.YtibphjonmikciaaGreatDoor
open Go Go.Av Go.Lin
attribute [local irreducible] ACalls S3
theorem B9r{Q}(r:Row)(k b:Nat)(hk:k<r.c.length)(H:Heap)(hb:H b=some (.box [.int .i64 (k:Int)]))(h:Q (.bool (!((X2 r.c k).natAbs==1))) H):E6 286 [.agg (C7 r),.box b 0] H Q:=by
 refine B2 [] A8 Tryz.func286 rfl ?_;simp only[go_sem,seval,Tryz.results286];intro d i;have e2:(H.set d (.box (C7 r))) d=some (.box (C7 r)):=A3 _ _;have e1:(H.set d (.box (C7 r))) b=some (.box [.int .i64 (k:Int)]):=(A0 i) _ _ hb;have j:H.Le (H.set d (.box (C7 r))):=A0 i;generalize H.set d (.box (C7 r))=Bs at e1 e2 j⊢;have m:(k:Int)<r.c.length:=by omega
 rw[I3 _ _ hk]at h;have e:(!(r.c[k].natAbs==1))=(!decide (r.c[k].natAbs=1)):=by by_cases g:r.c[k].natAbs=1<;>simp[g]
 rw[e]at h;repeat' (first|with_reducible apply D0w|simp only[go_sem,seval,e1,e2,m,B3 _ _ hk,C3 _ _ hk]|with_reducible refine B0a _ _ ?_|omega)
 exact D2O j h
theorem P0{Q}(l:List Row)(k:Nat)(hlen:l.length≤1000000)(hk: ∀r∈l,k<r.c.length)(H:Heap)(h:Q (.bool (A2G l k)) H):E6 261 [.sl 4 (Rw C7 l),.int .i64 (k:Int)] H Q:=by
 refine B2 [] A8 Tryz.func261 rfl ?_;simp only[go_sem,seval,Tryz.results261];intro d e;have e3:(H.set d (.box [.int .i64 (k:Int)])) d=some (.box [.int .i64 (k:Int)]):=A3 _ _;unfold A2G at h;rw[←B3V]at h;have g: ∀a∈l,∀(Q:D→Heap→Prop),Q (.bool (!((X2 a.c k).natAbs==1))) (H.set d (.box [.int .i64 (k:Int)]))→E6 286 ([]++[.agg (C7 a)]++[.box d 0]) (H.set d (.box [.int .i64 (k:Int)])) Q:=fun a i Q hq=>B9r a k d (hk a i) _ e3 hq;repeat' (first|with_reducible apply D0w|simp only[go_sem,seval]|intro j|omega)
 refine C3k (fun r=> !((X2 r.c k).natAbs==1)) l (by omega) 286 [] [.box d 0] _ g ?_;repeat' simp only[go_sem,seval]
 exact D2O (A0 e) h
set_option maxHeartbeats 4000000 in
theorem B6v{Q}(l:List Row)(n:Nat)(hl:l≠[])(hlen:l.length≤1000000)(hw: ∀r∈l,r.c.length=n)(hn:n≤1000000)(H:Heap)(h:Q (.tuple [.int .i64 (M3 (j5 l).best),.bool (j5 l).sure]) H):
  E6 224 [.sl 4 (Rw C7 l)] H Q:=by
 refine B2 [] A8 Tryz.func224 rfl ?_;simp only[go_sem,seval,Tryz.results224];have J:0<l.length:=List.length_pos_iff.2 hl;have L:(0:Int)<l.length:=by omega
 have I:l[0].c.length=n:=hw _ (D1A J);have hr:j5 l=chT l n:=by
  unfold j5 chT;rw[show (l.headD default).c.length=n from by rw[←I];cases l with|nil=>exact absurd rfl hl|cons x l=>rfl]
 rw[hr]at h;repeat' (first|with_reducible apply D0w|simp only[go_sem,seval,L,B3 _ _ J,C3 _ _ J,I])
 refine C8 [0,15] (fun(k:Nat)=>[(16,.int .i64 k),(2,.int .i64 (M3 (chT l k).best)),(3,.bool (chT l k).sure),(4,.int .i64 (chT l k).cost)]) (fun(k:Nat)=>H) (fun(k:Nat)=>k≤n) (fun(k:Nat)=>n-k) (0) (D1H _) (by(try simp only[go_sem,seval])<;>(try simp(disch:=omega) [A5])) (by first|exact D2N _|exact A0 (by assumption)|exact B4 (by assumption)|simp only[Heap.Le,Heap.set,Heap.del]at* <;>grind) ?_;rintro X rfl k hk;by_cases A:k<n
 ·have C:decide ((k:Int)<n)=true:=D0y (by omega);repeat' simp only[go_sem,seval,C]
  refine B3P l k hlen (fun r hr=>by rw[hw r hr];exact A) _ fun ob _ M=>?_;have o:=B9q (sz:=4) (es:=Rw C7 (U9 l k)) M;generalize putB H 4 (Rw C7 (U9 l k)) ob=Hp at o⊢;have Y:(I9 l k).length≤1000000:=D12 (X6 _) hlen;have m2:(G1 l k).length≤1000000:=D12 (X6 _) hlen;obtain⟨p,hp⟩: ∃p,p=(I9 l k).length:=⟨_,rfl⟩
  obtain⟨q,hq⟩: ∃q,q=(G1 l k).length:=⟨_,rfl⟩
  have hs:=B0o l k;unfold A3p at hs;simp only[←hp,←hq]at hs;have y: ∀r∈I9 l k,k<r.c.length:=fun r hr=>by rw[hw r ((List.mem_filter.1 hr).1)];exact A
  have z: ∀r∈G1 l k,k<r.c.length:=fun r hr=>by rw[hw r ((List.mem_filter.1 hr).1)];exact A
  have U:(p:Int)*q≤1000000000000:=by
   have:p*q≤1000000*1000000:=Nat.mul_le_mul (by omega) (by omega);rw[←Int.natCast_mul];omega
  have V:(0:Int)≤(p:Int)*q:=by rw[←Int.natCast_mul];omega
  by_cases T:p+q=0
  ·have u:(p:Int)+q=0:=by omega
   rw[if_pos T]at hs;repeat' (first|with_reducible apply D0w|simp only[go_sem,seval,←hp,←hq,u]|simp(disch:=omega) only[A5,B3])
   refine C4 (k+1) (by omega) (by omega) (by(try simp only[go_sem,seval,hs])<;>(try simp(disch:=omega) [A5])) o
  ·have u: ¬(p:Int)+q=0:=by omega
   rw[if_neg T]at hs;obtain⟨c,hc⟩: ∃c,c=(chT l k).cost:=⟨_,rfl⟩
   obtain⟨m,hm⟩: ∃m,m=(p:Int)*q:=⟨_,rfl⟩
   rw[←hc,←hm]at hs;rw[←hm]at U V;have W:A2G (I9 l k) k=true∨(A2G (I9 l k) k=false∧A2G (G1 l k) k=true)∨(A2G (I9 l k) k=false∧A2G (G1 l k) k=false):=by
    cases A2G (I9 l k) k<;>cases A2G (G1 l k) k<;>simp
   have G:(chT l k).best=none∨∃j,(chT l k).best=some j:=by cases (chT l k).best<;>simp
   rcases W with g|⟨g,i⟩|⟨g,i⟩
   ·have i:True:=trivial;rcases G with hb|⟨j,hb⟩
    ·have d:True:=trivial;have hx:True:=trivial;have e:=hs;simp[g,i,hb,d,hx]at e;have o1: ∀j:Nat,¬(M3 (some j)<0):=fun j=>by show¬((j:Int)<0);omega
     have o2:M3 none= -1:=rfl;have o3:M3 (some k)=k:=rfl;repeat' (first|with_reducible apply D0w|simp only[go_sem,seval,←hp,←hq,←hc,←hm,u,g,i,hb,d,hx,o1,o2,decide_true,decide_false]|simp(disch:=omega) only[A5,B3]|with_reducible refine P0 (I9 l k) k (by omega) y _ ?_)
     refine C4 (k+1) (by omega) (by omega) (by(try simp only[go_sem,seval,e,hb,d,o2,o3,←hc])<;>(try simp(disch:=omega) [A5])) o
    ·cases d:(chT l k).sure
     ·have hx:True:=trivial;have e:=hs;simp[g,i,hb,d,hx]at e;have o1: ∀j:Nat,¬(M3 (some j)<0):=fun j=>by show¬((j:Int)<0);omega
      have o2:M3 none= -1:=rfl;have o3:M3 (some k)=k:=rfl;repeat' (first|with_reducible apply D0w|simp only[go_sem,seval,←hp,←hq,←hc,←hm,u,g,i,hb,d,hx,o1,o2,decide_true,decide_false]|simp(disch:=omega) only[A5,B3]|with_reducible refine P0 (I9 l k) k (by omega) y _ ?_)
      refine C4 (k+1) (by omega) (by omega) (by(try simp only[go_sem,seval,e,hb,d,o2,o3,←hc])<;>(try simp(disch:=omega) [A5])) o
     ·by_cases hx:m-p-q<c
      ·have e:=hs;simp[g,i,hb,d,hx]at e;have o1: ∀j:Nat,¬(M3 (some j)<0):=fun j=>by show¬((j:Int)<0);omega
       have o2:M3 none= -1:=rfl;have o3:M3 (some k)=k:=rfl;repeat' (first|with_reducible apply D0w|simp only[go_sem,seval,←hp,←hq,←hc,←hm,u,g,i,hb,d,hx,o1,o2,decide_true,decide_false]|simp(disch:=omega) only[A5,B3]|with_reducible refine P0 (I9 l k) k (by omega) y _ ?_)
       refine C4 (k+1) (by omega) (by omega) (by(try simp only[go_sem,seval,e,hb,d,o2,o3,←hc])<;>(try simp(disch:=omega) [A5])) o
      ·have e:=hs;simp[g,i,hb,d,hx]at e;have o1: ∀j:Nat,¬(M3 (some j)<0):=fun j=>by show¬((j:Int)<0);omega
       have o2:M3 none= -1:=rfl;have o3:M3 (some k)=k:=rfl;repeat' (first|with_reducible apply D0w|simp only[go_sem,seval,←hp,←hq,←hc,←hm,u,g,i,hb,d,hx,o1,o2,decide_true,decide_false]|simp(disch:=omega) only[A5,B3]|with_reducible refine P0 (I9 l k) k (by omega) y _ ?_)
       refine C4 (k+1) (by omega) (by omega) (by(try simp only[go_sem,seval,e,hb,d,o2,o3,←hc])<;>(try simp(disch:=omega) [A5])) o
   ·rcases G with hb|⟨j,hb⟩
    ·have d:True:=trivial;have hx:True:=trivial;have e:=hs;simp[g,i,hb,d,hx]at e;have o1: ∀j:Nat,¬(M3 (some j)<0):=fun j=>by show¬((j:Int)<0);omega
     have o2:M3 none= -1:=rfl;have o3:M3 (some k)=k:=rfl;repeat' (first|with_reducible apply D0w|simp only[go_sem,seval,←hp,←hq,←hc,←hm,u,g,i,hb,d,hx,o1,o2,decide_true,decide_false]|simp(disch:=omega) only[A5,B3]|with_reducible refine P0 (I9 l k) k (by omega) y _ ?_|with_reducible refine P0 (G1 l k) k (by omega) z _ ?_)
     refine C4 (k+1) (by omega) (by omega) (by(try simp only[go_sem,seval,e,hb,d,o2,o3,←hc])<;>(try simp(disch:=omega) [A5])) o
    ·cases d:(chT l k).sure
     ·have hx:True:=trivial;have e:=hs;simp[g,i,hb,d,hx]at e;have o1: ∀j:Nat,¬(M3 (some j)<0):=fun j=>by show¬((j:Int)<0);omega
      have o2:M3 none= -1:=rfl;have o3:M3 (some k)=k:=rfl;repeat' (first|with_reducible apply D0w|simp only[go_sem,seval,←hp,←hq,←hc,←hm,u,g,i,hb,d,hx,o1,o2,decide_true,decide_false]|simp(disch:=omega) only[A5,B3]|with_reducible refine P0 (I9 l k) k (by omega) y _ ?_|with_reducible refine P0 (G1 l k) k (by omega) z _ ?_)
      refine C4 (k+1) (by omega) (by omega) (by(try simp only[go_sem,seval,e,hb,d,o2,o3,←hc])<;>(try simp(disch:=omega) [A5])) o
     ·by_cases hx:m-p-q<c
      ·have e:=hs;simp[g,i,hb,d,hx]at e;have o1: ∀j:Nat,¬(M3 (some j)<0):=fun j=>by show¬((j:Int)<0);omega
       have o2:M3 none= -1:=rfl;have o3:M3 (some k)=k:=rfl;repeat' (first|with_reducible apply D0w|simp only[go_sem,seval,←hp,←hq,←hc,←hm,u,g,i,hb,d,hx,o1,o2,decide_true,decide_false]|simp(disch:=omega) only[A5,B3]|with_reducible refine P0 (I9 l k) k (by omega) y _ ?_|with_reducible refine P0 (G1 l k) k (by omega) z _ ?_)
       refine C4 (k+1) (by omega) (by omega) (by(try simp only[go_sem,seval,e,hb,d,o2,o3,←hc])<;>(try simp(disch:=omega) [A5])) o
      ·have e:=hs;simp[g,i,hb,d,hx]at e;have o1: ∀j:Nat,¬(M3 (some j)<0):=fun j=>by show¬((j:Int)<0);omega
       have o2:M3 none= -1:=rfl;have o3:M3 (some k)=k:=rfl;repeat' (first|with_reducible apply D0w|simp only[go_sem,seval,←hp,←hq,←hc,←hm,u,g,i,hb,d,hx,o1,o2,decide_true,decide_false]|simp(disch:=omega) only[A5,B3]|with_reducible refine P0 (I9 l k) k (by omega) y _ ?_|with_reducible refine P0 (G1 l k) k (by omega) z _ ?_)
       refine C4 (k+1) (by omega) (by omega) (by(try simp only[go_sem,seval,e,hb,d,o2,o3,←hc])<;>(try simp(disch:=omega) [A5])) o
   ·rcases G with hb|⟨j,hb⟩
    ·have d:True:=trivial;have hx:True:=trivial;have e:=hs;simp[g,i,hb,d,hx]at e;have o1: ∀j:Nat,¬(M3 (some j)<0):=fun j=>by show¬((j:Int)<0);omega
     have o2:M3 none= -1:=rfl;have o3:M3 (some k)=k:=rfl;repeat' (first|with_reducible apply D0w|simp only[go_sem,seval,←hp,←hq,←hc,←hm,u,g,i,hb,d,hx,o1,o2,decide_true,decide_false]|simp(disch:=omega) only[A5,B3]|with_reducible refine P0 (I9 l k) k (by omega) y _ ?_|with_reducible refine P0 (G1 l k) k (by omega) z _ ?_)
     refine C4 (k+1) (by omega) (by omega) (by(try simp only[go_sem,seval,e,hb,d,o2,o3,←hc])<;>(try simp(disch:=omega) [A5])) o
    ·cases d:(chT l k).sure
     ·by_cases hx:m-p-q<c
      ·have e:=hs;simp[g,i,hb,d,hx]at e;have o1: ∀j:Nat,¬(M3 (some j)<0):=fun j=>by show¬((j:Int)<0);omega
       have o2:M3 none= -1:=rfl;have o3:M3 (some k)=k:=rfl;repeat' (first|with_reducible apply D0w|simp only[go_sem,seval,←hp,←hq,←hc,←hm,u,g,i,hb,d,hx,o1,o2,decide_true,decide_false]|simp(disch:=omega) only[A5,B3]|with_reducible refine P0 (I9 l k) k (by omega) y _ ?_|with_reducible refine P0 (G1 l k) k (by omega) z _ ?_)
       refine C4 (k+1) (by omega) (by omega) (by(try simp only[go_sem,seval,e,hb,d,o2,o3,←hc])<;>(try simp(disch:=omega) [A5])) o
      ·have e:=hs;simp[g,i,hb,d,hx]at e;have o1: ∀j:Nat,¬(M3 (some j)<0):=fun j=>by show¬((j:Int)<0);omega
       have o2:M3 none= -1:=rfl;have o3:M3 (some k)=k:=rfl;repeat' (first|with_reducible apply D0w|simp only[go_sem,seval,←hp,←hq,←hc,←hm,u,g,i,hb,d,hx,o1,o2,decide_true,decide_false]|simp(disch:=omega) only[A5,B3]|with_reducible refine P0 (I9 l k) k (by omega) y _ ?_|with_reducible refine P0 (G1 l k) k (by omega) z _ ?_)
       refine C4 (k+1) (by omega) (by omega) (by(try simp only[go_sem,seval,e,hb,d,o2,o3,←hc])<;>(try simp(disch:=omega) [A5])) o
     ·have hx:True:=trivial;have e:=hs;simp[g,i,hb,d,hx]at e;have o1: ∀j:Nat,¬(M3 (some j)<0):=fun j=>by show¬((j:Int)<0);omega
      have o2:M3 none= -1:=rfl;have o3:M3 (some k)=k:=rfl;repeat' (first|with_reducible apply D0w|simp only[go_sem,seval,←hp,←hq,←hc,←hm,u,g,i,hb,d,hx,o1,o2,decide_true,decide_false]|simp(disch:=omega) only[A5,B3]|with_reducible refine P0 (I9 l k) k (by omega) y _ ?_|with_reducible refine P0 (G1 l k) k (by omega) z _ ?_)
      refine C4 (k+1) (by omega) (by omega) (by(try simp only[go_sem,seval,e,hb,d,o2,o3,←hc])<;>(try simp(disch:=omega) [A5])) o
 ·have C:decide ((k:Int)<n)=false:=D0z (by omega);have O:k=n:=by omega
  subst O;repeat' simp only[go_sem,seval,C]
  exact D2R h
end Go.Proofs.YtibphjonmikciaaGreatDoor
namespace Go.Lin
open Go Go.Av Go.Lexs
theorem B0p(k:Int)(l:List LTm)(vs:List VlV)(i:Nat)(h:i<l.length):U5 k (l.drop i) vs=match P6 vs l[i].v with|none=>none|some n=>U5 (k+l[i].c*n) (l.drop (i+1)) vs:=by
 rw[D1R h,U5];rfl
theorem B6w{vs:List VlV}(hv:N7 vs=true){s:ByteArray}{n:Int}(h:P6 vs s=some n):n.natAbs≤2147483647:=by
 have key: ∀(m:List VlV),(∀(i:Nat) (d:i<m.length),m[i].n.natAbs≤2147483647)→P6 m s=some n→n.natAbs≤2147483647:=by
  intro m
  induction m with
  |nil=>intro _ h;cases h
  |cons x m e=>
   intro hm h;rw[P6]at h;split at h
   ·cases h;exact hm 0 (by simp)
   ·exact e (fun i d=>hm (i+1) (by simpa using d)) h
 exact key vs (fun i d=>(A8m hv d).2.1) h
structure C9Z(a:LinV):Prop where
 len:a.t.length≤12
 k:a.k.natAbs≤1099511627776
 t:W9 a.t=true
theorem K5{a:LinV}(h:validL a=true):C9Z a:=by
 unfold validL J7 at h;simp only[D09,D1I]at h;exact⟨h.1.2,by omega,h.1.1⟩
theorem B6x{a b:Int}(d:a.natAbs≤1048576)(hb:b.natAbs≤2147483647):(a*b).natAbs≤2251799812636672:=by
 rw[Int.natAbs_mul];exact D12 (Nat.mul_le_mul d hb) (by decide)
end Go.Lin
namespace Go.Proofs.YtibphjonmikciaaGreatDoor
open Go Go.Av Go.Lexs Go.Lin
attribute [local irreducible] ACalls S3
theorem B9s{Q}(a:LinV)(C:validL a=true)(vs:List VlV)(hv:N7 vs=true)(hlen:vs.length≤1000000000000000)(H:Heap)(h:Q (.tuple [.int .i64 ((U5 a.k a.t vs).getD 0),.bool (U5 a.k a.t vs).isSome]) H):E6 107 [.agg (D7 a),.sl 2 (Rw vlC vs)] H Q:=by
 refine B2 [] A8 Tryz.func107 rfl ?_;simp only[go_sem,seval,Tryz.results107];have ok:=K5 C;intro q r;have e1:(H.set q (.box (D7 a))) q=some (.box (D7 a)):=A3 _ _;have u:H.Le (H.set q (.box (D7 a))):=A0 r;generalize H.set q (.box (D7 a))=Bs at e1 u⊢;have G:=ok.len;have x:=ok.k;repeat' (first|with_reducible apply D0w|simp only[go_sem,seval,e1]|simp(disch:=omega) only[A5,B3]|intro j|omega)
 refine C8 [1,14,15] (fun(p:Nat×Int)=>[(16,.int .i64 p.1),(6,.int .i64 p.2)]) (fun(p:Nat×Int)=>H) (fun(p:Nat×Int)=>p.1≤a.t.length∧U5 a.k a.t vs=U5 p.2 (a.t.drop p.1) vs∧p.2.natAbs≤1099511627776+p.1*2251799812636672) (fun(p:Nat×Int)=>a.t.length-p.1) ((0,a.k)) (⟨D1H _,rfl,by simpa using x⟩) (by(try simp only[go_sem,seval])<;>(try simp(disch:=omega) [A5])) (by first|exact D2N _|exact A0 (by assumption)|exact B4 (by assumption)|simp only[Heap.Le,Heap.set,Heap.del]at* <;>grind) ?_;rintro L rfl ⟨i,s⟩ ⟨I,d,hs⟩;simp only at I d hs;by_cases e:i<a.t.length
 ·have g:decide ((i:Int)<a.t.length)=true:=D0y (by omega);have m:(i:Int)<a.t.length:=by omega
  have J:=A2E ok.t e;rw[B0p _ _ _ _ e]at d;cases o:P6 vs a.t[i].v with
  |none=>
   rw[o]at d;have d:U5 a.k a.t vs=none:=d;rw[d]at h;simp only[Option.getD_none,Option.isSome_none]at h;have y: ∀(H:Heap) (Q:D→Heap→Prop),Q (.tuple [.int .i64 0,.bool false]) H→E6 62 [.sl 2 (Rw vlC vs),.str a.t[i].v] H Q:=fun H Q hq=>B0n vs hv _ hlen H (by rw[o];exact hq);repeat' (first|with_reducible apply D0w|simp only[go_sem,seval,g,m,B3 _ _ e,C3 _ _ e]|intro j|with_reducible refine y _ _ ?_|omega)
   exact D2O (by simp only[E3,D1,D2]at* <;>grind) h
  |some n=>
   rw[o]at d;have d:U5 a.k a.t vs=U5 (s+a.t[i].c*n) (a.t.drop (i+1)) vs:=d;have hn:=B6w hv o;have hp:=B6x J.2.2.1 hn;have y: ∀(H:Heap) (Q:D→Heap→Prop),Q (.tuple [.int .i64 n,.bool true]) H→E6 62 [.sl 2 (Rw vlC vs),.str a.t[i].v] H Q:=fun H Q hq=>B0n vs hv _ hlen H (by rw[o];exact hq);obtain⟨z,A⟩: ∃z,z=a.t[i].c*n:=⟨_,rfl⟩
   rw[←A]at d hp;repeat' (first|with_reducible apply D0w|simp only[go_sem,seval,g,m,B3 _ _ e,C3 _ _ e,←A]|simp(disch:=omega) only[A5,B3]|intro j|with_reducible refine y _ _ ?_|omega)
   refine C4 (i+1,s+z) ⟨by simp only[];omega,d,by simp only[];omega⟩ (by simp only[];omega) (by(try simp only[go_sem,seval])<;>(try simp(disch:=omega) [A5])) (by simp only[E3,D1,D2]at* <;>grind)
 ·have g:decide ((i:Int)<a.t.length)=false:=D0z (by omega);rw[List.drop_eq_nil_of_le (by omega),U5]at d;rw[d]at h;simp only[Option.getD_some,Option.isSome_some]at h;repeat' simp only[go_sem,seval,g]
  exact D2R h
end Go.Proofs.YtibphjonmikciaaGreatDoor
