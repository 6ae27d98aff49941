/- Part of the proof: what the last text builds on. No condition stands here. -/
import Derived.Test.YtibphjonmikciaaGreatDoorProg
import Derived.Test.YtibphjonmikciaaGreatDoorRows
import Derived.Test.YtibphjonmikciaaGreatDoorCards
import Derived.Test.YtibphjonmikciaaGreatDoorTie
import Derived.Test.YtibphjonmikciaaGreatDoorBc4
set_option linter.unusedSimpArgs false
set_option linter.unusedVariables false
set_option maxRecDepth 20000
namespace Go.Lin
open Go Go.Av Go.Lexs
theorem B9k{l:List UInt8}{k:Nat}(h:k<l.length):U5 l k=(l[k].toNat:Int):=by simp[U5,h]
theorem A8w{l:List UInt8}{k:Nat}(h:k<l.length):sgn l[k]=true↔(U5 l k=43∨U5 l k=45):=by
 rw[B9k h];unfold sgn;simp only[D1v,beq_iff_eq];constructor
 ·rintro(e|e)
  ·left;rw[e];rfl
  ·right;rw[e];rfl
 ·rintro(e|e)
  ·left;apply UInt8.toNat_inj.1;show _=43;omega
  ·right;apply UInt8.toNat_inj.1;show _=45;omega
theorem C6v:S []=⟨#[]⟩:=rfl
theorem C6w:S [49]=⟨#[49]⟩:=rfl
theorem B68{P:Program}{t:Nat}(hb:C8 P t= .iface):K7 P .eql t true .nilif .nilif=some (.bool true):=by simp[K7,A5f,A9U,hb]
theorem B69{P:Program}{t u:Nat}{d:D}(hb:C8 P t= .iface):K7 P .eql t true (.iface u d) .nilif=some (.bool false):=by simp[K7,A5f,A9U,hb]
theorem B3V{p:UInt8→Bool}: ∀(l:List UInt8) (k:Nat),k≤l.length→(∀c∈l.take k,p c=true)→(∀h:k<l.length,p l[k]=false)→l.takeWhile p=l.take k∧l.dropWhile p=l.drop k
 | [],k,hk,_,_=>by simp
 |c::l,0,_,_,h=>by
  have:p c=false:=h (by simp);simp[this]
 |c::l,k+1,hk,h1,d=>by
  have hc:p c=true:=h1 c (by simp);obtain⟨a,b⟩:=B3V l k (by simpa using hk) (fun x hx=>h1 x (by simp[hx])) (fun h=>d (by simpa using h));simp[hc,a,b]
theorem A62{p:UInt8→Bool}{v:Bool}{l:List UInt8}{k:Nat}(h:k<l.length)(h1: ∀c∈l.take k,p c=v)(d:p l[k]=v): ∀c∈l.take (k+1),p c=v:=fun c hc=>by
 rw[D0r h]at hc;rcases D0y.1 hc with g|g
 ·exact h1 c g
 ·rw[D0z]at g;subst g;exact d
theorem B2G{b:List UInt8}(h:A0B b=none):b= []:=by
 unfold A0B at h;cases hc:A0L b with
 |some p=>rw[hc]at h;cases h
 |none=>
  rw[hc]at h;simp only[]at h;split at h
  ·cases h
  ·split at h
   ·rename_i e;exact e
   ·cases h
theorem split_some{b c n:List UInt8}(h:A0B b=some (c,n)):A0L b=some (c,n)∨(A0L b=none∧b≠[]∧((P7 b=true∧c=b∧n= [])∨(P7 b=false∧c= [49]∧n=b))):=by
 unfold A0B at h;cases hc:A0L b with
 |some p=>rw[hc]at h;left;exact h
 |none=>
  rw[hc]at h;simp only[]at h
  right
  split at h
  ·rename_i d;injection h with h
   refine⟨rfl,?_,.inl ⟨d,(congrArg Prod.fst h).symm,(congrArg Prod.snd h).symm⟩⟩;rintro rfl;cases d
  ·rename_i d;split at h
   ·cases h
   ·rename_i e;injection h with h
    exact⟨rfl,e,.inr ⟨by simpa using d,(congrArg Prod.fst h).symm,(congrArg Prod.snd h).symm⟩⟩
theorem B4j{b c n:List UInt8}(h:A0B b=some (c,n)):c.length≤b.length+1:=by
 rcases split_some h with h|⟨_,d,⟨_,rfl,_⟩|⟨_,rfl,_⟩⟩
 ·have:=(A6W h).2.1;omega
 ·omega
 ·have:=List.length_pos_iff.2 d;simp
end Go.Lin
namespace Go.Proofs.YtibphjonmikciaaGreatDoor
open Go Go.Av Go.Lexs Go.Lin
attribute [local irreducible] ACalls S9
set_option maxHeartbeats 4000000 in
theorem C3g{Q}(s:ByteArray)(x:UInt8)(r:List UInt8)(hB:B s=x::r)(hs:s.size≤1000000000)(H:Heap)(hT:Tabs H)
  (hN:M3 (x::r.takeWhile (!sgn ·))=none→∀v n z,Q (.tuple [.agg [.str v,.int .i64 n],.str z,.bool false]) H)
  (hY: ∀n v,M3 (x::r.takeWhile (!sgn ·))=some (n,v)→Q (.tuple [.agg [.str (S n),.int .i64 v],.str (S (r.dropWhile (!sgn ·))),.bool true]) H):
  E3 150 [.str s] H Q:=by
 refine A9 [(4,.wk),(8,.wk),(15,.wk)] A8 Tryz.func150 rfl ?_;simp only[go_sem,seval,Tryz.results150];have hl:=T9 s;have c4:s.size=r.length+1:=by rw[←hl,hB];rfl
 intro j g2;have e2:(H.set j (.box [.str ⟨#[]⟩,.int .i64 0])) j=some (.box [.str ⟨#[]⟩,.int .i64 0]):=A3 _ _;have u:H.Le (H.set j (.box [.str ⟨#[]⟩,.int .i64 0])):=A0 g2;generalize H.set j (.box [.str ⟨#[]⟩,.int .i64 0])=Bs at e2 u⊢;have b7:=hT.le u;refine C9 [0,2] (fun(n:Nat)=>[(5,.int .i64 n)]) (fun(n:Nat)=>Bs) (fun(n:Nat)=>1≤n∧n-1≤r.length∧∀c∈r.take (n-1),sgn c=false) (fun(n:Nat)=>r.length+1-n) (1) (⟨D0s _,D0t _,by simp⟩) (by(try simp only[go_sem,seval])<;>(try simp(disch:=omega) [A5])) (by first|exact D1z _|exact A0 (by assumption)|exact B3 (by assumption)|simp only[Heap.Le,Heap.set,Heap.del]at* <;>grind) ?_;rintro Ec rfl n ⟨c5,hk,y⟩;obtain⟨k,b8⟩: ∃k,k=n-1:=⟨_,rfl⟩
 rw[←b8]at hk y;have W:n=k+1:=by omega
 apply Y8 (C:=∀h:k<r.length,sgn r[k]=true)
 ·intro A;have hw:IntKind.i64.wrap ((n:Int)+1)=(n:Int)+1:=A5 (by omega) (by omega);have hn:S9 s (n:Int)=U5 r k:=by
   rw[B9O,hB,show (n:Int).toNat=k+1 by omega];rfl
  by_cases G:k<r.length
  ·have I:decide ((n:Int)<s.size)=true:=D0a (by omega);have Y:(n:Int)<s.size:=by omega
   by_cases J:U5 r k=43
   ·repeat' (first|with_reducible apply D0Y|simp only[go_sem,seval,I,Y,hn,J,decide_true,decide_false,D1w]|omega)
    exact P9 [(0,.str s),(2,.box j 0),(5,.int .i64 n)] Bs (by simp only[go_sem,seval]) (D1z _) (A fun _=>(A8w G).2 (.inl J))
   ·by_cases X:U5 r k=45
    ·repeat' (first|with_reducible apply D0Y|simp only[go_sem,seval,I,Y,hn,J,X,decide_true,decide_false,D1x,D1w]|omega)
     exact P9 [(0,.str s),(2,.box j 0),(5,.int .i64 n)] Bs (by simp only[go_sem,seval]) (D1z _) (A fun _=>(A8w G).2 (.inr X))
    ·have i:sgn r[k]=false:=by
      rw[←D1u,A8w G];rintro(g|g)
      ·exact J g
      ·exact X g
     repeat' (first|with_reducible apply D0Y|simp only[go_sem,seval,I,Y,hn,J,X,decide_false,D1x]|simp(disch:=omega) only[A5]|omega)
     exact C4 (n+1) ⟨by omega,by omega,by rw[show n+1-1=k+1 by omega];exact A62 G y i⟩ (by omega) (by(try simp only[go_sem,seval])<;>(try simp(disch:=omega) [A5])) (by simp only[D9,D2,D3]at* <;>grind)
  ·have I:decide ((n:Int)<s.size)=false:=D0b (by omega);repeat' simp only[go_sem,seval,I]
   exact P9 [(0,.str s),(2,.box j 0),(5,.int .i64 n)] Bs (by simp only[go_sem,seval]) (D1z _) (A fun h=>absurd h G)
 intro a6;obtain⟨tw,dw⟩:=B3V (p:=(!sgn ·)) r k hk (fun c hc=>by rw[y c hc];rfl) (fun h=>by rw[a6 h];rfl);rw[tw]at hN hY;rw[dw]at hY;have hP:(B s).take n=x::r.take k:=by rw[hB,W];rfl
 have hD:(B s).drop n=r.drop k:=by rw[hB,W];rfl
 obtain⟨P,a9⟩: ∃P,P=x::r.take k:=⟨_,rfl⟩
 rw[←a9]at hN hY hP;have b9:P.length≤r.length+1:=by rw[a9];simp;omega
 have L:(n:Int)≤s.size:=by omega
 have M:n≤s.size:=by omega
 have tc: ∀(H:Heap) (Q:D→Heap→Prop),Q (.str (S (Lib.trimPrefix P [43]))) H→E3 185 [.str (S P),.str ⟨#[43]⟩] H Q:=fun H Q hq=>A8l _ _ H (by rw[t7];exact hq);obtain⟨d,O⟩: ∃d,d=Lib.trimPrefix P [43]:=⟨_,rfl⟩
 rw[←O]at tc;have b3:d.length≤r.length+1:=by
  rw[O];unfold Lib.trimPrefix;split
  ·rw[D06];omega
  ·exact b9
 have b4: ∀(H:Heap) (Q:D→Heap→Prop),Q (.bool (Lib.hasPrefix d [45])) H→E3 186 [.str (S d),.str ⟨#[45]⟩] H Q:=fun H Q hq=>B0W _ _ H (by rw[t7];exact hq);obtain⟨U,i⟩: ∃U:Int,U=if(l6 P).1=true then-1 else 1:=⟨_,rfl⟩
 obtain⟨b,hb⟩: ∃b,b=(l6 P).2:=⟨_,rfl⟩
 have c6:b.length≤r.length+1:=by
  rw[hb];unfold l6;simp only[];rw[←O];split
  ·simp only[D06];omega
  ·exact b3
 apply Y8 (C:=True)
 ·intro A;by_cases hp:Lib.hasPrefix d [45]=true
  ·have a0:l6 P=(true,d.drop 1):=by unfold l6;simp only[];rw[←O,if_pos hp]
   have c0:1≤d.length:=by
    cases d with
    |nil=>cases hp
    |cons _ _=>simp
   have c1:1≤(S d).size:=by rw[O6];exact c0
   have b6:(1:Int)≤(S d).size:=by omega
   rw[a0]at i hb;simp only[if_true]at i hb;have c2:S ((B (S d)).drop 1)=S b:=by rw[t7,hb]
   repeat' (first|with_reducible apply D0Y|simp only[go_sem,seval,L,M,hP,hp,c1,b6,c2]|with_reducible refine tc _ _ ?_|with_reducible refine b4 _ _ ?_|omega)
   exact P9 [(0,.str s),(2,.box j 0),(5,.int .i64 n),(6,.str (S b)),(7,.int .i64 U)] Bs (by simp only[go_sem,seval,i,hb]) (D1z _) (A trivial)
  ·have a0:l6 P=(false,d):=by unfold l6;simp only[];rw[←O,if_neg hp]
   have hp:Lib.hasPrefix d [45]=false:=by simpa using hp
   rw[a0]at i hb;simp only[D0o,if_false]at i hb;repeat' (first|with_reducible apply D0Y|simp only[go_sem,seval,L,M,hP,hp]|with_reducible refine tc _ _ ?_|with_reducible refine b4 _ _ ?_|omega)
   exact P9 [(0,.str s),(2,.box j 0),(5,.int .i64 n),(6,.str (S b)),(7,.int .i64 U)] Bs (by simp only[go_sem,seval,i,hb]) (D1z _) (A trivial)
 intro _;have c7:=O6 b;cases o:A0B b with
 |none=>
  have d:=B2G o;have a4:M3 P=none:=by unfold M3;rw[←hb,o]
  subst d;have cc: ∀(H:Heap) (Q:D→Heap→Prop),Q (.tuple [.str (S []),.str ⟨#[]⟩,.bool false]) H→E3 187 [.str (S []),.str ⟨#[42]⟩] H Q:=fun H Q hq=>A8v (S []) (by rw[t7];rfl) H hq;repeat' (first|simp only[go_sem,seval,e2]|with_reducible refine cc _ _ ?_)
  exact D10 (G6 u g2) (hN a4 _ _ _)
 |some p=>
  obtain⟨c,m⟩:=p;have c8:=B4j o;apply Y8 (C:=True)
  ·intro A;rcases split_some o with T|⟨T,d,V⟩
   ·repeat' (first|simp only[go_sem,seval]|with_reducible refine C3e (S b) c m (by rw[t7];exact T) (by omega) _ ?_)
    exact P9 [(0,.str s),(2,.box j 0),(5,.int .i64 n),(7,.int .i64 U),(8,.str (S c)),(9,.str (S m))] Bs (by simp only[go_sem,seval]) (D1z _) (A trivial)
   ·have b1: ¬S b=⟨#[]⟩:=fun e=>d (by have:=congrArg B e;rwa [t7]at this);have bz:0<(S b).size:=by rw[O6];exact List.length_pos_iff.2 d
    have bi:(0:Int)<(S b).size:=by omega
    have a5:A0L (B (S b))=none:=by rw[t7];exact T
    rcases V with⟨V,rfl,rfl⟩|⟨V,rfl,rfl⟩
    ·have q:48≤U5 c 0∧U5 c 0≤57:=by unfold P7 at V;simp only[D0l]at V;exact(T5 _).1 V.2
     obtain⟨J,X⟩:=q;repeat' (first|with_reducible apply D0Y|simp only[go_sem,seval,d,b1,bz,bi,J,X]|with_reducible refine A8v (S c) a5 _ ?_|omega)
     exact P9 [(0,.str s),(2,.box j 0),(5,.int .i64 n),(7,.int .i64 U),(8,.str (S c)),(9,.str (S []))] Bs (by simp only[go_sem,seval,C6v]) (D1z _) (A trivial)
    ·have q: ¬(48≤U5 m 0∧U5 m 0≤57):=fun g=>by
      unfold P7 at V;rw[(T5 _).2 g]at V;simp[d]at V
     by_cases J:48≤U5 m 0
     ·have X: ¬U5 m 0≤57:=fun g=>q ⟨J,g⟩;repeat' (first|with_reducible apply D0Y|simp only[go_sem,seval,d,b1,bz,bi,J,X]|with_reducible refine A8v (S m) a5 _ ?_|omega)
      exact P9 [(0,.str s),(2,.box j 0),(5,.int .i64 n),(7,.int .i64 U),(8,.str (S [49])),(9,.str (S m))] Bs (by simp only[go_sem,seval,C6w]) (D1z _) (A trivial)
     ·repeat' (first|with_reducible apply D0Y|simp only[go_sem,seval,d,b1,bz,bi,J]|with_reducible refine A8v (S m) a5 _ ?_|omega)
      exact P9 [(0,.str s),(2,.box j 0),(5,.int .i64 n),(7,.int .i64 U),(8,.str (S [49])),(9,.str (S m))] Bs (by simp only[go_sem,seval,C6w]) (D1z _) (A trivial)
  intro _;by_cases hv: ∃v,Lib.atoiAll c= .ok v
  ·obtain⟨v,hv⟩:=hv;have c3:M3 P=some (m,IntKind.i64.wrap (U*v)):=by unfold M3;rw[←hb,o,i];simp only[];rw[hv]
   have hq: ∀x,K7 Tryz.prog .eql 140 (K6 (.tmp x)||K6 (.const .nilIface)) .nilif .nilif=some (.bool true):=fun x=>B68 (by kernel_rfl);repeat' (first|with_reducible apply D0Y|simp only[go_sem,seval,e2,L,M,hD,hq]|with_reducible refine B9i (S c) (by rw[O6];omega) v (by rw[t7];exact hv) _ ?_|omega)
   exact D10 (G6 u g2) (hY _ _ c3)
  ·have hv: ∀v,Lib.atoiAll c≠ .ok v:=fun v g=>hv ⟨v,g⟩;have a4:M3 P=none:=by
    unfold M3;rw[←hb,o];cases hq:Lib.atoiAll c with
    |ok v=>exact absurd hq (hv v)
    |_=>simp only[]
   have hq: ∀x t,K7 Tryz.prog .eql 140 (K6 (.tmp x)||K6 (.const .nilIface)) (.iface t .undef) .nilif=some (.bool false):=fun x t=>B69 (by kernel_rfl);repeat' simp only[go_sem,seval,e2,L,M,hD]
   refine B9j (S c) (by rw[O6];omega) (fun v=>by rw[t7];exact hv v) _ b7 fun z t=>?_;repeat' (first|with_reducible apply D0Y|simp only[go_sem,seval,e2,L,M,hD,hq]|omega)
   exact D10 (G6 u g2) (hN a4 _ _ _)
end Go.Proofs.YtibphjonmikciaaGreatDoor
namespace Go.Lin
open Go Go.Av Go.Lexs
def M5(l:List UInt8):LinV×Int:=match A0i l with
 |none=>(nilL,30)
 |some a=>(a,0)
theorem B7A(n:Int):U6 (IntKind.i64.wrap n):=by
 unfold U6;rw[IntKind.wrap_i64];omega
theorem B4k(x:List UInt8):(l6 x).2.length≤x.length:=by
 have h:(Lib.trimPrefix x [43]).length≤x.length:=by
  unfold Lib.trimPrefix;split
  ·rw[D06];omega
  ·exact D0s _
 unfold l6;simp only[];split
 ·simp only[D06];omega
 ·exact h
theorem B7B{x n:List UInt8}{v:Int}(h:M3 x=some (n,v)):n.length≤x.length∧U6 v:=by
 unfold M3 at h;cases hs:A0B (l6 x).2 with
 |none=>rw[hs]at h;cases h
 |some p=>
  obtain⟨c,m⟩:=p;rw[hs]at h;simp only[]at h;split at h
  ·injection h with h
   have h1:m=n:=congrArg Prod.fst h;have d:IntKind.i64.wrap _=v:=congrArg Prod.snd h;refine⟨?_,by rw[←d];exact B7A _⟩;have hl:=B4k x;rw[←h1];rcases split_some hs with hc|⟨_,g,⟨_,_,rfl⟩|⟨_,_,rfl⟩⟩
   ·obtain⟨_,i,_,e⟩:=A6W hc;rw[←e,D06];omega
   ·simp
   ·exact hl
  ·cases h
theorem C3h(a:LinV){n:List UInt8}(v:Int)(h:n= []):A60 a (n,v)= {a with k:=v}:=by unfold A60;rw[if_pos h]
theorem C3i(a:LinV){n:List UInt8}(v:Int)(h:n≠[]):A60 a (n,v)= {a with t:=a.t++[⟨S n,v⟩]}:=by unfold A60;rw[if_neg h]
theorem A7r(l m:List UInt8):(Lib.trimSuffix l m).length≤l.length:=by
 unfold Lib.trimSuffix;split
 ·rw[D1G];omega
 ·exact D0s _
def A2n(a:LinV)(l:List UInt8):Option LinV:=((O9 l).mapM M3).map (A1P a)
theorem B4l(a:LinV):A2n a []=some a:=by unfold A2n;rw[A20];rfl
theorem B2H(a:LinV)(x:UInt8)(r:List UInt8)(h:M3 (x::r.takeWhile (!sgn ·))=none):A2n a (x::r)=none:=by
 unfold A2n;rw[A1x,List.mapM_cons,h];rfl
theorem B2I(a:LinV)(x:UInt8)(r:List UInt8){p}(h:M3 (x::r.takeWhile (!sgn ·))=some p):A2n a (x::r)=A2n (A60 a p) (r.dropWhile (!sgn ·)):=by
 unfold A2n;rw[A1x,List.mapM_cons,h];show Option.map _ ((List.mapM M3 _).bind _)=_;cases List.mapM M3 (O9 (r.dropWhile (!sgn ·)))<;>rfl
theorem C3j(l:List UInt8)(p:UInt8→Bool):(l.takeWhile p).length+(l.dropWhile p).length=l.length:=by
 rw[←D0e,List.takeWhile_append_dropWhile]
end Go.Lin
namespace Go.Proofs.YtibphjonmikciaaGreatDoor
open Go Go.Av Go.Lexs Go.Lin
attribute [local irreducible] ACalls S9
theorem Tabs.ro{H:Heap}(h:Tabs H):Tabs (roH H):=⟨A8O h.pow,let ⟨t,e⟩:=h.syn;⟨t,A8O e⟩,let ⟨t,e⟩:=h.rng;⟨t,A8O e⟩⟩
set_option maxHeartbeats 4000000 in
theorem B9l{Q}(s:ByteArray)(hs:s.size≤1000000000)(H:Heap)(hT:Tabs H)(h:Q (.tuple [.agg (E5 (M5 (B s)).1),.int .i64 (M5 (B s)).2]) H):E3 120 [.str s] H Q:=by
 refine A9 [] A8 Tryz.func120 rfl ?_;simp only[go_sem,seval,Tryz.results120];have hl:=T9 s;intro U C;have e2:(H.set U (.box [.nilsl,.int .i64 0,.bool false])) U=some (.box [.nilsl,.int .i64 0,.bool false]):=A3 _ _;have i:H.Le (H.set U (.box [.nilsl,.int .i64 0,.bool false])):=A0 C;generalize H.set U (.box [.nilsl,.int .i64 0,.bool false])=Bs at e2 i⊢;have a4:=hT.le i;obtain⟨b,hb⟩: ∃b,b=Lib.trimSuffix (B s) [61,48]:=⟨_,rfl⟩
 have b1:b.length≤s.size:=by rw[hb,←hl];exact A7r _ _
 obtain⟨eq,G⟩: ∃eq,eq=Lib.hasSuffix (B s) [61,48]:=⟨_,rfl⟩
 have cc: ∀(H:Heap) (Q:D→Heap→Prop),Q (.tuple [.str (S b),.bool eq]) H→E3 147 [.str s,.str ⟨#[61,48]⟩] H Q:=fun H Q hq=>B0Y s _ (by omega) H (by rw[hb,G]at hq;exact hq);obtain⟨c,hc⟩: ∃c,c=Lib.trimSuffix b [62]:=⟨_,rfl⟩
 have a5:c.length≤s.size:=by have:=A7r b [62];rw[hc];omega
 obtain⟨I,V⟩: ∃I,I=Lib.hasSuffix b [62]:=⟨_,rfl⟩
 have sb:=O6 b;have tc: ∀(H:Heap) (Q:D→Heap→Prop),Q (.str (S c)) H→E3 148 [.str (S b),.str ⟨#[62]⟩] H Q:=fun H Q hq=>A8m _ _ (by omega) H (by rw[hc]at hq;rw[t7];exact hq);have gc: ∀(H:Heap) (Q:D→Heap→Prop),Q (.bool I) H→E3 149 [.str (S b),.str ⟨#[62]⟩] H Q:=fun H Q hq=>B0X _ _ (by omega) H (by rw[V]at hq;rw[t7];exact hq);have W:eq=false→M5 (B s)=(nilL,30):=fun e=>by
  unfold M5 A0i A4u;rw[←G,e];rfl
 have X:eq=true→A4u (B s)=A2n ⟨[],0,!I⟩ c:=fun e=>by
  unfold A4u A2n;rw[←G,e,if_pos rfl];simp only[];rw[←hb,←hc,←V]
 cases eq with
 |false=>
  rw[W rfl]at h;repeat' (first|with_reducible apply D0Y|simp only[go_sem,seval,e2]|simp(disch:=first|omega|grind) only[B4]|intro d|with_reducible refine cc _ _ ?_|with_reducible refine tc _ _ ?_|omega)
  exact D7 (A3h 0 30 false) (D10 (G6 (i.trans (A0 (by assumption))) C) h)
 |true=>
  have hR:=X rfl;clear W X;repeat' (first|with_reducible apply D0Y|simp only[go_sem,seval,e2]|simp(disch:=first|omega|grind) only[B4]|intro d|with_reducible refine cc _ _ ?_|with_reducible refine tc _ _ ?_|with_reducible refine gc _ _ ?_|omega)
  rename_i b6;have h6:=d;clear d;have f0:=B47 h6 2 [.int .i64 0,.bool !I];generalize Bs.set b6 (.box [.nilsl,.int .i64 0,.bool !I])=Hq at f0⊢;refine C9 [0,2,6] (fun(p:List UInt8×LinV×Option Nat×Heap)=>[(4,.str (S p.1))]) (fun(p:List UInt8×LinV×Option Nat×Heap)=>p.2.2.2) (fun(p:List UInt8×LinV×Option Nat×Heap)=>BxI Bs b6 2 p.2.1.t.length (Rw N7 p.2.1.t) [.int .i64 p.2.1.k,.bool p.2.1.e] p.2.2.1 p.2.2.2∧A2n p.2.1 p.1=A4u (B s)∧p.2.1.t.length+p.1.length≤s.size∧(∀t∈p.2.1.t,t.v.size≤s.size∧U6 t.c)∧U6 p.2.1.k) (fun(p:List UInt8×LinV×Option Nat×Heap)=>p.1.length) ((c,⟨[],0,!I⟩,none,Hq)) (⟨f0,hR.symm,by simpa using a5,by simp,by unfold U6;simp⟩) (by(try simp only[go_sem,seval])<;>(try simp(disch:=omega) [A5])<;>(try omega)) (by first|exact D1z _|exact A0 (by assumption)|exact B3 (by assumption)|simp only[Heap.Le,Heap.set,Heap.del]at* <;>grind) ?_;clear f0 h6;rintro Ec rfl ⟨l,a,ob,Hp⟩ ⟨j,hr,hsz,u,J⟩;simp only at j hr hsz u J;have Y:=a4.le j.le;cases l with
  |nil=>
   rw[B4l]at hr;have fa:V7 a:=⟨by simp at hsz;omega,fun t y=>by have:=(u t y).1;omega,fun t y=>(u t y).2,J⟩
   have L:=j.ex;have q:=j.le _ _ e2;have b3:b6≠U:=fun e=>by rw[e]at j;have:=j.hx;rw[e2]at this;cases this
   have tx: ∀(Q:D→Heap→Prop),Q (.tuple [.str (if validL a=true then S (F6 a)else S []),.int .i64 (if validL a=true then 0 else 2)]) Hp→E3 115 [.agg [J1 2 a.t.length ob,.int .i64 a.k,.bool a.e]] Hp Q:=fun Q hq=>A9H (by rw[D6]) j.eo (B64 a fa _ (Y.ro) ⟨rfl,hq⟩);have o1:(D.one.match_1 (fun _=>Bool) (J1 2 a.t.length ob) (fun _=>false) (fun _=>false) (fun _=>false) fun _=>true)=true:=by cases ob<;>rfl
   by_cases hv:validL a=true
   ·rw[if_pos hv,if_pos hv]at tx;by_cases y:F6 a=B s
    ·have hp:M5 (B s)=(a,0):=by unfold M5 A0i;rw[←hr];simp only[D02];rw[if_pos ⟨hv,y⟩]
     rw[hp]at h;repeat' (first|with_reducible apply D0Y|simp only[go_sem,seval,q,L,y,o1]|simp(disch:=first|omega|grind) only[B4]|intro d|with_reducible refine tx _ ?_|omega)
     cases ob with
     |none=>
      obtain⟨T,K,E⟩:=a;have hz:T= []:=D0w (by have:=congrArg List.length (show Rw N7 T= []from j.eo);rwa [D6]at this);subst hz;exact D7 (A3h K 0 E) (D10 (G6 (i.trans j.le) C) h)
     |some b'=>
      obtain⟨q1,q2⟩:=j.fin i C q;exact B8C q1 (by rw[D6]) (D10 q2 h)
    ·have hp:M5 (B s)=(nilL,30):=by unfold M5 A0i;rw[←hr];simp only[D02];rw[if_neg (fun g=>y g.2)]
     rw[hp]at h;repeat' (first|with_reducible apply D0Y|simp only[go_sem,seval,q,L,y,o1]|simp(disch:=first|omega|grind) only[B4]|intro d|with_reducible refine tx _ ?_|omega)
     exact D7 (A3h 0 30 false) (D10 (G6 (i.trans j.le) C) h)
   ·rw[if_neg hv,if_neg hv]at tx;have hp:M5 (B s)=(nilL,30):=by unfold M5 A0i;rw[←hr];simp only[D02];rw[if_neg (fun g=>hv g.1)]
    rw[hp]at h;repeat' (first|with_reducible apply D0Y|simp only[go_sem,seval,q,L,o1]|simp(disch:=first|omega|grind) only[B4]|intro d|with_reducible refine tx _ ?_|omega)
    exact D7 (A3h 0 30 false) (D10 (G6 (i.trans j.le) C) h)
  |cons x r=>
   have b4:=C3j r (!sgn ·);simp only[D0d]at hsz;repeat' (first|with_reducible apply D0Y|simp only[go_sem,seval]|simp(disch:=first|omega|grind) only[B4]|intro d|omega)
   refine C3g (S (x::r)) x r (t7 _) (by rw[O6,D0d];omega) _ Y (fun hp v n z=>?_) (fun n v hp=>?_)
   ·rw[B2H _ _ _ hp]at hr;have a6:M5 (B s)=(nilL,30):=by unfold M5 A0i;rw[←hr];rfl
    rw[a6]at h;have q:=j.le _ _ e2;repeat' (first|with_reducible apply D0Y|simp only[go_sem,seval,q]|simp(disch:=first|omega|grind) only[B4]|intro d|omega)
    exact D7 (A3h 0 30 false) (D10 (G6 (i.trans (j.le.trans (A0 (by assumption)))) C) h)
   ·rw[B2I _ _ _ hp]at hr;obtain⟨p1,p2⟩:=B7B hp;simp only[D0d]at p1;have b8:(r.dropWhile (!sgn ·)).length<r.length+1:=by omega
    by_cases hn:n= []
    ·rw[C3h a v hn]at hr;repeat' (first|with_reducible apply D0Y|simp only[go_sem,seval,hn]|simp(disch:=first|omega|grind) only[B4]|intro d|omega)
     rename_i M;have h7:=d;clear d;have A:=j.up (A0 (o:=.box [.str (S n),.int .i64 v]) h7);have O:(Hp.set M (.box [.str (S n),.int .i64 v])) M=some (.box [.str (S n),.int .i64 v]):=A3 _ _;rw[hn]at A O;generalize Hp.set M (.box [.str (S []),.int .i64 v])=Hr at A O⊢;have L:=A.ex;repeat' (first|with_reducible apply D0Y|simp only[go_sem,seval,L,O]|simp(disch:=first|omega|grind) only[B4]|intro d|omega)
     exact C4 (r.dropWhile (!sgn ·),{a with k:=v},ob,_) ⟨A.re _,hr,by simp only[];omega,u,p2⟩ (by simp only[D0d];omega) (by(try simp only[go_sem,seval])<;>(try simp(disch:=omega) [A5])<;>(try omega)) (D1z _)
    ·rw[C3i a v hn]at hr;repeat' (first|with_reducible apply D0Y|simp only[go_sem,seval,hn]|simp(disch:=first|omega|grind) only[B4]|intro d|omega)
     rename_i M;have h7:=d;clear d;have A:=j.up (A0 (o:=.box [.str (S n),.int .i64 v]) h7);have O:(Hp.set M (.box [.str (S n),.int .i64 v])) M=some (.box [.str (S n),.int .i64 v]):=A3 _ _;generalize Hp.set M (.box [.str (S n),.int .i64 v])=Hr at A O⊢;have L:=A.ex;repeat' (first|with_reducible apply D0Y|simp only[go_sem,seval,L,O]|simp(disch:=first|omega|grind) only[B4]|intro d|omega)
     rename_i bx;have a9:=d;clear d;refine A6K (P:=Tryz.prog) (H0:=Hr) (es:=Rw N7 a.t) a9 (by simp) A.eo (by rw[D6]) (by simp only[D0d,D0f];omega) (by simp only[D0d,D0f];omega) fun b' H' hA=>?_;have hY:Rw N7 a.t++[[D.str (S n),.int .i64 v]]=Rw N7 (a.t++[⟨S n,v⟩]):=by rw[←O7];rfl
     rw[hY]at hA;obtain⟨f1,b0⟩:=A.ap (m:=a.t.length+1) (D1z _) hA;repeat' (first|with_reducible apply D0Y|simp only[go_sem,seval,b0]|simp(disch:=first|omega|grind) only[B4]|intro d|omega)
     have a0:(a.t++[(⟨S n,v⟩:LTm)]).length=a.t.length+1:=by rw[D0e];rfl
     refine C4 (r.dropWhile (!sgn ·),{a with t:=a.t++[⟨S n,v⟩]},some b',_) ⟨?_,hr,by simp only[a0];omega,fun t y=>?_,J⟩ (by simp only[D0d];omega) (by(try simp only[go_sem,seval,K9])<;>(try simp(disch:=omega) [A5])<;>(try omega)) (D1z _)
     ·simp only[a0];exact f1
     ·rcases D0y.1 y with g|g
      ·exact u t g
      ·rw[D0z]at g;subst g;exact⟨by simp only[O6];omega,p2⟩
end Go.Proofs.YtibphjonmikciaaGreatDoor
namespace Go.Lin
open Go Go.Av Go.Lexs
theorem B7C(s:List UInt8):M5 s=if validL (A4v s)=true∧F6 (A4v s)=s then(A4v s,0)else(nilL,30):=by
 unfold M5;rw[B58];split<;>rename_i h<;>split at h<;>simp_all
end Go.Lin
namespace Go.Proofs.YtibphjonmikciaaGreatDoor
open Go Go.Av Go.Lexs Go.Lin
attribute [local irreducible] ACalls S9
end Go.Proofs.YtibphjonmikciaaGreatDoor
namespace Go.Fo
open Go Go.Av Go.Lexs Go.Lin
def A06:List UInt8:=[116,114,117,101]
def flsB:List UInt8:=[102,97,108,115,101]
def E8:Fm→List UInt8
 | .mk o n l s ks=>
  if o=1 then(if n=1 then A06 else flsB)
  else if o=2 then F6 l
  else if o=3 then 63::B s
  else if o=4 then 33::textH ks
  else(if o=6 then 124 else 38)::40::(textK true ks++[41])
where
 textH:List Fm→List UInt8
 | []=>[]
 |f::_=>E8 f
 textK:Bool→List Fm→List UInt8
 |_,[]=>[]
 |b,f::fs=>(if b=true then []else [44,32])++E8 f++textK false fs
theorem B3W{f:Fm}(h:f.op=1):E8 f=if f.n=1 then A06 else flsB:=by
 obtain⟨o,n,l,s,ks⟩:=f;simp only[Fm.op]at h;subst h;rw[E8,if_pos rfl];rfl
theorem B3X{f:Fm}(h:f.op=2):E8 f=F6 f.l:=by
 obtain⟨o,n,l,s,ks⟩:=f;simp only[Fm.op]at h;subst h;rw[E8,if_neg (by decide),if_pos rfl];rfl
theorem B3Y{f:Fm}(h:f.op=3):E8 f=63::B f.s:=by
 obtain⟨o,n,l,s,ks⟩:=f;simp only[Fm.op]at h;subst h;rw[E8,if_neg (by decide),if_neg (by decide),if_pos rfl];rfl
theorem B3Z{f k:Fm}(h:f.op=4)(hk:f.ks= [k]):E8 f=33::E8 k:=by
 obtain⟨o,n,l,s,ks⟩:=f;simp only[Fm.op]at h;simp only[Fm.ks]at hk;subst h;subst hk;rw[E8,if_neg (by decide),if_neg (by decide),if_neg (by decide),if_pos rfl];rfl
theorem A41{f:Fm}(h1:f.op≠1)(d:f.op≠2)(e:f.op≠3)(g:f.op≠4):E8 f=(if f.op=6 then 124 else 38)::40::(E8.textK true f.ks++[41]):=by
 obtain⟨o,n,l,s,ks⟩:=f;simp only[Fm.op]at h1 d e g;rw[E8,if_neg h1,if_neg d,if_neg e,if_neg g];rfl
theorem P1(b:Bool)(f:Fm)(fs:List Fm):E8.textK b (f::fs)=(if b=true then []else [44,32])++E8 f++E8.textK false fs:=by rw[E8.textK]
theorem B4m(b:Bool)(l m:List Fm):E8.textK b (l++m)=E8.textK b l++E8.textK (b&&l.isEmpty) m:=by
 induction l generalizing b with
 |nil=>simp[E8.textK]
 |cons f l d=>simp only[D1j,P1,d,D1M,List.isEmpty_cons,Bool.and_false,Bool.false_and]
theorem A17(l:List Fm)(i:Nat)(h:i<l.length):E8.textK true (l.take (i+1))=E8.textK true (l.take i)++((if i=0 then []else [44,32])++E8 l[i]):=by
 rw[D0r h,B4m,P1]
 congr 1
 simp only[E8.textK,D1N,Bool.true_and]
 congr 1
 cases i with
 |zero=>simp
 |succ i=>cases l with
  |nil=>simp at h
  |cons x l=>simp
def B0s(c:UInt8):Bool:=c==44||c==41
def nst(c:UInt8):Bool:= !B0s c
def L5(r:List UInt8):List UInt8:=r.takeWhile nst
def Q5(r:List UInt8):List UInt8:=r.dropWhile nst
def pre(p r:List UInt8):Bool:=p.isPrefixOf r
def A63(w:List UInt8):Fm×Bool:=if w=A06 then(.mk 1 1 nilL D8 [],false)else if w=flsB then(.mk 1 0 nilL D8 [],false)else(A3A (M5 w).1,decide ((M5 w).2≠0))
def A07(form:List UInt8→Fm×List UInt8×Bool):Nat→List UInt8→List Fm→List Fm×List UInt8×Bool
 |0,r,_=>([],r,true)
 |n+1,r,out=>
  if pre [41] (form r).2.1=true then(out++[(form r).1],(form r).2.1.drop 1,(form r).2.2)
  else if(form r).2.2=true then([],(form r).2.1,true)
  else if pre [44,32] (form r).2.1=true then A07 form n ((form r).2.1.drop 2) (out++[(form r).1])
  else([],(form r).2.1,true)
def Y1(form:List UInt8→Fm×List UInt8×Bool)(r:List UInt8):List Fm×List UInt8×Bool:=if pre [41] r=true then([],r.drop 1,false)else A07 form (r.length+1) r []
def G5:Nat→List UInt8→Fm×List UInt8×Bool
 |0,r=>(zeroF,r,true)
 |e+1,r=>
  if pre [63] r=true then(.mk 3 0 nilL (S (L5 (r.drop 1))) [],Q5 (r.drop 1),false)
  else if pre [33] r=true then(.mk 4 0 nilL D8 [(G5 e (r.drop 1)).1],(G5 e (r.drop 1)).2.1,(G5 e (r.drop 1)).2.2)
  else if pre [38,40] r=true then(.mk 5 0 nilL D8 (Y1 (G5 e) (r.drop 2)).1,(Y1 (G5 e) (r.drop 2)).2.1,(Y1 (G5 e) (r.drop 2)).2.2)
  else if pre [124,40] r=true then(.mk 6 0 nilL D8 (Y1 (G5 e) (r.drop 2)).1,(Y1 (G5 e) (r.drop 2)).2.1,(Y1 (G5 e) (r.drop 2)).2.2)
  else((A63 (L5 r)).1,Q5 r,(A63 (L5 r)).2)
def Stp(tl:List UInt8):Prop:=∀c r,tl=c::r→nst c=false
theorem B9m:Stp []:=fun c r e=>by cases e
theorem C3k(r:List UInt8):Stp (41::r):=fun c r e=>by injection e with e _;subst e;decide
theorem C3l(r:List UInt8):Stp (44::r):=fun c r e=>by injection e with e _;subst e;decide
theorem A6X{w tl:List UInt8}(h: ∀c∈w,nst c=true)(d:Stp tl):L5 (w++tl)=w∧Q5 (w++tl)=tl:=S4 h d
def okC(c:UInt8):Prop:=c.toNat≠40∧c.toNat≠41∧c.toNat≠44∧c.toNat≠33∧c.toNat≠38∧c.toNat≠124∧c.toNat≠63
theorem A7s{s:ByteArray}(h:plainB s=true): ∀c∈B s,okC c:=fun c hc=>by
 unfold plainB at h;rw[D0l]at h;have:=B23 h.2 c hc;unfold Z2 at this;simp only[D0l,D0u]at this;unfold okC;omega
theorem B2J{c:UInt8}(h:okC c):nst c=true:=by
 unfold okC at h;unfold nst B0s;simp only[Bool.not_eq_true',Bool.or_eq_false_iff,beq_eq_false_iff_ne,ne_eq];exact⟨fun e=>by subst e;simp at h,fun e=>by subst e;simp at h⟩
theorem A6Y{s:ByteArray}(h:plainB s=true):G4 (B s)=true:=by
 unfold plainB at h;rw[D0l]at h;exact h.1
theorem A1Y{c:UInt8}(h:c.toNat=43∨c.toNat=45∨c.toNat=42∨c.toNat=62∨c.toNat=61∨(48≤c.toNat∧c.toNat≤57)):okC c:=by unfold okC;omega
theorem B3a{l:LinV}(hv:validL l=true)(hp: ∀t∈l.t,plainB t.v=true): ∀c∈F6 l,okC c:=by
 have key: ∀(m:List LTm) (f:Bool),(∀t∈m,plainB t.v=true)→∀c∈L3 f m,okC c:=by
  intro m
  induction m with
  |nil=>intro f _ c hc;cases hc
  |cons t m d=>
   intro f h c hc;rw[L3]at hc;rcases D0y.1 hc with g|g
   ·unfold U0 at g;rcases D0y.1 g with g|g
    ·rcases sign_or f t.c with q|q|q<;>rw[q]at g
     ·cases g
     ·rw[D0z]at g;subst g;exact A1Y (by decide)
     ·rw[D0z]at g;subst g;exact A1Y (by decide)
    ·rcases D0y.1 g with g|g
     ·split at g
      ·cases g
      ·rcases D0y.1 g with g|g
       ·have:=P6 _ c g;exact A1Y (by omega)
       ·rw[D0z]at g;subst g;exact A1Y (by decide)
     ·exact A7s (h t (D0j ..)) c g
   ·exact d false (fun x hx=>h x (D0q _ hx)) c g
 intro c hc;unfold F6 L8 at hc;rcases D0y.1 hc with g|g
 ·rcases D0y.1 g with g|g
  ·exact key l.t true hp c g
  ·unfold R7 at g;split at g
   ·unfold A0K at g;rcases D0y.1 g with g|g
    ·rcases sign_or l.t.isEmpty l.k with q|q|q<;>rw[q]at g
     ·cases g
     ·rw[D0z]at g;subst g;exact A1Y (by decide)
     ·rw[D0z]at g;subst g;exact A1Y (by decide)
    ·have:=P6 _ c g;exact A1Y (by omega)
   ·cases g
 ·split at g
  ·simp only[D00,D01,or_false]at g;rcases g with rfl|rfl<;>exact A1Y (by decide)
  ·simp only[D00,D01,or_false]at g;rcases g with rfl|rfl|rfl<;>exact A1Y (by decide)
theorem B7D(l:LinV):(61:UInt8)∈F6 l:=by
 unfold F6;split<;>simp
theorem B2K(l:LinV):F6 l≠[]:=fun h=>by have:=B7D l;rw[h]at this;cases this
theorem B3b(l:LinV):F6 l≠A06∧F6 l≠flsB:=by
 have:=B7D l;exact⟨fun h=>by rw[h]at this;revert this;decide,fun h=>by rw[h]at this;revert this;decide⟩
theorem S8(c d:UInt8)(r:List UInt8):pre [c] (d::r)=(c==d):=by simp[pre,List.isPrefixOf]
theorem A5Y(c e d:UInt8)(r:List UInt8):pre [c,e] (d::r)=(c==d&&pre [e] r):=by simp[pre,List.isPrefixOf]
theorem B7E{c:UInt8}{r:List UInt8}(h:okC c):pre [63] (c::r)=false∧pre [33] (c::r)=false∧pre [38] (c::r)=false∧pre [124] (c::r)=false∧pre [38,40] (c::r)=false∧pre [124,40] (c::r)=false∧pre [41] (c::r)=false:=by
 unfold okC at h;have k: ∀d:UInt8,c.toNat≠d.toNat→(d==c)=false:=fun d g=>by
  rw[beq_eq_false_iff_ne];intro e;exact g (by rw[e])
 simp only[S8,A5Y,k 63 h.2.2.2.2.2.2,k 33 h.2.2.2.1,k 38 h.2.2.2.2.1,k 124 h.2.2.2.2.2.1,k 41 h.2.1,Bool.false_and,and_self]
theorem A7t{f:Fm}(g:I5 E4 f=true): ∃c r,E8 f=c::r∧c≠41:=by
 cases Z4 g with
 |con n h=>
  rw[B3W rfl];split
  ·exact⟨_,_,rfl,by decide⟩
  ·exact⟨_,_,rfl,by decide⟩
 |lin l h hp=>
  rw[B3X rfl];have hm:=B3a h hp;show∃c r,F6 l=c::r∧c≠41;cases d:F6 l with
  |nil=>exact absurd d (B2K l)
  |cons c r=>
   have:=hm c (by rw[d];exact D0j ..);exact⟨c,r,rfl,fun e=>by subst e;unfold okC at this;simp at this⟩
 |var s h=>rw[B3Y rfl];exact⟨_,_,rfl,by decide⟩
 |not k=>rw[B3Z rfl rfl];exact⟨_,_,rfl,by decide⟩
 |and ks=>rw[A41 (by simp[Fm.op]) (by simp[Fm.op]) (by simp[Fm.op]) (by simp[Fm.op])];exact⟨_,_,rfl,by show (38:UInt8)≠41;decide⟩
 |or ks=>rw[A41 (by simp[Fm.op]) (by simp[Fm.op]) (by simp[Fm.op]) (by simp[Fm.op])];exact⟨_,_,rfl,by show (124:UInt8)≠41;decide⟩
theorem B4o(ks:List Fm)(h: ∀k∈ks,I5 E4 k=true): ∀b,ks.length≤(E8.textK b ks).length:=by
 induction ks with
 |nil=>intro b;simp
 |cons f fs d=>
  intro b;obtain⟨c,r,hc,_⟩:=A7t (h f (D0j ..));have:=d (fun k hk=>h k (D0q _ hk)) false;rw[P1,hc];simp only[D0e,D0d];omega
theorem B2L(d:List UInt8→Fm×List UInt8×Bool)(tl:List UInt8): ∀(ks:List Fm),ks≠[]→(∀k∈ks,∀tl,Stp tl→d (E8 k++tl)=(k,tl,false))→∀n out,ks.length≤n→A07 d n (E8.textK true ks++(41::tl)) out=(out++ks,tl,false):=by
 intro ks
 induction ks with
 |nil=>intro h;exact absurd rfl h
 |cons k ks i=>
  intro _ hk n out hn;obtain⟨n,rfl⟩: ∃m,n=m+1:=⟨n-1,by simp only[D0d]at hn;omega⟩
  rw[A07,P1];simp only[if_true,D1k];cases ks with
  |nil=>
   have e:=hk k (D0j ..) (41::tl) (C3k _);simp only[E8.textK,D1N];rw[e];simp only[S8,beq_self_eq_true,if_true,List.drop_succ_cons,List.drop_zero]
  |cons g ks=>
   have e:=hk k (D0j ..) (44::32::(E8.textK true (g::ks)++(41::tl))) (C3l _);have e2:E8.textK false (g::ks)=44::32::E8.textK true (g::ks):=by rw[P1,P1];simp
   rw[e2];simp only[D1j,D1M];rw[e];have j:pre [41] (44::32::(E8.textK true (g::ks)++(41::tl)))=false:=by rw[S8];decide
   have o:pre [44,32] (44::32::(E8.textK true (g::ks)++(41::tl)))=true:=by rw[A5Y,S8];decide
   simp only[j,o,D0o,if_false,if_true,List.drop_succ_cons,List.drop_zero];rw[i (by simp) (fun x hx=>hk x (D0q _ hx)) n _ (by simp only[D0d]at hn⊢;omega)];simp
theorem B2M: ∀(f:Fm),I5 E4 f=true→∀e,N6 f≤e→∀tl,Stp tl→G5 e (E8 f++tl)=(f,tl,false):=by
 intro f
 induction f using T7 with
 |h o n l s ks J=>
  intro L e he tl m;have hk: ∀k∈ks,I5 E4 k=true:=fun k hk=>S7 (f:=.mk o n l s ks) L hk;obtain⟨e,rfl⟩: ∃d,e=d+1:=⟨e-1,by have:=((A3j _ e).1 he).1;omega⟩
  have M: ∀k∈ks,N6 k≤e:=fun k hm=>by have:=((A3j _ _).1 he).2 k hm;omega
  have q: ∀p,(∀k∈ks,I5 E4 k=true)→(p=38∨p=124)→Y1 (G5 e) ((p::40::(E8.textK true ks++[41])++tl).drop 2)=(ks,tl,false):=by
   intro p hk hp;simp only[D1j,List.drop_succ_cons,List.drop_zero,D1M,D1k];unfold Y1;cases ks with
   |nil=>simp only[E8.textK,D1k,S8,beq_self_eq_true,if_true,List.drop_succ_cons,List.drop_zero]
   |cons k ks=>
    obtain⟨c,r,hc,u⟩:=A7t (hk k (D0j ..));have hp:pre [41] (E8.textK true (k::ks)++(41::tl))=false:=by
     rw[P1,hc];simp only[if_true,D1k,D1j,S8,beq_eq_false_iff_ne,ne_eq];exact fun e=>u e.symm
    rw[hp];simp only[D0o,if_false];rw[B2L (G5 e) tl (k::ks) (by simp) (fun x hx tl m=>J x hx (hk x hx) e (M x hx) tl m) _ _ (by
     have:=B4o (k::ks) hk true;rw[D0e];omega)]
    rfl
  cases Z4 L with
  |con n h=>
   rw[B3W rfl];have g: ∀w,(w=A06∨w=flsB)→pre [63] (w++tl)=false∧pre [33] (w++tl)=false∧pre [38,40] (w++tl)=false∧pre [124,40] (w++tl)=false∧L5 (w++tl)=w∧Q5 (w++tl)=tl:=by
    intro w hw;have h1: ∀c∈w,okC c:=by
     rcases hw with rfl|rfl<;> · intro c hc;revert c;unfold okC;decide
    obtain⟨c,r,hc⟩: ∃c r,w=c::r:=by rcases hw with rfl|rfl<;>exact⟨_,_,rfl⟩
    have i:=A6X (w:=w) (tl:=tl) (fun c hc=>B2J (h1 c hc)) m;have j:=B7E (c:=c) (r:=r++tl) (h1 c (by rw[hc];exact D0j ..));rw[hc]at i⊢;exact⟨j.1,j.2.1,j.2.2.2.2.1,j.2.2.2.2.2.1,i.1,i.2⟩
   rw[G5];rcases h with rfl|rfl
   ·obtain⟨y,z,A,C,G,I⟩:=g flsB (.inr rfl);show (if pre [63] (flsB++tl)=true then(.mk 3 0 nilL (S (L5 ((flsB++tl).drop 1))) [],Q5 ((flsB++tl).drop 1),false)else if pre [33] (flsB++tl)=true then(.mk 4 0 nilL D8 [(G5 e ((flsB++tl).drop 1)).1],(G5 e ((flsB++tl).drop 1)).2.1,(G5 e ((flsB++tl).drop 1)).2.2)else if pre [38,40] (flsB++tl)=true then _ else if pre [124,40] (flsB++tl)=true then _ else((A63 (L5 (flsB++tl))).1,Q5 (flsB++tl),(A63 (L5 (flsB++tl))).2))=_;rw[y,z,A,C,G,I];rfl
   ·obtain⟨y,z,A,C,G,I⟩:=g A06 (.inl rfl);show (if pre [63] (A06++tl)=true then(.mk 3 0 nilL (S (L5 ((A06++tl).drop 1))) [],Q5 ((A06++tl).drop 1),false)else if pre [33] (A06++tl)=true then(.mk 4 0 nilL D8 [(G5 e ((A06++tl).drop 1)).1],(G5 e ((A06++tl).drop 1)).2.1,(G5 e ((A06++tl).drop 1)).2.2)else if pre [38,40] (A06++tl)=true then _ else if pre [124,40] (A06++tl)=true then _ else((A63 (L5 (A06++tl))).1,Q5 (A06++tl),(A63 (L5 (A06++tl))).2))=_;rw[y,z,A,C,G,I];rfl
  |lin l h hp=>
   rw[B3X rfl];show G5 (e+1) (F6 l++tl)=_;have hm:=B3a h hp;obtain⟨c,r,hc⟩: ∃c r,F6 l=c::r:=by
    cases m:F6 l with
    |nil=>exact absurd m (B2K l)
    |cons c r=>exact⟨c,r,rfl⟩
   have i:=A6X (w:=F6 l) (tl:=tl) (fun c hc=>B2J (hm c hc)) m;have j:=B7E (c:=c) (r:=r++tl) (hm c (by rw[hc];exact D0j ..));have u:F6 l++tl=c::(r++tl):=by rw[hc];rfl
   rw[G5,i.1,i.2,u,j.1,j.2.1,j.2.2.2.2.1,j.2.2.2.2.2.1];simp only[D0o,if_false];unfold A63;rw[if_neg (B3b l).1,if_neg (B3b l).2];have:M5 (F6 l)=(l,0):=by unfold M5;rw[B0I l h]
   rw[this];rfl
  |var s h=>
   rw[B3Y rfl];show G5 (e+1) (63::(B s++tl))=_;have hm:=A7s h;have i:=A6X (w:=B s) (tl:=tl) (fun c hc=>B2J (hm c hc)) m;rw[G5];simp only[S8,beq_self_eq_true,if_true,List.drop_succ_cons,List.drop_zero];rw[i.1,i.2,S_B]
  |not k=>
   rw[B3Z rfl rfl];show G5 (e+1) (33::(E8 k++tl))=_;have:=J k (D0j ..) (hk k (D0j ..)) e (M k (D0j ..)) tl m;rw[G5];simp only[S8,beq_self_eq_true,if_true,List.drop_succ_cons,List.drop_zero];rw[this];rfl
  |and ks=>
   rw[A41 (by simp[Fm.op]) (by simp[Fm.op]) (by simp[Fm.op]) (by simp[Fm.op])];show G5 (e+1) ((38:UInt8)::40::(E8.textK true ks++[41])++tl)=_;rw[G5,q 38 hk (.inl rfl)];simp only[D1j,S8,A5Y];rfl
  |or ks=>
   rw[A41 (by simp[Fm.op]) (by simp[Fm.op]) (by simp[Fm.op]) (by simp[Fm.op])];show G5 (e+1) ((124:UInt8)::40::(E8.textK true ks++[41])++tl)=_;rw[G5,q 124 hk (.inr rfl)];simp only[D1j,S8,A5Y];rfl
def okF(f:Fm)(s:List UInt8):Fm×Int:=if E6 f=true∧E8 f=s then(f,0)else(zeroF,30)
def A3C(s:List UInt8):Fm×Int:=if s.length > 20000 then(zeroF,3)else if(G5 60 s).2.2=true∨(G5 60 s).2.1≠[]then(zeroF,30)else okF (G5 60 s).1 s
theorem B2N{f:Fm}(h:E6 f=true):N6 f≤60:=by
 rw[A05]at h;simp only[D0l,D0u]at h;exact h.1.1.1.2
theorem B4p{f:Fm}(h:E6 f=true):G5 60 (E8 f)=(f,[],false):=by
 have:=B2M f (O1 h) 60 (B2N h) [] B9m;simpa using this
theorem A6Z{f:Fm}(h:E6 f=true)(hl:(E8 f).length≤20000):A3C (E8 f)=(f,0):=by
 unfold A3C;rw[if_neg (by omega),B4p h];simp only[D0o,ne_eq,not_true,or_self,if_false];unfold okF;rw[if_pos ⟨h,rfl⟩]
abbrev BS:=List (ByteArray×Bool)
def bsC(bs:BS):List (D×D):=bs.map fun p=>(.str p.1,.bool p.2)
def A8x:BS→ByteArray→Option Bool
 | [],_=>none
 |p::l,s=>if s=p.1 then some p.2 else A8x l s
def A1Z:BS→ByteArray→Bool→BS
 | [],s,v=>[(s,v)]
 |p::l,s,v=>if s=p.1 then(s,v)::l else p::A1Z l s v
theorem find_bsC(s:ByteArray): ∀(bs:BS) (i:Nat),(A8x bs s=none∧P3 (.one .str) (.str s) (bsC bs) i=some none∧∀v,A1Z bs s v=bs++[(s,v)])∨∃j,∃b,j<bs.length∧A8x bs s=some b∧P3 (.one .str) (.str s) (bsC bs) i=some (some (i+j,.bool b))∧∀v,A1Z bs s v=bs.set j (s,v)
 | [],i=>.inl ⟨rfl,rfl,fun _=>rfl⟩
 |(t,x)::l,i=>by
  have e:A4l (.one .str) (.str s) (.str t)=some (decide (s=t)):=by
   rw[A4l,U7]
   congr 1
   rw[Bool.eq_iff_iff,beq_iff_eq,D0u];exact⟨fun g=>X9 g,fun g=>by rw[g]⟩
  rw[show bsC ((t,x)::l)=(.str t,.bool x)::bsC l from rfl,P3];simp only[e,D02,D0u,A8x,A1Z];by_cases c:s=t
  ·subst c;rw[if_pos rfl,if_pos rfl];exact .inr ⟨0,x,by simp,rfl,rfl,fun v=>by rw[if_pos rfl];rfl⟩
  ·rw[if_neg c,if_neg c];rcases find_bsC s l (i+1)with⟨h1,d,h⟩|⟨j,b,h1,d,h,m⟩
   ·exact .inl ⟨h1,d,fun v=>by rw[if_neg c,h];rfl⟩
   ·exact .inr ⟨j+1,b,by simpa using h1,d,by rw[h];congr 3;omega,fun v=>by rw[if_neg c,m];rfl⟩
theorem B9n(s:ByteArray)(v:Bool)(bs:BS):(P3 (.one .str) (.str s) (bsC bs) 0).map (fun r=>A5l (bsC bs) (.str s) (.bool v) r)=some (bsC (A1Z bs s v)):=by
 rcases find_bsC s bs 0 with⟨h1,e,d⟩|⟨j,b,h1,e,d,g⟩
 ·rw[e,d];show some (bsC bs++[(.str s,.bool v)])=_;unfold bsC;rw[D1Y];rfl
 ·rw[d,g];show some ((bsC bs).set (0+j) (.str s,.bool v))=_;unfold bsC;rw[Nat.zero_add,List.map_set]
theorem A3p{H:Heap}{b:Nat}(s:ByteArray)(v:Bool)(bs:BS):(P3 (.one .str) (.str s) (bsC bs) 0).map (fun r=>H.set b (.map (A5l (bsC bs) (.str s) (.bool v) r)))=some (H.set b (.map (bsC (A1Z bs s v)))):=by
 have:=congrArg (Option.map fun m=>H.set b (.map m)) (B9n s v bs);rw[Option.map_map]at this;exact this
def B0t(f:Fm):Nat:=if f.op=6 then 1 else 0
def B2O(cs:List LinV):Option Bool:=if cs.all validL=true∧cs.length≤1000 then C1U cs else none
def B4q(rec:Fm→Option Bool):List Fm→Option Bool
 | []=>some false
 |k::l=>match rec k,B4q rec l with
  |some a,some b=>some (a||b)
  |_,_=>none
def A5Z(rec:List LinV→BS→List Fm→Option Bool)(cs:List LinV)(bs:BS)(ks l:List Fm):Option Bool:=
 if l.length≤1∧ks.length≤1000 then
  if l≠[]∧B0t (l.headD zeroF)=0 then rec cs bs (l++[.mk 6 0 nilL D8 ks])
  else match B2O cs with
   |none=>none
   |some false=>some false
   |some true=>B4q (fun k=>rec cs bs (k::l)) ks
 else none
def X1:Nat→List LinV→BS→List Fm→Option Bool
 |0,_,_,_=>none
 |n+1,cs,bs,l=>match l with
  | []=>B2O cs
  |f::l=>
   if 1000<cs.length∨1000<l.length∨1000<f.ks.length then none
   else if f.op=1 then(if f.n=0 then some false else X1 n cs bs l)
   else if f.op=2 then X1 n (cs++[f.l]) bs l
   else if f.op=3 then(if A8x bs f.s=some false then some false else X1 n cs (A1Z bs f.s true) l)
   else if f.op=4 then(if f.ks= []then none else if A8x bs (f.ks.headD zeroF).s=some true then some false else X1 n cs (A1Z bs (f.ks.headD zeroF).s false) l)
   else if f.op=5 then X1 n cs bs (f.ks++l)
   else if f.op=6 then A5Z (X1 n) cs bs f.ks l
   else none
def X2(f:Fm)(more:List LinV):Option Bool:=X1 60 more [] [normF f false]
end Go.Fo
namespace Go.Proofs.YtibphjonmikciaaGreatDoor
open Go Go.Av Go.Lin Go.Fo
attribute [local irreducible] ACalls S9
theorem C3m{Q}(p:LTm→Bool)(l:List LTm)(hl:l.length≤1000000000000000)(g:Nat)(first cap:List D)(H:Heap)
  (i: ∀a∈l,∀(Q:D→Heap→Prop),Q (.bool (p a)) H→E3 g (first++[.agg (N7 a)]++cap) H Q) (h:Q (.int .i64 (W5 p l)) H):
  E3 136 [.sl 2 (Rw N7 l),.fn (.func g) first cap] H Q:=by
 refine A9 [] A8 Tryz.func136 rfl ?_;simp only[go_sem,seval,Tryz.results136];refine C9 [0,1,7] (fun(k:Nat)=>[(8,.int .i64 k)]) (fun(k:Nat)=>H) (fun(k:Nat)=>k≤l.length∧W5 p l=if W5 p (l.drop k)<0 then-1 else W5 p (l.drop k)+k) (fun(k:Nat)=>l.length-k) (0) (⟨D0t _,by have:=A1S p l;rw[List.drop_zero];split<;>omega⟩) (by(try simp only[go_sem,seval])<;>(try simp(disch:=omega) [A5])) (by first|exact D1z _|exact A0 (by assumption)|exact B3 (by assumption)|simp only[Heap.Le,Heap.set,Heap.del]at* <;>grind) ?_;rintro m rfl k ⟨hk,hp⟩;by_cases d:k<l.length
 ·have e:decide ((k:Int)<l.length)=true:=D0a (by omega);rw[A4R p l k d]at hp;repeat' (first|with_reducible apply D0Y|simp only[go_sem,seval,e,B2 _ _ d]|simp(disch:=omega) only[A5,B2,C3]|intro j|with_reducible refine i l[k] (D0m d) _ ?_|omega)
  ·have h1:p l[k]=true:=by assumption
   rw[if_pos h1]at hp;simp only[Int.zero_add,show¬((0:Int)<0)by omega,if_false]at hp;rw[hp]at h;exact D13 h
  ·have h1: ¬p l[k]=true:=by simp_all
   rw[if_neg h1]at hp;exact C4 (k+1) ⟨by omega,by rw[hp];have:=A1S p (l.drop (k+1));split<;>split<;>omega⟩ (by omega) (by(try simp only[go_sem,seval])<;>(try simp(disch:=omega) [A5])) (D1z _)
 ·have e:decide ((k:Int)<l.length)=false:=D0b (by omega);rw[List.drop_eq_nil_of_le (by omega),W5]at hp;repeat' simp only[go_sem,seval,e]
  simp only[show ((-1:Int)<0)by omega,if_true]at hp;rw[hp]at h;exact D13 h
theorem C3n{Q}(p:LTm→Bool)(l:List LTm)(hl:l.length≤1000000000000000)(g:Nat)(first cap:List D)(H:Heap)
  (d: ∀a∈l,∀(Q:D→Heap→Prop),Q (.bool (p a)) H→E3 g (first++[.agg (N7 a)]++cap) H Q) (h:Q (.bool (l.any p)) H):
  E3 97 [.sl 2 (Rw N7 l),.fn (.func g) first cap] H Q:=by
 refine A9 [] A8 Tryz.func97 rfl ?_;simp only[go_sem,seval,Tryz.results97];rw[←A3g]at h;repeat' (first|simp only[go_sem,seval]|with_reducible refine C3m p l hl g first cap _ d ?_)
 exact D13 h
theorem C3o{Q}(p:Fm→Bool)(l:List Fm)(hl:l.length≤1000000000000000)(g:Nat)(first cap:List D)(H:Heap)
  (i: ∀(k:Nat) (hk:k<l.length),(∀(j:Nat) (hj:j<k),p l[j]=false)→∀(Q:D→Heap→Prop),Q (.bool (p l[k])) H→E3 g (first++[.agg (C1 l[k])]++cap) H Q) (h:Q (.int .i64 (W5 p l)) H):
  E3 140 [.sl 7 (Rw C1 l),.fn (.func g) first cap] H Q:=by
 refine A9 [] A8 Tryz.func140 rfl ?_;simp only[go_sem,seval,Tryz.results140];refine C9 [0,1,7] (fun(k:Nat)=>[(8,.int .i64 k)]) (fun(k:Nat)=>H) (fun(k:Nat)=>k≤l.length∧(∀(j:Nat) (hj:j<l.length),j<k→p l[j]=false)∧W5 p l=if W5 p (l.drop k)<0 then-1 else W5 p (l.drop k)+k) (fun(k:Nat)=>l.length-k) (0) (⟨D0t _,fun _ _ h=>absurd h (D1o _),by have:=A1S p l;rw[List.drop_zero];split<;>omega⟩) (by(try simp only[go_sem,seval])<;>(try simp(disch:=omega) [A5])) (by first|exact D1z _|exact A0 (by assumption)|exact B3 (by assumption)|simp only[Heap.Le,Heap.set,Heap.del]at* <;>grind) ?_;rintro q rfl k ⟨hk,hb,hp⟩;by_cases d:k<l.length
 ·have e:decide ((k:Int)<l.length)=true:=D0a (by omega);rw[A4R p l k d]at hp;repeat' (first|with_reducible apply D0Y|simp only[go_sem,seval,e,B2 _ _ d]|simp(disch:=omega) only[A5,B2,C3]|intro m|with_reducible refine i k d (fun j hj=>hb j (by omega) hj) _ ?_|omega)
  ·have h1:p l[k]=true:=by assumption
   rw[if_pos h1]at hp;simp only[Int.zero_add,show¬((0:Int)<0)by omega,if_false]at hp;rw[hp]at h;exact D13 h
  ·have h1: ¬p l[k]=true:=by simp_all
   rw[if_neg h1]at hp;refine C4 (k+1) ⟨by omega,fun j hj o=>?_,by rw[hp];have:=A1S p (l.drop (k+1));split<;>split<;>omega⟩ (by omega) (by(try simp only[go_sem,seval])<;>(try simp(disch:=omega) [A5])) (D1z _);rcases Nat.lt_or_ge j k with g|g
   ·exact hb j hj g
   ·have:j=k:=by omega
    subst this;simpa using h1
 ·have e:decide ((k:Int)<l.length)=false:=D0b (by omega);rw[List.drop_eq_nil_of_le (by omega),W5]at hp;repeat' simp only[go_sem,seval,e]
  simp only[show ((-1:Int)<0)by omega,if_true]at hp;rw[hp]at h;exact D13 h
theorem A8y{Q}(p:Fm→Bool)(l:List Fm)(hl:l.length≤1000000000000000)(g:Nat)(first cap:List D)(H:Heap)
  (d: ∀(k:Nat) (hk:k<l.length),(∀(j:Nat) (hj:j<k),p l[j]=false)→∀(Q:D→Heap→Prop),Q (.bool (p l[k])) H→E3 g (first++[.agg (C1 l[k])]++cap) H Q) (h:Q (.bool (l.any p)) H):
  E3 108 [.sl 7 (Rw C1 l),.fn (.func g) first cap] H Q:=by
 refine A9 [] A8 Tryz.func108 rfl ?_;simp only[go_sem,seval,Tryz.results108];rw[←A3g]at h;repeat' (first|simp only[go_sem,seval]|with_reducible refine C3o p l hl g first cap _ d ?_)
 exact D13 h
end Go.Proofs.YtibphjonmikciaaGreatDoor
namespace Go.Av
theorem A8z{P:Program}{f:Nat}(Z:List (Nat×Rc)){fn:Func}{M o rest:Code}{id s p r t t' e sz:Nat}{ops:Array Oper}{o1 o2:Oper}{args:List D}{H:Heap}{Q:D→Heap→Prop}(hm:P.follows .mixedOrders=true)(hf:P.funcs[f]? =some fn)
  (hb:fn.body=some (.seq M (.seq (.seq (.region id ops false) o) rest))) (U:A1l P f=true) (hn:args.length≤fn.ntmps) (ho:ops.toList= [o1,o2]) (V:o1.dst=some s) (y:o1.op= .move (.tmp p)) (W:o1.guard=none)
  (X:o2.dst=some r) (z:o2.op= .binOp .eql t (.tmp s) (.const (.slice none 0 0)) t') (Y:o2.guard=none) (hs:s<fn.ntmps) (hr:r<fn.ntmps) (A:P.underlying t=some (.slice e)) (a0:N4 P [] fn.ntmps M=true) (C:N4 P Z fn.ntmps o=true) (G:N4 P Z fn.ntmps rest=true)
  (h:wp P [] M (fun x E H=>x= .normal∧E.get p= .sl sz []∧∀b:Bool,wp P Z (.seq o rest) (A8L P fn.results.toList Q) ((E.put (some s) (.sl sz [])).put (some r) (.bool b)) H) (V5 0 args) H):ACalls P f args H Q:=by
 refine⟨U,fun w vs hl hR hS=>calls_of_wp hf hb ?_⟩;have hst:St fn.ntmps w H (V5 0 args) H {tmps:=vs++Array.replicate (fn.ntmps-vs.size) undef,defers:=[]} w:=by
  refine⟨by simp;omega,rfl,fun i=>?_,hS,D16 _ _,D15 _ _⟩;rw[y4,if_pos (D0t _),Nat.sub_zero];cases hi:args[i]? with
  |none=>exact .undef _
  |some d=>
   have b2:=(D0i.1 hi).1;have:({tmps:=vs++Array.replicate (fn.ntmps-vs.size) undef,defers:=[]}:Act).eval (.tmp i)=vs.getD i undef:=by
    simp only[Act.eval];exact G1 (by omega)
   rw[this];exact hR i d hi
 have fin: ∀(x:AX) (E:Env) (H':Heap) (a:Act) (w':World),(x= .normal∨x= .ret)→St fn.ntmps w H E H' a w'→A8L P fn.results.toList Q x E H'→
   a.defers= []∧∃v,(results fn a.tmps).run P w'= .ok v w'∧∃v',Ending.returned v= .returned v'∧Post H w Q v' w':=by
  intro x E H' a w' hx g hq;have a4: ∃r,A2u P fn.results.toList E H'=some r∧∃O T,Shift H' r O T∧Q T O:=by rcases hx with rfl|rfl<;>exact hq
  obtain⟨r,hr,O,T,a5,hQ⟩:=a4;obtain⟨v,hv,a6⟩:=A2M (P:=P) g hr;obtain⟨k1,k2,k3⟩:=a5 _ _ a6 g.sat;exact⟨g.defers,v,hv,v,rfl,T,O,k1,k2,g.ext,fun k hk hn=>k3 k (g.frm k hk hn),hQ⟩
 refine Go.wp_seq (Go.wp_mono (y3 hm M _ _ _ _ _ a0 h hst) fun x a w' he=>?_);cases x with
 |normal=>
  obtain⟨E,H',g,_,hp,hq⟩:=he;refine Go.wp_seq (Go.wp_seq (u7 (F:=none) (K:=fun a' I=>∃b:Bool,St fn.ntmps w H ((E.put (some s) (.sl sz [])).put (some r) (.bool b)) H' a' I) (fun a' I hk=>?_) ?_))
  ·obtain⟨b,J⟩:=hk;refine Go.wp_mono (y3 hm o _ _ _ _ _ C (hq b) J) fun x a w' he=>?_;cases x with
   |normal=>
    obtain⟨E,H',g,hq⟩:=he;refine Go.wp_mono (y3 hm rest _ _ _ _ _ G hq g) fun x a w' he=>?_;cases x with
    |normal=>obtain⟨E,H',g,hq⟩:=he;exact fin .normal E H' a w' (.inl rfl) g hq
    |ret=>obtain⟨E,H',g,hq⟩:=he;exact fin .ret E H' a w' (.inr rfl) g hq
    |exit id=>obtain⟨E,H',g,hq⟩:=he;exact hq.elim
    |_=>exact he.elim
   |ret=>obtain⟨E,H',g,hq⟩:=he;exact fin .ret E H' a w' (.inr rfl) g hq
   |exit id=>obtain⟨E,H',g,hq⟩:=he;exact hq.elim
   |_=>exact he.elim
  ·rw[ho];unfold wpA;rw[if_pos (by simp[Region.wanted,W])];have hv:=g.env p;rw[hp]at hv;unfold opSem;rw[y];refine⟨a.eval (.tmp p),fun w2=>?_,?_⟩
   ·simp only[execOp,y];rfl
   ·have j:St fn.ntmps w H (E.put (some s) (.sl sz [])) H' (a.put o1.dst (a.eval (.tmp p))) w':=by
     rw[V];exact g.put (fun t A=>by cases A;exact hs) hv g.sat (D16 _ _) (D15 _ _)
    show wpA P none ops _ [o2] (a.put o1.dst (a.eval (.tmp p))) w';unfold wpA;rw[if_pos (by simp[Region.wanted,Y])];have q:=j.env s;have a9:(E.put (some s) (D.sl sz [])).get s= .sl sz []:=by simp[Env.put,Env.get]
    rw[a9]at q;obtain⟨m,cap,L⟩: ∃m cap,(a.put o1.dst (a.eval (.tmp p))).eval (.tmp s)= .slice m 0 cap:=by
     revert q;generalize (a.put o1.dst (a.eval (.tmp p))).eval (.tmp s)=v;intro q;cases q with
     |sl0 _ m cap=>exact⟨m,cap,rfl⟩
     |sl _ _ b off cap u=>exact⟨_,_,rfl⟩
    unfold opSem;rw[z];refine⟨.bool m.isNone,fun w2=>?_,m.isNone,?_⟩
    ·have b0:Runs P (do eqGuard .eql t (.tmp s) (.const (.slice none 0 0)) (.slice m 0 cap) (.slice none 0 0);binOp .eql t (.slice m 0 cap) (.slice none 0 0)) (.bool m.isNone):=(J3 ⟨by simp,by simp⟩).bind (fun w=>by
      simp only[binOp];simp[run_equal_slice_nil w t e m 0 cap A])
     have b1:(a.put o1.dst (a.eval (.tmp p))).eval (.const (.slice none 0 0))= .slice none 0 0:=rfl;simp only[execOp,z];rw[L,b1,Sem.run_bind,b0 w2];rfl
    ·rw[X];exact j.put (fun t A=>by cases A;exact hr) (.bool _) j.sat (D16 _ _) (D15 _ _)
 |exit id=>obtain⟨E,H',g,hq⟩:=he;exact absurd hq.1 (by simp)
 |ret=>obtain⟨E,H',g,hq⟩:=he;exact absurd hq.1 (by simp)
 |_=>exact he.elim
end Go.Av
namespace Go.Proofs.YtibphjonmikciaaGreatDoor
open Go Go.Av Go.Lexs Go.Lin Go.Fo
attribute [local irreducible] ACalls S9
noncomputable def C1a:Array Oper:=match Tryz.f91.body with|some (.seq _ (.seq (.seq (.region _ ops _) _) _))=>ops|_=> #[]
theorem B7F{Q}(l:List LTm)(hc:l≠[])(hl:l.length≤5864062014639)(H:Heap)(h:Q (.sl 2 (Rw N7 l)) H):E3 91 [.sl 2 (Rw N7 l)] H Q:=by
 have i:Rw N7 l≠[]:=fun e=>hc (D0w (by rw[←D6 (f:=N7),e];rfl));refine A9 [] A8 Tryz.func91 rfl ?_;simp only[go_sem,seval,Tryz.results91];have hq: ∀(x:Nat),K7 Tryz.prog .eql 23 (K6 (.tmp x)||K6 (.const (.slice none 0 0))) (.sl 2 (Rw N7 l)) .nilsl=some (.bool false):=fun x=>A56 i (by kernel_rfl);repeat' (first|with_reducible apply D0Y|simp only[go_sem,seval,hq]|intro d|omega)
 rename_i o m j;have g:=d;clear d;rw[E7 m]at g⊢;exact Fin.out (ob:=some j) (es:=Rw N7 l) (by rw[D6]) (A3 _ _) (D10 (by show H.Le ((H.set j _).del j);rw[E7 g];exact D1z _) h)
theorem B7G{Q}(l:List LTm)(hl:l.length≤5864062014639)(H:Heap)(h:Q (.sl 2 (Rw N7 l)) H):E3 91 [.sl 2 (Rw N7 l)] H Q:=by
 by_cases hc:l= []
 ·subst hc;obtain⟨o1,o2,ho,a1,a2,a3,i,j,m⟩: ∃o1 o2,C1a.toList= [o1,o2]∧o1.dst=some 3∧o1.op= .move (.tmp 0)∧o1.guard=none∧o2.dst=some 4∧o2.op= .binOp .eql 23 (.tmp 3) (.const (.slice none 0 0)) 23∧o2.guard=none:=by
   refine⟨_,_,rfl,?_⟩;exact⟨rfl,rfl,rfl,rfl,rfl,rfl⟩
  refine A8z (ops:=C1a) [] (sz:=2) A8 Tryz.func91 rfl (by kernel_rfl) (D0Z (by kernel_rfl)) ho a1 a2 a3 i j m (D0Z (by kernel_rfl)) (D0Z (by kernel_rfl)) (e:=114) (by kernel_rfl) (by kernel_rfl) (by kernel_rfl) (by kernel_rfl) ?_;simp only[go_sem,seval,Tryz.results91];refine⟨rfl,fun b=>⟨fun _=>D7 (.nil 2) (D13 h),fun _ p o g d=>?_⟩⟩;rw[E7 o]at d⊢;exact Fin.out (ob:=some g) (n:=0) (es:=Rw N7 []) rfl (A3 _ _) (D10 (by show H.Le ((H.set g _).del g);rw[E7 d];exact D1z _) h)
 ·exact B7F l hc hl H h
theorem B9o(n:Nat): ∀{Q} (f:Fm) (hn:SizeOf.sizeOf f≤n) (U:FmFit f) (H:Heap) (h:Q (.agg (C1 f)) H),E3 49 [.agg (C1 f)] H Q:=by
 induction n with
 |zero=>intro Q f hn;cases f;simp at hn
 |succ n ih=>
 intro Q f hn U H h;refine A9 [(7,.par)] A8 Tryz.func49 rfl ?_;simp only[go_sem,seval,Tryz.results49];have b3:=U.kl;intro d W u V;simp only[A6]at V;obtain⟨Z,hZ⟩: ∃Z:List D,Z= [.int .i64 0,.int .i64 0,.nilsl,.int .i64 0,.bool false,.str ⟨#[]⟩,.nilsl]:=⟨_,rfl⟩
 rw[←hZ];have z:d≠u:=fun e=>V.1 e.symm;have e1:((H.set d (.box (C1 f))).set u (.box Z)) d=some (.box (C1 f)):=by rw[A4 _ z,A3]
 have e2:((H.set d (.box (C1 f))).set u (.box Z)) u=some (.box Z):=A3 _ _;have I:H.Le ((H.set d (.box (C1 f))).set u (.box Z)):=(A0 W).trans (A0 (by simp only[A6];exact V));generalize (H.set d (.box (C1 f))).set u (.box Z)=Bs at e1 e2 I⊢;have s1:Bs.set d (.box (C1 f))=Bs:=B3S e1;repeat' (first|simp only[go_sem,seval,e1,B6t,s1,B6u]|with_reducible refine B7G f.l.t U.lin.len _ ?_)
 obtain⟨Cs,j⟩: ∃Cs,Cs=Bs.set d (.box (ac6 f .nilsl)):=⟨_,rfl⟩
 have c1:Cs d=some (.box (ac6 f .nilsl)):=by rw[j,A3]
 have c2:Cs u=some (.box Z):=by rw[j,A4 _ z.symm];exact e2
 have J:H.Le Cs:=fun k o hk=>by
  have:k≠d:=fun e=>by rw[e,W]at hk;cases hk
  rw[j,A4 _ this];exact I _ _ hk
 rw[←j];refine C9 [1,2,15,16] (fun(p:Nat×Option Nat×Heap)=>[(17,.int .i64 p.1)]) (fun(p:Nat×Option Nat×Heap)=>p.2.2) (fun(p:Nat×Option Nat×Heap)=>p.1≤f.ks.length∧AH 7 Cs d (ac6 f) (Rw C1 (f.ks.take p.1)) p.1 p.2.1 p.2.2) (fun(p:Nat×Option Nat×Heap)=>f.ks.length-p.1) ((0,none,Cs)) (⟨D0t _,A1B c1⟩) (by(try simp only[go_sem,seval])<;>(try simp(disch:=omega) [A5])) (by first|exact D1z _|exact A0 (by assumption)|exact B3 (by assumption)|simp only[Heap.Le,Heap.set,Heap.del]at* <;>grind) ?_;rintro Ec rfl ⟨i,ob,Hp⟩ ⟨hi,A⟩;simp only at hi A;by_cases q:i<f.ks.length
 ·have C:decide ((i:Int)<f.ks.length)=true:=D0a (by omega);have X:(i:Int)<f.ks.length:=by omega
  have hm:=D0m q;repeat' (first|with_reducible apply D0Y|simp only[go_sem,seval,C,X,B2 _ _ q,C2 _ _ q]|(intro g;try simp only[A6]at g)|omega)
  rename_i y;have h7:=g;clear g;obtain⟨d1,d7,dO,dN⟩:=A.at7 h7 (.box (C1 f.ks[i]));refine F5 (fun i'=>.agg (C1 f.ks[i])) [d,y] ?_;have m1:d∈[d,y]:=by simp
  have m7:y∈[d,y]:=by simp
  repeat' (first|simp only[go_sem,seval,d1,d7,m1,m7]|(intro g;try simp only[A6]at g)|with_reducible refine R6 (fun H' Q hro hq=>ih f.ks[i] (by have:=W8 hm;omega) (U.kid hm) H' hq) ?_)
  rename_i x;have hx:=g;clear g;obtain⟨L,Y⟩:=hx;have r:(Hp.set y (.box (C1 f.ks[i]))) x=none:=by rw[A4 _ L];exact Y
  obtain⟨G,M⟩:=A3m dO r (.vec 7 [C1 f.ks[i]]);have a0:x∉[d,y]:=by
   simp only[D00,D01,or_false,not_or];exact⟨fun e=>(by rw[e,d1]at r;cases r),L⟩
  have a4: ∀c,ob=some c→c∉[d,y]:=fun c e=>by
   simp only[D00,D01,or_false,not_or];exact⟨(A.fresh c e).2,dN c e⟩
  refine A6Q 28 96 (n:=i) (m:=1) (bx:=x) (ob:=ob) (es:=Rw C1 (f.ks.take i)) (xs:=[C1 f.ks[i]]) (by simp only[go_sem,seval]) (by decide) (by simp only[go_sem,seval]) (by simp only[go_sem,seval]) (by simp only[go_sem,seval]) (by simp only[go_sem,seval]) (A3 _ _) rfl (by simp) G (N0 _ _ (by omega)).symm a0 M a4 (by simp only[D0d,D0f];omega) (by simp only[D0d,D0f];omega) fun b' O=>?_;rw[E7 r]at O⊢;obtain⟨b0,a5,A'⟩:=A.step h7 _ O (C1 f.ks[i]);revert A';generalize a6:((K1 (Hp.set y (.box (C1 f.ks[i]))) ob).set b' (.vec 7 (Rw C1 (f.ks.take i)++[C1 f.ks[i]]))).set d (.box (ac6 f (.vec b' 7 0 (i+1))))=Hf;intro A';repeat' (first|simp only[go_sem,seval,a5,m1]|simp(disch:=omega) only[A5,B2,C3])
  exact C4 (i+1,some b',Hf) ⟨by simp only[];omega,by simp only[];rw[M9 f.ks i q];exact A'⟩ (by simp only[];omega) (by(try simp only[go_sem,seval])<;>(try simp(disch:=omega) [A5])) (by rw[←a6];exact D1z _)
 ·have C:decide ((i:Int)<f.ks.length)=false:=D0b (by omega);have a9:i=f.ks.length:=by omega
  have T:=A.keep u _ z.symm c2;rw[D0n (by omega)]at A;have A1:=A.box;rw[hZ]at T;have o1:=A4W 7 i ob;repeat' (first|with_reducible apply D0Y|simp only[go_sem,seval,C,A1,T,o1])
  exact C3W a9 (A.out2 c2 _) (D10 (A.le2 J W V.2 _) (by rw[←C4E];exact h))
theorem B3c{Q}(f:Fm)(d:FmFit f)(H:Heap)(h:Q (.agg (C1 f)) H):E3 49 [.agg (C1 f)] H Q:=B9o _ f (D0s _) d H h
end Go.Proofs.YtibphjonmikciaaGreatDoor
namespace Go.Fo
open Go Go.Av Go.Lexs Go.Lin
abbrev badS:ByteArray:=⟨#[40,41,44,33,38,124,63]⟩
theorem A6a(c:UInt8):Z2 (c.toNat:Int)= !(B badS).contains c:=by
 have key: ∀n:Fin 256,Z2 ((UInt8.ofNat n.val).toNat:Int)= !(B badS).contains (UInt8.ofNat n.val):=by decide+kernel
 have:=key ⟨c.toNat,c.toNat_lt⟩;simpa using this
theorem A7u: ∀l:List UInt8,Lib.containsAny l (B badS)= !l.all (ofB Z2)
 | []=>rfl
 |b::l=>by
  have d:=A7u l;unfold Lib.containsAny at d⊢;rw[Lib.indexAny,D1b];have e:ofB Z2 b= !(B badS).contains b:=A6a b;rw[e];have g:=Lib.indexAny_ge (B badS) l;by_cases h:(B badS).contains b=true
  ·rw[if_pos h,h];rfl
  ·rw[if_neg h];have i:(B badS).contains b=false:=by simpa using h
   rw[i,D1x,Bool.true_and,←d];apply D1B.2;split
   ·rename_i q;have:=beq_iff_eq.1 q;omega
   ·rename_i q;have:Lib.indexAny l (B badS)≠ -1:=fun e=>q (by rw[e];rfl);omega
def plainK(f:Fm)(tx ln:Bool)(kk:Int):Bool:=(tx||decide (f.s.size=0))&&(ln||lin0 f.l)&&(decide (kk<0)||decide ((f.ks.length:Int)=kk))
end Go.Fo
namespace Go.Proofs.YtibphjonmikciaaGreatDoor
open Go Go.Av Go.Lexs Go.Lin Go.Fo
attribute [local irreducible] ACalls S9
open Go.RowKit in
theorem C3p{Q}(s:ByteArray)(hs:G4 (B s)=true)(H:Heap)(h:Q (.bool (!(B s).all (ofB Z2))) H):E3 137 [.str s,.str badS] H Q:=
 I9 (by kernel_rfl) (fun w vs hl hr i=>by
  obtain⟨a,b,rfl,d,hb⟩:=A0F hl hr;rw[d.str_inv,hb.str_inv];refine(Tryz.strings_ContainsAny_laid s badS w (by have:=A3B hs;omega) (by decide) (fun j b g=>by have:=A6I hs b (D05 g);omega) (fun j b g=>by
   have hm:=D05 g;have key: ∀c∈(badS).data.toList,c.toNat<128:=by decide
   exact key b hm)).mono fun e w' ⟨he,hw⟩=>?_
  refine⟨_,he,hw,?_⟩;rw[show Lib.containsAny s.data.toList badS.data.toList= !(B s).all (ofB Z2)from A7u (B s)];exact .bool _) h
theorem B0u{Q}(s:ByteArray)(H:Heap)(h:Q (.bool (plainB s)) H):E3 99 [.str s] H Q:=by
 refine A9 [] A8 Tryz.func99 rfl ?_;simp only[go_sem,seval,Tryz.results99];unfold plainB at h;cases hn:G4 (B s)with
 |false=>
  rw[hn]at h;repeat' (first|simp only[go_sem,seval,hn]|with_reducible refine N8 _ _ ?_)
  exact D13 h
 |true=>
  rw[hn]at h;repeat' (first|simp only[go_sem,seval,hn]|with_reducible refine N8 _ _ ?_|with_reducible refine C3p s hn _ ?_)
  exact D13 (by simpa using h)
theorem C6x{Q}(t:LTm)(H:Heap)(h:Q (.bool (!plainB t.v)) H):E3 98 [.agg (N7 t)] H Q:=by
 refine A9 [] A8 Tryz.func98 rfl ?_;simp only[go_sem,seval,Tryz.results98];repeat' (first|simp only[go_sem,seval]|intro d|with_reducible refine B0u _ _ ?_)
 exact D10 (by simp only[D9,D2,D3]at* <;>grind) h
theorem B0v{Q}(s:ByteArray)(hs:s.size≤140737488351232)(H:Heap)(h:Q (.bool (plainB s)) H):E3 100 [.str s] H Q:=by
 refine A9 [] A8 Tryz.func100 rfl ?_;simp only[go_sem,seval,Tryz.results100];have hl:=T9 s;refine C9 [0] (fun(i:Nat)=>[(3,.int .i64 i)]) (fun(i:Nat)=>H) (fun(i:Nat)=>i≤s.size∧((B s).take i).all (ofB Z2)=true) (fun(i:Nat)=>s.size-i) (0) (⟨D0t _,by simp⟩) (by(try simp only[go_sem,seval])<;>(try simp(disch:=omega) [A5])) (by first|exact D1z _|exact A0 (by assumption)|exact B3 (by assumption)|simp only[Heap.Le,Heap.set,Heap.del]at* <;>grind) ?_;rintro Ec rfl i ⟨hi,m⟩;by_cases U:i<s.size
 ·have q:decide ((i:Int)<s.size)=true:=D0a (by omega);have r:(i:Int)<s.size:=by omega
  have p:i<(B s).length:=by omega
  obtain⟨x,hx⟩: ∃x,x=U5 (B s) i:=⟨_,rfl⟩
  have u:Z2 x= !(B badS).contains (B s)[i]:=by rw[hx,←A6a];unfold U5;simp[D0p p]
  have z:S9 s (i:Int)=x:=by rw[hx];exact B2v s i
  repeat' (first|simp only[go_sem,seval,q,r]|intro o)
  rename_i b;have hb:=o;clear o;have V:([[D.int .u8 40],[D.int .u8 41],[D.int .u8 44],[D.int .u8 33],[D.int .u8 38],[D.int .u8 124],[D.int .u8 63]]:List (List D))=F0 badS:=by rfl
  rw[V];have I:(F0 badS).length=7:=by rfl
  refine B4C _ _ badS (by kernel_rfl) rfl (by decide) (A3 _ _) ?_;rw[E7 hb];repeat' simp only[go_sem,seval,I]
  have bl:(B badS).length=7:=rfl;have W:x=((B s)[i].toNat:Int):=by rw[hx];unfold U5;simp[D0p p]
  refine C9 [0,3,13,14] (fun(j:Nat)=>[(15,.int .i64 j)]) (fun(j:Nat)=>H) (fun(j:Nat)=>j≤7∧∀k,k<j→U5 (B badS) k≠x) (fun(j:Nat)=>7-j) (0) (⟨D0t _,fun _ h=>absurd h (D1o _)⟩) (by(try simp only[go_sem,seval])<;>(try simp(disch:=omega) [A5])) (by first|exact D1z _|exact A0 (by assumption)|exact B3 (by assumption)|simp only[Heap.Le,Heap.set,Heap.del]at* <;>grind) ?_;rintro X rfl j ⟨hj,A⟩;by_cases C:j<7
  ·have d:decide ((j:Int)<7)=true:=D0a (by omega);have G:(j:Int)<7:=by omega
   have J:=A23 badS j (show j<badS.size from C);have L:=R2 badS j (show j<badS.size from C);obtain⟨y,M⟩: ∃y,y=U5 (B badS) j:=⟨_,rfl⟩
   rw[←M]at J L;by_cases c:x=y
   ·have Y:plainB s=false:=by
     unfold plainB;have hc:Z2 x=false:=by
      rw[u];have:(B badS).contains (B s)[i]=true:=by
       rw[List.contains_iff_mem];have h1:(B s)[i].toNat=((B badS)[j]'(by omega)).toNat:=by
        have:U5 (B badS) j=(((B badS)[j]'(by omega)).toNat:Int):=by unfold U5;simp[D0p (show j<(B badS).length by omega)]
        rw[this]at M;omega
       rw[UInt8.toNat_inj.1 h1];exact D0m _
      rw[this];rfl
     rw[o9 Z2 (B s) i p (by rw[←hx];exact hc),Bool.and_false]
    rw[Y]at h;have O:decide (x=y)=true:=D0a c;repeat' (first|with_reducible apply D0Y|simp only[go_sem,seval,d,G,J,L,z,r,O,I]|simp(disch:=omega) only[A5,C3,R2]|intro o|omega)
    exact D13 h
   ·have O:decide (x=y)=false:=D0b c;repeat' (first|with_reducible apply D0Y|simp only[go_sem,seval,d,G,J,L,z,r,O,I]|simp(disch:=omega) only[A5,C3,R2]|intro o|omega)
    refine C4 (j+1) ⟨by omega,fun k hk=>?_⟩ (by omega) (by(try simp only[go_sem,seval])<;>(try simp(disch:=omega) [A5])) (D1z _);rcases Nat.lt_or_ge k j with g|g
    ·exact A k g
    ·have:k=j:=by omega
     subst this;exact fun e=>c ((M.trans e).symm)
  ·have d:decide ((j:Int)<7)=false:=D0b (by omega);have T:j=7:=by omega
   subst T;have hc:Z2 x=true:=by
    rw[u];have:(B badS).contains (B s)[i]=false:=by
     rw[←D1u,List.contains_iff_mem];intro hm;obtain⟨k,hk,e⟩:=List.getElem_of_mem hm;refine A k (by omega) ?_;rw[W,←e];unfold U5;simp[D0p hk]
    rw[this];rfl
   repeat' (first|with_reducible apply D0Y|simp only[go_sem,seval,d,I]|simp(disch:=omega) only[A5,C3,R2]|intro o|omega)
   exact C4 (i+1) ⟨by omega,by rw[Z8 _ _ _ p,m,←hx,hc];rfl⟩ (by omega) (by(try simp only[go_sem,seval])<;>(try simp(disch:=omega) [A5])) (D1z _)
 ·have q:decide ((i:Int)<s.size)=false:=D0b (by omega);rw[D0n (by omega)]at m;unfold plainB at h;rw[m,Bool.and_true]at h;repeat' (first|simp only[go_sem,seval,q]|with_reducible refine A0W s (by omega) _ ?_)
  exact D13 h
set_option maxHeartbeats 2000000 in
theorem B0w{Q}(f:Fm)(g:FmFit f)(d e:Bool)(i:Int)(b:Nat)(H:Heap)(hb:H b=some (.box (C1 f)))(h:Q (.bool (plainK f d e i)) H):E3 95 [.bool d,.bool e,.int .i64 i,.box b 0] H Q:=by
 refine A9 [] A8 Tryz.func95 rfl ?_;simp only[go_sem,seval,Tryz.results95];have m:=g.kl;have o:=g.lin.len;have d1:decide (f.s.size=0)=decide (B f.s= []):=by
  rw[←T9];exact D1B.2 List.length_eq_zero_iff
 have j:decide ((f.l.t.length:Int)=0)=decide (f.l.t= []):=D1B.2 (by rw[←List.length_eq_zero_iff];omega);unfold plainK lin0 at h;rw[d1,←j]at h;clear d1 j;cases d<;>cases e
 all_goals
  repeat' (first|with_reducible apply D0Y|simp only[go_sem,seval,hb]|intro p)
  all_goals (refine D13 ?_;simp_all)
end Go.Proofs.YtibphjonmikciaaGreatDoor
namespace Go.Fo
open Go Go.Av Go.Lexs Go.Lin
def ovr(S H:Heap):Heap:=fun i=>match S i with|some o=>some o|none=>H i
theorem A0l{S H:Heap}{b:Nat}{o:Av.Obj}(h:S b=some o):ovr S H b=some o:=by unfold ovr;rw[h]
theorem A2a{S H:Heap}{b:Nat}(h:S b=none):ovr S H b=H b:=by unfold ovr;rw[h]
theorem A08{S H:Heap}{b:Nat}(h:ovr S H b=none):S b=none∧H b=none:=by
 unfold ovr at h;cases g:S b with
 |none=>rw[g]at h;exact⟨rfl,h⟩
 |some o=>rw[g]at h;cases h
theorem A80{S H:Heap}{b:Nat}{o:Av.Obj}(h:S b=none):(ovr S H).set b o=ovr S (H.set b o):=by
 funext i
 unfold ovr Heap.set;by_cases e:i=b
 ·subst e;simp[h]
 ·simp[e]
theorem B2P{S H H':Heap}(h:H.Le H'):(ovr S H).Le (ovr S H'):=fun k o hk=>by
 unfold ovr at hk⊢;cases g:S k with
 |none=>rw[g]at hk;exact h _ _ hk
 |some x=>rw[g]at hk;exact hk
structure Vis(P:Program)(σ :Type)(g:Nat)(cap:List D)(St: σ →Heap)(step: σ →Fm→Int→ σ)(I: σ →Prop)(Hb:Heap→Prop):Prop where
 dom: ∀a a' i,St a i=none→St a' i=none
 inv: ∀a f d,I a→I (step a f d)
 base: ∀H b (o:Av.Obj),Hb H→H b=none→Hb (H.set b o)
 call: ∀a f d (H:Heap) (Q:D→Heap→Prop),I a→Hb H→FmFit f→Q (.tuple []) (ovr (St (step a f d)) H)→ACalls P g (.agg (C1 f):: .int .i64 d::cap) (ovr (St a) H) Q
end Go.Fo
namespace Go.Proofs.YtibphjonmikciaaGreatDoor
open Go Go.Av Go.Lexs Go.Lin Go.Fo
attribute [local irreducible] ACalls S9
theorem C3q{σ :Type}{g:Nat}{cap:List D}{St: σ →Heap}{step: σ →Fm→Int→ σ}{I: σ →Prop}{Hb:Heap→Prop}(V:Vis Tryz.prog σ g cap St step I Hb)(n:Nat): ∀{Q} (f:Fm) (hn:SizeOf.sizeOf f≤n) (x:FmFit f) (d:Int) (a: σ) (y:I a) (H:Heap) (G:Hb H) (h:Q (.tuple []) (ovr (St (foldF step f d a)) H)),
  E3 53 [.agg (C1 f),.int .i64 d,.fn (.func g) [] cap] (ovr (St a) H) Q:=by
 induction n with
 |zero=>intro Q f hn;cases f;simp at hn
 |succ n O=>
 intro Q f hn x d a y H G h;refine A9 [] A8 Tryz.func53 rfl ?_;simp only[go_sem,seval,Tryz.results53];have T:=x.kl;rw[A15]at h;intro o z;obtain⟨J,L⟩:=A08 z;rw[A80 J];have j:=V.base H o (.box (C1 f)) G L;have q:H.Le (H.set o (.box (C1 f))):=A0 L;have e3: ∀a',ovr (St a') (H.set o (.box (C1 f))) o=some (.box (C1 f)):=fun a'=>by rw[A2a (V.dom a a' o J),A3]
 generalize H.set o (.box (C1 f))=Bs at j q e3⊢;repeat' (first|simp only[go_sem,seval,e3]|with_reducible refine V.call a f d Bs _ y j x ?_)
 refine C9 [1,2,13,14] (fun(p:Nat× σ)=>[(15,.int .i64 p.1)]) (fun(p:Nat× σ)=>ovr (St p.2) Bs) (fun(p:Nat× σ)=>p.1≤f.ks.length∧I p.2∧foldF.foldK step (f.ks.drop p.1) (IntKind.i64.wrap (d+1)) p.2=foldF.foldK step f.ks (IntKind.i64.wrap (d+1)) (step a f d)) (fun(p:Nat× σ)=>f.ks.length-p.1) ((0,step a f d)) (⟨D0t _,V.inv _ _ _ y,rfl⟩) (by(try simp only[go_sem,seval])<;>(try simp(disch:=omega) [A5])) (by first|exact D1z _|exact A0 (by assumption)|exact B3 (by assumption)|simp only[Heap.Le,Heap.set,Heap.del]at* <;>grind) ?_;rintro Ec rfl ⟨i,c⟩ ⟨U,hc,r⟩;simp only at U hc r;by_cases e:i<f.ks.length
 ·have m:decide ((i:Int)<f.ks.length)=true:=D0a (by omega);have A:(i:Int)<f.ks.length:=by omega
  have hm:=D0m e;rw[D03 e,foldF.foldK]at r;repeat' (first|with_reducible apply D0Y|simp only[go_sem,seval,m,A,B2 _ _ e,C2 _ _ e]|intro u|omega)
  rename_i W;have X:=u;clear u;obtain⟨Y,M⟩:=A08 X;rw[A80 Y];have C:=V.base Bs W (.box (C1 f.ks[i])) j M;refine O f.ks[i] (by have:=W8 hm;omega) (x.kid hm) _ c hc _ C ?_;repeat' (first|simp only[go_sem,seval]|simp(disch:=omega) only[A5,B2,C3])
  exact C4 (i+1,foldF step f.ks[i] (IntKind.i64.wrap (d+1)) c) ⟨by simp only[];omega,B4d step I V.inv _ _ _ hc,r⟩ (by simp only[];omega) (by(try simp only[go_sem,seval])<;>(try simp(disch:=omega) [A5])) (B2P (A0 M))
 ·have m:decide ((i:Int)<f.ks.length)=false:=D0b (by omega);rw[List.drop_eq_nil_of_le (by omega),foldF.foldK]at r;rw[←r]at h;repeat' simp only[go_sem,seval,m]
  exact D10 (B2P q) h
theorem B2Q{σ :Type}{g:Nat}{cap:List D}{St: σ →Heap}{step: σ →Fm→Int→ σ}{I: σ →Prop}{Hb:Heap→Prop}(V:Vis Tryz.prog σ g cap St step I Hb){Q}(f:Fm)(e:FmFit f)(d:Int)(a: σ)(i:I a)(H:Heap)(j:Hb H)(h:Q (.tuple []) (ovr (St (foldF step f d a)) H)):
  E3 53 [.agg (C1 f),.int .i64 d,.fn (.func g) [] cap] (ovr (St a) H) Q:=C3q V _ f (D0s _) e d a i H j h
end Go.Proofs.YtibphjonmikciaaGreatDoor
namespace Go.Fo
open Go Go.Av Go.Lexs Go.Lin
def tcF:List LTm→Int→Int
 | [],left=>left
 |t::l,left=>tcF l (IntKind.i64.wrap (left-t.v.size / 100))
def A3D:Fm→Int→Int
 | .mk _ _ l s ks,left=>cntK ks (tcF l.t (IntKind.i64.wrap (left-IntKind.i64.wrap (IntKind.i64.wrap (1+s.size / 100)+l.t.length))))
where cntK:List Fm→Int→Int
 | [],left=>left
 |f::fs,left=>if left<0 then left else cntK fs (A3D f left)
theorem B9p(f:Fm)(left:Int):A3D f left=A3D.cntK f.ks (tcF f.l.t (IntKind.i64.wrap (left-IntKind.i64.wrap (IntKind.i64.wrap (1+f.s.size / 100)+f.l.t.length)))):=by cases f;rw[A3D];rfl
def B2R:List Fm→Int→Int
 | [],n=>n
 |f::l,n=>B2R l (A3D f n)
theorem B9q{f:Fm}(h:E4 f=true):f.l.t.length≤12:=by
 cases B61 h with
 |lin l hv hp=>exact(M0 hv).len
 |_=>simp[Fm.l,nilL]
def VOk(f:Fm):Prop:=J0 f≤1000000∨I5 E4 f=false
theorem B2S(l:List LTm):(!l.any fun t=> !plainB t.v)=l.all fun t=>plainB t.v:=by
 induction l with
 |nil=>rfl
 |cons t l d=>rw[D1d,D1b,←d];cases plainB t.v<;>simp
theorem B3d(l:List Fm):l.isEmpty=decide ((l.length:Int)=0):=by
 cases l with
 |nil=>rfl
 |cons x l=>simp only[List.isEmpty_cons,D0d];symm;apply D0b;omega
theorem B3e(l:List Fm):decide (l.length=1)=decide ((l.length:Int)=1):=D1B.2 (by omega)
theorem B7H(f:Fm):E4 f=if f.op=1 then((decide (f.n=0)||decide (f.n=1))&&plainK f false false 0)
  else if f.op=2 then(decide (f.n=0)&&plainK f false true 0&&validL f.l&& !f.l.t.any fun t=> !plainB t.v)
  else if f.op=3 then(decide (f.n=0)&&plainK f true false 0&&plainB f.s)
  else if f.op=4 then(decide (f.n=0)&&plainK f false false 1)
  else if f.op=5∨f.op=6 then(decide (f.n=0)&&plainK f false false (-1))else false:=by
 unfold E4 plainK;rw[B3d,B3e,B2S];split
 ·simp[Bool.and_assoc]
 ·split
  ·simp only[Bool.false_or,Bool.true_or,Bool.and_true,Int.lt_irrefl,decide_false,Bool.true_and,Bool.and_assoc]
  ·split
   ·simp only[Bool.false_or,Bool.true_or,Bool.and_true,Int.lt_irrefl,decide_false,Bool.true_and,Bool.and_assoc]
   ·split
    ·simp[Bool.and_assoc]
    ·split
     ·simp[Bool.and_assoc]
     ·rfl
end Go.Fo
namespace Go.Proofs.YtibphjonmikciaaGreatDoor
open Go Go.Av Go.Lexs Go.Lin Go.Fo
attribute [local irreducible] ACalls S9
set_option maxHeartbeats 4000000 in
theorem C9F{Q}(f:Fm)(i:FmFit f)(H:Heap)(h:Q (.bool (E4 f)) H):E3 55 [.agg (C1 f)] H Q:=by
 refine A9 [] A8 Tryz.func55 rfl ?_;simp only[go_sem,seval,Tryz.results55];have C:=i.lin.len;rw[B7H]at h;intro g h1;have e1:(H.set g (.box (C1 f))) g=some (.box (C1 f)):=A3 _ _;have d:H.Le (H.set g (.box (C1 f))):=A0 h1;generalize H.set g (.box (C1 f))=Bs at e1 d⊢;have q:=fun(Q:D→Heap→Prop)=>B0w (Q:=Q) f i false false 0 g Bs e1;have r:=fun(Q:D→Heap→Prop)=>B0w (Q:=Q) f i false true 0 g Bs e1;have u:=fun(Q:D→Heap→Prop)=>B0w (Q:=Q) f i true false 0 g Bs e1;have x:=fun(Q:D→Heap→Prop)=>B0w (Q:=Q) f i false false 1 g Bs e1;have m:=fun(Q:D→Heap→Prop)=>B0w (Q:=Q) f i false false (-1) g Bs e1;have y:=fun(Q:D→Heap→Prop)=>A8o (Q:=Q) f.l i.lin Bs;have z:=fun(Q:D→Heap→Prop)=>C3n (Q:=Q) (fun t=> !plainB t.v) f.l.t (by omega) 98 [] [] Bs (fun a T Q hq=>C6x a Bs hq);have A:=fun(Q:D→Heap→Prop)=>B0u (Q:=Q) f.s Bs;generalize plainK f false false 0=U at h q;generalize plainK f false true 0=V at h r;generalize plainK f true false 0=W at h u;generalize plainK f false false 1=X at h x;generalize plainK f false false (-1)=Y at h m;generalize validL f.l=v1 at h y;generalize (f.l.t.any fun t=> !plainB t.v)=v2 at h z;generalize plainB f.s=v3 at h A;by_cases o1:f.op=1
 ·rw[if_pos o1]at h;repeat' (first|with_reducible apply D0Y|simp only[go_sem,seval,e1,o1]|intro e|with_reducible refine q _ ?_)
  all_goals (refine D10 d ?_;simp_all)
 rw[if_neg o1]at h;by_cases o2:f.op=2
 ·rw[if_pos o2]at h;repeat' (first|with_reducible apply D0Y|simp only[go_sem,seval,e1,o2]|intro e|with_reducible refine r _ ?_|with_reducible refine y _ ?_|with_reducible refine z _ ?_)
  all_goals (refine D10 d ?_;simp_all)
 rw[if_neg o2]at h;by_cases o3:f.op=3
 ·rw[if_pos o3]at h;repeat' (first|with_reducible apply D0Y|simp only[go_sem,seval,e1,o3]|intro e|with_reducible refine u _ ?_|with_reducible refine A _ ?_)
  all_goals (refine D10 d ?_;simp_all)
 rw[if_neg o3]at h;by_cases j:f.op=4
 ·rw[if_pos j]at h;repeat' (first|with_reducible apply D0Y|simp only[go_sem,seval,e1,j]|intro e|with_reducible refine x _ ?_)
  all_goals (refine D10 d ?_;simp_all)
 rw[if_neg j]at h;by_cases o:f.op=5
 ·rw[if_pos (.inl o)]at h;repeat' (first|with_reducible apply D0Y|simp only[go_sem,seval,e1,o]|intro e|with_reducible refine m _ ?_)
  all_goals (refine D10 d ?_;simp_all)
 by_cases p:f.op=6
 ·rw[if_pos (.inr p)]at h;repeat' (first|with_reducible apply D0Y|simp only[go_sem,seval,e1,p]|intro e|with_reducible refine m _ ?_)
  all_goals (refine D10 d ?_;simp_all)
 rw[if_neg (by omega)]at h;have G:decide (f.op=1)=false:=D0b o1;have I:decide (f.op=2)=false:=D0b o2;have J:decide (f.op=3)=false:=D0b o3;have L:decide (f.op=4)=false:=D0b j;have M:decide (f.op=5)=false:=D0b o;have O:decide (f.op=6)=false:=D0b p;repeat' (first|with_reducible apply D0Y|simp only[go_sem,seval,e1,G,I,J,L,M,O]|intro e|omega)
 all_goals exact D10 d h
end Go.Proofs.YtibphjonmikciaaGreatDoor
namespace Go.Fo
open Go Go.Av Go.Lexs Go.Lin
def A09(n:Int):Av.Obj:=.box [.int .i64 n]
def j9(bn bm:Nat)(a:Int×Int):Heap:=fun i=>if i=bm then some (A09 a.2)else if i=bn then some (A09 a.1)else none
theorem B9r{bn bm:Nat}(a a':Int×Int)(H d:Heap)(h:(ovr (j9 bn bm a) H).Le d):(ovr (j9 bn bm a') H).Le ((d.set bn (A09 a'.1)).set bm (A09 a'.2)):=fun k o hk=>by
 unfold Heap.set;by_cases e:k=bm
 ·subst e;simp[ovr,j9]at hk⊢;exact hk
 ·by_cases e2:k=bn
  ·subst e2;simp[ovr,j9,e]at hk⊢;exact hk
  ·simp only[e,e2,if_false];refine h _ _ ?_;simpa [ovr,j9,e,e2]using hk
def B7I(b:Bool):Av.Obj:=.box [.bool b]
def s8(bo:Nat)(a:Bool):Heap:=fun i=>if i=bo then some (B7I a)else none
theorem B3f{d:Nat}(a a':Bool)(H g:Heap)(h:(ovr (s8 d a) H).Le g):(ovr (s8 d a') H).Le (g.set d (B7I a')):=fun k o hk=>by
 unfold Heap.set;by_cases e:k=d
 ·subst e;simp[ovr,s8]at hk⊢;exact hk
 ·simp only[e,if_false];refine h _ _ ?_;simpa [ovr,s8,e]using hk
def Q6(bi bb mi mb:Nat)(a:List ByteArray×List ByteArray):Heap:=fun i=>if i=mi then some (.map (D1 tt a.1))else if i=mb then some (.map (D1 tt a.2))else if i=bi then some (.box [.map mi])else if i=bb then some (.box [.map mb])else none
structure B9s(bi bb mi mb:Nat):Prop where
 a:mi≠mb
 b:bi≠mi
 c:bi≠mb
 d:bb≠mi
 e:bb≠mb
 f:bi≠bb
theorem B0x{bi bb mi mb:Nat}(F:B9s bi bb mi mb)(a:List ByteArray×List ByteArray)(H:Heap):ovr (Q6 bi bb mi mb a) H mi=some (.map (D1 tt a.1))∧ovr (Q6 bi bb mi mb a) H mb=some (.map (D1 tt a.2))∧ovr (Q6 bi bb mi mb a) H bi=some (.box [.map mi])∧ovr (Q6 bi bb mi mb a) H bb=some (.box [.map mb]):=by
 have f1:=F.a;have f2:=F.b;have f3:=F.c;have g:=F.d;have f5:=F.e;have h:=F.f;refine⟨A0l (by simp[Q6]),A0l (by simp[Q6,f1.symm]),A0l (by simp[Q6,f2,f3]),A0l (by simp[Q6,g,f5,h.symm])⟩
theorem B0y{bi bb mi mb:Nat}(a a':List ByteArray×List ByteArray)(H G:Heap)(h1:G mi=some (.map (D1 tt a'.1)))(e:G mb=some (.map (D1 tt a'.2)))(g:G bi=some (.box [.map mi]))(i:G bb=some (.box [.map mb]))
  (h: ∀k o,Q6 bi bb mi mb a k=none→H k=some o→G k=some o):(ovr (Q6 bi bb mi mb a') H).Le G:=fun k o hk=>by
 unfold ovr Q6 at hk;by_cases e1:k=mi
 ·rw[if_pos e1]at hk;rw[e1,h1];exact hk
 rw[if_neg e1]at hk;by_cases e2:k=mb
 ·rw[if_pos e2]at hk;rw[e2,e];exact hk
 rw[if_neg e2]at hk;by_cases e3:k=bi
 ·rw[if_pos e3]at hk;rw[e3,g];exact hk
 rw[if_neg e3]at hk;by_cases d:k=bb
 ·rw[if_pos d]at hk;rw[d,i];exact hk
 rw[if_neg d]at hk;exact h k o (by unfold Q6;rw[if_neg e1,if_neg e2,if_neg e3,if_neg d]) hk
theorem B7J{bi bb mi mb:Nat}(a a':List ByteArray×List ByteArray)(i:Nat)(h:Q6 bi bb mi mb a i=none):Q6 bi bb mi mb a' i=none:=by
 unfold Q6 at h⊢;by_cases e1:i=mi
 ·simp[e1]at h
 by_cases e2:i=mb
 ·simp[e1,e2]at h;split at h<;>cases h
 by_cases e3:i=bi
 ·rw[if_neg e1,if_neg e2,if_pos e3]at h;cases h
 by_cases d:i=bb
 ·rw[if_neg e1,if_neg e2,if_neg e3,if_pos d]at h;cases h
 rw[if_neg e1,if_neg e2,if_neg e3,if_neg d]
theorem C9G(bn bm:Nat)(x y:Int)(H:Heap):(H.set bn (A09 x)).set bm (A09 y)=ovr (j9 bn bm (x,y)) H:=by
 funext i
 unfold ovr j9 Heap.set;by_cases e1:i=bm
 ·simp[e1]
 ·by_cases e2:i=bn
  ·subst e2;simp[e1]
  ·simp[e1,e2]
theorem C9H(d:Nat)(x:Bool)(H:Heap):H.set d (B7I x)=ovr (s8 d x) H:=by
 funext i
 unfold ovr s8 Heap.set;by_cases e1:i=d<;>simp[e1]
def A6b(n:Nat)(seen:List Nat):Nat:=((List.range n).filter fun i=> !seen.contains i).length
theorem A18{n i:Nat}{seen:List Nat}(h:i<n)(hn:i∉seen):A6b n (seen++[i])<A6b n seen:=by
 unfold A6b;have key: ∀l:List Nat,(l.filter fun j=> !(seen++[i]).contains j).length+(l.filter fun j=>decide (j=i)).length≤(l.filter fun j=> !seen.contains j).length+(l.filter fun j=>decide (j=i∧i∈seen)).length:=by
  intro l
  induction l with
  |nil=>simp
  |cons x l d=>
   simp only[List.filter_cons];by_cases e:x=i
   ·subst e;simp[hn]at d⊢;omega
   ·by_cases g:x∈seen
    ·simp[e,g]at d⊢;omega
    ·simp[e,g]at d⊢;omega
 have m:=key (List.range n);have z:((List.range n).filter fun j=>decide (j=i∧i∈seen)).length=0:=by simp[hn]
 have o:1≤((List.range n).filter fun j=>decide (j=i)).length:=by
  apply List.length_pos_of_mem (a:=i);simp[h]
 omega
def X3(f:Fm):Bool:=decide ((foldF A0k f 1 (0,0)).1≤200)&&decide ((foldF A0k f 1 (0,0)).2≤60)
theorem B7K{f:Fm}(h:J0 f≤1000000):X3 f=(decide (N6 f≤60)&&decide (F3 f≤200)):=by
 unfold X3;rw[B6n f 1 (0,0) (by decide) (by omega) (by decide) (by simp only[];omega)];rw[Bool.and_comm];have h1:1≤N6 f:=by cases f;rw[N6];omega
 congr 1
 ·apply D1B.2;simp only[];omega
 ·apply D1B.2;simp only[];omega
theorem B0z{f:Fm}(h:VOk f):(X3 f&&I5 E4 f&& !meetL (ivF f) (bvF f)&&decide ((ivF f).length+(bvF f).length≤12))=E6 f:=by
 rw[A05];rcases h with h|h
 ·rw[B7K h];cases I5 E4 f<;>simp
 ·rw[h];simp
structure SmI(bn bm:Nat)(a:Int×Int)(d:Int)(Bs:Heap)(l:Array Bool)(F:FEnv)(H:Heap):Prop where
 size:l.size=7
 f1:F 1= .int .i64 d
 f2:F 2= .box bn 0
 f3:F 3= .box bm 0
 v0:l.getD 0 false=true→F 6= .int .i64 a.1
 v1:l.getD 1 false=true→F 7= .int .i64 (IntKind.i64.wrap (a.1+1))
 v2:l.getD 2 false=true→F 8= .int .i64 a.2
 v3:l.getD 3 false=true→F 9= .int .i64 d
 v4:l.getD 4 false=true→F 10= .int .i64 (if a.2<d then d else a.2)
 hn:H bn=some (if l.getD 5 false=true then A09 (IntKind.i64.wrap (a.1+1))else A09 a.1)
 hm:H bm=some (if l.getD 6 false=true then A09 (if a.2<d then d else a.2)else A09 a.2)
 ho: ∀k,k≠bn→k≠bm→H k=Bs k
 w5:l.getD 5 false=true→l.getD 0 false=true
 w6:l.getD 6 false=true→l.getD 2 false=true
end Go.Fo
namespace Go.Proofs.YtibphjonmikciaaGreatDoor
open Go Go.Av Go.Lexs Go.Lin Go.Fo
attribute [local irreducible] ACalls S9
noncomputable def smOps:Array Oper:=match Tryz.f94.body with|some (.seq _ (.region _ ops _))=>ops|_=> #[]
theorem B7L{bn bm:Nat}(T:bn≠bm)(a:Int×Int)(d:Int)(Bs:Heap)(K:Kg)(hK: ∀F H,H bn=some (A09 (IntKind.i64.wrap (a.1+1)))→H bm=some (A09 (if a.2<d then d else a.2))→(∀k,k≠bn→k≠bm→H k=Bs k)→K F H):
  ∀fuel l F H,SmI bn bm a d Bs l F H→(l.toList.filter (!·)).length≤fuel→B9d Tryz.prog smOps K fuel l F H:=by
 obtain⟨x0,o0,d0,p0,g0,w0⟩: ∃o,smOps[0]? =some o∧o.dst=some 6∧o.op= .load 3 (.tmp 2)∧o.guard=none∧J8 o= []:=⟨_,rfl,rfl,rfl,rfl,rfl⟩
 obtain⟨x1,o1,d1,p1,g1,w1⟩: ∃o,smOps[1]? =some o∧o.dst=some 7∧o.op= .binOp .add 3 (.tmp 6) (.const (.int .i64 1)) 3∧o.guard=none∧J8 o= [0]:=⟨_,rfl,rfl,rfl,rfl,rfl⟩
 obtain⟨x2,o2,d2,p2,g2,w2⟩: ∃o,smOps[2]? =some o∧o.dst=some 8∧o.op= .load 3 (.tmp 3)∧o.guard=none∧J8 o= []:=⟨_,rfl,rfl,rfl,rfl,rfl⟩
 obtain⟨x3,o3,d3,p3,g3,w3⟩: ∃o,smOps[3]? =some o∧o.dst=some 9∧o.op= .move (.tmp 1)∧o.guard=none∧J8 o= []:=⟨_,rfl,rfl,rfl,rfl,rfl⟩
 obtain⟨x4,o4,d4,p4,g4,W⟩: ∃o,smOps[4]? =some o∧o.dst=some 10∧o.op= .call ⟨.builtin .max,#[.tmp 8,.tmp 9],#[3,3]⟩∧o.guard=none∧J8 o= [2,3]:=⟨_,rfl,rfl,rfl,rfl,rfl⟩
 obtain⟨x5,o5,d5,p5,g5,w5⟩: ∃o,smOps[5]? =some o∧o.dst=none∧o.op= .store 3 (.tmp 2) (.tmp 7)∧o.guard=none∧J8 o= [1,0,1]:=⟨_,rfl,rfl,rfl,rfl,rfl⟩
 obtain⟨x6,o6,d6,p6,g6,w6⟩: ∃o,smOps[6]? =some o∧o.dst=none∧o.op= .store 3 (.tmp 3) (.tmp 10)∧o.guard=none∧J8 o= [4,5,0,1,2,3,4,5]:=⟨_,rfl,rfl,rfl,rfl,rfl⟩
 have a0:smOps.size=7:=rfl;generalize smOps=ops at*;have U: ∀i o,ops[i]? =some o→i<7:=fun i o h=>by have:=(D0x.1 h).1;omega
 have done: ∀l F H,SmI bn bm a d Bs l F H→(∀i,i<7→l.getD i false=true)→K F H:=fun l F H I J=>by
  refine hK F H ?_ ?_ I.ho
  ·rw[I.hn,if_pos (J 5 (by decide))]
  ·rw[I.hm,if_pos (J 6 (by decide))]
 have tf: ∀(l:Array Bool) (i:Nat),l.size=7→i<7→l.getD i false=false→l.getD i true=false:=fun l i hs z h=>by
  have:i<l.size:=by omega
  simp[this]at h⊢;exact h
 have ft: ∀(l:Array Bool) (i:Nat),l.size=7→i<7→l.getD i true=false→l.getD i false=false:=fun l i hs z h=>by
  have:i<l.size:=by omega
  simp[this]at h⊢;exact h
 have p: ∀(l:Array Bool),l.size=7→Region.ready .any ops l= []→∀i,i<7→l.getD i false=true:=fun l hs L=>by
  have k: ∀i o,i<7→ops[i]? =some o→(∀e∈J8 o,l.getD e false=true)→l.getD i false=true:=fun i o z ho A=>by
   cases hc:l.getD i false with
   |true=>rfl
   |false=>
    have:=A6U (tf l i hs z hc) ho A;rw[L]at this;cases this
  have k0:=k 0 x0 (by decide) o0 (fun e he=>by rw[w0]at he;simp only[D00,D01,or_false]at he;repeat (first|(rcases he with rfl|he;assumption)|(subst he;assumption)|exact he.elim));have M:=k 1 x1 (by decide) o1 (fun e he=>by rw[w1]at he;simp only[D00,D01,or_false]at he;repeat (first|(rcases he with rfl|he;assumption)|(subst he;assumption)|exact he.elim));have O:=k 2 x2 (by decide) o2 (fun e he=>by rw[w2]at he;simp only[D00,D01,or_false]at he;repeat (first|(rcases he with rfl|he;assumption)|(subst he;assumption)|exact he.elim));have k3:=k 3 x3 (by decide) o3 (fun e he=>by rw[w3]at he;simp only[D00,D01,or_false]at he;repeat (first|(rcases he with rfl|he;assumption)|(subst he;assumption)|exact he.elim));have k4:=k 4 x4 (by decide) o4 (fun e he=>by rw[W]at he;simp only[D00,D01,or_false]at he;repeat (first|(rcases he with rfl|he;assumption)|(subst he;assumption)|exact he.elim));have k5:=k 5 x5 (by decide) o5 (fun e he=>by rw[w5]at he;simp only[D00,D01,or_false]at he;repeat (first|(rcases he with rfl|he;assumption)|(subst he;assumption)|exact he.elim));have k6:=k 6 x6 (by decide) o6 (fun e he=>by rw[w6]at he;simp only[D00,D01,or_false]at he;repeat (first|(rcases he with rfl|he;assumption)|(subst he;assumption)|exact he.elim));intro i z
  match i,z with
  |0,_=>exact k0
  |1,_=>exact M
  |2,_=>exact O
  |3,_=>exact k3
  |4,_=>exact k4
  |5,_=>exact k5
  |6,_=>exact k6
 have X: ∀(l:Array Bool) (i:Nat) (n:Nat),l.size=7→i<7→l.getD i false=false→(l.toList.filter (!·)).length≤n+1→((l.setIfInBounds i true).toList.filter (!·)).length≤n:=fun l i n hs z h hc=>by
  have key: ∀(m:List Bool) (i:Nat),m[i]? =some false→((m.set i true).filter (!·)).length+1=(m.filter (!·)).length:=by
   intro m
   induction m with
   |nil=>intro i h;simp at h
   |cons b m C=>
    intro i h;cases i with
    |zero=>simp at h;subst h;simp
    |succ i=>
     have:=C i (by simpa using h);cases b<;>simp[List.set_cons_succ]<;>omega
  have hl:l.toList[i]? =some false:=by
   have:i<l.size:=by omega
   simp[this]at h⊢;exact h
  have:=key l.toList i hl;rw[Array.toList_setIfInBounds];omega
 have gs: ∀(l:Array Bool) (i j:Nat),l.size=7→i<7→(l.setIfInBounds i true).getD j false=(decide (i=j)||l.getD j false):=fun l i j hs z=>by
  by_cases e:i=j
  ·subst e;have:i<l.size:=by omega
   simp[this]
  ·rw[getD_set_ne false e];simp[e]
 intro fuel
 induction fuel with
 |zero=>
  intro l F H I hc;have hr:Region.ready .any ops l= []:=by
   cases hr:Region.ready .any ops l with
   |nil=>rfl
   |cons i r=>
    exfalso;obtain⟨h1,o,ho,_⟩:=A1W (by rw[hr];exact D0j .. :i∈Region.ready .any ops l);have z:=U i o ho;have:=I.size;have hl:l.toList[i]? =some false:=by
     have:i<l.size:=by omega
     simp[this]at h1⊢;exact h1
    have hm:false∈l.toList.filter (!·):=List.mem_filter.2 ⟨D05 hl,rfl⟩;have:=List.length_pos_of_mem hm;omega
  exact⟨hr,done l F H I (p l I.size hr)⟩
 |succ n C=>
  intro l F H I hc;refine⟨fun L=>done l F H I (p l I.size L),fun i z=>?_⟩;obtain⟨hu,o,ho,A⟩:=A1W z;have G:=U i o ho;have V:=ft l i I.size G hu;refine⟨o,ho,?_⟩;have u:=X l i n I.size G V hc;have hsz:(l.setIfInBounds i true).size=7:=by simpa using I.size
  have g:=fun j=>gs l i j I.size G;have nn:bn∈[bn,bm]:=by simp
  match i,G with
  |0,_=>
   rw[o0]at ho;cases ho;have e5:l.getD 5 false=false:=by
    cases q:l.getD 5 false with
    |false=>rfl
    |true=>have:=I.w5 q;rw[V]at this;cases this
   have x:=I.hn;rw[e5]at x;refine⟨g0,?_⟩;rw[p0,d0];simp only[go_sem,seval,show F.ev (.tmp 2)= .box bn 0 from I.f2,show H bn=some (.box [.int .i64 a.1])from x];refine C _ _ _ ?_ u;exact⟨hsz,I.f1,I.f2,I.f3,fun _=>rfl,fun q=>I.v1 (by simpa [g,-Array.getD_eq_getD_getElem?]using q),fun q=>I.v2 (by simpa [g,-Array.getD_eq_getD_getElem?]using q),fun q=>I.v3 (by simpa [g,-Array.getD_eq_getD_getElem?]using q),fun q=>I.v4 (by simpa [g,-Array.getD_eq_getD_getElem?]using q),by rw[I.hn];simp[g,-Array.getD_eq_getD_getElem?],by rw[I.hm];simp[g,-Array.getD_eq_getD_getElem?],I.ho,fun q=>by simp[g,-Array.getD_eq_getD_getElem?],fun q=>by simpa [g,-Array.getD_eq_getD_getElem?]using I.w6 (by simpa [g,-Array.getD_eq_getD_getElem?]using q)⟩
  |1,_=>
   rw[o1]at ho;cases ho;have L:l.getD 0 false=true:=A 0 (by rw[w1];simp);refine⟨g1,?_⟩;rw[p1,d1];simp only[go_sem,seval,show F.ev (.tmp 6)= .int .i64 a.1 from I.v0 L,show F.ev (.const (.int .i64 1))= .int .i64 1 from rfl];refine C _ _ _ ?_ u;exact⟨hsz,I.f1,I.f2,I.f3,fun q=>I.v0 (by simpa [g,-Array.getD_eq_getD_getElem?]using q),fun _=>rfl,fun q=>I.v2 (by simpa [g,-Array.getD_eq_getD_getElem?]using q),fun q=>I.v3 (by simpa [g,-Array.getD_eq_getD_getElem?]using q),fun q=>I.v4 (by simpa [g,-Array.getD_eq_getD_getElem?]using q),by rw[I.hn];simp[g,-Array.getD_eq_getD_getElem?],by rw[I.hm];simp[g,-Array.getD_eq_getD_getElem?],I.ho,fun q=>by simpa [g,-Array.getD_eq_getD_getElem?]using I.w5 (by simpa [g,-Array.getD_eq_getD_getElem?]using q),fun q=>by simpa [g,-Array.getD_eq_getD_getElem?]using I.w6 (by simpa [g,-Array.getD_eq_getD_getElem?]using q)⟩
  |2,_=>
   rw[o2]at ho;cases ho;have e6:l.getD 6 false=false:=by
    cases q:l.getD 6 false with
    |false=>rfl
    |true=>have:=I.w6 q;rw[V]at this;cases this
   have y:=I.hm;rw[e6]at y;refine⟨g2,?_⟩;rw[p2,d2];simp only[go_sem,seval,show F.ev (.tmp 3)= .box bm 0 from I.f3,show H bm=some (.box [.int .i64 a.2])from y];refine C _ _ _ ?_ u;exact⟨hsz,I.f1,I.f2,I.f3,fun q=>I.v0 (by simpa [g,-Array.getD_eq_getD_getElem?]using q),fun q=>I.v1 (by simpa [g,-Array.getD_eq_getD_getElem?]using q),fun _=>rfl,fun q=>I.v3 (by simpa [g,-Array.getD_eq_getD_getElem?]using q),fun q=>I.v4 (by simpa [g,-Array.getD_eq_getD_getElem?]using q),by rw[I.hn];simp[g,-Array.getD_eq_getD_getElem?],by rw[I.hm];simp[g,-Array.getD_eq_getD_getElem?],I.ho,fun q=>by simpa [g,-Array.getD_eq_getD_getElem?]using I.w5 (by simpa [g,-Array.getD_eq_getD_getElem?]using q),fun q=>by simp[g,-Array.getD_eq_getD_getElem?]⟩
  |3,_=>
   rw[o3]at ho;cases ho;refine⟨g3,?_⟩;rw[p3,d3];simp only[go_sem,seval,show F.ev (.tmp 1)= .int .i64 d from I.f1];refine C _ _ _ ?_ u;exact⟨hsz,I.f1,I.f2,I.f3,fun q=>I.v0 (by simpa [g,-Array.getD_eq_getD_getElem?]using q),fun q=>I.v1 (by simpa [g,-Array.getD_eq_getD_getElem?]using q),fun q=>I.v2 (by simpa [g,-Array.getD_eq_getD_getElem?]using q),fun _=>rfl,fun q=>I.v4 (by simpa [g,-Array.getD_eq_getD_getElem?]using q),by rw[I.hn];simp[g,-Array.getD_eq_getD_getElem?],by rw[I.hm];simp[g,-Array.getD_eq_getD_getElem?],I.ho,fun q=>by simpa [g,-Array.getD_eq_getD_getElem?]using I.w5 (by simpa [g,-Array.getD_eq_getD_getElem?]using q),fun q=>by simpa [g,-Array.getD_eq_getD_getElem?]using I.w6 (by simpa [g,-Array.getD_eq_getD_getElem?]using q)⟩
  |4,_=>
   rw[o4]at ho;cases ho;have Y:l.getD 2 false=true:=A 2 (by rw[W];simp);have h3:l.getD 3 false=true:=A 3 (by rw[W];simp);refine⟨g4,?_⟩;rw[p4,d4];simp only[go_sem,seval,show F.ev (.tmp 8)= .int .i64 a.2 from I.v2 Y,show F.ev (.tmp 9)= .int .i64 d from I.v3 h3];refine C _ _ _ ?_ u;exact⟨hsz,I.f1,I.f2,I.f3,fun q=>I.v0 (by simpa [g,-Array.getD_eq_getD_getElem?]using q),fun q=>I.v1 (by simpa [g,-Array.getD_eq_getD_getElem?]using q),fun q=>I.v2 (by simpa [g,-Array.getD_eq_getD_getElem?]using q),fun q=>I.v3 (by simpa [g,-Array.getD_eq_getD_getElem?]using q),fun _=>rfl,by rw[I.hn];simp[g,-Array.getD_eq_getD_getElem?],by rw[I.hm];simp[g,-Array.getD_eq_getD_getElem?],I.ho,fun q=>by simpa [g,-Array.getD_eq_getD_getElem?]using I.w5 (by simpa [g,-Array.getD_eq_getD_getElem?]using q),fun q=>by simpa [g,-Array.getD_eq_getD_getElem?]using I.w6 (by simpa [g,-Array.getD_eq_getD_getElem?]using q)⟩
  |5,_=>
   rw[o5]at ho;cases ho;have L:l.getD 0 false=true:=A 0 (by rw[w5];simp);have h1:l.getD 1 false=true:=A 1 (by rw[w5];simp);have x:=I.hn;rw[V]at x;refine⟨g5,?_⟩;rw[p5,d5];simp only[go_sem,seval,show F.ev (.tmp 2)= .box bn 0 from I.f2,show F.ev (.tmp 7)= .int .i64 (IntKind.i64.wrap (a.1+1))from I.v1 h1,show H bn=some (.box [.int .i64 a.1])from x];refine C _ _ _ ?_ u;exact⟨hsz,I.f1,I.f2,I.f3,fun q=>I.v0 (by simpa [g,-Array.getD_eq_getD_getElem?]using q),fun q=>I.v1 (by simpa [g,-Array.getD_eq_getD_getElem?]using q),fun q=>I.v2 (by simpa [g,-Array.getD_eq_getD_getElem?]using q),fun q=>I.v3 (by simpa [g,-Array.getD_eq_getD_getElem?]using q),fun q=>I.v4 (by simpa [g,-Array.getD_eq_getD_getElem?]using q),by rw[A3];simp[g,-Array.getD_eq_getD_getElem?,A09],by rw[A4 _ T.symm,I.hm];simp[g,-Array.getD_eq_getD_getElem?],fun k M O=>by rw[A4 _ M];exact I.ho k M O,fun q=>by simp[g,-Array.getD_eq_getD_getElem?,L],fun q=>by simpa [g,-Array.getD_eq_getD_getElem?]using I.w6 (by simpa [g,-Array.getD_eq_getD_getElem?]using q)⟩
  |6,_=>
   rw[o6]at ho;cases ho;have Y:l.getD 2 false=true:=A 2 (by rw[w6];simp);have h4:l.getD 4 false=true:=A 4 (by rw[w6];simp);have y:=I.hm;rw[V]at y;refine⟨g6,?_⟩;rw[p6,d6];simp only[go_sem,seval,show F.ev (.tmp 3)= .box bm 0 from I.f3,show F.ev (.tmp 10)= .int .i64 (if a.2<d then d else a.2)from I.v4 h4,show H bm=some (.box [.int .i64 a.2])from y];refine C _ _ _ ?_ u;exact⟨hsz,I.f1,I.f2,I.f3,fun q=>I.v0 (by simpa [g,-Array.getD_eq_getD_getElem?]using q),fun q=>I.v1 (by simpa [g,-Array.getD_eq_getD_getElem?]using q),fun q=>I.v2 (by simpa [g,-Array.getD_eq_getD_getElem?]using q),fun q=>I.v3 (by simpa [g,-Array.getD_eq_getD_getElem?]using q),fun q=>I.v4 (by simpa [g,-Array.getD_eq_getD_getElem?]using q),by rw[A4 _ T,I.hn];simp[g,-Array.getD_eq_getD_getElem?],by rw[A3];simp[g,-Array.getD_eq_getD_getElem?,A09],fun k M O=>by rw[A4 _ O];exact I.ho k M O,fun q=>by simpa [g,-Array.getD_eq_getD_getElem?]using I.w5 (by simpa [g,-Array.getD_eq_getD_getElem?]using q),fun q=>by simp[g,-Array.getD_eq_getD_getElem?,Y]⟩
theorem B7M{bn bm:Nat}(g:bn≠bm)(a:Int×Int)(f:Fm)(d:Int)(H:Heap)(Q:D→Heap→Prop)(h:Q (.tuple []) (ovr (j9 bn bm (A0k a f d)) H)):E3 94 [.agg (C1 f),.int .i64 d,.box bn 0,.box bm 0] (ovr (j9 bn bm a) H) Q:=by
 refine B2E (ops:=smOps) A8 Tryz.func94 rfl (by kernel_rfl) (D0Z (by kernel_rfl)) rfl (by kernel_rfl) (by kernel_rfl) ?_;simp only[go_sem,seval];intro j x;obtain⟨p,I⟩:=A08 x;have y:bn≠j∧bm≠j:=by
  unfold j9 at p;constructor
  ·rintro rfl;simp[g]at p
  ·rintro rfl;simp at p
 have e1:((ovr (j9 bn bm a) H).set j (.box (C1 f))) bn=some (A09 a.1):=by
  rw[A4 _ y.1,A0l (o:=A09 a.1) (by simp[j9,g])]
 have e2:((ovr (j9 bn bm a) H).set j (.box (C1 f))) bm=some (A09 a.2):=by
  rw[A4 _ y.2,A0l (o:=A09 a.2) (by simp[j9])]
 have m:(ovr (j9 bn bm a) H).Le ((ovr (j9 bn bm a) H).set j (.box (C1 f))):=A0 x;generalize (ovr (j9 bn bm a) H).set j (.box (C1 f))=Bs at e1 e2 m⊢;have e: ∀i,(Array.replicate smOps.size false).getD i false=false:=fun i=>by simp[Array.getElem?_replicate];split<;>simp
 refine B7L g a d Bs _ (fun F J A z C=>?_) _ _ _ _ ?_ ?_
 rotate_left
 ·exact⟨by rfl,rfl,rfl,rfl,fun q=>(by rw[e]at q;cases q),fun q=>(by rw[e]at q;cases q),fun q=>(by rw[e]at q;cases q),fun q=>(by rw[e]at q;cases q),fun q=>(by rw[e]at q;cases q),by rw[e1,e];rfl,by rw[e2,e];rfl,fun _ _ _=>rfl,fun q=>(by rw[e]at q;cases q),fun q=>(by rw[e]at q;cases q)⟩
 ·show ((Array.replicate 7 false).toList.filter (!·)).length≤7;decide
 have G:(if a.2<d then d else a.2)=(A0k a f d).2:=by unfold A0k;simp only[Int.max_def];split<;>split<;>omega
 rw[G]at z;refine D10 ((B9r a (A0k a f d) H Bs m).trans fun k o hk=>?_) h;by_cases r:k=bm
 ·subst r;rw[A3]at hk;rw[z];exact hk
 ·rw[A4 _ r]at hk;by_cases u:k=bn
  ·subst u;rw[A3]at hk;rw[A];exact hk
  ·rw[A4 _ u]at hk;rw[C k u r];exact hk
theorem B7N{bn bm:Nat}(g:bn≠bm):Vis Tryz.prog (Int×Int) 94 [.box bn 0,.box bm 0] (j9 bn bm) A0k (fun _=>True) (fun _=>True) where
 dom a a' i h:=by
  unfold j9 at h⊢;by_cases e:i=bm
  ·simp[e]at h
  ·by_cases e2:i=bn
   ·simp[e2,g]at h
   ·simp[e,e2]
 inv _ _ _ _:=trivial
 base _ _ _ _ _:=trivial
 call a f d H Q _ _ fa h:=B7M g a f d H Q h
theorem B9t{Q}(f:Fm)(I:FmFit f)(H:Heap)(h:Q (.bool (X3 f)) H):E3 52 [.agg (C1 f)] H Q:=by
 refine A9 [] A8 Tryz.func52 rfl ?_;simp only[go_sem,seval,Tryz.results52];intro y h1;repeat' (first|simp only[go_sem,seval]|simp(disch:=first|omega|grind) only[B4]|(intro d;try simp only[A6]at d))
 rename_i i J j;have z:=d;clear d;have m:i≠j:=fun e=>z.1 e.symm;refine Eq.mpr (congrArg (fun G=>ACalls _ _ _ G _) (C9G i j 0 0 (((H.set y (.box (C1 f))).set i (.box [.int .i64 0])).set j (.box [.int .i64 0])))) ?_;refine B2Q (B7N m) f I 1 (0,0) trivial _ trivial ?_;generalize u:((H.set y (.box (C1 f))).set i (.box [.int .i64 0])).set j (.box [.int .i64 0])=q;have e3:ovr (j9 i j (foldF A0k f 1 (0,0))) q i=some (.box [.int .i64 (foldF A0k f 1 (0,0)).1]):=A0l (o:=A09 _) (by simp[j9,m]);have x:ovr (j9 i j (foldF A0k f 1 (0,0))) q j=some (.box [.int .i64 (foldF A0k f 1 (0,0)).2]):=A0l (o:=A09 _) (by simp[j9]);have p:H.Le (ovr (j9 i j (foldF A0k f 1 (0,0))) q):=fun k o hk=>by
  have A:k≠i:=fun g=>by subst g;rw[J.2]at hk;cases hk
  have C:k≠j:=fun g=>by subst g;rw[z.2.2]at hk;cases hk
  rw[A2a (by simp[j9,A,C])];rw[←u,A4 _ C,A4 _ A];exact A0 h1 _ _ hk
 generalize ovr (j9 i j (foldF A0k f 1 (0,0))) q=Bs at e3 x p⊢;unfold X3 at h;generalize foldF A0k f 1 (0,0)=r at e3 x h;repeat' (first|with_reducible apply D0Y|simp only[go_sem,seval,e3,x]|(intro d;try simp only[A6]at d))
 all_goals (refine D10 p ?_;simp_all)
theorem B7O{e:Nat}(a:Bool)(f:Fm)(m:FmFit f)(d:Int)(H:Heap)(Q:D→Heap→Prop)(h:Q (.tuple []) (ovr (s8 e (A8r E4 a f d)) H)):E3 54 [.agg (C1 f),.int .i64 d,.box e 0] (ovr (s8 e a) H) Q:=by
 refine A9 [] A8 Tryz.func54 rfl ?_;simp only[go_sem,seval,Tryz.results54];intro i j;obtain⟨p,q⟩:=A08 j;have n3:e≠i:=by
  rintro rfl;simp[s8]at p
 have e1:((ovr (s8 e a) H).set i (.box (C1 f))) e=some (.box [.bool a]):=by
  rw[A4 _ n3,A0l (o:=B7I a) (by simp[s8])];rfl
 have e3:((ovr (s8 e a) H).set i (.box (C1 f))) i=some (.box (C1 f)):=A3 _ _;have g:(ovr (s8 e a) H).Le ((ovr (s8 e a) H).set i (.box (C1 f))):=A0 j;generalize (ovr (s8 e a) H).set i (.box (C1 f))=Bs at e1 e3 g⊢;cases a with
 |false=>
  repeat' simp only[go_sem,seval,e1,e3]
  exact D10 (B3f false (A8r E4 false f d) H Bs g) h
 |true=>
  repeat' (first|simp only[go_sem,seval,e1,e3]|with_reducible refine C9F f m _ ?_)
  exact D10 (B3f true (A8r E4 true f d) H Bs g) h
theorem B7P(g:Nat):Vis Tryz.prog Bool 54 [.box g 0] (s8 g) (A8r E4) (fun _=>True) (fun _=>True) where
 dom a a' i h:=by
  unfold s8 at h⊢;by_cases e:i=g
  ·simp[e]at h
  ·simp[e]
 inv _ _ _ _:=trivial
 base _ _ _ _ _:=trivial
 call a f d H Q _ _ fa h:=B7O a f fa d H Q h
end Go.Proofs.YtibphjonmikciaaGreatDoor
namespace Go.Av
theorem A45{Q:D→Heap→Prop}{H:Heap}{b:Nat}{kvs:List (D×D)}(hb:H b=some (.map kvs))(h:Fin Q (.fm kvs) (H.del b)):Fin Q (.map b) H:=by
 unfold Fin at h⊢;obtain⟨d,d1,h1,e⟩:=h;exact⟨d,d1,Shift.trans (fun w v hr hs=>⟨B3N hs hb (E9 H b) (H8 (by simp[Heap.del])) hr,hs.less (E9 H b),fun k hn=>(E9 H b).held hn⟩) h1,e⟩
theorem A3z{Q:D→Heap→Prop}{H:Heap}{b:Nat}{kvs:List (D×D)}{ds ds':List D}(hb:H b=some (.map kvs))(hl:ds.length=ds'.length)
  (m: ∀(i:Nat) d d',ds[i]? =some d→ds'[i]? =some d'→d'=d∨(d= .map b∧d'= .fm kvs)) (h:Fin Q (.tuple ds') (H.del b)):Fin Q (.tuple ds) H:=by
 unfold Fin at h⊢;obtain⟨o,d1,h1,p⟩:=h;refine⟨o,d1,Shift.trans (fun w v hr hs=>⟨?_,hs.less (E9 H b),fun k hn=>(E9 H b).held hn⟩) h1,p⟩;obtain⟨vs,rfl,q,e⟩:=hr.tuple_inv;refine .tuple _ _ (by omega) fun i d' g=>?_;obtain⟨d,j⟩:=G2 hl g;rcases m i d d' j g with rfl|⟨rfl,rfl⟩
 ·exact(e i d' j).less (E9 H b)
 ·exact B3N hs hb (E9 H b) (H8 (by simp[Heap.del])) (e i _ j)
theorem A9J{Q:D→Heap→Prop}{H:Heap}{b c:Nat}{kvs g:List (D×D)}{ds:List D}(hb:H b=some (.map kvs))(hc:H c=some (.map g))(j:c≠b)(h:Fin Q (.tuple (.fm kvs:: .fm g::ds)) ((H.del b).del c)):Fin Q (.tuple (.map b:: .map c::ds)) H:=by
 refine A3z (ds':=.fm kvs:: .map c::ds) hb rfl (fun i d d' h1 e=>?_) (A3z (b:=c) (kvs:=g) (ds':=.fm kvs:: .fm g::ds) (by simp[Heap.del,j,hc]) rfl (fun i d d' h1 e=>?_) h)
 ·match i with
  |0=>cases h1;cases e;exact .inr ⟨rfl,rfl⟩
  |i+1=>simp only[D04]at h1 e;rw[h1]at e;cases e;exact .inl rfl
 ·match i with
  |0=>cases h1;cases e;exact .inl rfl
  |1=>cases h1;cases e;exact .inr ⟨rfl,rfl⟩
  |i+2=>simp only[D04]at h1 e;rw[h1]at e;cases e;exact .inl rfl
end Go.Av
namespace Go.Proofs.YtibphjonmikciaaGreatDoor
open Go Go.Av Go.Lexs Go.Lin Go.Fo
attribute [local irreducible] ACalls S9
theorem B7Q{bi bb mi mb:Nat}(F:B9s bi bb mi mb)(a:List ByteArray×List ByteArray)(W:a.1.Nodup)(a0:a.2.Nodup)(f:Fm)(fa:FmFit f)(d:Int)(H:Heap)(Q:D→Heap→Prop)(h:Q (.tuple []) (ovr (Q6 bi bb mi mb (A5F a f d)) H)):
  E3 86 [.agg (C1 f),.int .i64 d,.box bb 0,.box bi 0] (ovr (Q6 bi bb mi mb a) H) Q:=by
 refine A9 [] A8 Tryz.func86 rfl ?_;simp only[go_sem,seval,Tryz.results86];have a5:=fa.lin.len;intro p A;obtain⟨s4,g4⟩:=A08 A;obtain⟨G,U,q3,q4⟩:=B0x F a H;have V:mi≠p∧mb≠p∧bi≠p∧bb≠p:=by
  refine⟨fun e=>?_,fun e=>?_,fun e=>?_,fun e=>?_⟩
  ·rw[←e,G]at A;cases A
  ·rw[←e,U]at A;cases A
  ·rw[←e,q3]at A;cases A
  ·rw[←e,q4]at A;cases A
 have e1:((ovr (Q6 bi bb mi mb a) H).set p (.box (C1 f))) mi=some (.map (D1 tt a.1)):=by rw[A4 _ V.1];exact G
 have e2:((ovr (Q6 bi bb mi mb a) H).set p (.box (C1 f))) mb=some (.map (D1 tt a.2)):=by rw[A4 _ V.2.1];exact U
 have e3:((ovr (Q6 bi bb mi mb a) H).set p (.box (C1 f))) bi=some (.box [.map mi]):=by rw[A4 _ V.2.2.1];exact q3
 have X:((ovr (Q6 bi bb mi mb a) H).set p (.box (C1 f))) bb=some (.box [.map mb]):=by rw[A4 _ V.2.2.2];exact q4
 have e5:((ovr (Q6 bi bb mi mb a) H).set p (.box (C1 f))) p=some (.box (C1 f)):=A3 _ _;have hH: ∀k o,Q6 bi bb mi mb a k=none→H k=some o→((ovr (Q6 bi bb mi mb a) H).set p (.box (C1 f))) k=some o:=fun k o g k2=>A0 A _ _ (by rw[A2a g];exact k2);generalize (ovr (Q6 bi bb mi mb a) H).set p (.box (C1 f))=Bs at e1 e2 e3 X e5 hH⊢;have f1:=F.a;have f2:=F.b;have f3:=F.c;have f4:=F.d;have f5:=F.e;have f6:=F.f;have I: ∀k,Q6 bi bb mi mb a k=none→k≠mi∧k≠mb∧k≠bi∧k≠bb:=fun k hk=>by
  refine⟨fun e=>?_,fun e=>?_,fun e=>?_,fun e=>?_⟩<;>(subst e;simp[Q6,f1,f2,f3,f4,f5,f6,f1.symm,f6.symm]at hk)
 have n1:p≠mb:=fun e=>V.2.1 e.symm;have n2:p≠mi:=fun e=>V.1 e.symm;by_cases o3:f.op=3
 ·repeat' (first|with_reducible apply D0Y|simp only[go_sem,seval,e1,e2,e3,X,e5,o3,Z1 _ _ _ _ a0,A26]|simp(disch:=first|omega|grind) only[B4])
  have c1:(Bs.set mb (.map (D1 tt (I4 a.2 f.s)))) mi=some (.map (D1 tt a.1)):=by rw[A4 _ f1];exact e1
  have J:(Bs.set mb (.map (D1 tt (I4 a.2 f.s)))) mb=some (.map (D1 tt (I4 a.2 f.s))):=A3 _ _;have Y:(Bs.set mb (.map (D1 tt (I4 a.2 f.s)))) bi=some (.box [.map mi]):=by rw[A4 _ f3];exact e3
  have c4:(Bs.set mb (.map (D1 tt (I4 a.2 f.s)))) bb=some (.box [.map mb]):=by rw[A4 _ f5];exact X
  have c5:(Bs.set mb (.map (D1 tt (I4 a.2 f.s)))) p=some (.box (C1 f)):=by rw[A4 _ n1];exact e5
  have cH: ∀k o,Q6 bi bb mi mb a k=none→H k=some o→(Bs.set mb (.map (D1 tt (I4 a.2 f.s)))) k=some o:=fun k o g k2=>by
   rw[A4 _ (I k g).2.1];exact hH k o g k2
  generalize Bs.set mb (.map (D1 tt (I4 a.2 f.s)))=Cs at c1 J Y c4 c5 cH⊢;have eS:(A5F a f d).2=I4 a.2 f.s:=by unfold A5F;rw[if_pos o3]
  rw[←eS]at J;refine C9 [3,16,17] (fun(j:Nat)=>[(18,.int .i64 j)]) (fun(j:Nat)=>Cs.set mi (.map (D1 tt (((f.l.t.take j).map (·.v)).foldl I4 a.1)))) (fun(j:Nat)=>j≤f.l.t.length) (fun(j:Nat)=>f.l.t.length-j) (0) (D0t _) (by(try simp only[go_sem,seval])<;>(try simp(disch:=omega) [A5])) (by first|exact D1z _|exact A0 (by assumption)|exact B3 (by assumption)|simp only[Heap.Le,Heap.set,Heap.del]at* <;>grind) ?_;rintro Ec rfl j hj;have q:(Cs.set mi (.map (D1 tt (((f.l.t.take j).map (·.v)).foldl I4 a.1)))) bi=some (.box [.map mi]):=by rw[A4 _ f2];exact Y
  have g:(Cs.set mi (.map (D1 tt (((f.l.t.take j).map (·.v)).foldl I4 a.1)))) mi=some (.map (D1 tt (((f.l.t.take j).map (·.v)).foldl I4 a.1))):=A3 _ _;by_cases r:j<f.l.t.length
  ·have u:decide ((j:Int)<f.l.t.length)=true:=D0a (by omega);have L:(j:Int)<f.l.t.length:=by omega
   have x:(((f.l.t.take j).map (·.v)).foldl I4 a.1).Nodup:=U2 _ _ W;have z:((f.l.t.take (j+1)).map (·.v)).foldl I4 a.1=I4 (((f.l.t.take j).map (·.v)).foldl I4 a.1) f.l.t[j].v:=by
    rw[D0r r,D1Y,D1Q];rfl
   generalize hM:((f.l.t.take j).map (·.v)).foldl I4 a.1=M at x z g q⊢;generalize i:Cs.set mi (.map (D1 tt M))=Ds at g q⊢;repeat' (first|with_reducible apply D0Y|simp only[go_sem,seval,u,L,B2 _ _ r,C2 _ _ r,g,q,Z1 _ _ _ _ x,A26]|simp(disch:=omega) only[A5,B2,C3]|simp(disch:=first|omega|grind) only[B4]|intro m|omega)
   rename_i O;have y:=m;clear m;have n7:mi≠O:=fun e=>by rw[←e,g]at y;cases y
   have T:bi≠O:=fun e=>by rw[←e,q]at y;cases y
   repeat' (first|with_reducible apply D0Y|simp only[go_sem,seval,g,q,Z1 _ _ _ _ x,A26,A4 _ n7,A4 _ T]|simp(disch:=omega) only[A5,B2,C3]|simp(disch:=first|omega|grind) only[B4]|intro m|omega)
   refine C4 (j+1) (by omega) (by omega) (by(try simp only[go_sem,seval])<;>(try simp(disch:=omega) [A5])) ?_;rw[z,←i];rw[←i]at y;intro k o hk;by_cases C:k=mi
   ·subst C;rw[A3]at hk⊢;exact hk
   ·rw[A4 _ C]at hk⊢;have g2:k≠O:=fun e=>by subst e;rw[A4 _ C,hk]at y;cases y
    rw[A4 _ g2,A4 _ C];exact hk
  ·have u:decide ((j:Int)<f.l.t.length)=false:=D0b (by omega);rw[D0n (by omega)]at g q⊢;repeat' simp only[go_sem,seval,u]
   refine D10 (B0y a (A5F a f d) H _ g (by rw[A4 _ f1.symm];exact J) q (by rw[A4 _ f4];exact c4) (fun k o G U=>by rw[A4 _ (I k G).1];exact cH k o G U)) h
 ·have a4:decide (f.op=3)=false:=D0b o3;repeat' (first|with_reducible apply D0Y|simp only[go_sem,seval,e1,e2,e3,X,e5,a4]|intro m|omega)
  have c1:=e1;have J:=e2;have Y:=e3;have c4:=X;have c5:=e5;have cH:=hH;generalize Bs=Cs at c1 J Y c4 c5 cH⊢;have eS:(A5F a f d).2=a.2:=by unfold A5F;rw[if_neg o3]
  rw[←eS]at J;refine C9 [3,16,17] (fun(j:Nat)=>[(18,.int .i64 j)]) (fun(j:Nat)=>Cs.set mi (.map (D1 tt (((f.l.t.take j).map (·.v)).foldl I4 a.1)))) (fun(j:Nat)=>j≤f.l.t.length) (fun(j:Nat)=>f.l.t.length-j) (0) (D0t _) (by(try simp only[go_sem,seval])<;>(try simp(disch:=omega) [A5])) (by first|exact D1z _|exact A0 (by assumption)|exact B3 (by assumption)|simp only[Heap.Le,Heap.set,Heap.del]at* <;>grind) ?_;rintro Ec rfl j hj;have q:(Cs.set mi (.map (D1 tt (((f.l.t.take j).map (·.v)).foldl I4 a.1)))) bi=some (.box [.map mi]):=by rw[A4 _ f2];exact Y
  have g:(Cs.set mi (.map (D1 tt (((f.l.t.take j).map (·.v)).foldl I4 a.1)))) mi=some (.map (D1 tt (((f.l.t.take j).map (·.v)).foldl I4 a.1))):=A3 _ _;by_cases r:j<f.l.t.length
  ·have u:decide ((j:Int)<f.l.t.length)=true:=D0a (by omega);have L:(j:Int)<f.l.t.length:=by omega
   have x:(((f.l.t.take j).map (·.v)).foldl I4 a.1).Nodup:=U2 _ _ W;have z:((f.l.t.take (j+1)).map (·.v)).foldl I4 a.1=I4 (((f.l.t.take j).map (·.v)).foldl I4 a.1) f.l.t[j].v:=by
    rw[D0r r,D1Y,D1Q];rfl
   generalize hM:((f.l.t.take j).map (·.v)).foldl I4 a.1=M at x z g q⊢;generalize i:Cs.set mi (.map (D1 tt M))=Ds at g q⊢;repeat' (first|with_reducible apply D0Y|simp only[go_sem,seval,u,L,B2 _ _ r,C2 _ _ r,g,q,Z1 _ _ _ _ x,A26]|simp(disch:=omega) only[A5,B2,C3]|simp(disch:=first|omega|grind) only[B4]|intro m|omega)
   rename_i O;have y:=m;clear m;have n7:mi≠O:=fun e=>by rw[←e,g]at y;cases y
   have T:bi≠O:=fun e=>by rw[←e,q]at y;cases y
   repeat' (first|with_reducible apply D0Y|simp only[go_sem,seval,g,q,Z1 _ _ _ _ x,A26,A4 _ n7,A4 _ T]|simp(disch:=omega) only[A5,B2,C3]|simp(disch:=first|omega|grind) only[B4]|intro m|omega)
   refine C4 (j+1) (by omega) (by omega) (by(try simp only[go_sem,seval])<;>(try simp(disch:=omega) [A5])) ?_;rw[z,←i];rw[←i]at y;intro k o hk;by_cases C:k=mi
   ·subst C;rw[A3]at hk⊢;exact hk
   ·rw[A4 _ C]at hk⊢;have g2:k≠O:=fun e=>by subst e;rw[A4 _ C,hk]at y;cases y
    rw[A4 _ g2,A4 _ C];exact hk
  ·have u:decide ((j:Int)<f.l.t.length)=false:=D0b (by omega);rw[D0n (by omega)]at g q⊢;repeat' simp only[go_sem,seval,u]
   refine D10 (B0y a (A5F a f d) H _ g (by rw[A4 _ f1.symm];exact J) q (by rw[A4 _ f4];exact c4) (fun k o G U=>by rw[A4 _ (I k G).1];exact cH k o G U)) h
theorem B7R{bi bb mi mb:Nat}(F:B9s bi bb mi mb):Vis Tryz.prog (List ByteArray×List ByteArray) 86 [.box bb 0,.box bi 0] (Q6 bi bb mi mb) A5F (fun a=>a.1.Nodup∧a.2.Nodup) (fun _=>True) where
 dom a a' i h:=B7J a a' i h
 inv a f d h:=by
  refine⟨U2 _ _ h.1,?_⟩;unfold A5F;simp only[];split
  ·exact A25 h.2
  ·exact h.2
 base _ _ _ _ _:=trivial
 call a f d H Q hI _ fa h:=B7Q F a hI.1 hI.2 f fa d H Q h
theorem B7S{H:Heap}{b:Nat}{o:Av.Obj}(h:H b=some o):H.set b o=H:=by
 funext k
 unfold Av.Heap.set;by_cases e:k=b
 ·subst e;rw[if_pos rfl,h]
 ·rw[if_neg e]
theorem B7T{S H:Heap}(h: ∀k o,S k=some o→H k=some o):ovr S H=H:=by
 funext k
 unfold ovr;cases g:S k with
 |none=>rfl
 |some o=>exact(h k o g).symm
theorem A81{Q}(l:List Fm)(fl: ∀f∈l,FmFit f)(hlen:l.length≤1466015503658)(H:Heap)(h:Q (.tuple [.fm (D1 tt (J5 (D5.intsL l))),.fm (D1 tt (J5 (C7.boolsL l)))]) H):E3 45 [.sl 7 (Rw C1 l)] H Q:=by
 refine A9 [(7,.ord [0,1,2,3])] A8 Tryz.func45 rfl ?_;simp only[go_sem,seval,Tryz.results45];repeat' (first|simp only[go_sem,seval]|simp(disch:=first|omega|grind) only[B4,D4]|(intro x;try simp only[A6]at x))
 rename_i j h2 m h3 q h6 u;have h7:=x;clear x;obtain⟨F,e1,e2,e3,e4,G⟩:B9s j m q u∧((((((H.set j (.box [.nilmap])).set m (.box [.nilmap])).set q (.map [])).set u (.map [])).set j (.box [.map q])).set m (.box [.map u])) q=some (.map [])∧((((((H.set j (.box [.nilmap])).set m (.box [.nilmap])).set q (.map [])).set u (.map [])).set j (.box [.map q])).set m (.box [.map u])) u=some (.map [])∧((((((H.set j (.box [.nilmap])).set m (.box [.nilmap])).set q (.map [])).set u (.map [])).set j (.box [.map q])).set m (.box [.map u])) j=some (.box [.map q])∧((((((H.set j (.box [.nilmap])).set m (.box [.nilmap])).set q (.map [])).set u (.map [])).set j (.box [.map q])).set m (.box [.map u])) m=some (.box [.map u])∧H.Le ((((((H.set j (.box [.nilmap])).set m (.box [.nilmap])).set q (.map [])).set u (.map [])).set j (.box [.map q])).set m (.box [.map u])):=by
  obtain⟨I,W⟩:=h3;obtain⟨J,L,X⟩:=h6;obtain⟨M,O,T,Y⟩:=h7;refine⟨⟨M.symm,L.symm,T.symm,J.symm,O.symm,I.symm⟩,?_,?_,?_,?_,fun k o hk=>?_⟩
  ·simp[Av.Heap.set,J,L,M.symm]
  ·simp[Av.Heap.set,O,T]
  ·simp[Av.Heap.set,I.symm]
  ·simp[Av.Heap.set]
  ·have k1:k≠j:=fun e=>by rw[e,h2]at hk;cases hk
   have k2:k≠m:=fun e=>by rw[e,W]at hk;cases hk
   have U:k≠q:=fun e=>by rw[e,X]at hk;cases hk
   have V:k≠u:=fun e=>by rw[e,Y]at hk;cases hk
   simp[Av.Heap.set,k1,k2,U,V,hk]
 generalize ((((((H.set j (.box [.nilmap])).set m (.box [.nilmap])).set q (.map [])).set u (.map [])).set j (.box [.map q])).set m (.box [.map u]))=C at e1 e2 e3 e4 G⊢;have eG:ovr (Q6 j m q u ([],[])) C=C:=B7T fun k o hk=>by
  unfold Q6 at hk;split at hk
  ·rename_i g;rw[g,e1];exact hk
  ·split at hk
   ·rename_i g;rw[g,e2];exact hk
   ·split at hk
    ·rename_i g;rw[g,e3];exact hk
    ·split at hk
     ·rename_i g;rw[g,e4];exact hk
     ·cases hk
 rw[←eG];have a0: ∀p,H.Le ((ovr (Q6 j m q u p) C).del q |>.del u):=fun p k o hk=>by
  have k1:k≠j:=fun e=>by rw[e,h2]at hk;cases hk
  have k2:k≠m:=fun e=>by rw[e,h3.2]at hk;cases hk
  have U:k≠q:=fun e=>by rw[e,h6.2.2]at hk;cases hk
  have V:k≠u:=fun e=>by rw[e,h7.2.2.2]at hk;cases hk
  rw[D4 V,D4 U,A2a (by simp[Q6,k1,k2,U,V])];exact G _ _ hk
 refine C9 [2,3,8,9] (fun(p:Nat×(List ByteArray×List ByteArray))=>[(10,.int .i64 p.1)]) (fun(p:Nat×(List ByteArray×List ByteArray))=>ovr (Q6 j m q u p.2) C) (fun(p:Nat×(List ByteArray×List ByteArray))=>p.1≤l.length∧p.2=(J5 (D5.intsL (l.take p.1)),J5 (C7.boolsL (l.take p.1)))) (fun(p:Nat×(List ByteArray×List ByteArray))=>l.length-p.1) ((0,([],[]))) (⟨D0t _,rfl⟩) (by(try simp only[go_sem,seval])<;>(try simp(disch:=omega) [A5])) (by first|exact D1z _|exact A0 (by assumption)|exact B3 (by assumption)|simp only[Heap.Le,Heap.set,Heap.del]at* <;>grind) ?_;rintro Ec rfl ⟨i,r⟩ ⟨hi,hr⟩;simp only at hi hr;by_cases y:i<l.length
 ·have A:decide ((i:Int)<l.length)=true:=D0a (by omega);have a4:(i:Int)<l.length:=by omega
  have hm:=D0m y;repeat' (first|with_reducible apply D0Y|simp only[go_sem,seval,A,a4,B2 _ _ y,C2 _ _ y]|(intro x;try simp only[A6]at x)|omega)
  rename_i b5;have h5:=x;clear x;obtain⟨s5,g5⟩:=A08 h5;rw[A80 s5];refine B2Q (B7R F) l[i] (fl _ hm) 1 r ⟨by rw[hr];exact A1V _,by rw[hr];exact A1V _⟩ _ trivial ?_;rw[B6p];repeat' (first|simp only[go_sem,seval]|simp(disch:=omega) only[A5,B2,C3,A0H,Z3])
  refine C4 (i+1,_) ⟨by simp only[];omega,?_⟩ (by simp only[];omega) (by(try simp only[go_sem,seval])<;>(try simp(disch:=omega) [A5])) (B2P (A0 g5));show (List.foldl I4 r.1 _,List.foldl I4 r.2 _)=_;rw[hr,A0H _ _ y,Z3 _ _ y];unfold J5;rw[D1Q,D1Q]
 ·have A:decide ((i:Int)<l.length)=false:=D0b (by omega);rw[D0n (by omega)]at hr;obtain⟨q1,q2,q3,q4⟩:=B0x F r C;have z:=a0 r;have qn:j≠m:=F.f;have f2:=F.b;have f3:=F.c;have f4:=F.d;have f5:=F.e;generalize ovr (Q6 j m q u r) C=Bs at q1 q2 q3 q4 z⊢;have m2:j∈[j,m]:=by simp
  have m3:m∈[j,m]:=by simp
  repeat' simp only[go_sem,seval,A]
  refine C2R [j,m] ?_;have s2:Bs.set j (.box [.map q])=Bs:=B7S q3;have s3:Bs.set m (.box [.map u])=Bs:=B7S q4;repeat' (first|with_reducible apply D0Y|simp only[go_sem,seval,q3,q4,m2,m3,s2,s3]|(intro x;try simp only[A6]at x))
  all_goals first
   |(subst x;assumption)
   |skip
  rw[hr]at q1 q2;exact A9J q1 q2 F.a.symm (D10 z h)
theorem B2T{Q}(ks ms:List ByteArray)(H:Heap)(h:Q (.bool (meetL ks ms)) H):E3 56 [.fm (D1 tt ks),.fm (D1 tt ms)] H Q:=by
 refine A9 [] A8 Tryz.func56 rfl ?_;simp only[go_sem,seval,Tryz.results56];have e:(D1 tt ks).length=ks.length:=by simp[D1]
 repeat' intro o
 rename_i m;have C:=o;clear o;refine C9 [1,7] (fun(s:List Nat)=>[]) (fun(s:List Nat)=>H.set m (.rng (D1 tt ks) s)) (fun(s:List Nat)=>∀(i:Nat) (d:i<ks.length),i∈s→ks[i]∉ms) (fun(s:List Nat)=>A6b ks.length s) ([]) (fun _ _ h=>absurd h D01) (by simp only[go_sem,seval]) (by first|exact D1z _|exact A0 (by assumption)|exact B3 (by assumption)|simp only[Heap.Le,Heap.set,Heap.del]at* <;>grind) ?_;rintro J rfl s hs;have G:(H.set m (.rng (D1 tt ks) s)) m=some (.rng (D1 tt ks) s):=A3 _ _;have u:H.Le (H.set m (.rng (D1 tt ks) s)):=A0 C;repeat' simp only[go_sem,seval,G]
 refine A8U (fun i d hn=>?_) (fun p=>?_)
 ·rw[e]at d;have z:((H.set m (.rng (D1 tt ks) s)).set m (.rng (D1 tt ks) (s++[i]))) m=some (.rng (D1 tt ks) (s++[i])):=A3 _ _;have A:(D1 tt ks)[i]? =some (.str ks[i],.bool true):=by simp[D1,d]
  have r:(D1 tt ks)[i]'(by rw[e];exact d)=(.str ks[i],.bool true):=by simp[D1]
  by_cases g:ks[i]∈ms
  ·have hm:meetL ks ms=true:=(A04 _ _).2 ⟨_,D0m d,g⟩;rw[hm]at h;repeat' simp only[go_sem,seval,z,A,r,List.getLast?_concat,A2W,if_pos g]
   exact D10 (by simp only[D9,D2,D3]at* <;>grind) h
  ·repeat' simp only[go_sem,seval,z,A,r,List.getLast?_concat,A2W,if_neg g]
   refine C4 (s++[i]) (fun j I hm=>?_) (A18 d hn) (by simp only[go_sem,seval]) ?_
   ·rcases D0y.1 hm with q|q
    ·exact hs j I q
    ·rw[D0z]at q;subst q;exact g
   ·exact(by simp only[D9,D2,D3]at* <;>grind)
 ·have hm:meetL ks ms=false:=by
   rw[←D1u,A04];rintro⟨x,hx,y⟩;obtain⟨i,d,rfl⟩:=List.getElem_of_mem hx;exact hs i d (p i (by rw[e];exact d)) y
  rw[hm]at h;repeat' simp only[go_sem,seval]
  exact D10 u h
end Go.Proofs.YtibphjonmikciaaGreatDoor
namespace Go.Proofs.YtibphjonmikciaaGreatDoor
open Go Go.Av Go.RowKit Go.Maps Go.Sort Go.Shelf Go.Lexs Go.WideElems Go.Lin
theorem A82{Q}(kvs:List (D×D))(H:Heap)(h: ∀bk,H bk=none→Q (.fn (.func 89) [] [.box bk 0]) (H.set bk (.box [.fm kvs]))):E3 47 [.fm kvs] H Q:=by
 refine⟨by kernel_rfl,fun w vs hl hr hs=>?_⟩;obtain⟨a,rfl,m⟩:=A14 hl hr;obtain⟨b,o⟩: ∃b,a= .map (some b):=by cases m;exact⟨_,rfl⟩
 subst o;refine(callsIn_wide.1 (A0c (some b) w)).mono ?_;rintro e w' ⟨rfl,rfl⟩;have hp:=A3I (K:=fun d H'=>∃bk,d= .box bk 0∧H bk=none∧H'=H.set bk (.box [.fm kvs])) hs (cs:=[.fm kvs]) (vs:= #[.map (some b)]) 72 (Z:=none) (by simp) ⟨rfl,fun i d g=>(match i,g with|0,g=>by cases g;rfl|i+1,g=>by cases g),fun i d g=>(match i,g with|0,g=>by cases g;exact m|i+1,g=>by cases g)⟩ (fun bk j=>⟨bk,rfl,j,rfl⟩);obtain⟨d,x,p,q,r,u,bk,rfl,j,rfl⟩:=hp;refine⟨_,rfl,.fn (.func 89) [] [.box bk 0],_,?_,q,r,u,h bk j⟩;refine .fn _ [] [.box bk 0] #[] #[_] rfl rfl (by simp) fun i d g=>?_
 match i with
 |0=>cases g;exact p
 |i+1=>cases g
theorem A83{Q}(bk:Nat)(f:ByteArray→D)(ks:List ByteArray)(hlen:ks.length≤1000000000)(hsz: ∀s∈ks,s.size≤4611686018427387904)(H:Heap)(h1:H bk=some (.box [.fm (D1 f ks)]))
  (h: ∀l:List ByteArray,l.Pairwise (fun x y=>V8 x y=true)→(∀s,s∈l↔s∈ks)→Q (.sl 1 (Rw K2 l)) H):E3 46 [.fn (.func 89) [] [.box bk 0]] H Q:=by
 refine⟨by kernel_rfl,fun w vs hl hr hs=>?_⟩;obtain⟨a,rfl,ha⟩:=A14 hl hr;have ea:a= .func (.func 89) #[] #[.pointer (some ⟨bk,0,none⟩)]:=by
  cases ha with
  |fn _ _ _ a6 a9 b0 b1 q1 q2=>
   have e1:a6= #[]:=Array.eq_empty_of_size_eq_zero (by simpa using b0.symm);obtain⟨l2⟩:=a9
   match l2,b1 with
   | [x],_=>
    have hx:=q2 0 _ rfl;have:x= .pointer (some ⟨bk,0,none⟩):=by
     simp at hx;cases hx;rfl
    rw[e1,this]
 subst ea;obtain⟨c,T,lo,u,c1,_,c2,c3,_⟩:=hs _ _ h1;have h0:=(c3 0 (.fm (D1 f ks)) rfl).2;obtain⟨b,es,m,hx,m1,m2,m3,m4⟩: ∃b es m,c.getD 0 undef= .map (some b)∧w.heap[b]? =some (.map es m)∧MapKept.Stamped es m∧es.size=(D1 f ks).length∧∀(i:Nat) (p:D×D),(D1 f ks)[i]? =some p→p.1.keyA=true∧R w H p.1 (es.getD i default).key∧R w H p.2 (es.getD i default).val:=by
  revert h0;generalize c.getD 0 undef=x;intro h0;cases h0 with
  |fm _ b es ck hb hn hst hl hk hr hv=>exact⟨b,es,ck,rfl,hb,hst,hl,fun i p hp=>⟨hk i p hp,hr i p hp,hv i p hp⟩⟩
 have b2:c[0]? =some (.map (some b)):=by
  have hsz:0<c.size:=by rw[c2];simp
  have e:c[0]? =some (c.getD 0 undef):=by simp[hsz]
  rw[e,hx]
 have C:w.cell? ⟨bk,0,none⟩=some (.map (some b)):=by
  unfold World.cell?;simp only[c1];exact b2
 have b3:bk<w.heap.size:=hs.lt h1;have M: ∀(i:Nat) (u:i<ks.length),(es.getD i default).key= .string ks[i]:=fun i u=>by
  have:=(m4 i (.str ks[i],f ks[i]) (by simp[D1,u])).2.1;revert this;generalize (es.getD i default).key=x;intro this;cases this;rfl
 have O:es.size=ks.length:=by rw[m3];simp[D1]
 have G:es.toList.map (·.key)=ks.map .string:=by
  apply D1t
  ·simp[O]
  ·intro i h1 h2;have u:i<ks.length:=by simpa using h2
   have:=M i u;have o:i<es.size:=by omega
   simp[o]at this;simp[this]
 have U: ∀x∈es.toList,∃s∈ks,x.key= .string s:=fun x hx=>by
  have:x.key∈es.toList.map (·.key):=D1W.2 ⟨x,hx,rfl⟩;rw[G]at this;obtain⟨s,hs,e⟩:=D1W.1 this;exact⟨s,hs,e.symm⟩
 have V:Tryz.prog.underlying 9=some .string:=by kernel_rfl
 have W: ∀x∈es.toList,∀s,s∈ks→x.key= .string s→WideElems.rd (H:=Unit) Tryz.prog 9 A1g x=some (.string s.data.toList,.lit (.bool true)):=fun x _ s hs e=>by
  unfold WideElems.rd;rw[e,WideMaps.keyOf_string_mk V (by have:=hsz s hs;unfold maxLen;omega)];rfl
 have X:w.ownsMap (H:=Unit) Tryz.prog 9 A1g b es.size (.map ((es.toList.map (rg Tryz.prog 9 A1g)).foldr DataW.insert [])):=by
  refine⟨es,m,m1,⟨by unfold maxLen;omega,m2,fun x hx=>?_⟩,D0s _,rfl⟩;obtain⟨s,hs,e⟩:=U x hx;exact⟨_,W x hx s hs e⟩
 have b4: ∀x∈es.toList,∀s,s∈ks→x.key= .string s→rg (H:=Unit) Tryz.prog 9 A1g x=(.string s.data.toList,.lit (.bool true)):=fun x hx s hs e=>rg_of (W x hx s hs e);have b6:(strKeys (H:=Unit) (.map ((es.toList.map (rg Tryz.prog 9 A1g)).foldr DataW.insert []))).Perm (ks.map B):=by
  show (((es.toList.map (rg Tryz.prog 9 A1g)).foldr DataW.insert []).map fun p=>strOf p.1).Perm _;refine((A0G _).map _).trans ?_;rw[List.map_map];have:es.toList.map ((fun p=>strOf p.1) ∘ rg (H:=Unit) Tryz.prog 9 A1g)=ks.map B:=by
   have e2:ks.map B=(es.toList.map (·.key)).map (fun v=>match v with| .string s=>B s|_=>[]):=by rw[G,List.map_map];rfl
   rw[e2,List.map_map];refine List.map_congr_left fun x hx=>?_;obtain⟨s,hs,e⟩:=U x hx;simp only[Function.comp];rw[b4 x hx s hs e,e];rfl
  rw[this]
 have b7:(ks.map B).Nodup:=by
  have:=m2.2.2;rw[G]at this;have h2:List.Pairwise (fun a b:ByteArray=>Value.string a≠Value.string b) ks:=List.pairwise_map.1 this;have L:List.Pairwise (fun a b:ByteArray=>B a≠B b) ks:=h2.imp fun {a b} h e=>h (congrArg Value.string (X9 e));exact List.pairwise_map.2 L
 have Y:=AnyZ.keys_gives (ρ :=Tryz.keys47_ren) {A2E with} Fence.wide 2 trivial rfl (by omega) bk b es.size _ w b3 C X;have a0:Maps.size (.map ((es.toList.map (rg (H:=Unit) Tryz.prog 9 A1g)).foldr DataW.insert []):DataW Unit)=ks.length:=by
  show (((es.toList.map (rg Tryz.prog 9 A1g)).foldr DataW.insert [])).length=_;rw[(A0G _).length_eq];simp[O]
 refine(callsIn_wide.1 (AnyZ.sorted_in A2o Fence.wide 5 trivial trivial trivial trivial rfl (by omega) (A30 _) (enters_of Tryz.func88 (by kernel_rfl) rfl) 89 #[.pointer (some ⟨bk,0,none⟩)] trivial (enters_of Tryz.func89 (by kernel_rfl) rfl) _ _ (by rw[a0];unfold maxLen;omega) (by rw[a0];omega) w Y)).mono ?_;rintro e w' ⟨v,q,rfl,hS,A,_,hB⟩;have hp:q.Perm (ks.map B):=hS.trans b6;have b8:q.Nodup:=hp.nodup_iff.2 b7;have b9:=B3F b8;have a4: ∀s,s∈(q.mergeSort (fun x y=>decide (x≤y))).map S↔s∈ks:=fun s=>by
  rw[D1W];constructor
  ·rintro⟨x,hx,rfl⟩;have:=hp.mem_iff.1 ((List.mergeSort_perm q _).mem_iff.1 hx);obtain⟨t,ht,rfl⟩:=D1W.1 this;rw[S_B];exact ht
  ·intro hs;refine⟨B s,(List.mergeSort_perm q _).mem_iff.2 (hp.mem_iff.2 (D1W.2 ⟨s,hs,rfl⟩)),S_B s⟩
 refine⟨v,rfl,.sl 1 (Rw K2 ((q.mergeSort (fun x y=>decide (x≤y))).map S)),H,?_,A4T hs hB,A2V hB,D15 _ _,h _ b9 a4⟩;have I:((q.mergeSort (fun x y=>decide (x≤y))).map S).length=q.length:=by simp
 generalize q.mergeSort (fun x y=>decide (x≤y))=zs at A I⊢;obtain⟨r1,r2⟩:=A;rcases r2 with⟨rfl,r3⟩|⟨g,cap,r,rfl,r3,r4,r5,r6,r7,r8⟩
 ·have:zs.map S= []:=D0w (by rw[I,r3]);rw[this];exact .sl0 _ _ _
 ·have J:(Rw K2 (zs.map S)).length=q.length:=by rw[D6,I]
  rw[←J];refine .sl 1 _ g 0 cap (fun i j=>r.getD i undef) ?_ ?_ (fun i e he=>?_) (by rw[J];exact r5) (fun i j u hj=>?_) (fun i e j d he hd=>?_) (fun i e j d he hd=>?_)
  ·by_cases a5:g<w'.heap.size
   ·exact a5
   ·rw[Array.getElem?_eq_none (Nat.le_of_not_lt a5)]at r4;cases r4
  ·exact H8 (hs.fresh r3)
  ·rw[Rw,D0v]at he;obtain⟨x,_,rfl⟩:=D0h.1 he;rfl
  ·have c0:j=0:=by omega
   subst c0;have o:i<r.size:=by rw[J]at u;rw[r7];omega
   unfold World.cell?;simp only[r4];simp[o]
  ·rw[Rw,D0v]at he;obtain⟨x,_,rfl⟩:=D0h.1 he
   match j with
   |0=>cases hd;rfl
   |j+1=>cases hd
  ·rw[Rw,D0v,D0v]at he;obtain⟨x,hx,rfl⟩:=D0h.1 he;obtain⟨z,hz,rfl⟩:=D0h.1 hx
   match j with
   |0=>
    cases hd;have u:i<zs.length:=(D0i.1 hz).1;have L:(r.toList.take (q.length*1))[i]? =some (encStr z):=by rw[r8,D0v,hz];rfl
    rw[List.getElem?_take]at L;split at L
    ·have:r[i]? =some (encStr z):=by simpa using L
     have e:r.getD i undef=encStr z:=by
      have o:=(D0x.1 this)
      obtain⟨c4,c5⟩:=o;simp[c4,c5]
     rw[e];exact .str _
    ·cases L
   |j+1=>cases hd
end Go.Proofs.YtibphjonmikciaaGreatDoor
namespace Go.Proofs.YtibphjonmikciaaGreatDoor
open Go Go.Av Go.Lexs Go.Lin Go.Fo
attribute [local irreducible] ACalls S9
theorem A3q{Q}{b n:Nat}{H0:Heap}(d:H0 b=none)(f:Fm)(e:FmFit f)(hn:n=1)(h:Q (.tuple [.fm (D1 tt (J5 (D5 f))),.fm (D1 tt (J5 (C7 f)))]) H0):E3 45 [.vec b 7 0 n] (H0.set b (.vec 7 [C1 f])) Q:=by
 subst hn;refine U4 (es:=Rw C1 [f]) (A3 _ _) rfl ?_;rw[E7 d];refine A81 [f] (fun k hk=>by rw[D0z]at hk;rw[hk];exact e) (by simp) _ ?_;have e1:D5.intsL [f]=D5 f:=by simp[D5.intsL]
 have e2:C7.boolsL [f]=C7 f:=by simp[C7.boolsL]
 rw[e1,e2];exact h
theorem R4{Q}(f:Fm)(z:FmFit f)(L:VOk f)(H:Heap)(h:Q (.bool (E6 f)) H):E3 18 [.agg (C1 f)] H Q:=by
 refine A9 [] A8 Tryz.func18 rfl ?_;simp only[go_sem,seval,Tryz.results18];rw[←B0z L]at h;intro p h1;have e1:(H.set p (.box (C1 f))) p=some (.box (C1 f)):=A3 _ _;have q:H.Le (H.set p (.box (C1 f))):=A0 h1;generalize H.set p (.box (C1 f))=Bs at e1 q⊢;repeat' (first|simp only[go_sem,seval,e1]|simp(disch:=first|omega|grind) only[B4]|intro j|with_reducible refine B9t f z _ ?_)
 rename_i i;have y:=j;clear j;have r:p≠i:=fun e=>by rw[←e,e1]at y;cases y
 have A:(Bs.set i (.box [.bool (X3 f)])) p=some (.box (C1 f)):=by rw[A4 _ r];exact e1
 repeat' (first|with_reducible apply D0Y|simp only[go_sem,seval,A]|simp(disch:=omega) only[A5,C3]|simp(disch:=first|omega|grind) only[B4]|intro j|omega)
 refine Eq.mpr (congrArg (fun X=>ACalls _ _ _ X _) (C9H i (X3 f) Bs)) ?_;refine B2Q (B7P i) f z 1 (X3 f) trivial _ trivial ?_;rw[B6o];have e3:ovr (s8 i (X3 f&&I5 E4 f)) Bs i=some (.box [.bool (X3 f&&I5 E4 f)]):=A0l (o:=B7I _) (by simp[s8]);have M:ovr (s8 i (X3 f&&I5 E4 f)) Bs p=some (.box (C1 f)):=by rw[A2a (by simp[s8,r])];exact e1
 have d:H.Le (ovr (s8 i (X3 f&&I5 E4 f)) Bs):=fun k o hk=>by
  have U:k≠i:=fun e=>by subst e;rw[q _ _ hk]at y;cases y
  rw[A2a (by simp[s8,U])];exact q _ _ hk
 generalize ovr (s8 i (X3 f&&I5 E4 f)) Bs=Cs at e3 M d⊢;cases m:X3 f&&I5 E4 f with
 |false=>
  rw[m]at h e3;simp only[Bool.false_and]at h;repeat' simp only[go_sem,seval,e3]
  exact D10 d h
 |true=>
  rw[m]at h e3;simp only[Bool.true_and]at h;have u:I5 E4 f=true:=by rw[D0l]at m;exact m.2
  have hw:J0 f≤1000000:=by
   rcases L with g|g
   ·exact g
   ·rw[u]at g;cases g
  have V:=A3k f;have k1:=A5X (D5 f);have k2:=A5X (C7 f);have O:=A3l (D5 f);have T:=A3l (C7 f);have C:(D1 tt (J5 (D5 f))).length=(ivF f).length:=by rw[show (D1 tt (J5 (D5 f))).length=(J5 (D5 f)).length by simp[D1],O];rfl
  have G:(D1 tt (J5 (C7 f))).length=(bvF f).length:=by rw[show (D1 tt (J5 (C7 f))).length=(J5 (C7 f)).length by simp[D1],T];rfl
  have W:(ivF f).length≤1000000:=by have:(J5 (D5 f)).length=(ivF f).length:=O;omega
  have Y:(bvF f).length≤1000000:=by have:(J5 (C7 f)).length=(bvF f).length:=T;omega
  have I:meetL (J5 (D5 f)) (J5 (C7 f))=meetL (ivF f) (bvF f):=A0I (fun x=>by unfold ivF;rw[G3,Q0]) (fun x=>by unfold bvF;rw[G3,Q0]);have J:decide ((ivF f).length+(bvF f).length≤12)=decide (((ivF f).length:Int)+(bvF f).length≤12):=D1B.2 (by omega);rw[J,←I]at h;generalize meetL (J5 (D5 f)) (J5 (C7 f))=mt at h I;have bc: ∀(H:Heap) (Q:D→Heap→Prop),Q (.bool mt) H→E3 56 [.fm (D1 tt (J5 (D5 f))),.fm (D1 tt (J5 (C7 f)))] H Q:=fun H Q hq=>B2T _ _ H (by rw[A0I (l':=ivF f) (m':=bvF f) (fun x=>by unfold ivF;rw[G3,Q0]) (fun x=>by unfold bvF;rw[G3,Q0]),←I];exact hq);repeat' (first|with_reducible apply D0Y|simp only[go_sem,seval,e3,M,C,G]|simp(disch:=omega) only[A5,C3]|intro j|with_reducible refine A3q (by assumption) f z rfl ?_|with_reducible refine bc _ _ ?_)
  all_goals (refine D10 d ?_;simp_all)
theorem C3r{Q}(f:Fm)(j:FmFit f)(p:VOk f)(H:Heap)(h:Q (if E6 f=true then .tuple [.sl 1 (Rw K2 (ivF f)),.sl 1 (Rw K2 (bvF f)),.int .i64 0]else .tuple [.sl 1 [],.sl 1 [],.int .i64 2]) H):E3 14 [.agg (C1 f)] H Q:=by
 refine A9 [] A8 Tryz.func14 rfl ?_;simp only[go_sem,seval,Tryz.results14];intro o h1;have e1:(H.set o (.box (C1 f))) o=some (.box (C1 f)):=A3 _ _;have e:H.Le (H.set o (.box (C1 f))):=A0 h1;generalize H.set o (.box (C1 f))=Bs at e1 e⊢;cases hv:E6 f with
 |false=>
  rw[hv]at h;simp only[D0o,if_false]at h;have q: ∀(H:Heap) (Q:D→Heap→Prop),Q (.bool false) H→E3 18 [.agg (C1 f)] H Q:=fun H Q hq=>R4 f j p H (by rw[hv];exact hq);repeat' (first|simp only[go_sem,seval,e1]|with_reducible refine q _ _ ?_)
  refine D7 (d':=.tuple [.sl 1 [],.sl 1 [],.int .i64 2]) (.tuple _ _ rfl fun i d d' h1 r=>?_) (D10 e h)
  match i with
  |0=>cases h1;cases r;exact .nil 1
  |1=>cases h1;cases r;exact .nil 1
  |2=>cases h1;cases r;exact .same _
  |i+3=>cases h1
 |true=>
  rw[hv]at h;simp only[if_true]at h;have q: ∀(H:Heap) (Q:D→Heap→Prop),Q (.bool true) H→E3 18 [.agg (C1 f)] H Q:=fun H Q hq=>R4 f j p H (by rw[hv];exact hq);repeat' (first|simp only[go_sem,seval,e1]|intro y|with_reducible refine q _ _ ?_|with_reducible refine A3q (by assumption) f j rfl ?_)
  refine A82 _ _ fun bk u=>?_;have hw:J0 f≤1000000:=by
   rcases p with g|g
   ·exact g
   ·rw[O1 hv]at g;cases g
  have z:=A3k f;have A:=A5X (D5 f);have C:=A5X (C7 f);repeat' simp only[go_sem,seval]
  refine A83 bk tt (J5 (D5 f)) (by omega) (fun s hs=>by have:=B4h j s ((G3 _ _).1 hs);omega) _ (A3 _ _) fun v hv hm=>?_;have ev:v=ivF f:=A6E hv (A8s _) fun s=>by rw[hm,G3];exact(Q0 _ _).symm
  rw[ev];repeat' simp only[go_sem,seval]
  refine A82 _ _ fun x m=>?_;repeat' simp only[go_sem,seval]
  refine A83 x tt (J5 (C7 f)) (by omega) (fun s hs=>by have:=B19 j s ((G3 _ _).1 hs);omega) _ (A3 _ _) fun v hv hm=>?_;have ev:v=bvF f:=A6E hv (A8s _) fun s=>by rw[hm,G3];exact(Q0 _ _).symm
  rw[ev];repeat' simp only[go_sem,seval]
  exact D10 ((e.trans (A0 u)).trans (A0 m)) h
end Go.Proofs.YtibphjonmikciaaGreatDoor
namespace Go.Fo
open Go Go.Av Go.Lexs Go.Lin
theorem B7U(l:LinV)(d:Int)(i:Nat)(h:i<l.t.length):Rw N7 ((shL l d).t.take (i+1))=Rw N7 ((shL l d).t.take i)++[[.str l.t[i].v,.int .i64 (d*l.t[i].c)]]:=by
 rw[M9 _ i (by unfold shL;simpa using h)]
 congr 2
 unfold shL;simp
theorem B2U{Q:D→Heap→Prop}{H Bs:Heap}{d x n:Nat}{o:Int}{es:List (List D)}(ks:List Fm)(i:es=Rw C1 ks)(hn:n=ks.length)(g:H.Le Bs)(p:H d=none){z:Av.Obj}(r:Bs d=some z)(hx:Bs x=none)(y:Av.Obj)(h:Q (.agg (C1 (.mk o 0 nilL D8 ks))) H):
  Fin Q (.agg [.int .i64 o,.int .i64 0,.nilsl,.int .i64 0,.bool false,.str ⟨#[]⟩,.vec x 7 0 n]) ((Bs.set x (.vec 7 es)).set d y):=by
 subst i;have j:x≠d:=fun e=>by rw[e,r]at hx;cases hx
 refine A8u (ob:=some x) (ks:=ks) hn (show (Heap.set _ d y) x=_ by rw[A4 _ j,A3]) (D10 (fun k q hk=>?_) h);have m:k≠x:=fun e=>by rw[←e,g _ _ hk]at hx;cases hx
 have u:k≠d:=fun e=>by rw[e,p]at hk;cases hk
 show Heap.del _ x k=_;rw[D4 m,A4 _ u,A4 _ m];exact g _ _ hk
theorem B7V: ∀(f:Fm),I5 E4 f=true→J0 f≤13*F3 f:=by
 intro f
 induction f using T7 with
 |h o n l s ks j=>
  intro d;have hk: ∀k∈ks,I5 E4 k=true:=fun k hk=>S7 (f:=.mk o n l s ks) d hk;have i:=B9q (f:=.mk o n l s ks) (by rw[A2Y,D0l]at d;exact d.1);have i:l.t.length≤12:=i;rw[J0,F3];have key: ∀m:List Fm,(∀k∈m,k∈ks)→J0.wtL m≤13*F3.nodesL m:=by
   intro m
   induction m with
   |nil=>intro _;simp[J0.wtL,F3.nodesL]
   |cons g p e=>
    intro hm;have q:=j g (hm g (D0j ..)) (hk g (hm g (D0j ..)));have r:=e fun k h=>hm k (D0q _ h);rw[J0.wtL,F3.nodesL];omega
  have:=key ks fun _ h=>h;omega
theorem B00{f:Fm}(h:E6 f=true):J0 f≤2600:=by
 have h1:=B7V f (O1 h);rw[A05]at h;simp only[D0l,D0u]at h;omega
end Go.Fo
namespace Go.Proofs.YtibphjonmikciaaGreatDoor
open Go Go.Av Go.Lexs Go.Lin Go.Fo
attribute [local irreducible] ACalls S9
theorem A4b{Q}(l:LinV)(hv:validL l=true)(g:Int)(hs:g=1∨g= -1)(H:Heap)(h:Q (.agg (E5 (shL l g))) H):E3 92 [.agg (E5 l),.int .i64 g] H Q:=by
 refine A9 [] A8 Tryz.func92 rfl ?_;simp only[go_sem,seval,Tryz.results92];have ok:=M0 hv;have b1:=ok.len;have b3:=ok.k;obtain⟨j,C⟩: ∃j,j=g*l.k:=⟨_,rfl⟩
 have b6:j.natAbs≤1099511627776:=by rcases hs with rfl|rfl<;>omega
 have L:(shL l g).k=j-1:=by rw[C];rfl
 intro q g2 m J;simp only[A6]at J;have M:q≠m:=fun e=>J.1 e.symm;obtain⟨Z,hZ⟩: ∃Z:List D,Z= [.nilsl,.int .i64 0,.bool false]:=⟨_,rfl⟩
 rw[←hZ];have e2:((H.set q (.box (E5 l))).set m (.box Z)) q=some (.box (E5 l)):=by rw[A4 _ M,A3]
 have O:((H.set q (.box (E5 l))).set m (.box Z)) m=some (.box Z):=A3 _ _;have u:H.Le ((H.set q (.box (E5 l))).set m (.box Z)):=(A0 g2).trans (A0 (by simp only[A6];exact J));generalize (H.set q (.box (E5 l))).set m (.box Z)=Bs at e2 O u⊢;repeat' (first|simp only[go_sem,seval,e2,←C]|simp(disch:=omega) only[A5,B2,C3]|simp(disch:=first|omega|grind) only[B4]|(intro d;try simp only[A6]at d))
 rename_i b5;have h5:=d;clear d;have n5:q≠b5∧m≠b5:=⟨fun e=>(by rw[←e,e2]at h5;cases h5),fun e=>(by rw[←e,O]at h5;cases h5)⟩
 have c5:(Bs.set b5 (.box [.nilsl,.int .i64 (j-1),.bool false])) b5=some (.box [.nilsl,.int .i64 (j-1),.bool false]):=A3 _ _;have c2:(Bs.set b5 (.box [.nilsl,.int .i64 (j-1),.bool false])) q=some (.box (E5 l)):=by rw[A4 _ n5.1];exact e2
 have T:(Bs.set b5 (.box [.nilsl,.int .i64 (j-1),.bool false])) m=some (.box Z):=by rw[A4 _ n5.2];exact O
 have U:H b5=none:=u.none h5;have r:H.Le (Bs.set b5 (.box [.nilsl,.int .i64 (j-1),.bool false])):=u.trans (A0 h5);generalize Bs.set b5 (.box [.nilsl,.int .i64 (j-1),.bool false])=Cs at c5 c2 T r⊢;repeat' (first|with_reducible apply D0Y|simp only[go_sem,seval,c2]|simp(disch:=omega) only[A5,B2,C3]|simp(disch:=first|omega|grind) only[B4]|(intro d;try simp only[A6]at d)|omega)
 refine C9 [1,4,5,15,16] (fun(p:Nat×Option Nat×Heap)=>[(17,.int .i64 p.1)]) (fun(p:Nat×Option Nat×Heap)=>p.2.2) (fun(p:Nat×Option Nat×Heap)=>p.1≤l.t.length∧AH 2 Cs b5 (fun x=>[x,.int .i64 (j-1),.bool false]) (Rw N7 ((shL l g).t.take p.1)) p.1 p.2.1 p.2.2) (fun(p:Nat×Option Nat×Heap)=>l.t.length-p.1) ((0,none,Cs)) (⟨D0t _,A1B c5⟩) (by(try simp only[go_sem,seval])<;>(try simp(disch:=omega) [A5])) (by first|exact D1z _|exact A0 (by assumption)|exact B3 (by assumption)|simp only[Heap.Le,Heap.set,Heap.del]at* <;>grind) ?_;rintro Ec rfl ⟨i,ob,Hp⟩ ⟨hi,A⟩;simp only at hi A;have V:(shL l g).t.length=l.t.length:=by unfold shL;simp
 by_cases o:i<l.t.length
 ·have y:decide ((i:Int)<l.t.length)=true:=D0a (by omega);have W:(i:Int)<l.t.length:=by omega
  obtain⟨z,hz⟩: ∃z,z=g*l.t[i].c:=⟨_,rfl⟩
  have b8:z.natAbs≤1048576:=by
   have:=(M7 ok.t _ (D0m o)).2.2;rcases hs with rfl|rfl<;>omega
  repeat' (first|with_reducible apply D0Y|simp only[go_sem,seval,y,W,B2 _ _ o,C2 _ _ o]|(intro d;try simp only[A6]at d)|omega)
  rename_i b7;have h7:=d;clear d;obtain⟨d1,d7,dO,dN⟩:=A.at7 h7 (.box [.str l.t[i].v,.int .i64 l.t[i].c]);repeat' (first|simp only[go_sem,seval,d1,d7,←hz]|simp(disch:=omega) only[A5,B2,C3]|(intro d;try simp only[A6]at d))
  rename_i x;have hx:=d;clear d;obtain⟨X,Y⟩:=hx;have G:(Hp.set b7 (.box [.str l.t[i].v,.int .i64 l.t[i].c])) x=none:=by rw[A4 _ X];exact Y
  have A7:=A.more h7 (.box [.str l.t[i].v,.int .i64 l.t[i].c]);obtain⟨_,_,a0,_⟩:=A7.at7 G (.vec 2 [[.str l.t[i].v,.int .i64 z]]);refine A8Y (Rw N7 ((shL l g).t.take i)) (by simp) (by rw[N0 _ _ (by omega)]) a0 (by simp only[D0d,D0f];omega) (by simp only[D0d,D0f];omega) fun b' a4=>?_;obtain⟨b0,a5,A'⟩:=A7.step G _ a4 [.str l.t[i].v,.int .i64 z];revert A';generalize a6:((K1 ((Hp.set b7 (.box [.str l.t[i].v,.int .i64 l.t[i].c])).set x (.vec 2 [[.str l.t[i].v,.int .i64 z]])) ob).set b' (.vec 2 (Rw N7 ((shL l g).t.take i)++[[.str l.t[i].v,.int .i64 z]]))).set b5 (.box [.vec b' 2 0 (i+1),.int .i64 (j-1),.bool false])=Hf;intro A';repeat' (first|simp only[go_sem,seval,a5]|simp(disch:=omega) only[A5,B2,C3])
  exact C4 (i+1,some b',Hf) ⟨by simp only[];omega,by simp only[];rw[B7U l g i o,←hz];exact A'⟩ (by simp only[];omega) (by(try simp only[go_sem,seval])<;>(try simp(disch:=omega) [A5])) (by rw[←a6];exact D1z _)
 ·have y:decide ((i:Int)<l.t.length)=false:=D0b (by omega);have a9:i=l.t.length:=by omega
  have I:=A.keep m _ n5.2 T;rw[D0n (by omega)]at A;have A1:=A.box;rw[hZ]at I;have o1:=A4W 2 i ob;repeat' (first|with_reducible apply D0Y|simp only[go_sem,seval,y,A1,I,o1]|simp(disch:=first|omega|grind) only[B4])
  rw[←L];refine C3V (l:=shL l g) (by rw[V];exact a9) (A.out2 T _) (D10 (A.le2 r U J.2 _) h)
theorem A4c{Q}(l:LinV)(H:Heap)(h:Q (.agg (C1 (A3A l))) H):E3 78 [.agg (E5 l)] H Q:=by
 refine A9 [] A8 Tryz.func78 rfl ?_;simp only[go_sem,seval,Tryz.results78];repeat' (first|simp only[go_sem,seval]|simp(disch:=first|omega|grind) only[B4]|(intro d;try simp only[A6]at d))
 rename_i j h1 m;have p:=d;clear d;refine D7 (C3U 2 0 l D8) (D10 (fun k o hk=>?_) h);have g:k≠j:=fun e=>by rw[e,h1]at hk;cases hk
 have i:k≠m:=fun e=>by rw[e,p.2]at hk;cases hk
 first|(rw[A4 _ i,A4 _ g];exact hk)|(rw[A4 _ i,A4 _ i,A4 _ g];exact hk)|(rw[A4 _ g];exact hk)
theorem B7W(n:Nat): ∀{Q} (f:Fm) (hn:SizeOf.sizeOf f≤n) (hf:I5 E4 f=true) (fa:FmFit f) (b:Bool) (H:Heap) (h:Q (.agg (C1 (normF f b))) H),E3 50 [.agg (C1 f),.bool b] H Q:=by
 induction n with
 |zero=>intro Q f hn;cases f;simp at hn
 |succ n ih=>
 intro Q f hn hf fa b H h;refine A9 [(10,.par),(21,.wk),(24,.par)] A8 Tryz.func50 rfl ?_;simp only[go_sem,seval,Tryz.results50];have a5:=fa.kl;intro q g2 r g4;simp only[A6]at g4;have c7:q≠r:=fun e=>g4.1 e.symm;obtain⟨Z,U⟩: ∃Z:List D,Z= [.int .i64 0,.int .i64 0,.nilsl,.int .i64 0,.bool false,.str ⟨#[]⟩,.nilsl]:=⟨_,rfl⟩
 rw[←U];have e2:((H.set q (.box (C1 f))).set r (.box Z)) q=some (.box (C1 f)):=by rw[A4 _ c7,A3]
 have j:((H.set q (.box (C1 f))).set r (.box Z)) r=some (.box Z):=A3 _ _;have g:H.Le ((H.set q (.box (C1 f))).set r (.box Z)):=(A0 g2).trans (A0 (by simp only[A6];exact g4));have z: ∀x,H.Le (((H.set q (.box (C1 f))).set r (.box Z)).set r x):=fun x=>G6 g g4.2;have O: ∀x y,H.Le ((((H.set q (.box (C1 f))).set r (.box Z)).set q x).set r y):=fun x y=>G6 (G6 g g2) g4.2;generalize (H.set q (.box (C1 f))).set r (.box Z)=Bs at e2 j g z O⊢;cases Z4 hf with
 |con m hm=>
  rw[C1W b rfl]at h;simp only[Fm.n,Fm.l,Fm.s,Fm.ks,W9]at h;rw[U]at j;have q4: ∀x,(Bs.set q x) r=some (.box Z):=fun x=>by rw[A4 _ c7.symm];rw[U];exact j
  rw[U]at q4;rcases hm with rfl|rfl<;>cases b
  all_goals
   repeat' (first|simp only[go_sem,seval,e2,j,q4]|simp(disch:=omega) only[A5,B2,C3])
   first
    |exact D10 (z _) (by simpa using h)
    |exact D10 (O _ _) (by simpa using h)
 |lin l hl hp=>
  rw[C1X b rfl]at h;cases b with
  |false=>
   simp only[D0o,if_false,W9]at h;rw[U]at j;repeat' simp only[go_sem,seval,e2,j]
   exact D10 (z _) h
  |true=>
   simp only[if_true,Fm.l]at h;unfold opL at h;have d0:=j;rw[U]at j;cases he:l.e with
   |true=>
    rw[if_pos he]at h;repeat' simp only[go_sem,seval,e2,he]
    have m2:q∈[q]:=by simp
    refine F5 (fun i=>if i=2 then .agg (E5 (shL l 1))else if i=3 then .agg (C1 (A3A (shL l 1)))else if i=6 then .agg (E5 (shL l (-1)))else if i=7 then .agg (C1 (A3A (shL l (-1))))else .undef) [q] ?_;repeat' (first|simp only[go_sem,seval,e2,j,m2]|simp(disch:=first|omega|grind) only[B4]|(intro d;try simp only[A6]at d)|with_reducible refine R6 (fun H' Q hro hq=>A4b l hl 1 (.inl rfl) H' hq) ?_|with_reducible refine R6 (fun H' Q hro hq=>A4b l hl (-1) (.inr rfl) H' hq) ?_|with_reducible refine R6 (fun H' Q hro hq=>A4c (shL l 1) H' hq) ?_|with_reducible refine R6 (fun H' Q hro hq=>A4c (shL l (-1)) H' hq) ?_)
    exact B2U [A3A (shL l 1),A3A (shL l (-1))] rfl rfl g g4.2 j (by assumption) _ h
   |false=>
    rw[if_neg (by rw[he];decide)]at h;have sc:=fun(Q:D→Heap→Prop) (H:Heap)=>A4b (Q:=Q) l hl (-1) (.inr rfl) H;rw[show E5 l= [.sl 2 (Rw N7 l.t),.int .i64 l.k,.bool false]by rw[B1r,he]]at sc;repeat' (first|simp only[go_sem,seval,e2,j,he]|with_reducible refine sc _ _ ?_|with_reducible refine A4c _ _ ?_)
    exact D10 (z _) h
 |var s hp=>
  rw[C1Y b rfl]at h;cases b with
  |false=>
   simp only[D0o,if_false,W9]at h;rw[U]at j;repeat' simp only[go_sem,seval,e2,j]
   exact D10 (z _) h
  |true=>
   simp only[if_true]at h;rw[U]at j;repeat' (first|simp only[go_sem,seval,e2,j]|simp(disch:=first|omega|grind) only[B4]|(intro d;try simp only[A6]at d))
   exact B2U [.mk 3 0 nilL s []] (by simp[Rw,W9]) rfl g g4.2 j (by assumption) _ h
 |not k=>
  rw[C1Z b rfl rfl]at h;rw[U]at j;have r0:(Rw C1 [k]).getD 0 []=C1 k:=rfl;have hsz:SizeOf.sizeOf k<SizeOf.sizeOf (Fm.mk 4 0 nilL D8 [k]):=W8 (f:=.mk 4 0 nilL D8 [k]) (D0j ..);repeat' (first|with_reducible apply D0Y|simp only[go_sem,seval,e2,j,r0]|with_reducible refine ih k (by omega) (S7 hf (D0j ..)) (fa.kid (D0j ..)) (!b) _ ?_|omega)
  all_goals first
   |exact D10 (z _) h
   |decide
   |omega
 |and ks=>
  have a6: ∀k∈ks,I5 E4 k=true:=fun k hk=>S7 (f:=.mk 5 0 nilL D8 ks) hf hk;have a9: ∀k∈ks,FmFit k:=fun k hk=>fa.kid hk;have a5:ks.length≤1466015503658:=a5;rw[B60 b (by simp[Fm.op]) (by simp[Fm.op]) (by simp[Fm.op]) (by simp[Fm.op])]at h;simp only[Fm.op,Fm.ks]at h;apply A6R (C:=fun b5 G=>H.Le G∧H b5=none∧r≠b5∧q≠b5∧G q=some (.box (C1 (.mk 5 0 nilL D8 ks)))∧G r=some (.box Z)∧G b5=some (.box [.int .i64 (opO 5 b),.int .i64 0,.nilsl,.int .i64 0,.bool false,.str ⟨#[]⟩,.nilsl]))
  ·intro hJ;by_cases hb:b=true
   rotate_left
   ·have hb:b=false:=by simpa using hb
    repeat' (first|simp only[go_sem,seval,e2,hb]|(intro d;try simp only[A6]at d))
    rename_i b5;have h5:=d;clear d;have T:q≠b5:=fun e=>by rw[←e,e2]at h5;cases h5
    have V:r≠b5:=fun e=>by rw[←e,j]at h5;cases h5
    exact P9 [(1,.bool b),(2,.box q 0),(4,.box r 0),(5,.box b5 0)] _ (by simp only[go_sem,seval,hb]) (D1z _) (hJ b5 _ ⟨g.trans (A0 h5),g.none h5,V,T,by rw[A4 _ T];exact e2,by rw[A4 _ V];exact j,by rw[A3,hb];rfl⟩)
   ·repeat' (first|simp only[go_sem,seval,e2,hb]|simp(disch:=omega) only[A5,B2,C3]|simp(disch:=first|omega|grind) only[B4]|(intro d;try simp only[A6]at d))
    rename_i b5;have h5:=d;clear d;have T:q≠b5:=fun e=>by rw[←e,e2]at h5;cases h5
    have V:r≠b5:=fun e=>by rw[←e,j]at h5;cases h5
    have q2: ∀x,(Bs.set b5 x) q=some (.box (C1 (.mk 5 0 nilL D8 ks))):=fun x=>by rw[A4 _ T];exact e2
    repeat' (first|with_reducible apply D0Y|simp only[go_sem,seval,q2,hb]|simp(disch:=omega) only[A5,B2,C3]|simp(disch:=first|omega|grind) only[B4]|(intro d;try simp only[A6]at d)|omega)
    refine P9 [(1,.bool b),(2,.box q 0),(4,.box r 0),(5,.box b5 0)] _ (by simp only[go_sem,seval,hb]) (D1z _) (hJ b5 _ ⟨fun k o hk=>?_,g.none h5,V,T,?_,?_,?_⟩)
    ·have:k≠b5:=fun e=>by rw[e,g.none h5]at hk;cases hk
     rw[A4 _ this];exact g _ _ hk
    ·rw[A4 _ T];exact e2
    ·rw[A4 _ V];exact j
    ·rw[A3,hb];rfl
  rintro b5 Cs ⟨W,b0,b1,c9,b3,b6,e5⟩;clear e2 j z O g;have e2:=b3;have j:=b6;obtain⟨oo,b8⟩: ∃oo,oo=opO 5 b:=⟨_,rfl⟩
  rw[←b8]at e5 h;repeat' simp only[go_sem,seval,e2]
  refine C9 [1,4,5,67,68] (fun(p:Nat×Option Nat×Heap)=>[(69,.int .i64 p.1)]) (fun(p:Nat×Option Nat×Heap)=>p.2.2) (fun(p:Nat×Option Nat×Heap)=>p.1≤ks.length∧AH 7 Cs b5 (fun x=>[.int .i64 oo,.int .i64 0,.nilsl,.int .i64 0,.bool false,.str ⟨#[]⟩,x]) (Rw C1 ((ks.map (normF · b)).take p.1)) p.1 p.2.1 p.2.2) (fun(p:Nat×Option Nat×Heap)=>ks.length-p.1) ((0,none,Cs)) (⟨D0t _,A1B e5⟩) (by(try simp only[go_sem,seval])<;>(try simp(disch:=omega) [A5])) (by first|exact D1z _|exact A0 (by assumption)|exact B3 (by assumption)|simp only[Heap.Le,Heap.set,Heap.del]at* <;>grind) ?_;rintro Ec rfl ⟨i,ob,Hp⟩ ⟨hi,A⟩;simp only at hi A;have b9:(ks.map (normF · b)).length=ks.length:=by simp
  by_cases J:i<ks.length
  ·have L:decide ((i:Int)<ks.length)=true:=D0a (by omega);have c0:(i:Int)<ks.length:=by omega
   have hm:=D0m J;have hsz:SizeOf.sizeOf ks[i]<SizeOf.sizeOf (Fm.mk 5 0 nilL D8 ks):=W8 (f:=.mk 5 0 nilL D8 ks) hm;repeat' (first|with_reducible apply D0Y|simp only[go_sem,seval,L,c0,B2 _ _ J,C2 _ _ J]|(intro d;try simp only[A6]at d)|omega)
   rename_i I;have h7:=d;clear d;obtain⟨d1,d7,dO,dN⟩:=A.at7 h7 (.box (C1 ks[i]));refine F5 (fun i'=>.agg (C1 (normF ks[i] b))) [b5,I] ?_;have m1:b5∈[b5,I]:=by simp
   have m7:I∈[b5,I]:=by simp
   repeat' (first|simp only[go_sem,seval,d1,d7,m1,m7]|(intro d;try simp only[A6]at d)|with_reducible refine R6 (fun H' Q hro hq=>ih ks[i] (by omega) (a6 _ hm) (a9 _ hm) b H' hq) ?_)
   rename_i x;have hx:=d;clear d;obtain⟨X,c1⟩:=hx;have u:(Hp.set I (.box (C1 ks[i]))) x=none:=by rw[A4 _ X];exact c1
   obtain⟨M,Y⟩:=A3m dO u (.vec 7 [C1 (normF ks[i] b)]);have c2:x∉[b5,I]:=by
    simp only[D00,D01,or_false,not_or];exact⟨fun e=>(by rw[e,d1]at u;cases u),X⟩
   have c3: ∀c,ob=some c→c∉[b5,I]:=fun c e=>by
    simp only[D00,D01,or_false,not_or];exact⟨(A.fresh c e).2,dN c e⟩
   refine A6Q 28 96 (n:=i) (m:=1) (bx:=x) (ob:=ob) (es:=Rw C1 ((ks.map (normF · b)).take i)) (xs:=[C1 (normF ks[i] b)]) (by simp only[go_sem,seval]) (by decide) (by simp only[go_sem,seval]) (by simp only[go_sem,seval]) (by simp only[go_sem,seval]) (by simp only[go_sem,seval]) (A3 _ _) rfl (by simp) M (N0 _ _ (by omega)).symm c2 Y c3 (by simp only[D0d,D0f];omega) (by simp only[D0d,D0f];omega) fun b' a0=>?_;rw[E7 u]at a0⊢;obtain⟨c8,c4,A'⟩:=A.step h7 _ a0 (C1 (normF ks[i] b));revert A';generalize c5:((K1 (Hp.set I (.box (C1 ks[i]))) ob).set b' (.vec 7 (Rw C1 ((ks.map (normF · b)).take i)++[C1 (normF ks[i] b)]))).set b5 (.box [.int .i64 oo,.int .i64 0,.nilsl,.int .i64 0,.bool false,.str ⟨#[]⟩,.vec b' 7 0 (i+1)])=Hf;intro A';repeat' (first|simp only[go_sem,seval,c4,m1]|simp(disch:=omega) only[A5,B2,C3])
   exact C4 (i+1,some b',Hf) ⟨by simp only[];omega,by simp only[];rw[M9 (ks.map (normF · b)) i (by omega),D1O];exact A'⟩ (by simp only[];omega) (by(try simp only[go_sem,seval])<;>(try simp(disch:=omega) [A5])) (by rw[←c5];exact D1z _)
  ·have L:decide ((i:Int)<ks.length)=false:=D0b (by omega);have c6:i=ks.length:=by omega
   have a4:=A.keep r _ b1 j;rw[D0n (by omega)]at A;have A1:=A.box;rw[U]at a4;have o1:=A4W 7 i ob;repeat' (first|with_reducible apply D0Y|simp only[go_sem,seval,L,A1,a4,o1]|simp(disch:=first|omega|grind) only[B4])
   exact A8u (ks:=ks.map (normF · b)) (by rw[b9];exact c6) (A.out2 j _) (D10 (A.le2 W b0 g4.2 _) h)
 |or ks=>
  have a6: ∀k∈ks,I5 E4 k=true:=fun k hk=>S7 (f:=.mk 6 0 nilL D8 ks) hf hk;have a9: ∀k∈ks,FmFit k:=fun k hk=>fa.kid hk;have a5:ks.length≤1466015503658:=a5;rw[B60 b (by simp[Fm.op]) (by simp[Fm.op]) (by simp[Fm.op]) (by simp[Fm.op])]at h;simp only[Fm.op,Fm.ks]at h;apply A6R (C:=fun b5 G=>H.Le G∧H b5=none∧r≠b5∧q≠b5∧G q=some (.box (C1 (.mk 6 0 nilL D8 ks)))∧G r=some (.box Z)∧G b5=some (.box [.int .i64 (opO 6 b),.int .i64 0,.nilsl,.int .i64 0,.bool false,.str ⟨#[]⟩,.nilsl]))
  ·intro hJ;by_cases hb:b=true
   rotate_left
   ·have hb:b=false:=by simpa using hb
    repeat' (first|simp only[go_sem,seval,e2,hb]|(intro d;try simp only[A6]at d))
    rename_i b5;have h5:=d;clear d;have T:q≠b5:=fun e=>by rw[←e,e2]at h5;cases h5
    have V:r≠b5:=fun e=>by rw[←e,j]at h5;cases h5
    exact P9 [(1,.bool b),(2,.box q 0),(4,.box r 0),(5,.box b5 0)] _ (by simp only[go_sem,seval,hb]) (D1z _) (hJ b5 _ ⟨g.trans (A0 h5),g.none h5,V,T,by rw[A4 _ T];exact e2,by rw[A4 _ V];exact j,by rw[A3,hb];rfl⟩)
   ·repeat' (first|simp only[go_sem,seval,e2,hb]|simp(disch:=omega) only[A5,B2,C3]|simp(disch:=first|omega|grind) only[B4]|(intro d;try simp only[A6]at d))
    rename_i b5;have h5:=d;clear d;have T:q≠b5:=fun e=>by rw[←e,e2]at h5;cases h5
    have V:r≠b5:=fun e=>by rw[←e,j]at h5;cases h5
    have q2: ∀x,(Bs.set b5 x) q=some (.box (C1 (.mk 6 0 nilL D8 ks))):=fun x=>by rw[A4 _ T];exact e2
    repeat' (first|with_reducible apply D0Y|simp only[go_sem,seval,q2,hb]|simp(disch:=omega) only[A5,B2,C3]|simp(disch:=first|omega|grind) only[B4]|(intro d;try simp only[A6]at d)|omega)
    refine P9 [(1,.bool b),(2,.box q 0),(4,.box r 0),(5,.box b5 0)] _ (by simp only[go_sem,seval,hb]) (D1z _) (hJ b5 _ ⟨fun k o hk=>?_,g.none h5,V,T,?_,?_,?_⟩)
    ·have:k≠b5:=fun e=>by rw[e,g.none h5]at hk;cases hk
     rw[A4 _ this];exact g _ _ hk
    ·rw[A4 _ T];exact e2
    ·rw[A4 _ V];exact j
    ·rw[A3,hb];rfl
  rintro b5 Cs ⟨W,b0,b1,c9,b3,b6,e5⟩;clear e2 j z O g;have e2:=b3;have j:=b6;obtain⟨oo,b8⟩: ∃oo,oo=opO 6 b:=⟨_,rfl⟩
  rw[←b8]at e5 h;repeat' simp only[go_sem,seval,e2]
  refine C9 [1,4,5,67,68] (fun(p:Nat×Option Nat×Heap)=>[(69,.int .i64 p.1)]) (fun(p:Nat×Option Nat×Heap)=>p.2.2) (fun(p:Nat×Option Nat×Heap)=>p.1≤ks.length∧AH 7 Cs b5 (fun x=>[.int .i64 oo,.int .i64 0,.nilsl,.int .i64 0,.bool false,.str ⟨#[]⟩,x]) (Rw C1 ((ks.map (normF · b)).take p.1)) p.1 p.2.1 p.2.2) (fun(p:Nat×Option Nat×Heap)=>ks.length-p.1) ((0,none,Cs)) (⟨D0t _,A1B e5⟩) (by(try simp only[go_sem,seval])<;>(try simp(disch:=omega) [A5])) (by first|exact D1z _|exact A0 (by assumption)|exact B3 (by assumption)|simp only[Heap.Le,Heap.set,Heap.del]at* <;>grind) ?_;rintro Ec rfl ⟨i,ob,Hp⟩ ⟨hi,A⟩;simp only at hi A;have b9:(ks.map (normF · b)).length=ks.length:=by simp
  by_cases J:i<ks.length
  ·have L:decide ((i:Int)<ks.length)=true:=D0a (by omega);have c0:(i:Int)<ks.length:=by omega
   have hm:=D0m J;have hsz:SizeOf.sizeOf ks[i]<SizeOf.sizeOf (Fm.mk 6 0 nilL D8 ks):=W8 (f:=.mk 6 0 nilL D8 ks) hm;repeat' (first|with_reducible apply D0Y|simp only[go_sem,seval,L,c0,B2 _ _ J,C2 _ _ J]|(intro d;try simp only[A6]at d)|omega)
   rename_i I;have h7:=d;clear d;obtain⟨d1,d7,dO,dN⟩:=A.at7 h7 (.box (C1 ks[i]));refine F5 (fun i'=>.agg (C1 (normF ks[i] b))) [b5,I] ?_;have m1:b5∈[b5,I]:=by simp
   have m7:I∈[b5,I]:=by simp
   repeat' (first|simp only[go_sem,seval,d1,d7,m1,m7]|(intro d;try simp only[A6]at d)|with_reducible refine R6 (fun H' Q hro hq=>ih ks[i] (by omega) (a6 _ hm) (a9 _ hm) b H' hq) ?_)
   rename_i x;have hx:=d;clear d;obtain⟨X,c1⟩:=hx;have u:(Hp.set I (.box (C1 ks[i]))) x=none:=by rw[A4 _ X];exact c1
   obtain⟨M,Y⟩:=A3m dO u (.vec 7 [C1 (normF ks[i] b)]);have c2:x∉[b5,I]:=by
    simp only[D00,D01,or_false,not_or];exact⟨fun e=>(by rw[e,d1]at u;cases u),X⟩
   have c3: ∀c,ob=some c→c∉[b5,I]:=fun c e=>by
    simp only[D00,D01,or_false,not_or];exact⟨(A.fresh c e).2,dN c e⟩
   refine A6Q 28 96 (n:=i) (m:=1) (bx:=x) (ob:=ob) (es:=Rw C1 ((ks.map (normF · b)).take i)) (xs:=[C1 (normF ks[i] b)]) (by simp only[go_sem,seval]) (by decide) (by simp only[go_sem,seval]) (by simp only[go_sem,seval]) (by simp only[go_sem,seval]) (by simp only[go_sem,seval]) (A3 _ _) rfl (by simp) M (N0 _ _ (by omega)).symm c2 Y c3 (by simp only[D0d,D0f];omega) (by simp only[D0d,D0f];omega) fun b' a0=>?_;rw[E7 u]at a0⊢;obtain⟨c8,c4,A'⟩:=A.step h7 _ a0 (C1 (normF ks[i] b));revert A';generalize c5:((K1 (Hp.set I (.box (C1 ks[i]))) ob).set b' (.vec 7 (Rw C1 ((ks.map (normF · b)).take i)++[C1 (normF ks[i] b)]))).set b5 (.box [.int .i64 oo,.int .i64 0,.nilsl,.int .i64 0,.bool false,.str ⟨#[]⟩,.vec b' 7 0 (i+1)])=Hf;intro A';repeat' (first|simp only[go_sem,seval,c4,m1]|simp(disch:=omega) only[A5,B2,C3])
   exact C4 (i+1,some b',Hf) ⟨by simp only[];omega,by simp only[];rw[M9 (ks.map (normF · b)) i (by omega),D1O];exact A'⟩ (by simp only[];omega) (by(try simp only[go_sem,seval])<;>(try simp(disch:=omega) [A5])) (by rw[←c5];exact D1z _)
  ·have L:decide ((i:Int)<ks.length)=false:=D0b (by omega);have c6:i=ks.length:=by omega
   have a4:=A.keep r _ b1 j;rw[D0n (by omega)]at A;have A1:=A.box;rw[U]at a4;have o1:=A4W 7 i ob;repeat' (first|with_reducible apply D0Y|simp only[go_sem,seval,L,A1,a4,o1]|simp(disch:=first|omega|grind) only[B4])
   exact A8u (ks:=ks.map (normF · b)) (by rw[b9];exact c6) (A.out2 j _) (D10 (A.le2 W b0 g4.2 _) h)
theorem A6c{Q}(f:Fm)(d:I5 E4 f=true)(e:FmFit f)(b:Bool)(H:Heap)(h:Q (.agg (C1 (normF f b))) H):E3 50 [.agg (C1 f),.bool b] H Q:=B7W _ f (D0s _) d e b H h
theorem A0m(n:Int):NilR (.tuple [.agg [.int .i64 0,.int .i64 0,.nilsl,.int .i64 0,.bool false,.str ⟨#[]⟩,.nilsl],.int .i64 n]) (.tuple [.agg (C1 zeroF),.int .i64 n]):=B6r (A4Z 0 0 0 false D8)
theorem C6z{Q}(f:Fm)(z:FmFit f)(U:VOk f)(H:Heap)(h:Q (.tuple [.agg (C1 (B62 f).1),.int .i64 (B62 f).2]) H):E3 16 [.agg (C1 f)] H Q:=by
 refine A9 [] A8 Tryz.func16 rfl ?_;simp only[go_sem,seval,Tryz.results16];intro q V i u;simp only[A6]at u;have A:q≠i:=fun e=>u.1 e.symm;have e1:((H.set q (.box (C1 f))).set i (.box [.int .i64 0,.int .i64 0,.nilsl,.int .i64 0,.bool false,.str ⟨#[]⟩,.nilsl])) q=some (.box (C1 f)):=by rw[A4 _ A,A3]
 have e2:((H.set q (.box (C1 f))).set i (.box [.int .i64 0,.int .i64 0,.nilsl,.int .i64 0,.bool false,.str ⟨#[]⟩,.nilsl])) i=some (.box [.int .i64 0,.int .i64 0,.nilsl,.int .i64 0,.bool false,.str ⟨#[]⟩,.nilsl]):=A3 _ _;have m:H.Le ((H.set q (.box (C1 f))).set i (.box [.int .i64 0,.int .i64 0,.nilsl,.int .i64 0,.bool false,.str ⟨#[]⟩,.nilsl])):=(A0 V).trans (A0 (by simp only[A6];exact u));generalize (H.set q (.box (C1 f))).set i (.box [.int .i64 0,.int .i64 0,.nilsl,.int .i64 0,.bool false,.str ⟨#[]⟩,.nilsl])=Bs at e1 e2 m⊢;have C: ∀x,H.Le (Bs.set i x):=fun x=>G6 m u.2;have y:=fun(Q:D→Heap→Prop) (H:Heap)=>R4 (Q:=Q) f z U H;unfold B62 at h;cases hv:E6 f with
 |false=>
  rw[hv]at h y;simp only[D0o,if_false]at h;repeat' (first|simp only[go_sem,seval,e1,e2]|with_reducible refine y _ _ ?_)
  exact D7 (A0m 2) (D10 (C _) h)
 |true=>
  rw[hv]at h y;simp only[if_true]at h;have j:=O1 hv;have W:=B00 hv;obtain⟨G,X⟩:=B0q f true j z;have nv:VOk (normF f true):=.inl (by omega);have d:=fun(Q:D→Heap→Prop) (H:Heap)=>R4 (Q:=Q) (normF f true) G nv H;have M:=fun(Q:D→Heap→Prop) (H:Heap)=>A6c (Q:=Q) f j z true H;have O:=fun(Q:D→Heap→Prop) (H:Heap)=>B3c (Q:=Q) (normF f true) G H;generalize normF f true=g at h d M O G X nv;repeat' (first|simp only[go_sem,seval,e1]|(intro o;try simp only[A6]at o)|with_reducible refine y _ _ ?_|with_reducible refine M _ _ ?_|with_reducible refine O _ _ ?_)
  rename_i r;have I:=o;clear o;have Y:i≠r:=fun e=>by rw[←e,e2]at I;cases I
  have J:(Bs.set r (.box (C1 g))) r=some (.box (C1 g)):=A3 _ _;have L:(Bs.set r (.box (C1 g))) i=some (.box [.int .i64 0,.int .i64 0,.nilsl,.int .i64 0,.bool false,.str ⟨#[]⟩,.nilsl]):=by rw[A4 _ Y];exact e2
  have p: ∀x,H.Le ((Bs.set r (.box (C1 g))).set i x):=fun x=>G6 (m.trans (A0 I)) u.2;generalize Bs.set r (.box (C1 g))=Cs at J L p⊢;cases T:E6 g with
  |false=>
   rw[T]at h d;simp only[D0o,if_false]at h;repeat' (first|simp only[go_sem,seval,J,L]|with_reducible refine d _ _ ?_)
   exact D7 (A0m 3) (D10 (p _) h)
  |true=>
   rw[T]at h d;simp only[if_true]at h;repeat' (first|simp only[go_sem,seval,J,L]|with_reducible refine d _ _ ?_)
   exact D10 (p _) h
end Go.Proofs.YtibphjonmikciaaGreatDoor
namespace Go.Fo
open Go Go.Av Go.Lexs Go.Lin
theorem B4r(d:Fm→Option Bool): ∀(ks:List Fm) (b:Bool),B4q d ks=some b→(∀k∈ks,d k=some ((d k).getD false))∧b=ks.any fun k=>(d k).getD false:=by
 intro ks
 induction ks with
 |nil=>intro b h;rw[B4q]at h;injection h with h;exact⟨by simp,h.symm⟩
 |cons k l e=>
  intro b h;rw[B4q]at h;cases hk:d k with
  |none=>rw[hk]at h;cases h
  |some x=>
   cases hl:B4q d l with
   |none=>rw[hk,hl]at h;cases h
   |some y=>
    rw[hk,hl]at h;injection h with h
    obtain⟨g,i⟩:=e y hl;refine⟨fun q hq=>?_,?_⟩
    ·rcases D00.1 hq with rfl|hq
     ·rw[hk];rfl
     ·exact g q hq
    ·rw[D1d,hk,←i,←h];rfl
theorem A5a{Q:D→Heap→Prop}{H:Heap}{x sz n:Nat}{es:List (List D)}(hx:H x=none)(hn:n=es.length)(h:Q (.sl sz es) H):Fin Q (.vec x sz 0 n) (H.set x (.vec sz es)):=
 Fin.out (ob:=some x) hn (A3 _ _) (by show Fin _ _ ((Heap.set H x _).del x);rw[E7 hx];exact D13 h)
theorem C60(ks:List Fm): ∀(j:Nat) (d d':D),[D.int .i64 6,.int .i64 0,.nilsl,.int .i64 0,.bool false,.str ⟨#[]⟩,.sl 7 (Rw C1 ks)][j]? =some d→(C1 (.mk 6 0 nilL D8 ks))[j]? =some d'→NilR d d':=fun j d d' h1 e=>by
 rw[W9]at e
 match j with
 |0=>cases h1;cases e;exact .same _
 |1=>cases h1;cases e;exact .same _
 |2=>cases h1;cases e;exact .nil 2
 |3=>cases h1;cases e;exact .same _
 |4=>cases h1;cases e;exact .same _
 |5=>cases h1;cases e;exact .same _
 |6=>cases h1;cases e;exact .same _
 |j+7=>cases h1
theorem B9u(f g:Fm)(W:List D)(h: ∀(j:Nat) (d d':D),W[j]? =some d→(C1 g)[j]? =some d'→NilR d d')(hl:W.length=7:=by rfl):NilR (.sl 7 (Rw C1 [f]++[W])) (.sl 7 (Rw C1 ([f]++[g]))):=by
 refine .sl 7 _ _ rfl (fun i e e' h1 m=>?_) (fun i e e' j d d' h1 m p o=>?_)
 ·match i with
  |0=>cases h1;cases m;rfl
  |1=>cases h1;cases m;rw[hl,B9Y]
  |i+2=>cases h1
 ·match i with
  |0=>cases h1;cases m;rw[p]at o;cases o;exact .same _
  |1=>cases h1;cases m;exact h j d d' p o
  |i+2=>cases h1
def mG(bs:BS):Option Nat→D
 |none=>.fm (bsC bs)
 |some m=>.map m
def mAt(H:Heap)(bs:BS):Option Nat→Prop
 |none=>True
 |some m=>H m=some (.map (bsC bs))
theorem C61(bs:BS)(d:Option Nat):(∃k,mG bs d= .fm k)∨∃b,mG bs d= .map b:=by cases d with
 |none=>exact .inl ⟨_,rfl⟩
 |some m=>exact .inr ⟨_,rfl⟩
end Go.Fo
namespace Go.Proofs.YtibphjonmikciaaGreatDoor
open Go Go.Av Go.Lexs Go.Lin Go.Fo
attribute [local irreducible] ACalls S9
theorem C1c(cs:List LinV)(x:Bool)(hx:B2O cs=some x): ∀(Q:D→Heap→Prop) (H:Heap),Q (.bool x) H→E3 155 [.sl 3 (Rw E5 cs)] H Q:=fun Q H h=>by
 unfold B2O at hx;split at hx
 ·rename_i hv;exact C3Q cs hv.2 (D09.1 hv.1) x hx H h
 ·cases hx
def A6d(n:Nat):Prop:=∀(Q:D→Heap→Prop) (cs:List LinV) (bs:BS) (l:List Fm) (b:Bool),X1 n cs bs l=some b→∀H:Heap,Q (.bool b) H→E3 124 [.agg [.sl 3 (Rw E5 cs),.fm (bsC bs)],.sl 7 (Rw C1 l)] H Q
theorem B4s(n:Nat)(A:A6d n){Q}(cs:List LinV)(bs:BS)(k:Fm)(l:List Fm)(b:Bool)(hb:X1 n cs bs (k::l)=some b)(hl:l.length≤1000)(j b5:Nat)(H:Heap)(r:H j=some (.box [.sl 3 (Rw E5 cs),.fm (bsC bs)]))(h5:H b5=some (.box [.sl 7 (Rw C1 l)]))(h:Q (.bool b) H):
  E3 195 [.agg (C1 k),.box j 0,.box b5 0] H Q:=by
 refine A29 (ops:=chOps) A8 Tryz.func195 rfl (by kernel_rfl) (D0Z (by kernel_rfl)) 7 4 rfl (by kernel_rfl) (by kernel_rfl) (by kernel_rfl) (by kernel_rfl) (by kernel_rfl) ?_;simp only[go_sem,seval];intro d m;have p:j≠d:=fun e=>by rw[←e,r]at m;cases m
 have q:b5≠d:=fun e=>by rw[←e,h5]at m;cases m
 have u:(H.set d (.box (C1 k))) j=some (.box [.sl 3 (Rw E5 cs),.fm (bsC bs)]):=by rw[A4 _ p];exact r
 have y:(H.set d (.box (C1 k))) b5=some (.box [.sl 7 (Rw C1 l)]):=by rw[A4 _ q];exact h5
 have z:(H.set d (.box (C1 k))) d=some (.box (C1 k)):=A3 _ _;have o:H.Le (H.set d (.box (C1 k))):=A0 m;generalize H.set d (.box (C1 k))=Bs at u y z o⊢;refine⟨fun i=>if i=0 then .agg [.sl 3 (Rw E5 cs),.fm (bsC bs)]else if i=1 then .agg (C1 k)else if i=2 then .sl 7 (Rw C1 [k])else if i=3 then .sl 7 (Rw C1 l)else if i=4 then .sl 1 [[.sl 7 (Rw C1 [k])],[.sl 7 (Rw C1 l)]]else if i=5 then .sl 7 (Rw C1 (k::l))else .bool b,C3b ?_ ?_ ?_ ?_ ?_ ?_ ?_ ?_,?_⟩
 ·intro ev g e1;simp only[go_sem,seval,show ev (.tmp 1)= .box j 0 from e1,u];exact D13 ⟨rfl,rfl⟩
 ·intro ev g e1;simp only[go_sem,seval,show ev (.tmp 3)= .box d 0 from e1,z];exact D13 ⟨rfl,rfl⟩
 ·intro ev g e1;simp only[go_sem,seval,show ev (.tmp 6)= .agg (C1 k)from e1];exact fun x hx=>A5a hx rfl ⟨rfl,rfl⟩
 ·intro ev g e1;simp only[go_sem,seval,show ev (.tmp 2)= .box b5 0 from e1,y];exact D13 ⟨rfl,rfl⟩
 ·intro ev g e1 e2;simp only[go_sem,seval,show ev (.tmp 7)= .sl 7 (Rw C1 [k])from e1,show ev (.tmp 8)= .sl 7 (Rw C1 l)from e2];exact fun x hx=>A5a hx rfl ⟨rfl,rfl⟩
 ·intro ev g e1;simp only[go_sem,seval,show ev (.tmp 9)= .sl 1 [[.sl 7 (Rw C1 [k])],[.sl 7 (Rw C1 l)]]from e1,g.func];refine A7q [k] l (by simp only[D0d,D0f];omega) _ ?_;exact D13 ⟨rfl,rfl⟩
 ·intro ev g e1 e2;simp only[go_sem,seval,show ev (.tmp 5)= .agg [.sl 3 (Rw E5 cs),.fm (bsC bs)]from e1,show ev (.tmp 10)= .sl 7 (Rw C1 (k::l))from e2,g.func];refine A _ cs bs (k::l) b hb _ ?_;exact D13 ⟨rfl,rfl⟩
 ·intro ev g e1;simp only[go_sem,seval,show ev (.tmp 11)= .bool b from e1];exact D13 ⟨rfl,rfl⟩
 ·exact D10 o h
def B9v(n:Nat):Prop:=∀(Q:D→Heap→Prop) (cs:List LinV) (bs:BS) (ks l:List Fm) (b:Bool),A5Z (X1 n) cs bs ks l=some b→∀H:Heap,Q (.bool b) H→E3 154 [.agg [.sl 3 (Rw E5 cs),.fm (bsC bs)],.sl 7 (Rw C1 ks),.sl 7 (Rw C1 l)] H Q
theorem B7X(n:Nat)(hS:A6d n):B9v n:=by
 intro Q cs bs ks l b hb H h;unfold A5Z at hb;split at hb
 rotate_left
 ·cases hb
 rename_i hlen;obtain⟨C,b4⟩:=hlen;refine A9 [(3,.par)] A8 Tryz.func154 rfl ?_;simp only[go_sem,seval,Tryz.results154];intro p g3 b5 O;simp only[A6]at O;have T:p≠b5:=fun e=>O.1 e.symm;have u:((H.set p (.box [.sl 3 (Rw E5 cs),.fm (bsC bs)])).set b5 (.box [.sl 7 (Rw C1 l)])) p=some (.box [.sl 3 (Rw E5 cs),.fm (bsC bs)]):=by rw[A4 _ T,A3]
 have y:((H.set p (.box [.sl 3 (Rw E5 cs),.fm (bsC bs)])).set b5 (.box [.sl 7 (Rw C1 l)])) b5=some (.box [.sl 7 (Rw C1 l)]):=A3 _ _;have q:H.Le ((H.set p (.box [.sl 3 (Rw E5 cs),.fm (bsC bs)])).set b5 (.box [.sl 7 (Rw C1 l)])):=(A0 g3).trans (A0 (by simp only[A6];exact O));generalize (H.set p (.box [.sl 3 (Rw E5 cs),.fm (bsC bs)])).set b5 (.box [.sl 7 (Rw C1 l)])=Bs at u y q⊢;by_cases hr:l≠[]∧B0t (l.headD zeroF)=0
 ·rw[if_pos hr]at hb;obtain⟨U,z⟩:=hr;obtain⟨f,rfl⟩: ∃f,l= [f]:=by
   match l,U,C with
   | [f],_,_=>exact⟨f,rfl⟩
  have hro:f.op≠6:=fun e=>by rw[show ([f]:List Fm).headD zeroF=f from rfl]at z;unfold B0t at z;rw[if_pos e]at z;cases z
  have A:=fun(Q:D→Heap→Prop) (H:Heap)=>B2C (Q:=Q) f H;simp only[if_neg hro]at A;have G:(Rw C1 [f]).getD 0 []=C1 f:=rfl;repeat' (first|with_reducible apply D0Y|simp only[go_sem,seval,u,y,G]|(intro j;try simp only[A6]at j)|with_reducible refine A3n [f] (by simp) _ _ ?_|with_reducible refine A _ _ ?_|omega)
  all_goals first|decide|omega|skip
  have m3:p∈[p,b5]:=by simp
  have m5:b5∈[p,b5]:=by simp
  refine B2n (fun i=>if i=2 then .mk' (fun c=>.vec c 7 0 1) (.vec 7 (Rw C1 [f]))else .c (.bool b)) [p,b5] ?_;have Y:(Av.Obj.vec 7 (Rw C1 [f])).rw=true:=rfl;have cl: ∀(H':Heap) (Q:D→Heap→Prop),(∀c,H' c=none→Q (.vec c 7 0 1) (H'.set c (.vec 7 (Rw C1 [f]))))→E3 194 [.sl 7 (Rw C1 [f])] H' Q:=fun H' Q hq=>B6w [f] (by simp) (by simp) H' hq;repeat' simp only[go_sem,seval,u,y,m3,m5]
  refine pcm (f:=fun c=>.vec c 7 0 1) Y (fun H' Q hro hq=>cl H' Q hq) fun c hc=>?_;have a0:p≠c:=fun e=>by rw[←e,u]at hc;cases hc
  have a4:b5≠c:=fun e=>by rw[←e,y]at hc;cases hc
  repeat' (first|simp only[go_sem,seval,u,y,m3,m5]|(intro j;try simp only[A6]at j))
  rename_i x;have hx:=j;clear j;obtain⟨W,hW⟩: ∃W:List D,W= [.int .i64 6,.int .i64 0,.nilsl,.int .i64 0,.bool false,.str ⟨#[]⟩,.sl 7 (Rw C1 ks)]:=⟨_,rfl⟩
  rw[←hW];have I:c≠x:=fun e=>hx.1 e.symm;have a5:p≠x:=fun e=>by rw[←e]at hx;have:=hx.2;rw[u]at this;cases this
  have a6:b5≠x:=fun e=>by rw[←e]at hx;have:=hx.2;rw[y]at this;cases this
  refine A6Q 28 96 (n:=1) (m:=1) (bx:=x) (ob:=some c) (es:=Rw C1 [f]) (xs:=[W]) (by simp only[go_sem,seval]) (by decide) (by simp only[go_sem,seval]) (by simp only[go_sem,seval]) (by simp only[go_sem,seval]) (by simp only[go_sem,seval]) (A3 _ _) rfl (by simp) (?_:(Heap.set _ x _) c=_) rfl ?_ ?_ ?_ (by simp) (by simp) fun b' r=>?_
  ·rw[A4 _ I];exact A3 _ _
  ·simp only[D00,D01,or_false,not_or];exact⟨a5.symm,a6.symm⟩
  ·intro e;injection e with e;exact I e
  ·intro c' e;injection e with e;subst e
   simp only[D00,D01,or_false,not_or];exact⟨a0.symm,a4.symm⟩
  have hH: ∀V X:Av.Obj,K1 (((Bs.set c V).set x X).del x) (some c)=Bs:=fun V X=>by rw[E7 (A6.2 hx)];exact E7 hc
  rw[hH]at r⊢;have a9:b'∉[p,b5]:=by
   simp only[D00,D01,or_false,not_or];exact⟨fun e=>(by rw[e,u]at r;cases r),fun e=>(by rw[e,y]at r;cases r)⟩
  have b0:(Av.Obj.vec 7 (Rw C1 [f]++[W])).rw=true:=rfl;have e1:(1:Nat)+ [W].length=2:=rfl;repeat' simp only[go_sem,seval,e1]
  refine pc1 (o:=.vec 7 (Rw C1 [f]++[W])) (A3 _ _) b0 a9 (fun H' Q hro b1 hq=>?_) ?_
  ·refine A0b b1 rfl ?_;refine O2 (args':=[.agg [.sl 3 (Rw E5 cs),.fm (bsC bs)],.sl 7 (Rw C1 ([f]++[.mk 6 0 nilL D8 ks]))]) rfl (fun i d d' h1 h2=>?_) (hS _ cs bs _ b hb _ hq)
   match i with
   |0=>cases h1;cases h2;exact .same _
   |1=>cases h1;cases h2;rw[hW];exact B9u f _ _ (C60 ks)
   |i+2=>cases h1
  ·rw[E7 r];repeat' simp only[go_sem,seval]
   exact D10 q h
 ·rw[if_neg hr]at hb;have J:l= []∨∃f,l= [f]∧f.op=6:=by
   match l,C,hr with
   | [],_,_=>exact .inl rfl
   | [f],_,hr=>
    refine .inr ⟨f,rfl,?_⟩;by_cases e:f.op=6
    ·exact e
    ·exact absurd ⟨by simp,by show B0t f=0;unfold B0t;rw[if_neg e]⟩ hr
  have b2:l.length≤1000:=by omega
  obtain⟨x,hx⟩: ∃x,B2O cs=some x:=by
   cases e:B2O cs with
   |none=>rw[e]at hb;cases hb
   |some x=>exact⟨x,rfl⟩
  have M:=C1c cs x hx;rw[hx]at hb;cases x with
  |false=>
   injection hb with hb
   subst hb;rcases J with rfl|⟨f,rfl,ho⟩
   ·have L:=fun(g:D) (Q:D→Heap→Prop) (H:Heap)=>A3n (Q:=Q) [] (by simp) g H;simp only[A0h]at L;repeat' (first|with_reducible apply D0Y|simp only[go_sem,seval,u,y,A0h]|(intro j;try simp only[A6]at j)|with_reducible refine L _ _ _ ?_|with_reducible refine M _ _ ?_|omega)
    all_goals first|exact D10 q h|skip
   ·have A:=fun(Q:D→Heap→Prop) (H:Heap)=>B2C (Q:=Q) f H;simp only[if_pos ho]at A;have G:(Rw C1 [f]).getD 0 []=C1 f:=rfl;repeat' (first|with_reducible apply D0Y|simp only[go_sem,seval,u,y,G]|(intro j;try simp only[A6]at j)|with_reducible refine A3n [f] (by simp) _ _ ?_|with_reducible refine A _ _ ?_|with_reducible refine M _ _ ?_|omega)
    all_goals first|exact D10 q h|decide|omega|skip
  |true=>
   obtain⟨a1,a2⟩:=B4r _ _ _ hb;have cc:=fun(Q:D→Heap→Prop)=>A8y (Q:=Q) (fun k=>(X1 n cs bs (k::l)).getD false) ks (by omega) 195 [] [.box p 0,.box b5 0] Bs (fun k hk _ Q hq=>B4s n hS cs bs ks[k] l _ (a1 _ (D0m hk)) b2 p b5 Bs u y hq);rw[←a2]at cc;rcases J with rfl|⟨f,rfl,ho⟩
   ·have L:=fun(g:D) (Q:D→Heap→Prop) (H:Heap)=>A3n (Q:=Q) [] (by simp) g H;simp only[A0h]at L;repeat' (first|with_reducible apply D0Y|simp only[go_sem,seval,u,y,A0h]|(intro j;try simp only[A6]at j)|with_reducible refine L _ _ _ ?_|with_reducible refine M _ _ ?_|with_reducible refine cc _ ?_|omega)
    all_goals first|exact D10 q h|skip
   ·have A:=fun(Q:D→Heap→Prop) (H:Heap)=>B2C (Q:=Q) f H;simp only[if_pos ho]at A;have G:(Rw C1 [f]).getD 0 []=C1 f:=rfl;repeat' (first|with_reducible apply D0Y|simp only[go_sem,seval,u,y,G]|(intro j;try simp only[A6]at j)|with_reducible refine A3n [f] (by simp) _ _ ?_|with_reducible refine A _ _ ?_|with_reducible refine M _ _ ?_|with_reducible refine cc _ ?_|omega)
    all_goals first|exact D10 q h|decide|omega|skip
theorem B7Y(f:Fm)(l:List Fm):((Rw C1 (f::l)).take (l.length+1)).tail=Rw C1 l:=by rw[D0n (by simp[Rw])];rfl
theorem B7Z(f:Fm)(l:List Fm):((Rw C1 (f::l)).take (l.length+1)).drop 1=Rw C1 l:=by rw[D0n (by simp[Rw])];rfl
theorem B9w(bs:BS):mG bs none= .fm (bsC bs):=rfl
theorem B9x(bs:BS)(m:Nat):mG bs (some m)= .map m:=rfl
set_option maxHeartbeats 4000000 in
theorem B9y(n:Nat)(ih: ∀m,m<n→A6d m):A6d n:=by
 intro Q O T l0 b hb H h;refine A9 [(15,.wk)] A8 Tryz.func124 rfl ?_;simp only[go_sem,seval,Tryz.results124];intro y g2;have e2:(H.set y (.box [.sl 3 (Rw E5 O),.fm (bsC T)])) y=some (.box [.sl 3 (Rw E5 O),.fm (bsC T)]):=A3 _ _;have b3:H.Le (H.set y (.box [.sl 3 (Rw E5 O),.fm (bsC T)])):=A0 g2;generalize H.set y (.box [.sl 3 (Rw E5 O),.fm (bsC T)])=Bs at e2 b3⊢;repeat' (first|with_reducible apply D0Y|simp only[go_sem,seval]|simp(disch:=omega) only[C3]|simp(disch:=first|omega|grind) only[B4,D4]|(intro d;try simp only[A6]at d)|omega)
 refine C9 [2] (fun(p:Nat×List LinV×BS×List Fm×Option Nat×Heap)=>[(1,.sl 7 (Rw C1 p.2.2.2.1))]) (fun(p:Nat×List LinV×BS×List Fm×Option Nat×Heap)=>p.2.2.2.2.2) (fun(p:Nat×List LinV×BS×List Fm×Option Nat×Heap)=>X1 p.1 p.2.1 p.2.2.1 p.2.2.2.1=some b∧p.1≤n∧p.2.2.2.2.2 y=some (.box [.sl 3 (Rw E5 p.2.1),mG p.2.2.1 p.2.2.2.2.1])∧mAt p.2.2.2.2.2 p.2.2.1 p.2.2.2.2.1∧H.Le p.2.2.2.2.2∧(∀m,p.2.2.2.2.1=some m→H m=none)) (fun(p:Nat×List LinV×BS×List Fm×Option Nat×Heap)=>p.1) ((n,O,T,l0,none,Bs)) (⟨hb,D0s _,e2,trivial,b3,fun _ e=>(by cases e)⟩) (by(try simp only[go_sem,seval])<;>(try simp(disch:=omega) [A5])<;>(try omega)) (by first|exact D1z _|exact A0 (by assumption)|exact B3 (by assumption)|simp only[Heap.Le,Heap.set,Heap.del]at* <;>grind) ?_;rintro Ec rfl ⟨k,cs,bs,l,J,Hp⟩ ⟨hs,hk,u,z,hp,U⟩;simp only at hs hk u z hp U;have a5:(mG bs J).one=true:=by cases J<;>rfl
 have a6:(mG bs J).cells= [mG bs J]:=by cases J<;>rfl
 have b4:(D.one.match_1 (fun _=>Bool) (mG bs J) (fun _=>false) (fun _=>false) (fun _=>false) fun _=>true)=true:=by cases J<;>rfl
 cases k with
 |zero=>cases hs
 |succ k=>
  cases l with
  |nil=>
   have hs:B2O cs=some b:=hs;have tc:=C1c cs b hs;have r0:(Rw C1 [])= []:=rfl;repeat' (first|with_reducible apply D0Y|simp only[go_sem,seval,u,r0]|simp(disch:=omega) only[C3]|simp(disch:=first|omega|grind) only[B4,D4]|(intro d;try simp only[A6]at d)|with_reducible refine tc _ _ ?_|omega)
   all_goals first|exact D10 hp h|skip
  |cons f l=>
   have hs:(if 1000<cs.length∨1000<l.length∨1000<f.ks.length then none else if f.op=1 then(if f.n=0 then some false else X1 k cs bs l)else if f.op=2 then X1 k (cs++[f.l]) bs l else if f.op=3 then(if A8x bs f.s=some false then some false else X1 k cs (A1Z bs f.s true) l)else if f.op=4 then(if f.ks= []then none else if A8x bs (f.ks.headD zeroF).s=some true then some false else X1 k cs (A1Z bs (f.ks.headD zeroF).s false) l)else if f.op=5 then X1 k cs bs (f.ks++l)else if f.op=6 then A5Z (X1 k) cs bs f.ks l else none)=some b:=hs;split at hs
   ·cases hs
   rename_i d4;have L:(0:Int)<(f::l).length:=by simp only[D0d];omega
   have hlen:(f::l).length=l.length+1:=rfl;have r0:(Rw C1 (f::l)).getD 0 []=C1 f:=rfl;have d1:=B7Y f l;have d2:=B7Z f l;by_cases o1:f.op=1
   ·rw[if_pos o1]at hs;by_cases n0:f.n=0
    ·rw[if_pos n0]at hs;injection hs with hs
     subst hs;repeat' (first|with_reducible apply D0Y|simp only[go_sem,seval,u,r0,d1,d2,o1,n0,L]|simp(disch:=omega) only[C3]|simp(disch:=first|omega|grind) only[B4,D4]|(intro d;try simp only[A6]at d)|omega)
     all_goals first|exact D10 (hp.trans (A0 (by assumption))) h|skip
    ·rw[if_neg n0]at hs;repeat' (first|with_reducible apply D0Y|simp only[go_sem,seval,u,r0,d1,d2,o1,n0,L]|simp(disch:=omega) only[C3]|simp(disch:=first|omega|grind) only[B4,D4]|(intro d;try simp only[A6]at d)|omega)
     exact C4 (k,cs,bs,l,J,Hp) ⟨hs,by simp only[];omega,u,z,hp,U⟩ (by simp only[];omega) (by(try simp only[go_sem,seval])<;>(try simp(disch:=omega) [A5])<;>(try omega)) (A0 (by assumption))
   ·rw[if_neg o1]at hs;by_cases o2:f.op=2
    ·rw[if_pos o2]at hs;have c3: ¬(2:Int)=1:=by decide
     repeat' (first|with_reducible apply D0Y|simp only[go_sem,seval,u,r0,d1,d2,c3,o2,L,a5,a6]|simp(disch:=omega) only[C3]|simp(disch:=first|omega|grind) only[B4,D4]|(intro d;try simp only[A6]at d)|omega)
     rename_i b5 h5 x;have hx:=d;clear d;refine A9I (es:=[E5 f.l]) (by first|exact hx|exact A6.2 hx) rfl ?_;refine B6x cs [f.l] (mG bs J) (C61 _ _) (by simp only[D0d,D0f];omega) _ ?_;repeat' (first|with_reducible apply D0Y|simp only[go_sem,seval,u,d1,a5,a6,b4]|simp(disch:=omega) only[C3]|simp(disch:=first|omega|grind) only[B4,D4]|(intro d;try simp only[A6]at d)|omega)
     refine C4 (k,cs++[f.l],bs,l,J,Hp.set y (.box [.sl 3 (Rw E5 (cs++[f.l])),mG bs J])) ⟨hs,by simp only[];omega,A3 _ _,?_,G6 hp g2,U⟩ (by simp only[];omega) (by(try simp only[go_sem,seval])<;>(try simp(disch:=omega) [A5])<;>(try omega)) (by simp only[D9,D2,D3]at* <;>grind);cases J with
     |none=>trivial
     |some m=>
      have z:Hp m=some (.map (bsC bs)):=z;have:m≠y:=fun e=>by rw[e,u]at z;cases z
      show (Heap.set _ y _) m=_;rw[A4 _ this];exact z
    ·rw[if_neg o2]at hs;by_cases a0:f.op=3∨f.op=4
     ·have c4: ∃M I,(if A8x bs M=some (!I)then some false else X1 k cs (A1Z bs M I) l)=some b∧((f.op=3∧M=f.s∧I=true)∨(f.op=4∧∃k0 r,f.ks=k0::r∧M=k0.s∧I=false)):=by
       by_cases o3:f.op=3
       ·rw[if_pos o3]at hs;exact⟨f.s,true,hs,.inl ⟨o3,rfl,rfl⟩⟩
       ·rw[if_neg o3,if_pos (by omega)]at hs;split at hs
        ·cases hs
        ·rename_i c5;cases b6:f.ks with
         |nil=>exact absurd b6 c5
         |cons k0 r=>
          rw[b6]at hs;exact⟨k0.s,false,hs,.inr ⟨by omega,k0,r,rfl,rfl,rfl⟩⟩
      obtain⟨M,I,hs,hw⟩:=c4;apply Y8 (C:=True)
      ·intro hJ;rcases hw with⟨o3,hn,a9⟩|⟨o4,k0,r,c6,hn,a9⟩
       ·have b0: ¬(3:Int)=1:=by decide
        have b1: ¬(3:Int)=2:=by decide
        have a0: ¬(3:Int)=4:=by decide
        repeat' (first|with_reducible apply D0Y|simp only[go_sem,seval,u,r0,d1,d2,b0,b1,a0,o3,L]|simp(disch:=omega) only[C3]|simp(disch:=first|omega|grind) only[B4,D4]|(intro d;try simp only[A6]at d)|omega)
        exact P9 [(1,.sl 7 (Rw C1 l)),(2,.box y 0),(6,.str M),(7,.bool I)] Hp (by(try simp only[go_sem,seval,hn,a9])<;>(try simp(disch:=omega) [A5])<;>(try omega)) (A0 (by assumption)) (hJ trivial)
       ·have b0: ¬(4:Int)=1:=by decide
        have b1: ¬(4:Int)=2:=by decide
        have a0: ¬(4:Int)=3:=by decide
        have rk:(Rw C1 (k0::r)).getD 0 []=C1 k0:=rfl;repeat' (first|with_reducible apply D0Y|simp only[go_sem,seval,u,r0,d1,d2,b0,b1,a0,o4,L,c6,rk]|simp(disch:=omega) only[C3]|simp(disch:=first|omega|grind) only[B4,D4]|(intro d;try simp only[A6]at d)|omega)
        all_goals first|decide|omega|skip
        exact P9 [(1,.sl 7 (Rw C1 l)),(2,.box y 0),(6,.str M),(7,.bool I)] Hp (by(try simp only[go_sem,seval,hn,a9])<;>(try simp(disch:=omega) [A5])<;>(try omega)) (A0 (by assumption)) (hJ trivial)
      intro _;rcases find_bsC M bs 0 with⟨h1,h2,h3⟩|⟨j,bv,_,h1,h2,h4⟩
      ·rw[h1,if_neg (by simp)]at hs;cases J with
       |none=>
        repeat' (first|with_reducible apply D0Y|simp only[go_sem,seval,u,h2,B9w]|simp(disch:=omega) only[C3]|simp(disch:=first|omega|grind) only[B4,D4]|(intro d;try simp only[A6]at d)|omega)
        refine A1X (bsC bs) _ fun bn g=>?_;have V:(Hp.set bn (.map (bsC bs))) y=some (.box [.sl 3 (Rw E5 cs),.fm (bsC bs)]):=by rw[A4 _ (fun e=>by rw[←e,u]at g;cases g)];exact u
        have A:bn≠y:=fun e=>by rw[e,u]at g;cases g
        have W: ∀X:Av.Obj,((Hp.set bn (.map (bsC bs))).set y X) bn=some (.map (bsC bs)):=fun X=>by rw[A4 _ A];exact A3 _ _
        have i:H.Le (Hp.set bn (.map (bsC bs))):=hp.trans (A0 g);have G:H bn=none:=hp.none g;generalize Hp.set bn (.map (bsC bs))=Cs at V W i⊢;repeat' (first|with_reducible apply D0Y|simp only[go_sem,seval,V,W,A3p]|simp(disch:=omega) only[C3]|simp(disch:=first|omega|grind) only[B4,D4]|(intro d;try simp only[A6]at d)|omega)
        refine C4 (k,cs,A1Z bs M I,l,some bn,(Cs.set y (.box [.sl 3 (Rw E5 cs),.map bn])).set bn (.map (bsC (A1Z bs M I)))) ⟨hs,by simp only[];omega,?_,A3 _ _,?_,fun m e=>(by cases e;exact G)⟩ (by simp only[];omega) (by(try simp only[go_sem,seval])<;>(try simp(disch:=omega) [A5])<;>(try omega)) (D1z _)
        ·show (Heap.set _ bn _) y=_;rw[A4 _ A.symm];exact A3 _ _
        ·exact G6 (G6 i g2) G
       |some m=>
        have z:Hp m=some (.map (bsC bs)):=z;repeat' (first|with_reducible apply D0Y|simp only[go_sem,seval,u,h2,z,B9x]|simp(disch:=omega) only[C3]|simp(disch:=first|omega|grind) only[B4,D4]|(intro d;try simp only[A6]at d)|omega)
        refine A2m m (bsC bs) _ z fun bn g=>?_;have V:(Hp.set bn (.map (bsC bs))) y=some (.box [.sl 3 (Rw E5 cs),.map m]):=by rw[A4 _ (fun e=>by rw[←e,u]at g;cases g)];exact u
        have A:bn≠y:=fun e=>by rw[e,u]at g;cases g
        have W: ∀X:Av.Obj,((Hp.set bn (.map (bsC bs))).set y X) bn=some (.map (bsC bs)):=fun X=>by rw[A4 _ A];exact A3 _ _
        have i:H.Le (Hp.set bn (.map (bsC bs))):=hp.trans (A0 g);have G:H bn=none:=hp.none g;generalize Hp.set bn (.map (bsC bs))=Cs at V W i⊢;repeat' (first|with_reducible apply D0Y|simp only[go_sem,seval,V,W,A3p]|simp(disch:=omega) only[C3]|simp(disch:=first|omega|grind) only[B4,D4]|(intro d;try simp only[A6]at d)|omega)
        refine C4 (k,cs,A1Z bs M I,l,some bn,(Cs.set y (.box [.sl 3 (Rw E5 cs),.map bn])).set bn (.map (bsC (A1Z bs M I)))) ⟨hs,by simp only[];omega,?_,A3 _ _,?_,fun m e=>(by cases e;exact G)⟩ (by simp only[];omega) (by(try simp only[go_sem,seval])<;>(try simp(disch:=omega) [A5])<;>(try omega)) (D1z _)
        ·show (Heap.set _ bn _) y=_;rw[A4 _ A.symm];exact A3 _ _
        ·exact G6 (G6 i g2) G
      ·rw[h1]at hs;by_cases a4:bv= !I
       ·rw[if_pos (by rw[a4])]at hs;injection hs with hs
        subst hs;have Y: ¬bv=I:=by rw[a4];cases I<;>simp
        cases J with
        |none=>
         repeat' (first|with_reducible apply D0Y|simp only[go_sem,seval,u,h2,B9w,Y]|simp(disch:=omega) only[C3]|simp(disch:=first|omega|grind) only[B4,D4]|(intro d;try simp only[A6]at d)|omega)
         all_goals first|exact D10 hp h|skip
        |some m=>
         have z:Hp m=some (.map (bsC bs)):=z;repeat' (first|with_reducible apply D0Y|simp only[go_sem,seval,u,h2,z,B9x,Y]|simp(disch:=omega) only[C3]|simp(disch:=first|omega|grind) only[B4,D4]|(intro d;try simp only[A6]at d)|omega)
         all_goals first|exact D10 hp h|skip
       ·rw[if_neg (fun e=>a4 (by injection e))]at hs;have Y:bv=I:=by cases bv<;>cases I<;>simp at a4⊢
        cases J with
        |none=>
         repeat' (first|with_reducible apply D0Y|simp only[go_sem,seval,u,h2,B9w,Y]|simp(disch:=omega) only[C3]|simp(disch:=first|omega|grind) only[B4,D4]|(intro d;try simp only[A6]at d)|omega)
         refine A1X (bsC bs) _ fun bn g=>?_;have V:(Hp.set bn (.map (bsC bs))) y=some (.box [.sl 3 (Rw E5 cs),.fm (bsC bs)]):=by rw[A4 _ (fun e=>by rw[←e,u]at g;cases g)];exact u
         have A:bn≠y:=fun e=>by rw[e,u]at g;cases g
         have W: ∀X:Av.Obj,((Hp.set bn (.map (bsC bs))).set y X) bn=some (.map (bsC bs)):=fun X=>by rw[A4 _ A];exact A3 _ _
         have i:H.Le (Hp.set bn (.map (bsC bs))):=hp.trans (A0 g);have G:H bn=none:=hp.none g;generalize Hp.set bn (.map (bsC bs))=Cs at V W i⊢;repeat' (first|with_reducible apply D0Y|simp only[go_sem,seval,V,W,A3p]|simp(disch:=omega) only[C3]|simp(disch:=first|omega|grind) only[B4,D4]|(intro d;try simp only[A6]at d)|omega)
         refine C4 (k,cs,A1Z bs M I,l,some bn,(Cs.set y (.box [.sl 3 (Rw E5 cs),.map bn])).set bn (.map (bsC (A1Z bs M I)))) ⟨hs,by simp only[];omega,?_,A3 _ _,?_,fun m e=>(by cases e;exact G)⟩ (by simp only[];omega) (by(try simp only[go_sem,seval])<;>(try simp(disch:=omega) [A5])<;>(try omega)) (D1z _)
         ·show (Heap.set _ bn _) y=_;rw[A4 _ A.symm];exact A3 _ _
         ·exact G6 (G6 i g2) G
        |some m=>
         have z:Hp m=some (.map (bsC bs)):=z;repeat' (first|with_reducible apply D0Y|simp only[go_sem,seval,u,h2,z,B9x,Y]|simp(disch:=omega) only[C3]|simp(disch:=first|omega|grind) only[B4,D4]|(intro d;try simp only[A6]at d)|omega)
         refine A2m m (bsC bs) _ z fun bn g=>?_;have V:(Hp.set bn (.map (bsC bs))) y=some (.box [.sl 3 (Rw E5 cs),.map m]):=by rw[A4 _ (fun e=>by rw[←e,u]at g;cases g)];exact u
         have A:bn≠y:=fun e=>by rw[e,u]at g;cases g
         have W: ∀X:Av.Obj,((Hp.set bn (.map (bsC bs))).set y X) bn=some (.map (bsC bs)):=fun X=>by rw[A4 _ A];exact A3 _ _
         have i:H.Le (Hp.set bn (.map (bsC bs))):=hp.trans (A0 g);have G:H bn=none:=hp.none g;generalize Hp.set bn (.map (bsC bs))=Cs at V W i⊢;repeat' (first|with_reducible apply D0Y|simp only[go_sem,seval,V,W,A3p]|simp(disch:=omega) only[C3]|simp(disch:=first|omega|grind) only[B4,D4]|(intro d;try simp only[A6]at d)|omega)
         refine C4 (k,cs,A1Z bs M I,l,some bn,(Cs.set y (.box [.sl 3 (Rw E5 cs),.map bn])).set bn (.map (bsC (A1Z bs M I)))) ⟨hs,by simp only[];omega,?_,A3 _ _,?_,fun m e=>(by cases e;exact G)⟩ (by simp only[];omega) (by(try simp only[go_sem,seval])<;>(try simp(disch:=omega) [A5])<;>(try omega)) (D1z _)
         ·show (Heap.set _ bn _) y=_;rw[A4 _ A.symm];exact A3 _ _
         ·exact G6 (G6 i g2) G
     ·rw[if_neg (by omega),if_neg (by omega)]at hs;by_cases o5:f.op=5
      ·rw[if_pos o5]at hs;have c7: ¬(5:Int)=1:=by decide
       have c8: ¬(5:Int)=2:=by decide
       have c9: ¬(5:Int)=3:=by decide
       have d0: ¬(5:Int)=4:=by decide
       repeat' (first|with_reducible apply D0Y|simp only[go_sem,seval,u,r0,d1,d2,c7,c8,c9,d0,o5,L]|simp(disch:=omega) only[C3]|simp(disch:=first|omega|grind) only[B4,D4]|(intro d;try simp only[A6]at d)|omega)
       rename_i b5 h5 x;have hx:=d;clear d;refine X5 (es:=[[.sl 7 (Rw C1 f.ks)],[.sl 7 (Rw C1 l)]]) (by first|exact hx|exact A6.2 hx) rfl ?_;refine A7q f.ks l (by omega) _ ?_;repeat' (first|with_reducible apply D0Y|simp only[go_sem,seval]|simp(disch:=omega) only[C3]|simp(disch:=first|omega|grind) only[B4,D4]|(intro d;try simp only[A6]at d)|omega)
       exact C4 (k,cs,bs,f.ks++l,J,Hp) ⟨hs,by simp only[];omega,u,z,hp,U⟩ (by simp only[];omega) (by(try simp only[go_sem,seval])<;>(try simp(disch:=omega) [A5])<;>(try omega)) (A0 h5)
      ·rw[if_neg o5]at hs;by_cases o6:f.op=6
       ·rw[if_pos o6]at hs;have b7: ¬(6:Int)=1:=by decide
        have b8: ¬(6:Int)=2:=by decide
        have b9: ¬(6:Int)=3:=by decide
        have c0: ¬(6:Int)=4:=by decide
        have c1: ¬(6:Int)=5:=by decide
        have cc:=fun(Q:D→Heap→Prop) (H:Heap)=>B7X k (ih k (by omega)) Q cs bs f.ks l b hs H;cases J with
        |none=>
         repeat' (first|with_reducible apply D0Y|simp only[go_sem,seval,u,r0,d1,d2,b7,b8,b9,c0,c1,o6,L,B9w]|simp(disch:=omega) only[C3]|simp(disch:=first|omega|grind) only[B4,D4]|(intro d;try simp only[A6]at d)|omega)
         refine cc _ _ ?_;repeat' (first|with_reducible apply D0Y|simp only[go_sem,seval]|simp(disch:=omega) only[C3]|simp(disch:=first|omega|grind) only[B4,D4]|(intro d;try simp only[A6]at d)|omega)
         exact D10 (hp.trans (A0 (by assumption))) h
        |some m=>
         have z:Hp m=some (.map (bsC bs)):=z;repeat' (first|with_reducible apply D0Y|simp only[go_sem,seval,u,r0,d1,d2,b7,b8,b9,c0,c1,o6,L,B9x]|simp(disch:=omega) only[C3]|simp(disch:=first|omega|grind) only[B4,D4]|(intro d;try simp only[A6]at d)|omega)
         rename_i b5;have h5:=d;clear d;have d3:m≠b5:=fun e=>by rw[←e,z]at h5;cases h5
         have d5:y≠m:=fun e=>by rw[←e,u]at z;cases z
         refine A6s (by rw[A4 _ d3];exact z) ?_;refine cc _ _ ?_;repeat' (first|with_reducible apply D0Y|simp only[go_sem,seval]|simp(disch:=omega) only[C3]|simp(disch:=first|omega|grind) only[B4,D4]|(intro d;try simp only[A6]at d)|omega)
         refine D10 (fun q o hq=>?_) h;have q5:q≠m:=fun e=>by rw[e,U m rfl]at hq;cases hq
         rw[D4 q5];exact hp.trans (A0 h5) _ _ hq
       ·rw[if_neg o6]at hs;cases hs
theorem B9z: ∀n,A6d n:=fun n=>by
 induction n using Nat.strongRecOn with
 |_ n d=>exact B9y n d
theorem C3s(m x:D):NilR (.agg [.nilsl,m]) (.agg [.sl 3 [],m]):=by
 refine .agg _ _ rfl fun i d d' h1 e=>?_
 match i with
 |0=>cases h1;cases e;exact .nil 3
 |1=>cases h1;cases e;exact .same _
 |i+2=>cases h1
theorem A3r{Q}(f:Fm)(p:I5 E4 f=true)(q:FmFit f)(more:List LinV)(hm:more.length≤1000)(b:Bool)(hs:X2 f more=some b)(H:Heap)(h:Q (.bool b) H):E3 73 [.agg (C1 f),.sl 3 (Rw E5 more)] H Q:=by
 refine A29 (ops:=svOps) A8 Tryz.func73 rfl (by kernel_rfl) (D0Z (by kernel_rfl)) 8 4 rfl (by kernel_rfl) (by kernel_rfl) (by kernel_rfl) (by kernel_rfl) (by kernel_rfl) ?_;simp only[go_sem,seval];intro g m;have o:(H.set g (.box (C1 f))) g=some (.box (C1 f)):=A3 _ _;have j:H.Le (H.set g (.box (C1 f))):=A0 m;generalize H.set g (.box (C1 f))=Bs at o j⊢;unfold X2 at hs;refine⟨fun i=>if i=0 then .fm []else if i=1 then .agg [.nilsl,.fm []]else if i=2 then .sl 3 (Rw E5 more)else if i=3 then .agg [.sl 3 (Rw E5 more),.fm []]else if i=4 then .agg (C1 f)else if i=5 then .agg (C1 (normF f false))else if i=6 then .sl 7 (Rw C1 [normF f false])else .bool b,C3a ?_ ?_ ?_ ?_ ?_ ?_ ?_ ?_ ?_,?_⟩
 ·intro ev e;simp only[go_sem,seval,];intro x hx;refine A45 (kvs:=[]) (A3 _ _) ?_;rw[E7 hx];refine D13 ?_;exact⟨rfl,rfl⟩
 ·intro ev e e1;simp only[go_sem,seval,show ev (.tmp 5)= .fm []from e1,show (D.fm []).cells= [D.fm []]from rfl];exact D13 ⟨rfl,rfl⟩
 ·intro ev e e1;simp only[go_sem,seval,show ev (.tmp 1)= .sl 3 (Rw E5 more)from e1];exact D13 ⟨rfl,rfl⟩
 ·intro ev e e1 e2;simp only[go_sem,seval,show ev (.tmp 6)= .agg [.nilsl,.fm []]from e1,show ev (.tmp 7)= .sl 3 (Rw E5 more)from e2,e.func];refine O2 (args':=[.agg [.sl 3 (Rw E5 []),.fm []],.sl 3 (Rw E5 more)]) rfl (fun i d d' h1 m=>?_) (B6x [] more (.fm []) (.inl ⟨_,rfl⟩) (by simp only[D0f];omega) _ (D13 ?_))
  rotate_left
  ·exact⟨rfl,rfl⟩
  match i with
  |0=>cases h1;cases m;exact C3s _ (.fm [])
  |1=>cases h1;cases m;exact .same _
  |i+2=>cases h1
 ·intro ev e e1;simp only[go_sem,seval,show ev (.tmp 2)= .box g 0 from e1,o];exact D13 ⟨rfl,rfl⟩
 ·intro ev e e1;simp only[go_sem,seval,show ev (.tmp 9)= .agg (C1 f)from e1,e.func,show ev (.const (.bool false))= .bool false from e.const _];exact A6c f p q false _ (D13 ⟨rfl,rfl⟩)
 ·intro ev e e1;simp only[go_sem,seval,show ev (.tmp 10)= .agg (C1 (normF f false))from e1];exact fun x hx=>A5a hx rfl ⟨rfl,rfl⟩
 ·intro ev e e1 e2;simp only[go_sem,seval,show ev (.tmp 8)= .agg [.sl 3 (Rw E5 more),.fm []]from e1,show ev (.tmp 11)= .sl 7 (Rw C1 [normF f false])from e2,e.func];exact B9z 60 _ more [] [normF f false] b hs _ (D13 ⟨rfl,rfl⟩)
 ·intro ev e e1;simp only[go_sem,seval,show ev (.tmp 12)= .bool b from e1];exact D13 ⟨rfl,rfl⟩
 ·exact D10 j h
theorem A7v{Q}(f g:Fm)(I:I5 E4 f=true)(A:FmFit f)(r:I5 E4 g=true)(u:FmFit g)(b:Bool)(hs:X2 (.mk 5 0 nilL D8 [f,normF g true]) []=some b)(hn:I5 E4 (.mk 5 0 nilL D8 [f,normF g true])=true)(H:Heap)(h:Q (.bool (!b)) H):E3 84 [.agg (C1 f),.agg (C1 g)] H Q:=by
 refine A29 (ops:=foOps) A8 Tryz.func84 rfl (by kernel_rfl) (D0Z (by kernel_rfl)) 7 4 rfl (by kernel_rfl) (by kernel_rfl) (by kernel_rfl) (by kernel_rfl) (by kernel_rfl) ?_;simp only[go_sem,seval];intro j C m p;simp only[A6]at p;have q:j≠m:=fun e=>p.1 e.symm;have y:((H.set j (.box (C1 f))).set m (.box (C1 g))) j=some (.box (C1 f)):=by rw[A4 _ q,A3]
 have z:((H.set j (.box (C1 f))).set m (.box (C1 g))) m=some (.box (C1 g)):=A3 _ _;have o:H.Le ((H.set j (.box (C1 f))).set m (.box (C1 g))):=(A0 C).trans (A0 (by simp only[A6];exact p));generalize (H.set j (.box (C1 f))).set m (.box (C1 g))=Bs at y z o⊢;have G:FmFit (.mk 5 0 nilL D8 [f,normF g true]):=P5 (by simp[U6]) (by simp) fun k hk=>by
  simp only[D00,D01,or_false]at hk;rcases hk with rfl|rfl
  ·exact A
  ·exact(B0q g true r u).1
 refine⟨fun i=>if i=0 then .agg (C1 f)else if i=1 then .agg (C1 g)else if i=2 then .agg (C1 (normF g true))else if i=3 then .sl 7 (Rw C1 [f,normF g true])else if i=4 then .agg (C1 (.mk 5 0 nilL D8 [f,normF g true]))else if i=5 then .bool b else .bool (!b),C3c ?_ ?_ ?_ ?_ ?_ ?_ ?_ ?_,?_⟩
 ·intro ev d e1;simp only[go_sem,seval,show ev (.tmp 2)= .box j 0 from e1,y];exact D13 ⟨rfl,rfl⟩
 ·intro ev d e1;simp only[go_sem,seval,show ev (.tmp 3)= .box m 0 from e1,z];exact D13 ⟨rfl,rfl⟩
 ·intro ev d e1;simp only[go_sem,seval,show ev (.tmp 6)= .agg (C1 g)from e1,d.func,show ev (.const (.bool true))= .bool true from d.const _];exact A6c g r u true _ (D13 ⟨rfl,rfl⟩)
 ·intro ev d e1 e2;simp only[go_sem,seval,show ev (.tmp 5)= .agg (C1 f)from e1,show ev (.tmp 7)= .agg (C1 (normF g true))from e2];exact fun x hx=>A5a hx rfl ⟨rfl,rfl⟩
 ·intro ev d e1;simp only[go_sem,seval,show ev (.tmp 8)= .sl 7 (Rw C1 [f,normF g true])from e1,show ev (.const (.int .i64 5))= .int .i64 5 from d.const _];refine D7 (B2B 5 0 0 false D8 _) (D13 ?_);exact⟨rfl,rfl⟩
 ·intro ev d e1;simp only[go_sem,seval,show ev (.tmp 9)= .agg (C1 (.mk 5 0 nilL D8 [f,normF g true]))from e1,d.func,show ev (.const (.slice none 0 0))= .nilsl from d.const _];refine A0a 3 ?_;exact A3r _ hn G [] (by simp) b hs _ (D13 ⟨rfl,rfl⟩)
 ·intro ev d e1;simp only[go_sem,seval,show ev (.tmp 10)= .bool b from e1];exact D13 ⟨rfl,rfl⟩
 ·intro ev d e1;simp only[go_sem,seval,show ev (.tmp 11)= .bool (!b)from e1];exact D13 ⟨rfl,rfl⟩
 ·exact D10 o h
theorem B90{Q}(b:Nat)(o ms:List ByteArray)(W:o.Nodup)(H:Heap)(hb:H b=some (.map (D1 tt o)))
  (h: ∀K:List ByteArray,K.Nodup→(∀x,x∈K↔x∈o∨x∈ms)→Q (.tuple []) (H.set b (.map (D1 tt K)))):E3 126 [.map b,.fm (D1 tt ms)] H Q:=by
 refine A9 [] A8 Tryz.func126 rfl ?_;simp only[go_sem,seval,Tryz.results126];have m:(D1 tt ms).length=ms.length:=by simp[D1]
 repeat' intro r
 rename_i d;have J:=r;clear r;have y:b≠d:=fun e=>by rw[←e,hb]at J;cases J
 have Y:H.set d (.rng (D1 tt ms) [])=(H.set b (.map (D1 tt o))).set d (.rng (D1 tt ms) []):=by rw[B3S hb]
 rw[Y];refine C9 [0,7] (fun(p:List Nat×List ByteArray)=>[]) (fun(p:List Nat×List ByteArray)=>(H.set b (.map (D1 tt p.2))).set d (.rng (D1 tt ms) p.1)) (fun(p:List Nat×List ByteArray)=>p.2.Nodup∧∀x,x∈p.2↔x∈o∨∃i,∃g:i<ms.length,i∈p.1∧ms[i]=x) (fun(p:List Nat×List ByteArray)=>A6b ms.length p.1) (([],o)) (⟨W,fun x=>by simp⟩) (by simp only[go_sem,seval]) (by first|exact D1z _|exact A0 (by assumption)|exact B3 (by assumption)|simp only[Heap.Le,Heap.set,Heap.del]at* <;>grind) ?_;rintro Ec rfl ⟨s,K⟩ ⟨A,hs⟩;simp only at A hs;have e7:((H.set b (.map (D1 tt K))).set d (.rng (D1 tt ms) s)) d=some (.rng (D1 tt ms) s):=A3 _ _;repeat' simp only[go_sem,seval,e7]
 refine A8U (fun i g hn=>?_) (fun u=>?_)
 ·rw[m]at g;have T:(((H.set b (.map (D1 tt K))).set d (.rng (D1 tt ms) s)).set d (.rng (D1 tt ms) (s++[i]))) d=some (.rng (D1 tt ms) (s++[i])):=A3 _ _;have U:(((H.set b (.map (D1 tt K))).set d (.rng (D1 tt ms) s)).set d (.rng (D1 tt ms) (s++[i]))) b=some (.map (D1 tt K)):=by rw[A4 _ y,A4 _ y];exact A3 _ _
  have ek:(D1 tt ms)[i]? =some (.str ms[i],.bool true):=by simp[D1,g]
  have L:(D1 tt ms)[i]'(by rw[m];exact g)=(.str ms[i],.bool true):=by simp[D1]
  have V: ∀X:Av.Obj,((((H.set b (.map (D1 tt K))).set d (.rng (D1 tt ms) s)).set d (.rng (D1 tt ms) (s++[i]))).set b X)=(H.set b X).set d (.rng (D1 tt ms) (s++[i])):=fun X=>by
   funext k
   by_cases C:k=b
   ·subst C;rw[A3,A4 _ y,A3]
   ·rw[A4 _ C];by_cases G:k=d
    ·subst G;rw[A3,A3]
    ·rw[A4 _ G,A4 _ G,A4 _ C,A4 _ G,A4 _ C]
  generalize (((H.set b (.map (D1 tt K))).set d (.rng (D1 tt ms) s)).set d (.rng (D1 tt ms) (s++[i])))=Gs at T U V⊢;repeat' simp only[go_sem,seval,T,U,ek,L,List.getLast?_concat,Z1 _ _ _ _ A,A26]
  refine C4 (s++[i],I4 K ms[i]) ⟨A25 A,fun x=>?_⟩ (A18 g hn) (by simp only[go_sem,seval]) (by show Heap.Le ((H.set b _).set d _) _;rw[←V];exact D1z _);simp only[B0Z];rw[hs x];constructor
  ·rintro((q|⟨j,M,O,I⟩)|q)
   ·exact .inl q
   ·exact .inr ⟨j,M,List.mem_append_left _ O,I⟩
   ·exact .inr ⟨i,g,by simp,q.symm⟩
  ·rintro(q|⟨j,M,O,I⟩)
   ·exact .inl (.inl q)
   ·rcases D0y.1 O with z|z
    ·exact .inl (.inr ⟨j,M,z,I⟩)
    ·rw[D0z]at z;subst z;exact .inr I.symm
 ·repeat' simp only[go_sem,seval]
  refine D10 (A0 (by rw[A4 _ y.symm];exact J)) (h K A fun x=>?_);rw[hs x];refine or_congr Iff.rfl ⟨?_,fun hx=>?_⟩
  ·rintro⟨i,g,_,rfl⟩;exact D0m g
  ·obtain⟨i,g,rfl⟩:=List.getElem_of_mem hx;exact⟨i,g,u i (by rw[m];exact g),rfl⟩
theorem B7a{Q}(ks ms:List ByteArray)(d:ks.Nodup)(H:Heap)(h: ∀K:List ByteArray,K.Nodup→(∀x,x∈K↔x∈ks∨x∈ms)→Q (.fm (D1 tt K)) H):E3 75 [.fm (D1 tt ks),.fm (D1 tt ms)] H Q:=by
 refine A9 [] A8 Tryz.func75 rfl ?_;simp only[go_sem,seval,Tryz.results75];repeat' (first|with_reducible apply D0Y|simp only[go_sem,seval]|simp(disch:=omega) only[C3]|simp(disch:=first|omega|grind) only[D4]|intro g|omega)
 refine A1X _ _ fun b hb=>?_;repeat' simp only[go_sem,seval]
 refine B90 b ks ms d _ (A3 _ _) fun K i hx=>?_;repeat' simp only[go_sem,seval]
 exact A45 (kvs:=D1 tt K) (A3 _ _) (D10 (fun k o hk=>by
  have:k≠b:=fun e=>by rw[e,hb]at hk;cases hk
  rw[D4 this,A4 _ this];exact hk) (h K i hx))
theorem C1d{Q}(f g:Fm)(q:FmFit f)(r:FmFit g)(G:VOk f)(I:VOk g)(J:E6 f=true)(L:E6 g=true)(hm:meetL (D5.intsL [f,g]) (C7.boolsL [f,g])=false)(hl:(upS (D5.intsL [f,g])).length+(upS (C7.boolsL [f,g])).length≤12)(H:Heap)(h:Q (.int .i64 0) H):
  E3 83 [.agg (C1 f),.agg (C1 g)] H Q:=by
 refine A9 [] A8 Tryz.func83 rfl ?_;simp only[go_sem,seval,Tryz.results83];intro i M j o;simp only[A6]at o;have p:i≠j:=fun e=>o.1 e.symm;have u:((H.set i (.box (C1 f))).set j (.box (C1 g))) i=some (.box (C1 f)):=by rw[A4 _ p,A3]
 have y:((H.set i (.box (C1 f))).set j (.box (C1 g))) j=some (.box (C1 g)):=A3 _ _;have m:H.Le ((H.set i (.box (C1 f))).set j (.box (C1 g))):=(A0 M).trans (A0 (by simp only[A6];exact o));generalize (H.set i (.box (C1 f))).set j (.box (C1 g))=Bs at u y m⊢;have z:=fun(Q:D→Heap→Prop) (H:Heap)=>R4 (Q:=Q) f q G H;have A:=fun(Q:D→Heap→Prop) (H:Heap)=>R4 (Q:=Q) g r I H;rw[J]at z;rw[L]at A;have O:(D1 tt (J5 (D5.intsL [f,g]))).length=(upS (D5.intsL [f,g])).length:=by rw[show (D1 tt (J5 (D5.intsL [f,g]))).length=(J5 (D5.intsL [f,g])).length by simp[D1],A3l]
 have T:(D1 tt (J5 (C7.boolsL [f,g]))).length=(upS (C7.boolsL [f,g])).length:=by rw[show (D1 tt (J5 (C7.boolsL [f,g]))).length=(J5 (C7.boolsL [f,g])).length by simp[D1],A3l]
 have C:=fun(Q:D→Heap→Prop) (H:Heap)=>B2T (Q:=Q) (J5 (D5.intsL [f,g])) (J5 (C7.boolsL [f,g])) H;rw[A0I (l':=D5.intsL [f,g]) (m':=C7.boolsL [f,g]) (fun x=>G3 _ _) (fun x=>G3 _ _),hm]at C;have U: ¬((12:Int)<((upS (D5.intsL [f,g])).length:Int)+(upS (C7.boolsL [f,g])).length):=by omega
 repeat' (first|simp only[go_sem,seval,u,y]|(intro d;try simp only[A6]at d)|with_reducible refine z _ _ ?_|with_reducible refine A _ _ ?_)
 rename_i x;have hx:=d;clear d;refine X5 (es:=Rw C1 [f,g]) hx rfl ?_;refine A81 [f,g] (fun k hk=>by
  simp only[D00,D01,or_false]at hk;rcases hk with rfl|rfl
  ·exact q
  ·exact r) (by simp) _ ?_
 repeat' (first|with_reducible apply D0Y|simp only[go_sem,seval,O,T,U]|simp(disch:=omega) only[A5,C3]|with_reducible refine C _ _ ?_)
 exact D10 m h
end Go.Proofs.YtibphjonmikciaaGreatDoor
namespace Go.Fo
open Go Go.Av Go.Lexs Go.Lin
def Q1:Fm→List VlV→Bool
 | .mk o n l s ks,vs=>
  if o=1 then decide (n=1)
  else if o=2 then B1u l ((T6 l.k l.t vs).getD 0)
  else if o=3 then decide ((P0 vs s).getD 0=1)
  else if o=4 then !valH ks vs
  else if o=5 then valA ks vs
  else valE ks vs
where
 valH:List Fm→List VlV→Bool
 | [],_=>false
 |f::_,vs=>Q1 f vs
 valA:List Fm→List VlV→Bool
 | [],_=>true
 |f::fs,vs=>Q1 f vs&&valA fs vs
 valE:List Fm→List VlV→Bool
 | [],_=>false
 |f::fs,vs=>Q1 f vs||valE fs vs
theorem B91(ks:List Fm)(vs:List VlV):Q1.valA ks vs=ks.all (Q1 · vs):=by
 induction ks with
 |nil=>rfl
 |cons f fs d=>rw[Q1.valA,d];rfl
theorem B92(ks:List Fm)(vs:List VlV):Q1.valE ks vs=ks.any (Q1 · vs):=by
 induction ks with
 |nil=>rfl
 |cons f fs d=>rw[Q1.valE,d];rfl
theorem C9I{f:Fm}(vs:List VlV)(h:f.op=1):Q1 f vs=decide (f.n=1):=by
 obtain⟨o,n,l,s,ks⟩:=f;simp only[Fm.op]at h;subst h;rw[Q1,if_pos rfl];rfl
theorem C9J{f:Fm}(vs:List VlV)(h:f.op=2):Q1 f vs=B1u f.l ((T6 f.l.k f.l.t vs).getD 0):=by
 obtain⟨o,n,l,s,ks⟩:=f;simp only[Fm.op]at h;subst h;rw[Q1,if_neg (by decide),if_pos rfl];rfl
theorem C9K{f:Fm}(vs:List VlV)(h:f.op=3):Q1 f vs=decide ((P0 vs f.s).getD 0=1):=by
 obtain⟨o,n,l,s,ks⟩:=f;simp only[Fm.op]at h;subst h;rw[Q1,if_neg (by decide),if_neg (by decide),if_pos rfl];rfl
theorem C9L{f k:Fm}(vs:List VlV)(h:f.op=4)(hk:f.ks= [k]):Q1 f vs= !Q1 k vs:=by
 obtain⟨o,n,l,s,ks⟩:=f;simp only[Fm.op]at h;simp only[Fm.ks]at hk;subst h;subst hk;rw[Q1,if_neg (by decide),if_neg (by decide),if_neg (by decide),if_pos rfl];rfl
theorem C9M{f:Fm}(vs:List VlV)(h:f.op=5):Q1 f vs=f.ks.all (Q1 · vs):=by
 obtain⟨o,n,l,s,ks⟩:=f;simp only[Fm.op]at h;subst h;rw[Q1,if_neg (by decide),if_neg (by decide),if_neg (by decide),if_neg (by decide),if_pos rfl,B91];rfl
theorem C9N{f:Fm}(vs:List VlV)(h:f.op=6):Q1 f vs=f.ks.any (Q1 · vs):=by
 obtain⟨o,n,l,s,ks⟩:=f;simp only[Fm.op]at h;subst h;rw[Q1,if_neg (by decide),if_neg (by decide),if_neg (by decide),if_neg (by decide),if_neg (by decide),B92];rfl
def A6e(f:Fm)(vs:List VlV):Bool:=(ivF f).all (fun s=>(P0 vs s).isSome)&&(bvF f).all (fun s=>(P0 vs s).isSome)
def bits(f:Fm)(vs:List VlV):Bool:=(bvF f).all fun s=>decide ((P0 vs s).getD 0=0)||decide ((P0 vs s).getD 0=1)
def atF(f:Fm)(vs:List VlV):Bool×Int:=
 if E6 f=true∧M8 vs=true then(if A6e f vs=true then(if bits f vs=true then(Q1 f vs,0)else(false,20))else(false,13))else(false,2)
theorem A4d(f:Fm)(vs:List VlV):A6e f vs=true↔∀s,s∈D5 f∨s∈C7 f→(P0 vs s).isSome=true:=by
 unfold A6e ivF bvF;simp only[D0l,D09,Q0];constructor
 ·rintro⟨h1,d⟩ s (h|h);exact h1 s h;exact d s h
 ·intro h;exact⟨fun s hs=>h s (.inl hs),fun s hs=>h s (.inr hs)⟩
theorem B01(f:Fm)(vs:List VlV):bits f vs=true↔∀s∈C7 f,(P0 vs s).getD 0=0∨(P0 vs s).getD 0=1:=by
 unfold bits bvF;simp only[D09,Q0,D1v,D0u]
def bothF(o:Int)(l:List Fm):Fm×Int:=
 if l.all E6=true then(if meetL (D5.intsL l) (C7.boolsL l)=true then(zeroF,15)else if E6 (.mk o 0 nilL D8 l)=true then(.mk o 0 nilL D8 l,0)else(zeroF,3))else(zeroF,2)
def nX:ByteArray:=⟨#[120]⟩
def nB:ByteArray:=⟨#[98]⟩
def fxL(k:Int)(e:Bool):Fm:=A3A ⟨[⟨nX,1⟩],k,e⟩
def fxV:Fm:=.mk 3 0 nilL nB []
def A4e:Fm:=.mk 4 0 nilL D8 [fxV]
def A1A(l:List Fm):Fm:=.mk 5 0 nilL D8 l
def fxF:Fm:=A1A [fxL (-1) false,.mk 6 0 nilL D8 [fxL (-3) true,A4e]]
def fxP:Fm:=fxL 0 false
def fxN:Fm:=normF fxF true
def fxA:Fm:=A1A [fxF,fxN]
def fxS:Fm:=A1A [fxF,A4e]
def fxVals:List VlV:=[⟨nB,0⟩,⟨nX,1⟩]
theorem A84:E8 fxF= [38,40,120,45,49,62,61,48,44,32,124,40,120,45,51,61,48,44,32,33,63,98,41,41]:=by decide+kernel
theorem B02:E8 fxP= [120,62,61,48]:=by decide+kernel
theorem B7b:E8 fxN= [124,40,45,120,62,61,48,44,32,38,40,124,40,120,45,52,62,61,48,44,32,45,120,43,50,62,61,48,41,44,32,63,98,41,41]:=by decide+kernel
theorem Q7:E6 fxF=true∧E6 fxP=true∧E6 fxN=true∧E6 fxA=true:=by decide+kernel
theorem A4f:X2 fxF []=some true∧X2 fxA []=some false∧X2 (A1A [fxF,normF fxP true]) []=some false∧X2 (A1A [fxF,normF fxF true]) []=some false∧X2 fxS []=some true:=by decide+kernel
theorem B93:B59 (fun more=>X2 fxS more) nX=some 1:=by decide+kernel
theorem C62:atF fxF fxVals=(true,0):=by decide+kernel
theorem B3g:ivF fxF= [nX]∧bvF fxF= [nB]:=by decide+kernel
theorem C3t:B62 fxF=(fxN,0):=by
 unfold B62;rw[if_pos Q7.1,if_pos (show E6 (normF fxF true)=true from Q7.2.2.1)];rfl
theorem B3h:meetL (D5.intsL [fxF,fxN]) (C7.boolsL [fxF,fxN])=false∧meetL (D5.intsL []) (C7.boolsL [])=false:=by decide+kernel
theorem C3u:bothF 5 [fxF,fxN]=(fxA,0):=by
 unfold bothF;rw[if_pos (by simp only[D1b,List.all_nil,Q7.1,Q7.2.2.1,Bool.and_true]),B3h.1,if_neg (by decide),if_pos (show E6 (.mk 5 0 nilL D8 [fxF,fxN])=true from Q7.2.2.2)];rfl
theorem C3v:E6 (.mk 6 0 nilL D8 [])=true:=by decide+kernel
theorem C63:bothF 6 []=(.mk 6 0 nilL D8 [],0):=by
 unfold bothF;rw[if_pos (show List.all [] E6=true from rfl),B3h.2,if_neg (by decide),if_pos C3v]
structure RdS(H H':Heap)(br:Nat)(r:List UInt8)(bad:Bool):Prop where
 here:H' br=some (.box [.str (S r),.bool bad])
 els: ∀k,k≠br→H' k=H k
theorem RdS.set(H:Heap)(br:Nat)(r:List UInt8)(bad:Bool):RdS H (H.set br (.box [.str (S r),.bool bad])) br r bad:=⟨A3 _ _,fun _ hk=>A4 _ hk⟩
theorem RdS.trans{H e i:Heap}{br:Nat}{r j:List UInt8}{bad d:Bool}(h:RdS H e br r bad)(g:RdS e i br j d):RdS H i br j d:=⟨g.here,fun k hk=>(g.els k hk).trans (h.els k hk)⟩
theorem RdS.keep{H H':Heap}{br b:Nat}{r:List UInt8}{bad:Bool}(h:RdS H H' br r bad){o:Av.Obj}(hb:H b=some o)(d:b≠br):H' b=some o:=by rw[h.els b d];exact hb
theorem RdS.le{G H H':Heap}{br:Nat}{r:List UInt8}{bad:Bool}(h:RdS H H' br r bad)(d:G.Le H)(g:G br=none):G.Le H':=fun k o hk=>by
 rw[h.els k (fun e=>by rw[e,g]at hk;cases hk)];exact d k o hk
def tillI(r:List UInt8):Int:=Lib.indexAny r [44,41]
theorem tillI_spec: ∀r:List UInt8,(tillI r= -1∧L5 r=r∧Q5 r= [])∨(0≤tillI r∧tillI r≤r.length∧L5 r=r.take (tillI r).toNat∧Q5 r=r.drop (tillI r).toNat):=by
 intro r
 induction r with
 |nil=>exact .inl ⟨rfl,rfl,rfl⟩
 |cons c r o=>
  have e:tillI (c::r)=if [44,41].contains c=true then 0 else if(tillI r== -1)=true then-1 else tillI r+1:=rfl
  have hs: [44,41].contains c=B0s c:=by
   unfold B0s;simp only[List.contains_cons,List.contains_nil,Bool.or_false]
  rw[e,hs];cases hc:B0s c with
  |true=>
   right
   have hn:nst c=false:=by unfold nst;rw[hc];rfl
   have d:L5 (c::r)= []:=by unfold L5;rw[List.takeWhile_cons,hn];rfl
   have g:Q5 (c::r)=c::r:=by unfold Q5;rw[List.dropWhile_cons,hn];rfl
   rw[d,g];exact⟨Int.le_refl _,by simp only[if_true];omega,rfl,rfl⟩
  |false=>
   have hn:nst c=true:=by unfold nst;rw[hc];rfl
   have d:L5 (c::r)=c::L5 r:=by unfold L5;rw[List.takeWhile_cons,hn];rfl
   have g:Q5 (c::r)=Q5 r:=by unfold Q5;rw[List.dropWhile_cons,hn];rfl
   rw[d,g];simp only[D0o,if_false];rcases o with⟨h1,m,h⟩|⟨h1,m,h,p⟩
   ·left
    rw[h1,m,h];simp
   ·right
    have i:(tillI r== -1)=false:=by rw[beq_eq_false_iff_ne];omega
    have j:(tillI r+1).toNat=(tillI r).toNat+1:=by omega
    rw[i];simp only[D0o,if_false];rw[j,List.take_succ_cons,List.drop_succ_cons,←h,←p];refine⟨by omega,by simp only[D0d];omega,rfl,rfl⟩
end Go.Fo
namespace Go.Proofs.YtibphjonmikciaaGreatDoor
open Go Go.Av Go.Lexs Go.Lin Go.Fo
attribute [local irreducible] ACalls S9
open Go.RowKit in
theorem B03{Q}(s p:ByteArray)(H:Heap)(h:Q (.tuple [.str (S (if pre (B p) (B s)=true then(B s).drop p.size else B s)),.bool (pre (B p) (B s))]) H):E3 145 [.str s,.str p] H Q:=
 I9 (by kernel_rfl) (fun w vs hl hr hs=>by
  obtain⟨a,b,rfl,j,hb⟩:=A0F hl hr;rw[j.str_inv,hb.str_inv];refine(Tryz.strings_CutPrefix s p w).mono fun e w' ⟨he,hw⟩=>?_;subst hw;have e1:Lib.hasPrefix s.data.toList p.data.toList=pre (B p) (B s):=rfl;have e2:Lib.trimPrefix s.data.toList p.data.toList=if pre (B p) (B s)=true then(B s).drop p.size else B s:=by
   have:=T9 p;rw[←this];rfl
  rw[e1,e2]at he;exact⟨_,he,Below.refl _ _,.tuple _ _ rfl fun i d g=>(match i,g with|0,g=>by simp at g;subst g;exact .str _|1,g=>by simp at g;subst g;exact .bool _|i+2,g=>by simp at g)⟩) h
def A6f(r:List UInt8):Prop:=∀(Q:D→Heap→Prop) (H:Heap),Q (.int .i64 (tillI r)) H→E3 146 [.str (S r),.str ⟨#[44,41]⟩] H Q
open Go.RowKit in
theorem B2V{r:List UInt8}(hr:r.length≤1000000)(m: ∀c∈r,c.toNat<128):A6f r:=fun Q H h=>
 I9 (by kernel_rfl) (fun w vs hl g o=>by
  obtain⟨a,b,rfl,i,hb⟩:=A0F hl g;rw[i.str_inv,hb.str_inv];refine(Tryz.strings_IndexAny_laid (S r) ⟨#[44,41]⟩ w (by rw[O6];omega) (by decide) (fun j b d=>m b (D05 (by rw[show (S r).data.toList=r from t7 r]at d;exact d))) (fun j b d=>by
   have hm:=D05 d;have key: ∀c∈(⟨#[44,41]⟩:ByteArray).data.toList,c.toNat<128:=by decide
   exact key b hm)).mono fun e w' ⟨he,hw⟩=>?_
  refine⟨_,he,hw,?_⟩;rw[show (S r).data.toList=r from t7 r];exact .int _ _) h
theorem A3E{Q}(br:Nat)(p:ByteArray)(r:List UInt8)(bad:Bool)(H:Heap)(hb:H br=some (.box [.str (S r),.bool bad]))(h: ∀H',RdS H H' br (if pre (B p) r=true then r.drop p.size else r) bad→Q (.bool (pre (B p) r)) H'):E3 117 [.box br 0,.str p] H Q:=by
 refine A9 [] A8 Tryz.func117 rfl ?_;simp only[go_sem,seval,Tryz.results117];have d:=fun(Q:D→Heap→Prop) (H:Heap)=>B03 (Q:=Q) (S r) p H;rw[t7]at d;repeat' (first|simp only[go_sem,seval,hb]|with_reducible refine d _ _ ?_)
 exact D13 (h _ (RdS.set _ _ _ _))
theorem B3i{Q}(br:Nat)(r:List UInt8)(bad:Bool)(hr:r.length≤1000000)(hx:A6f r)(H:Heap)(hb:H br=some (.box [.str (S r),.bool bad]))(h: ∀H',RdS H H' br (Q5 r) bad→Q (.str (S (L5 r))) H'):E3 118 [.box br 0] H Q:=by
 refine A9 [] A8 Tryz.func118 rfl ?_;simp only[go_sem,seval,Tryz.results118];have hsz:=O6 r;rcases tillI_spec r with⟨h1,g,i⟩|⟨h1,g,i,j⟩
 ·have e:=hx;unfold A6f at e;rw[h1]at e;rw[g,i]at h;have m:S (r.take r.length)=S r:=by rw[List.take_length]
  have o:S (r.drop r.length)=S []:=by rw[List.drop_length]
  repeat' (first|with_reducible apply D0Y|simp only[go_sem,seval,hb,hsz]|with_reducible refine e _ _ ?_|omega)
  simp only[m,o];exact D13 (h _ (RdS.set _ _ _ _))
 ·have e:=hx;unfold A6f at e;have d: ¬tillI r<0:=by omega
  rw[i,j]at h;generalize tillI r=z at h1 g h e d;repeat' (first|with_reducible apply D0Y|simp only[go_sem,seval,hb,hsz,d]|with_reducible refine e _ _ ?_|omega)
  exact D13 (h _ (RdS.set _ _ _ _))
end Go.Proofs.YtibphjonmikciaaGreatDoor
namespace Go.Fo
open Go Go.Av Go.Lexs Go.Lin
theorem A6g(w:List UInt8):V7 (M5 w).1∧(M5 w).1.t.length≤12:=by
 rw[B7C];split
 ·rename_i h;have ok:=M0 h.1;refine⟨⟨by have:=ok.len;simp only[];omega,fun t d=>?_,fun t d=>?_,?_⟩,ok.len⟩
  ·have:=A3B (M7 ok.t t d).1;omega
  ·have:=(M7 ok.t t d).2.2;unfold U6;omega
  ·have:=ok.k;unfold U6;simp only[];omega
 ·exact⟨A0Y,by simp[nilL]⟩
structure Sz(f:Fm)(m:Nat):Prop where
 fit:FmFit f
 wt:J0 f≤m
structure SzL(l:List Fm)(m:Nat):Prop where
 fit: ∀f∈l,FmFit f
 wt:J0.wtL l≤m
theorem B94:Sz zeroF 1:=⟨P5 (by simp[U6]) (by simp) (by simp),by decide⟩
theorem A85{o:Int}{l:List Fm}{m:Nat}(ho:U6 o)(h:SzL l m)(hm:m≤1000000):Sz (.mk o 0 nilL D8 l) (1+m):=
 ⟨P5 ho (by have:=B9X l;have:=h.wt;omega) h.fit,by rw[K4];simp[Fm.l,Fm.ks,nilL];exact h.wt⟩
theorem C3w{f:Fm}{m:Nat}(h:Sz f m):SzL [f] m:=⟨fun k hk=>by rw[D0z]at hk;rw[hk];exact h.fit,by simp[J0.wtL];exact h.wt⟩
theorem B3j{l:List Fm}{f:Fm}{m n:Nat}(hl:SzL l m)(h:Sz f n):SzL (l++[f]) (m+n):=⟨fun k hk=>by
 rcases D0y.1 hk with g|g
 ·exact hl.fit k g
 ·rw[D0z]at g;rw[g];exact h.fit,by rw[A5V];simp only[J0.wtL];have:=hl.wt;have:=h.wt;omega⟩
theorem A6h(m:Nat):SzL [] m:=⟨by simp,by simp[J0.wtL]⟩
theorem Sz.le{f:Fm}{m n:Nat}(h:Sz f m)(hm:m≤n):Sz f n:=⟨h.fit,D1e h.wt hm⟩
theorem SzL.le{f:List Fm}{m n:Nat}(h:SzL f m)(hm:m≤n):SzL f n:=⟨h.fit,D1e h.wt hm⟩
theorem B7c(n:Int)(h:U6 n):Sz (.mk 1 n nilL D8 []) 1:=⟨.mk _ _ _ _ _ (by simp[U6]) h A0Y (by decide) (by simp) (by simp),by rw[K4];simp[Fm.l,Fm.ks,nilL,J0.wtL]⟩
theorem C3x(s:ByteArray)(h:s.size≤1000000):Sz (.mk 3 0 nilL s []) 1:=⟨.mk _ _ _ _ _ (by simp[U6]) (by simp[U6]) A0Y (by omega) (by simp) (by simp),by rw[K4];simp[Fm.l,Fm.ks,nilL,J0.wtL]⟩
theorem C3y(w:List UInt8):Sz (A3A (M5 w).1) 13:=⟨A16 (A6g w).1,by have:=(A6g w).2;rw[K4];simp[Fm.l,Fm.ks,A3A,J0.wtL];omega⟩
theorem A6i(r:List UInt8):(L5 r).length+(Q5 r).length=r.length:=by
 unfold L5 Q5;rw[←D0e,List.takeWhile_append_dropWhile]
theorem A1a{p r:List UInt8}(h:pre p r=true):p.length≤r.length:=by
 unfold pre at h;exact(List.isPrefixOf_iff_prefix.1 h).length_le
theorem B95(w:List UInt8):Sz (A63 w).1 13:=by
 unfold A63;split
 ·exact(B7c 1 (by simp[U6])).le (by omega)
 ·split
  ·exact(B7c 0 (by simp[U6])).le (by omega)
  ·exact C3y w
def C3z(form:List UInt8→Fm×List UInt8×Bool):Prop:=∀r:List UInt8,r.length≤20000→(form r).2.1.length≤r.length∧Sz (form r).1 (14*(r.length-(form r).2.1.length)+13)
theorem B7d{d:List UInt8→Fm×List UInt8×Bool}(g:C3z d): ∀(n:Nat) (r:List UInt8) (out:List Fm) (m:Nat),r.length≤20000→SzL out m→(A07 d n r out).2.1.length≤r.length∧SzL (A07 d n r out).1 (m+14*(r.length-(A07 d n r out).2.1.length)):=by
 intro n
 induction n with
 |zero=>intro r out m hr hm;exact⟨D0s _,A6h _⟩
 |succ n j=>
  intro r out m hr hm;obtain⟨h1,e⟩:=g r hr;rw[A07];split
  ·rename_i h;have:=A1a h;simp only[D0d,D0f]at this;simp only[D06];exact⟨by omega,(B3j hm e).le (by omega)⟩
  ·split
   ·exact⟨h1,A6h _⟩
   ·split
    ·rename_i h;have:=A1a h;simp only[D0d,D0f]at this;have i:=j ((d r).2.1.drop 2) _ _ (by rw[D06];omega) (B3j hm e);rw[D06]at i;exact⟨by omega,i.2.le (by omega)⟩
    ·exact⟨h1,A6h _⟩
theorem B04{d:List UInt8→Fm×List UInt8×Bool}(e:C3z d)(r:List UInt8)(hr:r.length≤20000):(Y1 d r).2.1.length≤r.length∧SzL (Y1 d r).1 (14*(r.length-(Y1 d r).2.1.length)):=by
 unfold Y1;split
 ·simp only[D06];exact⟨by omega,A6h _⟩
 ·have:=B7d e (r.length+1) r [] 0 hr (A6h _);rw[Nat.zero_add]at this;exact this
theorem B05: ∀e,C3z (G5 e):=by
 intro e
 induction e with
 |zero=>intro r hr;exact⟨D0s _,B94.le (by omega)⟩
 |succ e d=>
  intro r hr;rw[G5];split
  ·rename_i h;have:=A1a h;have t:=A6i (r.drop 1);rw[D06]at t;simp only[D0d,D0f]at this;exact⟨by simp only[];omega,(C3x _ (by rw[O6];omega)).le (by omega)⟩
  ·split
   ·rename_i h;have:=A1a h;simp only[D0d,D0f]at this;have i:=d (r.drop 1) (by rw[D06];omega);rw[D06]at i;exact⟨by simp only[];omega,(A85 (by simp[U6]) (C3w i.2) (by omega)).le (by simp only[];omega)⟩
   ·split
    ·rename_i h;have:=A1a h;simp only[D0d,D0f]at this;have i:=B04 d (r.drop 2) (by rw[D06];omega);rw[D06]at i;exact⟨by simp only[];omega,(A85 (by simp[U6]) i.2 (by omega)).le (by simp only[];omega)⟩
    ·split
     ·rename_i h;have:=A1a h;simp only[D0d,D0f]at this;have i:=B04 d (r.drop 2) (by rw[D06];omega);rw[D06]at i;exact⟨by simp only[];omega,(A85 (by simp[U6]) i.2 (by omega)).le (by simp only[];omega)⟩
     ·have t:=A6i r;exact⟨by simp only[];omega,(B95 _).le (by omega)⟩
end Go.Fo
namespace Go.Proofs.YtibphjonmikciaaGreatDoor
open Go Go.Shelf Go.RowKit
def ApW(w w':World)(v v':Value)(n m:Nat):Prop:=
 (∃g cap,v= .slice (some ⟨g,0,none⟩) n cap∧v'= .slice (some ⟨g,0,none⟩) (n+m) cap)∨
 ((∀k,k<w.heap.size→w'.heap[k]? =w.heap[k]?)∧∀k,v'.ownBlock=some k→w.heap.size≤k)
theorem A86{P:Program}{w:World}(t u ty e:TypeId)(i:TypeInfo)(z:P.underlying t=some (.slice e))(A:P.underlying u=some .string)(C:P.info? e=some i)(M:i.zero=some (.int .u8 0))
  (h:i.size=1) (x:i.bytes=1) (v:Value) (n:Nat) (xs:List Value) (m:w.ownsRow 0 e 1 v n xs) (s:ByteArray) (y:n+s.size≤maxLen) (o:n+s.size≤140737488355328)
  {O:Value} {w':World} (hr:(Builtin.append_ #[t,u] ty #[v,.string s]).run P w= .ok O w'):ApW w w' v O n s.size:=by
 rcases m.2 with⟨rfl,rfl⟩|⟨g,cap,p,rfl,G,U,V,W,I,J⟩
 ·have hx:xs= []:=D0w (by simpa using m.1);subst hx;obtain⟨v2,w2,d,X,Y,_⟩:=Lib.run_append_own_string (P:=P) w w.heap.size t u ty e i z A C M h x (.slice none 0 0) 0 [] (World.ownsRow_nil w _ e 1) s y o (D0s _);rw[hr]at d;cases d;refine .inr ⟨fun k hk=>Y.block k hk (by simp[Value.ownBlock]),fun k hk=>?_⟩;rcases X.2 with⟨rfl,_⟩|⟨g,cap,p,rfl,G,_⟩
  ·simp[Value.ownBlock]at hk
  ·simp[Value.ownBlock]at hk;omega
 ·by_cases q:n+s.size≤cap
  ·have T:p.size=cap:=by simpa using I
   have d:=Lib.run_append_room_string (P:=P) w t u ty e i z A C h g n cap p U s q (by omega);rw[hr]at d;cases d;exact .inl ⟨g,cap,rfl,rfl⟩
  ·have holds: ∀j u,xs[j]? =some u→w.cell? ((⟨g,0,none⟩:Addr).add j)=some u:=m.cells (g:=g) rfl;have L:xs.length=n:=by simpa using m.1
   have d:=Lib.run_append_grow_string (P:=P) w t u ty e i (.int .u8 0) z A C M ⟨g,0,none⟩ n cap xs (by rw[h];simpa using L) holds s (by omega) (by simp only[maxLen]at y;omega) (by rw[x];exact growslice_fits (by omega) (by omega));rw[hr]at d;cases d;refine .inr ⟨fun k hk=>heap_alloc_old w.drew _ (r:=k) hk,fun k hk=>?_⟩;simp[Value.ownBlock]at hk;omega
theorem A2g{P:Program}{w:World}{ops:Array Oper}{rest:List Oper}{o:Oper}{a:Act}{Q:Exit→Act→World→Prop}(q:o.guard=none)(sl x:Operand)(t u:TypeId)
  (ho:o.op= .call {callee:=.builtin .append,args:= #[sl,x],argTypes:= #[t,u]})
  (e:TypeId) (i:TypeInfo) (y:P.underlying t=some (.slice e)) (z:P.underlying u=some .string) (A:P.info? e=some i) (C:i.zero=some (.int .u8 0))
  (g:i.size=1) (m:i.bytes=1)
  (v:Value) (n:Nat) (xs:List Value) (hs:a.eval sl=v) (j:w.ownsRow 0 e 1 v n xs) (s:ByteArray) (hx:a.eval x= .string s)
  (p:n+s.size≤maxLen) (d:n+s.size≤140737488355328)
  (h: ∀v' w',w'.ownsRow 0 e 1 v' (n+s.size) (xs++Lib.strCells s)→w.grownBy w' v.ownBlock→(v'= .slice none 0 0↔v= .slice none 0 0∧s.size=0)→ApW w w' v v' n s.size→wpList P ops Q rest (a.put o.dst v') w'):wpList P ops Q (o::rest) a w:=by
 refine wpList_plain q fun K G=>?_;obtain⟨v',w',hr,I,J,L⟩:=Lib.run_append_own_string (P:=P) w 0 t u o.type e i y z A C g m v n xs j s p d (D0t _);have r:=A86 t u o.type e i y z A C g m v n xs j s p d hr;unfold Oper.wp execOp;simp only[ho,resolve,invoke,builtin,Sem.run_bind,Sem.run_pure,Result.andThen_ok,List.map_toArray,D1p,List.map_nil,hs,hx,hr];exact G _ _ (h v' w' I J L r)
theorem B06:(Tryz.prog.info? 97).map (·.size)=some 2:=by kernel_rfl
theorem B7e:liesAt Tryz.prog Tryz.prog.depth 97 (2 / Tryz.prog.cellsOf 97) 0 97 1=true:=by kernel_rfl
theorem B4t:(Tryz.prog.info? 5).map (fun i=>(i.zero,i.size,i.bytes))=some (some (.int .u8 0),1,1):=by kernel_rfl
set_option maxHeartbeats 1000000 in
set_option maxRecDepth 100000 in
theorem A6j(b:Nat)(w:World)(L:w.cell? ⟨b,0,none⟩=some (.pointer (some ⟨b,0,none⟩))):
  Calls Tryz.prog 141 #[.pointer (some ⟨b,0,none⟩)] w fun e w'=>e= .returned (.tuple #[])∧w'=w:=by
 obtain⟨j,r,_⟩:=D0h.1 B06;have h:Tryz.prog.follows .mixedOrders=true:=by kernel_rfl
 have i:=Tryz.underlying97;have u:=Tryz.isAgg97;have x:=Tryz.sizeOf97;have y:=Tryz.zeroValue97;have z:=run_underlying i;have d:=Tryz.underlying94;have A:=Tryz.isAgg94;have C:=Tryz.sizeOf94;have G:=Tryz.zeroValue94;have I:=run_underlying d;have J:=Tryz.underlying4;have M:=Tryz.isAgg4;have O:=Tryz.sizeOf4;have v4:=Tryz.zeroValue4;have T:=run_underlying J;have g:=Tryz.underlying197;have m:=Tryz.isAgg197;have o:=Tryz.sizeOf197;have p:=Tryz.zeroValue197;have q:=run_underlying g
 go_enter Tryz.func141,Tryz.ntmps141
 go_wp2
 rw[Lib.run_neq_ptr_same w _ d r]
 go_wp2
 go_end0
 exact⟨rfl,rfl⟩
set_option maxHeartbeats 1000000 in
set_option maxRecDepth 100000 in
theorem A5H(b:Nat)(w:World)(T:w.cell? ⟨b,0,none⟩=some (.pointer none))(h:w.shape? b=some (97,2))(y:w.frozen? ⟨b,0,none⟩=false):
  Calls Tryz.prog 141 #[.pointer (some ⟨b,0,none⟩)] w fun e w'=>e= .returned (.tuple #[])∧w'=w.setCell ⟨b,0,none⟩ (.pointer (some ⟨b,0,none⟩)):=by
 obtain⟨j,p,i⟩:=D0h.1 B06;have m:Tryz.prog.follows .mixedOrders=true:=by kernel_rfl
 have o:=Tryz.underlying97;have z:=Tryz.isAgg97;have A:=Tryz.sizeOf97;have C:=Tryz.zeroValue97;have G:=run_underlying o;have g:=Tryz.underlying94;have I:=Tryz.isAgg94;have J:=Tryz.sizeOf94;have L:=Tryz.zeroValue94;have M:=run_underlying g;have O:=Tryz.underlying4;have U:=Tryz.isAgg4;have V:=Tryz.sizeOf4;have v4:=Tryz.zeroValue4;have W:=run_underlying O;have d:=Tryz.underlying197;have q:=Tryz.isAgg197;have r:=Tryz.sizeOf197;have u:=Tryz.zeroValue197;have x:=run_underlying d
 go_enter Tryz.func141,Tryz.ntmps141
 go_wp2
 rw[Lib.run_to_unsafe w ⟨b,0,none⟩ g d p (by rw[i];decide) h (Nat.zero_lt_succ 1)];simp only[Result.andThen];rw[Oper.upon_value]
 go_wp2
 rw[run_callFunc_extern Tryz.func175 (by kernel_rfl) (by kernel_rfl) (by kernel_rfl) (e:=Extern.AbiNoEscape.same) (by kernel_rfl)];rw[Lib.run_noEscape];simp only[Result.andThen];rw[Oper.upon_value]
 go_wp2
 rw[Lib.run_from_unsafe w ⟨b,0,none⟩ d g p h B7e];simp only[Result.andThen];rw[Oper.upon_value]
 go_wp2
 go_end0
 exact⟨rfl,rfl⟩
theorem A7w{w:World}{b:Nat}{cs:Array Value}{T:TypeId}{d:Nat×Nat}(hb:w.heap[b]? =some (.cells cs T d))(j:Nat)(e: ¬(d.1≤j∧j<d.2)):w.frozen? ⟨b,j,none⟩=false:=by
 obtain⟨lo,g⟩:=d;simp only[World.frozen?,hb];simpa using e
theorem A64(b:Nat)(p v:Value)(d:Nat×Nat)(w:World)(hp:p= .pointer none∨p= .pointer (some ⟨b,0,none⟩))(hb:w.heap[b]? =some (.cells #[p,v] 97 d))(i: ∀j,j<2→¬(d.1≤j∧j<d.2)):
  Calls Tryz.prog 141 #[.pointer (some ⟨b,0,none⟩)] w fun e w'=>e= .returned (.tuple #[])∧w'.heap[b]? =some (.cells #[.pointer (some ⟨b,0,none⟩),v] 97 d)∧w.grownBy w' (some b)∧w'.heap.size=w.heap.size:=by
 have h:w.cell? ⟨b,0,none⟩=some p:=by simp[World.cell?,hb]
 rcases hp with rfl|rfl
 ·refine(A5H b w h (by simp[World.shape?,hb]) (A7w hb 0 (i 0 (by omega)))).mono ?_;rintro e w' ⟨rfl,rfl⟩;refine⟨rfl,?_,⟨rfl,rfl,rfl,by simp[World.setCell],fun k hk g=>?_⟩,by simp[World.setCell]⟩
  ·rw[Lib.heap_setCell_same hb];rfl
  ·exact Below.heap_setCell w _ _ k (fun e=>g (by rw[e]))
 ·refine(A6j b w h).mono ?_;rintro e w' ⟨rfl,rfl⟩;exact⟨rfl,hb,⟨rfl,rfl,rfl,D0s _,fun _ _ _=>rfl⟩,rfl⟩
set_option maxHeartbeats 2000000 in
set_option maxRecDepth 100000 in
theorem A5I(b:Nat)(p v:Value)(bs:List Value)(s:ByteArray)(q:Nat×Nat)(w:World)(hp:p= .pointer none∨p= .pointer (some ⟨b,0,none⟩))(hb:w.heap[b]? =some (.cells #[p,v] 97 q))
  (hf: ∀j,j<2→¬(q.1≤j∧j<q.2)) (A:w.ownsRow 0 5 1 v bs.length bs) (C:v.ownBlock≠some b) (hlen:bs.length+s.size≤140737488355328):
  Calls Tryz.prog 114 #[.pointer (some ⟨b,0,none⟩),.string s] w fun e w'=>e= .returned (.tuple #[.int .i64 s.size,.nilIface])∧∃h i x,h.heap[b]? =some (.cells #[.pointer (some ⟨b,0,none⟩),v] 97 q)∧w.grownBy h (some b)∧h.heap.size=w.heap.size∧
   h.grownBy i v.ownBlock∧i.ownsRow 0 5 1 x (bs.length+s.size) (bs++Lib.strCells s)∧(x= .slice none 0 0↔v= .slice none 0 0∧s=ByteArray.empty)∧ApW h i v x bs.length s.size∧i.heap[b]? =some (.cells #[.pointer (some ⟨b,0,none⟩),v] 97 q)∧w'=i.setCell ⟨b,1,none⟩ x:=by
 obtain⟨i0,hi,T,U,V⟩:=info_parts B4t;have W:Tryz.prog.follows .mixedOrders=true:=by kernel_rfl
 have X:=Tryz.underlying97;have b1:=Tryz.isAgg97;have b2:=Tryz.sizeOf97;have b3:=Tryz.zeroValue97;have b4:=run_underlying X;have Y:=Tryz.underlying94;have b6:=Tryz.isAgg94;have b7:=Tryz.sizeOf94;have b8:=Tryz.zeroValue94;have b9:=run_underlying Y;have G:=Tryz.underlying95;have c2:=Tryz.isAgg95;have c5:=Tryz.sizeOf95;have c6:=Tryz.zeroValue95;have c7:=run_underlying G;have t3:=Tryz.underlying3;have a3:=Tryz.isAgg3;have z3:=Tryz.sizeOf3;have v3:=Tryz.zeroValue3;have u3:=run_underlying t3;have t9:=Tryz.underlying9;have a9:=Tryz.isAgg9;have z9:=Tryz.sizeOf9;have v9:=Tryz.zeroValue9;have u9:=run_underlying t9;have t4:=Tryz.underlying4;have a4:=Tryz.isAgg4;have z4:=Tryz.sizeOf4;have v4:=Tryz.zeroValue4;have u4:=run_underlying t4;have t5:=Tryz.underlying5;have a5:=Tryz.isAgg5;have z5:=Tryz.sizeOf5;have v5:=Tryz.zeroValue5;have u5:=run_underlying t5;have b0: ∀args w,(callFunc 141 args).run Tryz.prog w= .ok (.enter 141 args) w:=enters_of Tryz.func141 (by kernel_rfl) rfl
 go_enter Tryz.func114,Tryz.ntmps114
 go_wp2_with (go_at_fn 141;refine(A64 b p v q _ hp hb hf).mono ?_)
 rintro e h ⟨rfl,m,I,J⟩;have z:h.ownsRow 0 5 1 v bs.length bs:=A.kept I (.inr C);have c0:h.cell? ⟨b,0,none⟩=some (.pointer (some ⟨b,0,none⟩)):=by simp[World.cell?,m]
 have c1:h.cell? ⟨b,1,none⟩=some v:=by simp[World.cell?,m]
 go_wp2_with (at_builtin;refine A2g rfl _ _ 95 9 rfl 5 i0 G t9 hi T U V _ _ _ rfl z s rfl ?c3 ?c4 ?_)
 case c3=>unfold maxLen;omega
 case c4=>omega
 intro x i d o y L;have a0:b<h.heap.size:=by
  rcases Nat.lt_or_ge b h.heap.size with h'|h'
  ·exact h'
  ·simp[Array.getElem?_eq_none h']at m
 have r:i.heap[b]? =some (.cells #[.pointer (some ⟨b,0,none⟩),v] 97 q):=by
  rw[o.block b a0 (fun e=>C e.symm)];exact m
 have d0:i.cell? ⟨b,0,none⟩=some (.pointer (some ⟨b,0,none⟩)):=by simp[World.cell?,r]
 have d1:i.cell? ⟨b,1,none⟩=some v:=by simp[World.cell?,r]
 have f1:i.frozen? ⟨b,1,none⟩=false:=A7w r 1 (hf 1 (by omega));have a6: ∃ao n' cap,x= .slice ao n' cap:=by
  rcases d.2 with⟨hv,_⟩|⟨g,cap,c8,hv,_⟩
  ·exact⟨_,_,_,hv⟩
  ·exact⟨_,_,_,hv⟩
 have fin:=(⟨h,i,x,m,I,J,o,d,y,L,r,rfl⟩: ∃M O u,M.heap[b]? =some (.cells #[.pointer (some ⟨b,0,none⟩),v] 97 q)∧w.grownBy M (some b)∧M.heap.size=w.heap.size∧
   M.grownBy O v.ownBlock∧O.ownsRow 0 5 1 u (bs.length+s.size) (bs++Lib.strCells s)∧(u= .slice none 0 0↔v= .slice none 0 0∧s=ByteArray.empty)∧ApW M O v u bs.length s.size∧O.heap[b]? =some (.cells #[.pointer (some ⟨b,0,none⟩),v] 97 q)∧i.setCell ⟨b,1,none⟩ x=O.setCell ⟨b,1,none⟩ u)
 clear d y L;obtain⟨ao,n',cap,rfl⟩:=a6
 go_wp2
 go_ret2
 exact⟨rfl,fin⟩
set_option maxHeartbeats 1000000 in
set_option maxRecDepth 100000 in
theorem A65(b g cap:Nat)(p:Value)(d:Array Value)(l:List UInt8)(C:Nat×Nat)(w:World)(G:l≠[])(o:w.heap[b]? =some (.cells #[p,.slice (some ⟨g,0,none⟩) l.length cap] 97 C))
  (I:w.heap[g]? =some (.cells d 5 (0,0))) (T:l.length≤cap) (q:cap≤maxLen) (U:d.size=cap) (i:d.toList.take l.length=l.map fun x=>Value.int .u8 x.toNat):
  Calls Tryz.prog 69 #[.pointer (some ⟨b,0,none⟩)] w fun e w'=>e= .returned (.string ⟨l.toArray⟩)∧w'=w.drew.freeze ⟨g,0,none⟩ l.length:=by
 have V:l.length≠0:=by simpa using G
 have c1:w.drew.cell? ⟨b,1,none⟩=some (.slice (some ⟨g,0,none⟩) l.length cap):=by
  have:w.drew.heap[b]? =some (.cells #[p,.slice (some ⟨g,0,none⟩) l.length cap] 97 C):=o;simp[World.cell?,this]
 have r:0<l.length:=by omega
 have W:(Builtin.unsafeSliceData_ #[95] 144 #[.slice (some ⟨g,0,none⟩) l.length cap]).run Tryz.prog w.drew= .ok (.pointer (some ⟨g,0,none⟩)) w.drew:=
  Lib.run_unsafeSliceData_row _ _ _ _ _ _ (by omega)
 have h:=Tryz.underlying144;have J:=Tryz.isAgg144;have L:=Tryz.sizeOf144;have M:=Tryz.zeroValue144;have O:=run_underlying h;have X:(Builtin.unsafeString_ #[144,3] 9 #[.pointer (some ⟨g,0,none⟩),.int .i64 l.length]).run Tryz.prog w.drew= .ok (.string ⟨l.toArray⟩) (w.drew.freeze ⟨g,0,none⟩ l.length):=by
  refine Lib.run_unsafeString_row w.drew 144 3 9 5 h (by kernel_rfl) g d.size (by have m:w.drew.heap[g]? =some (.cells d 5 (0,0)):=I;simp[World.shape?,m]) l G (by omega) (by unfold maxLen at q;omega) ?_;intro j x hx;have Y:=(D0i.1 hx).1;have m:w.drew.heap[g]? =some (.cells d 5 (0,0)):=I;have h1:(d.toList.take l.length)[j]? =some (Value.int .u8 x.toNat):=by rw[i,D0v,hx];rfl
  rw[List.getElem?_take,if_pos Y]at h1;have e1:(⟨g,0,none⟩:Addr).add j=⟨g,j,none⟩:=by unfold Addr.add;split<;>simp_all
  rw[e1,Lib.cell_of_heap m];simpa using h1
 have u:Tryz.prog.follows .mixedOrders=true:=by kernel_rfl
 have y:=Tryz.underlying97;have a0:=Tryz.isAgg97;have a4:=Tryz.sizeOf97;have a6:=Tryz.zeroValue97;have b0:=run_underlying y;have z:=Tryz.underlying94;have b1:=Tryz.isAgg94;have b2:=Tryz.sizeOf94;have b3:=Tryz.zeroValue94;have b4:=run_underlying z;have A:=Tryz.underlying95;have b6:=Tryz.isAgg95;have b7:=Tryz.sizeOf95;have b8:=Tryz.zeroValue95;have b9:=run_underlying A;have t3:=Tryz.underlying3;have a3:=Tryz.isAgg3;have z3:=Tryz.sizeOf3;have v3:=Tryz.zeroValue3;have u3:=run_underlying t3;have t9:=Tryz.underlying9;have a9:=Tryz.isAgg9;have z9:=Tryz.sizeOf9;have v9:=Tryz.zeroValue9;have u9:=run_underlying t9;have t5:=Tryz.underlying5;have a5:=Tryz.isAgg5;have z5:=Tryz.sizeOf5;have v5:=Tryz.zeroValue5;have u5:=run_underlying t5
 go_enter Tryz.func69,Tryz.ntmps69
 go_wp2
 go_region_o
 all_goals (go_wp2;go_ret;exact⟨rfl,rfl⟩)
end Go.Proofs.YtibphjonmikciaaGreatDoor
namespace Go.Proofs.YtibphjonmikciaaGreatDoor
open Go Go.Av Go.RowKit
def L1(H:Heap)(b:Nat):Option Nat→List UInt8→Heap
 |none,_=>H.set b (.box [.nilp,.nilsl] (some 97))
 |some c,bs=>(H.set b (.box [.box b 0,.vec c 1 0 bs.length] (some 97))).set c (.buf 5 bs)
structure BldOk(H:Heap)(b:Nat)(st:Option Nat)(bs:List UInt8):Prop where
 hb:H b=none
 hn:st=none→bs= []
 hs: ∀c,st=some c→c≠b∧H c=none∧bs≠[]
theorem U3{H:Heap}{b k:Nat}{st:Option Nat}{bs:List UInt8}(h1:k≠b)(d:st≠some k):L1 H b st bs k=H k:=by
 cases st with
 |none=>simp[L1,Heap.set,h1]
 |some c=>
  have:k≠c:=fun e=>d (by rw[e]);simp[L1,Heap.set,h1,this]
theorem B7f{H:Heap}{b:Nat}{st:Option Nat}{bs:List UInt8}(h:BldOk H b st bs): ∃cs,L1 H b st bs b=some (.box cs (some 97)):=by
 cases st with
 |none=>exact⟨_,by simp[L1,Heap.set];rfl⟩
 |some c=>
  have d:b≠c:=Ne.symm (h.hs c rfl).1;exact⟨[.box b 0,.vec c 1 0 bs.length],by simp only[L1,Heap.set,if_neg d,if_true]⟩
theorem A2b{H:Heap}{b k:Nat}{st:Option Nat}{bs:List UInt8}(h:BldOk H b st bs)(hk:(L1 H b st bs).held k=false):k≠b∧st≠some k:=by
 constructor
 ·rintro rfl;obtain⟨cs,e⟩:=B7f h;rw[J2 e]at hk;cases hk
 ·rintro rfl;have e:L1 H b (some k) bs k=some (.buf 5 bs):=by simp[L1,Heap.set]
  rw[J2 e]at hk;cases hk
theorem B3k{H:Heap}{b:Nat}{st:Option Nat}{bs:List UInt8}{w:World}(hs:Sat (L1 H b st bs) w)(h:BldOk H b st bs):
  ∃p v r,w.heap[b]? =some (.cells #[p,v] 97 r)∧(∀j,j<2→¬(r.1≤j∧j<r.2))∧(p= .pointer none∨p= .pointer (some ⟨b,0,none⟩))∧
   w.ownsRow 0 5 1 v bs.length (bs.map fun x=>Value.int .u8 x.toNat)∧v.ownBlock=st:=by
 have g: ∀{cs:List D} {c:Array Value},cs.length=2→RowR w (L1 H b st bs) cs c→∃x y,c= #[x,y]:=fun {cs c} q hr=>by
  have d:=hr.len;obtain⟨l⟩:=c;simp only[List.size_toArray]at d
  match l,(by omega:l.length=2)with
  | [x,y],_=>exact⟨x,y,rfl⟩
 cases st with
 |none=>
  have U:bs= []:=h.hn rfl;subst U;obtain⟨c,T,lo,u,h1,q,d,z⟩:=box_inv (hs b (.box [.nilp,.nilsl] (some 97)) (by simp[L1,Heap.set]));have A:=z _ rfl;subst A;obtain⟨x,y,rfl⟩:=g rfl d;have i:=d.rel 0 _ rfl;have e:=d.rel 1 _ rfl;simp at i e;cases i;cases e;exact⟨_,_,(lo,u),h1,fun j C=>q j (by simpa using C),.inl rfl,World.ownsRow_nil w 0 _ 1,rfl⟩
 |some c=>
  obtain⟨G,V,I⟩:=h.hs c rfl;obtain⟨Y,T,lo,u,h1,q,d,z⟩:=box_inv (hs b (.box [.box b 0,.vec c 1 0 bs.length] (some 97)) (by have J:b≠c:=Ne.symm G;simp only[L1,Heap.set,if_neg J,if_true]));have A:=z _ rfl;subst A;obtain⟨x,y,rfl⟩:=g rfl d;have i:=d.rel 0 _ rfl;have e:=d.rel 1 _ rfl;simp at i e;obtain⟨o,O,g2,g3,W⟩:=hs c (.buf 5 bs) (by simp[L1,Heap.set]);cases i;have L:bs.length≠0:=by simpa using I
  generalize hn:bs.length=n at e;cases e with
  |vec0=>exact absurd hn L
  |vec _ _ _ _ cap T m hb X hsz hcap=>
   have M:w.shape? c=some (5,o.size):=by simp[World.shape?,O]
   rw[M]at hb;cases hb;subst hn;refine⟨_,_,(lo,u),h1,fun j C=>q j (by simpa using C),.inr rfl,⟨by simp,.inr ⟨c,cap,o,by simp,D0t _,O,hcap,?_,by omega,by simpa using W⟩⟩,rfl⟩;unfold maxLen;omega
set_option maxHeartbeats 1000000 in
theorem N5{Q}(b:Nat)(st:Option Nat)(bs:List UInt8)(s:ByteArray)(H:Heap)(u:BldOk H b st bs)(a9:s.size≠0)(hlen:bs.length+s.size≤140737488355328)
  (h: ∀c',BldOk H b (some c') (bs++B s)→Q (.tuple [.int .i64 s.size,.nilif]) (L1 H b (some c') (bs++B s))):E3 114 [.box b 0,.str s] (L1 H b st bs) Q:=by
 refine⟨by kernel_rfl,fun w vs hl hr hs=>?_⟩;obtain⟨a,x,rfl,ha,hx⟩:=A0F hl hr;rw[hx.str_inv];have ea:a= .pointer (some ⟨b,0,none⟩):=by cases ha;rfl
 rw[ea];obtain⟨p,v,fr,W,hf,hp,O,hst⟩:=B3k hs u;have b0:v.ownBlock≠some b:=by
  rw[hst];exact fun e=>(u.hs b e).1 rfl
 have X:(bs.map fun x=>Value.int .u8 x.toNat).length=bs.length:=by simp
 refine(A5I b p v (bs.map fun x=>Value.int .u8 x.toNat) s fr w hp W hf (by rw[X];exact O) b0 (by rw[X];exact hlen)).mono ?_;rintro e w' ⟨rfl,w1,T,v',k1,k2,k3,k4,k5,k6,k7,k8,rfl⟩;rw[X]at k5 k7;have c1:b<w.heap.size:=(D0x.1 W).1;have b1:s≠ByteArray.empty:=by rintro rfl;exact a9 rfl
 obtain⟨g,m,A,rfl,_,hg,b2,b3,b4,a0⟩: ∃g cap y,v'= .slice (some ⟨g,0,none⟩) (bs.length+s.size) cap∧0≤g∧T.heap[g]? =some (.cells y 5 (0,0))∧bs.length+s.size≤cap∧cap≤maxLen∧y.size=cap*1∧y.toList.take ((bs.length+s.size)*1)=(bs.map fun x=>Value.int .u8 x.toNat)++Lib.strCells s:=by
  rcases k5.2 with⟨hv,_⟩|hv
  ·exact absurd (k6.1 hv).2 b1
  ·exact hv
 --what is as_ it was
 have C: ∀k,k<w.heap.size→k≠b→st≠some k→(T.setCell ⟨b,1,none⟩ (.slice (some ⟨g,0,none⟩) (bs.length+s.size) m)).heap[k]? =w.heap[k]? :=fun k hk q z=>by
  rw[Below.heap_setCell _ _ _ k q,k4.block k (by omega) (by rw[hst];exact fun e=>z e.symm),k2.block k hk (fun e=>q (Option.some.inj e))]
 have Y:st=some g∨w.heap.size≤g:=by
  rcases k7 with⟨g',cap,e1,e2⟩|⟨_,e2⟩
  ·cases e2
   left
   rw[←hst,e1];rfl
  ·right
   have:=e2 g rfl;omega
 have J:g≠b:=by
  rintro rfl;rcases Y with e|e
  ·exact(u.hs g e).1 rfl
  ·omega
 have b6:H g=none:=by
  rcases Y with e|e
  ·exact(u.hs g e).2.1
  ·have:=hs.fresh e;rw[U3 J (fun e'=>by
    obtain⟨x,hx⟩: ∃x,L1 H b st bs g=some x:=⟨_,by rw[e'];simp[L1,Heap.set];rfl⟩
    rw[this]at hx;cases hx)]at this
   exact this
 have c2:B s=s.data.toList:=rfl;have L:(bs++B s).length=bs.length+s.size:=by rw[D0e,T9]
 have a4:BldOk H b (some g) (bs++B s):=⟨u.hb,(fun e=>by cases e),fun c e=>by
  cases e;exact⟨J,b6,fun e=>by
   have h3:=congrArg List.length e;rw[L,D0f]at h3;omega⟩⟩
 have U:(T.setCell ⟨b,1,none⟩ (.slice (some ⟨g,0,none⟩) (bs.length+s.size) m)).heap[b]? =some (.cells #[.pointer (some ⟨b,0,none⟩),.slice (some ⟨g,0,none⟩) (bs.length+s.size) m] 97 fr):=by
  rw[Lib.heap_setCell_same k8];rfl
 have G:(T.setCell ⟨b,1,none⟩ (.slice (some ⟨g,0,none⟩) (bs.length+s.size) m)).heap[g]? =some (.cells A 5 (0,0)):=by
  rw[Below.heap_setCell _ _ _ g J];exact hg
 have V:Ext (L1 H b st bs) w (T.setCell ⟨b,1,none⟩ (.slice (some ⟨g,0,none⟩) (bs.length+s.size) m)):=by
  refine⟨k4.os.trans k2.os,k4.tape.trans k2.tape,k4.output.trans k2.output,by have:=k4.size;have:=k2.size;simp[World.setCell];omega,fun k hk hn=>C k hk (A2b u hn).1 (A2b u hn).2,fun k hk=>?_⟩;by_cases q:k=b
  ·subst q;simp[World.shape?,U,W]
  ·by_cases z:st=some k
   ·
    obtain⟨c,cap,y,e1,_,e2,e3,e4,e5,e6⟩: ∃g cap y,v= .slice (some ⟨g,0,none⟩) bs.length cap∧0≤g∧w.heap[g]? =some (.cells y 5 (0,0))∧bs.length≤cap∧cap≤maxLen∧y.size=cap*1∧y.toList.take (bs.length*1)=bs.map fun x=>Value.int .u8 x.toNat:=by
     rcases O.2 with⟨hv,_⟩|hv
     ·rw[hv,z]at hst;cases hst
     ·exact hv
    have b7:c=k:=by rw[e1,z]at hst;simpa [Value.ownBlock]using hst
    subst b7;rcases k7 with⟨g',c0,f1,f2⟩|⟨f1,f2⟩
    ·rw[e1]at f1;cases f1;cases f2;simp[World.shape?,G,e2,b4,e5]
    ·have h1:(T.setCell ⟨b,1,none⟩ (.slice (some ⟨g,0,none⟩) (bs.length+s.size) m)).heap[c]? =w.heap[c]? :=by
      rw[Below.heap_setCell _ _ _ c q,f1 c (by omega),k2.block c hk (fun e=>q (Option.some.inj e))]
     unfold World.shape?;rw[h1]
   ·unfold World.shape?;rw[C k hk q z]
 have I:From w (L1 H b st bs) (L1 H b (some g) (bs++B s)):=fun k hk hn=>by
  obtain⟨n1,n2⟩:=A2b u hn;have M:k≠g:=by
   rintro rfl;rcases Y with e|e
   ·exact n2 e
   ·omega
  rw[A0N (H:=H) (U3 n1 (fun e=>M (Option.some.inj e).symm))];rwa [A0N (H:=H) (U3 n1 n2)]at hn
 have a5:A.toList.take (bs++B s).length=(bs++B s).map fun x=>Value.int .u8 x.toNat:=by
  rw[L];have:(bs.length+s.size)*1=bs.length+s.size:=by omega
  rw[this]at a0;rw[a0,D1Y];rfl
 have a6:Sat (L1 H b (some g) (bs++B s)) (T.setCell ⟨b,1,none⟩ (.slice (some ⟨g,0,none⟩) (bs.length+s.size) m)):=by
  intro k o ho;by_cases M:k=g
  ·subst M;have:o= .buf 5 (bs++B s):=by
    have e:L1 H b (some k) (bs++B s) k=some (.buf 5 (bs++B s)):=by simp[L1,Heap.set]
    rw[e]at ho;exact(Option.some.inj ho).symm
   subst this;exact⟨A,G,by rw[L];omega,by unfold maxLen at b3;omega,a5⟩
  ·by_cases q:k=b
   ·subst q;have:o= .box [.box k 0,.vec g 1 0 (bs++B s).length] (some 97):=by
     have e:L1 H k (some g) (bs++B s) k=some (.box [.box k 0,.vec g 1 0 (bs++B s).length] (some 97)):=by have b8:k≠g:=Ne.symm J;simp only[L1,Heap.set,if_neg b8,if_true]
     rw[e]at ho;exact(Option.some.inj ho).symm
    subst this;obtain⟨lo,hi⟩:=fr;refine A36 (fun t e=>by cases e;rfl) U (fun j hj=>hf j (by simpa using hj)) ⟨rfl,fun i d r=>?_,fun i d r=>?_⟩
    ·match i,r with
     |0,r=>cases r;rfl
     |1,r=>cases r;rfl
     |i+2,r=>simp at r
    ·match i,r with
     |0,r=>cases r;exact .box k 0
     |1,r=>
      cases r;rw[L];have hv:=R.vec (w:=T.setCell ⟨k,1,none⟩ (.slice (some ⟨g,0,none⟩) (bs.length+s.size) m)) (H:=L1 H k (some g) (bs++B s)) g 1 0 (bs.length+s.size) m 5 A.size (by simp[World.shape?,G]) (by omega) (by omega) b2;simpa using hv
     |i+2,r=>simp at r
   ·have e1:L1 H b (some g) (bs++B s) k=H k:=U3 q (fun e=>M (Option.some.inj e).symm);rw[e1]at ho;have z:st≠some k:=fun e=>by rw[(u.hs k e).2.1]at ho;cases ho
    have e2:L1 H b st bs k=H k:=U3 q z;have b9:=hs k o (by rw[e2];exact ho);exact b9.mono V I (C k (hs.lt (by rw[e2];exact ho)) q z)
 refine⟨_,rfl,.tuple [.int .i64 s.size,.nilif],_,.tuple _ _ rfl (fun i d r=>?_),a6,V,I,h g a4⟩
 match i,r with
 |0,r=>cases r;exact .int _ _
 |1,r=>cases r;exact .nilif
 |i+2,r=>simp at r
theorem A4g{w:World}{g n k:Nat}(h:k≠g):(w.freeze ⟨g,0,none⟩ n).heap[k]? =w.heap[k]? :=by
 unfold World.freeze;split
 ·rfl
 ·simp[Array.getElem?_modify,Ne.symm h]
theorem B07(w:World)(a:Addr)(n:Nat):(w.freeze a n).heap.size=w.heap.size:=by
 unfold World.freeze;split
 ·rfl
 ·exact Array.size_modify
theorem A87(w:World)(a:Addr)(n k:Nat):(w.freeze a n).shape? k=w.shape? k:=by
 unfold World.freeze;split
 ·rfl
 ·unfold World.shape?;simp only[Array.getElem?_modify];by_cases h:a.block=k
  ·rw[if_pos h];cases hk:w.heap[k]? with
   |none=>rfl
   |some o=>cases o<;>rfl
  ·rw[if_neg h]
theorem B08{Q}(b c:Nat)(bs:List UInt8)(H:Heap)(j:BldOk H b (some c) bs)(h:Q (.str (S bs)) H):E3 69 [.box b 0] (L1 H b (some c) bs) Q:=by
 refine⟨by kernel_rfl,fun w vs hl hr hs=>?_⟩;obtain⟨a,rfl,G⟩:=A14 hl hr;have I:a= .pointer (some ⟨b,0,none⟩):=by cases G;rfl
 rw[I];obtain⟨p,v,J,z,T,hp,r,hst⟩:=B3k hs j;obtain⟨L,u,A⟩:=j.hs c rfl;obtain⟨g,cap,d,rfl,_,e2,e3,M,e5,O⟩: ∃g cap d,v= .slice (some ⟨g,0,none⟩) bs.length cap∧0≤g∧w.heap[g]? =some (.cells d 5 (0,0))∧bs.length≤cap∧cap≤maxLen∧d.size=cap*1∧d.toList.take (bs.length*1)=bs.map fun x=>Value.int .u8 x.toNat:=by
  rcases r.2 with⟨hv,_⟩|hv
  ·rw[hv]at hst;cases hst
  ·exact hv
 have C:g=c:=by simpa [Value.ownBlock]using hst
 subst C;refine(A65 b g cap p d bs J w A z e2 e3 M (by omega) (by simpa using O)).mono ?_;rintro e w' ⟨rfl,rfl⟩;have m: ∀k,k≠g→(w.drew.freeze ⟨g,0,none⟩ bs.length).heap[k]? =w.heap[k]? :=fun k hk=>by rw[A4g hk];rfl
 have q:Ext (L1 H b (some g) bs) w (w.drew.freeze ⟨g,0,none⟩ bs.length):=by
  refine⟨by unfold World.freeze;split<;>rfl,by unfold World.freeze;split<;>rfl,by unfold World.freeze;split<;>rfl,by rw[B07];exact D0s _,fun k hk hn=>m k (fun e=>(A2b j hn).2 (by rw[e])),fun k hk=>?_⟩;rw[A87];rfl
 have y:H.Le (L1 H b (some g) bs):=fun k o ho=>by
  rw[U3 (fun e=>by rw[e,j.hb]at ho;cases ho) (fun e=>by rw[←Option.some.inj e,u]at ho;cases ho)];exact ho
 have i:From w (L1 H b (some g) bs) H:=fun k hk hn=>y.held hn;refine⟨_,rfl,.str (S bs),H,.str _,fun k o ho=>?_,q,i,h⟩;have h1:=y k o ho;refine(hs k o h1).mono q i (m k fun e=>?_);rw[e,u]at ho;cases ho
end Go.Proofs.YtibphjonmikciaaGreatDoor
namespace Go.Proofs.YtibphjonmikciaaGreatDoor
open Go Go.Av
attribute [local irreducible] ACalls S9
theorem A3s{H:Heap}{b d:Nat}{st:Option Nat}{bs:List UInt8}{o:Av.Obj}(h:L1 H b st bs d=none)(g:BldOk H b st bs):(L1 H b st bs).set d o=L1 (H.set d o) b st bs∧BldOk (H.set d o) b st bs∧H d=none:=by
 have h1:d≠b:=by
  rintro rfl;obtain⟨cs,e⟩:=B7f g;rw[h]at e;cases e
 have i:st≠some d:=by
  rintro rfl;have e:L1 H b (some d) bs d=some (.buf 5 bs):=by simp[L1,Heap.set]
  rw[h]at e;cases e
 rw[U3 h1 i]at h;refine⟨?_,⟨by rw[A4 _ (Ne.symm h1)];exact g.hb,g.hn,fun c e=>?_⟩,h⟩
 ·funext k
  cases st with
  |none=>
   simp only[L1,Heap.set];by_cases e1:k=d
   ·subst e1;simp[h1]
   ·simp[e1]
  |some c=>
   have j:d≠c:=fun e=>i (by rw[e]);simp only[L1,Heap.set];by_cases e1:k=d
   ·subst e1;simp[h1,j]
   ·simp[e1]
 ·obtain⟨m,p,q⟩:=g.hs c e;exact⟨m,by rw[A4 _ (fun e'=>i (by rw[e,e']))];exact p,q⟩
theorem A5b{H H':Heap}{b:Nat}{st:Option Nat}{bs:List UInt8}(h:H.Le H'):(L1 H b st bs).Le (L1 H' b st bs):=by
 intro k o hk;cases st with
 |none=>
  simp only[L1,Heap.set]at hk⊢;split
  ·rename_i e;rw[if_pos e]at hk;exact hk
  ·rename_i e;rw[if_neg e]at hk;exact h k o hk
 |some c=>
  simp only[L1,Heap.set]at hk⊢;split
  ·rename_i e;rw[if_pos e]at hk;exact hk
  ·rename_i e;rw[if_neg e]at hk;split
   ·rename_i e;rw[if_pos e]at hk;exact hk
   ·rename_i e;rw[if_neg e]at hk;exact h k o hk
theorem BldOk.less{H H':Heap}{b:Nat}{st:Option Nat}{bs:List UInt8}(h:BldOk H' b st bs)(hl:H.Le H'):BldOk H b st bs:=⟨hl.none h.hb,h.hn,fun c e=>⟨(h.hs c e).1,hl.none (h.hs c e).2.1,(h.hs c e).2.2⟩⟩
theorem A2c{H:Heap}{b:Nat}{st:Option Nat}{bs:List UInt8}(h:BldOk H b st bs):H.Le (L1 H b st bs):=fun k o ho=>by
 rw[U3 (fun e=>by rw[e,h.hb]at ho;cases ho) (fun e=>by rw[(h.hs k e).2.1]at ho;cases ho)];exact ho
end Go.Proofs.YtibphjonmikciaaGreatDoor
namespace Go.Fo
open Go Go.Av Go.Lexs Go.Lin
theorem B4u(b:Bool)(t:LTm)(h1:G4 (B t.v)=true)(d:t.c.natAbs≤1048576):(U0 b t).length≤230:=by
 have:=A5R 18 t.c.natAbs (by omega);have hn:=A3B h1;have hb:=T9 t.v;unfold U0;simp only[D0e];have e1:(if t.c<0 then [45]else if b=true then([]:List UInt8)else [43]).length≤1:=by split;simp;split<;>simp
 have e2:(if t.c.natAbs=1 then([]:List UInt8)else dec t.c.natAbs++[42]).length≤20:=by
  split
  ·simp
  ·simp only[D0e,D0d,D0f];omega
 omega
theorem B2W: ∀(l:List LTm) (b:Bool),(∀t∈l,G4 (B t.v)=true∧t.c.natAbs≤1048576)→(L3 b l).length≤230*l.length:=by
 intro l
 induction l with
 |nil=>intro b _;simp[L3]
 |cons t l d=>
  intro b h;rw[L3,D0e,D0d];have:=B4u b t (h t (D0j ..)).1 (h t (D0j ..)).2;have:=d false fun x hx=>h x (D0q _ hx);omega
theorem B4v{l:LinV}(h:validL l=true):(F6 l).length≤230*l.t.length+30:=by
 have ok:=M0 h;have h1:=B2W l.t true fun t d=>⟨(M7 ok.t t d).1,(M7 ok.t t d).2.2⟩
 have hk:=ok.k;have:=A5R 18 l.k.natAbs (by omega);have e1:(R7 l).length≤20:=by
  unfold R7 A0K;split
  ·have e1:(if l.k<0 then [45]else if l.t.isEmpty=true then([]:List UInt8)else [43]).length≤1:=by split;simp;split<;>simp
   rw[D0e];omega
  ·simp
 have e2:(if l.e=true then([61,48]:List UInt8)else [62,61,48]).length≤3:=by split<;>simp
 unfold F6 L8;rw[D0e,D0e];omega
theorem A6k: ∀(f:Fm),I5 E4 f=true→(E8 f).length+2≤400*J0 f:=by
 intro f
 induction f using T7 with
 |h o n l s ks e=>
  intro i;have hk: ∀k∈ks,I5 E4 k=true:=fun k hk=>S7 (f:=.mk o n l s ks) i hk;have key: ∀(m:List Fm) (b:Bool),(∀k∈m,(E8 k).length+2≤400*J0 k)→(E8.textK b m).length≤400*J0.wtL m:=by
   intro m
   induction m with
   |nil=>intro b _;simp[E8.textK]
   |cons g j d=>
    intro b hm;have p:=hm g (D0j ..);have q:=d false fun k h=>hm k (D0q _ h);have r:(if b=true then([]:List UInt8)else [44,32]).length≤2:=by split<;>simp
    rw[P1,J0.wtL,D0e,D0e];omega
  have u:=key ks true fun k hm=>e k hm (hk k hm);have hw:J0 (.mk o n l s ks)=1+l.t.length+J0.wtL ks:=K4 _;rw[hw];cases Z4 i with
  |con n h=>rw[B3W rfl];split<;>(simp only[A06,flsB,D0d,D0f];omega)
  |lin l h hp=>rw[B3X rfl];have:=B4v h;simp only[Fm.l];omega
  |var s h=>
   rw[B3Y rfl];have:=A3B (A6Y h);have:=T9 s;simp only[Fm.s,D0d];omega
  |not k=>rw[B3Z rfl rfl];have:=e k (D0j ..) (hk k (D0j ..));simp only[J0.wtL,D0d];omega
  |and ks=>rw[A41 (by simp[Fm.op]) (by simp[Fm.op]) (by simp[Fm.op]) (by simp[Fm.op])];simp only[Fm.ks,D0d,D0e,D0f];omega
  |or ks=>rw[A41 (by simp[Fm.op]) (by simp[Fm.op]) (by simp[Fm.op]) (by simp[Fm.op])];simp only[Fm.ks,D0d,D0e,D0f];omega
theorem A6l(ks:List Fm)(i:Nat)(hk: ∀k∈ks,I5 E4 k=true):(E8.textK true (ks.take i)).length≤400*J0.wtL (ks.take i):=by
 have key: ∀(m:List Fm) (b:Bool),(∀k∈m,I5 E4 k=true)→(E8.textK b m).length≤400*J0.wtL m:=by
  intro m
  induction m with
  |nil=>intro b _;simp[E8.textK]
  |cons g e d=>
   intro b hm;have j:=A6k g (hm g (D0j ..));have o:=d false fun k h=>hm k (D0q _ h);have p:(if b=true then([]:List UInt8)else [44,32]).length≤2:=by split<;>simp
   rw[P1,J0.wtL,D0e,D0e];omega
 exact key _ true fun k h=>hk k (List.mem_of_mem_take h)
theorem node_or{f:Fm}(d:I5 E4 f=true):(∃m,(m=0∨m=1)∧f= .mk 1 m nilL D8 [])∨(∃l,validL l=true∧(∀t∈l.t,plainB t.v=true)∧f= .mk 2 0 l D8 [])∨(∃s,plainB s=true∧f= .mk 3 0 nilL s [])∨(∃k,f= .mk 4 0 nilL D8 [k])∨∃o ks,(o=5∨o=6)∧f= .mk o 0 nilL D8 ks:=by
 cases Z4 d with
 |con n h=>exact .inl ⟨n,h,rfl⟩
 |lin l h hp=>exact .inr (.inl ⟨l,h,hp,rfl⟩)
 |var s h=>exact .inr (.inr (.inl ⟨s,h,rfl⟩))
 |not k=>exact .inr (.inr (.inr (.inl ⟨k,rfl⟩)))
 |and ks=>exact .inr (.inr (.inr (.inr ⟨5,ks,.inl rfl,rfl⟩)))
 |or ks=>exact .inr (.inr (.inr (.inr ⟨6,ks,.inr rfl,rfl⟩)))
theorem A0Z(l:List Fm)(i:Nat)(h:i<l.length):J0.wtL (l.take i)+J0 l[i]≤J0.wtL l:=by
 have:=A5V (l.take i) (l.drop i);rw[D1J]at this;have:=A4X l i h;omega
end Go.Fo
namespace Go.Proofs.YtibphjonmikciaaGreatDoor
open Go Go.Av Go.Lexs Go.Lin Go.Fo
attribute [local irreducible] ACalls S9
set_option maxHeartbeats 4000000 in
theorem B96(n:Nat): ∀{Q} (f:Fm) (hn:SizeOf.sizeOf f≤n) (hf:I5 E4 f=true) (fa:FmFit f) (b:Nat) (st:Option Nat) (bs:List UInt8) (hl:bs.length+400*J0 f≤140737488355328) (H:Heap) (hT:Tabs H) (a5:BldOk H b st bs)
    (h: ∀c',BldOk H b (some c') (bs++E8 f)→Q (.tuple []) (L1 H b (some c') (bs++E8 f))),E3 68 [.box b 0,.agg (C1 f)] (L1 H b st bs) Q:=by
  induction n with
  |zero=>intro Q f hn;cases f;simp at hn
  |succ n ih=>
  intro Q f hn hf fa b st bs hl H hT a5 h;refine A9 [] A8 Tryz.func68 rfl ?_;simp only[go_sem,seval,Tryz.results68];intro b3 g3;have q:=A6k f hf;have a6:=fa.kl;obtain⟨e3,j,b7⟩:=A3s (o:=.box (C1 f)) g3 a5;rw[e3];have c3:(H.set b3 (.box (C1 f))) b3=some (.box (C1 f)):=A3 _ _;have J:H.Le (H.set b3 (.box (C1 f))):=A0 b7;have z:=hT.le J;generalize H.set b3 (.box (C1 f))=Bs at j c3 J z⊢;have d3: ∀{a9 b0},BldOk Bs b a9 b0→L1 Bs b a9 b0 b3=some (.box (C1 f)):=fun hk=>A2c hk _ _ c3;have p3:=d3 j;have done: ∀c':Nat,BldOk Bs b (some c') (bs++E8 f)→Fin Q (.tuple []) (L1 Bs b (some c') (bs++E8 f)):=fun c' hk=>D10 (A5b J) (h c' (hk.less J));rcases node_or hf with⟨m,hm,rfl⟩|⟨l,hv,hp,rfl⟩|⟨s,hp,rfl⟩|⟨k,rfl⟩|⟨o,ks,ho,rfl⟩
  · rw[B3W rfl]at done q
    simp only[Fm.n]at done q;have z1:(⟨#[116,114,117,101]⟩:ByteArray).size=4:=rfl;have z0:(⟨#[102,97,108,115,101]⟩:ByteArray).size=5:=rfl;rcases hm with rfl|rfl
    all_goals
      (repeat' (first|with_reducible apply D0Y|simp only[go_sem,seval,p3]|simp(disch:=first|omega|grind) only[B4]|intro r|omega)
       rename_i x;have hx:=r;clear r;obtain⟨e5,A,b9⟩:=A3s (o:=.vec 1 [[.str ⟨#[102,97,108,115,101]⟩],[.str ⟨#[116,114,117,101]⟩]]) hx j;have C:=A0 (o:=.vec 1 [[.str ⟨#[102,97,108,115,101]⟩],[.str ⟨#[116,114,117,101]⟩]]) b9;have q3:L1 (Bs.set x (.vec 1 [[.str ⟨#[102,97,108,115,101]⟩],[.str ⟨#[116,114,117,101]⟩]])) b st bs b3=_:=A2c A _ _ (C _ _ c3);have qx:L1 (Bs.set x (.vec 1 [[.str ⟨#[102,97,108,115,101]⟩],[.str ⟨#[116,114,117,101]⟩]])) b st bs x=some (.vec 1 [[.str ⟨#[102,97,108,115,101]⟩],[.str ⟨#[116,114,117,101]⟩]]):=A2c A _ _ (A3 _ _);rw[e5];repeat' (first|with_reducible apply D0Y|simp only[go_sem,seval,q3,qx]|simp(disch:=omega) only[A5,B2,A17,C3,A0Z]|simp(disch:=first|omega|grind) only[B4]|intro r|omega)
       refine N5 b st bs _ _ A ?_ ?_ fun c' d=>?_
       · decide
       · simp only[z1,z0];omega
       repeat' simp only[go_sem,seval]
       exact Fin.then (A5b C) (done c' (d.less C)))
  · rw[B3X rfl]at done q
    simp only[Fm.l]at done q;have hlen:(S (F6 l)).size=(F6 l).length:=O6 _;have d0:(F6 l).length≠0:=fun e=>B2K l (D0w e);have tx:=fun(Q:D→Heap→Prop) (H:Heap) (hT:Tabs H)=>B64 (Q:=Q) l fa.lin H hT;simp only[hv,if_true]at tx;repeat' (first|with_reducible apply D0Y|simp only[go_sem,seval,p3]|with_reducible refine tx _ _ (z.le (A2c j)) ?_)
    refine N5 b st bs (S (F6 l)) _ j (by omega) (by omega) fun c' d=>?_;rw[t7]at d⊢;repeat' simp only[go_sem,seval]
    exact done c' d
  · rw[B3Y rfl]at done q
    simp only[Fm.s]at done q;have hlen:(⟨#[63]⟩++s:ByteArray).size=1+s.size:=by rw[ByteArray.size_append];rfl
    have hB:B (⟨#[63]⟩++s:ByteArray)=63::B s:=by rw[y5];rfl
    have d2:=T9 s;simp only[D0d]at q;repeat' (first|with_reducible apply D0Y|simp only[go_sem,seval,p3]|omega)
    refine N5 b st bs (⟨#[63]⟩++s) _ j (by omega) (by omega) fun c' d=>?_;rw[hB]at d⊢;repeat' simp only[go_sem,seval]
    exact done c' d
  · rw[B3Z rfl rfl]at done q
    have r0:(Rw C1 [k]).getD 0 []=C1 k:=rfl;have hsz:SizeOf.sizeOf k<SizeOf.sizeOf (Fm.mk 4 0 nilL D8 [k]):=W8 (f:=.mk 4 0 nilL D8 [k]) (D0j ..);have hw:J0 (.mk 4 0 nilL D8 [k])=1+J0 k:=by rw[K4];simp[Fm.l,Fm.ks,nilL,J0.wtL]
    rw[hw]at hl;repeat' (first|with_reducible apply D0Y|simp only[go_sem,seval,p3])
    refine N5 b st bs ⟨#[33]⟩ _ j (by decide) (by show _+1≤_;omega) fun c' d=>?_;have hB:B (⟨#[33]⟩:ByteArray)= [33]:=rfl;rw[hB]at d⊢;have q3:=d3 d;repeat' (first|with_reducible apply D0Y|simp only[go_sem,seval,q3,r0]|omega)
    all_goals first
      |decide
      |omega
      |skip
    refine ih k (by omega) (S7 hf (D0j ..)) (fa.kid (D0j ..)) b (some c') (bs++[33]) (by rw[D0e,D0g];omega) _ z d fun c7 O=>?_;have he:bs++[33]++E8 k=bs++33::E8 k:=by simp
    rw[he]at O⊢;repeat' simp only[go_sem,seval]
    exact done c7 O
  · have L: ∀k∈ks,I5 E4 k=true:=fun k hk=>S7 (f:=.mk o 0 nilL D8 ks) hf hk
    have b1: ∀k∈ks,FmFit k:=fun k hk=>fa.kid hk;have a6:ks.length≤1466015503658:=a6;have hw:J0 (.mk o 0 nilL D8 ks)=1+J0.wtL ks:=by rw[K4];simp[Fm.l,Fm.ks,nilL]
    rw[hw]at hl;have b2:B (⟨#[41]⟩:ByteArray)= [41]:=rfl;have b4:B (⟨#[44,32]⟩:ByteArray)= [44,32]:=rfl;have hsz: ∀k∈ks,SizeOf.sizeOf k<SizeOf.sizeOf (Fm.mk o 0 nilL D8 ks):=fun k hk=>W8 (f:=.mk o 0 nilL D8 ks) hk;obtain⟨T,G⟩: ∃T:ByteArray,T=if o=6 then⟨#[124,40]⟩else⟨#[38,40]⟩:=⟨_,rfl⟩
    have c0:E8 (.mk o 0 nilL D8 ks)=B T++(E8.textK true ks++[41]):=by
      rcases ho with rfl|rfl
      · rw[A41 (by simp[Fm.op]) (by simp[Fm.op]) (by simp[Fm.op]) (by simp[Fm.op]),G];rfl
      · rw[A41 (by simp[Fm.op]) (by simp[Fm.op]) (by simp[Fm.op]) (by simp[Fm.op]),G];rfl
    rw[c0]at done q;have c4:T.size=2:=by rw[G];split<;>rfl
    have d4:=T9 T;rcases ho with rfl|rfl
    all_goals
      (simp only[Int.reduceEq,if_true,if_false]at G
       repeat' (first|with_reducible apply D0Y|simp only[go_sem,seval,p3,←G])
       refine N5 b st bs T _ j (by omega) (by omega) fun c' d=>?_;have q3:=d3 d;repeat' simp only[go_sem,seval,q3]
       obtain⟨X0,U⟩: ∃X0,X0=bs++B T:=⟨_,rfl⟩
       rw[←U]at d q3⊢;have c5:X0.length=bs.length+2:=by rw[U,D0e];omega
       refine C9 [0,18,19] (fun(y:Nat×Nat×List UInt8)=>[(20,.int .i64 y.1)]) (fun(y:Nat×Nat×List UInt8)=>L1 Bs b (some y.2.1) y.2.2) (fun(y:Nat×Nat×List UInt8)=>y.1≤ks.length∧BldOk Bs b (some y.2.1) y.2.2∧y.2.2=X0++E8.textK true (ks.take y.1)) (fun(y:Nat×Nat×List UInt8)=>ks.length-y.1) ((0,c',X0)) (⟨D0t _,d,by simp[E8.textK]⟩) (by(try simp only[go_sem,seval])<;>(try simp(disch:=omega) [A5])) (by first|exact D1z _|exact A0 (by assumption)|exact B3 (by assumption)|simp only[Heap.Le,Heap.set,Heap.del]at* <;>grind) ?_;rintro Ec rfl ⟨i,c,X⟩ ⟨q1,q2,q4⟩;simp only at q1 q2 q4
       have c1:X.length≤bs.length+2+400*J0.wtL (ks.take i):=by
         have:=A6l ks i L;rw[q4,D0e];omega
       by_cases u:i<ks.length
       · have M:decide ((i:Int)<ks.length)=true:=D0a (by omega)
         have b6:(i:Int)<ks.length:=by omega
         have hm:=D0m u;have d5:=A0Z ks i u;have c6:=A6k ks[i] (L _ hm);by_cases h0:i=0
         · have hg:decide ((0:Int)<i)=false:=D0b (by omega)
           have V: ¬(0:Int)<i:=by omega
           repeat' (first|with_reducible apply D0Y|simp only[go_sem,seval,M,b6,hg,V,B2 _ _ u,C2 _ _ u]|intro r|omega)
           rename_i W;have Y:=r;clear r;obtain⟨e8,I,a0⟩:=A3s (o:=.box (C1 ks[i])) Y q2;have p:Bs.Le (Bs.set W (.box (C1 ks[i]))):=A0 a0;have c8:(Bs.set W (.box (C1 ks[i]))) W=some (.box (C1 ks[i])):=A3 _ _;rw[e8];refine ih ks[i] (by have:=hsz _ hm;omega) (L _ hm) (b1 _ hm) b (some c) X (by omega) _ (z.le p) I fun c9 g=>?_;repeat' (first|simp only[go_sem,seval]|simp(disch:=omega) only[A5,B2,A17,C3,A0Z])
           exact C4 (i+1,c9,X++E8 ks[i]) ⟨by simp only[];omega,g.less p,by simp only[];rw[q4,A17 _ _ u,if_pos h0];simp⟩ (by simp only[];omega) (by(try simp only[go_sem,seval])<;>(try simp(disch:=omega) [A5])) (A5b p)
         · have hg:decide ((0:Int)<i)=true:=D0a (by omega)
           have V:(0:Int)<i:=by omega
           repeat' (first|with_reducible apply D0Y|simp only[go_sem,seval,M,b6,hg,V,B2 _ _ u,C2 _ _ u]|intro r|omega)
           rename_i W;have Y:=r;clear r;obtain⟨e8,I,a0⟩:=A3s (o:=.box (C1 ks[i])) Y q2;have p:Bs.Le (Bs.set W (.box (C1 ks[i]))):=A0 a0;have c8:(Bs.set W (.box (C1 ks[i]))) W=some (.box (C1 ks[i])):=A3 _ _;rw[e8];refine N5 b (some c) X ⟨#[44,32]⟩ _ I (by decide) (by show _+2≤_;omega) fun c9 g=>?_;rw[b4]at g⊢;have d8:=A2c g _ _ c8;repeat' simp only[go_sem,seval,d8]
           refine ih ks[i] (by have:=hsz _ hm;omega) (L _ hm) (b1 _ hm) b (some c9) (X++[44,32]) (by rw[D0e];simp only[D0d,D0f];omega) _ (z.le p) g fun c2 a4=>?_;repeat' (first|simp only[go_sem,seval]|simp(disch:=omega) only[A5,B2,A17,C3,A0Z])
           exact C4 (i+1,c2,X++[44,32]++E8 ks[i]) ⟨by simp only[];omega,a4.less p,by simp only[];rw[q4,A17 _ _ u,if_neg h0];simp⟩ (by simp only[];omega) (by(try simp only[go_sem,seval])<;>(try simp(disch:=omega) [A5])) (A5b p)
       · have M:decide ((i:Int)<ks.length)=false:=D0b (by omega)
         rw[D0n (by omega)]at q4 c1;repeat' simp only[go_sem,seval,M]
         refine N5 b (some c) X ⟨#[41]⟩ _ q2 (by decide) (by show _+1≤_;omega) fun c9 g=>?_;rw[b2]at g⊢;have he:X++[41]=bs++(B T++(E8.textK true ks++[41])):=by rw[q4,U];simp only[D1M]
         rw[he]at g⊢;repeat' simp only[go_sem,seval]
         exact done c9 g)
theorem A88{Q}(f:Fm)(u:FmFit f)(x:VOk f)(H:Heap)(y:Tabs H)(h:Q (.tuple [.str (if E6 f=true then S (E8 f)else S []),.int .i64 (if E6 f=true then 0 else 2)]) H):E3 27 [.agg (C1 f)] H Q:=by
 refine A9 [] A8 Tryz.func27 rfl ?_;simp only[go_sem,seval,Tryz.results27];intro o z;have e1:(H.set o (.box (C1 f))) o=some (.box (C1 f)):=A3 _ _;have d:H.Le (H.set o (.box (C1 f))):=A0 z;generalize H.set o (.box (C1 f))=Bs at e1 d⊢;have q:=y.le d;have p:=fun(Q:D→Heap→Prop) (H:Heap)=>R4 (Q:=Q) f u x H;cases hv:E6 f with
 |false=>
  rw[hv]at h p;simp only[D0o,if_false]at h;repeat' (first|simp only[go_sem,seval,e1]|with_reducible refine p _ _ ?_)
  exact D10 d h
 |true=>
  rw[hv]at h p;simp only[if_true]at h;have A:=B00 hv;repeat' (first|simp only[go_sem,seval,e1]|simp(disch:=first|omega|grind) only[B4]|intro i|with_reducible refine p _ _ ?_)
  rename_i j;have C:=i;clear i;have m:BldOk Bs j none []:=⟨C,fun _=>rfl,fun c e=>by cases e⟩
  have r:Bs.set j (.box [.nilp,.nilsl] (some 97))=L1 Bs j none []:=rfl;rw[r];have d1:=A2c m _ _ e1;repeat' (first|with_reducible apply D0Y|simp only[go_sem,seval,d1]|simp(disch:=omega) only[C3]|simp(disch:=first|omega|grind) only[B4]|intro i|omega)
  refine B96 _ f (D0s _) (O1 hv) u j none [] (by simp only[D0f];omega) _ q m fun c' g=>?_;rw[D1k]at g⊢;repeat' (first|simp only[go_sem,seval]|with_reducible refine B08 j c' (E8 f) _ g ?_)
  exact D10 d h
end Go.Proofs.YtibphjonmikciaaGreatDoor
namespace Go.Fo
open Go Go.Av Go.Lexs Go.Lin
theorem RdS.out{H d G:Heap}{br sz:Nat}{es:List (List D)}{ob:Option Nat}{r:List UInt8}{bad:Bool}{rd:List D}(h:RdS H d br r bad)(g:G br=none)(hb:H br=some (.box rd))(q:OutIn G sz es ob H):OutIn G sz es ob d:=by
 refine⟨h.le q.1 g,?_,q.2.2⟩;cases ob with
 |none=>exact q.2.1
 |some c=>
  have hc:H c=some (.vec sz es):=q.2.1;exact h.keep hc fun e=>by rw[e,hb]at hc;cases hc
theorem B7g{G d:Heap}{br x h sz:Nat}{ob:Option Nat}{es:List (List D)}{c rd:List D}{o:Av.Obj}(q:OutIn G sz es ob d)(g:d br=some (.box rd))(hx:d x=none)(r:G h=none)(i:K1 (d.set x o) ob h=none):
  ((K1 (d.set x o) ob).set h (.vec sz (es++[c]))) br=some (.box rd)∧OutIn G sz (es++[c]) (some h) ((K1 (d.set x o) ob).set h (.vec sz (es++[c]))):=by
 have u:=q.set hx o;have j:br≠x:=fun e=>by rw[←e,g]at hx;cases hx
 have h1:K1 (d.set x o) ob br=some (.box rd):=by
  cases ob with
  |none=>show (d.set x o) br=_;rw[A4 _ j];exact g
  |some c=>
   have hc:d c=some (.vec sz es):=q.2.1;have:br≠c:=fun e=>by rw[←e,g]at hc;cases hc
   show (Heap.del _ c) br=_;rw[D4 this,A4 _ j];exact g
 have m:br≠h:=fun e=>by rw[←e,h1]at i;cases i
 refine⟨by rw[A4 _ m];exact h1,fun k p hk=>?_,A3 _ _,fun b e=>by cases e;exact r⟩;have:k≠h:=fun e=>by rw[e,r]at hk;cases hk
 rw[A4 _ this];exact u.le k p hk
theorem B09{H Hp:Heap}{br sz:Nat}{es:List (List D)}{ob:Option Nat}{r:List UInt8}{bad:Bool}(q:OutIn (H.del br) sz es ob Hp)(h:Hp br=some (.box [.str (S r),.bool bad])):(H.set br (.box [.str (S r),.bool bad])).Le (K1 Hp ob):=fun k o hk=>by
 by_cases e:k=br
 ·subst e;rw[A3]at hk;cases ob with
  |none=>show Hp k=_;rw[h];exact hk
  |some c=>
   have hc:Hp c=some (.vec sz es):=q.2.1;have:k≠c:=fun e=>by rw[←e,h]at hc;cases hc
   show (Heap.del _ c) k=_;rw[D4 this,h];exact hk
 ·rw[A4 _ e]at hk;exact q.le k o (by rw[D4 e];exact hk)
theorem B4w{H Hp:Heap}{br sz:Nat}{es:List (List D)}{ob:Option Nat}{r:List UInt8}{bad:Bool}(q:OutIn (H.del br) sz es ob Hp)(h:Hp br=some (.box [.str (S r),.bool bad])):(H.set br (.box [.str (S r),.bool bad])).Le Hp:=(B09 q h).trans (B85 _ _)
end Go.Fo
namespace Go.Proofs.YtibphjonmikciaaGreatDoor
open Go Go.Av Go.Lexs Go.Lin Go.Fo
attribute [local irreducible] ACalls S9
theorem Tabs.hro{H H':Heap}(d:Tabs H)(h: ∀k cs,H k=some (.ro cs)→H' k=some (.ro cs)):Tabs H':=⟨h _ _ d.pow,let ⟨t,e⟩:=d.syn;⟨t,h _ _ e⟩,let ⟨t,e⟩:=d.rng;⟨t,h _ _ e⟩⟩
theorem Tabs.rd{H Hp:Heap}{br:Nat}{rd:List D}(g:Tabs H)(hb:H br=some (.box rd))(d:(H.del br).Le Hp):Tabs Hp:=g.hro fun k cs hk=>d k _ (by
 have h:k≠br:=fun e=>by rw[e,hb]at hk;cases hk
 rw[D4 h];exact hk)
def A7x(e:Nat):Prop:=∀(Q:D→Heap→Prop) (br:Nat) (r:List UInt8),r.length≤20000→(∀k,A6f (r.drop k))→∀(H:Heap),Tabs H→H br=some (.box [.str (S r),.bool false])→(∀H',RdS H H' br (G5 e r).2.1 (G5 e r).2.2→Q (.agg (C1 (G5 e r).1)) H')→E3 71 [.box br 0,.int .i64 (61-e)] H Q
theorem A2d{r:List UInt8}(hx: ∀k,A6f (r.drop k))(j:Nat): ∀k,A6f ((r.drop j).drop k):=fun k=>by rw[D1i];exact hx _
set_option maxHeartbeats 4000000 in
theorem B7h(e:Nat)(he:e≤60)(hF:A7x e){Q}(br:Nat)(q:List UInt8)(b0:q.length≤20000)(b2: ∀k,A6f (q.drop k))(H:Heap)(hT:Tabs H)(hb:H br=some (.box [.str (S q),.bool false]))
  (X: ∀r,r.length≤20000→∃j,(G5 e r).2.1=r.drop j)
  (h: ∀H',RdS H H' br (Y1 (G5 e) q).2.1 (Y1 (G5 e) q).2.2→Q (.sl 7 (Rw C1 (Y1 (G5 e) q).1)) H'):E3 119 [.box br 0,.int .i64 (61-e)] H Q:=by
 refine A9 [] A8 Tryz.func119 rfl ?_;simp only[go_sem,seval,Tryz.results119];have i:B (⟨#[41]⟩:ByteArray)= [41]:=rfl;have C:B (⟨#[44,32]⟩:ByteArray)= [44,32]:=rfl;have G:(⟨#[41]⟩:ByteArray).size=1:=rfl;have Y:(⟨#[44,32]⟩:ByteArray).size=2:=rfl;refine A3E br ⟨#[41]⟩ q false H hb fun H1 I=>?_;rw[i,G]at I;unfold Y1 at h;rw[i];cases hp:pre [41] q with
 |true=>
  rw[hp]at h I;simp only[if_true]at h I;repeat' simp only[go_sem,seval]
  exact D7 (.nil 7) (D13 (h _ I))
 |false=>
  rw[hp]at h I;simp only[D0o,if_false]at h I;obtain⟨fin,J⟩: ∃fin,fin=A07 (G5 e) (q.length+1) q []:=⟨_,rfl⟩
  rw[←J]at h;repeat' simp only[go_sem,seval]
  refine C9 [0,1] (fun(p:(List UInt8×List Fm×Bool)×Option Nat×Heap)=>[(5,J1 7 p.1.2.1.length p.2.1)]) (fun(p:(List UInt8×List Fm×Bool)×Option Nat×Heap)=>p.2.2) (fun(p:(List UInt8×List Fm×Bool)×Option Nat×Heap)=>p.2.2 br=some (.box [.str (S p.1.1),.bool p.1.2.2])∧OutIn (H.del br) 7 (Rw C1 p.1.2.1) p.2.1 p.2.2∧(∃j,p.1.1=q.drop j)∧(p.1.2.2=true→fin=([],p.1.1,true))∧(p.1.2.2=false→p.1.2.1.length+p.1.1.length≤20000∧∃n,p.1.1.length+1≤n∧A07 (G5 e) n p.1.1 p.1.2.1=fin)) (fun(p:(List UInt8×List Fm×Bool)×Option Nat×Heap)=>(if p.1.2.2=true then 0 else p.1.1.length+1)) (((q,[],false),none,H1)) (⟨I.here,⟨fun k o hk=>by
    have k1:k≠br:=fun e=>by rw[e]at hk;simp[Heap.del]at hk
    show H1 k=some o;rw[I.els k k1];rw[D4 k1]at hk;exact hk,rfl,fun _ e=>(by cases e)⟩,⟨0,rfl⟩,fun e=>(by cases e),fun _=>⟨by simpa using b0,_,D0s _,J.symm⟩⟩) (by simp only[go_sem,seval]) (by first|exact D1z _|exact A0 (by assumption)|exact B3 (by assumption)|simp only[Heap.Le,Heap.set,Heap.del]at* <;>grind) ?_
  rintro Ec rfl ⟨⟨r,out,bad⟩,ob,Hp⟩ ⟨W,q2,⟨j,q3⟩,q4,q5⟩;simp only at W q2 q3 q4 q5;cases bad with
  |true=>
   rw[q4 rfl]at h;repeat' simp only[go_sem,seval,W]
   exact D7 (.nil 7) (D10 (B4w q2 W) (h _ (RdS.set _ _ _ _)))
  |false=>
   obtain⟨c2,n,hn,hl⟩:=q5 rfl;obtain⟨n,rfl⟩: ∃m,n=m+1:=⟨n-1,by omega⟩
   rw[A07]at hl;have L:r.length≤20000:=by omega
   obtain⟨hsz,_⟩:=B05 e r L;obtain⟨j2,M⟩:=X r L;have b3:Tabs Hp:=hT.rd hb q2.1;have b4: ∀k,A6f (r.drop k):=by rw[q3];exact A2d b2 j
   have hG:(H.del br) br=none:=by simp[Heap.del]
   repeat' simp only[go_sem,seval,W]
   refine hF _ br r L b4 Hp b3 W fun H2 s2=>?_;obtain⟨⟨f1,y,b1⟩,b6⟩: ∃x,x=G5 e r:=⟨_,rfl⟩
   rw[←b6]at hl s2 hsz M⊢;simp only at hl s2 hsz M;have a0:=s2.out hG W q2;have b7:=s2.here;repeat' (first|simp only[go_sem,seval]|intro a4)
   rename_i x;have hx:=a4;clear a4;refine B27 (a0.set hx _) (by simp) (by rw[D6]) (by simp only[D0d,D0f];omega) (by simp only[D0d,D0f];omega) fun b' b8 a5 b9=>?_;obtain⟨z,O⟩:=B7g (c:=C1 f1) a0 b7 hx b8 a5;have c0:Rw C1 out++[C1 f1]=Rw C1 (out++[f1]):=by simp[Rw]
   rw[c0]at z O⊢;clear a5 b9;generalize (K1 (H2.set x _) ob).set b' (.vec 7 (Rw C1 (out++[f1])))=Hn at z O⊢;repeat' simp only[go_sem,seval]
   refine A3E br ⟨#[41]⟩ y b1 Hn z fun H3 T=>?_;rw[i,G]at T;rw[i];have A:=T.out hG z O;have d:=T.here;cases a6:pre [41] y with
   |true=>
    rw[a6]at hl T d;simp only[if_true]at hl T d;rw[←hl]at h;repeat' simp only[go_sem,seval]
    exact Fin.out (ob:=some b') (es:=Rw C1 (out++[f1])) (by rw[D6];simp) A.2.1 (D10 (B09 A d) (h _ (RdS.set _ _ _ _)))
   |false=>
    rw[a6]at hl T d;simp only[D0o,if_false]at hl T d;have u: ∃k,y=q.drop k:=⟨j+j2,by rw[M,q3,D1i]⟩
    cases b1 with
    |true=>
     simp only[if_true]at hl;repeat' simp only[go_sem,seval,d]
     refine C4 ((y,out++[f1],true),some b',H3) ⟨d,A,u,fun _=>hl.symm,fun e=>(by cases e)⟩ (by simp only[if_true,D0o,if_false];omega) (by simp only[go_sem,seval,D0e,D0d,D0f]) ?_;rw[B3S d];exact D1z _
    |false=>
     simp only[D0o,if_false]at hl;repeat' simp only[go_sem,seval,d]
     refine A3E br ⟨#[44,32]⟩ y false H3 d fun H4 U=>?_;rw[C,Y]at U;rw[C];have a9:=U.out hG d A;have g:=U.here;cases V:pre [44,32] y with
     |true=>
      rw[V]at hl U g;simp only[if_true]at hl U g;obtain⟨k3,u⟩:=u;have c1:=A1a V;simp only[D0d,D0f]at c1;repeat' simp only[go_sem,seval,g]
      refine C4 ((y.drop 2,out++[f1],false),some b',H4) ⟨g,a9,⟨k3+2,by rw[u,D1i]⟩,fun e=>(by cases e),fun _=>⟨by simp only[D0e,D0d,D0f,D06];omega,n,by simp only[D06];omega,hl⟩⟩ (by simp only[D0o,if_false,D06];omega) (by simp only[go_sem,seval,D0e,D0d,D0f]) ?_;rw[B3S g];exact D1z _
     |false=>
      rw[V]at hl U g;simp only[D0o,if_false]at hl U g;repeat' simp only[go_sem,seval,g]
      exact C4 ((y,out++[f1],true),some b',H4.set br (.box [.str (S y),.bool true])) ⟨A3 _ _,(RdS.set H4 br y true).out hG g a9,u,fun _=>hl.symm,fun e=>(by cases e)⟩ (by simp only[if_true,D0o,if_false];omega) (by simp only[go_sem,seval,D0e,D0d,D0f]) (D1z _)
end Go.Proofs.YtibphjonmikciaaGreatDoor
