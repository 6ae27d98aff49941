/- Part of the proof: what the last text builds on. No condition stands here. -/
import Derived.Test.YtibphjonmikciaaGreatDoorProg
import Derived.Test.YtibphjonmikciaaGreatDoorRows
import Derived.Test.YtibphjonmikciaaGreatDoorCards
import Derived.Test.YtibphjonmikciaaGreatDoorTie
import Derived.Test.YtibphjonmikciaaGreatDoorBc3
set_option linter.unusedSimpArgs false
set_option linter.unusedVariables false
set_option maxRecDepth 20000
namespace Go.Lin
open Go Go.Av Go.Lexs
section
variable {P:Program} {t:Nat} {c:Bool}
@[go_sem] theorem C87(a:Int):K7 P .shr t c (.int .u64 a) (.int .u64 1)=some (.int .u64 (a / 2)):=by
 show (if(1:Int)<0 then none else some (D.int .u64 (a.fdiv (2 ^ (min (1:Int).toNat IntKind.u64.bits)))))=_;rw[if_neg (by decide)];have e:(2:Int) ^ (min (1:Int).toNat IntKind.u64.bits)=2:=by decide
 rw[e,Int.fdiv_eq_ediv_of_nonneg _ (by decide)]
end
theorem B6a: ∀(x y:List UInt8),decide (Lib.compareBytes x y<0)=Op.bytesLess x y
 | [],[]=>rfl
 | [],y::g=>rfl
 |x::xs,[]=>rfl
 |x::xs,y::g=>by
  unfold Lib.compareBytes Op.bytesLess;have h:=B6a xs g;by_cases h1:x<y
  ·simp[h1]
  ·by_cases d:y<x
   ·have:x≠y:=fun e=>by subst e;exact h1 d
    simp[h1,d,this]
   ·have:x=y:=UInt8.le_antisymm (UInt8.not_lt.1 d) (UInt8.not_lt.1 h1);simp[h1,d,this,h]
theorem B3G: ∀(x y:List UInt8),decide (Lib.compareBytes x y=0)=decide (x=y)
 | [],[]=>rfl
 | [],y::g=>rfl
 |x::xs,[]=>rfl
 |x::xs,y::g=>by
  unfold Lib.compareBytes;have h:=B3G xs g;by_cases h1:x<y
  ·have:x≠y:=fun e=>by subst e;exact absurd h1 (UInt8.lt_irrefl _)
   simp[h1,this]
  ·by_cases d:y<x
   ·have:x≠y:=fun e=>by subst e;exact absurd d h1
    simp[h1,d,this]
   ·have:x=y:=UInt8.le_antisymm (UInt8.not_lt.1 d) (UInt8.not_lt.1 h1);subst this;simp[UInt8.lt_irrefl];simpa using h
end Go.Lin
namespace Go.Proofs.YtibphjonmikciaaGreatDoor
open Go Go.Av Go.Lexs Go.Lin
attribute [local irreducible] ACalls S9
theorem B6b{Q}(s:ByteArray)(H:Heap)(h:Q (.bool false) H):E3 208 [.str s] H Q:=by
 refine A9 [] A8 Tryz.func208 rfl ?_;simp only[go_sem,seval,Tryz.results208];repeat' (first|with_reducible apply D0Y|simp only[go_sem,seval]|intro d|omega)
 exact D13 h
theorem B3H{Q}(x y:ByteArray)(H:Heap)(h:Q (.bool (V8 x y)) H):E3 166 [.str x,.str y] H Q:=by
 refine A9 [] A8 Tryz.func166 rfl ?_;simp only[go_sem,seval,Tryz.results166];repeat' (first|simp only[go_sem,seval]|with_reducible refine B6b _ _ ?_)
 exact D13 h
theorem B4U{Q}(ns:List ByteArray)(z:ns.Pairwise fun x y=>V8 x y=true)(s:ByteArray)(i:Nat)(u:i<ns.length)(he:ns[i]=s)(hlen:ns.length≤1000000000)(H:Heap)(h:Q (.tuple [.int .i64 (i:Int),.bool true]) H):
  E3 229 [.sl 1 (Rw K2 ns),.str s] H Q:=by
 refine A9 [] A8 Tryz.func229 rfl ?_;simp only[go_sem,seval,Tryz.results229];have q:=List.pairwise_iff_getElem.1 z;repeat' (first|with_reducible apply D0Y|simp only[go_sem,seval]|simp(disch:=omega) only[A5,B2]|intro O|omega)
 refine C9 [0,1,6] (fun(p:Nat×Nat)=>[(7,.int .i64 (p.1:Int)),(8,.int .i64 (p.2:Int))]) (fun(p:Nat×Nat)=>H) (fun(p:Nat×Nat)=>p.1≤i∧i≤p.2∧p.2≤ns.length) (fun(p:Nat×Nat)=>p.2-p.1) ((0,ns.length)) (⟨D0t _,by omega,D0s _⟩) (by(try simp only[go_sem,seval])<;>(try simp(disch:=omega) [A5])) (by first|exact D1z _|exact A0 (by assumption)|exact B3 (by assumption)|simp only[Heap.Le,Heap.set,Heap.del]at* <;>grind) ?_;rintro V rfl ⟨lo,d⟩ ⟨G,I,J⟩;simp only at G I J;by_cases T:lo<d
 ·have o:decide ((lo:Int)<d)=true:=D0a (by omega);obtain⟨m,hm⟩: ∃m,m=(lo+d) / 2:=⟨_,rfl⟩
  have j:m<ns.length:=by omega
  have r:(m:Int)<ns.length:=by omega
  have L:IntKind.u64.wrap ((lo:Int)+d) / 2=(m:Int):=by rw[A0M (by omega) (by omega)];omega
  have M:IntKind.i64.wrap (m:Int)=m:=by rw[A5 (by omega) (by omega)]
  have hc:V8 ns[m] s=decide (m<i):=by
   by_cases g:m<i
   ·rw[D0a g,←he];exact q m i j u g
   ·rw[D0b g,←he];rcases Nat.lt_or_eq_of_le (Nat.le_of_not_lt g)with A|A
    ·have:=q i m u j A;rw[←D1u];intro U;have:=Z0 this U;rw[q0]at this;cases this
    ·simp only[A];exact q0 _
  by_cases g:m<i
  ·rw[D0a g]at hc;repeat' (first|with_reducible apply D0Y|simp only[go_sem,seval,o,L,M,r,B2 _ _ j,C2 _ _ j,hc]|simp(disch:=omega) only[A5,B2]|with_reducible refine B3H _ _ _ ?_|omega)
   exact C4 (m+1,d) ⟨by simp only[];omega,I,J⟩ (by simp only[];omega) (by(try simp only[go_sem,seval])<;>(try simp(disch:=omega) [A5])) (D1z _)
  ·rw[D0b g]at hc;repeat' (first|with_reducible apply D0Y|simp only[go_sem,seval,o,L,M,r,B2 _ _ j,C2 _ _ j,hc]|simp(disch:=omega) only[A5,B2]|with_reducible refine B3H _ _ _ ?_|omega)
   exact C4 (lo,m) ⟨G,by simp only[];omega,by simp only[];omega⟩ (by simp only[];omega) (by simp only[go_sem,seval]) (D1z _)
 ·have o:decide ((lo:Int)<d)=false:=D0b (by omega);have e:lo=i:=by omega
  subst e;have C:(lo:Int)<ns.length:=by omega
  repeat' (first|with_reducible apply D0Y|simp only[go_sem,seval,o,C,B2 _ _ u,C2 _ _ u,he]|omega)
  exact D13 h
theorem B11{Q}(x:VlV)(s:ByteArray)(H:Heap)(h:Q (.int .i64 (Lib.compareBytes (B x.v) (B s))) H):E3 105 [.agg (vlC x),.str s] H Q:=by
 refine A9 [] A8 Tryz.func105 rfl ?_;simp only[go_sem,seval,Tryz.results105];repeat' (first|simp only[go_sem,seval]|intro d|with_reducible refine B4R _ _ _ ?_)
 exact D10 (by simp only[D9,D2,D3]at* <;>grind) h
def C88(l:List VlV)(s:ByteArray)(i:Nat):Prop:=i≤l.length∧(∀(k:Nat) (hk:k<l.length),k<i→V8 l[k].v s=true)∧∀hk:i<l.length,V8 l[i].v s=false
theorem B12{Q}(l:List VlV)(hv:M8 l=true)(s:ByteArray)(hlen:l.length≤1000000000000000)(H:Heap)(h: ∀i,C88 l s i→Q (.tuple [.int .i64 (i:Int),.bool (if hk:i<l.length then decide (l[i].v=s)else false)]) H):
  E3 104 [.sl 2 (Rw vlC l),.str s,.fn (.func 105) [] []] H Q:=by
 refine A9 [] A8 Tryz.func104 rfl ?_;simp only[go_sem,seval,Tryz.results104];have x:=A7U hv;repeat' (first|with_reducible apply D0Y|simp only[go_sem,seval]|simp(disch:=omega) only[A5,B2]|intro J|omega)
 refine C9 [0,1,2,8] (fun(p:Nat×Nat)=>[(9,.int .i64 (p.1:Int)),(10,.int .i64 (p.2:Int))]) (fun(p:Nat×Nat)=>H) (fun(p:Nat×Nat)=>p.1≤p.2∧p.2≤l.length∧(∀(k:Nat) (hk:k<l.length),k<p.1→V8 l[k].v s=true)∧∀(k:Nat) (hk:k<l.length),p.2≤k→V8 l[k].v s=false) (fun(p:Nat×Nat)=>p.2-p.1) ((0,l.length)) (⟨D0t _,D0s _,fun k _ h=>absurd h (D1o _),fun k hk h=>absurd hk (by simp only[]at h;omega)⟩) (by(try simp only[go_sem,seval])<;>(try simp(disch:=omega) [A5])) (by first|exact D1z _|exact A0 (by assumption)|exact B3 (by assumption)|simp only[Heap.Le,Heap.set,Heap.del]at* <;>grind) ?_;rintro T rfl ⟨lo,d⟩ ⟨L,z,A,C⟩;simp only at L z A C;by_cases M:lo<d
 ·have o:decide ((lo:Int)<d)=true:=D0a (by omega);obtain⟨m,hm⟩: ∃m,m=(lo+d) / 2:=⟨_,rfl⟩
  have j:m<l.length:=by omega
  have y:(m:Int)<l.length:=by omega
  have G:IntKind.u64.wrap ((lo:Int)+d) / 2=(m:Int):=by rw[A0M (by omega) (by omega)];omega
  have I:IntKind.i64.wrap (m:Int)=m:=by rw[A5 (by omega) (by omega)]
  have hc:decide (Lib.compareBytes (B l[m].v) (B s)<0)=V8 l[m].v s:=B6a _ _;cases g:V8 l[m].v s with
  |true=>
   rw[g]at hc;repeat' (first|with_reducible apply D0Y|simp only[go_sem,seval,o,G,I,y,B2 _ _ j,C2 _ _ j,hc]|simp(disch:=omega) only[A5,B2]|with_reducible refine B11 _ _ _ ?_|omega)
   refine C4 (m+1,d) ⟨by simp only[];omega,z,fun k hk q=>?_,C⟩ (by simp only[];omega) (by(try simp only[go_sem,seval])<;>(try simp(disch:=omega) [A5])) (D1z _);simp only[]at q;rcases Nat.lt_or_ge k m with u|u
   ·exact Z0 (x k m hk j u) g
   ·have:k=m:=by omega
    subst this;exact g
  |false=>
   rw[g]at hc;repeat' (first|with_reducible apply D0Y|simp only[go_sem,seval,o,G,I,y,B2 _ _ j,C2 _ _ j,hc]|simp(disch:=omega) only[A5,B2]|with_reducible refine B11 _ _ _ ?_|omega)
   refine C4 (lo,m) ⟨by simp only[];omega,by simp only[];omega,A,fun k hk q=>?_⟩ (by simp only[];omega) (by simp only[go_sem,seval]) (D1z _);simp only[]at q;rcases Nat.lt_or_eq_of_le q with u|u
   ·rw[←D1u];intro O;have:=Z0 (x m k j hk u) O;rw[g]at this;cases this
   ·subst u;exact g
 ·have o:decide ((lo:Int)<d)=false:=D0b (by omega);have e:lo=d:=by omega
  subst e;have h:=h lo ⟨z,A,fun hk=>C lo hk (D0s _)⟩;by_cases hl:lo<l.length
  ·have r:(lo:Int)<l.length:=by omega
   have hc:decide (Lib.compareBytes (B l[lo].v) (B s)=0)=decide (l[lo].v=s):=by
    rw[B3G];exact D1B.2 ⟨fun g=>X9 g,fun g=>by rw[g]⟩
   rw[dif_pos hl]at h;repeat' (first|with_reducible apply D0Y|simp only[go_sem,seval,o,r,B2 _ _ hl,C2 _ _ hl,hc]|with_reducible refine B11 _ _ _ ?_|omega)
   exact D13 h
  ·have r: ¬(lo:Int)<l.length:=by omega
   rw[dif_neg hl]at h;repeat' simp only[go_sem,seval,o,r]
   exact D13 h
theorem B0b{Q}(l:List VlV)(hv:M8 l=true)(s:ByteArray)(hlen:l.length≤1000000000000000)(H:Heap)(h:Q (.tuple [.int .i64 ((P0 l s).getD 0),.bool (P0 l s).isSome]) H):E3 62 [.sl 2 (Rw vlC l),.str s] H Q:=by
 refine A9 [] A8 Tryz.func62 rfl ?_;simp only[go_sem,seval,Tryz.results62];repeat' (first|with_reducible apply D0Y|simp only[go_sem,seval]|simp(disch:=omega) only[B2,A8g]|intro e|omega)
 refine B12 l hv s hlen _ fun i hp=>?_;obtain⟨j,m,o⟩:=hp;rw[A8g hv j m o]at h;by_cases hl:i<l.length
 ·have d:(i:Int)<l.length:=by omega
  rw[dif_pos hl]at h⊢;by_cases g:l[i].v=s
  ·rw[if_pos g]at h;rw[D0a g];simp only[Option.getD_some,Option.isSome_some]at h;repeat' (first|with_reducible apply D0Y|simp only[go_sem,seval,d,B2 _ _ hl,C2 _ _ hl]|omega)
   exact D13 h
  ·rw[if_neg g]at h;rw[D0b g];simp only[Option.getD_none,Option.isSome_none]at h;repeat' simp only[go_sem,seval]
   exact D13 h
 ·rw[dif_neg hl]at h⊢;simp only[Option.getD_none,Option.isSome_none]at h;repeat' simp only[go_sem,seval]
  exact D13 h
end Go.Proofs.YtibphjonmikciaaGreatDoor
namespace Go.Lin
open Go Go.Av
theorem B9P{H:Heap}{sz:Nat}{es:List (List D)}{ob:Option Nat}(h: ∀b,ob=some b→H b=none):H.Le (putB H sz es ob):=by
 cases ob with
 |none=>exact D1z H
 |some b=>exact A0 (h b rfl)
theorem B3I{α :Type}(p: α →Bool): ∀l:List α,(!l.any fun x=> !p x)=l.all p
 | []=>rfl
 |x::l=>by rw[D1d,D1b,←B3I p l];cases p x<;>simp
def chT(l:List Row)(k:Nat):Ch:=(List.range k).foldl (A3b l) ⟨none,false,0⟩
@[go_sem] theorem C89(l:List Row):L4 (chT l 0).best= -1:=rfl
@[go_sem] theorem C9A(l:List Row):(chT l 0).sure=false:=rfl
@[go_sem] theorem C9B(l:List Row):(chT l 0).cost=0:=rfl
theorem B0c(l:List Row)(k:Nat):chT l (k+1)=A3b l (chT l k) k:=by simp[chT,List.range_succ,D1Q]
end Go.Lin
namespace Go.Proofs.YtibphjonmikciaaGreatDoor
open Go Go.Av Go.Lin
attribute [local irreducible] ACalls S9
theorem B9Q{Q}(r:Row)(k b:Nat)(hk:k<r.c.length)(H:Heap)(hb:H b=some (.box [.int .i64 (k:Int)]))(h:Q (.bool (!((W0 r.c k).natAbs==1))) H):E3 286 [.agg (C6 r),.box b 0] H Q:=by
 refine A9 [] A8 Tryz.func286 rfl ?_;simp only[go_sem,seval,Tryz.results286];intro d i;have e2:(H.set d (.box (C6 r))) d=some (.box (C6 r)):=A3 _ _;have e1:(H.set d (.box (C6 r))) b=some (.box [.int .i64 (k:Int)]):=(A0 i) _ _ hb;have j:H.Le (H.set d (.box (C6 r))):=A0 i;generalize H.set d (.box (C6 r))=Bs at e1 e2 j⊢;have m:(k:Int)<r.c.length:=by omega
 rw[I0 _ _ hk]at h;have e:(!(r.c[k].natAbs==1))=(!decide (r.c[k].natAbs=1)):=by by_cases g:r.c[k].natAbs=1<;>simp[g]
 rw[e]at h;repeat' (first|with_reducible apply D0Y|simp only[go_sem,seval,e1,e2,m,B2 _ _ hk,C2 _ _ hk]|with_reducible refine B0O _ _ ?_|omega)
 exact D10 j h
theorem O0{Q}(l:List Row)(k:Nat)(hlen:l.length≤1000000)(hk: ∀r∈l,k<r.c.length)(H:Heap)(h:Q (.bool (A11 l k)) H):E3 261 [.sl 4 (Rw C6 l),.int .i64 (k:Int)] H Q:=by
 refine A9 [] A8 Tryz.func261 rfl ?_;simp only[go_sem,seval,Tryz.results261];intro d e;have e3:(H.set d (.box [.int .i64 (k:Int)])) d=some (.box [.int .i64 (k:Int)]):=A3 _ _;unfold A11 at h;rw[←B3I]at h;have g: ∀a∈l,∀(Q:D→Heap→Prop),Q (.bool (!((W0 a.c k).natAbs==1))) (H.set d (.box [.int .i64 (k:Int)]))→E3 286 ([]++[.agg (C6 a)]++[.box d 0]) (H.set d (.box [.int .i64 (k:Int)])) Q:=fun a i Q hq=>B9Q a k d (hk a i) _ e3 hq;repeat' (first|with_reducible apply D0Y|simp only[go_sem,seval]|intro j|omega)
 refine C3I (fun r=> !((W0 r.c k).natAbs==1)) l (by omega) 286 [] [.box d 0] _ g ?_;repeat' simp only[go_sem,seval]
 exact D10 (A0 e) h
set_option maxHeartbeats 4000000 in
theorem B6c{Q}(l:List Row)(n:Nat)(hl:l≠[])(hlen:l.length≤1000000)(hw: ∀r∈l,r.c.length=n)(hn:n≤1000000)(H:Heap)(h:Q (.tuple [.int .i64 (L4 (Z9 l).best),.bool (Z9 l).sure]) H):
  E3 224 [.sl 4 (Rw C6 l)] H Q:=by
 refine A9 [] A8 Tryz.func224 rfl ?_;simp only[go_sem,seval,Tryz.results224];have J:0<l.length:=List.length_pos_iff.2 hl;have L:(0:Int)<l.length:=by omega
 have I:l[0].c.length=n:=hw _ (D0m J);have hr:Z9 l=chT l n:=by
  unfold Z9 chT;rw[show (l.headD default).c.length=n from by rw[←I];cases l with|nil=>exact absurd rfl hl|cons x l=>rfl]
 rw[hr]at h;repeat' (first|with_reducible apply D0Y|simp only[go_sem,seval,L,B2 _ _ J,C2 _ _ J,I])
 refine C9 [0,15] (fun(k:Nat)=>[(16,.int .i64 k),(2,.int .i64 (L4 (chT l k).best)),(3,.bool (chT l k).sure),(4,.int .i64 (chT l k).cost)]) (fun(k:Nat)=>H) (fun(k:Nat)=>k≤n) (fun(k:Nat)=>n-k) (0) (D0t _) (by(try simp only[go_sem,seval])<;>(try simp(disch:=omega) [A5])) (by first|exact D1z _|exact A0 (by assumption)|exact B3 (by assumption)|simp only[Heap.Le,Heap.set,Heap.del]at* <;>grind) ?_;rintro X rfl k hk;by_cases A:k<n
 ·have C:decide ((k:Int)<n)=true:=D0a (by omega);repeat' simp only[go_sem,seval,C]
  refine B3C l k hlen (fun r hr=>by rw[hw r hr];exact A) _ fun ob _ M=>?_;have o:=B9P (sz:=4) (es:=Rw C6 (U1 l k)) M;generalize putB H 4 (Rw C6 (U1 l k)) ob=Hp at o⊢;have Y:(I7 l k).length≤1000000:=D1e (W6 _) hlen;have m2:(F8 l k).length≤1000000:=D1e (W6 _) hlen;obtain⟨p,hp⟩: ∃p,p=(I7 l k).length:=⟨_,rfl⟩
  obtain⟨q,hq⟩: ∃q,q=(F8 l k).length:=⟨_,rfl⟩
  have hs:=B0c l k;unfold A3b at hs;simp only[←hp,←hq]at hs;have y: ∀r∈I7 l k,k<r.c.length:=fun r hr=>by rw[hw r ((List.mem_filter.1 hr).1)];exact A
  have z: ∀r∈F8 l k,k<r.c.length:=fun r hr=>by rw[hw r ((List.mem_filter.1 hr).1)];exact A
  have U:(p:Int)*q≤1000000000000:=by
   have:p*q≤1000000*1000000:=Nat.mul_le_mul (by omega) (by omega);rw[←Int.natCast_mul];omega
  have V:(0:Int)≤(p:Int)*q:=by rw[←Int.natCast_mul];omega
  by_cases T:p+q=0
  ·have u:(p:Int)+q=0:=by omega
   rw[if_pos T]at hs;repeat' (first|with_reducible apply D0Y|simp only[go_sem,seval,←hp,←hq,u]|simp(disch:=omega) only[A5,B2])
   refine C4 (k+1) (by omega) (by omega) (by(try simp only[go_sem,seval,hs])<;>(try simp(disch:=omega) [A5])) o
  ·have u: ¬(p:Int)+q=0:=by omega
   rw[if_neg T]at hs;obtain⟨c,hc⟩: ∃c,c=(chT l k).cost:=⟨_,rfl⟩
   obtain⟨m,hm⟩: ∃m,m=(p:Int)*q:=⟨_,rfl⟩
   rw[←hc,←hm]at hs;rw[←hm]at U V;have W:A11 (I7 l k) k=true∨(A11 (I7 l k) k=false∧A11 (F8 l k) k=true)∨(A11 (I7 l k) k=false∧A11 (F8 l k) k=false):=by
    cases A11 (I7 l k) k<;>cases A11 (F8 l k) k<;>simp
   have G:(chT l k).best=none∨∃j,(chT l k).best=some j:=by cases (chT l k).best<;>simp
   rcases W with g|⟨g,i⟩|⟨g,i⟩
   ·have i:True:=trivial;rcases G with hb|⟨j,hb⟩
    ·have d:True:=trivial;have hx:True:=trivial;have e:=hs;simp[g,i,hb,d,hx]at e;have o1: ∀j:Nat,¬(L4 (some j)<0):=fun j=>by show¬((j:Int)<0);omega
     have o2:L4 none= -1:=rfl;have o3:L4 (some k)=k:=rfl;repeat' (first|with_reducible apply D0Y|simp only[go_sem,seval,←hp,←hq,←hc,←hm,u,g,i,hb,d,hx,o1,o2,decide_true,decide_false]|simp(disch:=omega) only[A5,B2]|with_reducible refine O0 (I7 l k) k (by omega) y _ ?_)
     refine C4 (k+1) (by omega) (by omega) (by(try simp only[go_sem,seval,e,hb,d,o2,o3,←hc])<;>(try simp(disch:=omega) [A5])) o
    ·cases d:(chT l k).sure
     ·have hx:True:=trivial;have e:=hs;simp[g,i,hb,d,hx]at e;have o1: ∀j:Nat,¬(L4 (some j)<0):=fun j=>by show¬((j:Int)<0);omega
      have o2:L4 none= -1:=rfl;have o3:L4 (some k)=k:=rfl;repeat' (first|with_reducible apply D0Y|simp only[go_sem,seval,←hp,←hq,←hc,←hm,u,g,i,hb,d,hx,o1,o2,decide_true,decide_false]|simp(disch:=omega) only[A5,B2]|with_reducible refine O0 (I7 l k) k (by omega) y _ ?_)
      refine C4 (k+1) (by omega) (by omega) (by(try simp only[go_sem,seval,e,hb,d,o2,o3,←hc])<;>(try simp(disch:=omega) [A5])) o
     ·by_cases hx:m-p-q<c
      ·have e:=hs;simp[g,i,hb,d,hx]at e;have o1: ∀j:Nat,¬(L4 (some j)<0):=fun j=>by show¬((j:Int)<0);omega
       have o2:L4 none= -1:=rfl;have o3:L4 (some k)=k:=rfl;repeat' (first|with_reducible apply D0Y|simp only[go_sem,seval,←hp,←hq,←hc,←hm,u,g,i,hb,d,hx,o1,o2,decide_true,decide_false]|simp(disch:=omega) only[A5,B2]|with_reducible refine O0 (I7 l k) k (by omega) y _ ?_)
       refine C4 (k+1) (by omega) (by omega) (by(try simp only[go_sem,seval,e,hb,d,o2,o3,←hc])<;>(try simp(disch:=omega) [A5])) o
      ·have e:=hs;simp[g,i,hb,d,hx]at e;have o1: ∀j:Nat,¬(L4 (some j)<0):=fun j=>by show¬((j:Int)<0);omega
       have o2:L4 none= -1:=rfl;have o3:L4 (some k)=k:=rfl;repeat' (first|with_reducible apply D0Y|simp only[go_sem,seval,←hp,←hq,←hc,←hm,u,g,i,hb,d,hx,o1,o2,decide_true,decide_false]|simp(disch:=omega) only[A5,B2]|with_reducible refine O0 (I7 l k) k (by omega) y _ ?_)
       refine C4 (k+1) (by omega) (by omega) (by(try simp only[go_sem,seval,e,hb,d,o2,o3,←hc])<;>(try simp(disch:=omega) [A5])) o
   ·rcases G with hb|⟨j,hb⟩
    ·have d:True:=trivial;have hx:True:=trivial;have e:=hs;simp[g,i,hb,d,hx]at e;have o1: ∀j:Nat,¬(L4 (some j)<0):=fun j=>by show¬((j:Int)<0);omega
     have o2:L4 none= -1:=rfl;have o3:L4 (some k)=k:=rfl;repeat' (first|with_reducible apply D0Y|simp only[go_sem,seval,←hp,←hq,←hc,←hm,u,g,i,hb,d,hx,o1,o2,decide_true,decide_false]|simp(disch:=omega) only[A5,B2]|with_reducible refine O0 (I7 l k) k (by omega) y _ ?_|with_reducible refine O0 (F8 l k) k (by omega) z _ ?_)
     refine C4 (k+1) (by omega) (by omega) (by(try simp only[go_sem,seval,e,hb,d,o2,o3,←hc])<;>(try simp(disch:=omega) [A5])) o
    ·cases d:(chT l k).sure
     ·have hx:True:=trivial;have e:=hs;simp[g,i,hb,d,hx]at e;have o1: ∀j:Nat,¬(L4 (some j)<0):=fun j=>by show¬((j:Int)<0);omega
      have o2:L4 none= -1:=rfl;have o3:L4 (some k)=k:=rfl;repeat' (first|with_reducible apply D0Y|simp only[go_sem,seval,←hp,←hq,←hc,←hm,u,g,i,hb,d,hx,o1,o2,decide_true,decide_false]|simp(disch:=omega) only[A5,B2]|with_reducible refine O0 (I7 l k) k (by omega) y _ ?_|with_reducible refine O0 (F8 l k) k (by omega) z _ ?_)
      refine C4 (k+1) (by omega) (by omega) (by(try simp only[go_sem,seval,e,hb,d,o2,o3,←hc])<;>(try simp(disch:=omega) [A5])) o
     ·by_cases hx:m-p-q<c
      ·have e:=hs;simp[g,i,hb,d,hx]at e;have o1: ∀j:Nat,¬(L4 (some j)<0):=fun j=>by show¬((j:Int)<0);omega
       have o2:L4 none= -1:=rfl;have o3:L4 (some k)=k:=rfl;repeat' (first|with_reducible apply D0Y|simp only[go_sem,seval,←hp,←hq,←hc,←hm,u,g,i,hb,d,hx,o1,o2,decide_true,decide_false]|simp(disch:=omega) only[A5,B2]|with_reducible refine O0 (I7 l k) k (by omega) y _ ?_|with_reducible refine O0 (F8 l k) k (by omega) z _ ?_)
       refine C4 (k+1) (by omega) (by omega) (by(try simp only[go_sem,seval,e,hb,d,o2,o3,←hc])<;>(try simp(disch:=omega) [A5])) o
      ·have e:=hs;simp[g,i,hb,d,hx]at e;have o1: ∀j:Nat,¬(L4 (some j)<0):=fun j=>by show¬((j:Int)<0);omega
       have o2:L4 none= -1:=rfl;have o3:L4 (some k)=k:=rfl;repeat' (first|with_reducible apply D0Y|simp only[go_sem,seval,←hp,←hq,←hc,←hm,u,g,i,hb,d,hx,o1,o2,decide_true,decide_false]|simp(disch:=omega) only[A5,B2]|with_reducible refine O0 (I7 l k) k (by omega) y _ ?_|with_reducible refine O0 (F8 l k) k (by omega) z _ ?_)
       refine C4 (k+1) (by omega) (by omega) (by(try simp only[go_sem,seval,e,hb,d,o2,o3,←hc])<;>(try simp(disch:=omega) [A5])) o
   ·rcases G with hb|⟨j,hb⟩
    ·have d:True:=trivial;have hx:True:=trivial;have e:=hs;simp[g,i,hb,d,hx]at e;have o1: ∀j:Nat,¬(L4 (some j)<0):=fun j=>by show¬((j:Int)<0);omega
     have o2:L4 none= -1:=rfl;have o3:L4 (some k)=k:=rfl;repeat' (first|with_reducible apply D0Y|simp only[go_sem,seval,←hp,←hq,←hc,←hm,u,g,i,hb,d,hx,o1,o2,decide_true,decide_false]|simp(disch:=omega) only[A5,B2]|with_reducible refine O0 (I7 l k) k (by omega) y _ ?_|with_reducible refine O0 (F8 l k) k (by omega) z _ ?_)
     refine C4 (k+1) (by omega) (by omega) (by(try simp only[go_sem,seval,e,hb,d,o2,o3,←hc])<;>(try simp(disch:=omega) [A5])) o
    ·cases d:(chT l k).sure
     ·by_cases hx:m-p-q<c
      ·have e:=hs;simp[g,i,hb,d,hx]at e;have o1: ∀j:Nat,¬(L4 (some j)<0):=fun j=>by show¬((j:Int)<0);omega
       have o2:L4 none= -1:=rfl;have o3:L4 (some k)=k:=rfl;repeat' (first|with_reducible apply D0Y|simp only[go_sem,seval,←hp,←hq,←hc,←hm,u,g,i,hb,d,hx,o1,o2,decide_true,decide_false]|simp(disch:=omega) only[A5,B2]|with_reducible refine O0 (I7 l k) k (by omega) y _ ?_|with_reducible refine O0 (F8 l k) k (by omega) z _ ?_)
       refine C4 (k+1) (by omega) (by omega) (by(try simp only[go_sem,seval,e,hb,d,o2,o3,←hc])<;>(try simp(disch:=omega) [A5])) o
      ·have e:=hs;simp[g,i,hb,d,hx]at e;have o1: ∀j:Nat,¬(L4 (some j)<0):=fun j=>by show¬((j:Int)<0);omega
       have o2:L4 none= -1:=rfl;have o3:L4 (some k)=k:=rfl;repeat' (first|with_reducible apply D0Y|simp only[go_sem,seval,←hp,←hq,←hc,←hm,u,g,i,hb,d,hx,o1,o2,decide_true,decide_false]|simp(disch:=omega) only[A5,B2]|with_reducible refine O0 (I7 l k) k (by omega) y _ ?_|with_reducible refine O0 (F8 l k) k (by omega) z _ ?_)
       refine C4 (k+1) (by omega) (by omega) (by(try simp only[go_sem,seval,e,hb,d,o2,o3,←hc])<;>(try simp(disch:=omega) [A5])) o
     ·have hx:True:=trivial;have e:=hs;simp[g,i,hb,d,hx]at e;have o1: ∀j:Nat,¬(L4 (some j)<0):=fun j=>by show¬((j:Int)<0);omega
      have o2:L4 none= -1:=rfl;have o3:L4 (some k)=k:=rfl;repeat' (first|with_reducible apply D0Y|simp only[go_sem,seval,←hp,←hq,←hc,←hm,u,g,i,hb,d,hx,o1,o2,decide_true,decide_false]|simp(disch:=omega) only[A5,B2]|with_reducible refine O0 (I7 l k) k (by omega) y _ ?_|with_reducible refine O0 (F8 l k) k (by omega) z _ ?_)
      refine C4 (k+1) (by omega) (by omega) (by(try simp only[go_sem,seval,e,hb,d,o2,o3,←hc])<;>(try simp(disch:=omega) [A5])) o
 ·have C:decide ((k:Int)<n)=false:=D0b (by omega);have O:k=n:=by omega
  subst O;repeat' simp only[go_sem,seval,C]
  exact D13 h
end Go.Proofs.YtibphjonmikciaaGreatDoor
namespace Go.Lin
open Go Go.Av Go.Lexs
theorem B0d(k:Int)(l:List LTm)(vs:List VlV)(i:Nat)(h:i<l.length):T6 k (l.drop i) vs=match P0 vs l[i].v with|none=>none|some n=>T6 (k+l[i].c*n) (l.drop (i+1)) vs:=by
 rw[D03 h,T6]<;>rfl
theorem B6d{vs:List VlV}(hv:M8 vs=true){s:ByteArray}{n:Int}(h:P0 vs s=some n):n.natAbs≤2147483647:=by
 have key: ∀(m:List VlV),(∀(i:Nat) (d:i<m.length),m[i].n.natAbs≤2147483647)→P0 m s=some n→n.natAbs≤2147483647:=by
  intro m
  induction m with
  |nil=>intro _ h;cases h
  |cons x m e=>
   intro hm h;rw[P0]at h;split at h
   ·cases h;exact hm 0 (by simp)
   ·exact e (fun i d=>hm (i+1) (by simpa using d)) h
 exact key vs (fun i d=>(A8f hv d).2.1) h
structure C9C(a:LinV):Prop where
 len:a.t.length≤12
 k:a.k.natAbs≤1099511627776
 t:V9 a.t=true
theorem M0{a:LinV}(h:validL a=true):C9C a:=by
 unfold validL J4 at h;simp only[D0l,D0u]at h;exact⟨h.1.2,by omega,h.1.1⟩
theorem B6e{a b:Int}(d:a.natAbs≤1048576)(hb:b.natAbs≤2147483647):(a*b).natAbs≤2251799812636672:=by
 rw[Int.natAbs_mul];exact D1e (Nat.mul_le_mul d hb) (by decide)
end Go.Lin
namespace Go.Proofs.YtibphjonmikciaaGreatDoor
open Go Go.Av Go.Lexs Go.Lin
attribute [local irreducible] ACalls S9
theorem B9R{Q}(a:LinV)(C:validL a=true)(vs:List VlV)(hv:M8 vs=true)(hlen:vs.length≤1000000000000000)(H:Heap)(h:Q (.tuple [.int .i64 ((T6 a.k a.t vs).getD 0),.bool (T6 a.k a.t vs).isSome]) H):E3 107 [.agg (E5 a),.sl 2 (Rw vlC vs)] H Q:=by
 refine A9 [] A8 Tryz.func107 rfl ?_;simp only[go_sem,seval,Tryz.results107];have ok:=M0 C;intro q r;have e1:(H.set q (.box (E5 a))) q=some (.box (E5 a)):=A3 _ _;have u:H.Le (H.set q (.box (E5 a))):=A0 r;generalize H.set q (.box (E5 a))=Bs at e1 u⊢;have G:=ok.len;have x:=ok.k;repeat' (first|with_reducible apply D0Y|simp only[go_sem,seval,e1]|simp(disch:=omega) only[A5,B2]|intro j|omega)
 refine C9 [1,14,15] (fun(p:Nat×Int)=>[(16,.int .i64 p.1),(6,.int .i64 p.2)]) (fun(p:Nat×Int)=>H) (fun(p:Nat×Int)=>p.1≤a.t.length∧T6 a.k a.t vs=T6 p.2 (a.t.drop p.1) vs∧p.2.natAbs≤1099511627776+p.1*2251799812636672) (fun(p:Nat×Int)=>a.t.length-p.1) ((0,a.k)) (⟨D0t _,rfl,by simpa using x⟩) (by(try simp only[go_sem,seval])<;>(try simp(disch:=omega) [A5])<;>(try omega)) (by first|exact D1z _|exact A0 (by assumption)|exact B3 (by assumption)|simp only[Heap.Le,Heap.set,Heap.del]at* <;>grind) ?_;rintro L rfl ⟨i,s⟩ ⟨I,d,hs⟩;simp only at I d hs;by_cases e:i<a.t.length
 ·have g:decide ((i:Int)<a.t.length)=true:=D0a (by omega);have m:(i:Int)<a.t.length:=by omega
  have J:=A1z ok.t e;rw[B0d _ _ _ _ e]at d;cases o:P0 vs a.t[i].v with
  |none=>
   rw[o]at d;have d:T6 a.k a.t vs=none:=d;rw[d]at h;simp only[Option.getD_none,Option.isSome_none]at h;have y: ∀(H:Heap) (Q:D→Heap→Prop),Q (.tuple [.int .i64 0,.bool false]) H→E3 62 [.sl 2 (Rw vlC vs),.str a.t[i].v] H Q:=fun H Q hq=>B0b vs hv _ hlen H (by rw[o];exact hq);repeat' (first|with_reducible apply D0Y|simp only[go_sem,seval,g,m,B2 _ _ e,C2 _ _ e]|simp(disch:=omega) only[A5,B2]|intro j|with_reducible refine y _ _ ?_|omega)
   exact D10 (by simp only[D9,D2,D3]at* <;>grind) h
  |some n=>
   rw[o]at d;have d:T6 a.k a.t vs=T6 (s+a.t[i].c*n) (a.t.drop (i+1)) vs:=d;have hn:=B6d hv o;have hp:=B6e J.2.2.1 hn;have y: ∀(H:Heap) (Q:D→Heap→Prop),Q (.tuple [.int .i64 n,.bool true]) H→E3 62 [.sl 2 (Rw vlC vs),.str a.t[i].v] H Q:=fun H Q hq=>B0b vs hv _ hlen H (by rw[o];exact hq);obtain⟨z,A⟩: ∃z,z=a.t[i].c*n:=⟨_,rfl⟩
   rw[←A]at d hp;repeat' (first|with_reducible apply D0Y|simp only[go_sem,seval,g,m,B2 _ _ e,C2 _ _ e,←A]|simp(disch:=omega) only[A5,B2]|intro j|with_reducible refine y _ _ ?_|omega)
   refine C4 (i+1,s+z) ⟨by simp only[];omega,d,by simp only[];omega⟩ (by simp only[];omega) (by(try simp only[go_sem,seval])<;>(try simp(disch:=omega) [A5])<;>(try omega)) (by simp only[D9,D2,D3]at* <;>grind)
 ·have g:decide ((i:Int)<a.t.length)=false:=D0b (by omega);rw[List.drop_eq_nil_of_le (by omega),T6]at d;rw[d]at h;simp only[Option.getD_some,Option.isSome_some]at h;repeat' (first|with_reducible apply D0Y|simp only[go_sem,seval,g]|simp(disch:=omega) only[A5,B2]|intro j|omega)
  exact D13 h
end Go.Proofs.YtibphjonmikciaaGreatDoor
namespace Go.Lin
open Go Go.Av Go.Proofs.YtibphjonmikciaaGreatDoor
abbrev A4U(n m:Nat)(r:Row):Prop:=r.c.length=n∧A5E r m
abbrev hit(r s:Row):Prop:=r.eq=false∧s.eq=false∧A4M r s 1=true
theorem A02(r s:Row)(l:List Row):A3a r (s::l)=if hit r s then(if r.k<s.k then {s with k:=r.k}else s)::l else s::A3a r l:=rfl
theorem B0e(r:Row): ∀(l:List Row) (j:Nat) (d:j<l.length),(∀(k:Nat) (hk:k<l.length),k<j→¬hit r l[k])→hit r l[j]→A3a r l=if r.k<l[j].k then l.set j {l[j]with k:=r.k}else l
 | [],j,d,_,_=>by simp at d
 |s::l,0,d,_,h=>by
  simp only[D1r]at h⊢;rw[A02,if_pos h];split<;>rfl
 |s::l,j+1,d,h1,h=>by
  have e:=h1 0 (by simp) (by omega);simp only[D1r]at e;simp only[List.getElem_cons_succ]at h⊢;rw[A02,if_neg e,B0e r l j (by simpa using d) (fun k hk g=>by have:=h1 (k+1) (by simpa using hk) (by omega);simpa using this) h];split<;>rfl
theorem A7i(r:Row): ∀(l:List Row),(∀(k:Nat) (hk:k<l.length),¬hit r l[k])→A3a r l=l++[r]
 | [],_=>rfl
 |s::l,h1=>by
  have d:=h1 0 (by simp);simp only[D1r]at d;rw[A02,if_neg d,A7i r l (fun k hk=>by have:=h1 (k+1) (by simpa using hk);simpa using this)];rfl
theorem B6f{n m:Nat}(r:Row)(hr:A4U n m r): ∀(l:List Row),(∀s∈l,A4U n m s)→∀s∈A3a r l,A4U n m s
 | [],_,s,hs=>by simp[A3a]at hs;subst hs;exact hr
 |x::l,h,s,hs=>by
  have hx:=h x (D0j ..);rw[A02]at hs;split at hs
  ·rcases D00.1 hs with rfl|hs
   ·split
    ·exact⟨hx.1,hr.2.1,hx.2.2⟩
    ·exact hx
   ·exact h s (D0q _ hs)
  ·rcases D00.1 hs with rfl|hs
   ·exact hx
   ·exact B6f r hr l (fun y d=>h y (D0q _ d)) s hs
theorem B0f(r:Row): ∀l,(A3a r l).length≤l.length+1
 | []=>by simp[A3a]
 |x::l=>by rw[A02];have:=B0f r l;split<;>simp<;>omega
theorem B0g(l:List Row)(i:Nat)(h:i<l.length):pairs1 (l.take (i+1))=A3a l[i] (pairs1 (l.take i)):=by
 unfold pairs1;rw[D0r h,D1Q];rfl
theorem B0h{n m:Nat}: ∀(l d:List Row),(∀s∈l,A4U n m s)→(∀s∈d,A4U n m s)→∀s∈l.foldl (fun out r=>A3a r out) d,A4U n m s
 | [],_,_,h=>h
 |r::l,d,h1,e=>B0h l _ (fun s hs=>h1 s (D0q _ hs)) (B6f r (h1 r (D0j ..)) d e)
theorem A6O: ∀(l d:List Row),(l.foldl (fun out r=>A3a r out) d).length≤d.length+l.length
 | [],_=>by simp
 |r::l,d=>by have:=A6O l (A3a r d);have:=B0f r d;simp only[List.foldl_cons,D0d];omega
theorem B4V(r s:Row)(l:List Row):A5D r (s::l)=if r.eq=true∨s.eq=true∨A4M r s (-1)=false then A5D r l
  else if r.k+s.k<0 then none else if r.k+s.k=0 then A5D {r with eq:=true} l else A5D r l:=rfl
theorem B0i(done:List Row)(r:Row)(l:List Row):A0C done (r::l)=match A5D r done with|none=>none|some r'=>A0C (done++[r']) l:=rfl
def B0j:Option (List Row)→D
 |none=>.tuple [.sl 4 [],.bool false]
 |some l=>.tuple [.sl 4 (Rw C6 l),.bool true]
end Go.Lin
namespace Go.Av
theorem O3.putle{H Hp:Heap}{sz:Nat}{e1 e2 e3:List (List D)}{o1 o2 o3:Option Nat}(h:O3 H Hp sz e1 e2 e3 o1 o2 o3):(putB H sz e1 o1).Le Hp:=by
 cases o1 with
 |none=>exact h.le
 |some b=>
  intro k o hk;have hk:(H.set b (.vec sz e1)) k=some o:=hk;by_cases e:k=b
  ·subst e;rw[A3]at hk;cases hk;exact h.a1
  ·rw[A4 _ e]at hk;exact h.le _ _ hk
theorem O3.base{H d Hp i:Heap}{sz:Nat}{e1 e2 e3:List (List D)}{o1 o2 o3:Option Nat}(h:O3 H Hp sz e1 e2 e3 o1 o2 o3)(h1:d.Le i)(j:Hp.Le i)(hn: ∀b,Hp b≠none→H b=none→d b=none):O3 d i sz e1 e2 e3 o1 o2 o3:=by
 have key: ∀{e:List (List D)} {o:Option Nat},OutAt Hp sz e o→(∀b,o=some b→H b=none)→∀b,o=some b→d b=none:=fun {e o} m p b g=>hn b (by rw[m.some_of g];simp) (p b g);exact⟨h1,h.a1.up j,h.a2.up j,h.a3.up j,key h.a1 h.n1,key h.a2 h.n2,key h.a3 h.n3,h.d12,h.d13,h.d23⟩
end Go.Av
namespace Go.Lin
open Go Go.Av Go.Proofs.YtibphjonmikciaaGreatDoor
def A27(c:List Int)(j:Nat):Nat:=gcdR (c.take j)
theorem A4V(c:List Int):A27 c 0=0:=rfl
theorem A7j(c:List Int)(j:Nat)(h:j<c.length):A27 c (j+1)=Nat.gcd c[j].natAbs (A27 c j):=by
 unfold A27 gcdR;rw[D0r h,D1Q];rfl
theorem A6P(c:List Int):A27 c c.length=gcdR c:=by unfold A27;rw[List.take_length]
theorem B3J(c:List Int)(m:Nat)(hm: ∀x∈c,x.natAbs≤m): ∀j,j≤c.length→A27 c j≤m
 |0,_=>by rw[A4V];omega
 |j+1,h=>by
  have d:=B3J c m hm j (by omega);rw[A7j c j (by omega)];by_cases e:A27 c j=0
  ·rw[e,Nat.gcd_zero_right];exact hm _ (D0m _)
  ·exact D1e (Nat.gcd_le_right _ (by omega)) d
def gB(j:Nat)(g:Int):List D:=if j=0 then [.bool false,.nilsl]else C5 g
theorem A5S(j:Nat)(g:Int):gB (j+1) g=C5 g:=rfl
theorem C3L(c:List Int)(j:Nat):NilR (.agg (gB j (A27 c j:Nat))) (.agg (C5 (A27 c j:Nat))):=by
 cases j with
 |zero=>rw[A4V];exact A8j
 |succ j=>exact .same _
def A03(r:Row):Option (List Row):=
 let g:=gcdR r.c
 if g=0 then(if r.k<0∨(r.eq=true∧0<r.k)then none else some [])
 else if g=1 then some [r]
 else
  let k:=r.k.fdiv g
  if r.eq=true∧k*g-r.k≠0 then none
  else some [⟨r.c.map (Int.fdiv · g),k,r.eq⟩]
theorem B13(r:Row)(l:List Row):Y0 (r::l)=(A03 r).bind fun x=>(Y0 l).map (x++ ·):=by
 rw[Y0];unfold A03;simp only[];split
 ·split
  ·rfl
  ·simp
 ·split
  ·rfl
  ·split
   ·rfl
   ·rfl
theorem B4W{l:List Row}{i:Nat}{D:List Row}(h:i<l.length)(d:Y0 l=(Y0 (l.drop i)).map (D++ ·)):Y0 l=(A03 l[i]).bind fun x=>(Y0 (l.drop (i+1))).map ((D++x)++ ·):=by
 rw[d,D03 h,B13];cases A03 l[i]with
 |none=>rfl
 |some x=>cases Y0 (l.drop (i+1))<;>simp
theorem A28(a:Int)(b:Nat)(hb:b≠0):(a.fdiv b).natAbs≤a.natAbs:=by
 rw[Int.fdiv_eq_ediv_of_nonneg _ (by omega)];by_cases h:0≤a
 ·have h1:=Int.ediv_nonneg h (show (0:Int)≤b by omega);have d:=Int.ediv_le_self (b:=(b:Int)) h;omega
 ·have h1:a / (b:Int)<0:=Int.ediv_neg_of_neg_of_pos (by omega) (by omega);have d:a≤a / (b:Int):=by
   have:=Int.ediv_mul_le a (show (b:Int)≠0 by omega);have e:=Int.mul_le_mul_of_nonpos_left (show a / (b:Int)≤0 by omega) (show (1:Int)≤b by omega);have g:=Int.lt_ediv_add_one_mul_self a (show (0:Int)<b by omega);refine Int.le_ediv_of_mul_le (by omega) ?_;have:=Int.mul_le_mul_of_nonpos_left (show a≤0 by omega) (show (1:Int)≤b by omega);omega
  omega
theorem B3K{n m:Nat}{r:Row}{x:List Row}(hr:A4U n m r)(h:A03 r=some x):(∀s∈x,A4U n m s)∧x.length≤1:=by
 unfold A03 at h;simp only[]at h;split at h
 ·split at h
  ·cases h
  ·cases h;simp
 ·rename_i d;split at h
  ·cases h;exact⟨fun s hs=>by simp at hs;subst hs;exact hr,by simp⟩
  ·split at h
   ·cases h
   ·cases h;refine⟨fun s hs=>?_,by simp⟩;simp at hs;subst hs;refine⟨by simp[hr.1],D1e (A28 _ _ d) hr.2.1,fun y e=>?_⟩;simp only[D1W]at e;obtain⟨z,g,rfl⟩:=e;exact D1e (A28 _ _ d) (hr.2.2 z g)
end Go.Lin
namespace Go.Lin
open Go Go.Av Go.Lexs
def zrV(names:List ByteArray)(a:LinV):ZR:=⟨j8 names a.t,C6q names a⟩
def zrB(n i:Nat)(s:Int):ZR:=⟨(List.replicate n zB).set i (C5 s),⟨A7V n i s,2147483647,false⟩⟩
def zrR(names:List ByteArray)(l:List LinV)(m:Nat):List ZR:=l.map (zrV names)++(List.range m).flatMap fun i=>[zrB names.length i 1,zrB names.length i (-1)]
theorem B6h(d:List ByteArray)(l:List LinV):(zrR d l d.length).map (·.r)=B0L l d:=by
 unfold zrR B0L;rw[D1Y,List.map_map,List.map_flatMap];rfl
theorem C3M(d:List ByteArray)(l:List LinV)(m:Nat)(hm:m≤d.length): ∀z∈zrR d l m,zOk z:=fun z e=>by
 unfold zrR at e;rcases D0y.1 e with h|h
 ·obtain⟨a,_,rfl⟩:=D1W.1 h;exact B6V d a.t
 ·obtain⟨i,g,h⟩:=List.mem_flatMap.1 h;have j:=List.mem_range.1 g;rcases D00.1 h with rfl|h
  ·exact B0V _ _ _ (by omega)
  ·simp at h;rw[h];exact B0V _ _ _ (by omega)
def zrJ(names:List ByteArray)(l:List LinV)(i j:Nat):List ZR:=zrR names l i++([zrB names.length i 1,zrB names.length i (-1)].take j)
theorem B6i(d:List ByteArray)(l:List LinV)(i:Nat):zrJ d l i 0=zrR d l i:=by simp[zrJ]
theorem B3L(d:List ByteArray)(l:List LinV)(i:Nat):zrJ d l i 2=zrR d l (i+1):=by
 unfold zrJ zrR;rw[List.range_succ,List.flatMap_append];simp
theorem B9S(d:List ByteArray)(l:List LinV)(i:Nat):zrJ d l i 1=zrJ d l i 0++[zrB d.length i 1]:=by simp[zrJ]
theorem B6j(d:List ByteArray)(l:List LinV)(i:Nat):zrJ d l i 2=zrJ d l i 1++[zrB d.length i (-1)]:=by simp[zrJ]
theorem B6k(d:List ByteArray)(l:List LinV):zrR d l 0=l.map (zrV d):=by simp[zrR]
theorem B3M(d:List ByteArray)(l:List LinV)(i:Nat):(zrR d l i).length=l.length+2*i:=by
 unfold zrR;rw[D0e,D1H]
 congr 1
 induction i with
 |zero=>rfl
 |succ i e=>rw[List.range_succ,List.flatMap_append,D0e,e];simp;omega
theorem A5U(d:List ByteArray)(l:List LinV)(i j:Nat)(e:j≤2):(zrJ d l i j).length=l.length+2*i+j:=by
 unfold zrJ;rw[D0e,B3M,D1G];simp;omega
end Go.Lin
namespace Go.Proofs.YtibphjonmikciaaGreatDoor
open Go Go.Av Go.Lexs Go.Lin
attribute [local irreducible] ACalls S9
theorem A8p{Q}(b:Nat)(es:List ByteArray)(hn:es.length≤1000000)(H:Heap)(hb:H b=some (.box [.sl 1 (Rw K2 es)]))(h: ∀v,H v=none→Q (.vec v 2 0 es.length) (H.set v (.vec 2 (List.replicate es.length zB)))):E3 227 [.box b 0] H Q:=by
 refine A9 [] A8 Tryz.func227 rfl ?_;simp only[go_sem,seval,Tryz.results227];repeat' (first|with_reducible apply D0Y|simp only[go_sem,seval,hb]|intro d|omega)
 rename_i v;exact D13 (h v d)
set_option maxHeartbeats 2000000 in
theorem C3N{Q}(l:List LinV)(d:List ByteArray)(hlen:l.length≤1000000)(hn:d.length≤1000000)(d4:d.Pairwise fun x y=>V8 x y=true)(hv: ∀a∈l,validL a=true)(hm: ∀a∈l,∀t∈a.t,t.v∈d)(H:Heap)(h:Q (.sl 4 (Rw C6 (B0L l d))) H):
  E3 197 [.sl 3 (Rw E5 l),.sl 1 (Rw K2 d)] H Q:=by
 refine A9 [(6,.par),(11,.par),(22,.par)] A8 Tryz.func197 rfl ?_;simp only[go_sem,seval,Tryz.results197];intro W e7;have e3:(H.set W (.box [.sl 1 (Rw K2 d)])) W=some (.box [.sl 1 (Rw K2 d)]):=A3 _ _;have b7:H.Le (H.set W (.box [.sl 1 (Rw K2 d)])):=A0 e7;generalize H.set W (.box [.sl 1 (Rw K2 d)])=Bs at e3 b7⊢;have e8:d.Nodup:=d4.imp fun {x y} g e=>by rw[e,q0]at g;cases g
 repeat' (first|with_reducible apply D0Y|simp only[go_sem,seval]|simp(disch:=omega) only[A5,B2]|simp(disch:=first|omega|grind) only[B4]|(intro m;try simp only[A6]at m)|omega)
 refine C9 [3,6,19,20] (fun(p:Nat×Option Nat)=>[(21,.int .i64 p.1),(5,J1 4 p.1 p.2)]) (fun(p:Nat×Option Nat)=>putB Bs 4 (Rw zrC ((l.take p.1).map (zrV d))) p.2) (fun(p:Nat×Option Nat)=>p.1≤l.length∧(p.2=none→p.1=0)∧(∀b,p.2=some b→Bs b=none)) (fun(p:Nat×Option Nat)=>l.length-p.1) ((0,none)) (⟨D0t _,by simp,by simp⟩) (by(try simp only[go_sem,seval])<;>(try simp(disch:=omega) [A5])) (by first|exact D1z _|exact A0 (by assumption)|exact B3 (by assumption)|simp only[Heap.Le,Heap.set,Heap.del]at* <;>grind) ?_;rintro Ec rfl ⟨i,o1⟩ ⟨hi,ho,c0⟩;simp only at hi ho c0;have A:=O3.put (H:=Bs) (sz:=4) (es:=Rw zrC ((l.take i).map (zrV d))) (ob:=o1) (fun e=>by rw[ho e];rfl) c0;have fl:=A8k (zrV d) l i hi;generalize putB Bs 4 (Rw zrC ((l.take i).map (zrV d))) o1=Hp at A⊢;by_cases a5:i<l.length
 ·have c1:decide ((i:Int)<l.length)=true:=D0a (by omega);have g6:(i:Int)<l.length:=by omega
  have d5:=hv _ (D0m a5);have d6:=hm _ (D0m a5);have fs:=A6N (zrV d) l i a5;obtain⟨a,d7⟩: ∃a,a=l[i]:=⟨_,rfl⟩
  rw[←d7]at d5 d6 fs;have ok:=M0 d5;repeat' (first|with_reducible apply D0Y|simp only[go_sem,seval,c1,B2 _ _ a5,C2 _ _ a5,←d7]|(intro m;try simp only[A6]at m)|omega)
  rename_i b8;have h8:=m;clear m;have c8:(Hp.set b8 (.box (E5 a))) b8=some (.box (E5 a)):=A3 _ _;have I:Hp.Le (Hp.set b8 (.box (E5 a))):=A0 h8;have c3:(Hp.set b8 (.box (E5 a))) W=some (.box [.sl 1 (Rw K2 d)]):=I _ _ (A.le _ _ e3);generalize Hp.set b8 (.box (E5 a))=B8 at c8 I c3⊢;have m3:W∈[W,b8]:=by simp
  have m8:b8∈[W,b8]:=by simp
  obtain⟨k,hk⟩: ∃k,k=a.k:=⟨_,rfl⟩
  have e9:=ok.k;rw[←hk]at e9;have f0:B8 b8=some (.box [.sl 2 (Rw N7 a.t),.int .i64 k,.bool a.e]):=by rw[hk];exact c8
  refine B2n (fun i'=>if i'=1 then .mk' (fun v=>.vec v 2 0 d.length) (.vec 2 (List.replicate d.length zB))else if i'=4 then .c (.agg (C5 k))else .c .undef) [W,b8] ?_;repeat' (first|with_reducible apply D0Y|simp only[go_sem,seval,f0,c3,m3,m8]|simp(disch:=first|omega|grind) only[B4]|(intro m;try simp only[A6]at m)|with_reducible refine C8y c3 m3 (by simp) rfl (fun H' Q hro hb hq=>A8p W d hn H' hb hq) ?_|with_reducible refine R6 (fun H' Q hro hq=>q9 k (by omega) (by omega) H' hq) ?_)
  rename_i bv hv b9;have h9:=m;clear m;have nb:b9≠bv:=h9.1;have k3:W≠bv∧W≠b9:=⟨(fun g=>by rw[g,hv]at c3;cases c3),(fun g=>by rw[g,h9.2]at c3;cases c3)⟩
  rw[show List.replicate d.length zB=j8 d (a.t.take 0)from(B4P d).symm];refine C9 [3,5,6,9,19,20,21,34,35] (fun(j:Nat)=>[(36,.int .i64 j)]) (fun(j:Nat)=>(B8.set bv (.vec 2 (j8 d (a.t.take j)))).set b9 (.box [.vec bv 2 0 d.length,.bool (decide (k<0)),.sl 1 (Rw F2 (C0 k.natAbs)),.bool a.e])) (fun(j:Nat)=>j≤a.t.length) (fun(j:Nat)=>a.t.length-j) (0) (D0t _) (by(try simp only[go_sem,seval])<;>(try simp(disch:=omega) [A5])) (by first|exact D1z _|exact A0 (by assumption)|exact B3 (by assumption)|simp only[Heap.Le,Heap.set,Heap.del]at* <;>grind) ?_;rintro Ec rfl j hj;have g7:=ok.len;by_cases a6:j<a.t.length
  ·have G:decide ((j:Int)<a.t.length)=true:=D0a (by omega);have f4:(j:Int)<a.t.length:=by omega
   obtain⟨t,ht⟩: ∃t,t=a.t[j]:=⟨_,rfl⟩
   have tc:=(A1z ok.t a6).2.2.1;rw[←ht]at tc;obtain⟨x,hx,b4⟩:=List.getElem_of_mem (d6 _ (D0m a6));rw[←ht]at b4;have f6:(x:Int)<d.length:=by omega
   have d8: ∀y∈a.t.take j,y.v≠t.v:=fun y hy g=>by
    obtain⟨q,hq,rfl⟩:=List.getElem_of_mem hy;rw[D1G]at hq;have:=List.pairwise_iff_getElem.1 (B1t ok.t) q j (by omega) a6 (by omega);rw[List.getElem_take]at g;rw[←ht,g,q0]at this;cases this
   obtain⟨z,hz⟩: ∃z,z=t.c:=⟨_,rfl⟩
   have ts:a.t.take (j+1)=a.t.take j++[t]:=by rw[D0r a6,ht]
   have J:=B6U d (a.t.take j) t x hx b4 e8 d8;rw[←ts,←hz]at J;have d9:=B6T d (a.t.take j) x hx (fun y hy=>by rw[b4];exact d8 y hy);have f7:=B0U d (a.t.take j);rw[←hz]at tc;have f8:t.c=z:=hz.symm;repeat' (first|with_reducible apply D0Y|simp only[go_sem,seval,G,f4,B2 _ _ a6,C2 _ _ a6,←ht,f8]|simp(disch:=first|omega|grind) only[B4]|(intro m;try simp only[A6]at m)|omega)
   rename_i a9;have b6:=m;clear m;have j1:=b6.1;have j2:=b6.2.1;have j3:W≠a9:=fun g=>by have:=b6.2.2;rw[←g,c3]at this;cases this
   have p9:b9∈[b9,a9]:=by simp
   have f9:a9∈[b9,a9]:=by simp
   repeat' (first|simp only[go_sem,seval,A4 _ j3,A4 _ k3.2,A4 _ k3.1,c3]|with_reducible refine B4U d d4 t.v x hx b4 (by omega) _ ?_)
   refine F5 (fun i'=>if i'=5 then .agg (C5 z)else .undef) [b9,a9] ?_;repeat' (first|with_reducible apply D0Y|simp only[go_sem,seval,p9,f9,f6,f7,d9.1,d9.2]|simp(disch:=omega) only[A5,B2]|simp(disch:=first|omega|grind) only[B4]|with_reducible refine R6 (fun H' Q hro hq=>q9 z (by omega) (by omega) H' hq) ?_|omega)
   have c2:(j8 d (a.t.take j)).set x ((zB.set 0 (D.bool (decide (z<0)))).set 1 (D.sl 1 (Rw F2 (C0 z.natAbs))))=j8 d (a.t.take (j+1)):=J;refine C4 (j+1) (by omega) (by omega) (by(try simp only[go_sem,seval])<;>(try simp(disch:=omega) [A5])) ?_;rw[←c2];intro q o hq;have g0:q≠a9:=fun g=>by rw[g,A4 _ j1,A4 _ j2,b6.2.2]at hq;cases hq
   by_cases g:q=bv
   ·subst g;rw[A4 _ nb.symm,A3]at hq;rw[A3];exact hq
   ·rw[A4 _ g,A4 _ g0];by_cases e0:q=b9
    ·subst e0;rw[A3]at hq⊢;exact hq
    ·rw[A4 _ e0,A4 _ g]at hq⊢;exact hq
  ·have G:decide ((j:Int)<a.t.length)=false:=D0b (by omega);have g2:j=a.t.length:=by omega
   subst g2;rw[List.take_length];repeat' (first|simp only[go_sem,seval,G]|(intro m;try simp only[A6]at m))
   rename_i bx;have L:=m;clear m;have g4:Bs bv=none:=(A.le.trans I).none hv;have q1:(Bs.set bv (.vec 2 (j8 d a.t))).Le ((B8.set bv (.vec 2 (j8 d a.t))).set b9 (.box [.vec bv 2 0 d.length,.bool (decide (k<0)),.sl 1 (Rw F2 (C0 k.natAbs)),.bool a.e])):=by
    intro q o hq;by_cases g:q=bv
    ·subst g;rw[A4 _ nb.symm,A3];rw[A3]at hq;exact hq
    ·rw[A4 _ g]at hq;have u:=I _ _ (A.le _ _ hq);have g9:q≠b9:=fun g=>by rw[g,h9.2]at u;cases u
     rw[A4 _ g9,A4 _ g];exact u
   have q2:Hp.Le ((B8.set bv (.vec 2 (j8 d a.t))).set b9 (.box [.vec bv 2 0 d.length,.bool (decide (k<0)),.sl 1 (Rw F2 (C0 k.natAbs)),.bool a.e])):=by
    intro q o hq;have u:=I _ _ hq;have g:q≠bv:=fun g=>by rw[g,hv]at u;cases u
    have g9:q≠b9:=fun g=>by rw[g,h9.2]at u;cases u
    rw[A4 _ g9,A4 _ g];exact u
   have O:=A.base q1 q2 (fun b b0 b1=>by rw[A4 _ (fun g=>b0 (by rw[g];exact I.none hv))];exact b1);refine O3.ap O (e1':=Rw zrC ((l.take i).map (zrV d))++[[.vec bv 2 0 d.length,.bool (decide (k<0)),.sl 1 (Rw F2 (C0 k.natAbs)),.bool a.e]]) (D1z _) (by simp only[A6];exact L) (by simp) (by rw[D6,fl]) (by simp only[D0d,D0f];omega) (by simp only[D0d,D0f];omega) rfl fun T H' X=>?_;clear O q1 q2 L;repeat' (first|simp only[go_sem,seval]|simp(disch:=omega) only[A5,B2])
   have C:=X.n1 _ rfl;have U:bv≠T:=fun g=>by rw[←g,A3]at C;cases C
   have eX:Rw zrC ((l.take (i+1)).map (zrV d))=Rw zrC ((l.take i).map (zrV d))++[.sl 2 (j8 d a.t)::[.bool (decide (k<0)),.sl 1 (Rw F2 (C0 k.natAbs)),.bool a.e]]:=by rw[fs,←O7,hk];rfl
   refine B5q (i+1,some T) ⟨by simp only[];omega,by simp,fun b e=>?_⟩ (by simp only[];omega) ?_
   ·have:=X.n1 _ e;rw[A4 _ (by cases e;exact U.symm)]at this;exact this
   ·show A0w _ (Bs.set T (.vec 4 (Rw zrC ((l.take (i+1)).map (zrV d))))) _ _;rw[eX];refine A0z (by(try simp only[go_sem,seval,K9])<;>(try simp(disch:=omega) [A5])) (by rw[B0U]) X.a1 (X.le _ _ (A3 _ _)) U (fun q o hq ho=>?_);have V:q≠bv:=fun g=>by rw[g,g4]at ho;cases ho
    exact⟨V,X.le q o (by rw[A4 _ V];exact ho)⟩
 ·have c1:decide ((i:Int)<l.length)=false:=D0b (by omega);have c4:i=l.length:=by omega
  rw[D0n (by omega),←B6k]at A;have g5:i=(zrR d l 0).length:=by rw[B3M];omega
  have c3:=A.le _ _ e3;rw[g5];repeat' simp only[go_sem,seval,D0b (show¬(((zrR d l 0).length:Nat):Int)<l.length by omega),c3]
  clear c1 c0 ho hi a5 fl c4;refine C9 [6,61] (fun(p:Nat×Option Nat×Heap)=>[(62,.int .i64 p.1),(5,J1 4 (zrR d l p.1).length p.2.1)]) (fun(p:Nat×Option Nat×Heap)=>p.2.2) (fun(p:Nat×Option Nat×Heap)=>p.1≤d.length∧O3 Bs p.2.2 4 (Rw zrC (zrR d l p.1)) [] [] p.2.1 none none) (fun(p:Nat×Option Nat×Heap)=>d.length-p.1) ((0,o1,Hp)) (⟨D0t _,A⟩) (by(try simp only[go_sem,seval])<;>(try simp(disch:=omega) [A5])) (by first|exact D1z _|exact A0 (by assumption)|exact B3 (by assumption)|simp only[Heap.Le,Heap.set,Heap.del]at* <;>grind) ?_;clear A c3;obtain⟨M,hM⟩: ∃M:Int,M=2147483647:=⟨_,rfl⟩
  have wm: ∀(H:Heap) (Q:D→Heap→Prop),Q (.agg (C5 M)) H→E3 228 [.int .i64 2147483647] H Q:=fun H Q hq=>q9 2147483647 (by omega) (by omega) H (by rw[←hM];exact hq);rintro Ec rfl ⟨i,o1,Hp⟩ ⟨hi,A⟩;simp only at hi A;by_cases hit:i<d.length
  ·have G:decide ((i:Int)<d.length)=true:=D0a (by omega);have e4:(i:Int)<d.length:=by omega
   repeat' (first|simp only[go_sem,seval,G]|(intro m;try simp only[A6]at m))
   rename_i bs;have e6:=m;clear m;have g3:=A.grow e6 (.vec 1 [[.int .i64 1],[.int .i64 (-1)]]);have es:(Bs.set bs (.vec 1 [[.int .i64 1],[.int .i64 (-1)]])) bs=some (.vec 1 [[.int .i64 1],[.int .i64 (-1)]]):=A3 _ _;have c5:Bs.Le (Bs.set bs (.vec 1 [[.int .i64 1],[.int .i64 (-1)]])):=A0 (A.le.none e6);generalize Hp.set bs (.vec 1 [[.int .i64 1],[.int .i64 (-1)]])=Hq at g3⊢;generalize Bs.set bs (.vec 1 [[.int .i64 1],[.int .i64 (-1)]])=B1 at g3 es c5;rw[←B6i]at g3⊢;refine C9 [6,14,61,62,65,66] (fun(p:Nat×Option Nat×Heap)=>[(67,.int .i64 p.1),(5,J1 4 (zrJ d l i p.1).length p.2.1)]) (fun(p:Nat×Option Nat×Heap)=>p.2.2) (fun(p:Nat×Option Nat×Heap)=>p.1≤2∧O3 B1 p.2.2 4 (Rw zrC (zrJ d l i p.1)) [] [] p.2.1 none none) (fun(p:Nat×Option Nat×Heap)=>2-p.1) ((0,o1,Hq)) (⟨D0t _,g3⟩) (by(try simp only[go_sem,seval])<;>(try simp(disch:=omega) [A5])) (by first|exact D1z _|exact A0 (by assumption)|exact B3 (by assumption)|simp only[Heap.Le,Heap.set,Heap.del]at* <;>grind) ?_;clear g3 A;rintro Ec rfl ⟨j,o1,Hp⟩ ⟨hj,A⟩;simp only at hj A;have d3:=A.le _ _ (c5 _ _ e3);have ds:=A.le _ _ es
   match j,hj with
   |0,_=>
    have k3:decide (((0:Nat):Int)<((2:Nat):Int))=true:=by decide
    have g1:=B9S d l i;have gl:=A5U d l i 0 (by omega);have c6:=A5U d l i (1) (by omega);obtain⟨s,hs⟩: ∃s:Int,s=1:=⟨1,rfl⟩
    have ws: ∀(H:Heap) (Q:D→Heap→Prop),Q (.agg (C5 s)) H→E3 228 [.int .i64 (1)] H Q:=fun H Q hq=>q9 (1) (by omega) (by omega) H (by rw[←hs];exact hq);repeat' (first|with_reducible apply D0Y|simp only[go_sem,seval,k3,ds,d3,D07,D08]|(intro m;try simp only[A6]at m)|with_reducible refine A8p W d hn _ d3 ?_|with_reducible refine wm _ _ ?_|omega)
    rename_i v hv r;have a0:=m;clear m;have nb:r≠v:=a0.1;have c7:r∈[r]:=by simp
    have a4:(List.replicate d.length zB)[i]? =some zB∧(List.replicate d.length zB).getD i []=zB:=by
     have:(List.replicate d.length zB)[i]? =some zB:=by simp[hit]
     exact⟨this,by rw[List.getD_eq_getElem?_getD,this];rfl⟩
    have b2:(List.replicate d.length zB).length=d.length:=List.length_replicate;refine F5 (fun i'=>if i'=4 then .agg (C5 s)else .undef) [r] ?_;obtain⟨Z,hZ⟩: ∃Z,Z=List.replicate d.length zB:=⟨_,rfl⟩
    rw[←hZ]at a4 b2⊢;repeat' (first|with_reducible apply D0Y|simp only[go_sem,seval,c7,e4,b2,a4.1,a4.2]|simp(disch:=first|omega|grind) only[B4]|(intro m;try simp only[A6]at m)|with_reducible refine R6 (fun H' Q hro hq=>ws H' Q hq) ?_|omega)
    rename_i bx;have L:=m;clear m;have J:Z.set i ((zB.set 0 (D.bool (decide (s<0)))).set 1 (D.sl 1 (Rw F2 (C0 s.natAbs))))=(List.replicate d.length zB).set i (C5 s):=by rw[hZ];rfl
    rw[J];obtain⟨Y,hY⟩: ∃Y,Y=(List.replicate d.length zB).set i (C5 s):=⟨_,rfl⟩
    rw[←hY];have c9:Y.length=d.length:=by rw[hY,D1V,List.length_replicate]
    have d0:B1 v=none:=A.le.none hv;have q1:(B1.set v (.vec 2 Y)).Le (((Hp.set v (.vec 2 Z)).set r (.box [.vec v 2 0 d.length,.bool (decide (M<0)),.sl 1 (Rw F2 (C0 M.natAbs)),.bool false])).set v (.vec 2 Y)):=by
     intro q o hq;by_cases g:q=v
     ·subst g;rw[A3]at hq⊢;exact hq
     ·rw[A4 _ g]at hq;have u:=A.le _ _ hq;have g9:q≠r:=fun g=>by rw[g,a0.2]at u;cases u
      rw[A4 _ g,A4 _ g9,A4 _ g];exact u
    have q2:Hp.Le (((Hp.set v (.vec 2 Z)).set r (.box [.vec v 2 0 d.length,.bool (decide (M<0)),.sl 1 (Rw F2 (C0 M.natAbs)),.bool false])).set v (.vec 2 Y)):=by
     intro q o u;have g:q≠v:=fun g=>by rw[g,hv]at u;cases u
     have g9:q≠r:=fun g=>by rw[g,a0.2]at u;cases u
     rw[A4 _ g,A4 _ g9,A4 _ g];exact u
    have O:=A.base q1 q2 (fun b b0 b1=>by rw[A4 _ (fun g=>b0 (by rw[g];exact hv))];exact b1);refine O3.ap O (e1':=Rw zrC (zrJ d l i 0)++[[.vec v 2 0 d.length,.bool (decide (M<0)),.sl 1 (Rw F2 (C0 M.natAbs)),.bool false]]) (D1z _) (by simp only[A6];simp only[L,ne_eq,not_false_eq_true,and_self]) (by simp) (by rw[D6]) (by simp only[D0d,D0f];omega) (by simp only[D0d,D0f];omega) rfl fun T H' X=>?_;clear O q1 q2 L;repeat' (first|simp only[go_sem,seval]|simp(disch:=omega) only[A5,B2])
    have C:=X.n1 _ rfl;have U:v≠T:=fun g=>by rw[←g,A3]at C;cases C
    have d2:B1 T=none:=by rw[A4 _ U.symm]at C;exact C
    have eX:Rw zrC (zrJ d l i 1)=Rw zrC (zrJ d l i 0)++[.sl 2 Y::[.bool (decide (M<0)),.sl 1 (Rw F2 (C0 M.natAbs)),.bool false]]:=by rw[g1,←O7,hY,hM,hs];rfl
    refine B5q (1,some T,B1.set T (.vec 4 (Rw zrC (zrJ d l i 1)))) ⟨by simp only[];omega,O3.put (H:=B1) (ob:=some T) (by simp) (fun b e=>by cases e;exact d2)⟩ (by simp only[];omega) ?_;show A0w _ (B1.set T (.vec 4 (Rw zrC (zrJ d l i 1)))) _ _;rw[eX];refine A0z (by(try simp only[go_sem,seval,K9,gl,c6])<;>(try simp(disch:=omega) [A5])) c9.symm X.a1 (X.le _ _ (A3 _ _)) U (fun q o hq ho=>?_);have V:q≠v:=fun g=>by rw[g,d0]at ho;cases ho
    exact⟨V,X.le q o (by rw[A4 _ V];exact ho)⟩
   |1,_=>
    have k3:decide (((1:Nat):Int)<((2:Nat):Int))=true:=by decide
    have g1:=B6j d l i;have gl:=A5U d l i 1 (by omega);have c6:=A5U d l i (2) (by omega);obtain⟨s,hs⟩: ∃s:Int,s= -1:=⟨-1,rfl⟩
    have ws: ∀(H:Heap) (Q:D→Heap→Prop),Q (.agg (C5 s)) H→E3 228 [.int .i64 (-1)] H Q:=fun H Q hq=>q9 (-1) (by omega) (by omega) H (by rw[←hs];exact hq);repeat' (first|with_reducible apply D0Y|simp only[go_sem,seval,k3,ds,d3,D07,D08]|(intro m;try simp only[A6]at m)|with_reducible refine A8p W d hn _ d3 ?_|with_reducible refine wm _ _ ?_|omega)
    rename_i v hv r;have a0:=m;clear m;have nb:r≠v:=a0.1;have c7:r∈[r]:=by simp
    have a4:(List.replicate d.length zB)[i]? =some zB∧(List.replicate d.length zB).getD i []=zB:=by
     have:(List.replicate d.length zB)[i]? =some zB:=by simp[hit]
     exact⟨this,by rw[List.getD_eq_getElem?_getD,this];rfl⟩
    have b2:(List.replicate d.length zB).length=d.length:=List.length_replicate;refine F5 (fun i'=>if i'=4 then .agg (C5 s)else .undef) [r] ?_;obtain⟨Z,hZ⟩: ∃Z,Z=List.replicate d.length zB:=⟨_,rfl⟩
    rw[←hZ]at a4 b2⊢;repeat' (first|with_reducible apply D0Y|simp only[go_sem,seval,c7,e4,b2,a4.1,a4.2]|simp(disch:=first|omega|grind) only[B4]|(intro m;try simp only[A6]at m)|with_reducible refine R6 (fun H' Q hro hq=>ws H' Q hq) ?_|omega)
    rename_i bx;have L:=m;clear m;have J:Z.set i ((zB.set 0 (D.bool (decide (s<0)))).set 1 (D.sl 1 (Rw F2 (C0 s.natAbs))))=(List.replicate d.length zB).set i (C5 s):=by rw[hZ];rfl
    rw[J];obtain⟨Y,hY⟩: ∃Y,Y=(List.replicate d.length zB).set i (C5 s):=⟨_,rfl⟩
    rw[←hY];have c9:Y.length=d.length:=by rw[hY,D1V,List.length_replicate]
    have d0:B1 v=none:=A.le.none hv;have q1:(B1.set v (.vec 2 Y)).Le (((Hp.set v (.vec 2 Z)).set r (.box [.vec v 2 0 d.length,.bool (decide (M<0)),.sl 1 (Rw F2 (C0 M.natAbs)),.bool false])).set v (.vec 2 Y)):=by
     intro q o hq;by_cases g:q=v
     ·subst g;rw[A3]at hq⊢;exact hq
     ·rw[A4 _ g]at hq;have u:=A.le _ _ hq;have g9:q≠r:=fun g=>by rw[g,a0.2]at u;cases u
      rw[A4 _ g,A4 _ g9,A4 _ g];exact u
    have q2:Hp.Le (((Hp.set v (.vec 2 Z)).set r (.box [.vec v 2 0 d.length,.bool (decide (M<0)),.sl 1 (Rw F2 (C0 M.natAbs)),.bool false])).set v (.vec 2 Y)):=by
     intro q o u;have g:q≠v:=fun g=>by rw[g,hv]at u;cases u
     have g9:q≠r:=fun g=>by rw[g,a0.2]at u;cases u
     rw[A4 _ g,A4 _ g9,A4 _ g];exact u
    have O:=A.base q1 q2 (fun b b0 b1=>by rw[A4 _ (fun g=>b0 (by rw[g];exact hv))];exact b1);refine O3.ap O (e1':=Rw zrC (zrJ d l i 1)++[[.vec v 2 0 d.length,.bool (decide (M<0)),.sl 1 (Rw F2 (C0 M.natAbs)),.bool false]]) (D1z _) (by simp only[A6];simp only[L,ne_eq,not_false_eq_true,and_self]) (by simp) (by rw[D6]) (by simp only[D0d,D0f];omega) (by simp only[D0d,D0f];omega) rfl fun T H' X=>?_;clear O q1 q2 L;repeat' (first|simp only[go_sem,seval]|simp(disch:=omega) only[A5,B2])
    have C:=X.n1 _ rfl;have U:v≠T:=fun g=>by rw[←g,A3]at C;cases C
    have d2:B1 T=none:=by rw[A4 _ U.symm]at C;exact C
    have eX:Rw zrC (zrJ d l i 2)=Rw zrC (zrJ d l i 1)++[.sl 2 Y::[.bool (decide (M<0)),.sl 1 (Rw F2 (C0 M.natAbs)),.bool false]]:=by rw[g1,←O7,hY,hM,hs];rfl
    refine B5q (2,some T,B1.set T (.vec 4 (Rw zrC (zrJ d l i 2)))) ⟨by simp only[];omega,O3.put (H:=B1) (ob:=some T) (by simp) (fun b e=>by cases e;exact d2)⟩ (by simp only[];omega) ?_;show A0w _ (B1.set T (.vec 4 (Rw zrC (zrJ d l i 2)))) _ _;rw[eX];refine A0z (by(try simp only[go_sem,seval,K9,gl,c6])<;>(try simp(disch:=omega) [A5])) c9.symm X.a1 (X.le _ _ (A3 _ _)) U (fun q o hq ho=>?_);have V:q≠v:=fun g=>by rw[g,d0]at ho;cases ho
    exact⟨V,X.le q o (by rw[A4 _ V];exact ho)⟩
   |2,_=>
    rw[B3L]at A;repeat' (first|with_reducible apply D0Y|simp only[go_sem,seval,B3L]|simp(disch:=omega) only[A5,B2]|(intro m;try simp only[A6]at m)|omega)
    refine C4 (i+1,o1,Hp) ⟨by simp only[];omega,A.less c5⟩ (by simp only[];omega) (by(try simp only[go_sem,seval])<;>(try simp(disch:=omega) [A5])) (D1z _)
   |j+3,hj=>omega
  ·have G:decide ((i:Int)<d.length)=false:=D0b (by omega);have c4:i=d.length:=by omega
   subst c4;repeat' simp only[go_sem,seval,G]
   refine Fin.out (by rw[D6]) A.a1 (D7 (B4O _ (C3M d l _ (D0s _))) ?_);rw[B6h];exact D10 (b7.trans (O3.one A)) h
open Go Go.Av Go.Lin
set_option maxHeartbeats 4000000 in
theorem B9T{Q}(l:List Row)(n:Nat)(hlen:l.length≤1000000)(hn:n≤1000000)(hP: ∀r∈l,A4U n 18446744073709551616 r)(H:Heap)(h:Q (B0j (A0C [] (pairs1 l))) H):E3 250 [.sl 4 (Rw C6 l)] H Q:=by
 refine A9 [(10,.par),(11,.par),(23,.par),(24,.par)] A8 Tryz.func250 rfl ?_;simp only[go_sem,seval,Tryz.results250];have z0:D.nilsl=J1 4 (pairs1 (l.take 0)).length none:=rfl;repeat' (first|with_reducible apply D0Y|simp only[go_sem,seval]|simp(disch:=omega) only[A5,B2]|intro L|omega)
 refine C9 [13,14] (fun(p:Nat×Option Nat×Heap)=>[(15,.int .i64 p.1),(4,J1 4 (pairs1 (l.take p.1)).length p.2.1)]) (fun(p:Nat×Option Nat×Heap)=>p.2.2) (fun(p:Nat×Option Nat×Heap)=>p.1≤l.length∧O3 H p.2.2 4 (Rw C6 (pairs1 (l.take p.1))) [] [] p.2.1 none none) (fun(p:Nat×Option Nat×Heap)=>l.length-p.1) ((0,none,H)) (⟨D0t _,O3.nil H 4⟩) (by(try simp only[go_sem,seval])<;>(try simp(disch:=omega) [A5])) (by first|exact D1z _|exact A0 (by assumption)|exact B3 (by assumption)|simp only[Heap.Le,Heap.set,Heap.del]at* <;>grind) ?_;rintro Ec rfl ⟨i,o1,Hp⟩ ⟨hi,x⟩;simp only at hi x;have hz:o1=none→(pairs1 (l.take i)).length=0:=fun e=>by
  have:=x.a1;rw[e]at this;have this:Rw C6 (pairs1 (l.take i))= []:=this;rw[←D6 (f:=C6),this];rfl
 have ol:(pairs1 (l.take i)).length≤1000000:=by have:=A6O (l.take i) [];simp at this;unfold pairs1;omega
 have oP: ∀s∈pairs1 (l.take i),A4U n 18446744073709551616 s:=B0h _ _ (fun s hs=>hP s (List.mem_of_mem_take hs)) (by simp);by_cases a0:i<l.length
 ·have a5:decide ((i:Int)<l.length)=true:=D0a (by omega);have c6:(i:Int)<l.length:=by omega
  have ps:=B0g l i a0;have hr:=hP _ (D0m a0);generalize pairs1 (l.take i)=out at x hz ol oP ps⊢;obtain⟨r,b2⟩: ∃r,r=l[i]:=⟨_,rfl⟩
  rw[←b2]at ps hr;repeat' (first|with_reducible apply D0Y|simp only[go_sem,seval,a5,B2 _ _ a0,C2 _ _ a0,←b2,B2z hz]|intro L|omega)
  rename_i b6;have h6:=L;clear L;have e6:(Hp.set b6 (.box (C6 r))) b6=some (.box (C6 r)):=A3 _ _;have C:Hp.Le (Hp.set b6 (.box (C6 r))):=A0 h6;generalize Hp.set b6 (.box (C6 r))=Hq at e6 C⊢;refine C9 [4,6,13,14,15,20] (fun(j:Nat)=>[(21,.int .i64 j)]) (fun(j:Nat)=>Hq) (fun(j:Nat)=>j≤out.length∧∀(k:Nat) (hk:k<out.length),k<j→¬hit r out[k]) (fun(j:Nat)=>out.length-j) (0) (⟨D0t _,fun _ _ h=>absurd h (D1o _)⟩) (by(try simp only[go_sem,seval])<;>(try simp(disch:=omega) [A5])) (by first|exact D1z _|exact A0 (by assumption)|exact B3 (by assumption)|simp only[Heap.Le,Heap.set,Heap.del]at* <;>grind) ?_;rintro Ec rfl j ⟨hj,U⟩;by_cases q:j<out.length
  ·have G:decide ((j:Int)<out.length)=true:=D0a (by omega);have V:(j:Int)<out.length:=by omega
   obtain⟨c,rfl⟩: ∃c,o1=some c:=by
    cases o1 with
    |none=>have:=hz rfl;omega
    |some c=>exact⟨c,rfl⟩
   have O:Hq c=some (.vec 4 (Rw C6 out)):=C _ _ x.a1;have hs:=oP _ (D0m q);have step: ¬hit r out[j]→∀(k:Nat) (hk:k<out.length),k<j+1→¬hit r out[k]:=fun g k hk c7=>by
    by_cases e:k=j
    ·subst e;exact g
    ·exact U k hk (by omega)
   have a6: ¬hit r out[j]→(j+1≤out.length∧∀(k:Nat) (hk:k<out.length),k<j+1→¬hit r out[k]):=fun g=>⟨by omega,step g⟩
   have m6:b6∈[b6,c]:=by simp
   have W:c∈[b6,c]:=by simp
   cases u:r.eq with
   |true=>
    repeat' (first|with_reducible apply D0Y|simp only[go_sem,seval,G,e6,O,u]|simp(disch:=omega) only[A5,B2]|omega)
    exact C4 (j+1) (a6 (fun g=>by have:=g.1;rw[u]at this;cases this)) (by omega) (by(try simp only[go_sem,seval])<;>(try simp(disch:=omega) [A5])) (D1z _)
   |false=>
    cases y:out[j].eq with
    |true=>
     repeat' (first|with_reducible apply D0Y|simp only[go_sem,seval,G,e6,O,u,V,B2 _ _ q,C2 _ _ q,y]|simp(disch:=omega) only[A5,B2]|omega)
     exact C4 (j+1) (a6 (fun g=>by have:=g.2.1;rw[y]at this;cases this)) (by omega) (by(try simp only[go_sem,seval])<;>(try simp(disch:=omega) [A5])) (D1z _)
    |false=>
     repeat' (first|with_reducible apply D0Y|simp only[go_sem,seval,G,e6,O,u,V,B2 _ _ q,C2 _ _ q,y]|omega)
     refine F5 (fun A=>if A=4 then .bool (A4M r out[j] 1)else .undef) [b6,c] ?_;cases ho:A4M r out[j] 1 with
     |false=>
      repeat' (first|simp only[go_sem,seval,e6,O,m6,W,V,B2 _ _ q,C2 _ _ q]|simp(disch:=omega) only[A5,B2]|with_reducible refine R6 (fun H' Q hro hq=>A22 r out[j] 1 (.inl rfl) (by rw[hr.1,hs.1]) (by rw[hr.1];exact hn) hr.2 hs.2 H' (by rw[ho];exact hq)) ?_)
      exact C4 (j+1) (a6 (fun g=>by have:=g.2.2;rw[ho]at this;cases this)) (by omega) (by(try simp only[go_sem,seval])<;>(try simp(disch:=omega) [A5])) (D1z _)
     |true=>
      have hh:hit r out[j]:=⟨u,y,ho⟩
      have ph:=B0e r out j q U hh;have sk:=hr.2.1;have b8:=hs.2.1;have s1:Sz r.k:=H7 (by omega);have s2:Sz out[j].k:=H7 (by omega);repeat' (first|simp only[go_sem,seval,e6,O,m6,W,V,B2 _ _ q,C2 _ _ q]|with_reducible refine R6 (fun H' Q hro hq=>A22 r out[j] 1 (.inl rfl) (by rw[hr.1,hs.1]) (by rw[hr.1];exact hn) hr.2 hs.2 H' (by rw[ho];exact hq)) ?_)
      refine F5 (fun A=>if A=6 then .bool (decide (r.k<out[j].k))else .undef) [b6,c] ?_;repeat' (first|with_reducible apply D0Y|simp only[go_sem,seval,e6,O,m6,W,V,B2 _ _ q,C2 _ _ q]|simp(disch:=omega) only[A5,B2]|intro L|with_reducible refine R6 (fun H' Q hro hq=>B3A r.k out[j].k s1 s2 H' hq) ?_|omega)
      ·have hk:r.k<out[j].k:=by assumption
       rw[if_pos hk]at ph;have e:pairs1 (l.take (i+1))=out.set j {out[j]with k:=r.k}:=by rw[ps,ph]
       have el:(pairs1 (l.take (i+1))).length=out.length:=by rw[e,D1V]
       refine C4 (i+1,some c,Hq.set c (.vec 4 (Rw C6 (pairs1 (l.take (i+1)))))) ⟨by simp only[];omega,x.set1 C⟩ (by simp only[];omega) (by(try simp only[go_sem,seval,el,K9])<;>(try simp(disch:=omega) [A5])) ?_;simp only[];rw[e,←Y9 out j {out[j]with k:=r.k} _ rfl];exact D1z _
      ·have hk: ¬r.k<out[j].k:=by omega
       rw[if_neg hk]at ph;have e:pairs1 (l.take (i+1))=out:=by rw[ps,ph]
       refine C4 (i+1,some c,Hp) ⟨by simp only[];omega,by simp only[e];exact x⟩ (by simp only[];omega) (by(try simp only[go_sem,seval,e,K9])<;>(try simp(disch:=omega) [A5])) C
  ·have G:decide ((j:Int)<out.length)=false:=D0b (by omega);have e:pairs1 (l.take (i+1))=out++[r]:=by rw[ps,A7i r out (fun k hk=>U k hk (by omega))]
   have el:(pairs1 (l.take (i+1))).length=out.length+1:=by rw[e];simp
   repeat' (first|simp only[go_sem,seval,G,e6]|intro L)
   rename_i bx;have b9:=L;clear L;refine O3.ap x (e1':=Rw C6 (pairs1 (l.take (i+1)))) C b9 (by simp) (by rw[D6]) (by simp only[D0d,D0f];omega) (by simp only[D0d,D0f];omega) (by rw[e,←O7];rfl) fun b' H' h4=>?_;repeat' (first|simp only[go_sem,seval]|simp(disch:=omega) only[A5,B2])
   refine C4 (i+1,some b',H') ⟨by simp only[];omega,h4⟩ (by simp only[];omega) (by(try simp only[go_sem,seval,K9,el])<;>(try simp(disch:=omega) [A5])) (D1z _)
 ·have a5:decide ((i:Int)<l.length)=false:=D0b (by omega);rw[D0n (by omega)]at x hz ol oP;have e1:l.take i=l:=D0n (by omega);rw[e1]at*;have c8:(pairs1 l).length≤1000000:=ol;generalize pairs1 l=m at*;repeat' simp only[go_sem,seval,a5,B2z hz]
  refine C9 [4,59] (fun(p:Nat×List Row×Heap)=>[(60,.int .i64 p.1)]) (fun(p:Nat×List Row×Heap)=>p.2.2) (fun(p:Nat×List Row×Heap)=>p.1≤m.length∧p.2.1.length=m.length∧p.2.1.drop p.1=m.drop p.1∧A0C [] m=A0C (p.2.1.take p.1) (m.drop p.1)∧(∀s∈p.2.1,A4U n 18446744073709551616 s)∧O3 H p.2.2 4 (Rw C6 p.2.1) [] [] o1 none none) (fun(p:Nat×List Row×Heap)=>m.length-p.1) ((0,m,Hp)) (⟨D0t _,rfl,rfl,rfl,oP,x⟩) (by(try simp only[go_sem,seval])<;>(try simp(disch:=omega) [A5])) (by first|exact D1z _|exact A0 (by assumption)|exact B3 (by assumption)|simp only[Heap.Le,Heap.set,Heap.del]at* <;>grind) ?_;clear x oP;rintro Ec rfl ⟨i,X,Hp⟩ ⟨c0,T,a9,z,a4,x⟩;simp only at c0 T a9 z a4 x;by_cases hit:i<m.length
  ·have Y:decide ((i:Int)<m.length)=true:=D0a (by omega);have c9:(i:Int)<m.length:=by omega
   obtain⟨c,rfl⟩: ∃c,o1=some c:=by
    cases o1 with
    |none=>have:=hz rfl;omega
    |some c=>exact⟨c,rfl⟩
   have b0:i<X.length:=by omega
   have c1:m[i]=X[i]:=by
    have h1:=D03 b0;have h2:=D03 hit;rw[a9,h2]at h1;exact(List.cons.inj h1).1
   rw[D03 hit,B0i,c1]at z;repeat' simp only[go_sem,seval,Y]
   refine C9 [4,9,59,60,63] (fun(p:Nat×Row×Heap)=>[(64,.int .i64 p.1)]) (fun(p:Nat×Row×Heap)=>p.2.2) (fun(p:Nat×Row×Heap)=>p.1≤i∧A4U n 18446744073709551616 p.2.1∧A5D X[i] (X.take i)=A5D p.2.1 ((X.take i).drop p.1)∧O3 H p.2.2 4 (Rw C6 (X.set i p.2.1)) [] [] (some c) none none) (fun(p:Nat×Row×Heap)=>i-p.1) ((0,X[i],Hp)) (⟨D0t _,a4 _ (D0m b0),rfl,by rw[List.set_getElem_self];exact x⟩) (by(try simp only[go_sem,seval])<;>(try simp(disch:=omega) [A5])) (by first|exact D1z _|exact A0 (by assumption)|exact B3 (by assumption)|simp only[Heap.Le,Heap.set,Heap.del]at* <;>grind) ?_;clear x;rintro Ec rfl ⟨j,r,Hp⟩ ⟨hj,hr,hm,x⟩;simp only at hj hr hm x;by_cases q:j<i
   ·have I:decide ((j:Int)<i)=true:=D0a (by omega);have c2:j<X.length:=by omega
    have hs:=a4 _ (D0m c2);obtain⟨s,b1⟩: ∃s,s=X[j]:=⟨_,rfl⟩
    rw[←b1]at hs;have dj:(X.take i).drop j=s::(X.take i).drop (j+1):=by
     rw[D03 (by rw[D1G];omega),List.getElem_take,b1]
    rw[dj,B4V]at hm;have yi:(X.set i r).length=X.length:=D1V ..;have b3:i<(X.set i r).length:=by omega
    have b4:j<(X.set i r).length:=by omega
    have gi:(X.set i r)[i]=r:=List.getElem_set_self ..;have gj:(X.set i r)[j]=s:=by rw[List.getElem_set_ne (by omega),b1]
    have d:(i:Int)<X.length:=by omega
    have o:(j:Int)<X.length:=by omega
    have O:Hp c=some (.vec 4 (Rw C6 (X.set i r))):=x.a1;have ri:=B2 (f:=C6) (X.set i r) i b3;have J:=C2 (f:=C6) (X.set i r) i b3;have rj:=B2 (f:=C6) (X.set i r) j b4;have M:=C2 (f:=C6) (X.set i r) j b4;rw[gi]at ri J;rw[gj]at rj M;have W:c∈[c]:=by simp
    cases u:r.eq with
    |true=>
     rw[if_pos (.inl u)]at hm;repeat' (first|with_reducible apply D0Y|simp only[go_sem,seval,I,d,o,←T]|omega)
     refine F5 (fun A=>.undef) [c] ?_;repeat' (first|simp only[go_sem,seval,O,W,ri,J,u,yi,d]|simp(disch:=omega) only[A5,B2])
     exact C4 (j+1,r,Hp) ⟨by simp only[];omega,hr,hm,x⟩ (by simp only[];omega) (by(try simp only[go_sem,seval])<;>(try simp(disch:=omega) [A5])) (D1z _)
    |false=>
     cases y:s.eq with
     |true=>
      rw[if_pos (.inr (.inl y))]at hm;repeat' (first|with_reducible apply D0Y|simp only[go_sem,seval,I,d,o,←T]|omega)
      refine F5 (fun A=>.undef) [c] ?_;repeat' (first|simp only[go_sem,seval,O,W,ri,J,rj,M,u,y,yi,d,o]|simp(disch:=omega) only[A5,B2])
      exact C4 (j+1,r,Hp) ⟨by simp only[];omega,hr,hm,x⟩ (by simp only[];omega) (by(try simp only[go_sem,seval])<;>(try simp(disch:=omega) [A5])) (D1z _)
     |false=>
      have c3:r.c.length=s.c.length:=by rw[hr.1,hs.1]
      have c4:r.c.length≤1000000:=by rw[hr.1];exact hn
      have b7: ∀(b:Bool),A4M r s (-1)=b→∀(H':Heap) (Q:D→Heap→Prop),Q (.bool b) H'→E3 281 [.agg [.sl 2 (Rw C5 r.c),.bool (decide (r.k<0)),.sl 1 (Rw F2 (C0 r.k.natAbs)),.bool false],.agg [.sl 2 (Rw C5 s.c),.bool (decide (s.k<0)),.sl 1 (Rw F2 (C0 s.k.natAbs)),.bool false],.int .i64 (-1)] H' Q:=fun b hb H' Q hq=>by
       have h0:=A22 (Q:=Q) r s (-1) (.inr rfl) c3 c4 hr.2 hs.2 H' (by rw[hb];exact hq);rw[B6A,B6A,u,y]at h0;exact h0
      repeat' (first|with_reducible apply D0Y|simp only[go_sem,seval,I,d,o,←T]|omega)
      cases ho:A4M r s (-1)with
      |false=>
       rw[if_pos (.inr (.inr ho))]at hm;refine F5 (fun A=>if A=17 then .bool false else .undef) [c] ?_;repeat' (first|simp only[go_sem,seval,O,W,ri,J,rj,M,u,y,yi,d,o]|simp(disch:=omega) only[A5,B2]|with_reducible refine R6 (fun H' Q hro hq=>b7 _ ho H' Q hq) ?_)
       exact C4 (j+1,r,Hp) ⟨by simp only[];omega,hr,hm,x⟩ (by simp only[];omega) (by(try simp only[go_sem,seval])<;>(try simp(disch:=omega) [A5])) (D1z _)
      |true=>
       rw[if_neg (by rw[u,y,ho];decide)]at hm;have sk:=hr.2.1;have b8:=hs.2.1;have s1:Sz r.k:=H7 (by omega);have s2:Sz s.k:=H7 (by omega);refine F5 (fun A=>if A=17 then .bool true else .undef) [c] ?_;repeat' (first|simp only[go_sem,seval,O,W,ri,J,rj,M,u,y,yi,d,o]|with_reducible refine R6 (fun H' Q hro hq=>b7 _ ho H' Q hq) ?_)
       rcases Int.lt_trichotomy (r.k+s.k) 0 with g|g|g
       ·rw[if_pos g]at hm;have sg:(r.k+s.k).sign= -1:=Int.sign_eq_neg_one_of_neg g;rw[hm]at z;simp only[]at z;rw[z]at h;refine F5 (fun A=>if A=8 then .agg (C5 (r.k+s.k))else if A=9 then .int .i64 (-1)else .undef) [c] ?_;repeat' (first|simp only[go_sem,seval,O,W,ri,J,rj,M,yi,d,o]|with_reducible refine R6 (fun H' Q hro hq=>A0U r.k s.k s1 s2 H' hq) ?_|with_reducible refine R6 (fun H' Q hro hq=>L0 (r.k+s.k) H' (by rw[sg];exact hq)) ?_)
        exact Fin.nilsl 4 _ (D10 x.le h)
       ·have g1: ¬r.k+s.k<0:=by omega
        rw[if_neg g1,if_pos g]at hm;have sg:(r.k+s.k).sign=0:=by rw[g];rfl
        refine F5 (fun A=>if A=8 then .agg (C5 (r.k+s.k))else if A=9 then .int .i64 0 else .undef) [c] ?_;repeat' (first|with_reducible apply D0Y|simp only[go_sem,seval,O,W,ri,J,rj,M,yi,d,o]|simp(disch:=omega) only[A5,B2]|with_reducible refine R6 (fun H' Q hro hq=>A0U r.k s.k s1 s2 H' hq) ?_|with_reducible refine R6 (fun H' Q hro hq=>L0 (r.k+s.k) H' (by rw[sg];exact hq)) ?_|omega)
        refine C4 (j+1,{r with eq:=true},Hp.set c (.vec 4 (Rw C6 (X.set i {r with eq:=true})))) ⟨by simp only[];omega,⟨hr.1,hr.2⟩,hm,x.set1 (D1z _)⟩ (by simp only[];omega) (by(try simp only[go_sem,seval])<;>(try simp(disch:=omega) [A5])) ?_;simp only[];rw[←List.set_set (a:=r) (b:=({r with eq:=true}:Row)),←Y9 (X.set i r) i {r with eq:=true} _ rfl];exact D1z _
       ·have g1: ¬r.k+s.k<0:=by omega
        have g2: ¬r.k+s.k=0:=by omega
        rw[if_neg g1,if_neg g2]at hm;have sg:(r.k+s.k).sign=1:=Int.sign_eq_one_of_pos g;refine F5 (fun A=>if A=8 then .agg (C5 (r.k+s.k))else if A=9 then .int .i64 1 else .undef) [c] ?_;repeat' (first|simp only[go_sem,seval,O,W,ri,J,rj,M,yi,d,o]|simp(disch:=omega) only[A5,B2]|with_reducible refine R6 (fun H' Q hro hq=>A0U r.k s.k s1 s2 H' hq) ?_|with_reducible refine R6 (fun H' Q hro hq=>L0 (r.k+s.k) H' (by rw[sg];exact hq)) ?_)
        exact C4 (j+1,r,Hp) ⟨by simp only[];omega,hr,hm,x⟩ (by simp only[];omega) (by(try simp only[go_sem,seval])<;>(try simp(disch:=omega) [A5])) (D1z _)
   ·have I:decide ((j:Int)<i)=false:=D0b (by omega);have c5:j=i:=by omega
    subst c5;rw[List.drop_eq_nil_of_le (by rw[D1G];omega)]at hm;rw[hm]at z;simp only[A5D]at z;repeat' (first|simp only[go_sem,seval,I]|simp(disch:=omega) only[A5,B2])
    refine C4 (j+1,X.set j r,Hp) ⟨by simp only[];omega,by simp only[D1V];exact T,?_,?_,?_,x⟩ (by simp only[];omega) (by(try simp only[go_sem,seval])<;>(try simp(disch:=omega) [A5])) (D1z _)
    ·show (X.set j r).drop (j+1)=m.drop (j+1);rw[List.drop_set_of_lt (by omega),←D1i,←D1i,a9]
    ·show A0C [] m=A0C ((X.set j r).take (j+1)) (m.drop (j+1));rw[z,D0r (by rw[D1V];exact b0),List.take_set_of_le (by omega),List.getElem_set_self]
    ·intro s hs;rcases List.mem_or_eq_of_mem_set hs with g|g
     ·exact a4 s g
     ·rw[g];exact hr
  ·have Y:decide ((i:Int)<m.length)=false:=D0b (by omega);rw[List.drop_eq_nil_of_le (by omega),D0n (by omega)]at z;rw[z]at h;repeat' simp only[go_sem,seval,Y]
   refine A6t (by rw[D6];exact T.symm) x.a1 (D10 (O3.one x) h)
end Go.Proofs.YtibphjonmikciaaGreatDoor
namespace Go.Lin
def CS(m:Nat)(c:List Int):Prop:=∀x∈c,x.natAbs<m
def AP(n m:Nat)(l:List Row):Prop:=∀r∈l,A4U n m r
def TA(l:List Row)(X:List Row)(i:Nat):Prop:=Y0 l=(Y0 (l.drop i)).map (X++ ·)
def TS(l X:List Row)(r:Row)(i:Nat):Prop:=Y0 l=(A03 r).bind fun x=>(Y0 (l.drop (i+1))).map ((X++x)++ ·)
end Go.Lin
namespace Go.Proofs.YtibphjonmikciaaGreatDoor
open Go Go.Av Go.Lin
attribute [local irreducible] ACalls S9
set_option maxHeartbeats 4000000 in
theorem C3O{Q}(l:List Row)(n:Nat)(hlen:l.length≤1000000)(hn:n≤1000000)(hP:AP n 4611686018427387904 l)(hS: ∀r∈l,CS 4294967296 r.c)(H:Heap)(h:Q (B0j (B0K l)) H):E3 220 [.sl 4 (Rw C6 l)] H Q:=by
 refine A9 [(17,.par),(19,.par),(23,.par)] A8 Tryz.func220 rfl ?_;simp only[go_sem,seval,Tryz.results220];have z0:D.nilsl=J1 4 0 none:=rfl;unfold B0K at h;repeat' (first|with_reducible apply D0Y|simp only[go_sem,seval]|simp(disch:=omega) only[A5,B2]|simp(disch:=first|omega|grind) only[B4]|(intro u;try simp only[A6]at u)|omega)
 refine C9 [15,16] (fun(p:Nat×List Row×Option Nat)=>[(17,.int .i64 p.1),(4,J1 4 p.2.1.length p.2.2)]) (fun(p:Nat×List Row×Option Nat)=>putB H 4 (Rw C6 p.2.1) p.2.2) (fun(p:Nat×List Row×Option Nat)=>p.1≤l.length∧p.2.1.length≤p.1∧AP n 4611686018427387904 p.2.1∧TA l p.2.1 p.1∧(p.2.2=none→p.2.1= [])∧(∀b,p.2.2=some b→H b=none)) (fun(p:Nat×List Row×Option Nat)=>l.length-p.1) ((0,[],none)) (⟨D0t _,D0s _,(fun s hs=>by cases hs),(by simp[TA]),by simp,by simp⟩) (by(try simp only[go_sem,seval])<;>(try simp(disch:=omega) [A5])) (by first|exact D1z _|exact A0 (by assumption)|exact B3 (by assumption)|simp only[Heap.Le,Heap.set,Heap.del]at* <;>grind) ?_;rintro Ec rfl ⟨i,X,o1⟩ ⟨hi,k4,b1,hT,ho,c4⟩;simp only at hi k4 b1 hT ho c4;have h3:=O3.put (H:=H) (sz:=4) (es:=Rw C6 X) (ob:=o1) (fun e=>by rw[ho e];rfl) c4;generalize putB H 4 (Rw C6 X) o1=Hp at h3⊢;by_cases c5:i<l.length
 ·have U:decide ((i:Int)<l.length)=true:=D0a (by omega);have l1:(i:Int)<l.length:=by omega
  have hr:=hP _ (D0m c5);have c8:=hS _ (D0m c5);have st:TS l X l[i] i:=B4W c5 hT;obtain⟨r,h0⟩: ∃r,r=l[i]:=⟨_,rfl⟩
  rw[←h0]at hr c8 st;have l2:r.c.length≤1000000:=by rw[hr.1];exact hn
  repeat' (first|with_reducible apply D0Y|simp only[go_sem,seval,U,B2 _ _ c5,C2 _ _ c5,←h0]|simp(disch:=first|omega|grind) only[B4]|(intro u;try simp only[A6]at u)|omega)
  rename_i O h6 M;have h7:=u;clear u;have h8:O≠M:=Ne.symm h7.1;have e6:(Hp.set O (.box (C6 r))) O=some (.box (C6 r)):=A3 _ _;have g7:(Hp.set O (.box (C6 r))) M=none:=by rw[A4 _ h7.1];exact h7.2
  have c9:Hp.Le (Hp.set O (.box (C6 r))):=A0 h6;generalize Hp.set O (.box (C6 r))=B6 at e6 g7 c9⊢;clear h7;have d0:=B3J r.c 4294967295 (fun x hx=>by have:=c8 x hx;omega);have i0: ∀(a:Int) (_:Sz a) (H:Heap) (Q:D→Heap→Prop),Q (.agg (C5 (a.natAbs:Nat))) H→E3 244 [.agg (C5 a),.agg [.bool false,.nilsl]] H Q:=fun a ha H Q hq=>by
   refine O2 (args':=[.agg (C5 a),.agg (C5 0)]) rfl (fun i d d' h1 h2=>?_) (B6J a 0 ha (by decide) H (by rw[show (0:Int).natAbs=0 from rfl,Nat.gcd_zero_right];exact hq))
   match i with
   |0=>cases h1;cases h2;exact .same _
   |1=>cases h1;cases h2;exact A8j
   |i+2=>cases h1
  repeat' (first|with_reducible apply D0Y|simp only[go_sem,seval,e6,A4 _ h8]|simp(disch:=omega) only[A5,B2]|simp(disch:=first|omega|grind) only[B4]|(intro u;try simp only[A6]at u)|omega)
  refine C9 [4,6,7,15,16,17,22,23] (fun(j:Nat)=>[(24,.int .i64 j)]) (fun(j:Nat)=>B6.set M (.box (gB j (A27 r.c j:Nat)))) (fun(j:Nat)=>j≤r.c.length) (fun(j:Nat)=>r.c.length-j) (0) (D0t _) (by(try simp only[go_sem,seval])<;>(try simp(disch:=omega) [A5])) (by first|exact D1z _|exact A0 (by assumption)|exact B3 (by assumption)|simp only[Heap.Le,Heap.set,Heap.del]at* <;>grind) ?_
  ·rintro Ec rfl j hj;by_cases A:j<r.c.length
   ·have U:decide ((j:Int)<r.c.length)=true:=D0a (by omega);have b4:(j:Int)<r.c.length:=by omega
    have c1:=c8 _ (D0m A);have s1:Sz r.c[j]:=H7 (by omega);have gs:=A7j r.c j A;have gj:=d0 j hj;cases j with
    |zero=>
     rw[A4V,Nat.gcd_zero_right]at gs;have eg:gB 0 (A27 r.c 0:Nat)= [.bool false,.nilsl]:=rfl;rw[eg];repeat' (first|with_reducible apply D0Y|simp only[go_sem,seval,U,b4,B2 _ _ A,C2 _ _ A]|simp(disch:=omega) only[A5,B2]|simp(disch:=first|omega|grind) only[B4]|(intro u;try simp only[A6]at u)|with_reducible refine i0 _ s1 _ _ ?_|omega)
     rename_i b9;have h9:=u;clear u;refine C4 (0+1) (by omega) (by omega) (by(try simp only[go_sem,seval])<;>(try simp(disch:=omega) [A5])) ?_;rw[A5S,gs];exact(by simp only[D9,D2,D3]at* <;>grind)
    |succ j=>
     have hg:Sz ((A27 r.c (j+1):Nat):Int):=H7 (by omega);have k5: ∀(H:Heap) (Q:D→Heap→Prop),Q (.agg (C5 ((A27 r.c (j+1+1):Nat):Int))) H→E3 244 [.agg (C5 r.c[j+1]),.agg (C5 ((A27 r.c (j+1):Nat):Int))] H Q:=fun H Q hq=>
      B6J _ _ s1 (by omega) H (by rw[Int.natAbs_natCast,←gs];exact hq)
     rw[A5S];repeat' (first|with_reducible apply D0Y|simp only[go_sem,seval,U,b4,B2 _ _ A,C2 _ _ A]|simp(disch:=omega) only[A5,B2]|simp(disch:=first|omega|grind) only[B4]|(intro u;try simp only[A6]at u)|with_reducible refine k5 _ _ ?_|omega)
     rename_i b9;have h9:=u;clear u;refine C4 (j+1+1) (by omega) (by omega) (by(try simp only[go_sem,seval])<;>(try simp(disch:=omega) [A5])) ?_;rw[A5S];exact(by simp only[D9,D2,D3]at* <;>grind)
   ·have U:decide ((j:Int)<r.c.length)=false:=D0b (by omega);have d3:j=r.c.length:=by omega
    subst d3;rw[A6P];have d0:=d0 _ (D0s _);rw[A6P]at d0;have hG:NilR (.agg (gB r.c.length (gcdR r.c:Nat))) (.agg (C5 (gcdR r.c:Nat))):=by have:=C3L r.c r.c.length;rwa [A6P]at this
    have e8:gcdR r.c≠0→gB r.c.length (gcdR r.c:Nat)=C5 (gcdR r.c:Nat):=fun g=>by
     cases hl:r.c.length with
     |zero=>rw[D0w hl]at g;exact absurd rfl g
     |succ k=>exact A5S _ _
    obtain⟨d1,d2,hd⟩: ∃d1 d2,gB r.c.length (gcdR r.c:Nat)= [d1,d2]:=by
     unfold gB;split
     ·exact⟨_,_,rfl⟩
     ·exact⟨_,_,rfl⟩
    rw[hd]at hG e8⊢;have L:A03 r=if gcdR r.c=0 then(if r.k<0∨(r.eq=true∧0<r.k)then none else some [])else if gcdR r.c=1 then some [r]else if r.eq=true∧r.k.fdiv (gcdR r.c:Nat)*(gcdR r.c:Nat)-r.k≠0 then none else some [⟨r.c.map (Int.fdiv · (gcdR r.c:Nat)),r.k.fdiv (gcdR r.c:Nat),r.eq⟩]:=rfl
    generalize gcdR r.c=g at d0 hG e8 L;have sgn: ∀(s:Int),(g:Int).sign=s→∀(H:Heap) (Q:D→Heap→Prop),Q (.int .i64 s) H→E3 245 [.agg [d1,d2]] H Q:=fun s hs H Q hq=>by
     refine O2 (args':=[.agg (C5 (g:Nat))]) rfl (fun i d d' h1 h2=>?_) (L0 (g:Int) H (by rw[hs];exact hq))
     match i with
     |0=>cases h1;cases h2;exact hG
     |i+1=>cases h1
    have e7:(B6.set M (.box [d1,d2])) M=some (.box [d1,d2]):=A3 _ _;have a4:(B6.set M (.box [d1,d2])) O=some (.box (C6 r)):=by rw[A4 _ h8];exact e6
    have V:Hp.Le (B6.set M (.box [d1,d2])):=c9.trans (A0 g7);generalize B6.set M (.box [d1,d2])=B7 at e7 a4 V⊢;clear e6 g7 c9 i0 hd;have b8:A03 r=none→Q (.tuple [.sl 4 [],.bool false]) H:=fun e=>by
     unfold TS at st;rw[e]at st;rw[st]at h;exact h
    by_cases g0:g=0
    ·rw[if_pos g0]at L;have d4:((g:Nat):Int).sign=0:=by rw[g0];rfl
     have sk:=hr.2.1;by_cases k1:r.k<0
     ·rw[if_pos (.inl k1)]at L;have sg:r.k.sign= -1:=Int.sign_eq_neg_one_of_neg k1;repeat' (first|simp only[go_sem,seval,U,e7,a4,sg]|with_reducible refine sgn 0 d4 _ _ ?_|with_reducible refine L0 r.k _ ?_)
      exact Fin.nilsl 4 _ (D10 (h3.le.trans V) (b8 L))
     ·cases a5:r.eq with
      |true=>
       by_cases k2:0<r.k
       ·rw[if_pos (.inr ⟨a5,k2⟩)]at L;have sg:r.k.sign=1:=Int.sign_eq_one_of_pos k2;repeat' (first|simp only[go_sem,seval,U,e7,a4,sg,a5]|with_reducible refine sgn 0 d4 _ _ ?_|with_reducible refine L0 r.k _ ?_)
        exact Fin.nilsl 4 _ (D10 (h3.le.trans V) (b8 L))
       ·have k0:r.k=0:=by omega
        rw[if_neg (by omega)]at L;have sg:r.k.sign=0:=by rw[k0];rfl
        repeat' (first|simp only[go_sem,seval,U,e7,a4,sg,a5]|simp(disch:=omega) only[A5,B2]|with_reducible refine sgn 0 d4 _ _ ?_|with_reducible refine L0 r.k _ ?_)
        refine C4 (i+1,X,o1) ⟨by simp only[];omega,by simp only[];omega,b1,?_,ho,c4⟩ (by simp only[];omega) (by(try simp only[go_sem,seval])<;>(try simp(disch:=omega) [A5])) (h3.putle.trans V);unfold TS at st;rw[L]at st;simp only[TA];rw[st];simp
      |false=>
       have i1:A03 r=some []:=by rw[L,if_neg (by rw[a5];simp;omega)]
       rcases Int.lt_trichotomy 0 r.k with k2|k2|k2
       ·have sg:r.k.sign=1:=Int.sign_eq_one_of_pos k2;repeat' (first|simp only[go_sem,seval,U,e7,a4,sg,a5]|simp(disch:=omega) only[A5,B2]|with_reducible refine sgn 0 d4 _ _ ?_|with_reducible refine L0 r.k _ ?_)
        refine C4 (i+1,X,o1) ⟨by simp only[];omega,by simp only[];omega,b1,?_,ho,c4⟩ (by simp only[];omega) (by(try simp only[go_sem,seval])<;>(try simp(disch:=omega) [A5])) (h3.putle.trans V);unfold TS at st;rw[i1]at st;simp only[TA];rw[st];simp
       ·have sg:r.k.sign=0:=by rw[←k2];rfl
        repeat' (first|simp only[go_sem,seval,U,e7,a4,sg,a5]|simp(disch:=omega) only[A5,B2]|with_reducible refine sgn 0 d4 _ _ ?_|with_reducible refine L0 r.k _ ?_)
        refine C4 (i+1,X,o1) ⟨by simp only[];omega,by simp only[];omega,b1,?_,ho,c4⟩ (by simp only[];omega) (by(try simp only[go_sem,seval])<;>(try simp(disch:=omega) [A5])) (h3.putle.trans V);unfold TS at st;rw[i1]at st;simp only[TA];rw[st];simp
       ·omega
    ·rw[if_neg g0]at L;have i2:=e8 g0;rw[i2]at e7;clear e8 hG i2 sgn;have gi:((g:Nat):Int)≠0:=by omega
     have gb:((g:Nat):Int).natAbs<4294967296:=by omega
     have sk:=hr.2.1;have s1:Sz r.k:=H7 (by omega);have s2:Sz ((g:Nat):Int):=H7 (by omega);obtain⟨G,f0⟩: ∃G:Int,G=(g:Nat):=⟨_,rfl⟩
     rw[←f0]at L e7 gi gb s2;have sg: ¬G.sign=0:=by rw[Int.sign_eq_zero_iff_zero];exact gi
     by_cases g1:g=1
     ·rw[if_pos g1]at L;have f4:(G.natAbs=1)=True:=by simp[f0,g1]
      repeat' (first|simp only[go_sem,seval,U,e7,a4,sg,f4]|(intro u;try simp only[A6]at u)|with_reducible refine L0 G _ ?_|with_reducible refine B0O G _ ?_)
      rename_i bx;have c0:=u;clear u;refine O3.ap h3 (e1':=Rw C6 (X++[r])) V c0 (by simp) (by rw[D6]) (by simp only[D0d,D0f];omega) (by simp only[D0d,D0f];omega) (by rw[←O7];rfl) fun b' H' h4=>?_;repeat' (first|simp only[go_sem,seval]|simp(disch:=omega) only[A5,B2])
      refine C4 (i+1,X++[r],some b') ⟨by simp only[];omega,by simp only[D0e,D0d,D0f];omega,fun s hs=>?_,?_,by simp,fun b e=>h4.n1 b e⟩ (by simp only[];omega) (by(try simp only[go_sem,seval,D0e,K9])<;>(try simp(disch:=omega) [A5])) h4.putle
      ·rcases D0y.1 hs with q|q
       ·exact b1 s q
       ·simp at q;rw[q];exact hr
      ·unfold TS at st;rw[L]at st;exact st
     ·rw[if_neg g1]at L;have f4:(G.natAbs=1)=False:=by simp;omega
      obtain⟨K,hK⟩: ∃K,K=r.k.fdiv G:=⟨_,rfl⟩
      rw[←hK]at L;have l0:K.natAbs≤r.k.natAbs:=by rw[hK,f0];exact A28 _ _ g0
      have s3:Sz K:=H7 (by omega);have k8: ∀(H:Heap) (Q:D→Heap→Prop),Q (.agg (C5 K)) H→E3 247 [.agg (C5 r.k),.agg (C5 G)] H Q:=fun H Q hq=>A3d r.k G s1 gi gb H (by rw[←hK];exact hq);repeat' (first|simp only[go_sem,seval,U,e7,a4,sg,f4]|(intro u;try simp only[A6]at u)|with_reducible refine L0 G _ ?_|with_reducible refine B0O G _ ?_|with_reducible refine k8 _ _ ?_)
      rename_i I;have e9:=u;clear u;have i3:M≠I:=fun g=>by rw[g,e9]at e7;cases e7
      have i4:O≠I:=fun g=>by rw[g,e9]at a4;cases a4
      have c7:(B7.set I (.box (C5 K))) M=some (.box (C5 G)):=by rw[A4 _ i3];exact e7
      have c6:(B7.set I (.box (C5 K))) O=some (.box (C6 r)):=by rw[A4 _ i4];exact a4
      have c3:(B7.set I (.box (C5 K))) I=some (.box (C5 K)):=A3 _ _;have J:Hp.Le (B7.set I (.box (C5 K))):=V.trans (A0 e9);generalize B7.set I (.box (C5 K))=B8 at c7 c6 c3 J⊢;clear e7 a4 V e9;have m6:O∈[O,M,I]:=by simp
      have m7:M∈[O,M,I]:=by simp
      have f6:I∈[O,M,I]:=by simp
      have i5:O∈[O,I]:=by simp
      have i9:I∈[O,I]:=by simp
      cases a5:r.eq with
      |true=>
       have a3:=A1R (a:=K) (b:=G) (m:=4611686018427387904) (n:=4294967296) (by omega) (by omega);have s4:Sz (K*G):=H7 (by omega);obtain⟨Z,hZ⟩: ∃Z,Z=K*G-r.k:=⟨_,rfl⟩
       have k3: ∀(H:Heap) (Q:D→Heap→Prop),Q (.agg (C5 Z)) H→E3 249 [.agg (C5 (K*G)),.agg (C5 r.k)] H Q:=fun H Q hq=>A0D (K*G) r.k s4 s1 H (by rw[←hZ];exact hq);refine F5 (fun i'=>if i'=5 then .agg (C5 (K*G))else if i'=8 then .agg (C5 Z)else if i'=9 then .int .i64 Z.sign else .undef) [O,M,I] ?_;by_cases z0:Z=0
       ·have sz:Z.sign=0:=by rw[z0];rfl
        have b2:A03 r=some [⟨r.c.map (Int.fdiv · G),K,r.eq⟩]:=by rw[L,if_neg (by rw[←hZ,z0];simp)]
        rw[sz];repeat' (first|simp only[go_sem,seval,c6,c7,c3,m6,m7,f6,a5]|with_reducible refine R6 (fun H' Q hro hq=>S6 K G s3 s2 H' hq) ?_|with_reducible refine R6 (fun H' Q hro hq=>k3 H' Q hq) ?_|with_reducible refine R6 (fun H' Q hro hq=>L0 Z H' (by rw[sz];exact hq)) ?_)
        obtain⟨C,hC⟩: ∃C,C=r.c.map (Int.fdiv · G):=⟨_,rfl⟩
        have W:C.length=r.c.length:=by rw[hC];simp
        refine F5 (fun i'=>.undef) [O,I] ?_;repeat' (first|with_reducible apply D0Y|simp only[go_sem,seval,c6,c7,c3,i5,i9]|simp(disch:=first|omega|grind) only[B4]|(intro u;try simp only[A6]at u)|omega)
        rename_i bv hv z;have a6:=u;clear u;have nb:z≠bv:=a6.1;have k6:O≠bv∧O≠z:=⟨(fun g=>by rw[g,hv]at c6;cases c6),(fun g=>by rw[g,a6.2]at c6;cases c6)⟩
        have k7:M≠bv∧M≠z:=⟨(fun g=>by rw[g,hv]at c7;cases c7),(fun g=>by rw[g,a6.2]at c7;cases c7)⟩
        rw[show List.replicate r.c.length [D.bool false,.nilsl]=j7 C r.c.length 0 from(A2T _ _).symm];obtain⟨RR,d5⟩: ∃RR:Row,RR=⟨C,K,r.eq⟩:=⟨_,rfl⟩
        refine C9 [4,6,7,12,15,16,17,76,77] (fun(j:Nat)=>[(78,.int .i64 j)]) (fun(j:Nat)=>(B8.set bv (.vec 2 (j7 C r.c.length j))).set z (.box [.vec bv 2 0 r.c.length,.bool (decide (K<0)),.sl 1 (Rw F2 (C0 K.natAbs)),.bool r.eq])) (fun(j:Nat)=>j≤r.c.length) (fun(j:Nat)=>r.c.length-j) (0) (D0t _) (by(try simp only[go_sem,seval])<;>(try simp(disch:=omega) [A5])) (by first|exact D1z _|exact A0 (by assumption)|exact B3 (by assumption)|simp only[Heap.Le,Heap.set,Heap.del]at* <;>grind) ?_;rintro Ec rfl j hj;have f7:=A3e C r.c.length j W hj;by_cases A:j<r.c.length
        ·have a9:decide ((j:Int)<r.c.length)=true:=D0a (by omega);have b4:(j:Int)<r.c.length:=by omega
         have c1:=c8 _ (D0m A);have sj:Sz r.c[j]:=H7 (by omega);have k9:j<C.length:=by omega
         have f8:C[j]=r.c[j].fdiv G:=by simp only[hC,D1O]
         have b0:=A13 C r.c.length j W A (C5 (r.c[j].fdiv G)) (by rw[f8]);have f9:=A01 C r.c.length j j W (D0s _) A;have d6:=A00 C r.c.length j j W (D0s _) A;repeat' (first|with_reducible apply D0Y|simp only[go_sem,seval,a9,b4,B2 _ _ A,C2 _ _ A]|(intro u;try simp only[A6]at u)|omega)
         rename_i T;have b3:=u;clear u;have g2:z∈[M,z,T]:=by simp
         have g3:T∈[M,z,T]:=by simp
         have p7:M∈[M,z,T]:=by simp
         have j1:=b3.1;have j2:=b3.2.1;have j3:M≠T:=fun g=>by have:=b3.2.2;rw[←g,c7]at this;cases this
         have v7:((B8.set bv (.vec 2 (j7 C r.c.length j))).set z (.box [.vec bv 2 0 r.c.length,.bool (decide (K<0)),.sl 1 (Rw F2 (C0 K.natAbs)),.bool r.eq])) M=some (.box (C5 G)):=by rw[A4 _ k7.2,A4 _ k7.1];exact c7
         obtain⟨y,hy⟩: ∃y,y=r.c[j].fdiv G:=⟨_,rfl⟩
         have g4: ∀(H:Heap) (Q:D→Heap→Prop),Q (.agg (C5 y)) H→E3 247 [.agg (C5 r.c[j]),.agg (C5 G)] H Q:=fun H Q hq=>A3d r.c[j] G sj gi gb H (by rw[←hy];exact hq);rw[←hy]at b0;refine F5 (fun i'=>if i'=5 then .agg (C5 y)else .undef) [M,z,T] ?_;repeat' (first|with_reducible apply D0Y|simp only[go_sem,seval,p7,g2,g3,A4 _ j3,A4 _ k7.2,A4 _ k7.1,c7,b4,f7,f9,d6,b0]|simp(disch:=omega) only[A5,B2]|simp(disch:=first|omega|grind) only[B4]|with_reducible refine R6 (fun H' Q hro hq=>g4 H' Q hq) ?_|omega)
         refine C4 (j+1) (by omega) (by omega) (by(try simp only[go_sem,seval])<;>(try simp(disch:=omega) [A5])) ?_;rw[←b0];intro k o hk;have g5:k≠T:=fun g=>by rw[g,A4 _ j1,A4 _ j2,b3.2.2]at hk;cases hk
         by_cases e:k=bv
         ·subst e;rw[A4 _ nb.symm,A3]at hk;rw[A3];exact hk
         ·rw[A4 _ e,A4 _ g5];by_cases a0:k=z
          ·subst a0;rw[A3]at hk⊢;exact hk
          ·rw[A4 _ a0,A4 _ e]at hk⊢;exact hk
        ·have a9:decide ((j:Int)<r.c.length)=false:=D0b (by omega);have d3:j=r.c.length:=by omega
         subst d3;rw[A3f C _ W];repeat' (first|simp only[go_sem,seval,a9,A4 _ k6.1,A4 _ k6.2,c6]|(intro u;try simp only[A6]at u))
         rename_i bx;have c0:=u;clear u;have c2:H.Le B8:=h3.le.trans J;have g6:H bv=none:=c2.none hv;have q1:(H.set bv (.vec 2 (Rw C5 C))).Le (((B8.set bv (.vec 2 (Rw C5 C))).set z (.box [.vec bv 2 0 r.c.length,.bool (decide (K<0)),.sl 1 (Rw F2 (C0 K.natAbs)),.bool r.eq])).set O (.box [.vec bv 2 0 r.c.length,.bool (decide (K<0)),.sl 1 (Rw F2 (C0 K.natAbs)),.bool r.eq])):=by
          intro k o hk;by_cases e:k=bv
          ·subst e;rw[A4 _ k6.1.symm,A4 _ nb.symm,A3];rw[A3]at hk;exact hk
          ·rw[A4 _ e]at hk;have e6:k≠O:=fun g=>by have:=h3.le _ _ hk;rw[g,h6]at this;cases this
           have a0:k≠z:=fun g=>by have:=c2 _ _ hk;rw[g,a6.2]at this;cases this
           rw[A4 _ e6,A4 _ a0,A4 _ e];exact c2 _ _ hk
         have q2:Hp.Le (((B8.set bv (.vec 2 (Rw C5 C))).set z (.box [.vec bv 2 0 r.c.length,.bool (decide (K<0)),.sl 1 (Rw F2 (C0 K.natAbs)),.bool r.eq])).set O (.box [.vec bv 2 0 r.c.length,.bool (decide (K<0)),.sl 1 (Rw F2 (C0 K.natAbs)),.bool r.eq])):=by
          intro k o hk;have e:k≠bv:=fun g=>by have:=J _ _ hk;rw[g,hv]at this;cases this
          have e6:k≠O:=fun g=>by rw[g,h6]at hk;cases hk
          have a0:k≠z:=fun g=>by have:=J _ _ hk;rw[g,a6.2]at this;cases this
          rw[A4 _ e6,A4 _ a0,A4 _ e];exact J _ _ hk
         have d7:=h3.base q1 q2 (fun b g8 g9=>by rw[A4 _ (fun g=>g8 (by rw[g];exact J.none hv))];exact g9);refine O3.ap d7 (e1':=Rw C6 X++[[.vec bv 2 0 r.c.length,.bool (decide (K<0)),.sl 1 (Rw F2 (C0 K.natAbs)),.bool r.eq]]) (D1z _) (by simp only[A6];simp only[c0,ne_eq,not_false_eq_true,and_self]) (by simp) (by rw[D6]) (by simp only[D0d,D0f];omega) (by simp only[D0d,D0f];omega) rfl fun b' H' h4=>?_;clear d7 q1 q2 c0;repeat' (first|simp only[go_sem,seval]|simp(disch:=omega) only[A5,B2])
         have d8:=h4.n1 _ rfl;have d9:bv≠b':=fun g=>by rw[←g,A3]at d8;cases d8
         have eX:Rw C6 (X++[RR])=Rw C6 X++[.sl 2 (Rw C5 C)::[.bool (decide (K<0)),.sl 1 (Rw F2 (C0 K.natAbs)),.bool r.eq]]:=by rw[←O7,d5];rfl
         have e0:=B3K hr b2;rw[←hC,←d5]at e0 b2;refine B5q (i+1,X++[RR],some b') ⟨by simp only[];omega,by simp only[D0e,D0d,D0f];omega,fun s hs=>?_,?_,by simp,fun b e=>?_⟩ (by simp only[];omega) ?_
         ·rcases D0y.1 hs with q|q
          ·exact b1 s q
          ·exact e0.1 s q
         ·unfold TS at st;rw[b2]at st;exact st
         ·have:=h4.n1 _ e;rw[A4 _ (by cases e;exact d9.symm)]at this;exact this
         ·show A0w _ (H.set b' (.vec 4 (Rw C6 (X++[RR])))) _ _;rw[eX];refine A0z (by(try simp only[go_sem,seval,D0e,K9])<;>(try simp(disch:=omega) [A5])) (by rw[D6,W]) h4.a1 (h4.le _ _ (A3 _ _)) d9 (fun k o hk ho=>?_);have e4:k≠bv:=fun g=>by rw[g,g6]at ho;cases ho
          exact⟨e4,h4.le k o (by rw[A4 _ e4];exact ho)⟩
       ·have sz: ¬Z.sign=0:=by rw[Int.sign_eq_zero_iff_zero];exact z0
        have b2:A03 r=none:=by rw[L,if_pos ⟨a5,by rw[←hZ];exact z0⟩]
        repeat' (first|simp only[go_sem,seval,c6,c7,c3,m6,m7,f6,a5,sz]|with_reducible refine R6 (fun H' Q hro hq=>S6 K G s3 s2 H' hq) ?_|with_reducible refine R6 (fun H' Q hro hq=>k3 H' Q hq) ?_|with_reducible refine R6 (fun H' Q hro hq=>L0 Z H' hq) ?_)
        exact Fin.nilsl 4 _ (D10 (h3.le.trans J) (b8 b2))
      |false=>
       have b2:A03 r=some [⟨r.c.map (Int.fdiv · G),K,r.eq⟩]:=by rw[L,if_neg (by rw[a5];simp)]
       refine F5 (fun i'=>.undef) [O,M,I] ?_;repeat' simp only[go_sem,seval,c6,c7,c3,m6,m7,f6,a5]
       obtain⟨C,hC⟩: ∃C,C=r.c.map (Int.fdiv · G):=⟨_,rfl⟩
       have W:C.length=r.c.length:=by rw[hC];simp
       refine F5 (fun i'=>.undef) [O,I] ?_;repeat' (first|with_reducible apply D0Y|simp only[go_sem,seval,c6,c7,c3,i5,i9]|simp(disch:=first|omega|grind) only[B4]|(intro u;try simp only[A6]at u)|omega)
       rename_i bv hv z;have a6:=u;clear u;have nb:z≠bv:=a6.1;have k6:O≠bv∧O≠z:=⟨(fun g=>by rw[g,hv]at c6;cases c6),(fun g=>by rw[g,a6.2]at c6;cases c6)⟩
       have k7:M≠bv∧M≠z:=⟨(fun g=>by rw[g,hv]at c7;cases c7),(fun g=>by rw[g,a6.2]at c7;cases c7)⟩
       rw[show List.replicate r.c.length [D.bool false,.nilsl]=j7 C r.c.length 0 from(A2T _ _).symm];obtain⟨RR,d5⟩: ∃RR:Row,RR=⟨C,K,r.eq⟩:=⟨_,rfl⟩
       refine C9 [4,6,7,12,15,16,17,76,77] (fun(j:Nat)=>[(78,.int .i64 j)]) (fun(j:Nat)=>(B8.set bv (.vec 2 (j7 C r.c.length j))).set z (.box [.vec bv 2 0 r.c.length,.bool (decide (K<0)),.sl 1 (Rw F2 (C0 K.natAbs)),.bool r.eq])) (fun(j:Nat)=>j≤r.c.length) (fun(j:Nat)=>r.c.length-j) (0) (D0t _) (by(try simp only[go_sem,seval])<;>(try simp(disch:=omega) [A5])) (by first|exact D1z _|exact A0 (by assumption)|exact B3 (by assumption)|simp only[Heap.Le,Heap.set,Heap.del]at* <;>grind) ?_;rintro Ec rfl j hj;have f7:=A3e C r.c.length j W hj;by_cases A:j<r.c.length
       ·have a9:decide ((j:Int)<r.c.length)=true:=D0a (by omega);have b4:(j:Int)<r.c.length:=by omega
        have c1:=c8 _ (D0m A);have sj:Sz r.c[j]:=H7 (by omega);have k9:j<C.length:=by omega
        have f8:C[j]=r.c[j].fdiv G:=by simp only[hC,D1O]
        have b0:=A13 C r.c.length j W A (C5 (r.c[j].fdiv G)) (by rw[f8]);have f9:=A01 C r.c.length j j W (D0s _) A;have d6:=A00 C r.c.length j j W (D0s _) A;repeat' (first|with_reducible apply D0Y|simp only[go_sem,seval,a9,b4,B2 _ _ A,C2 _ _ A]|(intro u;try simp only[A6]at u)|omega)
        rename_i T;have b3:=u;clear u;have g2:z∈[M,z,T]:=by simp
        have g3:T∈[M,z,T]:=by simp
        have p7:M∈[M,z,T]:=by simp
        have j1:=b3.1;have j2:=b3.2.1;have j3:M≠T:=fun g=>by have:=b3.2.2;rw[←g,c7]at this;cases this
        have v7:((B8.set bv (.vec 2 (j7 C r.c.length j))).set z (.box [.vec bv 2 0 r.c.length,.bool (decide (K<0)),.sl 1 (Rw F2 (C0 K.natAbs)),.bool r.eq])) M=some (.box (C5 G)):=by rw[A4 _ k7.2,A4 _ k7.1];exact c7
        obtain⟨y,hy⟩: ∃y,y=r.c[j].fdiv G:=⟨_,rfl⟩
        have g4: ∀(H:Heap) (Q:D→Heap→Prop),Q (.agg (C5 y)) H→E3 247 [.agg (C5 r.c[j]),.agg (C5 G)] H Q:=fun H Q hq=>A3d r.c[j] G sj gi gb H (by rw[←hy];exact hq);rw[←hy]at b0;refine F5 (fun i'=>if i'=5 then .agg (C5 y)else .undef) [M,z,T] ?_;repeat' (first|with_reducible apply D0Y|simp only[go_sem,seval,p7,g2,g3,A4 _ j3,A4 _ k7.2,A4 _ k7.1,c7,b4,f7,f9,d6,b0]|simp(disch:=omega) only[A5,B2]|simp(disch:=first|omega|grind) only[B4]|with_reducible refine R6 (fun H' Q hro hq=>g4 H' Q hq) ?_|omega)
        refine C4 (j+1) (by omega) (by omega) (by(try simp only[go_sem,seval])<;>(try simp(disch:=omega) [A5])) ?_;rw[←b0];intro k o hk;have g5:k≠T:=fun g=>by rw[g,A4 _ j1,A4 _ j2,b3.2.2]at hk;cases hk
        by_cases e:k=bv
        ·subst e;rw[A4 _ nb.symm,A3]at hk;rw[A3];exact hk
        ·rw[A4 _ e,A4 _ g5];by_cases a0:k=z
         ·subst a0;rw[A3]at hk⊢;exact hk
         ·rw[A4 _ a0,A4 _ e]at hk⊢;exact hk
       ·have a9:decide ((j:Int)<r.c.length)=false:=D0b (by omega);have d3:j=r.c.length:=by omega
        subst d3;rw[A3f C _ W];repeat' (first|simp only[go_sem,seval,a9,A4 _ k6.1,A4 _ k6.2,c6]|(intro u;try simp only[A6]at u))
        rename_i bx;have c0:=u;clear u;have c2:H.Le B8:=h3.le.trans J;have g6:H bv=none:=c2.none hv;have q1:(H.set bv (.vec 2 (Rw C5 C))).Le (((B8.set bv (.vec 2 (Rw C5 C))).set z (.box [.vec bv 2 0 r.c.length,.bool (decide (K<0)),.sl 1 (Rw F2 (C0 K.natAbs)),.bool r.eq])).set O (.box [.vec bv 2 0 r.c.length,.bool (decide (K<0)),.sl 1 (Rw F2 (C0 K.natAbs)),.bool r.eq])):=by
         intro k o hk;by_cases e:k=bv
         ·subst e;rw[A4 _ k6.1.symm,A4 _ nb.symm,A3];rw[A3]at hk;exact hk
         ·rw[A4 _ e]at hk;have e6:k≠O:=fun g=>by have:=h3.le _ _ hk;rw[g,h6]at this;cases this
          have a0:k≠z:=fun g=>by have:=c2 _ _ hk;rw[g,a6.2]at this;cases this
          rw[A4 _ e6,A4 _ a0,A4 _ e];exact c2 _ _ hk
        have q2:Hp.Le (((B8.set bv (.vec 2 (Rw C5 C))).set z (.box [.vec bv 2 0 r.c.length,.bool (decide (K<0)),.sl 1 (Rw F2 (C0 K.natAbs)),.bool r.eq])).set O (.box [.vec bv 2 0 r.c.length,.bool (decide (K<0)),.sl 1 (Rw F2 (C0 K.natAbs)),.bool r.eq])):=by
         intro k o hk;have e:k≠bv:=fun g=>by have:=J _ _ hk;rw[g,hv]at this;cases this
         have e6:k≠O:=fun g=>by rw[g,h6]at hk;cases hk
         have a0:k≠z:=fun g=>by have:=J _ _ hk;rw[g,a6.2]at this;cases this
         rw[A4 _ e6,A4 _ a0,A4 _ e];exact J _ _ hk
        have d7:=h3.base q1 q2 (fun b g8 g9=>by rw[A4 _ (fun g=>g8 (by rw[g];exact J.none hv))];exact g9);refine O3.ap d7 (e1':=Rw C6 X++[[.vec bv 2 0 r.c.length,.bool (decide (K<0)),.sl 1 (Rw F2 (C0 K.natAbs)),.bool r.eq]]) (D1z _) (by simp only[A6];simp only[c0,ne_eq,not_false_eq_true,and_self]) (by simp) (by rw[D6]) (by simp only[D0d,D0f];omega) (by simp only[D0d,D0f];omega) rfl fun b' H' h4=>?_;clear d7 q1 q2 c0;repeat' (first|simp only[go_sem,seval]|simp(disch:=omega) only[A5,B2])
        have d8:=h4.n1 _ rfl;have d9:bv≠b':=fun g=>by rw[←g,A3]at d8;cases d8
        have eX:Rw C6 (X++[RR])=Rw C6 X++[.sl 2 (Rw C5 C)::[.bool (decide (K<0)),.sl 1 (Rw F2 (C0 K.natAbs)),.bool r.eq]]:=by rw[←O7,d5];rfl
        have e0:=B3K hr b2;rw[←hC,←d5]at e0 b2;refine B5q (i+1,X++[RR],some b') ⟨by simp only[];omega,by simp only[D0e,D0d,D0f];omega,fun s hs=>?_,?_,by simp,fun b e=>?_⟩ (by simp only[];omega) ?_
        ·rcases D0y.1 hs with q|q
         ·exact b1 s q
         ·exact e0.1 s q
        ·unfold TS at st;rw[b2]at st;exact st
        ·have:=h4.n1 _ e;rw[A4 _ (by cases e;exact d9.symm)]at this;exact this
        ·show A0w _ (H.set b' (.vec 4 (Rw C6 (X++[RR])))) _ _;rw[eX];refine A0z (by(try simp only[go_sem,seval,D0e,K9])<;>(try simp(disch:=omega) [A5])) (by rw[D6,W]) h4.a1 (h4.le _ _ (A3 _ _)) d9 (fun k o hk ho=>?_);have e4:k≠bv:=fun g=>by rw[g,g6]at ho;cases ho
         exact⟨e4,h4.le k o (by rw[A4 _ e4];exact ho)⟩
 ·have U:decide ((i:Int)<l.length)=false:=D0b (by omega);unfold TA at hT;rw[List.drop_eq_nil_of_le (by omega)]at hT;have hT:Y0 l=some X:=by rw[hT];simp[Y0]
  rw[hT]at h;repeat' simp only[go_sem,seval,U]
  refine ACalls.out (by rw[D6]) h3.a1 ?_;refine B9T X n (by omega) hn (fun r hr=>⟨(b1 r hr).1,by have:=(b1 r hr).2.1;omega,fun x hx=>by have:=(b1 r hr).2.2 x hx;omega⟩) _ ?_;generalize hR:A0C [] (pairs1 X)=R;rw[show ((some X).bind fun l=>A0C [] (pairs1 l))=R from hR]at h;cases R with
  |none=>
   simp only[go_sem,seval,B0j];exact D10 (O3.one h3) h
  |some Y=>
   simp only[go_sem,seval,B0j];exact D10 (O3.one h3) h
end Go.Proofs.YtibphjonmikciaaGreatDoor
namespace Go.Av
theorem A5L{P:Program}{f v sz n:Nat}{es:List (List D)}{a:D}{ds m:List D}{H:Heap}{Q:D→Heap→Prop}(hb:H v=some (.vec sz es))(hn:n=es.length)(h:ACalls P f (a:: .agg (.sl sz es::ds)::m) (H.del v) Q):ACalls P f (a:: .agg (.vec v sz 0 n::ds)::m) H Q:=by
 subst hn;refine ACalls.shift (args':=a:: .agg (.sl sz es::ds)::m) (fun w vs h1 o hs=>?_) h;have e:=E9 H v;refine⟨by simpa using h1,fun i d p=>?_,hs.less e,fun k hn=>e.held hn⟩
 match i with
 |0=>cases p;exact(o 0 _ rfl).less e
 |1=>
  cases p;have j:=o 1 _ rfl;revert j;generalize vs.getD 1 undef=v1;intro j;cases j with
  |agg _ us q ho hr=>
   refine .agg _ us (by simpa using q) (fun i d' g=>?_) (fun i d' g=>?_)
   ·cases i with
    |zero=>cases g;rfl
    |succ i=>exact ho (i+1) d' g
   ·cases i with
    |zero=>
     cases g;have r:Fz v sz es (.vec v sz 0 es.length) (.sl sz es):=.all;exact r.R hs hb (hr 0 _ rfl)
    |succ i=>exact(hr (i+1) d' g).less e
 |i+2=>exact(o (i+2) d (by simpa using p)).less e
end Go.Av
namespace Go.Lin
open Go Go.Av
theorem B0k(a b:Int)(hb:0<b):(A0y a b).natAbs≤b.natAbs:=by
 unfold A0y;have e:(0:Int)<b*2:=by omega
 rw[Int.fdiv_eq_ediv_of_nonneg _ (by omega)];have h1:=Int.ediv_mul_le (a*2+b) (show b*2≠0 by omega);have d:=Int.lt_ediv_add_one_mul_self (a*2+b) e;generalize (a*2+b) / (b*2)=q at h1 d;have e1:q*(b*2)=2*(b*q):=by rw[Int.mul_comm q,Int.mul_assoc,Int.mul_comm 2 q,←Int.mul_assoc,Int.mul_comm _ 2]
 have e2:(q+1)*(b*2)=2*(b*q)+b*2:=by rw[Int.add_mul,e1];omega
 rw[e1]at h1;rw[e2]at d;generalize b*q=z at h1 d;omega
end Go.Lin
namespace Go.Proofs.YtibphjonmikciaaGreatDoor
open Go Go.Av Go.Lin
attribute [local irreducible] ACalls S9
set_option maxHeartbeats 4000000 in
theorem B14{Q}(l:List Row)(at_ n k:Nat)(hlen:l.length≤10000)(i2:0<n)(hn:n≤1000)(b3:at_<l.length)(hw: ∀r∈l,r.c.length=n)(hr: ∀r∈l,A5E r 4611686018427387904)(c3: ∀r∈l,∀x∈r.c,x.natAbs<1073741824)
  (hk:A4N (l.getD at_ default)=some k) (H:Heap) (h:Q (.sl 4 (Rw C6 (u0 l at_))) H):E3 223 [.sl 4 (Rw C6 l),.int .i64 (at_:Int)] H Q:=by
 refine A9 [(14,.par),(18,.par),(20,.par)] A8 Tryz.func223 rfl ?_;simp only[go_sem,seval,Tryz.results223];have d4:(at_:Int)<l.length:=by omega
 have ge:l.getD at_ default=l[at_]:=by simp[b3]
 have U:=D0m b3;obtain⟨e,he⟩: ∃e,e=l[at_]:=⟨_,rfl⟩
 have J:u0 l at_=if(W0 e.c k).natAbs=1 then(l.take at_++l.drop (at_+1)).map (S5 e k)else((l.take at_++l.drop (at_+1)++[e]).map A2k).map (S5 ⟨e.c.map (A0y · ((W0 e.c k).natAbs+1))++[-(((W0 e.c k).natAbs:Int)+1)],A0y e.k ((W0 e.c k).natAbs+1),true⟩ k):=by
  unfold u0;simp only[];rw[ge,←he];rw[ge,←he]at hk;rw[hk];rfl
 rw[ge,←he]at hk;rw[←he]at U;have f6:=hw e U;have i3:=hr e U;have c4:=c3 e U;have Y:k<e.c.length:=by
  rw[A6M]at hk;exact A2U _ _ _ hk
 have d5:(k:Int)<e.c.length:=by omega
 rw[I0 _ _ Y]at J;have f7:L4 (A4N e)=k:=by rw[hk];rfl
 have d6:(l.take at_++l.drop (at_+1)).length≤10000:=by rw[D0e,D1G,D06];omega
 have a4: ∀r∈l.take at_++l.drop (at_+1),r∈l:=fun r hr=>(D0y.1 hr).elim List.mem_of_mem_take List.mem_of_mem_drop
 repeat' (first|with_reducible apply D0Y|simp only[go_sem,seval,d4,B2 _ _ b3,C2 _ _ b3,←he]|simp(disch:=omega) only[A5,B2,I0]|(intro u;try simp only[A6]at u)|omega)
 rename_i b5 h5 bx;have M:=u;clear u;have c5:(H.set b5 (.box (C6 e))) b5=some (.box (C6 e)):=A3 _ _;have W:H.Le (H.set b5 (.box (C6 e))):=A0 h5;have a5:(H.set b5 (.box (C6 e))) bx=none:=by simp only[A6];exact M
 change ACalls _ _ _ ((H.set b5 (.box (C6 e))).set bx _) _;generalize H.set b5 (.box (C6 e))=B5 at c5 W a5⊢;clear h5 M;rw[D0n (show (Rw C6 l).length≤l.length by rw[D6];exact D0s _),A2N,A5Q];refine U4 (A3 _ _) rfl ?_;rw[E7 a5];refine A7c _ _ (by rw[D0e]at d6;omega) _ ?_;obtain⟨R,hR⟩: ∃R,R=l.take at_++l.drop (at_+1):=⟨_,rfl⟩
 rw[←hR]at J d6 a4⊢;have a0: ∀r∈l,A5E r 18446744073709551616:=fun r hx=>⟨by have:=(hr r hx).1;omega,fun x O=>by have:=(hr r hx).2 x O;omega⟩
 have la: ∀(H:Heap) (Q:D→Heap→Prop),Q (.int .i64 (k:Int)) H→E3 252 [.agg (C6 e)] H Q:=fun H Q hq=>B9J e (by omega) (a0 e U) H (by rw[f7];exact hq);obtain⟨c,hc⟩: ∃c,c=e.c[k]:=⟨_,rfl⟩
 rw[←hc]at J;have i4:c.natAbs<1073741824:=by rw[hc];exact c4 _ (D0m Y)
 by_cases h1:c.natAbs=1
 ·rw[if_pos h1]at J;rw[J]at h;have o1: ∀(H:Heap) (Q:D→Heap→Prop),Q (.bool true) H→E3 246 [.agg (C5 c)] H Q:=fun H Q hq=>B0O c H (by rw[D0a h1];exact hq);repeat' (first|with_reducible apply D0Y|simp only[go_sem,seval,c5,d5,B2 _ _ Y,C2 _ _ Y,←hc]|with_reducible refine la _ _ ?_|with_reducible refine o1 _ _ ?_|omega)
  refine A7Y R e k n (by omega) (by omega) (fun r hx=>hw r (a4 r hx)) f6 (by omega) (fun r hx=>a0 r (a4 r hx)) (a0 e U) (fun r hx x O=>by have:=c3 r (a4 r hx) x O;omega) (fun x O=>by have:=c4 x O;omega) _ ?_;repeat' simp only[go_sem,seval]
  exact D10 W h
 ·rw[if_neg h1]at J;have o1: ∀(H:Heap) (Q:D→Heap→Prop),Q (.bool false) H→E3 246 [.agg (C5 c)] H Q:=fun H Q hq=>B0O c H (by rw[D0b h1];exact hq);obtain⟨t,ht⟩: ∃t:Int,t=1:=⟨1,rfl⟩
  obtain⟨m,hm⟩: ∃m:Int,m=(c.natAbs:Nat)+1:=⟨_,rfl⟩
  have f9:((c.natAbs:Nat):Int)+t=m:=by rw[ht,hm]
  rw[←hm]at J;have s1:Sz ((c.natAbs:Nat):Int):=H7 (by omega);have s2:Sz t:=H7 (by omega);have w1: ∀(H:Heap) (Q:D→Heap→Prop),Q (.agg (C5 t)) H→E3 228 [.int .i64 1] H Q:=fun H Q hq=>q9 1 (by omega) (by omega) H (by rw[←ht];exact hq);have p1: ∀(H:Heap) (Q:D→Heap→Prop),Q (.agg (C5 m)) H→E3 255 [.agg (C5 ((c.natAbs:Nat):Int)),.agg (C5 t)] H Q:=fun H Q hq=>A0U _ t s1 s2 H (by rw[f9];exact hq);repeat' (first|with_reducible apply D0Y|simp only[go_sem,seval,c5,d5,B2 _ _ Y,C2 _ _ Y,←hc]|simp(disch:=first|omega|grind) only[B4,D4]|(intro u;try simp only[A6]at u)|with_reducible refine la _ _ ?_|with_reducible refine o1 _ _ ?_|with_reducible refine B6I c _ ?_|with_reducible refine w1 _ _ ?_|with_reducible refine p1 _ _ ?_|omega)
  rename_i G h8 b2 h2 bx;have M:=u;clear u;have e5:=(A0 (o:=.box (C5 m)) h8) _ _ c5;have e8:(B5.set G (.box (C5 m))) G=some (.box (C5 m)):=A3 _ _;have a6:H.Le (B5.set G (.box (C5 m))):=W.trans (A0 h8);have g2:(B5.set G (.box (C5 m))) b2=none:=by simp only[A6];exact h2
  have gx:(B5.set G (.box (C5 m))) bx=none∧bx≠b2:=by simp only[A6];exact⟨⟨M.2.1,M.2.2⟩,M.1⟩
  change ACalls _ _ _ (((B5.set G (.box (C5 m))).set b2 (.vec 4 [C6 e])).set bx (.vec 1 [[.sl 4 (Rw C6 R)],[.vec b2 4 0 1]])) _;generalize B5.set G (.box (C5 m))=B8 at e5 e8 a6 g2 gx⊢;clear h8 h2 M c5 W a5;refine A6r (b:=b2) (sz:=4) (es:=[C6 e]) (H':=B8.set bx (.vec 1 [[.sl 4 (Rw C6 R)],[.sl 4 [C6 e]]])) (by rw[A4 _ gx.2.symm,A3]) (fun q o' hq=>?_) ?_
  ·by_cases g:q=bx
   ·subst g;rw[A3]at hq;cases hq;refine⟨gx.2,_,A3 _ _,.vec _ _ _ rfl fun i y y' O d7=>?_⟩
    match i with
    |0=>
     cases O;cases d7;exact⟨rfl,fun j d d' X h4=>by rw[X]at h4;cases h4;exact .same _⟩
    |1=>
     cases O;cases d7;refine⟨rfl,fun j d d' X h4=>?_⟩;cases j with
     |zero=>cases X;cases h4;exact .all
     |succ j=>cases X
    |i+2=>cases O
   ·rw[A4 _ g]at hq;have g3:q≠b2:=fun g4=>by rw[g4,g2]at hq;cases hq
    exact⟨g3,o',by rw[A4 _ g,A4 _ g3];exact hq,.same _⟩
  refine U4 (A3 _ _) rfl ?_;rw[E7 gx.1,show ([C6 e]:List (List D))=Rw C6 [e]from rfl];refine A7c R [e] (by simp only[D0d,D0f];omega) _ ?_;obtain⟨L,hL⟩: ∃L,L=R++[e]:=⟨_,rfl⟩
  rw[←hL]at J⊢;have i5:L.length≤10001:=by rw[hL,D0e,D0d,D0f];omega
  have d8: ∀r∈L,r∈l:=fun r hr=>by
   rw[hL]at hr;rcases D0y.1 hr with g|g
   ·exact a4 r g
   ·simp at g;rw[g];exact U
  clear hL gx g2;repeat' simp only[go_sem,seval]
  refine C9 [5,7,8,9,53,54] (fun(p:Nat×Option Nat×Heap)=>[(55,.int .i64 p.1),(10,J1 4 p.1 p.2.1)]) (fun(p:Nat×Option Nat×Heap)=>p.2.2) (fun(p:Nat×Option Nat×Heap)=>p.1≤L.length∧O3 B8 p.2.2 4 (Rw C6 ((L.take p.1).map A2k)) [] [] p.2.1 none none) (fun(p:Nat×Option Nat×Heap)=>L.length-p.1) ((0,none,B8)) (⟨D0t _,O3.nil B8 4⟩) (by(try simp only[go_sem,seval])<;>(try simp(disch:=omega) [A5])) (by first|exact D1z _|exact A0 (by assumption)|exact B3 (by assumption)|simp only[Heap.Le,Heap.set,Heap.del]at* <;>grind) ?_;rintro Ec rfl ⟨i,o1,Hp⟩ ⟨hi,X⟩;simp only at hi X;by_cases b4:i<L.length
  ·have c6:decide ((i:Int)<L.length)=true:=D0a (by omega);have i9:(i:Int)<L.length:=by omega
   have g0:=d8 _ (D0m b4);have fs:=A6N A2k L i b4;have fl:=A8k A2k L i hi;have d9:L[i].c.length=n:=hw _ g0;have g5:L[i].c≠[]:=fun g=>by rw[g]at d9;simp at d9;omega
   repeat' (first|with_reducible apply D0Y|simp only[go_sem,seval,c6,B2 _ _ b4,C2 _ _ b4]|(intro u;try simp only[A6]at u)|with_reducible refine C3J _ g5 (by omega) _ ?_|omega)
   rename_i g6 g7 bx;have M:=u;clear u;have e0:Hp.Le (Hp.set g6 (.box (C6 L[i]))):=A0 g7;refine O3.ap X (e1':=Rw C6 ((L.take (i+1)).map A2k)) e0 (by simp only[A6];exact M) (by simp) (by rw[D6,fl]) (by simp only[D0d,D0f];omega) (by simp only[D0d,D0f];omega) (by rw[fs,←O7];rfl) fun b' H' h4=>?_;repeat' (first|simp only[go_sem,seval]|simp(disch:=omega) only[A5,B2,I0])
   refine C4 (i+1,some b',H') ⟨by simp only[];omega,h4⟩ (by simp only[];omega) (by(try simp only[go_sem,seval,K9])<;>(try simp(disch:=omega) [A5])) (D1z _)
  ·have c6:decide ((i:Int)<L.length)=false:=D0b (by omega);have e1:L.take i=L:=D0n (by omega);have e2:i=L.length:=by omega
   rw[e1]at X;have f5:=X.le _ _ e5;have f8:=X.le _ _ e8;repeat' simp only[go_sem,seval,c6]
   obtain⟨C,hC⟩: ∃C,C=e.c.map (A0y · m)++[-m]:=⟨_,rfl⟩
   obtain⟨K,hK⟩: ∃K,K=A0y e.k m:=⟨_,rfl⟩
   rw[←hC,←hK]at J;have T:C.length=e.c.length+1:=by rw[hC,D0e,D1H];rfl
   have b6:0<m:=by omega
   have e4:m<2147483648:=by omega
   have g8:e.k.natAbs≤18446744073709551616:=(a0 e U).1;have k0:K.natAbs≤m.natAbs:=by rw[hK];exact B0k _ _ b6
   have e6: ∀x∈C,x.natAbs≤4294967296:=fun x hx=>by
    rw[hC]at hx;rcases D0y.1 hx with g|g
    ·simp only[D1W]at g;obtain⟨z,_,rfl⟩:=g;have:=B0k z m b6;omega
    ·simp at g;omega
   have nr: ∀(H:Heap) (Q:D→Heap→Prop),Q (.agg (C5 K)) H→E3 258 [.agg (C5 e.k),.agg (C5 m)] H Q:=fun H Q hq=>B6K e.k m g8 b6 e4 H (by rw[←hK];exact hq);have m5:b5∈[b5,G]:=by simp
   have m8:G∈[b5,G]:=by simp
   refine F5 (fun i'=>if i'=8 then .agg (C5 K)else .undef) [b5,G] ?_;repeat' (first|with_reducible apply D0Y|simp only[go_sem,seval,f5,f8,m5,m8]|simp(disch:=omega) only[A5,B2,I0]|simp(disch:=first|omega|grind) only[B4,D4]|(intro u;try simp only[A6]at u)|with_reducible refine R6 (fun H' Q hro hq=>nr H' Q hq) ?_|omega)
   rename_i bv hv A;have b7:=u;clear u;have nb:A≠bv:=b7.1;have k5:b5≠bv∧b5≠A:=⟨(fun g=>by rw[g,hv]at f5;cases f5),(fun g=>by rw[g,b7.2]at f5;cases f5)⟩
   have k8:G≠bv∧G≠A:=⟨(fun g=>by rw[g,hv]at f8;cases f8),(fun g=>by rw[g,b7.2]at f8;cases f8)⟩
   rw[show (([D.bool false,.nilsl]::List.replicate e.c.length [D.bool false,.nilsl]):List (List D))=j7 C (e.c.length+1) 0 from(A2T C (e.c.length+1)).symm];refine C9 [5,7,8,10,13,77,78] (fun(j:Nat)=>[(79,.int .i64 j)]) (fun(j:Nat)=>(Hp.set bv (.vec 2 (j7 C (e.c.length+1) j))).set A (.box [.vec bv 2 0 (e.c.length+1),.bool (decide (K<0)),.sl 1 (Rw F2 (C0 K.natAbs)),.bool true])) (fun(j:Nat)=>j≤e.c.length) (fun(j:Nat)=>e.c.length-j) (0) (D0t _) (by(try simp only[go_sem,seval])<;>(try simp(disch:=omega) [A5])) (by first|exact D1z _|exact A0 (by assumption)|exact B3 (by assumption)|simp only[Heap.Le,Heap.set,Heap.del]at* <;>grind) ?_;rintro Ec rfl j hj;have e7:=A3e C (e.c.length+1) j T (by omega);by_cases b9:j<e.c.length
   ·have a9:decide ((j:Int)<e.c.length)=true:=D0a (by omega);have e9:(j:Int)<e.c.length:=by omega
    have b0:(j:Int)<((e.c.length:Nat):Int)+1:=by omega
    have g9:j<C.length:=by omega
    have c7:C[j]=A0y e.c[j] m:=by simp only[hC];rw[List.getElem_append_left (by rw[D1H];exact b9),D1O]
    have c1:=c4 _ (D0m b9);have I:=A13 C (e.c.length+1) j T (by omega) (C5 (A0y e.c[j] m)) (by rw[c7]);have c8:=A01 C (e.c.length+1) j j T (D0s _) (by omega);have b1:=A00 C (e.c.length+1) j j T (D0s _) (by omega);repeat' (first|with_reducible apply D0Y|simp only[go_sem,seval,a9,e9,B2 _ _ b9,C2 _ _ b9]|(intro u;try simp only[A6]at u)|omega)
    rename_i V;have c0:=u;clear u;have c9:A∈[G,A,V]:=by simp
    have h0:V∈[G,A,V]:=by simp
    have p8:G∈[G,A,V]:=by simp
    have j1:=c0.1;have j2:=c0.2.1;have j3:G≠V:=fun g=>by have:=c0.2.2;rw[←g,f8]at this;cases this
    obtain⟨y,O⟩: ∃y,y=A0y e.c[j] m:=⟨_,rfl⟩
    have h6: ∀(H:Heap) (Q:D→Heap→Prop),Q (.agg (C5 y)) H→E3 258 [.agg (C5 e.c[j]),.agg (C5 m)] H Q:=fun H Q hq=>B6K e.c[j] m (by omega) b6 e4 H (by rw[←O];exact hq);rw[←O]at I;refine F5 (fun i'=>if i'=5 then .agg (C5 y)else .undef) [G,A,V] ?_;repeat' (first|with_reducible apply D0Y|simp only[go_sem,seval,p8,c9,h0,A4 _ j3,A4 _ k8.2,A4 _ k8.1,f8,e9,b0,e7,c8,b1,I]|simp(disch:=omega) only[A5,B2,I0]|simp(disch:=first|omega|grind) only[B4,D4]|with_reducible refine R6 (fun H' Q hro hq=>h6 H' Q hq) ?_|omega)
    refine C4 (j+1) (by omega) (by omega) (by(try simp only[go_sem,seval])<;>(try simp(disch:=omega) [A5])) ?_;rw[←I];intro q o hq;have h7:q≠V:=fun g=>by rw[g,A4 _ j1,A4 _ j2,c0.2.2]at hq;cases hq
    by_cases g:q=bv
    ·subst g;rw[A4 _ nb.symm,A3]at hq;rw[A3];exact hq
    ·rw[A4 _ g,A4 _ h7];by_cases f0:q=A
     ·subst f0;rw[A3]at hq⊢;exact hq
     ·rw[A4 _ f0,A4 _ g]at hq⊢;exact hq
   ·have a9:decide ((j:Int)<e.c.length)=false:=D0b (by omega);have h9:j=e.c.length:=by omega
    subst h9;have g9:e.c.length<C.length:=by omega
    have c7:C[e.c.length]= -m:=by simp only[hC];rw[List.getElem_append_right (by rw[D1H];exact D0s _)];simp
    have I:=A13 C (e.c.length+1) e.c.length T (by omega) (C5 (-m)) (by rw[c7]);have c8:=A01 C (e.c.length+1) e.c.length e.c.length T (D0s _) (by omega);have b1:=A00 C (e.c.length+1) e.c.length e.c.length T (D0s _) (by omega);have b0:(e.c.length:Int)<((e.c.length:Nat):Int)+1:=by omega
    obtain⟨y,O⟩: ∃y,y= -m:=⟨_,rfl⟩
    rw[←O,A3f C _ T]at I;have ng: ∀(H:Heap) (Q:D→Heap→Prop),Q (.agg (C5 y)) H→E3 259 [.agg (C5 m)] H Q:=fun H Q hq=>A4Q m H (by rw[←O];exact hq);have c9:A∈[b5,G,A]:=by simp
    have p5:b5∈[b5,G,A]:=by simp
    have p8:G∈[b5,G,A]:=by simp
    repeat' simp only[go_sem,seval,a9]
    refine F5 (fun i'=>if i'=6 then .agg (C5 y)else .undef) [b5,G,A] ?_;repeat' (first|with_reducible apply D0Y|simp only[go_sem,seval,p8,c9,p5,A4 _ k8.2,A4 _ k8.1,A4 _ k5.2,A4 _ k5.1,f8,f5,b0,e7,c8,b1,I]|simp(disch:=first|omega|grind) only[B4,D4]|with_reducible refine R6 (fun H' Q hro hq=>ng H' Q hq) ?_|omega)
    have d0:(j7 C (e.c.length+1) e.c.length).set e.c.length ((zB.set 0 (D.bool (decide (y<0)))).set 1 (D.sl 1 (Rw F2 (C0 y.natAbs))))=Rw C5 C:=I;rw[d0];obtain⟨Hf,d2⟩: ∃Hf,Hf=((Hp.set bv (.vec 2 (j7 C (e.c.length+1) e.c.length))).set A (.box [.vec bv 2 0 (e.c.length+1),.bool (decide (K<0)),.sl 1 (Rw F2 (C0 K.natAbs)),.bool true])).set bv (.vec 2 (Rw C5 C)):=⟨_,rfl⟩
    have i0:Hf bv=some (.vec 2 (Rw C5 C)):=by rw[d2];exact A3 _ _
    have f4:Hp.Le Hf:=fun q o hq=>by
     have g1:q≠bv:=fun g=>by rw[g,hv]at hq;cases hq
     have g2:q≠A:=fun g=>by rw[g,b7.2]at hq;cases hq
     rw[d2,A4 _ g1,A4 _ g2,A4 _ g1];exact hq
    rw[←d2];have i1:o1≠some bv:=X.a1.ne hv;have c2: ∀(q:Nat) (o:Go.Av.Obj),Hf q=some o→o1≠some q→K1 Hf o1 q=some o:=fun q o hq hn=>by
     cases o1 with
     |none=>exact hq
     |some c=>show (Hf.del c) q=_;rw[D4 (by rintro rfl;exact hn rfl)];exact hq
    refine ACalls.out (by rw[D6,D1H];exact e2) (X.a1.up f4) ?_;refine A5L (c2 _ _ i0 i1) (by rw[D6,T]) ?_;rw[J]at h;have d3: ∀r∈L.map A2k,∃s∈l,r=A2k s:=fun r hr=>by
     obtain⟨s,hs,rfl⟩:=D1W.1 hr;exact⟨s,d8 s hs,rfl⟩
    refine A7Y (L.map A2k) ⟨C,K,true⟩ k (n+1) (by rw[D1H];omega) (by omega) (fun r hx=>?_) (by show C.length=n+1;omega) (by omega) (fun r hx=>?_) ⟨by show K.natAbs≤_;omega,fun x hx=>by have:=e6 x hx;omega⟩ (fun r hx x O=>?_) e6 _ ?_
    ·obtain⟨s,hs,rfl⟩:=d3 r hx;show (s.c++[0]).length=n+1;rw[D0e,hw s hs];rfl
    ·obtain⟨s,hs,rfl⟩:=d3 r hx;refine⟨(a0 s hs).1,fun x O=>?_⟩;rcases D0y.1 O with g|g
     ·exact(a0 s hs).2 x g
     ·simp at g;rw[g];decide
    ·obtain⟨s,hs,rfl⟩:=d3 r hx;rcases D0y.1 O with g|g
     ·have:=c3 s hs x g;omega
     ·simp at g;rw[g];decide
    ·repeat' simp only[go_sem,seval]
     refine D10 (fun q o hq=>?_) h;have q1:=X.le _ _ (a6 _ _ hq);have q2:q≠bv:=fun g=>by rw[g,hv]at q1;cases q1
     rw[D4 q2];exact c2 _ _ (f4 _ _ q1) (fun g=>by have:=X.n1 _ g;rw[a6 _ _ hq]at this;cases this)
end Go.Proofs.YtibphjonmikciaaGreatDoor
namespace Go.Lin
open Go Go.Av Go.Proofs.YtibphjonmikciaaGreatDoor
structure OkR(n:Nat)(l:List Row):Prop where
 len:l.length≤9999
 nn:n≤1000
 w: ∀r∈l,r.c.length=n
 s: ∀r∈l,A5E r 4611686018427387904
 c: ∀r∈l,∀x∈r.c,x.natAbs<1073741824
theorem A4z{l:List Row}(h:A8h l=true): ∃n,OkR n l:=by
 unfold A8h at h;simp only[D0l,D0u]at h;obtain⟨h1,d⟩:=h;cases l with
 |nil=>exact⟨0,by omega,by omega,by simp,by simp,by simp⟩
 |cons r l=>
  simp only[D0l,D0u,D09]at d;obtain⟨d,e⟩:=d;have key: ∀s∈r::l,s.c.length=r.c.length∧(∀x∈s.c,x.natAbs<1073741824)∧s.k.natAbs<4611686018427387904:=fun s hs=>by
   have:=e s hs;unfold C1T at this;simp only[D0l,beq_iff_eq,D0u,D09]at this;exact⟨this.1.1,fun x hx=>by have:=this.1.2 x hx;simpa using this,by have:=this.2;simpa using this⟩
  exact⟨r.c.length,by omega,by omega,fun s hs=>(key s hs).1,fun s hs=>⟨by have:=(key s hs).2.2;omega,fun x hx=>by have:=(key s hs).2.1 x hx;omega⟩,fun s hs=>(key s hs).2.1⟩
theorem B0l(p:Row→Bool): ∀l:List Row,W5 p l=match l.findIdx? p with|none=> -1|some i=>(i:Int)
 | []=>rfl
 |r::l=>by
  rw[W5,B0l p l,List.findIdx?_cons];by_cases h:p r=true
  ·rw[if_pos h,h];rfl
  ·simp only[h];cases l.findIdx? p with
   |none=>simp
   |some i=>simp;omega
theorem B9U{p:Row→Bool}{l:List Row}{i:Nat}(h:l.findIdx? p=some i):i<l.length:=(List.findIdx?_eq_some_iff_findIdx_eq.1 h).1
theorem B15(l:List Row): ∀(n k:Nat),(chT l n).best=some k→k<n
 |0,k,h=>by simp[chT]at h
 |n+1,k,h=>by
  rw[B0c]at h;unfold A3b at h;simp only[]at h;split at h
  ·have:=B15 l n k h;omega
  ·split at h
   ·simp at h;omega
   ·have:=B15 l n k h;omega
theorem B4X{l:List Row}{n k:Nat}(hl:l≠[])(hw: ∀r∈l,r.c.length=n)(h:(Z9 l).best=some k):k<n:=by
 have:Z9 l=chT l n:=by
  unfold Z9 chT;cases l with
  |nil=>exact absurd rfl hl
  |cons r l=>rw[show ((r::l).headD default).c.length=n from hw r (D0j ..)]
 rw[this]at h;exact B15 l n k h
end Go.Lin
namespace Go.Proofs.YtibphjonmikciaaGreatDoor
open Go Go.Av Go.Lin
attribute [local irreducible] ACalls S9
theorem C3P{Q}(r:Row)(H:Heap)(h:Q (.bool r.eq) H):E3 222 [.agg (C6 r)] H Q:=by
 refine A9 [] A8 Tryz.func222 rfl ?_;simp only[go_sem,seval,Tryz.results222];repeat' intro d
 exact D10 (by simp only[D9,D2,D3]at* <;>grind) h
set_option maxHeartbeats 1000000 in
theorem B16{Q}(f:Nat)(l:List Row)(b:Bool)(hs:A4w f l=some b)(H:Heap)(h:Q (.bool b) H):E3 196 [.sl 4 (Rw C6 l)] H Q:=by
 refine A9 [] A8 Tryz.func196 rfl ?_;simp only[go_sem,seval,Tryz.results196];repeat' (first|with_reducible apply D0Y|simp only[go_sem,seval]|intro g|omega)
 refine C9 [] (fun(p:Nat×List Row)=>[(0,.sl 4 (Rw C6 p.2))]) (fun(p:Nat×List Row)=>H) (fun(p:Nat×List Row)=>A4w p.1 p.2=some b) (fun(p:Nat×List Row)=>p.1) ((f,l)) (hs) (by simp only[go_sem,seval]) (by first|exact D1z _|exact A0 (by assumption)|exact B3 (by assumption)|simp only[Heap.Le,Heap.set,Heap.del]at* <;>grind) ?_;rintro X rfl ⟨f,l⟩ hs;simp only at hs;cases f with
 |zero=>simp[A4w]at hs
 |succ f=>
  rw[A4w]at hs;split at hs
  case isFalse=>cases hs
  rename_i d;obtain⟨n,ok⟩:=A4z d;have T: ∀(H:Heap) (Q:D→Heap→Prop),Q (B0j (B0K l)) H→E3 220 [.sl 4 (Rw C6 l)] H Q:=fun H Q hq=>C3O l n (by have:=ok.len;omega) (by have:=ok.nn;omega) (fun r hr=>⟨ok.w r hr,ok.s r hr⟩) (fun r hr x hx=>by have:=ok.c r hr x hx;omega) H hq;clear d;repeat' (first|simp only[go_sem,seval]|with_reducible refine T _ _ ?_)
  cases C:B0K l with
  |none=>
   rw[C]at hs;simp only[D1A]at hs;simp only[go_sem,seval,B0j];repeat' (first|with_reducible apply D0Y|simp only[go_sem,seval]|intro g|omega)
   rw[←hs]at h;exact D13 h
  |some m=>
   rw[C]at hs;cases m with
   |nil=>
    simp only[D1A]at hs;simp only[go_sem,seval,B0j];repeat' (first|with_reducible apply D0Y|intro g|omega)
    rw[←hs]at h;exact D13 h
   |cons r m=>
    simp only[]at hs;split at hs
    case isFalse=>cases hs
    rename_i d;obtain⟨L,q⟩: ∃L,L=r::m:=⟨_,rfl⟩
    have u:L≠[]:=by rw[q];simp
    have y: ¬(L.length:Int)=0:=by rw[q];simp;omega
    rw[←q]at hs d;obtain⟨n,ok⟩:=A4z d;simp only[go_sem,seval,B0j];rw[←q];clear d T C q;have A: ∀(H:Heap) (Q:D→Heap→Prop),Q (.int .i64 (W5 (·.eq) L)) H→E3 221 [.sl 4 (Rw C6 L),.fn (.func 222) [] []] H Q:=fun H Q hq=>B6M (·.eq) L (by have:=ok.len;omega) _ [] [] H (fun a _ Q hq=>C3P a H hq) hq;have o:=B0l (·.eq) L;cases G:L.findIdx? (·.eq)with
    |some i=>
     rw[G]at hs o;simp only[]at hs o;split at hs
     case isFalse=>cases hs
     rename_i hk;obtain⟨k,hk⟩:=Option.isSome_iff_exists.1 hk;have I:=B9U G;have J:0<n:=by
      have e:L.getD i default=L[i]:=by simp[I]
      rw[e,A6M]at hk;have:=A2U _ _ _ hk;rw[ok.w _ (D0m I)]at this;omega
     have M: ∀(H:Heap) (Q:D→Heap→Prop),Q (.sl 4 (Rw C6 (u0 L i))) H→E3 223 [.sl 4 (Rw C6 L),.int .i64 (i:Int)] H Q:=fun H Q hq=>B14 L i n k (by have:=ok.len;omega) J ok.nn I ok.w ok.s ok.c hk H hq;have U:(0:Int)≤i:=by omega
     rw[o]at A;repeat' (first|with_reducible apply D0Y|simp only[go_sem,seval,y,U]|intro g|with_reducible refine A _ _ ?_|with_reducible refine M _ _ ?_|omega)
     exact C4 (f,u0 L i) hs (Nat.lt_succ_self f) (by simp only[go_sem,seval]) (D1z _)
    |none=>
     rw[G]at hs o;simp only[]at hs o;rw[o]at A;have j: ∀(H:Heap) (Q:D→Heap→Prop),Q (.tuple [.int .i64 (L4 (Z9 L).best),.bool (Z9 L).sure]) H→E3 224 [.sl 4 (Rw C6 L)] H Q:=fun H Q hq=>B6c L n u (by have:=ok.len;omega) ok.w (by have:=ok.nn;omega) H hq;split at hs
     ·rename_i k cost z;rw[z]at j;have O:k<n:=B4X u ok.w (by rw[z]);have V: ∀(H:Heap) (Q:D→Heap→Prop),Q (.sl 4 (Rw C6 (A2R L k false))) H→E3 226 [.sl 4 (Rw C6 L),.int .i64 (k:Int),.bool false] H Q:=fun H Q hq=>B6O L k n (by have:=ok.len;omega) (by have:=ok.nn;omega) ok.w O (fun r hr=>⟨by have:=(ok.s r hr).1;omega,fun x hx=>by have:=(ok.s r hr).2 x hx;omega⟩) H hq;have W:L4 (some k)=k:=rfl;simp only[W]at j;repeat' (first|with_reducible apply D0Y|simp only[go_sem,seval,y]|intro g|with_reducible refine A _ _ ?_|with_reducible refine j _ _ ?_|with_reducible refine V _ _ ?_|omega)
      exact C4 (f,A2R L k false) hs (Nat.lt_succ_self f) (by simp only[go_sem,seval]) (D1z _)
     ·cases hs
end Go.Proofs.YtibphjonmikciaaGreatDoor
namespace Go.Lin
open Go Go.Av Go.Lexs
theorem A7k{s:ByteArray}(h:G4 (B s)=true):s.size≤200:=by
 unfold G4 at h;simp only[D0l,D0u]at h;have:=h.1.1.2;rwa [T9]at this
theorem B6l{l:List LinV}(hv: ∀a∈l,validL a=true):(O8 l).length≤12*l.length∧∀s∈O8 l,s.size≤200:=by
 constructor
 ·have key: ∀(m:List LinV),(∀c∈m,validL c=true)→(O8 m).length≤12*m.length:=by
   intro m
   induction m with
   |nil=>intro _;simp[O8]
   |cons c m d=>
    intro hm;have e:=d (fun x hx=>hm x (D0q _ hx));have h:=(M0 (hm c (D0j ..))).len;unfold O8 at e⊢;rw[List.flatMap_cons,D0e,D1H,D0d];omega
  exact key l hv
 ·intro s hs;unfold O8 at hs;obtain⟨c,hc,hs⟩:=List.mem_flatMap.1 hs;obtain⟨t,g,rfl⟩:=D1W.1 hs;exact A7k (M7 (M0 (hv c hc)).t t g).1
theorem A7l(l:List ByteArray)(s:ByteArray):(G8 l s).length≤l.length+1:=by
 induction l with
 |nil=>simp[G8]
 |cons x l d=>
  unfold G8;split
  ·simp;omega
  ·split<;>simp
theorem R3(m:List ByteArray): ∀l:List ByteArray,(m.foldl G8 l).length≤l.length+m.length:=by
 induction m with
 |nil=>intro l;simp
 |cons s m d=>intro l;have:=d (G8 l s);have:=A7l l s;simp only[List.foldl_cons,D0d];omega
theorem B4Y{l:List LinV}{a:LinV}(d:a∈l){t:LTm}(e:t∈a.t):t.v∈A1w l:=by
 rw[A7P];exact List.mem_flatMap.2 ⟨a,d,D1W.2 ⟨t,e,rfl⟩⟩
def C9D(P:Program)(can:List LinV→Option Bool)(g:Nat)(cap:List D)(H:Heap):Prop:=∀(more:List LinV) (b:Bool),can more=some b→(∀a∈more,validL a=true)→more.length≤2→∀(H':Heap) (Q:D→Heap→Prop),H.Le H'→Q (.bool b) H'→ACalls P g (.sl 3 (Rw E5 more)::cap) H' Q
theorem A7m{s:ByteArray}(hs:G4 (B s)=true)(c k:Int)(e:Bool)(hc:c≠0)(d:c.natAbs≤1048576)(hk:k.natAbs≤1099511627776):validL ⟨[⟨s,c⟩],k,e⟩=true:=by
 unfold validL V9 A1v J4;simp[hs,hc];omega
theorem A7n{s:ByteArray}(hs:G4 (B s)=true)(n m:Int)(hn:n.natAbs≤1099511627776)(hm:m.natAbs≤1099511627776): ∀a∈[W3 s n,q8 s m],validL a=true:=fun a d=>by
 rcases D00.1 d with rfl|d
 ·exact A7m hs 1 _ _ (by decide) (by decide) (by omega)
 ·simp at d;rw[d];exact A7m hs (-1) _ _ (by decide) (by decide) hm
theorem B4Z(g:List LinV→Option Bool)(s:ByteArray)(f:Nat)(e d:Int):A3c g s (f+1) e d=if e<d then
      match g [W3 s (-((e+d).tdiv 2)),q8 s ((e+d).tdiv 2)]with
      |none=>none
      |some true=>A3c g s f e ((e+d).tdiv 2)
      |some false=>A3c g s f ((e+d).tdiv 2+1) d
    else some e:=rfl
end Go.Lin
namespace Go.Proofs.YtibphjonmikciaaGreatDoor
open Go Go.Av Go.Lexs Go.Lin
attribute [local irreducible] ACalls S9
theorem C3Q{Q}(l:List LinV)(hlen:l.length≤1000)(hv: ∀a∈l,validL a=true)(b:Bool)(hs:C1U l=some b)(H:Heap)(h:Q (.bool b) H):E3 155 [.sl 3 (Rw E5 l)] H Q:=by
 refine A9 [] A8 Tryz.func155 rfl ?_;simp only[go_sem,seval,Tryz.results155];obtain⟨n1,n2⟩:=B6l hv;have d:A4w 100 (B0L l (A1w l))=some b:=hs;have i:(A1w l).length≤12000:=by have:=R3 (O8 l) [];simp at this;unfold A1w;omega
 repeat' (first|simp only[go_sem,seval]|with_reducible refine C3K l (by omega) (by omega) (fun s hs=>by have:=n2 s hs;omega) (fun c hc=>by have:=(M0 (hv c hc)).len;omega) _ ?_|with_reducible refine C3N l (A1w l) (by omega) (by omega) (B0D l) hv (fun a e t g=>B4Y e g) _ ?_|with_reducible refine B16 100 _ b d _ ?_)
 exact D13 h
theorem A7o{Q}(s:ByteArray)(n:Int)(hn:n.natAbs≤1000000000000000)(H:Heap)(h:Q (.agg (E5 (W3 s n))) H):E3 127 [.str s,.int .i64 n] H Q:=by
 refine A9 [] A8 Tryz.func127 rfl ?_;simp only[go_sem,seval,Tryz.results127];have w:IntKind.i64.wrap (0-n)= -n:=by rw[A5 (by omega) (by omega)];omega
 repeat' (first|simp only[go_sem,seval,w]|simp(disch:=first|omega|grind) only[B4,D4]|(intro d;try simp only[A6]at d))
 rename_i m p q;have e:=d;clear d;refine A2C (es:=Rw N7 [⟨s,1⟩]) (by rw[A4 _ e.1,A3];rfl) rfl (D10 (fun k o hk=>?_) h);have i:k≠m:=fun g=>by rw[g,p]at hk;cases hk
 have j:k≠q:=fun g=>by rw[g,e.2]at hk;cases hk
 rw[D4 j,A4 _ i,A4 _ j,A4 _ i];exact hk
theorem B0m{Q}(s:ByteArray)(n:Int)(H:Heap)(h:Q (.agg (E5 (q8 s n))) H):E3 128 [.str s,.int .i64 n] H Q:=by
 refine A9 [] A8 Tryz.func128 rfl ?_;simp only[go_sem,seval,Tryz.results128];repeat' (first|simp only[go_sem,seval]|simp(disch:=first|omega|grind) only[B4,D4]|(intro d;try simp only[A6]at d))
 rename_i m p q;have e:=d;clear d;refine A2C (es:=Rw N7 [⟨s,-1⟩]) (by rw[A4 _ e.1,A3];rfl) rfl (D10 (fun k o hk=>?_) h);have i:k≠m:=fun g=>by rw[g,p]at hk;cases hk
 have j:k≠q:=fun g=>by rw[g,e.2]at hk;cases hk
 rw[D4 j,A4 _ i,A4 _ j,A4 _ i];exact hk
theorem B4a{Q}(i:List LinV→Option Bool)(s:ByteArray)(x:G4 (B s)=true)(g:Nat)(cap:List D)(H:Heap)(r:C9D Tryz.prog i g cap H)(n:Int)(hn:B59 i s=some n)(h:Q (.int .i64 n) H):E3 76 [.str s,.fn (.func g) [] cap] H Q:=by
 refine A9 [] A8 Tryz.func76 rfl ?_;simp only[go_sem,seval,Tryz.results76];unfold B59 at hn;cases z:A3c i s 40 0 2147483647 with
 |none=>rw[z]at hn;cases hn
 |some A=>
  rw[z]at hn;simp only[]at hn;repeat' (first|with_reducible apply D0Y|simp only[go_sem,seval]|simp(disch:=omega) only[A5]|intro j|omega)
  refine C9 [0,1] (fun(p:Nat×Int×Int)=>[(5,.int .i64 p.2.1),(6,.int .i64 p.2.2)]) (fun(p:Nat×Int×Int)=>H) (fun(p:Nat×Int×Int)=>A3c i s p.1 p.2.1 p.2.2=some A∧0≤p.2.1∧p.2.1≤p.2.2∧p.2.2≤2147483647) (fun(p:Nat×Int×Int)=>p.1) ((40,0,2147483647)) (⟨z,by simp,by simp,by simp⟩) (by simp only[go_sem,seval]) (by first|exact D1z _|exact A0 (by assumption)|exact B3 (by assumption)|simp only[Heap.Le,Heap.set,Heap.del]at* <;>grind) ?_;rintro O rfl ⟨f,d,e⟩ ⟨o,C,I,G⟩;simp only at o C I G;cases f with
  |zero=>simp[A3c]at o
  |succ f=>
   rw[B4Z]at o;by_cases q:d<e
   ·rw[if_pos q]at o;obtain⟨m,hm⟩: ∃m,m=(d+e).tdiv 2:=⟨_,rfl⟩
    have J:d≤m∧m<e:=by
     rw[hm,Int.tdiv_eq_ediv_of_nonneg (by omega)];omega
    rw[←hm]at o;have L:IntKind.i64.wrap m=m:=A5 (by omega) (by omega);have M:IntKind.i64.wrap (0-m)= -m:=by rw[A5 (by omega) (by omega)];omega
    cases hc:i [W3 s (-m),q8 s m]with
    |none=>rw[hc]at o;cases o
    |some b=>
     rw[hc]at o;repeat' (first|simp only[go_sem,seval,q,←hm,L,M,Int.zero_sub]|simp(disch:=omega) only[A5]|intro j|with_reducible refine A7o s (-m) (by omega) _ ?_|with_reducible refine B0m s m _ ?_)
     rename_i bs;have u:=j;clear j;refine U4 (es:=Rw E5 [W3 s (-m),q8 s m]) (A3 _ _) rfl ?_;rw[E7 u];refine r _ b hc (A7n x _ _ (by omega) (by omega)) (by simp) _ _ (D1z _) ?_;cases b with
     |true=>
      repeat' simp only[go_sem,seval]
      exact C4 (f,d,m) ⟨o,C,by simp only[];omega,by simp only[];omega⟩ (Nat.lt_succ_self f) (by simp only[go_sem,seval]) (D1z _)
     |false=>
      repeat' (first|simp only[go_sem,seval]|simp(disch:=omega) only[A5])
      exact C4 (f,m+1,e) ⟨o,by simp only[];omega,by simp only[];omega,G⟩ (Nat.lt_succ_self f) (by simp only[go_sem,seval]) (D1z _)
   ·rw[if_neg q]at o;simp only[D1A]at o;subst o;by_cases y:0<d
    ·rw[if_pos y]at hn;cases hc:i [W3 s d,q8 s d]with
     |none=>rw[hc]at hn;cases hn
     |some b=>
      rw[hc]at hn;repeat' (first|simp only[go_sem,seval,q,y,Int.zero_sub]|intro j|with_reducible refine A7o s d (by omega) _ ?_|with_reducible refine B0m s d _ ?_)
      rename_i bs;have u:=j;clear j;refine U4 (es:=Rw E5 [W3 s d,q8 s d]) (A3 _ _) rfl ?_;rw[E7 u];refine r _ b hc (A7n x _ _ (by omega) (by omega)) (by simp) _ _ (D1z _) ?_;cases b with
      |true=>
       simp only[D1A]at hn;subst hn;repeat' simp only[go_sem,seval]
       exact D13 h
      |false=>
       simp only[D1A]at hn;subst hn;repeat' (first|simp only[go_sem,seval,Int.zero_sub]|simp(disch:=omega) only[A5])
       exact D13 h
    ·rw[if_neg y]at hn;simp only[D1A]at hn;subst hn;repeat' simp only[go_sem,seval,q,y]
     exact D13 h
end Go.Proofs.YtibphjonmikciaaGreatDoor
namespace Go.Av
inductive View(H:Heap):D→D→Prop
 |same (d:D):View H d d
 |vec (b sz n:Nat) (es es':List (List D)) (hb:H b=some (.vec sz es)) (hn:n=es.length) (hl:es.length=es'.length) (h1: ∀(i:Nat) (e e':List D),es[i]? =some e→es'[i]? =some e'→e.length=e'.length)
   (h: ∀(i:Nat) (e e':List D) (j:Nat) (d d':D),es[i]? =some e→es'[i]? =some e'→e[j]? =some d→e'[j]? =some d'→View H d d'):View H (.vec b sz 0 n) (.sl sz es')
 |nil (sz:Nat):View H .nilsl (.sl sz [])
 |box (b:Nat) (cs cs':List D) (Z:Option TypeId) (hb:H b=some (.box cs Z)) (hl:cs.length=cs'.length) (h: ∀(i:Nat) (d d':D),cs[i]? =some d→cs'[i]? =some d'→View H d d'):View H (.box b 0) (.ro cs')
 |agg (cs cs':List D) (hl:cs.length=cs'.length) (h: ∀(i:Nat) (d d':D),cs[i]? =some d→cs'[i]? =some d'→View H d d'):View H (.agg cs) (.agg cs')
 |map (b:Nat) (kvs:List (D×D)) (hb:H b=some (.map kvs)):View H (.map b) (.fm kvs)
theorem B3N{H H':Heap}{w:World}(hs:Sat H w){b:Nat}{kvs:List (D×D)}(hb:H b=some (.map kvs))(hl:H'.Le H)(hn:H'.held b=false){v:Value}(hr:R w H (.map b) v):R w H' (.fm kvs) v:=by
 obtain⟨es,ck,e,g,h,d⟩:=hs b _ hb;cases hr;exact .fm kvs b es ck e hn g h (fun i p hp=>(d i p hp).1) (fun i p hp=>(d i p hp).2.1.less hl) (fun i p hp=>(d i p hp).2.2.less hl)
theorem View.one{H:Heap}{d d':D}(h:View H d d')(ho:d.one=true):d'.one=true:=by
 cases h with
 |same=>exact ho
 |vec=>rfl
 |nil=>rfl
 |box=>rfl
 |map=>rfl
 |agg=>cases ho
theorem View.R{H:Heap}{w:World}(hs:Sat H w){d d':D}(h:View H d d'): ∀{v:Value},R w H d v→R w (roH H) d' v:=by
 induction h with
 |same d=>exact fun hr=>hr.less (A8P H)
 |vec b sz n es es' hb hn hl h1 h r=>
  intro v hr;have q:=hs.lt hb
  --the block itself
  obtain⟨c,T,x,y,u,_,C,z,G,A⟩:=hs b _ hb;cases hr with
  |vec0 b sz lo off=>
   have:es'= []:=D0w (by omega);subst this;exact .sl0 _ _ _
  |vec _ _ _ _ cap V m I J hsz L=>
   rw[hn,hl];refine .sl sz es' b _ cap (fun i j=>c.getD (i*sz+j) Go.undef) q (A3R H b) (fun i e' o=>?_) (by omega) (fun i j M O=>?_) (fun i e' j d' o g=>?_) (fun i e' j d' o g=>?_)
   ·obtain⟨e,he⟩:=G2 hl o;rw[←h1 i e e' he o];exact G i e he
   ·have h5:(i+1)*sz≤es.length*sz:=D1E _ (by omega);rw[Nat.add_mul,Nat.one_mul]at h5;rw[Nat.zero_mul,Nat.zero_add,T1 u];have hsz:i*sz+j<c.size:=by omega
    simp[hsz]
   ·obtain⟨e,he⟩:=G2 hl o;obtain⟨d,p⟩:=G2 (h1 i e e' he o) g;exact(h i e e' j d d' he o p g).one (A i e j d he p).1
   ·obtain⟨e,he⟩:=G2 hl o;obtain⟨d,p⟩:=G2 (h1 i e e' he o) g;exact r i e e' j d d' he o p g (A i e j d he p).2
 |nil sz=>intro v hr;cases hr;exact .sl0 _ _ _
 |map b kvs hb=>exact fun hr=>B3N hs hb (A8P H) (A3R H b) hr
 |box b cs cs' Z hb hl h r=>
  intro v hr;have q:=hs.lt hb;obtain⟨c,T,lo,M,u,_,C,z,_⟩:=hs b _ hb;cases hr;refine .ro cs' b 0 (fun j=>c.getD j Go.undef) q (A3R H b) (fun j O=>?_) (fun j d' g=>?_) (fun j d' g=>?_)
  ·rw[Nat.zero_add,T1 u];have:j<c.size:=by omega
   simp[this]
  ·obtain⟨d,p⟩:=G2 hl g;exact(h j d d' p g).one (z j d p).1
  ·obtain⟨d,p⟩:=G2 hl g;exact r j d d' p g (z j d p).2
 |agg cs cs' hl h r=>
  intro v hr;cases hr with
  |agg _ vs U ho hr=>
   refine .agg cs' vs (by omega) (fun i d' g=>?_) (fun i d' g=>?_)
   ·obtain⟨d,p⟩:=G2 hl g;exact(h i d d' p g).one (ho i d p)
   ·obtain⟨d,p⟩:=G2 hl g;exact r i d d' p g (hr i d p)
theorem A6Q{P:Program}{c:CR}{bl:Bl}{ev:Operand→D}{H:Heap}{j:D→Heap→Prop}{s x:Operand}{t I:Nat}(e g:Nat){sz n m bx:Nat}{ob:Option Nat}{es xs:List (List D)}
  (J:G7 P t=some (e,sz,g)) (L:0<sz) (h1:apT (C8 P I)) (M:apZ (F9 P e) sz) (hs:ev s=J1 sz n ob) (hx:ev x= .vec bx sz 0 m) (o:H bx=some (.vec sz xs)) (hm:m=xs.length) (O:xs≠[])
  (i:OutAt H sz es ob) (hn:n=es.length) (p:bx∉bl.l) (u:ob≠some bx) (y: ∀c,ob=some c→c∉bl.l)
  (z:(n+xs.length)*g≤140737488355328) (A:n+xs.length≤9223372036854775807)
  (h: ∀b',K1 (H.del bx) ob b'=none→j (.vec b' sz 0 (n+xs.length)) ((K1 (H.del bx) ob).set b' (.vec sz (es++xs)))):pOp P c bl ev H j (.call ⟨.builtin .append,#[s,x],#[t,I]⟩):=by
 refine A4r ?_;rw[J,A95];refine⟨L,h1,M,?_⟩;have C:L6 H sz (ev x)=some xs:=by
  rw[hx];unfold L6;simp[o,hm]
 have ho:S1 bl.l [bx]= [bx]:=by rw[A96 bx [] p,V6]
 have r:xOk bl H [bx]:=B2y bx _ o rfl (.inl p);rw[C,A94,hs,hx];show paS _ bl [bx] sz g xs H j;cases ob with
 |none=>
  have T:es= []:=i;subst T;subst hn;simp only[D0f,Nat.zero_add,D1k]at z A h;show paS .nilsl bl [bx] sz g xs H j;rw[B83];refine⟨z,A,by cases xs<;>simp_all,r,fun b hb=>?_⟩;rw[ho,z7,F4];refine h b ?_;show (H.del bx) b=none;unfold Heap.del;rw[ho]at hb;rcases hb with hb|hb
  ·split<;>simp_all
  ·simp at hb;rw[if_pos hb]
 |some k=>
  have hk:H k=some (.vec sz es):=i;have U:k≠bx:=fun e=>u (by rw[e]);show paS (.vec k sz 0 n) bl [bx] sz g xs H j;rw[B2x,hk,B2w];refine⟨rfl,rfl,rfl,by omega,z,A,.inl (y k rfl),r,fun b' d=>?_⟩;rw[ho,D0n (by omega),z7,z7,F4];have G:(H.del k).del bx=(H.del bx).del k:=by funext q;simp only[Heap.del];split<;>split<;>rfl
  rw[G];refine h b' ?_;show ((H.del bx).del k) b'=none;rw[ho]at d;simp only[Heap.del];rcases d with d|d
  ·split
   ·rfl
   ·split
    ·rfl
    ·exact d
  ·simp at d;rcases d with d|d
   ·rw[if_pos d]
   ·split
    ·rfl
    ·first|rfl|rw[if_pos d]
end Go.Av
namespace Go.Lin
open Go Go.Av Go.Lexs
structure FI(H:Heap)(b5 bv:Nat)(so:List LinV)(out:List VlV)(ob:Option Nat)(Hp:Heap):Prop where
 le:H.Le Hp
 h5:H b5=none
 hv:H bv=none
 e5:Hp b5=some (.box [.vec bv 3 0 so.length])
 ev:Hp bv=some (.vec 3 (Rw E5 so))
 eo:OutAt Hp 2 (Rw vlC out) ob
 no: ∀b,ob=some b→H b=none
 n5:ob≠some b5
 nv:ob≠some bv
end Go.Lin
namespace Go.Proofs.YtibphjonmikciaaGreatDoor
open Go Go.Av Go.Lexs Go.Lin
attribute [local irreducible] ACalls S9
end Go.Proofs.YtibphjonmikciaaGreatDoor
namespace Go.Av
theorem ACalls.fin{P:Program}{f:Nat}{args:List D}{H:Heap}{Q:D→Heap→Prop}(h:ACalls P f args H (Fin Q)):ACalls P f args H Q:=by
 refine⟨h.1,fun w vs h1 i j=>(h.2 w vs h1 i j).mono fun e w' ⟨v,he,hp⟩=>⟨v,he,?_⟩⟩;obtain⟨d,A,m,o,p,q,g⟩:=hp;unfold Fin at g;obtain⟨r,u,hs,hq⟩:=g;obtain⟨x,y,z⟩:=hs w' v m o;exact⟨u,r,x,y,p,fun k hk hn=>z k (q k hk hn),hq⟩
structure BxI(H:Heap)(bx sz n:Nat)(X:List (List D))(rest:List D)(ob:Option Nat)(Hp:Heap):Prop where
 le:H.Le Hp
 hx:H bx=none
 ex:Hp bx=some (.box (J1 sz n ob::rest))
 eo:OutAt Hp sz X ob
 no: ∀b,ob=some b→H b=none
 nx:ob≠some bx
theorem B47{H:Heap}{bx:Nat}(h:H bx=none)(sz:Nat)(rest:List D):BxI H bx sz 0 [] rest none (H.set bx (.box (.nilsl::rest))):=
 ⟨A0 h,h,A3 _ _,rfl,by simp,by simp⟩
theorem BxI.up{H Hp H':Heap}{bx sz n:Nat}{X:List (List D)}{rest:List D}{ob:Option Nat}(h:BxI H bx sz n X rest ob Hp)(d:Hp.Le H'):BxI H bx sz n X rest ob H':=
 ⟨h.le.trans d,h.hx,d _ _ h.ex,h.eo.up d,h.no,h.nx⟩
theorem BxI.ap{H Hp H0 H':Heap}{bx sz n m:Nat}{X Y:List (List D)}{rest:List D}{ob:Option Nat}{i:Nat}(h:BxI H bx sz n X rest ob Hp)(d:Hp.Le H0)(j:Apd H0 sz ob Y i H'):BxI H bx sz m Y rest (some i) (H'.set bx (.box (.vec i sz 0 m::rest)))∧H' bx=some (.box (J1 sz n ob::rest)):=by
 have e5:H' bx=some (.box (J1 sz n ob::rest)):=j.2.1 bx _ (d _ _ h.ex) h.nx;have p:i≠bx:=fun e=>by have:=j.1;rw[e,e5]at this;cases this
 have q:H i=none:=by
  rcases j.2.2 with g|g
  ·exact h.le.none (d.none g)
  ·exact h.no _ g
 refine⟨⟨fun k o hk=>?_,h.hx,A3 _ _,?_,fun b e=>by cases e;exact q,fun e=>p (by cases e;rfl)⟩,e5⟩
 ·rw[A4 _ (fun e=>by rw[e,h.hx]at hk;cases hk)];exact j.2.1 k o (d _ _ (h.le _ _ hk)) (fun e=>by have:=h.no _ e;rw[this]at hk;cases hk)
 ·show (H'.set bx _) i=_;rw[A4 _ p];exact j.1
end Go.Av
namespace Go.Proofs.YtibphjonmikciaaGreatDoor
open Go Go.Av Go.Lexs Go.Lin
attribute [local irreducible] ACalls S9
end Go.Proofs.YtibphjonmikciaaGreatDoor
namespace Go.Av
def B3O:D→Bool
 | .tuple ds=>ds.all A9c
 |d=>A9c d
theorem C3R{w:World}{H H':Heap}{d:D}{v:Value}(e:A9c d=true)(hr:R w H d v):R w H' d v:=by
 cases hr<;>first|(cases e;done)|constructor
theorem B9V{w:World}{H H':Heap}{d:D}{v:Value}(e:B3O d=true)(hr:R w H d v):R w H' d v:=by
 cases hr with
 |tuple ds vs hl hr=>exact .tuple ds vs hl fun i d g=>C3R (D09.1 e d (D05 g)) (hr i d g)
 |_=>first|(cases e;done)|constructor
theorem B4b{H e:Heap}{w w':World}{K:D→Heap→Prop}{v:Value}(hs:Sat H w)(m:e.Le H)(h:Post e w (fun d _=>B3O d=true∧K d (H.sub e)) v w'):Post H w K v w':=by
 obtain⟨d,r,hr,q,he,u,p,hk⟩:=h;have g:Ext H w w':=⟨he.os,he.tape,he.output,he.size,fun k hk hn=>he.block k hk (m.held hn),he.shape⟩
 have i:From w H (H.sub e):=fun k hk hn=>(A8F H e).held hn;refine⟨d,H.sub e,B9V p hr,fun b o hb=>?_,g,i,hk⟩;have hc:e.held b=false:=by
  unfold Heap.sub at hb;split at hb
  ·cases hb
  ·rename_i h;simpa using h
 have j:=A8F H e b o hb;exact(hs b o j).mono g i (he.block b (hs.lt j) hc)
theorem A3y{P:Program}{f:Nat}{args args':List D}{H:Heap}{Q:D→Heap→Prop}(hl:args.length=args'.length)(hv: ∀(i:Nat) d d',args[i]? =some d→args'[i]? =some d'→View H d d')
  (h:ACalls P f args' (roH H) (fun d _=>B3O d=true∧Q d H)):ACalls P f args H Q:=by
 refine⟨h.1,fun w vs h1 o j=>?_⟩;refine(h.2 w vs (by omega) (fun i d' g=>?_) (j.less (A8P H))).mono fun e w' ⟨v,he,hp⟩=>⟨v,he,B4b j (A8P H) (by rw[C2V];exact hp)⟩
 obtain⟨d,m⟩:=G2 hl g;exact(hv i d d' m g).R j (o i d m)
theorem B49{H:Heap}{n sz:Nat}{es:List (List D)}{ob:Option Nat}{ds:List D}(hn:n=es.length)(ho:OutAt H sz es ob):View H (.agg (J1 sz n ob::ds)) (.agg (.sl sz es::ds)):=by
 refine .agg _ _ rfl fun i d d' h1 g=>?_
 match i with
 |0=>
  cases h1;cases g;cases ob with
  |none=>rw[show es= []from ho];exact .nil sz
  |some b=>exact .vec b sz n es es ho hn rfl (fun i e e' h1 g=>by rw[h1]at g;cases g;rfl) (fun i e e' j d d' h1 g m h=>by rw[h1]at g;cases g;rw[m]at h;cases h;exact .same _)
 |i+1=>simp only[D04]at h1 g;rw[h1]at g;cases g;exact .same _
theorem A9H{P:Program}{f n sz:Nat}{es:List (List D)}{ob:Option Nat}{ds g:List D}{H:Heap}{Q:D→Heap→Prop}(hn:n=es.length)(ho:OutAt H sz es ob)(h:ACalls P f (.agg (.sl sz es::ds)::g) (roH H) (fun d _=>B3O d=true∧Q d H)):
  ACalls P f (.agg (J1 sz n ob::ds)::g) H Q:=by
 refine A3y (args':=.agg (.sl sz es::ds)::g) rfl (fun i d d' h1 e=>?_) h
 match i with
 |0=>cases h1;cases e;exact B49 hn ho
 |i+1=>simp only[D04]at h1 e;rw[h1]at e;cases e;exact .same _
end Go.Av
namespace Go.Lin
open Go Go.Av Go.Lexs
theorem B8C{Q:D→Heap→Prop}{ds:List D}{x:D}{H:Heap}{b sz n:Nat}{es:List (List D)}(hb:H b=some (.vec sz es))(hn:n=es.length)(h:Fin Q (.tuple [.agg (.sl sz es::ds),x]) (H.del b)):Fin Q (.tuple [.agg (.vec b sz 0 n::ds),x]) H:=by
 subst hn;refine A46 hb (by simp) (fun i d d' h1 e=>?_) h
 match i with
 |0=>cases h1;cases e;exact .all
 |i+1=>
  simp only[D04]at h1 e;rw[h1]at e;cases e;exact .same _
theorem A4W(sz n:Nat)(ob:Option Nat):(D.one.match_1 (fun _=>Bool) (J1 sz n ob) (fun _=>false) (fun _=>false) (fun _=>false) fun _=>true)=true:=by cases ob<;>rfl
theorem G6{H Bs:Heap}{b:Nat}{x:Go.Av.Obj}(d:H.Le Bs)(h:H b=none):H.Le (Bs.set b x):=fun k o hk=>by
 rw[A4 _ (fun e=>by rw[e,h]at hk;cases hk)];exact d _ _ hk
end Go.Lin
namespace Go.Proofs.YtibphjonmikciaaGreatDoor
open Go Go.Av Go.Lexs Go.Lin
attribute [local irreducible] ACalls S9
end Go.Proofs.YtibphjonmikciaaGreatDoor
namespace Go.Av
theorem A5K{P:Program}{f v sz n:Nat}{es:List (List D)}{ds m:List D}{H:Heap}{Q:D→Heap→Prop}(hb:H v=some (.vec sz es))(hn:n=es.length)(h:ACalls P f (.agg (.sl sz es::ds)::m) (H.del v) Q):ACalls P f (.agg (.vec v sz 0 n::ds)::m) H Q:=by
 subst hn;refine ACalls.shift (args':=.agg (.sl sz es::ds)::m) (fun w vs h1 p hs=>?_) h;have g:=E9 H v;refine⟨by simpa using h1,fun i d q=>?_,hs.less g,fun k hn=>g.held hn⟩
 match i with
 |0=>
  cases q;have j:=p 0 _ rfl;revert j;generalize vs.getD 0 undef=v1;intro j;cases j with
  |agg _ us o ho hr=>
   refine .agg _ us (by simpa using o) (fun i d' e=>?_) (fun i d' e=>?_)
   ·cases i with
    |zero=>cases e;rfl
    |succ i=>exact ho (i+1) d' e
   ·cases i with
    |zero=>
     cases e;have r:Fz v sz es (.vec v sz 0 es.length) (.sl sz es):=.all;exact r.R hs hb (hr 0 _ rfl)
    |succ i=>exact(hr (i+1) d' e).less g
 |i+1=>exact(p (i+1) d (by simpa using q)).less g
end Go.Av
namespace Go.Lin
open Go Go.Av Go.Lexs
theorem B0n{a:LinV}(h:validL a=true): ∀t∈a.t,t.c≠0∧t.c.natAbs≤1048576:=fun t d=>by
 have:=(M7 (M0 h).t t d)
 exact⟨this.2.1,by have:=this.2.2;omega⟩
theorem _root_.Go.Av.BxI.fin{H0 H Hp:Heap}{bx sz n d b:Nat}{X:List (List D)}{rest cs:List D}{T:Option TypeId}{x:Go.Av.Obj}(h:BxI H bx sz n X rest (some b) Hp)(g:H0.Le H)(i:H0 d=none)(j:Hp d=some (.box cs T)):(Hp.set d x) b=some (.vec sz X)∧H0.Le ((Hp.set d x).del b):=by
 have hb:Hp b=some (.vec sz X):=h.eo;have m:b≠d:=fun e=>by rw[e,j]at hb;cases hb
 refine⟨by rw[A4 _ m];exact hb,fun k o hk=>?_⟩;have h1:=g _ _ hk;have p:k≠b:=fun e=>by have:=h.no b rfl;rw[←e,h1]at this;cases this
 rw[D4 p,A4 _ (fun e=>by rw[e,i]at hk;cases hk)];exact h.le _ _ h1
theorem _root_.Go.Av.BxI.re{H Hp:Heap}{bx sz n:Nat}{X:List (List D)}{rest:List D}{ob:Option Nat}(h:BxI H bx sz n X rest ob Hp)(d:List D):BxI H bx sz n X d ob (Hp.set bx (.box (J1 sz n ob::d))):=by
 refine⟨fun k o hk=>?_,h.hx,A3 _ _,?_,h.no,h.nx⟩
 ·rw[A4 _ (fun e=>by rw[e,h.hx]at hk;cases hk)];exact h.le _ _ hk
 ·have:=h.eo;cases ob with
  |none=>exact this
  |some b=>
   show (Hp.set bx _) b=_;rw[A4 _ (fun e=>h.nx (by rw[e]))];exact this
theorem A6R{C T:Nat→Heap→Prop}{G:Prop}(h:(∀b H,C b H→T b H)→G)(t: ∀b H,C b H→T b H):G:=h t
end Go.Lin
namespace Go.Proofs.YtibphjonmikciaaGreatDoor
open Go Go.Av Go.Lexs Go.Lin
attribute [local irreducible] ACalls S9
end Go.Proofs.YtibphjonmikciaaGreatDoor
namespace Go.Lin
open Go Go.Av Go.Lexs
theorem A3i: ∀(l:List ByteArray) (s:ByteArray) (i:Nat) (d:i≤l.length),(∀(k:Nat) (hk:k<l.length),k<i→V8 l[k] s=true)→(∀hk:i<l.length,V8 l[i] s=false)→
  G8 l s=if(∃hk:i<l.length,l[i]=s)then l else l.take i++[s]++l.drop i
 | [],s,i,d,_,_=>by
  have:i=0:=by simpa using d
  subst this;simp[G8]
 |x::l,s,0,_,_,j=>by
  have h:=j (by simp);simp only[D1r]at h;rw[G8,h];by_cases e:x=s
  ·simp[e]
  ·simp[e]
 |x::l,s,i+1,d,h1,j=>by
  have m:=h1 0 (by simp) (by omega);simp only[D1r]at m;rw[G8,if_pos m,A3i l s i (by simpa using d) (fun k hk g=>by have:=h1 (k+1) (by simpa using hk) (by omega);simpa using this) (fun hk=>by have:=j (by simpa using hk);simpa using this)];by_cases e: ∃hk:i<l.length,l[i]=s
  ·rw[if_pos e,if_pos (by obtain⟨a,b⟩:=e;exact⟨by simpa using a,by simpa using b⟩)]
  ·rw[if_neg e,if_neg (fun g=>e (by obtain⟨a,b⟩:=g;exact⟨by simpa using a,by simpa using b⟩))];simp
def nsD:List ByteArray→D
 | []=>.nilsl
 |x::l=>.sl 1 (Rw K2 (x::l))
theorem B6m(l:List ByteArray)(s:ByteArray):nsD (G8 l s)= .sl 1 (Rw K2 (G8 l s)):=by
 cases l with
 |nil=>rfl
 |cons x l=>
  rw[G8];split
  ·rfl
  ·split<;>rfl
theorem A8q(l:List ByteArray):NilR (nsD l) (.sl 1 (Rw K2 l)):=by
 cases l with
 |nil=>exact .nil _
 |cons x l=>exact .same _
@[simp] theorem C94:nsD []= .nilsl:=rfl
end Go.Lin
namespace Go.Proofs.YtibphjonmikciaaGreatDoor
open Go Go.Av Go.Lexs Go.Lin
attribute [local irreducible] ACalls S9
theorem C3S{Q}(l:List ByteArray)(hl:l.length≤1000000000)(s:ByteArray)(H:Heap)(h1:G8 l s=l→Q (.sl 1 (Rw K2 l)) H)(h: ∀x,H x=none→Q (.vec x 1 0 (G8 l s).length) (H.set x (.vec 1 (Rw K2 (G8 l s))))):E3 90 [.sl 1 (Rw K2 l),.str s] H Q:=by
 refine A9 [(6,.wk),(7,.par)] A8 Tryz.func90 rfl ?_;simp only[go_sem,seval,Tryz.results90];refine C9 [0,1] (fun(i:Nat)=>[(5,.int .i64 i)]) (fun(i:Nat)=>H) (fun(i:Nat)=>i≤l.length∧∀(k:Nat) (hk:k<l.length),k<i→V8 l[k] s=true) (fun(i:Nat)=>l.length-i) (0) (⟨D0t _,fun _ _ h=>by omega⟩) (by(try simp only[go_sem,seval])<;>(try simp(disch:=omega) [A5])) (by first|exact D1z _|exact A0 (by assumption)|exact B3 (by assumption)|simp only[Heap.Le,Heap.set,Heap.del]at* <;>grind) ?_;rintro Ec rfl i ⟨y,o⟩;have r: ∀(d:i<l.length),V8 l[i] s=true→∀(k:Nat) (hk:k<l.length),k<i+1→V8 l[k] s=true:=fun d c k hk W=>(Nat.lt_or_ge k i).elim (fun g=>o k hk g) (fun g=>by have:k=i:=(by omega);subst this;exact c);apply Y8 (C:=G8 l s=l.take i++[s]++l.drop i)
 ·intro U;by_cases d:i<l.length
  ·have p:decide ((i:Int)<l.length)=true:=D0a (by omega);have u:(i:Int)<l.length:=by omega
   by_cases c:V8 l[i] s=true
   ·have A:Op.bytesLess l[i].data.toList s.data.toList=true:=c;repeat' (first|with_reducible apply D0Y|simp only[go_sem,seval,p,u,B2 _ _ d,C2 _ _ d,A]|simp(disch:=omega) only[A5,B2,A3i]|omega)
    exact C4 (i+1) ⟨by omega,r d c⟩ (by omega) (by(try simp only[go_sem,seval])<;>(try simp(disch:=omega) [A5])) (by simp only[D9,D2,D3]at* <;>grind)
   ·have c:V8 l[i] s=false:=by simpa using c
    have A:Op.bytesLess l[i].data.toList s.data.toList=false:=c;have e:=A3i l s i y o (fun _=>c);by_cases q:l[i]=s
    ·rw[if_pos ⟨d,q⟩]at e;have I:decide (B l[i]=B s)=true:=D0a (by rw[q]);repeat' (first|with_reducible apply D0Y|simp only[go_sem,seval,p,u,B2 _ _ d,C2 _ _ d,A,I]|omega)
     exact D13 (h1 e)
    ·rw[if_neg (fun g=>q g.2)]at e;have I:decide (B l[i]=B s)=false:=D0b fun g=>q (X9 g);repeat' (first|with_reducible apply D0Y|simp only[go_sem,seval,p,u,B2 _ _ d,C2 _ _ d,A,I]|omega)
     exact P9 [(0,.sl 1 (Rw K2 l)),(1,.str s),(5,.int .i64 i)] H (by simp only[go_sem,seval]) (D1z _) (U e)
  ·have p:decide ((i:Int)<l.length)=false:=D0b (by omega);have e:=A3i l s i y o (fun g=>absurd g (by omega));rw[if_neg (fun g=>absurd g.1 (by omega))]at e;repeat' simp only[go_sem,seval,p]
   exact P9 [(0,.sl 1 (Rw K2 l)),(1,.str s),(5,.int .i64 i)] H (by simp only[go_sem,seval]) (D1z _) (U e)
 intro e;have hm:=Nat.min_eq_left y;repeat' (first|with_reducible apply D0Y|simp only[go_sem,seval,A2N,A5Q,hm]|(intro j;try simp only[A6]at j)|omega)
 rename_i x8 X z;have V:=j;clear j;rw[E7 X]at V⊢;refine F5 (fun _=>.undef) [] ?_;repeat' (first|simp only[go_sem,seval,A2N,A5Q]|(intro j;try simp only[A6]at j))
 rename_i J;have G:=j;clear j;have L:(H.set z (.vec 1 (Rw K2 (l.take i)))) J=none:=by rw[A4 _ G.1];exact G.2
 refine A6Q 9 16 (n:=i) (m:=1) (bx:=J) (ob:=some z) (es:=Rw K2 (l.take i)) (xs:=[[.str s]]) (by simp only[go_sem,seval]) (by decide) (by simp only[go_sem,seval]) (by simp only[go_sem,seval]) (by simp only[go_sem,seval]) (by simp only[go_sem,seval]) (A3 _ _) rfl (by simp) (by show Heap.set _ J _ z=_;rw[A4 _ G.1.symm];exact A3 _ _) (N0 _ _ y).symm (by simp) (fun e=>G.1 (by injection e with e;exact e.symm)) (by simp) (by simp only[D0d,D0f];omega) (by simp only[D0d,D0f];omega) fun Y M=>?_;rw[E7 L]at M⊢;rw[show K1 (H.set z (.vec 1 (Rw K2 (l.take i)))) (some z)=H from E7 V]at M⊢;repeat' (first|with_reducible apply D0Y|simp only[go_sem,seval,A2N,A5Q]|omega)
 have O:(Rw K2 (l.take i)++[[D.str s]]).length=i+1:=by rw[D0e,N0 _ _ y];rfl
 refine B4L 9 16 (Rw K2 (l.drop i)) (b:=Y) (es:=Rw K2 (l.take i)++[[.str s]]) rfl (by simp only[go_sem,seval]) (by decide) (by simp only[go_sem,seval]) (by simp only[go_sem,seval]) ?_ ?_ rfl M (by simp) ?_ ?_ fun x hx=>?_
 ·simp only[go_sem,seval,O]
 ·simp only[go_sem,seval,List.take_length]
 ·rw[O,D6,D06];omega
 ·rw[O,D6,D06];omega
 ·have hw:Rw K2 (l.take i)++[[D.str s]]++Rw K2 (l.drop i)=Rw K2 (G8 l s):=by rw[e];simp[Rw,K2]
  have T:(Rw K2 (l.take i)++[[D.str s]]).length+(Rw K2 (l.drop i)).length=(G8 l s).length:=by rw[←D0e,hw,D6]
  rw[T,hw];repeat' simp only[go_sem,seval]
  exact D13 (h x hx)
theorem C3T{Q}(l:List ByteArray)(hl:l.length≤1000000000)(s:ByteArray)(H:Heap)(h:Q (.sl 1 (Rw K2 (G8 l s))) H):E3 90 [.sl 1 (Rw K2 l),.str s] H Q:=
 ACalls.fin (C3S l hl s H (fun e=>D13 (by rw[e]at h;exact h)) fun x hx=>Fin.out (ob:=some x) (by rw[D6]) (A3 _ _) (D10 (by show H.Le ((H.set x _).del x);rw[E7 hx];exact D1z _) h))
theorem B3P{Q}(l:List ByteArray)(hl:l.length≤1000000000)(s:ByteArray)(H:Heap)(h:Q (nsD (G8 l s)) H):E3 90 [nsD l,.str s] H Q:=by
 refine O2 (args':=[.sl 1 (Rw K2 l),.str s]) rfl (fun i d d' h1 e=>?_) (C3T l hl s H (by rw[B6m]at h;exact h))
 match i with
 |0=>cases h1;cases e;exact A8q l
 |1=>cases h1;cases e;exact .same _
 |i+2=>cases h1
end Go.Proofs.YtibphjonmikciaaGreatDoor
namespace Go.Fo
open Go Go.Av Go.Lexs Go.Lin
inductive Fm where
 |mk (op:Int) (n:Int) (l:LinV) (s:ByteArray) (ks:List Fm)
namespace Fm
def op:Fm→Int|mk o _ _ _ _=>o
def n:Fm→Int|mk _ n _ _ _=>n
def l:Fm→LinV|mk _ _ l _ _=>l
def s:Fm→ByteArray|mk _ _ _ s _=>s
def ks:Fm→List Fm|mk _ _ _ _ ks=>ks
end Fm
theorem C4E(f:Fm):f= .mk f.op f.n f.l f.s f.ks:=by cases f;rfl
def C1:Fm→List D
 | .mk o n l s ks=>[.int .i64 o,.int .i64 n,.sl 2 (Rw N7 l.t),.int .i64 l.k,.bool l.e,.str s,.sl 7 (fmsC ks)]
where fmsC:List Fm→List (List D)
 | []=>[]
 |f::fs=>C1 f::fmsC fs
theorem B9W(l:List Fm):C1.fmsC l=Rw C1 l:=by
 induction l with
 |nil=>rfl
 |cons f l d=>simp only[C1.fmsC,d];rfl
theorem M4(f:Fm):C1 f= [.int .i64 f.op,.int .i64 f.n,.sl 2 (Rw N7 f.l.t),.int .i64 f.l.k,.bool f.l.e,.str f.s,.sl 7 (Rw C1 f.ks)]:=by
 cases f;simp only[C1,B9W];rfl
theorem T7{p:Fm→Prop}(h: ∀o n l s ks,(∀k∈ks,p k)→p (.mk o n l s ks)): ∀f,p f
 | .mk o n l s ks=>h o n l s ks (go ks)
where go: ∀ks:List Fm,∀k∈ks,p k
 | [],_,hk=>absurd hk D01
 |f::fs,k,hk=>(D00.1 hk).elim (fun e=>e ▸ T7 h f) (go fs k)
inductive FmFit:Fm→Prop
 |mk (o n:Int) (l:LinV) (s:ByteArray) (ks:List Fm) (ho:U6 o) (hn:U6 n) (hl:V7 l) (hs:s.size≤140737488351232) (hk:ks.length≤1466015503658) (h: ∀k∈ks,FmFit k):FmFit (.mk o n l s ks)
def Z2(c:Int):Bool:=decide (c≠40)&&decide (c≠41)&&decide (c≠44)&&decide (c≠33)&&decide (c≠38)&&decide (c≠124)&&decide (c≠63)
def plainB(s:ByteArray):Bool:=G4 (B s)&&(B s).all (ofB Z2)
def lin0(l:LinV):Bool:=decide (l.t= [])&&decide (l.k=0)&& !l.e
def E4(f:Fm):Bool:=
 if f.op=1 then(decide (f.n=0)||decide (f.n=1))&&decide (f.s.size=0)&&lin0 f.l&&f.ks.isEmpty
 else if f.op=2 then decide (f.n=0)&&decide (f.s.size=0)&&f.ks.isEmpty&&validL f.l&&f.l.t.all fun t=>plainB t.v
 else if f.op=3 then decide (f.n=0)&&lin0 f.l&&f.ks.isEmpty&&plainB f.s
 else if f.op=4 then decide (f.n=0)&&decide (f.s.size=0)&&lin0 f.l&&decide (f.ks.length=1)
 else if f.op=5∨f.op=6 then decide (f.n=0)&&decide (f.s.size=0)&&lin0 f.l
 else false
def F3:Fm→Nat
 | .mk _ _ _ _ ks=>1+nodesL ks
where nodesL:List Fm→Nat
 | []=>0
 |f::fs=>F3 f+nodesL fs
def N6:Fm→Nat
 | .mk _ _ _ _ ks=>1+deepL ks
where deepL:List Fm→Nat
 | []=>0
 |f::fs=>max (N6 f) (deepL fs)
def I5(p:Fm→Bool):Fm→Bool
 | .mk o n l s ks=>p (.mk o n l s ks)&&allK ks
where allK:List Fm→Bool
 | []=>true
 |f::fs=>I5 p f&&allK fs
def A0j:Fm→List ByteArray×List ByteArray→List ByteArray×List ByteArray
 | .mk o _ l s ks,(a,b)=>namesK ks ((l.t.map (·.v)).foldl G8 a,if o=3 then G8 b s else b)
where namesK:List Fm→List ByteArray×List ByteArray→List ByteArray×List ByteArray
 | [],p=>p
 |f::fs,p=>namesK fs (A0j f p)
def meetL(l m:List ByteArray):Bool:=l.any fun s=>m.any fun t=>decide (s=t)
def E6(f:Fm):Bool:=I5 E4 f&&decide (N6 f≤60)&&decide (F3 f≤200)&& !meetL (A0j f ([],[])).1 (A0j f ([],[])).2&&decide ((A0j f ([],[])).1.length+(A0j f ([],[])).2.length≤12)
end Go.Fo
namespace Go.Fo
open Go Go.Av Go.Lexs Go.Lin
theorem W8{f k:Fm}(h:k∈f.ks):SizeOf.sizeOf k<SizeOf.sizeOf f:=by
 cases f with
 |mk o n l s ks=>
  have:SizeOf.sizeOf k<SizeOf.sizeOf ks:=List.sizeOf_lt_of_mem h;simp only[Fm.mk.sizeOf_spec];omega
def J0:Fm→Nat
 | .mk _ _ l _ ks=>1+l.t.length+wtL ks
where wtL:List Fm→Nat
 | []=>0
 |f::fs=>J0 f+wtL fs
theorem K4(f:Fm):J0 f=1+f.l.t.length+J0.wtL f.ks:=by cases f;rw[J0];rfl
theorem A5V(l m:List Fm):J0.wtL (l++m)=J0.wtL l+J0.wtL m:=by
 induction l with
 |nil=>simp[J0.wtL]
 |cons f l d=>simp only[D1j,J0.wtL,d];omega
theorem B9X(l:List Fm):l.length≤J0.wtL l:=by
 induction l with
 |nil=>simp
 |cons f l d=>rw[J0.wtL,D0d,K4];omega
theorem B3Q{l:List Fm}{f:Fm}(h:f∈l):J0 f≤J0.wtL l:=by
 induction l with
 |nil=>cases h
 |cons g l d=>
  rw[J0.wtL];rcases D00.1 h with rfl|h
  ·omega
  ·have:=d h;omega
theorem A4X(l:List Fm)(i:Nat)(h:i<l.length):J0.wtL (l.drop i)=J0 l[i]+J0.wtL (l.drop (i+1)):=by
 rw[D03 h,J0.wtL]
theorem FmFit.inv{f:Fm}(h:FmFit f):U6 f.op∧U6 f.n∧V7 f.l∧f.s.size≤140737488351232∧f.ks.length≤1466015503658∧∀k∈f.ks,FmFit k:=by
 cases h with
 |mk o n l s ks ho hn hl hs hk h=>exact⟨ho,hn,hl,hs,hk,h⟩
theorem FmFit.kid{f:Fm}(h:FmFit f){k:Fm}(hk:k∈f.ks):FmFit k:=h.inv.2.2.2.2.2 k hk
theorem FmFit.lin{f:Fm}(h:FmFit f):V7 f.l:=h.inv.2.2.1
theorem FmFit.txt{f:Fm}(h:FmFit f):f.s.size≤140737488351232:=h.inv.2.2.2.1
theorem FmFit.kl{f:Fm}(h:FmFit f):f.ks.length≤1466015503658:=h.inv.2.2.2.2.1
theorem A2X(f:Fm):F3 f≤J0 f:=by
 induction f using T7 with
 |h o n l s ks d=>
  rw[F3,J0];have key: ∀m:List Fm,(∀k∈m,F3 k≤J0 k)→F3.nodesL m≤J0.wtL m:=by
   intro m
   induction m with
   |nil=>intro _;simp[F3.nodesL]
   |cons f fs d=>intro h;rw[F3.nodesL,J0.wtL];have:=d (fun k hk=>h k (D0q _ hk));have:=h f (D0j ..);omega
  have:=key ks d;omega
def foldF{σ :Type}(step: σ →Fm→Int→ σ):Fm→Int→ σ → σ
 | .mk o n l s ks,d,a=>foldK step ks (IntKind.i64.wrap (d+1)) (step a (.mk o n l s ks) d)
where foldK {σ :Type} (step: σ →Fm→Int→ σ):List Fm→Int→ σ → σ
 | [],_,a=>a
 |f::fs,d,a=>foldK step fs d (foldF step f d a)
theorem A15{σ :Type}(step: σ →Fm→Int→ σ)(f:Fm)(d:Int)(a: σ):foldF step f d a=foldF.foldK step f.ks (IntKind.i64.wrap (d+1)) (step a f d):=by cases f;rw[foldF];rfl
theorem B4c{σ :Type}(step: σ →Fm→Int→ σ)(l m:List Fm)(d:Int)(a: σ):foldF.foldK step (l++m) d a=foldF.foldK step m d (foldF.foldK step l d a):=by
 induction l generalizing a with
 |nil=>rfl
 |cons f l e=>simp only[D1j,foldF.foldK,e]
theorem C3{σ :Type}(step: σ →Fm→Int→ σ)(l:List Fm)(i:Nat)(h:i<l.length)(d:Int)(a: σ):foldF.foldK step (l.take (i+1)) d a=foldF step l[i] d (foldF.foldK step (l.take i) d a):=by
 rw[D0r h,B4c];rfl
theorem B4d{σ :Type}(step: σ →Fm→Int→ σ)(I: σ →Prop)(m: ∀a g d,I a→I (step a g d)): ∀f d a,I a→I (foldF step f d a):=by
 intro f
 induction f using T7 with
 |h o n l s ks j=>
  intro d a h;rw[A15];have e:=m _ (.mk o n l s ks) d h;revert e;generalize step a (.mk o n l s ks) d=b;show I b→I (foldF.foldK step ks _ b);generalize IntKind.i64.wrap (d+1)=d1;clear h
  induction ks generalizing b with
  |nil=>intro e;exact e
  |cons f fs i=>
   intro e;rw[foldF.foldK];exact i (fun k hk=>j k (D0q _ hk)) _ (j f (D0j ..) _ _ e)
def A0k(a:Int×Int)(_:Fm)(d:Int):Int×Int:=(IntKind.i64.wrap (a.1+1),max a.2 d)
theorem B6n: ∀(f:Fm) (d:Int) (a:Int×Int),0≤d→d+J0 f≤2000000→0≤a.1→a.1+J0 f≤2000000→foldF A0k f d a=(a.1+F3 f,max a.2 (d+N6 f-1)):=by
 intro f
 induction f using T7 with
 |h o n l s ks j=>
  intro d a p q r u;have hw:J0 (.mk o n l s ks)=1+l.t.length+J0.wtL ks:=K4 _;rw[hw]at q u;have x:IntKind.i64.wrap (d+1)=d+1:=A5 (by omega) (by omega);have e:IntKind.i64.wrap (a.1+1)=a.1+1:=A5 (by omega) (by omega);rw[A15,F3,N6,x];have key: ∀(m:List Fm),(∀k∈m,k∈ks)→J0.wtL m≤J0.wtL ks→∀a:Int×Int,0≤a.1→a.1+J0.wtL m≤2000000→foldF.foldK A0k m (d+1) a=(a.1+F3.nodesL m,if m= []then a.2 else max a.2 (d+N6.deepL m)):=by
   intro m
   induction m with
   |nil=>intro _ _ a _ _;simp[foldF.foldK,F3.nodesL]
   |cons f fs i=>
    intro hm hl a y h1;rw[J0.wtL]at hl h1;have hn:=A2X f;rw[foldF.foldK,j f (hm f (D0j ..)) (d+1) a (by omega) (by omega) y (by omega),i (fun k hk=>hm k (D0q _ hk)) (by omega) _ (by simp only[];omega) (by simp only[];omega),F3.nodesL,N6.deepL];have h1:1≤N6 f:=by cases f;rw[N6];omega
    refine Prod.ext ?_ ?_
    ·show a.1+_+_=a.1+_;push_cast;omega
    ·simp only[reduceCtorEq,if_false];cases fs with
     |nil=>simp only[if_true,N6.deepL];push_cast;omega
     |cons g fs=>simp only[reduceCtorEq,if_false];push_cast;omega
  show foldF.foldK A0k ks (d+1) (A0k a _ d)=_;rw[key ks (fun _ h=>h) (D0s _) _ (by unfold A0k;simp only[e];omega) (by unfold A0k;simp only[e];omega)];unfold A0k;simp only[e];refine Prod.ext ?_ ?_
  ·show a.1+1+_=a.1+_;push_cast;omega
  ·cases ks with
   |nil=>simp only[if_true,N6.deepL];push_cast;omega
   |cons g fs=>simp only[reduceCtorEq,if_false];push_cast;omega
def A8r(p:Fm→Bool)(a:Bool)(f:Fm)(_:Int):Bool:=a&&p f
theorem B6o(p:Fm→Bool): ∀(f:Fm) (d:Int) (a:Bool),foldF (A8r p) f d a=(a&&I5 p f):=by
 intro f
 induction f using T7 with
 |h o n l s ks i=>
  intro d a;rw[A15,I5];have key: ∀(m:List Fm),(∀k∈m,k∈ks)→∀(e:Int) (a:Bool),foldF.foldK (A8r p) m e a=(a&&I5.allK p m):=by
   intro m
   induction m with
   |nil=>intro _ e a;simp[foldF.foldK,I5.allK]
   |cons f fs g=>
    intro hm e a;rw[foldF.foldK,i f (hm f (D0j ..)),g (fun k hk=>hm k (D0q _ hk)),I5.allK,Bool.and_assoc]
  show foldF.foldK (A8r p) ks _ (A8r p a _ d)=_;rw[key ks (fun _ h=>h)];unfold A8r;rw[Bool.and_assoc]
theorem A2Y(p:Fm→Bool)(f:Fm):I5 p f=(p f&&f.ks.all (I5 p)):=by
 cases f with
 |mk o n l s ks=>
  rw[I5]
  congr 1
  show I5.allK p ks=ks.all (I5 p)
  induction ks with
  |nil=>rfl
  |cons f fs d=>rw[I5.allK,d,D1b]
theorem A3j(f:Fm)(d:Nat):(N6 f≤d)↔1≤d∧∀k∈f.ks,N6 k≤d-1:=by
 cases f with
 |mk o n l s ks=>
  rw[N6];have key: ∀(m:List Fm) (e:Nat),N6.deepL m≤e↔∀k∈m,N6 k≤e:=by
   intro m e
   induction m with
   |nil=>simp[N6.deepL]
   |cons f fs g=>rw[N6.deepL,List.forall_mem_cons,←g];omega
  show _↔1≤d∧∀k∈ks,_;rw[←key];omega
theorem B4e(f:Fm):F3 f=1+F3.nodesL f.ks:=by cases f;rw[F3];rfl
theorem B17(l m:List Fm):F3.nodesL (l++m)=F3.nodesL l+F3.nodesL m:=by
 induction l with
 |nil=>simp[F3.nodesL]
 |cons f l d=>simp only[D1j,F3.nodesL,d];omega
theorem A2Z(l:List Fm)(i:Nat)(h:i<l.length):F3.nodesL (l.take (i+1))=F3.nodesL (l.take i)+F3 l[i]:=by
 rw[D0r h,B17];simp[F3.nodesL]
theorem B4f(l:List Fm):F3.nodesL l≤J0.wtL l:=by
 induction l with
 |nil=>simp[F3.nodesL]
 |cons f l d=>rw[F3.nodesL,J0.wtL];have:=A2X f;omega
def D5:Fm→List ByteArray
 | .mk _ _ l _ ks=>l.t.map (·.v)++intsL ks
where intsL:List Fm→List ByteArray
 | []=>[]
 |f::fs=>D5 f++intsL fs
def C7:Fm→List ByteArray
 | .mk o _ _ s ks=>(if o=3 then [s]else [])++boolsL ks
where boolsL:List Fm→List ByteArray
 | []=>[]
 |f::fs=>C7 f++boolsL fs
theorem A6S(f:Fm):D5 f=f.l.t.map (·.v)++D5.intsL f.ks:=by cases f;rw[D5];rfl
theorem A4Y(f:Fm):C7 f=(if f.op=3 then [f.s]else [])++C7.boolsL f.ks:=by cases f;rw[C7];rfl
theorem B4g(l m:List Fm):D5.intsL (l++m)=D5.intsL l++D5.intsL m:=by
 induction l with
 |nil=>rfl
 |cons f l d=>simp only[D1j,D5.intsL,d,D1M]
theorem B18(l m:List Fm):C7.boolsL (l++m)=C7.boolsL l++C7.boolsL m:=by
 induction l with
 |nil=>rfl
 |cons f l d=>simp only[D1j,C7.boolsL,d,D1M]
theorem A0H(l:List Fm)(i:Nat)(h:i<l.length):D5.intsL (l.take (i+1))=D5.intsL (l.take i)++D5 l[i]:=by
 rw[D0r h,B4g];simp[D5.intsL]
theorem Z3(l:List Fm)(i:Nat)(h:i<l.length):C7.boolsL (l.take (i+1))=C7.boolsL (l.take i)++C7 l[i]:=by
 rw[D0r h,B18];simp[C7.boolsL]
theorem A3k(f:Fm):(D5 f).length+(C7 f).length≤J0 f:=by
 induction f using T7 with
 |h o n l s ks d=>
  rw[D5,C7,J0];have key: ∀m:List Fm,(∀k∈m,(D5 k).length+(C7 k).length≤J0 k)→(D5.intsL m).length+(C7.boolsL m).length≤J0.wtL m:=by
   intro m
   induction m with
   |nil=>intro _;simp[D5.intsL,C7.boolsL]
   |cons f fs d=>intro h;rw[D5.intsL,C7.boolsL,J0.wtL,D0e,D0e];have:=d (fun k hk=>h k (D0q _ hk));have:=h f (D0j ..);omega
  have:=key ks d;simp only[D0e,D1H];split<;>simp<;>omega
theorem A7p(l:List Fm):(D5.intsL l).length+(C7.boolsL l).length≤J0.wtL l:=by
 induction l with
 |nil=>simp[D5.intsL,C7.boolsL]
 |cons f fs d=>rw[D5.intsL,C7.boolsL,J0.wtL,D0e,D0e];have:=A3k f;omega
theorem B4h{f:Fm}(h:FmFit f): ∀s∈D5 f,s.size≤140737488351232:=by
 induction f using T7 with
 |h o n l s ks e=>
  rw[D5];intro x hx;rcases D0y.1 hx with hx|hx
  ·obtain⟨t,g,rfl⟩:=D1W.1 hx;exact h.lin.str t g
  ·have key: ∀m:List Fm,(∀k∈m,k∈ks)→∀s∈D5.intsL m,s.size≤140737488351232:=by
    intro m
    induction m with
    |nil=>intro _ s hs;cases hs
    |cons f fs d=>
     intro hm s hs;rcases D0y.1 hs with hs|hs
     ·exact e f (hm f (D0j ..)) (h.kid (hm f (D0j ..))) s hs
     ·exact d (fun k hk=>hm k (D0q _ hk)) s hs
   exact key ks (fun _ h=>h) x hx
theorem B19{f:Fm}(h:FmFit f): ∀s∈C7 f,s.size≤140737488351232:=by
 induction f using T7 with
 |h o n l s ks e=>
  rw[C7];intro x hx;rcases D0y.1 hx with hx|hx
  ·split at hx
   ·rw[D0z]at hx;subst hx;exact h.txt
   ·cases hx
  ·have key: ∀m:List Fm,(∀k∈m,k∈ks)→∀s∈C7.boolsL m,s.size≤140737488351232:=by
    intro m
    induction m with
    |nil=>intro _ s hs;cases hs
    |cons f fs d=>
     intro hm s hs;rcases D0y.1 hs with hs|hs
     ·exact e f (hm f (D0j ..)) (h.kid (hm f (D0j ..))) s hs
     ·exact d (fun k hk=>hm k (D0q _ hk)) s hs
   exact key ks (fun _ h=>h) x hx
theorem B0o: ∀(f:Fm) (p:List ByteArray×List ByteArray),A0j f p=((D5 f).foldl G8 p.1,(C7 f).foldl G8 p.2):=by
 intro f
 induction f using T7 with
 |h o n l s ks e=>
  rintro⟨a,b⟩;rw[A0j,D5,C7];have key: ∀m:List Fm,(∀k∈m,k∈ks)→∀p,A0j.namesK m p=((D5.intsL m).foldl G8 p.1,(C7.boolsL m).foldl G8 p.2):=by
   intro m
   induction m with
   |nil=>intro _ p;rfl
   |cons f fs d=>
    intro hm p;rw[A0j.namesK,d (fun k hk=>hm k (D0q _ hk)),e f (hm f (D0j ..)),D5.intsL,C7.boolsL,D1Q,D1Q]
  rw[key ks (fun _ h=>h),D1Q,D1Q];refine Prod.ext rfl ?_;show List.foldl G8 (if o=3 then G8 b s else b) _=_;split<;>rfl
noncomputable def A5F(a:List ByteArray×List ByteArray)(f:Fm)(_:Int):List ByteArray×List ByteArray:=((f.l.t.map (·.v)).foldl I4 a.1,if f.op=3 then I4 a.2 f.s else a.2)
theorem B6p: ∀(f:Fm) (d:Int) (p:List ByteArray×List ByteArray),foldF A5F f d p=((D5 f).foldl I4 p.1,(C7 f).foldl I4 p.2):=by
 intro f
 induction f using T7 with
 |h o n l s ks i=>
  rintro d ⟨a,b⟩;rw[A15,D5,C7];have key: ∀m:List Fm,(∀k∈m,k∈ks)→∀(e:Int) p,foldF.foldK A5F m e p=((D5.intsL m).foldl I4 p.1,(C7.boolsL m).foldl I4 p.2):=by
   intro m
   induction m with
   |nil=>intro _ e p;rfl
   |cons f fs g=>
    intro hm e p;rw[foldF.foldK,g (fun k hk=>hm k (D0q _ hk)),i f (hm f (D0j ..)),D5.intsL,C7.boolsL,D1Q,D1Q]
  show foldF.foldK A5F ks _ _=_;rw[key ks (fun _ h=>h),D1Q,D1Q];refine Prod.ext rfl ?_;show List.foldl I4 (if o=3 then I4 b s else b) _=_;split<;>rfl
def upS(l:List ByteArray):List ByteArray:=l.foldl G8 []
theorem A8s(l:List ByteArray):(upS l).Pairwise fun x y=>V8 x y=true:=B0C _ _ .nil
theorem Q0(l:List ByteArray)(x:ByteArray):x∈upS l↔x∈l:=by unfold upS;rw[A7O];simp
noncomputable def J5(l:List ByteArray):List ByteArray:=l.foldl I4 []
theorem A1V(l:List ByteArray):(J5 l).Nodup:=U2 _ _ List.nodup_nil
theorem G3(l:List ByteArray)(x:ByteArray):x∈J5 l↔x∈l:=by unfold J5;rw[Go.Lin.A7g];simp
theorem B6q{l:List ByteArray}(h:l.Pairwise fun x y=>V8 x y=true):l.Nodup:=h.imp fun {a b} g e=>by subst e;rw[q0]at g;cases g
theorem A3l(l:List ByteArray):(J5 l).length=(upS l).length:=((List.perm_ext_iff_of_nodup (A1V l) (B6q (A8s l))).2 fun x=>by rw[G3,Q0]).length_eq
theorem A5X(l:List ByteArray):(J5 l).length≤l.length:=by have:=A7h l [];simpa [J5]using this
theorem A04(l m:List ByteArray):meetL l m=true↔∃x,x∈l∧x∈m:=by
 unfold meetL;simp only[List.any_eq_true,D0u];constructor
 ·rintro⟨x,hx,y,d,rfl⟩;exact⟨x,hx,d⟩
 ·rintro⟨x,hx,d⟩;exact⟨x,hx,x,d,rfl⟩
theorem A0I{l m l' m':List ByteArray}(h1: ∀x,x∈l↔x∈l')(d: ∀x,x∈m↔x∈m'):meetL l m=meetL l' m':=by
 rw[Bool.eq_iff_iff,A04,A04];exact exists_congr fun x=>by rw[h1,d]
def ivF(f:Fm):List ByteArray:=upS (D5 f)
def bvF(f:Fm):List ByteArray:=upS (C7 f)
theorem B2A(f:Fm):A0j f ([],[])=(ivF f,bvF f):=B0o f _
theorem A05(f:Fm):E6 f=(I5 E4 f&&decide (N6 f≤60)&&decide (F3 f≤200)&& !meetL (ivF f) (bvF f)&&decide ((ivF f).length+(bvF f).length≤12)):=by
 unfold E6;rw[B2A]
@[go_sem] theorem W9(o n:Int)(l:LinV)(s:ByteArray)(ks:List Fm):C1 (.mk o n l s ks)= [.int .i64 o,.int .i64 n,.sl 2 (Rw N7 l.t),.int .i64 l.k,.bool l.e,.str s,.sl 7 (Rw C1 ks)]:=M4 _
@[go_sem] theorem B9Y(f:Fm):(C1 f).length=7:=by rw[M4];rfl
@[go_sem] theorem C6t(f:Fm):(C1 f).take 7=C1 f:=by rw[M4];rfl
theorem B9Z(f:Fm):(C1 f).all D.one=true:=by rw[M4];rfl
attribute [go_sem] B9Z
@[go_sem] theorem C95(f:Fm):(C1 f).head?=some (.int .i64 f.op):=by rw[M4];rfl
@[go_sem] theorem C96(f:Fm):((C1 f).drop 1).head?=some (.int .i64 f.n):=by rw[M4];rfl
@[go_sem] theorem C97(f:Fm):((C1 f).drop 2).head?=some (.sl 2 (Rw N7 f.l.t)):=by rw[M4];rfl
@[go_sem] theorem C98(f:Fm):((C1 f).drop 3).head?=some (.int .i64 f.l.k):=by rw[M4];rfl
@[go_sem] theorem C99(f:Fm):((C1 f).drop 4).head?=some (.bool f.l.e):=by rw[M4];rfl
@[go_sem] theorem D0A(f:Fm):((C1 f).drop 5).head?=some (.str f.s):=by rw[M4];rfl
@[go_sem] theorem D0B(f:Fm):((C1 f).drop 6).head?=some (.sl 7 (Rw C1 f.ks)):=by rw[M4];rfl
@[go_sem] theorem D0C(f:Fm):((C1 f).drop 2).take 3=E5 f.l:=by rw[M4];rfl
@[go_sem] theorem B9a(a b c d e f g:D)(t:Fm):P2 [a,b,c,d,e,f,g] 0 (C1 t)=C1 t:=by rw[M4];rfl
theorem A8t{g h j m o p q r u:D}(x:NilR j m)(y:NilR r u):NilR (.agg [g,h,j,o,p,q,r]) (.agg [g,h,m,o,p,q,u]):=by
 refine .agg _ _ rfl fun i d d' h1 e=>?_
 match i with
 |0=>cases h1;cases e;exact .same _
 |1=>cases h1;cases e;exact .same _
 |2=>cases h1;cases e;exact x
 |3=>cases h1;cases e;exact .same _
 |4=>cases h1;cases e;exact .same _
 |5=>cases h1;cases e;exact .same _
 |6=>cases h1;cases e;exact y
 |i+7=>cases h1
theorem B6r{x y z:D}(h:NilR x y):NilR (.tuple [x,z]) (.tuple [y,z]):=by
 refine .tuple _ _ rfl fun i d d' h1 e=>?_
 match i with
 |0=>cases h1;cases e;exact h
 |1=>cases h1;cases e;exact .same _
 |i+2=>cases h1
theorem A4Z(o n k:Int)(e:Bool)(s:ByteArray):NilR (.agg [.int .i64 o,.int .i64 n,.nilsl,.int .i64 k,.bool e,.str s,.nilsl]) (.agg (C1 (.mk o n ⟨[],k,e⟩ s []))):=by
 rw[W9];exact A8t (.nil 2) (.nil 7)
theorem B2B(o n k:Int)(e:Bool)(s:ByteArray)(ks:List Fm):NilR (.agg [.int .i64 o,.int .i64 n,.nilsl,.int .i64 k,.bool e,.str s,.sl 7 (Rw C1 ks)]) (.agg (C1 (.mk o n ⟨[],k,e⟩ s ks))):=by
 rw[W9];exact A8t (.nil 2) (.same _)
theorem C3U(o n:Int)(l:LinV)(s:ByteArray):NilR (.agg [.int .i64 o,.int .i64 n,.sl 2 (Rw N7 l.t),.int .i64 l.k,.bool l.e,.str s,.nilsl]) (.agg (C1 (.mk o n l s []))):=by
 rw[W9];exact A8t (.same _) (.nil 7)
theorem fz7{b sz:Nat}{es:List (List D)}{g h j m o p q r u:D}(x:Fz b sz es j m)(y:Fz b sz es r u): ∀(i:Nat) d d',[g,h,j,o,p,q,r][i]? =some d→[g,h,m,o,p,q,u][i]? =some d'→Fz b sz es d d':=by
 intro i d d' h1 e
 match i with
 |0=>cases h1;cases e;exact .same _
 |1=>cases h1;cases e;exact .same _
 |2=>cases h1;cases e;exact x
 |3=>cases h1;cases e;exact .same _
 |4=>cases h1;cases e;exact .same _
 |5=>cases h1;cases e;exact .same _
 |6=>cases h1;cases e;exact y
 |i+7=>cases h1
theorem A8u{Q:D→Heap→Prop}{H:Heap}{n:Nat}{ob:Option Nat}{o m k:Int}{e:Bool}{s:ByteArray}{ks:List Fm}(hn:n=ks.length)(ho:OutAt H 7 (Rw C1 ks) ob)(h:Fin Q (.agg (C1 (.mk o m ⟨[],k,e⟩ s ks))) (K1 H ob)):
  Fin Q (.agg [.int .i64 o,.int .i64 m,.nilsl,.int .i64 k,.bool e,.str s,J1 7 n ob]) H:=by
 rw[W9]at h;cases ob with
 |none=>
  have d:Rw C1 ks= []:=ho;refine D7 ?_ h;rw[d];exact A8t (.nil 2) (.nil 7)
 |some b=>
  have hb:H b=some (.vec 7 (Rw C1 ks)):=ho;subst hn;refine Q8 (cs':=[.int .i64 o,.int .i64 m,.sl 2 [],.int .i64 k,.bool e,.str s,.sl 7 (Rw C1 ks)]) hb rfl (fz7 (.nil 2) ?_) h;show Fz b 7 (Rw C1 ks) (.vec b 7 0 ks.length) _;have:=Fz.all (b:=b) (sz:=7) (es:=Rw C1 ks);rwa [D6]at this
theorem B9b{H:Heap}{n:Nat}{ob:Option Nat}{o m k:Int}{e:Bool}{s:ByteArray}{ks:List Fm}(hn:n=ks.length)(ho:OutAt H 7 (Rw C1 ks) ob):
  View H (.agg [.int .i64 o,.int .i64 m,.nilsl,.int .i64 k,.bool e,.str s,J1 7 n ob]) (.agg (C1 (.mk o m ⟨[],k,e⟩ s ks))):=by
 rw[W9];refine .agg _ _ rfl fun i d d' h1 g=>?_
 match i with
 |0=>cases h1;cases g;exact .same _
 |1=>cases h1;cases g;exact .same _
 |2=>cases h1;cases g;exact .nil 2
 |3=>cases h1;cases g;exact .same _
 |4=>cases h1;cases g;exact .same _
 |5=>cases h1;cases g;exact .same _
 |6=>
  cases h1;cases g;cases ob with
  |none=>rw[show Rw C1 ks= []from ho];exact .nil 7
  |some b=>exact .vec b 7 n _ _ ho (by rw[D6];exact hn) rfl (fun i e e' h1 g=>by rw[h1]at g;cases g;rfl) (fun i e e' j d d' h1 g p h=>by rw[h1]at g;cases g;rw[p]at h;cases h;exact .same _)
 |i+7=>cases h1
end Go.Fo
namespace Go.Proofs.YtibphjonmikciaaGreatDoor
section
open Go Go.Shelf Go.RowKit
set_option maxHeartbeats 4000000 in
set_option maxRecDepth 100000 in
theorem B9c(n:Nat)(hn:0<n)(hb:n*96≤140737488355328)(w:World):
  Calls Tryz.prog 190 #[.slice none 0 0,.int .i64 n] w fun e w'=>∃(cs:Array Value) (G:Nat),e= .returned (.slice (some ⟨w.heap.size,0,none⟩) 0 G)∧w'=w.drew.alloc (.cells cs 28)∧cs.size=G*7∧n≤G:=by
 obtain⟨i,m,y,hs,o⟩: ∃i,Tryz.prog.info? 28=some i∧i.zero=some (Value.agg #[.int .i64 0,.int .i64 0,.slice none 0 0,.int .i64 0,.bool false,.string ⟨#[]⟩,.slice none 0 0])∧i.size=7∧i.bytes=96:=by
  have h:(Tryz.prog.info? 28).map (fun i=>(i.zero,i.size,i.bytes))=some (some (Value.agg #[.int .i64 0,.int .i64 0,.slice none 0 0,.int .i64 0,.bool false,.string ⟨#[]⟩,.slice none 0 0]),7,96):=by kernel_rfl
  obtain⟨i,m,e⟩:=D0h.1 h;simp only[Prod.mk.injEq]at e;exact⟨i,m,e.1,e.2.1,e.2.2⟩
 have p:Tryz.prog.follows .mixedOrders=true:=by kernel_rfl
 have r:=Tryz.underlying26;have a1:=Tryz.isAgg26;have C:=Tryz.sizeOf26;have v1:=Tryz.zeroValue26;have I:=run_underlying r;have u:=Tryz.underlying3;have a3:=Tryz.isAgg3;have J:=Tryz.sizeOf3;have v3:=Tryz.zeroValue3;have L:=run_underlying u;have z:=Tryz.underlying4;have M:=Tryz.isAgg4;have O:=Tryz.sizeOf4;have v4:=Tryz.zeroValue4;have T:=run_underlying z;have A:=Tryz.underlying28;have U:=Tryz.isAgg28;have V:=Tryz.sizeOf28;have W:=Tryz.zeroValue28;have X:=run_underlying A;have h1: ¬((n:Int)<0):=by omega
 have Y:RowKit.wrap64 ((n:Int)-0)=(n:Int):=by unfold RowKit.wrap64;omega
 have h4:(n:Int) > 0:=by omega
 have d:=Lib.run_append_nil_zeros w 26 3 26 28 i _ .i64 .i64 r u m y n hn (by omega) (by omega) (by rw[o];omega);obtain⟨G,q⟩: ∃G,G=grownCap w n 0 28:=⟨_,rfl⟩
 have j:n≤grownCap w n 0 28:=grownCap_ge w _ _ _;have x:G≤9223372036854775807:=by
  have:=grownCap_le_maxLen w n 0 28 (by unfold maxLen;omega);rw[←q]at this;unfold maxLen at this;omega
 rw[←q]at d j;obtain⟨cs,g⟩: ∃cs,cs=Builtin.zeroCells (Value.agg #[.int .i64 0,.int .i64 0,.slice none 0 0,.int .i64 0,.bool false,.string ⟨#[]⟩,.slice none 0 0]).cells n++Builtin.zeroCells (Value.agg #[.int .i64 0,.int .i64 0,.slice none 0 0,.int .i64 0,.bool false,.string ⟨#[]⟩,.slice none 0 0]).cells (G-n):=⟨_,rfl⟩
 have hsz:cs.size=G*7:=by
  rw[g,Array.size_append,size_zeroCells,size_zeroCells];show n*7+(G-n)*7=G*7;omega
 rw[←g]at d;clear q g
 go_enter Tryz.func190,Tryz.ntmps190
 go_wp2_with (at_builtin;refine Lib.wpList_append_run _ rfl _ _ _ _ rfl _ _ rfl rfl _ _ d ?_)
 all_goals (go_ret;exact⟨cs,G,rfl,rfl,by first|exact hsz|simpa using hsz,j⟩)
end
section
open Go Go.Av Go.Lin Go.Fo
theorem B6s{Q}(H:Heap)(d:Q .nilsl H):E3 190 [.nilsl,.int .i64 0] H Q:=by
 refine A9 [] A8 Tryz.func190 rfl ?_;simp only[go_sem,seval,Tryz.results190];repeat' (first|with_reducible apply D0Y|simp only[go_sem,seval]|simp(disch:=omega) only[A5,C3])
 all_goals exact D13 d
theorem B3R{Q}(n:Nat)(hb:n*96≤140737488355328)(H:Heap)(o:n=0→Q .nilsl H)(h:n≠0→∀b,H b=none→Q (.vec b 7 0 0) (H.set b (.vec 7 []))):E3 190 [.nilsl,.int .i64 n] H Q:=by
 by_cases hn:n=0
 ·subst hn;exact B6s H (o rfl)
 ·refine⟨by kernel_rfl,fun w vs hl hr hs=>?_⟩;obtain⟨a,b,rfl,p,g⟩:=A0F hl hr;have q:a= .slice none 0 0:=by cases p;rfl
  rw[q,g.int_inv];refine(B9c n (by omega) hb w).mono ?_;rintro e w' ⟨cs,G,rfl,rfl,hsz,r⟩;have m:=hs.same (w':=w.drew) rfl (Ext.drewN H w 1);obtain⟨d,H',u,x,y,z,A⟩:=x9 (w:=w.drew) (K:=Q) m (sz:=7) (es:=[]) (vs:=cs) 28 0 G (by omega) ⟨by simp,fun i e he=>by simp at he,fun i e j d he=>by simp at he,fun i e j d he=>by simp at he⟩ (D0t _) hsz (fun b hb=>h hn b hb);exact⟨_,rfl,d,H',u,x,(Ext.drewN H w 1).trans (D15 _ _) y,z,A⟩
theorem A7q{Q}(l m:List Fm)(hb:(l.length+m.length)*96≤140737488355328)(H:Heap)(h:Q (.sl 7 (Rw C1 (l++m))) H):E3 153 [.sl 1 [[.sl 7 (Rw C1 l)],[.sl 7 (Rw C1 m)]]] H Q:=by
 refine A9 [] A8 Tryz.func153 rfl ?_;simp only[go_sem,seval,Tryz.results153];refine C9 [0,9,10] (fun(p:Nat×Int)=>[(11,.int .i64 p.1),(3,.int .i64 p.2)]) (fun(p:Nat×Int)=>H) (fun(p:Nat×Int)=>p.1≤2∧(p.1=0→p.2=0)∧(p.1=1→p.2=l.length)∧(p.1=2→p.2=(l.length:Int)+m.length)) (fun(p:Nat×Int)=>2-p.1) ((0,0)) (⟨by simp,by simp,by simp,by simp⟩) (by(try simp only[go_sem,seval])<;>(try simp(disch:=omega) [A5])) (by first|exact D1z _|exact A0 (by assumption)|exact B3 (by assumption)|simp only[Heap.Le,Heap.set,Heap.del]at* <;>grind) ?_;rintro y rfl ⟨k,z⟩ ⟨o,g,i,j⟩;simp only at o g i j
 match k,o,g,i,j with
 |0,o,g,i,j=>
  have q:=g rfl;subst q;repeat' (first|with_reducible apply D0Y|simp only[go_sem,seval,D07]|simp(disch:=omega) only[A5,C3]|intro d|omega)
  exact C4 (1,(l.length:Int)) ⟨by simp,by simp,by simp,by simp⟩ (by simp) (by(try simp only[go_sem,seval])<;>(try simp(disch:=omega) [A5])) (D1z _)
 |1,o,g,i,j=>
  have q:=i rfl;subst q;repeat' (first|with_reducible apply D0Y|simp only[go_sem,seval,D07,D08]|simp(disch:=omega) only[A5,C3]|intro d|omega)
  exact C4 (2,(l.length:Int)+m.length) ⟨by simp,by simp,by simp,by simp⟩ (by simp) (by(try simp only[go_sem,seval])<;>(try simp(disch:=omega) [A5])) (D1z _)
 |2,o,g,i,j=>
  have q:=j rfl;subst q;have A:(l.length:Int)+m.length=((l.length+m.length:Nat):Int):=by omega
  by_cases r:l.length+m.length=0
  ·have el:l= []:=D0w (by omega);have C:m= []:=D0w (by omega);subst el;subst C;repeat' (first|with_reducible apply D0Y|simp only[go_sem,seval,A]|intro d|omega)
   refine B3R 0 (by omega) H (fun _=>?_) (fun e=>absurd rfl e);repeat' simp only[go_sem,seval]
   refine C9 [25,26] (fun(k:Nat)=>[(27,.int .i64 k),(6,.nilsl)]) (fun(k:Nat)=>H) (fun(k:Nat)=>k≤2) (fun(k:Nat)=>2-k) (0) (by omega) (by(try simp only[go_sem,seval])<;>(try simp(disch:=omega) [A5])) (by first|exact D1z _|exact A0 (by assumption)|exact B3 (by assumption)|simp only[Heap.Le,Heap.set,Heap.del]at* <;>grind) ?_;rintro y rfl k hk
   match k,hk with
   |0,_=>
    repeat' (first|with_reducible apply D0Y|simp only[go_sem,seval,D07,A0h]|simp(disch:=omega) only[A5,C3]|intro d|omega)
    exact C4 1 (by omega) (by omega) (by(try simp only[go_sem,seval])<;>(try simp(disch:=omega) [A5])) (D1z _)
   |1,_=>
    repeat' (first|with_reducible apply D0Y|simp only[go_sem,seval,D07,D08,A0h]|simp(disch:=omega) only[A5,C3]|intro d|omega)
    exact C4 2 (by omega) (by omega) (by(try simp only[go_sem,seval])<;>(try simp(disch:=omega) [A5])) (D1z _)
   |2,_=>
    repeat' (first|with_reducible apply D0Y|simp only[go_sem,seval]|intro d|omega)
    exact Fin.out (n:=0) (ob:=none) rfl rfl (D10 (D1z _) h)
   |k+3,hk=>omega
  repeat' (first|with_reducible apply D0Y|simp only[go_sem,seval,A]|intro d|omega)
  refine B3R _ hb H (fun e=>absurd e r) fun _ b u=>?_;repeat' simp only[go_sem,seval]
  refine C9 [25,26] (fun(p:Nat×Nat×List Fm)=>[(27,.int .i64 p.1),(6,.vec p.2.1 7 0 p.2.2.length)]) (fun(p:Nat×Nat×List Fm)=>H.set p.2.1 (.vec 7 (Rw C1 p.2.2))) (fun(p:Nat×Nat×List Fm)=>p.1≤2∧H p.2.1=none∧(p.1=0→p.2.2= [])∧(p.1=1→p.2.2=l)∧(p.1=2→p.2.2=l++m)) (fun(p:Nat×Nat×List Fm)=>2-p.1) ((0,b,[])) (⟨by simp,u,by simp,by simp,by simp⟩) (by(try simp only[go_sem,seval])<;>(try simp(disch:=omega) [A5])) (by first|exact D1z _|exact A0 (by assumption)|exact B3 (by assumption)|simp only[Heap.Le,Heap.set,Heap.del]at* <;>grind) ?_;rintro y rfl ⟨k,c,X⟩ ⟨o,hc,g,i,j⟩;simp only at o hc g i j
  match k,o,g,i,j with
  |0,o,g,i,j=>
   have q:=g rfl;subst q;repeat' (first|with_reducible apply D0Y|simp only[go_sem,seval,D07,E7 hc]|simp(disch:=omega) only[A5,C3]|intro d|omega)
   rename_i x;exact C4 (1,x,l) ⟨by simp,d,by simp,by simp,by simp⟩ (by simp) (by(try simp only[go_sem,seval])<;>(try simp(disch:=omega) [A5])) (D1z _)
  |1,o,g,i,j=>
   have q:=(i rfl).symm;subst q;repeat' (first|with_reducible apply D0Y|simp only[go_sem,seval,D07,D08,E7 hc]|simp(disch:=omega) only[A5,C3]|intro d|omega)
   rename_i x;exact C4 (2,x,l++m) ⟨by simp,d,by simp,by simp,by simp⟩ (by simp) (by(try simp only[go_sem,seval,D0e])<;>(try simp(disch:=omega) [A5])) (by simp only[];rw[←O7,D0n (by rw[D6];exact D0s _)];exact D1z _)
  |2,o,g,i,j=>
   have q:=j rfl;subst q;repeat' (first|with_reducible apply D0Y|simp only[go_sem,seval]|intro d|omega)
   exact Fin.out (ob:=some c) (by rw[D6,D0e]) (A3 _ _) (D10 (by show H.Le ((H.set c _).del c);rw[E7 hc];exact D1z _) h)
end
end Go.Proofs.YtibphjonmikciaaGreatDoor
namespace Go.Fo
open Go Go.Av Go.Lin
@[go_sem] theorem D0D(o n:Int)(l:LinV)(s:ByteArray)(ks:List Fm):(Fm.mk o n l s ks).op=o:=rfl
@[go_sem] theorem D0P(o n:Int)(l:LinV)(s:ByteArray)(ks:List Fm):(Fm.mk o n l s ks).n=n:=rfl
@[go_sem] theorem D0Q(o n:Int)(l:LinV)(s:ByteArray)(ks:List Fm):(Fm.mk o n l s ks).l=l:=rfl
@[go_sem] theorem D0R(o n:Int)(l:LinV)(s:ByteArray)(ks:List Fm):(Fm.mk o n l s ks).s=s:=rfl
@[go_sem] theorem D0E(o n:Int)(l:LinV)(s:ByteArray)(ks:List Fm):(Fm.mk o n l s ks).ks=ks:=rfl
end Go.Fo
namespace Go.Fo
open Go Go.Av Go.Lexs Go.Lin
structure AH(sz:Nat)(Cs:Heap)(bx:Nat)(ac:D→List D)(es:List (List D))(n:Nat)(ob:Option Nat)(Hp:Heap):Prop where
 box:Hp bx=some (.box (ac (J1 sz n ob)))
 out:OutAt Hp sz es ob
 keep: ∀q o,q≠bx→Cs q=some o→Hp q=some o
 fresh: ∀b,ob=some b→Cs b=none∧b≠bx
theorem A1B{sz:Nat}{Cs:Heap}{bx:Nat}{ac:D→List D}(h:Cs bx=some (.box (ac .nilsl))):AH sz Cs bx ac [] 0 none Cs:=⟨h,rfl,fun _ _ _ h=>h,fun _ e=>by cases e⟩
theorem AH.ne7{sz:Nat}{Cs:Heap}{bx:Nat}{ac:D→List D}{es:List (List D)}{n:Nat}{ob:Option Nat}{Hp:Heap}(h:AH sz Cs bx ac es n ob Hp){b:Nat}(hb:Hp b=none):bx≠b:=fun e=>by rw[←e,h.box]at hb;cases hb
theorem AH.at7{sz:Nat}{Cs:Heap}{bx:Nat}{ac:D→List D}{es:List (List D)}{n:Nat}{ob:Option Nat}{Hp:Heap}(h:AH sz Cs bx ac es n ob Hp){b:Nat}(hb:Hp b=none)(o:Av.Obj):(Hp.set b o) bx=some (.box (ac (J1 sz n ob)))∧(Hp.set b o) b=some o∧OutAt (Hp.set b o) sz es ob∧∀c,ob=some c→c≠b:=by
 refine⟨by rw[A4 _ (h.ne7 hb)];exact h.box,A3 _ _,?_,fun c e g=>?_⟩
 ·cases ob with
  |none=>exact h.out
  |some c=>
   have hc:Hp c=some _:=h.out;have:c≠b:=fun e=>by rw[e,hb]at hc;cases hc
   show (Hp.set b o) c=_;rw[A4 _ this];exact hc
 ·subst e;have hc:Hp c=some _:=h.out;rw[g,hb]at hc;cases hc
theorem AH.step{sz:Nat}{Cs:Heap}{bx:Nat}{ac:D→List D}{es:List (List D)}{n:Nat}{ob:Option Nat}{Hp:Heap}(h:AH sz Cs bx ac es n ob Hp){b d:Nat}(hb:Hp b=none)(o:Av.Obj)(j:K1 (Hp.set b o) ob d=none)(c:List D):
  d≠bx∧((K1 (Hp.set b o) ob).set d (.vec sz (es++[c]))) bx=some (.box (ac (J1 sz n ob)))∧AH sz Cs bx ac (es++[c]) (n+1) (some d) (((K1 (Hp.set b o) ob).set d (.vec sz (es++[c]))).set bx (.box (ac (.vec d sz 0 (n+1))))):=by
 obtain⟨x,z,A,C⟩:=h.at7 hb o;have y:K1 (Hp.set b o) ob bx=some (.box (ac (J1 sz n ob))):=by
  cases ob with
  |none=>exact x
  |some q=>
   have:=(h.fresh q rfl).2;show Heap.del _ q bx=_;rw[D4 this.symm];exact x
 have i:d≠bx:=fun e=>by rw[e,y]at j;cases j
 have hk: ∀q o',q≠bx→Cs q=some o'→K1 (Hp.set b o) ob q=some o':=fun q o' hq m=>by
  have h1:=h.keep q o' hq m;have p:q≠b:=fun e=>by rw[e,hb]at h1;cases h1
  cases ob with
  |none=>show (Hp.set b o) q=_;rw[A4 _ p];exact h1
  |some r=>
   have u:q≠r:=fun e=>by have:=(h.fresh r rfl).1;rw[←e,m]at this;cases this
   show Heap.del _ r q=_;rw[D4 u,A4 _ p];exact h1
 refine⟨i,by rw[A4 _ i.symm];exact y,A3 _ _,?_,fun q o' hq m=>?_,fun q e=>?_⟩
 ·show (Heap.set _ bx _) d=_;rw[A4 _ i];exact A3 _ _
 ·have h1:=hk q o' hq m;have p:q≠d:=fun e=>by rw[e,j]at h1;cases h1
  rw[A4 _ hq,A4 _ p];exact h1
 ·cases e;refine⟨?_,i⟩;cases g:Cs d with
  |none=>rfl
  |some o'=>have:=hk d o' i g;rw[j]at this;cases this
theorem AH.more{sz:Nat}{Cs:Heap}{bx:Nat}{ac:D→List D}{es:List (List D)}{n:Nat}{ob:Option Nat}{Hp:Heap}(h:AH sz Cs bx ac es n ob Hp){b:Nat}(hb:Hp b=none)(o:Av.Obj):AH sz Cs bx ac es n ob (Hp.set b o):=by
 obtain⟨g,j,i,m⟩:=h.at7 hb o;refine⟨g,i,fun q o' hq d=>?_,h.fresh⟩;have h1:=h.keep q o' hq d;have:q≠b:=fun e=>by rw[e,hb]at h1;cases h1
 rw[A4 _ this];exact h1
theorem AH.le{sz:Nat}{Cs H:Heap}{bx:Nat}{ac:D→List D}{es:List (List D)}{n:Nat}{ob:Option Nat}{Hp:Heap}(h:AH sz Cs bx ac es n ob Hp)(d:H.Le Cs)(hx:H bx=none):H.Le (K1 Hp ob):=fun k o hk=>by
 have g:k≠bx:=fun e=>by rw[e,hx]at hk;cases hk
 have h1:=h.keep k o g (d _ _ hk);cases ob with
 |none=>exact h1
 |some c=>
  have:k≠c:=fun e=>by have:=(h.fresh c rfl).1;rw[←e,d _ _ hk]at this;cases this
  show Heap.del _ c k=_;rw[D4 this];exact h1
theorem AH.le2{sz:Nat}{Cs H:Heap}{bx g:Nat}{ac:D→List D}{es:List (List D)}{n:Nat}{ob:Option Nat}{Hp:Heap}(h:AH sz Cs bx ac es n ob Hp)(d:H.Le Cs)(hx:H bx=none)(m:H g=none)(o:Av.Obj):H.Le (K1 (Hp.set g o) ob):=fun k q hk=>by
 have i:k≠g:=fun e=>by rw[e,m]at hk;cases hk
 have h1:=h.le d hx _ _ hk;cases ob with
 |none=>show (Hp.set g o) k=_;rw[A4 _ i];exact h1
 |some c=>
  have j:k≠c:=fun e=>by have:=(h.fresh c rfl).1;rw[←e,d _ _ hk]at this;cases this
  have h1:Heap.del Hp c k=some q:=h1;rw[D4 j]at h1;show Heap.del _ c k=_;rw[D4 j,A4 _ i];exact h1
theorem AH.out2{sz:Nat}{Cs:Heap}{bx d:Nat}{ac:D→List D}{es:List (List D)}{n:Nat}{ob:Option Nat}{Hp:Heap}(h:AH sz Cs bx ac es n ob Hp){g:Av.Obj}(i:Cs d=some g)(o:Av.Obj):OutAt (Hp.set d o) sz es ob:=by
 cases ob with
 |none=>exact h.out
 |some c=>
  have:c≠d:=fun e=>by have:=(h.fresh c rfl).1;rw[e,i]at this;cases this
  show (Hp.set d o) c=_;rw[A4 _ this];exact h.out
theorem A3m{H:Heap}{sz:Nat}{es:List (List D)}{ob:Option Nat}(h:OutAt H sz es ob){x:Nat}(hx:H x=none)(o:Av.Obj):OutAt (H.set x o) sz es ob∧ob≠some x:=by
 cases ob with
 |none=>exact⟨h,by simp⟩
 |some c=>
  have hc:H c=some _:=h;have:c≠x:=fun e=>by rw[e,hx]at hc;cases hc
  refine⟨?_,fun e=>this (by injection e)⟩;show (H.set x o) c=_;rw[A4 _ this];exact hc
theorem B3S{H:Heap}{b:Nat}{o:Av.Obj}(h:H b=some o):H.set b o=H:=by
 funext k
 unfold Av.Heap.set;by_cases e:k=b
 ·subst e;rw[if_pos rfl,h]
 ·rw[if_neg e]
theorem C3V{Q:D→Heap→Prop}{H:Heap}{n:Nat}{ob:Option Nat}{l:LinV}(hn:n=l.t.length)(ho:OutAt H 2 (Rw N7 l.t) ob)(h:Fin Q (.agg (E5 l)) (K1 H ob)):Fin Q (.agg [J1 2 n ob,.int .i64 l.k,.bool l.e]) H:=by
 have j: ∀(i:Nat) d d',[D.int .i64 l.k,.bool l.e][i]? =some d→[D.int .i64 l.k,.bool l.e][i]? =some d'→d=d':=fun i d d' h1 g=>by rw[h1]at g;injection g
 cases ob with
 |none=>
  have m:Rw N7 l.t= []:=ho;rw[B1r,m]at h;refine D7 (d':=.agg [.sl 2 [],.int .i64 l.k,.bool l.e]) (.agg _ _ rfl fun i d d' h1 g=>?_) h
  match i with
  |0=>cases h1;cases g;exact .nil 2
  |i+1=>
   simp only[D04]at h1 g;rw[j i d d' h1 g];exact .same _
 |some b=>
  have hb:H b=some (.vec 2 (Rw N7 l.t)):=ho;subst hn;refine Q8 (cs':=E5 l) hb rfl (fun i d d' h1 g=>?_) h
  match i with
  |0=>
   cases h1;cases g;show Fz b 2 (Rw N7 l.t) (.vec b 2 0 l.t.length) _;have:=Fz.all (b:=b) (sz:=2) (es:=Rw N7 l.t);rwa [D6]at this
  |i+1=>
   simp only[B1r,D04]at h1 g;rw[j i d d' h1 g];exact .same _
theorem B6t(f:Fm):(C1 f).set 2 (.sl 2 (Rw N7 f.l.t))=C1 f:=by rw[M4];rfl
theorem B6u(f:Fm)(x:D):(C1 f).set 6 x= [.int .i64 f.op,.int .i64 f.n,.sl 2 (Rw N7 f.l.t),.int .i64 f.l.k,.bool f.l.e,.str f.s,x]:=by rw[M4];rfl
abbrev ac6(f:Fm)(x:D):List D:=[.int .i64 f.op,.int .i64 f.n,.sl 2 (Rw N7 f.l.t),.int .i64 f.l.k,.bool f.l.e,.str f.s,x]
theorem C3W{Q:D→Heap→Prop}{H:Heap}{n:Nat}{ob:Option Nat}{f:Fm}{ks:List Fm}(hn:n=ks.length)(ho:OutAt H 7 (Rw C1 ks) ob)(h:Fin Q (.agg (C1 (.mk f.op f.n f.l f.s ks))) (K1 H ob)):Fin Q (.agg (ac6 f (J1 7 n ob))) H:=by
 rw[W9]at h;cases ob with
 |none=>
  have d:Rw C1 ks= []:=ho;refine D7 ?_ h;rw[d];exact A8t (.same _) (.nil 7)
 |some b=>
  have hb:H b=some (.vec 7 (Rw C1 ks)):=ho;subst hn;refine Q8 (cs':=ac6 f (.sl 7 (Rw C1 ks))) hb rfl (fz7 (.same _) ?_) h;show Fz b 7 (Rw C1 ks) (.vec b 7 0 ks.length) _;have:=Fz.all (b:=b) (sz:=7) (es:=Rw C1 ks);rwa [D6]at this
end Go.Fo
namespace Go.Av
theorem X5{P:Program}{f b n sz:Nat}{es:List (List D)}{ds:List D}{H0:Heap}{Q:D→Heap→Prop}(d:H0 b=none)(hn:n=es.length)(h:ACalls P f (.sl sz es::ds) H0 Q):ACalls P f (.vec b sz 0 n::ds) (H0.set b (.vec sz es)) Q:=
 U4 (A3 _ _) hn (by rw[E7 d];exact h)
theorem A9I{P:Program}{f b n sz:Nat}{es:List (List D)}{a:D}{ds:List D}{H0:Heap}{Q:D→Heap→Prop}(d:H0 b=none)(hn:n=es.length)(h:ACalls P f (a:: .sl sz es::ds) H0 Q):ACalls P f (a:: .vec b sz 0 n::ds) (H0.set b (.vec sz es)) Q:=
 A0b (A3 _ _) hn (by rw[E7 d];exact h)
theorem A6s{P:Program}{f m:Nat}{kvs:List (D×D)}{x:D}{ds:List D}{H:Heap}{Q:D→Heap→Prop}(hm:H m=some (.map kvs))(h:ACalls P f (.agg [x,.fm kvs]::ds) (H.del m) Q):ACalls P f (.agg [x,.map m]::ds) H Q:=by
 refine ACalls.shift (args':=.agg [x,.fm kvs]::ds) (fun w vs h1 p hs=>?_) h;have g:=E9 H m;refine⟨by simpa using h1,fun i d q=>?_,hs.less g,fun k hn=>g.held hn⟩
 match i with
 |0=>
  cases q;have j:=p 0 _ rfl;revert j;generalize vs.getD 0 undef=v1;intro j;cases j with
  |agg _ us o ho hr=>
   refine .agg _ us (by simpa using o) (fun i d' e=>?_) (fun i d' e=>?_)
   ·match i with
    |0=>exact ho 0 d' e
    |1=>cases e;rfl
    |i+2=>simp at e
   ·match i with
    |0=>exact(hr 0 d' e).less g
    |1=>
     cases e;exact B3N hs hm g (H8 (by simp[Heap.del])) (hr 1 _ rfl)
    |i+2=>simp at e
 |i+1=>exact(p (i+1) d (by simpa using q)).less g
end Go.Av
namespace Go.Proofs.YtibphjonmikciaaGreatDoor
open Go Go.Av Go.Lexs Go.Lin Go.Fo
attribute [local irreducible] ACalls S9
theorem B2C{Q}(f:Fm)(H:Heap)(h:Q (.int .i64 (if f.op=6 then 1 else 0)) H):E3 193 [.agg (C1 f)] H Q:=by
 refine A9 [] A8 Tryz.func193 rfl ?_;simp only[go_sem,seval,Tryz.results193];by_cases c:f.op=6
 ·rw[if_pos c]at h;repeat' (first|simp only[go_sem,seval,c]|intro d)
  exact D10 (A0 (by assumption)) h
 ·rw[if_neg c]at h;repeat' (first|simp only[go_sem,seval,c]|intro d)
  exact D10 (A0 (by assumption)) h
theorem C3X{Q}(l:List Fm)(n:Int)(h1:n≤1)(g:D)(H:Heap)(h:Q (.tuple []) H):E3 242 [.sl 7 (Rw C1 l),.int .i64 0,.int .i64 n,g] H Q:=by
 refine A9 [(4,.rg),(6,.rd true)] A8 Tryz.func242 rfl ?_;simp only[go_sem,seval,Tryz.results242];have c: ¬1<n:=by omega
 repeat' simp(disch:=omega) only[A5,A3M,okRest_at,T1,A37,B2,okRestE_at,A0u,B1e,A8O,B8p,A4X,C3,A2Z,A0H,Z3,J7,A8g,R2]
 refine C9 [0,1,2,3] (fun(k:Nat)=>[(8,.int .i64 1)]) (fun(k:Nat)=>H) (fun(k:Nat)=>True) (fun(k:Nat)=>0) (0) (trivial) (by simp only[go_sem,seval]) (by first|exact D1z _|exact A0 (by assumption)|exact B3 (by assumption)|simp only[Heap.Le,Heap.set,Heap.del]at* <;>grind) ?_;rintro d rfl k _;repeat' simp only[go_sem,seval,c]
 exact D13 h
theorem B6v{Q}(l:List Fm)(hl:l.length≤1)(g:D)(H:Heap)(h:Q (.tuple []) H):E3 219 [.sl 7 (Rw C1 l),.int .i64 l.length,g] H Q:=by
 refine A9 [] A8 Tryz.func219 rfl ?_;simp only[go_sem,seval,Tryz.results219];have c: ¬(20:Int)≤l.length:=by omega
 have d: ¬(20:Int)<l.length:=by omega
 repeat' (first|with_reducible apply D0Y|simp only[go_sem,seval]|simp(disch:=omega) only[C3]|intro e|omega)
 refine C9 [0,1,2,6] (fun(k:Nat)=>[(7,.int .i64 0),(8,.int .i64 20)]) (fun(k:Nat)=>H) (fun(k:Nat)=>True) (fun(k:Nat)=>0) (0) (trivial) (by simp only[go_sem,seval]) (by first|exact D1z _|exact A0 (by assumption)|exact B3 (by assumption)|simp only[Heap.Le,Heap.set,Heap.del]at* <;>grind) ?_;rintro i rfl k _;repeat' (first|simp only[go_sem,seval,c]|with_reducible refine C3X l _ (by omega) _ _ ?_)
 refine C9 [0,1,2] (fun(k:Nat)=>[(6,.int .i64 20)]) (fun(k:Nat)=>H) (fun(k:Nat)=>True) (fun(k:Nat)=>0) (0) (trivial) (by simp only[go_sem,seval]) (by first|exact D1z _|exact A0 (by assumption)|exact B3 (by assumption)|simp only[Heap.Le,Heap.set,Heap.del]at* <;>grind) ?_;rintro i rfl k _;repeat' simp only[go_sem,seval,d]
 exact D13 h
theorem A3n{Q}(l:List Fm)(hl:l.length≤1)(g:D)(H:Heap)(h:Q (.tuple []) H):E3 191 [.sl 7 (Rw C1 l),g] H Q:=by
 refine A9 [] A8 Tryz.func191 rfl ?_;simp only[go_sem,seval,Tryz.results191];repeat' (first|simp only[go_sem,seval]|with_reducible refine B6v l hl _ _ ?_)
 exact D13 h
theorem B6w{Q}(c:List Fm)(hc:c≠[])(hl:c.length≤1000000)(H:Heap)(h: ∀b,H b=none→Q (.vec b 7 0 c.length) (H.set b (.vec 7 (Rw C1 c)))):E3 194 [.sl 7 (Rw C1 c)] H Q:=by
 have i:Rw C1 c≠[]:=fun e=>hc (D0w (by rw[←D6 (f:=C1),e];rfl));refine A9 [] A8 Tryz.func194 rfl ?_;simp only[go_sem,seval,Tryz.results194];have hq: ∀(x:Nat),K7 Tryz.prog .eql 26 (K6 (.tmp x)||K6 (.const (.slice none 0 0))) (.sl 7 (Rw C1 c)) .nilsl=some (.bool false):=fun x=>A56 i (by kernel_rfl);repeat' (first|with_reducible apply D0Y|simp only[go_sem,seval,hq]|intro d|omega)
 rename_i m j o;have g:=d;clear d;rw[E7 j]at g⊢;exact D13 (h _ g)
theorem B6x{Q}(cs c:List LinV)(m:D)(hm:(∃k,m= .fm k)∨∃b,m= .map b)(hb:(cs.length+c.length)*40≤140737488355328)(H:Heap)(h:Q (.agg [.sl 3 (Rw E5 (cs++c)),m]) H):E3 123 [.agg [.sl 3 (Rw E5 cs),m],.sl 3 (Rw E5 c)] H Q:=by
 refine A9 [] A8 Tryz.func123 rfl ?_;simp only[go_sem,seval,Tryz.results123];rcases hm with⟨k,rfl⟩|⟨b,rfl⟩
 ·repeat' (first|with_reducible apply D0Y|simp only[go_sem,seval]|simp(disch:=first|omega|grind) only[B4]|(intro d;try simp only[A6]at d))
  rename_i e g i j x;have hx:=d;clear d;refine X5 (es:=[[.sl 3 (Rw E5 cs)],[.sl 3 (Rw E5 c)]]) (A6.2 ⟨hx.1,A6.2 hx.2⟩) rfl ?_;refine A7d cs c hb _ ?_;repeat' (first|simp only[go_sem,seval]|simp(disch:=first|omega|grind) only[B4])
  exact D10 (by simp only[D9,D2,D3]at* <;>grind) h
 ·repeat' (first|with_reducible apply D0Y|simp only[go_sem,seval]|simp(disch:=first|omega|grind) only[B4]|(intro d;try simp only[A6]at d))
  rename_i e g i j x;have hx:=d;clear d;refine X5 (es:=[[.sl 3 (Rw E5 cs)],[.sl 3 (Rw E5 c)]]) (A6.2 ⟨hx.1,A6.2 hx.2⟩) rfl ?_;refine A7d cs c hb _ ?_;repeat' (first|simp only[go_sem,seval]|simp(disch:=first|omega|grind) only[B4])
  exact D10 (by simp only[D9,D2,D3]at* <;>grind) h
end Go.Proofs.YtibphjonmikciaaGreatDoor
namespace Go.Av
section
variable {P:Program} {ops:Array Oper}
def C6u(P:Program)(o:Oper)(K:Kg)(F:FEnv)(H:Heap):Prop:=o.guard=none∧D0 P F.ev H (fun d H'=>K (F.put o.dst d) H') o.op
def B9d(P:Program)(ops:Array Oper)(K:Kg):Nat→Array Bool→Kg
 |0,listed=>fun F H=>Region.ready .any ops listed= []∧K F H
 |fuel+1,listed=>fun F H=>(Region.ready .any ops listed= []→K F H)∧∀i∈Region.ready .any ops listed,∃o,ops[i]? =some o∧C6u P o (B9d P ops K fuel (listed.setIfInBounds i true)) F H
theorem B2D{N:Nat}{w0:World}{H0:Heap}{o:Oper}{K:Kg}{F:FEnv}{H:Heap}{a:Act}{w:World}(q: ∀t,o.dst=some t→t<N)(h:C6u P o K F H)(hst:StO N w0 H0 F H a w):
  opSem P none o a w fun v w'=>∃p H',StO N w0 H0 p H' (a.put o.dst v) w'∧K p H':=by
 refine(N3 (o:=o) hst.sat hst.evR h.2).mono fun v w' hp=>?_;obtain⟨d,H',r,u,j,m,hk⟩:=hp;refine⟨F.put o.dst d,H',⟨?_,?_,fun i=>?_,u,hst.ext.trans hst.frm j,hst.frm.trans hst.ext.size m⟩,hk⟩
 ·cases e:o.dst<;>simp[Act.put,hst.size]
 ·cases e:o.dst<;>simp[Act.put,hst.defers]
 ·cases e:o.dst with
  |none=>exact(hst.env i).mono j m
  |some t=>
   have x:=q t e;simp only[FEnv.put];by_cases g:t=i
   ·subst g;rw[if_pos rfl];have:(a.put (some t) v).eval (.tmp t)=v:=by
     have y:t<a.tmps.size:=by rw[hst.size];exact x
     simp[Act.eval,Act.put,y]
    rw[this];exact r
   ·rw[if_neg g];have:(a.put (some t) v).eval (.tmp i)=a.eval (.tmp i):=by
     simp[Act.eval,Act.put,D1C g]
    rw[this];exact(hst.env i).mono j m
theorem A6T{N:Nat}{w0:World}{H0:Heap}{K:Kg}{Q:Exit→Act→World→Prop}(p: ∀o∈ops.toList,∀t,o.dst=some t→t<N)
  (m: ∀F H a w,StO N w0 H0 F H a w→K F H→Q .normal a w): ∀(fuel:Nat) (d:Array Bool) (F:FEnv) (H:Heap) (a:Act) (w:World),
  B9d P ops K fuel d F H→StO N w0 H0 F H a w→Go.wpAny P .any ops Q fuel d a w
 |0,_,F,H,a,w,h,hst=>⟨h.1,m _ _ _ _ hst h.2⟩
 |fuel+1,d,F,H,a,w,h,hst=>⟨fun q=>m _ _ _ _ hst (h.1 q),fun i r=>by
   obtain⟨o,ho,h1⟩:=h.2 i r;unfold Go.wpOp;split
   ·rename_i hn;rw[hn]at ho;cases ho
   ·rename_i o' e;rw[ho]at e;cases e;have g:o∈ops.toList:=by rw[D1D];exact Array.mem_of_getElem? ho
    rw[if_pos (by simp[Region.wanted,h1.1])];exact .inl (opSem.wp ((B2D (p o g) h1 hst).mono fun v w' hv=>by
     obtain⟨u,H',j,hk⟩:=hv;exact A6T p m fuel _ _ _ _ _ hk j))⟩
theorem B2E{f:Nat}{fn:Func}{c:Code}{id:Nat}{args:List D}{H:Heap}{Q:D→Heap→Prop}(hm:P.follows .mixedOrders=true)(I:P.funcs[f]? =some fn)(hb:fn.body=some (.seq c (.region id ops true)))(p:A1l P f=true)(hn:args.length≤fn.ntmps)
  (q:fn.results= #[]) (u:N4 P [] fn.ntmps c=true) (J:(ops.toList.all fun o=>match o.dst with|some t=>decide (t<fn.ntmps)|none=>true)=true)
  (h:wp P [] c (fun x E H=>x= .normal∧B9d P ops (fun _ H=>Fin Q (.tuple []) H) ops.size (Array.replicate ops.size false) E.get H) (V5 0 args) H):ACalls P f args H Q:=by
 refine⟨p,fun w vs hl L hs=>calls_of_wp I hb ?_⟩;have hst:St fn.ntmps w H (V5 0 args) H {tmps:=vs++Array.replicate (fn.ntmps-vs.size) undef,defers:=[]} w:=by
  refine⟨by simp;omega,rfl,fun i=>?_,hs,D16 _ _,D15 _ _⟩;rw[y4,if_pos (D0t _),Nat.sub_zero];cases C:args[i]? with
  |none=>exact .undef _
  |some d=>
   have M:=(D0i.1 C).1;have:({tmps:=vs++Array.replicate (fn.ntmps-vs.size) undef,defers:=[]}:Act).eval (.tmp i)=vs.getD i undef:=by
    simp only[Act.eval];exact G1 (by omega)
   rw[this];exact L i d C
 refine Go.wp_seq (Go.wp_mono (y3 hm c _ _ _ _ _ u h hst) fun e a w' he=>?_);cases e with
 |normal=>
  obtain⟨E,H',g,_,hq⟩:=he;refine wp_region_any hm ?_;have he:Ext H' w' {w' with drawn:=w'.drawn+1}:=Ext.drewN H' w' 1;have y:=g.sat.same (w':={w' with drawn:=w'.drawn+1}) rfl he;refine A6T (N:=fn.ntmps) (w0:=w) (H0:=H) (fun o ho t O=>?_) (fun F T a1 G j hk=>?_) _ _ E.get H' a _ hq ⟨g.size,g.defers,fun i=>(g.env i).mono he (D15 _ _),y,g.ext.trans g.frm he,g.frm⟩
  ·have:=D09.1 J o ho;rw[O]at this;simpa using this
  ·unfold Fin at hk;obtain⟨U,V,z,W⟩:=hk;have m:St fn.ntmps w H [] T a1 G:=⟨j.size,j.defers,fun i=>.undef _,j.sat,j.ext,j.frm⟩
   obtain⟨v,hv,A⟩:=A2M (P:=P) (fn:=fn) (r:=.tuple []) m (by rw[q];rfl);obtain⟨X,Y,k3⟩:=z G v A j.sat;exact⟨j.defers,v,hv,v,rfl,V,U,X,Y,j.ext,fun k hk hn=>k3 k (j.frm k hk hn),W⟩
 |exit id=>obtain⟨E,H',g,hq⟩:=he;exact absurd hq.1 (by simp)
 |ret=>obtain⟨E,H',g,hq⟩:=he;exact absurd hq.1 (by simp)
 |_=>exact he.elim
def J8(o:Oper):List Nat:=(o.after.toList.filter fun e=>Region.binds .any e).map (·.on)
theorem A1W{g:Array Bool}{i:Nat}(h:i∈Region.ready .any ops g):g.getD i true=false∧∃o,ops[i]? =some o∧∀d∈J8 o,g.getD d false=true:=by
 obtain⟨h1,o,ho,p⟩:=mem_ready.1 h;refine⟨h1,o,ho,fun d q=>?_⟩;obtain⟨e,he,rfl⟩:=D1W.1 q;obtain⟨j,m⟩:=List.mem_filter.1 he;exact p e (by simpa using j) m
theorem A6U{g:Array Bool}{i:Nat}{o:Oper}(h1:g.getD i true=false)(ho:ops[i]? =some o)(h: ∀d∈J8 o,g.getD d false=true):i∈Region.ready .any ops g:=
 mem_ready.2 ⟨h1,o,ho,fun e he hb=>h e.on (D1W.2 ⟨e,List.mem_filter.2 ⟨by simpa using he,hb⟩,rfl⟩)⟩
end
section
variable {P:Program} {ops:Array Oper}
structure EvC(ev:Operand→D):Prop where
 const: ∀v,ev (.const v)=D.ofValue v
 func: ∀f,ev (.func f)= .fn (.func f) [] []
def B0p(P:Program)(ops:Array Oper)(vals:Nat→D)(B:Heap)(E0:FEnv):Prop:=∀i o,ops[i]? =some o→o.guard=none∧∀F:FEnv,(∀j oj,ops[j]? =some oj→j∈J8 o→∀t,oj.dst=some t→F t=vals j)→(∀t,(ops.toList.all fun oj=>oj.dst != some t)=true→F t=E0 t)→
 D0 P F.ev B (Fin fun d H=>d=vals i∧H=B) o.op
structure C3Y(ops:Array Oper)(vals:Nat→D)(E0:FEnv)(l:Array Bool)(F:FEnv):Prop where
 size:l.size=ops.size
 set: ∀j oj,ops[j]? =some oj→l.getD j false=true→∀t,oj.dst=some t→F t=vals j
 els: ∀t,(ops.toList.all fun oj=>oj.dst != some t)=true→F t=E0 t
theorem B4i{N:Nat}{w0:World}{H0 B:Heap}{vals:Nat→D}{E0:FEnv}{Q:Exit→Act→World→Prop}(hd: ∀o∈ops.toList,∀t,o.dst=some t→t<N)(C: ∀(i j:Nat) (oi oj:Oper),ops[i]? =some oi→ops[j]? =some oj→∀t,oi.dst=some t→oj.dst=some t→i=j)
  (G:B0p P ops vals B E0) (J: ∀l:Array Bool,l.size=ops.size→Region.ready .any ops l= []→∀i,i<ops.size→l.getD i false=true)
  (hQ: ∀F a w,StO N w0 H0 F B a w→C3Y ops vals E0 (Array.replicate ops.size true) F→Q .normal a w): ∀(fuel:Nat) (g:Array Bool) (F:FEnv) (a:Act) (w:World),
  (g.toList.filter (!·)).length≤fuel→C3Y ops vals E0 g F→StO N w0 H0 F B a w→Go.wpAny P .any ops Q fuel g a w:=by
 have fin: ∀(l:Array Bool) (F:FEnv) (a:Act) (w:World),C3Y ops vals E0 l F→StO N w0 H0 F B a w→Region.ready .any ops l= []→Q .normal a w:=fun l F a w I hst O=>by
  refine hQ F a w hst ⟨by simp,fun j oj u _=>I.set j oj u (J l I.size O j (D0x.1 u).1),I.els⟩
 intro fuel
 induction fuel with
 |zero=>
  intro l F a w hc I hst;have hr:Region.ready .any ops l= []:=by
   cases hr:Region.ready .any ops l with
   |nil=>rfl
   |cons i r=>
    exfalso;obtain⟨h1,o,ho,_⟩:=A1W (by rw[hr];exact D0j .. :i∈Region.ready .any ops l);have hi:=(D0x.1 ho).1;have:=I.size;have hl:l.toList[i]? =some false:=by
     have:i<l.size:=by omega
     simp[this]at h1⊢;exact h1
    have hm:false∈l.toList.filter (!·):=List.mem_filter.2 ⟨D05 hl,rfl⟩;have:=List.length_pos_of_mem hm;omega
  exact⟨hr,fin l F a w I hst hr⟩
 |succ n T=>
  intro l F a w hc I hst;refine⟨fun O=>fin l F a w I hst O,fun i hi=>?_⟩;obtain⟨hu,o,ho,U⟩:=A1W hi;have a5:=(D0x.1 ho).1;have V:=I.size;have W:i<l.size:=by omega
  obtain⟨hg,X⟩:=G i o ho;have x:o∈ops.toList:=by rw[D1D];exact Array.mem_of_getElem? ho
  unfold Go.wpOp;split
  ·rename_i hn;rw[hn]at ho;cases ho
  ·rename_i o' L;rw[ho]at L;cases L;rw[if_pos (by simp[Region.wanted,hg])];refine .inl (opSem.wp ((N3 (o:=o) hst.sat hst.evR (X F (fun j oj u hm t q=>I.set j oj u (U j hm) t q) I.els)).mono fun v w' hp=>?_));obtain⟨d,H',hR,hS,hE,hF,hk⟩:=hp;unfold Fin at hk;obtain⟨H2,d2,M,Y,a0⟩:=hk;rw[Y,a0]at M;obtain⟨k1,k2,k3⟩:=M w' v hR hS;have a4:Ext H0 w0 w':=hst.ext.trans hst.frm hE;refine T _ (F.put o.dst (vals i)) _ _ ?_ ⟨by simpa using V,fun j oj u hm t q=>?_,fun t q=>?_⟩ ⟨?_,?_,fun s=>?_,k2,a4,fun k hk hn=>k3 k ((hst.frm.trans hst.ext.size hF) k hk hn)⟩
   ·have key: ∀(m:List Bool) (i:Nat),m[i]? =some false→((m.set i true).filter (!·)).length+1=(m.filter (!·)).length:=by
     intro m
     induction m with
     |nil=>intro i h;simp at h
     |cons b m T=>
      intro i h;cases i with
      |zero=>simp at h;subst h;simp
      |succ i=>
       have:=T i (by simpa using h);cases b<;>simp[List.set_cons_succ]<;>omega
    have hl:l.toList[i]? =some false:=by
     simp[W]at hu⊢;exact hu
    have:=key l.toList i hl;rw[Array.toList_setIfInBounds];omega
   ·by_cases e:i=j
    ·subst e;rw[ho]at u;cases u;rw[q];simp[FEnv.put]
    ·have y:o.dst≠some t:=fun e2=>e (C i j o oj ho u t e2 q);have hp:F.put o.dst (vals i) t=F t:=by
      cases z:o.dst with
      |none=>rfl
      |some s=>
       have:s≠t:=fun e=>y (by rw[z,e]);simp[FEnv.put,this]
     rw[hp];refine I.set j oj u ?_ t q;rw[getD_set_ne false e]at hm;exact hm
   ·have y:o.dst≠some t:=fun e=>by
     have:=D09.1 q o x;rw[e]at this;simp at this
    have hp:F.put o.dst (vals i) t=F t:=by
     cases z:o.dst with
     |none=>rfl
     |some s=>
      have:s≠t:=fun e=>y (by rw[z,e]);simp[FEnv.put,this]
    rw[hp];exact I.els t q
   ·cases p:o.dst<;>simp[Act.put,hst.size]
   ·cases p:o.dst<;>simp[Act.put,hst.defers]
   ·have old: ∀s,R w' B (F s) (a.eval (.tmp s)):=fun s=>(hst.env s).mono hE (fun k hk hn=>k3 k (hF k hk hn));cases p:o.dst with
    |none=>exact old s
    |some t=>
     have q:=hd o x t p;simp only[FEnv.put];by_cases A:t=s
     ·subst A;rw[if_pos rfl];have:(a.put (some t) v).eval (.tmp t)=v:=by
       have h':t<a.tmps.size:=by rw[hst.size];exact q
       simp[Act.eval,Act.put,h']
      rw[this];exact k1
     ·rw[if_neg A];have:(a.put (some t) v).eval (.tmp s)=a.eval (.tmp s):=by
       simp[Act.eval,Act.put,D1C A]
      rw[this];exact old s
def C3Z(ops:Array Oper):Bool:=(List.range ops.size).all fun i=>(List.range ops.size).all fun j=>i==j||((ops[i]?.bind (·.dst)).isNone||(ops[i]?.bind (·.dst)) != (ops[j]?.bind (·.dst)))
def B6y(ops:Array Oper):Bool:=(List.range ops.size).all fun i=>match ops[i]? with
 |some o=>(J8 o).all fun d=>decide (d<i)
 |none=>true
theorem B9e(g:B6y ops=true): ∀l:Array Bool,l.size=ops.size→Region.ready .any ops l= []→∀i,i<ops.size→l.getD i false=true:=by
 intro l hs h i
 induction i using Nat.strongRecOn with
 |_ i j=>
  intro e;cases hc:l.getD i false with
  |true=>rfl
  |false=>
   exfalso;have ho:ops[i]? =some ops[i]:=Array.getElem?_eq_getElem e;have h1:=D09.1 g i (List.mem_range.2 e);rw[ho]at h1;have m:l.getD i true=false:=by
    have:i<l.size:=by omega
    simp[this]at hc⊢;exact hc
   have:=A6U m ho fun d o=>by
    have:=D09.1 h1 d o;simp only[D0u]at this;exact j d this (by omega)
   rw[h]at this;cases this
theorem A29{f:Nat}{fn:Func}{c:Code}{id:Nat}{args:List D}{H:Heap}{Q:D→Heap→Prop}(hm:P.follows .mixedOrders=true)(hf:P.funcs[f]? =some fn)(hb:fn.body=some (.seq c (.seq (.region id ops true) .ret)))(L:A1l P f=true)(hn:args.length≤fn.ntmps)
  (i t:Nat) (M:fn.results= #[.tmp t]) (G:(ops[i]?.map (·.dst))=some (some t)) (O:N4 P [] fn.ntmps c=true) (hd:(ops.toList.all fun o=>match o.dst with|some t=>decide (t<fn.ntmps)|none=>true)=true) (u:C3Z ops=true) (y:B6y ops=true)
  (h:wp P [] c (fun x E H'=>x= .normal∧∃vals:Nat→D,B0p P ops vals H' E.get∧Fin Q (vals i) H') (V5 0 args) H):ACalls P f args H Q:=by
 refine⟨L,fun w vs hl hR hs=>calls_of_wp hf hb ?_⟩;have hst:St fn.ntmps w H (V5 0 args) H {tmps:=vs++Array.replicate (fn.ntmps-vs.size) undef,defers:=[]} w:=by
  refine⟨by simp;omega,rfl,fun i=>?_,hs,D16 _ _,D15 _ _⟩;rw[y4,if_pos (D0t _),Nat.sub_zero];cases G:args[i]? with
  |none=>exact .undef _
  |some d=>
   have a9:=(D0i.1 G).1;have:({tmps:=vs++Array.replicate (fn.ntmps-vs.size) undef,defers:=[]}:Act).eval (.tmp i)=vs.getD i undef:=by
    simp only[Act.eval];exact G1 (by omega)
   rw[this];exact hR i d G
 refine Go.wp_seq (Go.wp_mono (y3 hm c _ _ _ _ _ O h hst) fun e a w' he=>?_);cases e with
 |normal=>
  obtain⟨E,H',g,_,vals,hq,p⟩:=he;refine Go.wp_seq (wp_region_any hm ?_);have he:Ext H' w' {w' with drawn:=w'.drawn+1}:=Ext.drewN H' w' 1;have T:=g.sat.same (w':={w' with drawn:=w'.drawn+1}) rfl he;refine B4i (N:=fn.ntmps) (w0:=w) (H0:=H) (B:=H') (vals:=vals) (E0:=E.get) (fun o ho t ht=>?_) (fun i j oi oj z A t U V=>?_) hq (B9e y) (fun F a1 w1 m I=>?_) ops.size _ E.get a _ ?_ ⟨by simp,fun j oj hj hm=>?_,fun _ _=>rfl⟩ ⟨g.size,g.defers,fun i=>(g.env i).mono he (D15 _ _),T,g.ext.trans g.frm he,g.frm⟩
  ·have:=D09.1 hd o ho;rw[ht]at this;simpa using this
  ·have W:=(D0x.1 z).1;have X:=(D0x.1 A).1;have:=D09.1 (D09.1 u i (List.mem_range.2 W)) j (List.mem_range.2 X);rw[z,A]at this;simp only[D02,U,V,Option.isNone_some,bne_self_eq_false,Bool.or_self,Bool.or_false,beq_iff_eq]at this;exact this
  ·obtain⟨o,ho,Y⟩:=D0h.1 G;have hF:F t=vals i:=I.set i o ho (by
    have:=(D0x.1 ho).1;simp[this]) t Y
   unfold Fin at p;obtain⟨H2,q,a0,p⟩:=p;have C:St fn.ntmps w H [(t,vals i)] H' a1 w1:=⟨m.size,m.defers,fun j=>by
    by_cases e:t=j
    ·subst e;have:Env.get [(t,vals i)] t=vals i:=by simp[Env.get]
     rw[this,←hF];exact m.env t
    ·have:Env.get [(t,vals i)] j= .undef:=by simp[Env.get,e]
     rw[this];exact .undef _,m.sat,m.ext,m.frm⟩
   refine Go.wp_mono (y3 (P:=P) (Z:=[]) hm .ret (A8L P fn.results.toList Q) _ _ _ _ rfl ⟨vals i,by rw[M];simp[A2u,A0R,Env.get],H2,q,a0,p⟩ C) fun x a w' he=>?_
   have fin: ∀(x:AX) (E:Env) (H':Heap) (a:Act) (w':World),(x= .normal∨x= .ret)→St fn.ntmps w H E H' a w'→A8L P fn.results.toList Q x E H'→
     a.defers= []∧∃v,(results fn a.tmps).run P w'= .ok v w'∧∃v',Ending.returned v= .returned v'∧Post H w Q v' w':=by
    intro x E H' a w' hx g hq;have a4: ∃r,A2u P fn.results.toList E H'=some r∧∃J q,Shift H' r J q∧Q q J:=by rcases hx with rfl|rfl<;>exact hq
    obtain⟨r,hr,J,q,a5,p⟩:=a4;obtain⟨v,hv,a6⟩:=A2M (P:=P) g hr;obtain⟨k1,k2,k3⟩:=a5 _ _ a6 g.sat;exact⟨g.defers,v,hv,v,rfl,q,J,k1,k2,g.ext,fun k hk hn=>k3 k (g.frm k hk hn),p⟩
   cases x with
   |normal=>obtain⟨E,H',g,hq⟩:=he;exact fin .normal E H' a w' (.inl rfl) g hq
   |ret=>obtain⟨E,H',g,hq⟩:=he;exact fin .ret E H' a w' (.inr rfl) g hq
   |exit id=>obtain⟨E,H',g,hq⟩:=he;exact hq.elim
   |_=>exact he.elim
  ·have: ∀n:Nat,((Array.replicate n false).toList.filter (!·)).length≤n:=fun n=>by simp
   exact this _
  ·rw[show (Array.replicate ops.size false).getD j false=false by simp[Array.getElem?_replicate];split<;>simp]at hm;cases hm
 |exit id=>obtain⟨E,H',g,hq⟩:=he;exact absurd hq.1 (by simp)
 |ret=>obtain⟨E,H',g,hq⟩:=he;exact absurd hq.1 (by simp)
 |_=>exact he.elim
end
end Go.Av
namespace Go.Proofs.YtibphjonmikciaaGreatDoor
open Go Go.Av
noncomputable def svOps:Array Oper:=match Tryz.f73.body with|some (.seq _ (.seq (.region _ ops _) _))=>ops|_=> #[]
theorem C3a{vals:Nat→D}{B:Av.Heap}{E0:FEnv}
  (x: ∀ev:Operand→D,EvC ev→Av.D0 Tryz.prog ev B (Av.Fin fun d H=>d=vals 0∧H=B) (Go.Op.makeMap 72 none))
  (h1: ∀ev:Operand→D,EvC ev→ev (.tmp 5)=vals 0→Av.D0 Tryz.prog ev B (Av.Fin fun d H=>d=vals 1∧H=B) (Go.Op.build 150 #[(1,(Go.Operand.tmp 5))]))
  (y: ∀ev:Operand→D,EvC ev→ev (.tmp 1)=E0 1→Av.D0 Tryz.prog ev B (Av.Fin fun d H=>d=vals 2∧H=B) (Go.Op.move (Go.Operand.tmp 1)))
  (z: ∀ev:Operand→D,EvC ev→ev (.tmp 6)=vals 1→ev (.tmp 7)=vals 2→Av.D0 Tryz.prog ev B (Av.Fin fun d H=>d=vals 3∧H=B) (Go.Op.call {callee:=(Go.Callee.value (Go.Operand.func 123)),args:= #[(Go.Operand.tmp 6),(Go.Operand.tmp 7)],argTypes:= #[150,110]}))
  (A: ∀ev:Operand→D,EvC ev→ev (.tmp 2)=E0 2→Av.D0 Tryz.prog ev B (Av.Fin fun d H=>d=vals 4∧H=B) (Go.Op.load 28 (Go.Operand.tmp 2)))
  (h5: ∀ev:Operand→D,EvC ev→ev (.tmp 9)=vals 4→Av.D0 Tryz.prog ev B (Av.Fin fun d H=>d=vals 5∧H=B) (Go.Op.call {callee:=(Go.Callee.value (Go.Operand.func 50)),args:= #[(Go.Operand.tmp 9),(Go.Operand.const (Go.Value.bool false))],argTypes:= #[28,4]}))
  (C: ∀ev:Operand→D,EvC ev→ev (.tmp 10)=vals 5→Av.D0 Tryz.prog ev B (Av.Fin fun d H=>d=vals 6∧H=B) (Go.Op.buildSlice 26 1 #[(0,(Go.Operand.tmp 10))]))
  (G: ∀ev:Operand→D,EvC ev→ev (.tmp 8)=vals 3→ev (.tmp 11)=vals 6→Av.D0 Tryz.prog ev B (Av.Fin fun d H=>d=vals 7∧H=B) (Go.Op.call {callee:=(Go.Callee.value (Go.Operand.func 124)),args:= #[(Go.Operand.tmp 8),(Go.Operand.tmp 11)],argTypes:= #[150,26]}))
  (I: ∀ev:Operand→D,EvC ev→ev (.tmp 12)=vals 7→Av.D0 Tryz.prog ev B (Av.Fin fun d H=>d=vals 8∧H=B) (Go.Op.assign (Go.Operand.tmp 12)))
  :B0p Tryz.prog svOps vals B E0:=by
 obtain⟨J,g,L,M,O,w0⟩: ∃o,svOps[0]? =some o∧o.dst=some 5∧o.op=(Go.Op.makeMap 72 none)∧o.guard=none∧(∀j∈([]:List Nat),j∈J8 o):=⟨_,rfl,rfl,rfl,rfl,by simp⟩
 obtain⟨T,o1,d1,U,V,W⟩: ∃o,svOps[1]? =some o∧o.dst=some 6∧o.op=(Go.Op.build 150 #[(1,(Go.Operand.tmp 5))])∧o.guard=none∧(∀j∈([0]:List Nat),j∈J8 o):=⟨_,rfl,rfl,rfl,rfl,by decide+kernel⟩
 obtain⟨X,o2,Y,p2,g2,w2⟩: ∃o,svOps[2]? =some o∧o.dst=some 7∧o.op=(Go.Op.move (Go.Operand.tmp 1))∧o.guard=none∧(∀j∈([]:List Nat),j∈J8 o):=⟨_,rfl,rfl,rfl,rfl,by simp⟩
 obtain⟨x3,o3,d3,p3,g3,h⟩: ∃o,svOps[3]? =some o∧o.dst=some 8∧o.op=(Go.Op.call {callee:=(Go.Callee.value (Go.Operand.func 123)),args:= #[(Go.Operand.tmp 6),(Go.Operand.tmp 7)],argTypes:= #[150,110]})∧o.guard=none∧(∀j∈([1,2]:List Nat),j∈J8 o):=⟨_,rfl,rfl,rfl,rfl,by decide+kernel⟩
 obtain⟨x4,m,d4,p4,g4,w4⟩: ∃o,svOps[4]? =some o∧o.dst=some 9∧o.op=(Go.Op.load 28 (Go.Operand.tmp 2))∧o.guard=none∧(∀j∈([]:List Nat),j∈J8 o):=⟨_,rfl,rfl,rfl,rfl,by simp⟩
 obtain⟨x5,p,d5,p5,g5,w5⟩: ∃o,svOps[5]? =some o∧o.dst=some 10∧o.op=(Go.Op.call {callee:=(Go.Callee.value (Go.Operand.func 50)),args:= #[(Go.Operand.tmp 9),(Go.Operand.const (Go.Value.bool false))],argTypes:= #[28,4]})∧o.guard=none∧(∀j∈([4]:List Nat),j∈J8 o):=⟨_,rfl,rfl,rfl,rfl,by decide+kernel⟩
 obtain⟨x6,q,d6,p6,g6,w6⟩: ∃o,svOps[6]? =some o∧o.dst=some 11∧o.op=(Go.Op.buildSlice 26 1 #[(0,(Go.Operand.tmp 10))])∧o.guard=none∧(∀j∈([5]:List Nat),j∈J8 o):=⟨_,rfl,rfl,rfl,rfl,by decide+kernel⟩
 obtain⟨x7,r,d7,p7,g7,u⟩: ∃o,svOps[7]? =some o∧o.dst=some 12∧o.op=(Go.Op.call {callee:=(Go.Callee.value (Go.Operand.func 124)),args:= #[(Go.Operand.tmp 8),(Go.Operand.tmp 11)],argTypes:= #[150,26]})∧o.guard=none∧(∀j∈([3,6]:List Nat),j∈J8 o):=⟨_,rfl,rfl,rfl,rfl,by decide+kernel⟩
 obtain⟨x8,o8,d8,p8,g8,w8⟩: ∃o,svOps[8]? =some o∧o.dst=some 4∧o.op=(Go.Op.assign (Go.Operand.tmp 12))∧o.guard=none∧(∀j∈([7]:List Nat),j∈J8 o):=⟨_,rfl,rfl,rfl,rfl,by decide+kernel⟩
 have hs:svOps.size=9:=by kernel_rfl
 have n1:(svOps.toList.all fun oj=>oj.dst != some 1)=true:=by kernel_rfl
 have n2:(svOps.toList.all fun oj=>oj.dst != some 2)=true:=by kernel_rfl
 generalize svOps=ops at*;intro i o ho;have hi:i<9:=by have:=(D0x.1 ho).1;omega
 match i,hi with
 |0,_=>
  rw[g]at ho;cases ho;exact⟨O,fun F e he=>by rw[M];exact x F.ev ⟨fun _=>rfl,fun _=>rfl⟩⟩
 |1,_=>
  rw[o1]at ho;cases ho;exact⟨V,fun F e he=>by rw[U];exact h1 F.ev ⟨fun _=>rfl,fun _=>rfl⟩ (e 0 J g (W 0 (by simp)) 5 L)⟩
 |2,_=>
  rw[o2]at ho;cases ho;exact⟨g2,fun F e he=>by rw[p2];exact y F.ev ⟨fun _=>rfl,fun _=>rfl⟩ (he 1 n1)⟩
 |3,_=>
  rw[o3]at ho;cases ho;exact⟨g3,fun F e he=>by rw[p3];exact z F.ev ⟨fun _=>rfl,fun _=>rfl⟩ (e 1 T o1 (h 1 (by simp)) 6 d1) (e 2 X o2 (h 2 (by simp)) 7 Y)⟩
 |4,_=>
  rw[m]at ho;cases ho;exact⟨g4,fun F e he=>by rw[p4];exact A F.ev ⟨fun _=>rfl,fun _=>rfl⟩ (he 2 n2)⟩
 |5,_=>
  rw[p]at ho;cases ho;exact⟨g5,fun F e he=>by rw[p5];exact h5 F.ev ⟨fun _=>rfl,fun _=>rfl⟩ (e 4 x4 m (w5 4 (by simp)) 9 d4)⟩
 |6,_=>
  rw[q]at ho;cases ho;exact⟨g6,fun F e he=>by rw[p6];exact C F.ev ⟨fun _=>rfl,fun _=>rfl⟩ (e 5 x5 p (w6 5 (by simp)) 10 d5)⟩
 |7,_=>
  rw[r]at ho;cases ho;exact⟨g7,fun F e he=>by rw[p7];exact G F.ev ⟨fun _=>rfl,fun _=>rfl⟩ (e 3 x3 o3 (u 3 (by simp)) 8 d3) (e 6 x6 q (u 6 (by simp)) 11 d6)⟩
 |8,_=>
  rw[o8]at ho;cases ho;exact⟨g8,fun F e he=>by rw[p8];exact I F.ev ⟨fun _=>rfl,fun _=>rfl⟩ (e 7 x7 r (w8 7 (by simp)) 12 d7)⟩
noncomputable def chOps:Array Oper:=match Tryz.f195.body with|some (.seq _ (.seq (.region _ ops _) _))=>ops|_=> #[]
theorem C3b{vals:Nat→D}{B:Av.Heap}{E0:FEnv}
  (r: ∀ev:Operand→D,EvC ev→ev (.tmp 1)=E0 1→Av.D0 Tryz.prog ev B (Av.Fin fun d H=>d=vals 0∧H=B) (Go.Op.load 150 (Go.Operand.tmp 1)))
  (h1: ∀ev:Operand→D,EvC ev→ev (.tmp 3)=E0 3→Av.D0 Tryz.prog ev B (Av.Fin fun d H=>d=vals 1∧H=B) (Go.Op.load 28 (Go.Operand.tmp 3)))
  (u: ∀ev:Operand→D,EvC ev→ev (.tmp 6)=vals 1→Av.D0 Tryz.prog ev B (Av.Fin fun d H=>d=vals 2∧H=B) (Go.Op.buildSlice 26 1 #[(0,(Go.Operand.tmp 6))]))
  (x: ∀ev:Operand→D,EvC ev→ev (.tmp 2)=E0 2→Av.D0 Tryz.prog ev B (Av.Fin fun d H=>d=vals 3∧H=B) (Go.Op.load 26 (Go.Operand.tmp 2)))
  (y: ∀ev:Operand→D,EvC ev→ev (.tmp 7)=vals 2→ev (.tmp 8)=vals 3→Av.D0 Tryz.prog ev B (Av.Fin fun d H=>d=vals 4∧H=B) (Go.Op.buildSlice 210 2 #[(0,(Go.Operand.tmp 7)),(1,(Go.Operand.tmp 8))]))
  (h5: ∀ev:Operand→D,EvC ev→ev (.tmp 9)=vals 4→Av.D0 Tryz.prog ev B (Av.Fin fun d H=>d=vals 5∧H=B) (Go.Op.call {callee:=(Go.Callee.value (Go.Operand.func 153)),args:= #[(Go.Operand.tmp 9)],argTypes:= #[210]}))
  (z: ∀ev:Operand→D,EvC ev→ev (.tmp 5)=vals 0→ev (.tmp 10)=vals 5→Av.D0 Tryz.prog ev B (Av.Fin fun d H=>d=vals 6∧H=B) (Go.Op.call {callee:=(Go.Callee.value (Go.Operand.func 124)),args:= #[(Go.Operand.tmp 5),(Go.Operand.tmp 10)],argTypes:= #[150,26]}))
  (A: ∀ev:Operand→D,EvC ev→ev (.tmp 11)=vals 6→Av.D0 Tryz.prog ev B (Av.Fin fun d H=>d=vals 7∧H=B) (Go.Op.assign (Go.Operand.tmp 11)))
  :B0p Tryz.prog chOps vals B E0:=by
 obtain⟨C,g,G,I,J,w0⟩: ∃o,chOps[0]? =some o∧o.dst=some 5∧o.op=(Go.Op.load 150 (Go.Operand.tmp 1))∧o.guard=none∧(∀j∈([]:List Nat),j∈J8 o):=⟨_,rfl,rfl,rfl,rfl,by simp⟩
 obtain⟨L,o1,d1,M,O,w1⟩: ∃o,chOps[1]? =some o∧o.dst=some 6∧o.op=(Go.Op.load 28 (Go.Operand.tmp 3))∧o.guard=none∧(∀j∈([]:List Nat),j∈J8 o):=⟨_,rfl,rfl,rfl,rfl,by simp⟩
 obtain⟨T,o2,U,V,W,X⟩: ∃o,chOps[2]? =some o∧o.dst=some 7∧o.op=(Go.Op.buildSlice 26 1 #[(0,(Go.Operand.tmp 6))])∧o.guard=none∧(∀j∈([1]:List Nat),j∈J8 o):=⟨_,rfl,rfl,rfl,rfl,by decide+kernel⟩
 obtain⟨Y,o3,d3,p3,g3,w3⟩: ∃o,chOps[3]? =some o∧o.dst=some 8∧o.op=(Go.Op.load 26 (Go.Operand.tmp 2))∧o.guard=none∧(∀j∈([]:List Nat),j∈J8 o):=⟨_,rfl,rfl,rfl,rfl,by simp⟩
 obtain⟨x4,h,d4,p4,g4,m⟩: ∃o,chOps[4]? =some o∧o.dst=some 9∧o.op=(Go.Op.buildSlice 210 2 #[(0,(Go.Operand.tmp 7)),(1,(Go.Operand.tmp 8))])∧o.guard=none∧(∀j∈([2,3]:List Nat),j∈J8 o):=⟨_,rfl,rfl,rfl,rfl,by decide+kernel⟩
 obtain⟨x5,p,d5,p5,g5,w5⟩: ∃o,chOps[5]? =some o∧o.dst=some 10∧o.op=(Go.Op.call {callee:=(Go.Callee.value (Go.Operand.func 153)),args:= #[(Go.Operand.tmp 9)],argTypes:= #[210]})∧o.guard=none∧(∀j∈([4]:List Nat),j∈J8 o):=⟨_,rfl,rfl,rfl,rfl,by decide+kernel⟩
 obtain⟨x6,q,d6,p6,g6,w6⟩: ∃o,chOps[6]? =some o∧o.dst=some 11∧o.op=(Go.Op.call {callee:=(Go.Callee.value (Go.Operand.func 124)),args:= #[(Go.Operand.tmp 5),(Go.Operand.tmp 10)],argTypes:= #[150,26]})∧o.guard=none∧(∀j∈([0,5]:List Nat),j∈J8 o):=⟨_,rfl,rfl,rfl,rfl,by decide+kernel⟩
 obtain⟨x7,o7,d7,p7,g7,w7⟩: ∃o,chOps[7]? =some o∧o.dst=some 4∧o.op=(Go.Op.assign (Go.Operand.tmp 11))∧o.guard=none∧(∀j∈([6]:List Nat),j∈J8 o):=⟨_,rfl,rfl,rfl,rfl,by decide+kernel⟩
 have hs:chOps.size=8:=by kernel_rfl
 have n1:(chOps.toList.all fun oj=>oj.dst != some 1)=true:=by kernel_rfl
 have n2:(chOps.toList.all fun oj=>oj.dst != some 2)=true:=by kernel_rfl
 have n3:(chOps.toList.all fun oj=>oj.dst != some 3)=true:=by kernel_rfl
 generalize chOps=ops at*;intro i o ho;have hi:i<8:=by have:=(D0x.1 ho).1;omega
 match i,hi with
 |0,_=>
  rw[g]at ho;cases ho;exact⟨J,fun F e he=>by rw[I];exact r F.ev ⟨fun _=>rfl,fun _=>rfl⟩ (he 1 n1)⟩
 |1,_=>
  rw[o1]at ho;cases ho;exact⟨O,fun F e he=>by rw[M];exact h1 F.ev ⟨fun _=>rfl,fun _=>rfl⟩ (he 3 n3)⟩
 |2,_=>
  rw[o2]at ho;cases ho;exact⟨W,fun F e he=>by rw[V];exact u F.ev ⟨fun _=>rfl,fun _=>rfl⟩ (e 1 L o1 (X 1 (by simp)) 6 d1)⟩
 |3,_=>
  rw[o3]at ho;cases ho;exact⟨g3,fun F e he=>by rw[p3];exact x F.ev ⟨fun _=>rfl,fun _=>rfl⟩ (he 2 n2)⟩
 |4,_=>
  rw[h]at ho;cases ho;exact⟨g4,fun F e he=>by rw[p4];exact y F.ev ⟨fun _=>rfl,fun _=>rfl⟩ (e 2 T o2 (m 2 (by simp)) 7 U) (e 3 Y o3 (m 3 (by simp)) 8 d3)⟩
 |5,_=>
  rw[p]at ho;cases ho;exact⟨g5,fun F e he=>by rw[p5];exact h5 F.ev ⟨fun _=>rfl,fun _=>rfl⟩ (e 4 x4 h (w5 4 (by simp)) 9 d4)⟩
 |6,_=>
  rw[q]at ho;cases ho;exact⟨g6,fun F e he=>by rw[p6];exact z F.ev ⟨fun _=>rfl,fun _=>rfl⟩ (e 0 C g (w6 0 (by simp)) 5 G) (e 5 x5 p (w6 5 (by simp)) 10 d5)⟩
 |7,_=>
  rw[o7]at ho;cases ho;exact⟨g7,fun F e he=>by rw[p7];exact A F.ev ⟨fun _=>rfl,fun _=>rfl⟩ (e 6 x6 q (w7 6 (by simp)) 11 d6)⟩
noncomputable def foOps:Array Oper:=match Tryz.f84.body with|some (.seq _ (.seq (.region _ ops _) _))=>ops|_=> #[]
theorem C3c{vals:Nat→D}{B:Av.Heap}{E0:FEnv}
  (r: ∀ev:Operand→D,EvC ev→ev (.tmp 2)=E0 2→Av.D0 Tryz.prog ev B (Av.Fin fun d H=>d=vals 0∧H=B) (Go.Op.load 28 (Go.Operand.tmp 2)))
  (h1: ∀ev:Operand→D,EvC ev→ev (.tmp 3)=E0 3→Av.D0 Tryz.prog ev B (Av.Fin fun d H=>d=vals 1∧H=B) (Go.Op.load 28 (Go.Operand.tmp 3)))
  (u: ∀ev:Operand→D,EvC ev→ev (.tmp 6)=vals 1→Av.D0 Tryz.prog ev B (Av.Fin fun d H=>d=vals 2∧H=B) (Go.Op.call {callee:=(Go.Callee.value (Go.Operand.func 50)),args:= #[(Go.Operand.tmp 6),(Go.Operand.const (Go.Value.bool true))],argTypes:= #[28,4]}))
  (x: ∀ev:Operand→D,EvC ev→ev (.tmp 5)=vals 0→ev (.tmp 7)=vals 2→Av.D0 Tryz.prog ev B (Av.Fin fun d H=>d=vals 3∧H=B) (Go.Op.buildSlice 26 2 #[(0,(Go.Operand.tmp 5)),(1,(Go.Operand.tmp 7))]))
  (y: ∀ev:Operand→D,EvC ev→ev (.tmp 8)=vals 3→Av.D0 Tryz.prog ev B (Av.Fin fun d H=>d=vals 4∧H=B) (Go.Op.build 28 #[(0,(Go.Operand.const (Go.Value.int Go.IntKind.i64 5))),(4,(Go.Operand.tmp 8))]))
  (h5: ∀ev:Operand→D,EvC ev→ev (.tmp 9)=vals 4→Av.D0 Tryz.prog ev B (Av.Fin fun d H=>d=vals 5∧H=B) (Go.Op.call {callee:=(Go.Callee.value (Go.Operand.func 73)),args:= #[(Go.Operand.tmp 9),(Go.Operand.const (Go.Value.slice none 0 0))],argTypes:= #[28,110]}))
  (z: ∀ev:Operand→D,EvC ev→ev (.tmp 10)=vals 5→Av.D0 Tryz.prog ev B (Av.Fin fun d H=>d=vals 6∧H=B) (Go.Op.unOp Go.UnOp.not 4 (Go.Operand.tmp 10)))
  (A: ∀ev:Operand→D,EvC ev→ev (.tmp 11)=vals 6→Av.D0 Tryz.prog ev B (Av.Fin fun d H=>d=vals 7∧H=B) (Go.Op.assign (Go.Operand.tmp 11)))
  :B0p Tryz.prog foOps vals B E0:=by
 obtain⟨C,g,G,I,J,w0⟩: ∃o,foOps[0]? =some o∧o.dst=some 5∧o.op=(Go.Op.load 28 (Go.Operand.tmp 2))∧o.guard=none∧(∀j∈([]:List Nat),j∈J8 o):=⟨_,rfl,rfl,rfl,rfl,by simp⟩
 obtain⟨L,o1,d1,M,O,w1⟩: ∃o,foOps[1]? =some o∧o.dst=some 6∧o.op=(Go.Op.load 28 (Go.Operand.tmp 3))∧o.guard=none∧(∀j∈([]:List Nat),j∈J8 o):=⟨_,rfl,rfl,rfl,rfl,by simp⟩
 obtain⟨T,o2,U,V,W,X⟩: ∃o,foOps[2]? =some o∧o.dst=some 7∧o.op=(Go.Op.call {callee:=(Go.Callee.value (Go.Operand.func 50)),args:= #[(Go.Operand.tmp 6),(Go.Operand.const (Go.Value.bool true))],argTypes:= #[28,4]})∧o.guard=none∧(∀j∈([1]:List Nat),j∈J8 o):=⟨_,rfl,rfl,rfl,rfl,by decide+kernel⟩
 obtain⟨Y,o3,d3,p3,g3,h⟩: ∃o,foOps[3]? =some o∧o.dst=some 8∧o.op=(Go.Op.buildSlice 26 2 #[(0,(Go.Operand.tmp 5)),(1,(Go.Operand.tmp 7))])∧o.guard=none∧(∀j∈([0,2]:List Nat),j∈J8 o):=⟨_,rfl,rfl,rfl,rfl,by decide+kernel⟩
 obtain⟨x4,m,d4,p4,g4,w4⟩: ∃o,foOps[4]? =some o∧o.dst=some 9∧o.op=(Go.Op.build 28 #[(0,(Go.Operand.const (Go.Value.int Go.IntKind.i64 5))),(4,(Go.Operand.tmp 8))])∧o.guard=none∧(∀j∈([3]:List Nat),j∈J8 o):=⟨_,rfl,rfl,rfl,rfl,by decide+kernel⟩
 obtain⟨x5,p,d5,p5,g5,w5⟩: ∃o,foOps[5]? =some o∧o.dst=some 10∧o.op=(Go.Op.call {callee:=(Go.Callee.value (Go.Operand.func 73)),args:= #[(Go.Operand.tmp 9),(Go.Operand.const (Go.Value.slice none 0 0))],argTypes:= #[28,110]})∧o.guard=none∧(∀j∈([4]:List Nat),j∈J8 o):=⟨_,rfl,rfl,rfl,rfl,by decide+kernel⟩
 obtain⟨x6,q,d6,p6,g6,w6⟩: ∃o,foOps[6]? =some o∧o.dst=some 11∧o.op=(Go.Op.unOp Go.UnOp.not 4 (Go.Operand.tmp 10))∧o.guard=none∧(∀j∈([5]:List Nat),j∈J8 o):=⟨_,rfl,rfl,rfl,rfl,by decide+kernel⟩
 obtain⟨x7,o7,d7,p7,g7,w7⟩: ∃o,foOps[7]? =some o∧o.dst=some 4∧o.op=(Go.Op.assign (Go.Operand.tmp 11))∧o.guard=none∧(∀j∈([6]:List Nat),j∈J8 o):=⟨_,rfl,rfl,rfl,rfl,by decide+kernel⟩
 have hs:foOps.size=8:=by kernel_rfl
 have n2:(foOps.toList.all fun oj=>oj.dst != some 2)=true:=by kernel_rfl
 have n3:(foOps.toList.all fun oj=>oj.dst != some 3)=true:=by kernel_rfl
 generalize foOps=ops at*;intro i o ho;have hi:i<8:=by have:=(D0x.1 ho).1;omega
 match i,hi with
 |0,_=>
  rw[g]at ho;cases ho;exact⟨J,fun F e he=>by rw[I];exact r F.ev ⟨fun _=>rfl,fun _=>rfl⟩ (he 2 n2)⟩
 |1,_=>
  rw[o1]at ho;cases ho;exact⟨O,fun F e he=>by rw[M];exact h1 F.ev ⟨fun _=>rfl,fun _=>rfl⟩ (he 3 n3)⟩
 |2,_=>
  rw[o2]at ho;cases ho;exact⟨W,fun F e he=>by rw[V];exact u F.ev ⟨fun _=>rfl,fun _=>rfl⟩ (e 1 L o1 (X 1 (by simp)) 6 d1)⟩
 |3,_=>
  rw[o3]at ho;cases ho;exact⟨g3,fun F e he=>by rw[p3];exact x F.ev ⟨fun _=>rfl,fun _=>rfl⟩ (e 0 C g (h 0 (by simp)) 5 G) (e 2 T o2 (h 2 (by simp)) 7 U)⟩
 |4,_=>
  rw[m]at ho;cases ho;exact⟨g4,fun F e he=>by rw[p4];exact y F.ev ⟨fun _=>rfl,fun _=>rfl⟩ (e 3 Y o3 (w4 3 (by simp)) 8 d3)⟩
 |5,_=>
  rw[p]at ho;cases ho;exact⟨g5,fun F e he=>by rw[p5];exact h5 F.ev ⟨fun _=>rfl,fun _=>rfl⟩ (e 4 x4 m (w5 4 (by simp)) 9 d4)⟩
 |6,_=>
  rw[q]at ho;cases ho;exact⟨g6,fun F e he=>by rw[p6];exact z F.ev ⟨fun _=>rfl,fun _=>rfl⟩ (e 5 x5 p (w6 5 (by simp)) 10 d5)⟩
 |7,_=>
  rw[o7]at ho;cases ho;exact⟨g7,fun F e he=>by rw[p7];exact A F.ev ⟨fun _=>rfl,fun _=>rfl⟩ (e 6 x6 q (w7 6 (by simp)) 11 d6)⟩
end Go.Proofs.YtibphjonmikciaaGreatDoor
namespace Go.Proofs.YtibphjonmikciaaGreatDoor
open Go Go.Shelf Go.RowKit Go.Maps
set_option maxHeartbeats 2000000 in
set_option maxRecDepth 100000 in
theorem A2l(b:Nat)(es:Array MapEntry)(d:Nat)(w:World)(hb:w.heap[b]? =some (.map es d)):
  Calls Tryz.prog 125 #[.map (some b)] w fun e w'=>e= .returned (.map (some w.heap.size))∧w'=w.alloc (.map es d):=by
 have h:Tryz.prog.follows .mixedOrders=true:=by kernel_rfl
 have u:=Tryz.underlying4;have x:=Tryz.isAgg4;have y:=Tryz.sizeOf4;have v4:=Tryz.zeroValue4;have g:=Tryz.underlying72;have i:=Tryz.isAgg72;have j:=Tryz.sizeOf72;have m:=Tryz.zeroValue72;have o:=Tryz.underlying20;have p:=Tryz.isAgg20;have q:=Tryz.sizeOf20;have r:=Tryz.zeroValue20;have hq:=fun w=>run_eql_map_nil_sl (P:=Tryz.prog) w 72 _ _ (some b) g
 go_enter Tryz.func125,Tryz.ntmps125
 go_wp2
 rw[run_callFunc_extern Tryz.func156 (by kernel_rfl) (by kernel_rfl) (by kernel_rfl) (e:=Extern.MapsClone.clone) (by kernel_rfl),run_maps_clone_sl w 72 hb];simp only[Result.andThen];rw[Oper.upon_value]
 go_wp2
 rw[run_typeAssert_map_sl _ 72 20 _ _ _ g];simp only[Result.andThen];rw[Oper.upon_value]
 go_wp2
 go_ret
 exact⟨rfl,rfl⟩
open Go Go.Av
theorem A1X{Q}(kvs:List (D×D))(H:Av.Heap)(h: ∀b,H b=none→Q (.map b) (H.set b (.map kvs))):E3 125 [.fm kvs] H Q:=by
 refine⟨by kernel_rfl,fun w vs hl hr hs=>?_⟩;obtain⟨a,rfl,m⟩:=A14 hl hr;cases m with
 |fm _ b es ck hb hn hst hlen hk g j=>
  refine(A2l b es ck w hb).mono ?_;rintro e w' ⟨rfl,rfl⟩;have he:=Ext.alloc H w (.map es ck);have d:=N1 (H:=H) (D0s w.heap.size) (.map kvs);exact⟨_,rfl,.map w.heap.size,H.set w.heap.size (.map kvs),.map _,hs.update he d (fun k hk _=>Go.RowKit.Below.heap_alloc _ _ _ hk) ⟨es,ck,L7 w _,hst,hlen,fun i p hp=>⟨hk i p hp,(g i p hp).mono he d,(j i p hp).mono he d⟩⟩,he,d,h _ (hs.fresh (D0s _))⟩
theorem A2m{Q}(m:Nat)(kvs:List (D×D))(H:Av.Heap)(hm:H m=some (.map kvs))(h: ∀b,H b=none→Q (.map b) (H.set b (.map kvs))):E3 125 [.map m] H Q:=by
 refine⟨by kernel_rfl,fun w vs hl hr hs=>?_⟩;obtain⟨a,rfl,j⟩:=A14 hl hr;cases j;obtain⟨es,ck,hb,hst,hlen,d⟩:=hs m _ hm;refine(A2l m es ck w hb).mono ?_;rintro e w' ⟨rfl,rfl⟩;have he:=Ext.alloc H w (.map es ck);have g:=N1 (H:=H) (D0s w.heap.size) (.map kvs);exact⟨_,rfl,.map w.heap.size,H.set w.heap.size (.map kvs),.map _,hs.update he g (fun k hk _=>Go.RowKit.Below.heap_alloc _ _ _ hk) ⟨es,ck,L7 w _,hst,hlen,fun i p hp=>⟨(d i p hp).1,(d i p hp).2.1.mono he g,(d i p hp).2.2.mono he g⟩⟩,he,g,h _ (hs.fresh (D0s _))⟩
end Go.Proofs.YtibphjonmikciaaGreatDoor
namespace Go.Fo
open Go Go.Av Go.Lexs Go.Lin
def D8:ByteArray:=⟨#[]⟩
def zeroF:Fm:=.mk 0 0 nilL D8 []
def A3A(l:LinV):Fm:=.mk 2 0 l D8 []
def shL(l:LinV)(sg:Int):LinV:=⟨l.t.map fun t=>⟨t.v,sg*t.c⟩,sg*l.k-1,false⟩
def opL(l:LinV):Fm:=if l.e=true then .mk 6 0 nilL D8 [A3A (shL l 1),A3A (shL l (-1))]else A3A (shL l (-1))
def opO(o:Int)(b:Bool):Int:=if b=true then 11-o else o
def normF:Fm→Bool→Fm
 | .mk o n l s ks,b=>
  if o=1 then .mk o (if b=true then 1-n else n) l s ks
  else if o=2 then(if b=true then opL l else .mk o n l s ks)
  else if o=3 then(if b=true then .mk 4 0 nilL D8 [.mk o n l s ks]else .mk o n l s ks)
  else if o=4 then normH ks (!b)
  else .mk (opO o b) 0 nilL D8 (normK ks b)
where
 normH:List Fm→Bool→Fm
 | [],_=>zeroF
 |f::_,b=>normF f b
 normK:List Fm→Bool→List Fm
 | [],_=>[]
 |f::fs,b=>normF f b::normK fs b
theorem B6z(ks:List Fm)(b:Bool):normF.normK ks b=ks.map (normF · b):=by
 induction ks with
 |nil=>rfl
 |cons f fs d=>rw[normF.normK,d];rfl
theorem C1W{f:Fm}(b:Bool)(h:f.op=1):normF f b= .mk 1 (if b=true then 1-f.n else f.n) f.l f.s f.ks:=by
 obtain⟨o,n,l,s,ks⟩:=f;simp only[Fm.op]at h;subst h;rw[normF,if_pos rfl];rfl
theorem C1X{f:Fm}(b:Bool)(h:f.op=2):normF f b=if b=true then opL f.l else f:=by
 obtain⟨o,n,l,s,ks⟩:=f;simp only[Fm.op]at h;subst h;rw[normF,if_neg (by decide),if_pos rfl];rfl
theorem C1Y{f:Fm}(b:Bool)(h:f.op=3):normF f b=if b=true then .mk 4 0 nilL D8 [f]else f:=by
 obtain⟨o,n,l,s,ks⟩:=f;simp only[Fm.op]at h;subst h;rw[normF,if_neg (by decide),if_neg (by decide),if_pos rfl]
theorem C1Z{f k:Fm}(b:Bool)(h:f.op=4)(hk:f.ks= [k]):normF f b=normF k (!b):=by
 obtain⟨o,n,l,s,ks⟩:=f;simp only[Fm.op]at h;simp only[Fm.ks]at hk;subst h;subst hk;rw[normF,if_neg (by decide),if_neg (by decide),if_neg (by decide),if_pos rfl];rfl
theorem B60{f:Fm}(b:Bool)(h1:f.op≠1)(d:f.op≠2)(e:f.op≠3)(g:f.op≠4):normF f b= .mk (opO f.op b) 0 nilL D8 (f.ks.map (normF · b)):=by
 obtain⟨o,n,l,s,ks⟩:=f;simp only[Fm.op]at h1 d e g;rw[normF,if_neg h1,if_neg d,if_neg e,if_neg g,B6z];rfl
theorem A3o(l:LinV):lin0 l=true↔l=nilL:=by
 obtain⟨t,k,e⟩:=l;unfold lin0 nilL;simp only[D0l,D0u,Bool.not_eq_true',LinV.mk.injEq];exact and_assoc
theorem B3T{s:ByteArray}(h:s.size=0):s=D8:=by
 obtain⟨d⟩:=s;have:d= #[]:=Array.eq_empty_of_size_eq_zero h;subst this;rfl
inductive A40:Fm→Prop
 |con (n:Int) (h:n=0∨n=1):A40 (.mk 1 n nilL D8 [])
 |lin (l:LinV) (h:validL l=true) (hp: ∀t∈l.t,plainB t.v=true):A40 (.mk 2 0 l D8 [])
 |var (s:ByteArray) (h:plainB s=true):A40 (.mk 3 0 nilL s [])
 |not (k:Fm):A40 (.mk 4 0 nilL D8 [k])
 |and(ks:List Fm):A40 (.mk 5 0 nilL D8 ks)
 |or (ks:List Fm):A40 (.mk 6 0 nilL D8 ks)
theorem B61{f:Fm}(h:E4 f=true):A40 f:=by
 unfold E4 at h;by_cases h1:f.op=1
 ·rw[if_pos h1]at h;obtain⟨o,n,l,s,ks⟩:=f;simp only[Fm.op,Fm.n,Fm.l,Fm.s,Fm.ks,D0l,D1v,List.isEmpty_iff]at h h1;obtain⟨⟨⟨hn,hs⟩,hl⟩,hk⟩:=h;have hn:n=0∨n=1:=hn.imp D0Z D0Z;rw[h1,B3T (D0Z hs),(A3o l).1 hl,hk];exact .con n hn
 ·rw[if_neg h1]at h;by_cases d:f.op=2
  ·rw[if_pos d]at h;obtain⟨o,n,l,s,ks⟩:=f;simp only[Fm.op,Fm.n,Fm.l,Fm.s,Fm.ks,D0l,List.isEmpty_iff,D09]at h d;obtain⟨⟨⟨⟨hn,hs⟩,hk⟩,hl⟩,hp⟩:=h;rw[d,show n=0 from D0Z hn,B3T (D0Z hs),hk];exact .lin l hl hp
  ·rw[if_neg d]at h;by_cases e:f.op=3
   ·rw[if_pos e]at h;obtain⟨o,n,l,s,ks⟩:=f;simp only[Fm.op,Fm.n,Fm.l,Fm.s,Fm.ks,D0l,List.isEmpty_iff]at h e;obtain⟨⟨⟨hn,hl⟩,hk⟩,hp⟩:=h;rw[e,show n=0 from D0Z hn,(A3o l).1 hl,hk];exact .var s hp
   ·rw[if_neg e]at h;by_cases g:f.op=4
    ·rw[if_pos g]at h;obtain⟨o,n,l,s,ks⟩:=f;simp only[Fm.op,Fm.n,Fm.l,Fm.s,Fm.ks,D0l]at h g;obtain⟨⟨⟨hn,hs⟩,hl⟩,hk⟩:=h;obtain⟨k,rfl⟩:=List.length_eq_one_iff.1 (show ks.length=1 from D0Z hk);rw[g,show n=0 from D0Z hn,B3T (D0Z hs),(A3o l).1 hl];exact .not k
    ·rw[if_neg g]at h;by_cases h5:f.op=5∨f.op=6
     ·rw[if_pos h5]at h;obtain⟨o,n,l,s,ks⟩:=f;simp only[Fm.op,Fm.n,Fm.l,Fm.s,Fm.ks,D0l]at h h5;obtain⟨⟨hn,hs⟩,hl⟩:=h;rw[show n=0 from D0Z hn,B3T (D0Z hs),(A3o l).1 hl];rcases h5 with rfl|rfl
      ·exact .and ks
      ·exact .or ks
     ·rw[if_neg h5]at h;cases h
theorem Z4{f:Fm}(h:I5 E4 f=true):A40 f:=by
 rw[A2Y,D0l]at h;exact B61 h.1
theorem S7{f:Fm}{p:Fm→Bool}(h:I5 p f=true){k:Fm}(hk:k∈f.ks):I5 p k=true:=by
 rw[A2Y,D0l,D09]at h;exact h.2 k hk
def B62(f:Fm):Fm×Int:=if E6 f=true then(if E6 (normF f true)=true then(normF f true,0)else(zeroF,3))else(zeroF,2)
theorem O1{f:Fm}(h:E6 f=true):I5 E4 f=true:=by
 rw[A05]at h;simp only[D0l]at h;exact h.1.1.1.1
theorem A3B{s:ByteArray}(h:G4 (B s)=true):s.size≤200:=by
 unfold G4 at h;simp only[D0l,D0u]at h;have:=h.1.1.2;simpa [B]using this
theorem B2F{l:LinV}(h:validL l=true)(d:Int)(hs:d=1∨d= -1):V7 (shL l d):=by
 have ok:=M0 h;refine⟨by unfold shL;simp only[D1H];have:=ok.len;omega,fun t e=>?_,fun t e=>?_,?_⟩
 ·obtain⟨x,hx,rfl⟩:=D1W.1 (show t∈l.t.map _ from e);have:=A3B (M7 ok.t x hx).1;show x.v.size≤_;omega
 ·obtain⟨x,hx,rfl⟩:=D1W.1 (show t∈l.t.map _ from e);have:=(M7 ok.t x hx).2.2;show U6 (d*x.c);unfold U6;rcases hs with rfl|rfl<;>omega
 ·have:=ok.k;show U6 (d*l.k-1);unfold U6;rcases hs with rfl|rfl<;>omega
theorem A0Y:V7 nilL:=⟨by simp[nilL],by simp[nilL],by simp[nilL],by simp[nilL,U6]⟩
theorem A16{l:LinV}(h:V7 l):FmFit (A3A l):=.mk _ _ _ _ _ (by simp[U6]) (by simp[U6]) h (by decide) (by simp) (by simp)
theorem P5{o:Int}{ks:List Fm}(ho:U6 o)(hl:ks.length≤1466015503658)(h: ∀k∈ks,FmFit k):FmFit (.mk o 0 nilL D8 ks):=.mk _ _ _ _ _ ho (by simp[U6]) A0Y (by decide) hl h
theorem B0q: ∀(f:Fm) (b:Bool),I5 E4 f=true→FmFit f→FmFit (normF f b)∧J0 (normF f b)≤3*J0 f:=by
 intro f
 induction f using T7 with
 |h o n l s ks i=>
  intro b r e;have hk: ∀k∈ks,I5 E4 k=true:=fun k hk=>S7 (f:=.mk o n l s ks) r hk;have j: ∀k∈ks,FmFit k:=fun k hk=>e.kid hk;have d: ∀(p:Int),p=5∨p=6→FmFit (normF (.mk p 0 nilL D8 ks) b)∧J0 (normF (.mk p 0 nilL D8 ks) b)≤3*J0 (.mk p 0 nilL D8 ks):=by
   intro p hp;rw[B60 b (by show p≠1;omega) (by show p≠2;omega) (by show p≠3;omega) (by show p≠4;omega)];refine⟨P5 (by show U6 (opO p b);unfold opO U6;split<;>omega) (by rw[D1H];exact e.kl) fun k hm=>?_,?_⟩
   ·obtain⟨x,hx,rfl⟩:=D1W.1 hm;exact(i x hx b (hk x hx) (j x hx)).1
   ·have key: ∀m:List Fm,(∀k∈m,k∈ks)→J0.wtL (m.map (normF · b))≤3*J0.wtL m:=by
     intro m
     induction m with
     |nil=>intro _;simp[J0.wtL]
     |cons g y q=>
      intro hm;have z:=(i g (hm g (D0j ..)) b (hk g (hm g (D0j ..))) (j g (hm g (D0j ..)))).2;have A:=q fun k h=>hm k (D0q _ h);rw[D1p,J0.wtL,J0.wtL];omega
    rw[K4,K4];have:=key ks fun _ h=>h;show 1+([]:List LTm).length+J0.wtL (ks.map (normF · b))≤3*(1+([]:List LTm).length+J0.wtL ks);simp only[D0f];omega
  cases Z4 r with
  |con n h=>
   rw[C1W b rfl];refine⟨.mk _ _ _ _ _ (by simp[U6]) ?_ A0Y (show D8.size≤_ by decide) (by simp[Fm.ks]) (by simp[Fm.ks]),?_⟩
   ·show U6 (if b=true then 1-n else n);unfold U6;split<;>omega
   ·rw[K4,K4];simp only[Fm.l,Fm.ks];omega
  |lin l h hp=>
   rw[C1X b rfl];cases b with
   |false=>exact⟨e,by simp only[D0o,if_false];omega⟩
   |true=>
    simp only[if_true,Fm.l];unfold opL;split
    ·refine⟨P5 (by simp[U6]) (by simp) fun k hm=>?_,?_⟩
     ·simp only[D00,D01,or_false]at hm;rcases hm with rfl|rfl
      ·exact A16 (B2F h _ (.inl rfl))
      ·exact A16 (B2F h _ (.inr rfl))
     ·rw[K4,K4];simp[Fm.l,Fm.ks,J0.wtL,K4,A3A,shL,nilL];omega
    ·refine⟨A16 (B2F h _ (.inr rfl)),?_⟩;rw[K4,K4];simp[Fm.l,Fm.ks,J0.wtL,A3A,shL];omega
  |var s h=>
   rw[C1Y b rfl];cases b with
   |false=>exact⟨e,by simp only[D0o,if_false];omega⟩
   |true=>
    simp only[if_true];refine⟨P5 (by simp[U6]) (by simp) fun k hm=>?_,?_⟩
    ·rw[D0z]at hm;rw[hm];exact e
    ·rw[K4,K4];simp[Fm.l,Fm.ks,J0.wtL,K4,nilL]
  |not k=>
   rw[C1Z b rfl rfl];have:=i k (D0j ..) (!b) (hk k (D0j ..)) (j k (D0j ..));refine⟨this.1,?_⟩;have u:J0 (.mk 4 0 nilL D8 [k])=1+J0 k:=by rw[K4];simp[Fm.l,Fm.ks,J0.wtL,nilL]
   rw[u];omega
  |and ks=>exact d 5 (.inl rfl)
  |or ks=>exact d 6 (.inr rfl)
end Go.Fo
namespace Go.Proofs.YtibphjonmikciaaGreatDoor
open Go Go.Av Go.Lexs Go.Lin
attribute [local irreducible] ACalls S9
theorem B9f{Q}(a:LinV)(r:V7 a)(H:Heap)(h:Q (.bool true) H):E3 60 [.agg (E5 a),.agg (E5 a)] H Q:=by
 refine A9 [(6,.par)] A8 Tryz.func60 rfl ?_;simp only[go_sem,seval,Tryz.results60];intro d u e p;simp only[A6]at p;have e2:((H.set d (.box (E5 a))).set e (.box (E5 a))) d=some (.box (E5 a)):=by rw[A4 _ p.1.symm,A3]
 have e3:((H.set d (.box (E5 a))).set e (.box (E5 a))) e=some (.box (E5 a)):=A3 _ _;have m:H.Le ((H.set d (.box (E5 a))).set e (.box (E5 a))):=(A0 u).trans (A0 (by simp only[A6];exact p));generalize (H.set d (.box (E5 a))).set e (.box (E5 a))=Bs at e2 e3 m⊢;have x:d∈[d,e]:=by simp
 have y:e∈[d,e]:=by simp
 have hlen:=r.len;obtain⟨T,K,E⟩:=a;have hlen:T.length≤5864062014639:=hlen;have q:(E==E)=true:=by cases E<;>rfl
 repeat' simp only[go_sem,seval,e2,e3,q]
 refine C9 [2,3,29] (fun(i:Nat)=>[(30,.int .i64 i)]) (fun(i:Nat)=>Bs) (fun(i:Nat)=>i≤T.length) (fun(i:Nat)=>T.length-i) (0) (D0t _) (by(try simp only[go_sem,seval])<;>(try simp(disch:=omega) [A5])) (by first|exact D1z _|exact A0 (by assumption)|exact B3 (by assumption)|simp only[Heap.Le,Heap.set,Heap.del]at* <;>grind) ?_;rintro z rfl i A;by_cases g:i<T.length
 ·have j:decide ((i:Int)<T.length)=true:=D0a (by omega);have o:(i:Int)<T.length:=by omega
  repeat' simp only[go_sem,seval,j,o,B2 _ _ g,C2 _ _ g]
  refine F5 (fun C=>.undef) [d,e] ?_;repeat' (first|with_reducible apply D0Y|simp only[go_sem,seval,j,o,B2 _ _ g,C2 _ _ g,e2,e3,x,y]|simp(disch:=omega) only[A5,B2]|omega)
  exact C4 (i+1) (by omega) (by omega) (by(try simp only[go_sem,seval])<;>(try simp(disch:=omega) [A5])) (by simp only[D9,D2,D3]at* <;>grind)
 ·have j:decide ((i:Int)<T.length)=false:=D0b (by omega);repeat' simp only[go_sem,seval,j]
  exact D10 m h
end Go.Proofs.YtibphjonmikciaaGreatDoor
namespace Go.Lin
open Go Go.Av Go.Lexs
theorem M1(n:Int):Lib.itoa n=(if n<0 then [45]else [])++dec n.natAbs:=by
 unfold Lib.itoa dec;by_cases h:n<0
 ·rw[if_pos h,if_pos h];rfl
 ·rw[if_neg h,if_neg h];have:n.toNat=n.natAbs:=by omega
  rw[this];rfl
theorem A6V(n:Int)(h:n.natAbs<10000000000000000000):(Lib.itoa n).length≤20:=by
 rw[M1,D0e];have:=A5R 18 n.natAbs (by omega);split<;>simp<;>omega
theorem B63{α :Type}(T:List α)(i:Nat)(h:i<T.length):(T.take i).isEmpty=decide (i=0):=by
 cases T with
 |nil=>simp at h
 |cons x T=>cases i<;>simp
end Go.Lin
namespace Go.Proofs.YtibphjonmikciaaGreatDoor
open Go Go.Av Go.Lexs Go.Lin
attribute [local irreducible] ACalls S9
set_option maxHeartbeats 1000000 in
theorem B64{Q}(a:LinV)(fa:V7 a)(H:Heap)(hT:Tabs H)(h:Q (.tuple [.str (if validL a=true then S (F6 a)else S []),.int .i64 (if validL a=true then 0 else 2)]) H):E3 115 [.agg (E5 a)] H Q:=by
 refine A9 [] A8 Tryz.func115 rfl ?_;simp only[go_sem,seval,Tryz.results115];intro b2 g2;have e2:(H.set b2 (.box (E5 a))) b2=some (.box (E5 a)):=A3 _ _;have m:H.Le (H.set b2 (.box (E5 a))):=A0 g2;generalize H.set b2 (.box (E5 a))=Bs at e2 m⊢;have a0:=hT.le m;by_cases c:validL a=true
 ·rw[if_pos c,if_pos c]at h;have hlen:=(M0 c).len;have vt:=B0n c;have nm: ∀t∈a.t,t.v.size≤200:=fun t ht=>A7k ((M7 (M0 c).t t ht).1);repeat' (first|simp only[go_sem,seval,e2,c]|with_reducible refine A8o a fa _ ?_)
  refine C9 [1,12,13] (fun(p:Nat×ByteArray×Heap)=>[(14,.int .i64 p.1),(4,.str p.2.1)]) (fun(p:Nat×ByteArray×Heap)=>p.2.2) (fun(p:Nat×ByteArray×Heap)=>p.1≤a.t.length∧B p.2.1=L3 true (a.t.take p.1)∧p.2.1.size≤1000*p.1∧Bs.Le p.2.2) (fun(p:Nat×ByteArray×Heap)=>a.t.length-p.1) ((0,⟨#[]⟩,Bs)) (⟨D0t _,rfl,D0t _,D1z _⟩) (by(try simp only[go_sem,seval])<;>(try simp(disch:=omega) [A5])) (by first|exact D1z _|exact A0 (by assumption)|exact B3 (by assumption)|simp only[Heap.Le,Heap.set,Heap.del]at* <;>grind) ?_;rintro Ec rfl ⟨i,x,Hp⟩ ⟨hi,q,a4,hp⟩;simp only at hi q a4 hp;by_cases g:i<a.t.length
  ·have j:decide ((i:Int)<a.t.length)=true:=D0a (by omega);have C:(i:Int)<a.t.length:=by omega
   obtain⟨x0,x1⟩:=vt _ (D0m g);have a6:=nm _ (D0m g);have r:=a0.le hp;have hz: ∀b o,Hp b=none→Tabs (Hp.set b o):=fun b o hb=>r.le (A0 hb);have G:(⟨#[45]⟩:ByteArray).size=1:=rfl;have z:(⟨#[43]⟩:ByteArray).size=1:=rfl;have I:(⟨#[42]⟩:ByteArray).size=1:=rfl;have Y:L3 true (a.t.take (i+1))=L3 true (a.t.take i)++U0 (decide (i=0)) a.t[i]:=by rw[D0r g,B0G,B63 _ _ g,Bool.true_and]
   have ws:IntKind.i64.wrap (0-a.t[i].c)= -a.t[i].c:=by rw[A5 (by omega) (by omega)];omega
   have u:=A6V a.t[i].c (by omega);by_cases J:a.t[i].c<0
   ·have u:=A6V (-a.t[i].c) (by omega);by_cases V: -a.t[i].c=1
    ·have W:True:=trivial;repeat' (first|with_reducible apply D0Y|simp only[go_sem,seval,j,C,B2 _ _ g,C2 _ _ g,ws,J,V,W,u]|simp(disch:=omega) only[A5,B2]|intro M|omega)
     have O:a.t[i].c.natAbs=1:=by omega
     have T:Lib.itoa (-a.t[i].c)=dec a.t[i].c.natAbs:=by rw[M1,if_neg (by omega),D1k]<;>(try(congr 1;omega))
     skip
     refine C4 (i+1,x++⟨#[45]⟩++a.t[i].v,_) ⟨by simp only[];omega,?_,?_,hp.trans (A0 (by assumption))⟩ (by simp only[];omega) (by(try simp only[go_sem,seval])<;>(try simp(disch:=omega) [A5])) (D1z _)
     ·simp only[y5,t7,A0S,q,Y,U0,O,J,T,if_true,if_false];simp
     ·simp only[ByteArray.size_append,O6,G,z,I];omega
    ·have W:True:=trivial;repeat' (first|with_reducible apply D0Y|simp only[go_sem,seval,j,C,B2 _ _ g,C2 _ _ g,ws,J,V,W,u]|simp(disch:=omega) only[A5,B2]|intro M|with_reducible refine A1T _ (by omega) (by omega) _ (hz _ _ (by assumption)) ?_|omega)
     have O: ¬a.t[i].c.natAbs=1:=by omega
     have T:Lib.itoa (-a.t[i].c)=dec a.t[i].c.natAbs:=by rw[M1,if_neg (by omega),D1k]<;>(try(congr 1;omega))
     skip
     refine C4 (i+1,x++⟨#[45]⟩++(S (Lib.itoa (-a.t[i].c))++⟨#[42]⟩)++a.t[i].v,_) ⟨by simp only[];omega,?_,?_,hp.trans (A0 (by assumption))⟩ (by simp only[];omega) (by(try simp only[go_sem,seval])<;>(try simp(disch:=omega) [A5])) (D1z _)
     ·simp only[y5,t7,A0S,q,Y,U0,O,J,T,if_true,if_false];simp
     ·simp only[ByteArray.size_append,O6,G,z,I];omega
   ·by_cases W:(0:Int)<i
    ·by_cases V:a.t[i].c=1
     ·repeat' (first|with_reducible apply D0Y|simp only[go_sem,seval,j,C,B2 _ _ g,C2 _ _ g,ws,J,V,W,u]|simp(disch:=omega) only[A5,B2]|intro M|omega)
      have O:a.t[i].c.natAbs=1:=by omega
      have T:Lib.itoa a.t[i].c=dec a.t[i].c.natAbs:=by rw[M1,if_neg (by omega),D1k]<;>(try(congr 1;omega))
      have X:decide (i=0)=false:=by simp;omega
      refine C4 (i+1,x++⟨#[43]⟩++a.t[i].v,_) ⟨by simp only[];omega,?_,?_,hp.trans (A0 (by assumption))⟩ (by simp only[];omega) (by(try simp only[go_sem,seval])<;>(try simp(disch:=omega) [A5])) (D1z _)
      ·simp only[y5,t7,A0S,q,Y,U0,O,J,T,X,if_true,if_false];simp
      ·simp only[ByteArray.size_append,O6,G,z,I];omega
     ·repeat' (first|with_reducible apply D0Y|simp only[go_sem,seval,j,C,B2 _ _ g,C2 _ _ g,ws,J,V,W,u]|simp(disch:=omega) only[A5,B2]|intro M|with_reducible refine A1T _ (by omega) (by omega) _ (hz _ _ (by assumption)) ?_|omega)
      have O: ¬a.t[i].c.natAbs=1:=by omega
      have T:Lib.itoa a.t[i].c=dec a.t[i].c.natAbs:=by rw[M1,if_neg (by omega),D1k]<;>(try(congr 1;omega))
      have X:decide (i=0)=false:=by simp;omega
      refine C4 (i+1,x++⟨#[43]⟩++(S (Lib.itoa a.t[i].c)++⟨#[42]⟩)++a.t[i].v,_) ⟨by simp only[];omega,?_,?_,hp.trans (A0 (by assumption))⟩ (by simp only[];omega) (by(try simp only[go_sem,seval])<;>(try simp(disch:=omega) [A5])) (D1z _)
      ·simp only[y5,t7,A0S,q,Y,U0,O,J,T,X,if_true,if_false];simp
      ·simp only[ByteArray.size_append,O6,G,z,I];omega
    ·by_cases V:a.t[i].c=1
     ·repeat' (first|with_reducible apply D0Y|simp only[go_sem,seval,j,C,B2 _ _ g,C2 _ _ g,ws,J,V,W,u]|simp(disch:=omega) only[A5,B2]|intro M|omega)
      have O:a.t[i].c.natAbs=1:=by omega
      have T:Lib.itoa a.t[i].c=dec a.t[i].c.natAbs:=by rw[M1,if_neg (by omega),D1k]<;>(try(congr 1;omega))
      have X:decide (i=0)=true:=by simp;omega
      refine C4 (i+1,x++a.t[i].v,_) ⟨by simp only[];omega,?_,?_,hp.trans (A0 (by assumption))⟩ (by simp only[];omega) (by(try simp only[go_sem,seval])<;>(try simp(disch:=omega) [A5])) (D1z _)
      ·simp only[y5,t7,A0S,q,Y,U0,O,J,T,X,if_true,if_false];simp
      ·simp only[ByteArray.size_append,O6,G,z,I];omega
     ·repeat' (first|with_reducible apply D0Y|simp only[go_sem,seval,j,C,B2 _ _ g,C2 _ _ g,ws,J,V,W,u]|simp(disch:=omega) only[A5,B2]|intro M|with_reducible refine A1T _ (by omega) (by omega) _ (hz _ _ (by assumption)) ?_|omega)
      have O: ¬a.t[i].c.natAbs=1:=by omega
      have T:Lib.itoa a.t[i].c=dec a.t[i].c.natAbs:=by rw[M1,if_neg (by omega),D1k]<;>(try(congr 1;omega))
      have X:decide (i=0)=true:=by simp;omega
      refine C4 (i+1,x++(S (Lib.itoa a.t[i].c)++⟨#[42]⟩)++a.t[i].v,_) ⟨by simp only[];omega,?_,?_,hp.trans (A0 (by assumption))⟩ (by simp only[];omega) (by(try simp only[go_sem,seval])<;>(try simp(disch:=omega) [A5])) (D1z _)
      ·simp only[y5,t7,A0S,q,Y,U0,O,J,T,X,if_true,if_false];simp
      ·simp only[ByteArray.size_append,O6,G,z,I];omega
  ·have j:decide ((i:Int)<a.t.length)=false:=D0b (by omega);have a5:i=a.t.length:=by omega
   subst a5;have y:=hp _ _ e2;have r:=a0.le hp;rw[List.take_length]at q;have vk:=(M0 c).k;have u:=A6V a.k (by omega);have z:(⟨#[43]⟩:ByteArray).size=1:=rfl;by_cases t0:a.t= []
   ·have U:(a.t.length:Int)=0:=by rw[t0];rfl
    have x0:x=⟨#[]⟩:=X9 (by rw[q,t0];rfl);by_cases d:a.e=true
    ·have d:a.e=true:=d;have A:B (x++S (Lib.itoa a.k)++⟨#[61,48]⟩)=F6 a:=by
      unfold F6 L8 R7;simp[y5,t7,A0S,q,d,A0K,M1,t0]
     have hs:S (F6 a)=x++S (Lib.itoa a.k)++⟨#[61,48]⟩:=X9 (by rw[t7,A]);rw[hs]at h;repeat' (first|with_reducible apply D0Y|simp only[go_sem,seval,j,y,d,U]|with_reducible refine A1T _ (by omega) (by omega) _ r ?_|omega)
     exact D10 (m.trans hp) h
    ·have d:a.e=false:=by simpa using d
     have A:B (x++S (Lib.itoa a.k)++⟨#[62,61,48]⟩)=F6 a:=by
      unfold F6 L8 R7;simp[y5,t7,A0S,q,d,A0K,M1,t0]
     have hs:S (F6 a)=x++S (Lib.itoa a.k)++⟨#[62,61,48]⟩:=X9 (by rw[t7,A]);rw[hs]at h;repeat' (first|with_reducible apply D0Y|simp only[go_sem,seval,j,y,d,U]|with_reducible refine A1T _ (by omega) (by omega) _ r ?_|omega)
     exact D10 (m.trans hp) h
   ·have U: ¬(a.t.length:Int)=0:=fun e=>t0 (D0w (by omega));have l1:(0:Int)<a.t.length:=by omega
    have le:a.t.isEmpty=false:=by cases h:a.t with|nil=>exact absurd h t0|cons=>rfl
    by_cases L:a.k=0
    ·by_cases d:a.e=true
     ·have d:a.e=true:=d;have A:B (x++⟨#[61,48]⟩)=F6 a:=by
       unfold F6 L8 R7;simp[y5,t7,A0S,q,d,A0K,M1,L,t0]
      have hs:S (F6 a)=x++⟨#[61,48]⟩:=X9 (by rw[t7,A]);rw[hs]at h;repeat' (first|with_reducible apply D0Y|simp only[go_sem,seval,j,y,d,U,l1,L]|omega)
      exact D10 (m.trans hp) h
     ·have d:a.e=false:=by simpa using d
      have A:B (x++⟨#[62,61,48]⟩)=F6 a:=by
       unfold F6 L8 R7;simp[y5,t7,A0S,q,d,A0K,M1,L,t0]
      have hs:S (F6 a)=x++⟨#[62,61,48]⟩:=X9 (by rw[t7,A]);rw[hs]at h;repeat' (first|with_reducible apply D0Y|simp only[go_sem,seval,j,y,d,U,l1,L]|omega)
      exact D10 (m.trans hp) h
    ·by_cases k1:0<a.k
     ·have k2: ¬a.k<0:=by omega
      by_cases d:a.e=true
      ·have d:a.e=true:=d;have A:B (x++⟨#[43]⟩++S (Lib.itoa a.k)++⟨#[61,48]⟩)=F6 a:=by
        unfold F6 L8 R7;simp[y5,t7,A0S,q,d,A0K,M1,L,t0,k2,le]
       have hs:S (F6 a)=x++⟨#[43]⟩++S (Lib.itoa a.k)++⟨#[61,48]⟩:=X9 (by rw[t7,A]);rw[hs]at h;repeat' (first|with_reducible apply D0Y|simp only[go_sem,seval,j,y,d,U,l1,L,k1]|with_reducible refine A1T _ (by omega) (by omega) _ r ?_|omega)
       exact D10 (m.trans hp) h
      ·have d:a.e=false:=by simpa using d
       have A:B (x++⟨#[43]⟩++S (Lib.itoa a.k)++⟨#[62,61,48]⟩)=F6 a:=by
        unfold F6 L8 R7;simp[y5,t7,A0S,q,d,A0K,M1,L,t0,k2,le]
       have hs:S (F6 a)=x++⟨#[43]⟩++S (Lib.itoa a.k)++⟨#[62,61,48]⟩:=X9 (by rw[t7,A]);rw[hs]at h;repeat' (first|with_reducible apply D0Y|simp only[go_sem,seval,j,y,d,U,l1,L,k1]|with_reducible refine A1T _ (by omega) (by omega) _ r ?_|omega)
       exact D10 (m.trans hp) h
     ·have k2:a.k<0:=by omega
      by_cases d:a.e=true
      ·have d:a.e=true:=d;have A:B (x++S (Lib.itoa a.k)++⟨#[61,48]⟩)=F6 a:=by
        unfold F6 L8 R7;simp[y5,t7,A0S,q,d,A0K,M1,L,t0,k2,le]
       have hs:S (F6 a)=x++S (Lib.itoa a.k)++⟨#[61,48]⟩:=X9 (by rw[t7,A]);rw[hs]at h;repeat' (first|with_reducible apply D0Y|simp only[go_sem,seval,j,y,d,U,l1,L,k1]|with_reducible refine A1T _ (by omega) (by omega) _ r ?_|omega)
       exact D10 (m.trans hp) h
      ·have d:a.e=false:=by simpa using d
       have A:B (x++S (Lib.itoa a.k)++⟨#[62,61,48]⟩)=F6 a:=by
        unfold F6 L8 R7;simp[y5,t7,A0S,q,d,A0K,M1,L,t0,k2,le]
       have hs:S (F6 a)=x++S (Lib.itoa a.k)++⟨#[62,61,48]⟩:=X9 (by rw[t7,A]);rw[hs]at h;repeat' (first|with_reducible apply D0Y|simp only[go_sem,seval,j,y,d,U,l1,L,k1]|with_reducible refine A1T _ (by omega) (by omega) _ r ?_|omega)
       exact D10 (m.trans hp) h
 ·rw[if_neg c,if_neg c]at h;have c:validL a=false:=by simpa using c
  repeat' (first|simp only[go_sem,seval,e2,c]|with_reducible refine A8o a fa _ ?_)
  exact D10 m h
end Go.Proofs.YtibphjonmikciaaGreatDoor
namespace Go.Lin
open Go Go.Av Go.Lexs
theorem B65(l:List UInt8)(c:UInt8)(h:c∈l):Lib.indexByte l c=((l.takeWhile (· != c)).length:Int)∧(l.takeWhile (· != c)).length<l.length:=by
 induction l with
 |nil=>cases h
 |cons b l d=>
  unfold Lib.indexByte;by_cases e:b=c
  ·subst e;simp
  ·have e1:(b==c)=false:=by simpa using e
   have hm:c∈l:=(D00.1 h).resolve_left (fun g=>e g.symm);obtain⟨i,j⟩:=d hm;have e2:(b != c)=true:=by simp[e]
   rw[e1,i,List.takeWhile_cons,if_pos e2];have e3:(((l.takeWhile (· != c)).length:Int)== -1)=false:=by
    simp only[beq_eq_false_iff_ne,ne_eq];omega
   rw[e3];simp only[D0o,if_false,D0d];omega
theorem B66(l:List UInt8)(c:UInt8)(h:c∉l):Lib.indexByte l c= -1:=by
 induction l with
 |nil=>rfl
 |cons b l d=>
  unfold Lib.indexByte;have e1:(b==c)=false:=by
   simp only[beq_eq_false_iff_ne,ne_eq];rintro rfl;exact h (D0j ..)
  rw[e1,d (fun g=>h (D0q _ g))];rfl
theorem B9g(l:List UInt8)(p:UInt8→Bool):l.take (l.takeWhile p).length=l.takeWhile p:=by
 induction l with
 |nil=>rfl
 |cons b l d=>rw[List.takeWhile_cons];split<;>simp[d]
theorem B9h(l:List UInt8)(p:UInt8→Bool):l.drop (l.takeWhile p).length=l.dropWhile p:=by
 induction l with
 |nil=>rfl
 |cons b l d=>rw[List.takeWhile_cons,List.dropWhile_cons];split<;>simp[d]
theorem A6W{l c n:List UInt8}(h:A0L l=some (c,n)):Lib.indexByte l 42=(c.length:Int)∧c.length<l.length∧l.take c.length=c∧l.drop (c.length+1)=n:=by
 unfold A0L at h;split at h
 ·rename_i hm;injection h with h
  have h1:l.takeWhile (· != 42)=c:=congrArg Prod.fst h;have i:(l.dropWhile (· != 42)).drop 1=n:=congrArg Prod.snd h;obtain⟨e,g⟩:=B65 l 42 hm;have t:=B9g l (· != 42);have d:=B9h l (· != 42);rw[h1]at e g t d;refine⟨e,g,t,?_⟩;rw[←i,←d,D1i]
 ·cases h
theorem B67{l:List UInt8}(h:A0L l=none):Lib.indexByte l 42= -1:=by
 unfold A0L at h;split at h
 ·cases h
 ·rename_i hm;exact B66 l 42 hm
end Go.Lin
namespace Go.Proofs.YtibphjonmikciaaGreatDoor
open Go Go.Av Go.RowKit Go.Lexs Go.Lin
attribute [local irreducible] ACalls S9
theorem B3U{Q}(s:ByteArray)(H:Heap)(h:Q (.int .i64 (Lib.indexByte (B s) 42)) H):E3 236 [.str s,.str ⟨#[42]⟩] H Q:=
 I9 (by kernel_rfl) (fun w vs hl hr hs=>by
  obtain⟨a,b,rfl,d,hb⟩:=A0F hl hr;rw[d.str_inv,hb.str_inv];refine(Tryz.stringslite_Index_one s 42 w).mono fun e w' ⟨he,hw⟩=>?_;subst hw;exact⟨_,he,Below.refl _ _,.int _ _⟩) h
theorem C3d{Q}(s:ByteArray)(c n:List UInt8)(hc:A0L (B s)=some (c,n))(hsz:s.size≤1000000000000)(H:Heap)(h:Q (.tuple [.str (S c),.str (S n),.bool true]) H):E3 216 [.str s,.str ⟨#[42]⟩] H Q:=by
 refine A9 [] A8 Tryz.func216 rfl ?_;simp only[go_sem,seval,Tryz.results216];obtain⟨h1,o,i,j⟩:=A6W hc;have hl:=T9 s;have d:((⟨#[42]⟩:ByteArray).size:Int)=1:=rfl;have hw:IntKind.i64.wrap ((c.length:Int)+1)=(c.length:Int)+1:=A5 (by omega) (by omega);have e:(0:Int)≤(c.length:Int)+1:=by omega
 have hk:(c.length:Int)≤s.size:=by omega
 have g:(c.length:Int)+1≤s.size:=by omega
 repeat' (first|with_reducible apply D0Y|simp only[go_sem,seval,h1,d,hw,hk,g,e]|simp(disch:=omega) only[A5]|intro m|with_reducible refine B3U s _ ?_|omega)
 rw[i,j];exact D13 h
theorem C3e{Q}(s:ByteArray)(c n:List UInt8)(hc:A0L (B s)=some (c,n))(hsz:s.size≤1000000000000)(H:Heap)(h:Q (.tuple [.str (S c),.str (S n),.bool true]) H):E3 187 [.str s,.str ⟨#[42]⟩] H Q:=by
 refine A9 [] A8 Tryz.func187 rfl ?_;simp only[go_sem,seval,Tryz.results187];repeat' (first|with_reducible apply D0Y|simp only[go_sem,seval]|intro d|with_reducible refine C3d s c n hc hsz _ ?_|omega)
 exact D13 h
theorem C3f{Q}(s:ByteArray)(hc:A0L (B s)=none)(H:Heap)(h:Q (.tuple [.str s,.str ⟨#[]⟩,.bool false]) H):E3 216 [.str s,.str ⟨#[42]⟩] H Q:=by
 refine A9 [] A8 Tryz.func216 rfl ?_;simp only[go_sem,seval,Tryz.results216];have h1:=B67 hc;repeat' (first|with_reducible apply D0Y|simp only[go_sem,seval,h1]|intro d|with_reducible refine B3U s _ ?_|omega)
 exact D13 h
theorem A8v{Q}(s:ByteArray)(hc:A0L (B s)=none)(H:Heap)(h:Q (.tuple [.str s,.str ⟨#[]⟩,.bool false]) H):E3 187 [.str s,.str ⟨#[42]⟩] H Q:=by
 refine A9 [] A8 Tryz.func187 rfl ?_;simp only[go_sem,seval,Tryz.results187];repeat' (first|with_reducible apply D0Y|simp only[go_sem,seval]|intro d|with_reducible refine C3f s hc _ ?_|omega)
 exact D13 h
theorem B9i{Q}(s:ByteArray)(hsz:s.size≤1000000000000)(v:Int)(hv:Lib.atoiAll (B s)= .ok v)(H:Heap)(h:Q (.tuple [.int .i64 v,.nilif]) H):E3 188 [.str s] H Q:=
 I9 (by kernel_rfl) (fun w vs hl hr hs=>by
  obtain⟨a,rfl,j⟩:=A14 hl hr;rw[j.str_inv];refine(Tryz.strconv_Atoi_ok s (by omega) v hv w).mono fun e w' ⟨he,hw⟩=>?_;have m:Below w.heap.size w w':=by
   rcases hw with rfl|⟨t,rfl⟩
   ·exact Below.refl _ _
   ·exact B0T _ _ _
  exact⟨_,he,m,.tuple _ _ rfl fun i d g=>(match i,g with|0,g=>by simp at g;subst g;exact .int _ _|1,g=>by simp at g;subst g;exact .nilif|i+2,g=>by simp at g)⟩) h
theorem B0r{w:World}{H:Heap}{g t:Nat}(hs:Sat H w)(h:H g=some (.ro [.iface t .undef])): ∃v,w.cell? ⟨g,0,none⟩=some (.iface t v):=by
 obtain⟨c,T,m,h1,i,j⟩:=hs g _ h;have d:=(j 0 _ rfl).2;have o:c.size=1:=i;have e:w.cell? ⟨g,0,none⟩=some (c.getD 0 Go.undef):=by
  rw[T1 h1];have:0<c.size:=by omega
  simp[this]
 generalize c.getD 0 Go.undef=x at d e;cases d with
 |iface _ _ v hr=>exact⟨v,e⟩
theorem B9j{Q}(s:ByteArray)(hsz:s.size≤1000000000000)(hv: ∀v,Lib.atoiAll (B s)≠ .ok v)(H:Heap)(p:Tabs H)(h: ∀n t,Q (.tuple [.int .i64 n,.iface t .undef]) H):E3 188 [.str s] H Q:=by
 have q: ∀(w:World) (n:Int) (t:Nat) (v:Value),R w H (.tuple [.int .i64 n,.iface t .undef]) (.tuple #[.int .i64 n,.iface t v]):=fun w n t v=>
  .tuple _ _ rfl fun i d g=>(match i,g with|0,g=>by simp at g;subst g;exact .int _ _|1,g=>by simp at g;subst g;exact .iface _ _ _ (.undef _)|i+2,g=>by simp at g)
 cases hc:Lib.atoiAll (B s)with
 |ok v=>exact absurd hc (hv v)
 |range=>
  refine I9 (r:=.tuple [.int .i64 (Lib.atoiSat (B s)),.iface 266 .undef]) (by kernel_rfl) (fun w vs hl hr hs=>?_) (h _ _);obtain⟨a,rfl,j⟩:=A14 hl hr;rw[j.str_inv];obtain⟨t,m⟩:=p.rng;obtain⟨x,hx⟩:=B0r hs m;refine(Tryz.strconv_Atoi_range s (by omega) hc _ w hx (.inr ⟨_,_,rfl⟩)).mono fun e w' ⟨N,he,_,_,o⟩=>⟨_,he,o,q w' _ _ _⟩
 |_=>
  refine I9 (r:=.tuple [.int .i64 0,.iface 266 .undef]) (by kernel_rfl) (fun w vs hl hr hs=>?_) (h _ _);obtain⟨a,rfl,j⟩:=A14 hl hr;rw[j.str_inv];obtain⟨t,m⟩:=p.syn;obtain⟨x,hx⟩:=B0r hs m;refine(Tryz.strconv_Atoi_syntax s (by omega) hc _ w hx (.inr ⟨_,_,rfl⟩)).mono fun e w' ⟨N,he,_,_,o⟩=>⟨_,he,o,q w' _ _ _⟩
end Go.Proofs.YtibphjonmikciaaGreatDoor
