/- Part of the proof: what the last text builds on. No condition stands here. -/
import Derived.Test.YtibphjonmikciaaGreatDoorProg
import Derived.Test.YtibphjonmikciaaGreatDoorRows
import Derived.Test.YtibphjonmikciaaGreatDoorCards
import Derived.Test.YtibphjonmikciaaGreatDoorTie
import Derived.Test.YtibphjonmikciaaGreatDoorAc3
set_option linter.unusedSimpArgs false
set_option linter.unusedVariables false
set_option maxRecDepth 20000
namespace Go.Lin
open Go Go.Av
theorem B9R{H:Heap}{sz:Nat}{es:List (List D)}{ob:Option Nat}(h: ∀b,ob=some b→H b=none):H.Le (putB H sz es ob):=by
 cases ob with
 |none=>exact D11 H
 |some b=>exact A0 (h b rfl)
theorem B3L{α :Type}(p: α →Bool): ∀l:List α,(!l.any fun x=> !p x)=l.all p
 | []=>rfl
 |x::l=>by rw[D1f,D1d,←B3L p l];cases p x<;>simp
def chT(l:List Row)(k:Nat):Ch:=(List.range k).foldl (A3i l) ⟨none,false,0⟩
@[go_sem] theorem C9G(l:List Row):L6 (chT l 0).best= -1:=rfl
@[go_sem] theorem C9H(l:List Row):(chT l 0).sure=false:=rfl
@[go_sem] theorem C9I(l:List Row):(chT l 0).cost=0:=rfl
theorem B0g(l:List Row)(k:Nat):chT l (k+1)=A3i l (chT l k) k:=by simp[chT,List.range_succ,D1S]
end Go.Lin
namespace Go.Proofs.YtibphjonmikciaaGreatDoor
open Go Go.Av Go.Lin
attribute [local irreducible] ACalls S7
theorem B9S{Q}(r:Row)(k b:Nat)(hk:k<r.c.length)(H:Heap)(hb:H b=some (.box [.int .i64 (k:Int)]))(h:Q (.bool (!((X3 r.c k).natAbs==1))) H):D8 286 [.agg (C7 r),.box b 0] H Q:=by
 refine A9 [] A5 Tryz.func286 rfl ?_;simp only[go_sem,seval,Tryz.results286];intro d i;have e2:(H.set d (.box (C7 r))) d=some (.box (C7 r)):=A2 _ _;have e1:(H.set d (.box (C7 r))) b=some (.box [.int .i64 (k:Int)]):=(A0 i) _ _ hb;have j:H.Le (H.set d (.box (C7 r))):=A0 i;generalize H.set d (.box (C7 r))=Bs at e1 e2 j⊢;have m:(k:Int)<r.c.length:=by omega
 rw[I4 _ _ hk]at h;have e:(!(r.c[k].natAbs==1))=(!decide (r.c[k].natAbs=1)):=by by_cases g:r.c[k].natAbs=1<;>simp[g]
 rw[e]at h;repeat' (first|with_reducible apply D0a|simp only[go_sem,seval,e1,e2,m,A8 _ _ hk,B4 _ _ hk]|with_reducible refine B0S _ _ ?_|omega)
 exact D12 j h
theorem O5{Q}(l:List Row)(k:Nat)(hlen:l.length≤1000000)(hk: ∀r∈l,k<r.c.length)(H:Heap)(h:Q (.bool (A19 l k)) H):D8 261 [.sl 4 (Rw C7 l),.int .i64 (k:Int)] H Q:=by
 refine A9 [] A5 Tryz.func261 rfl ?_;simp only[go_sem,seval,Tryz.results261];intro d e;have e3:(H.set d (.box [.int .i64 (k:Int)])) d=some (.box [.int .i64 (k:Int)]):=A2 _ _;unfold A19 at h;rw[←B3L]at h;have g: ∀a∈l,∀(Q:D→Heap→Prop),Q (.bool (!((X3 a.c k).natAbs==1))) (H.set d (.box [.int .i64 (k:Int)]))→D8 286 ([]++[.agg (C7 a)]++[.box d 0]) (H.set d (.box [.int .i64 (k:Int)])) Q:=fun a i Q hq=>B9S a k d (hk a i) _ e3 hq;repeat' (first|with_reducible apply D0a|simp only[go_sem,seval]|intro j|omega)
 refine C3J (fun r=> !((X3 r.c k).natAbs==1)) l (by omega) 286 [] [.box d 0] _ g ?_;repeat' simp only[go_sem,seval]
 exact D12 (A0 e) h
set_option maxHeartbeats 4000000 in
theorem B6k{Q}(l:List Row)(n:Nat)(hl:l≠[])(hlen:l.length≤1000000)(hw: ∀r∈l,r.c.length=n)(hn:n≤1000000)(H:Heap)(h:Q (.tuple [.int .i64 (L6 (i7 l).best),.bool (i7 l).sure]) H):
  D8 224 [.sl 4 (Rw C7 l)] H Q:=by
 refine A9 [] A5 Tryz.func224 rfl ?_;simp only[go_sem,seval,Tryz.results224];have J:0<l.length:=List.length_pos_iff.2 hl;have L:(0:Int)<l.length:=by omega
 have I:l[0].c.length=n:=hw _ (D0o J);have hr:i7 l=chT l n:=by
  unfold i7 chT;rw[show (l.headD default).c.length=n from by rw[←I];cases l with|nil=>exact absurd rfl hl|cons x l=>rfl]
 rw[hr]at h;repeat' (first|with_reducible apply D0a|simp only[go_sem,seval,L,A8 _ _ J,B4 _ _ J,I])
 refine C4 [0,15] (fun(k:Nat)=>[(16,.int .i64 k),(2,.int .i64 (L6 (chT l k).best)),(3,.bool (chT l k).sure),(4,.int .i64 (chT l k).cost)]) (fun(k:Nat)=>H) (fun(k:Nat)=>k≤n) (fun(k:Nat)=>n-k) (0) (D0v _) (by(try simp only[go_sem,seval])<;>(try simp(disch:=omega) [A3])) (by first|exact D11 _|exact A0 (by assumption)|exact B2 (by assumption)|simp only[Heap.Le,Heap.set,Heap.del]at* <;>grind) ?_;rintro X rfl k hk;by_cases A:k<n
 ·have C:decide ((k:Int)<n)=true:=D0c (by omega);repeat' simp only[go_sem,seval,C]
  refine B3F l k hlen (fun r hr=>by rw[hw r hr];exact A) _ fun ob _ M=>?_;have o:=B9R (sz:=4) (es:=Rw C7 (U9 l k)) M;generalize putB H 4 (Rw C7 (U9 l k)) ob=Hp at o⊢;have Y:(J0 l k).length≤1000000:=D1g (X7 _) hlen;have m2:(F9 l k).length≤1000000:=D1g (X7 _) hlen;obtain⟨p,hp⟩: ∃p,p=(J0 l k).length:=⟨_,rfl⟩
  obtain⟨q,hq⟩: ∃q,q=(F9 l k).length:=⟨_,rfl⟩
  have hs:=B0g l k;unfold A3i at hs;simp only[←hp,←hq]at hs;have y: ∀r∈J0 l k,k<r.c.length:=fun r hr=>by rw[hw r ((List.mem_filter.1 hr).1)];exact A
  have z: ∀r∈F9 l k,k<r.c.length:=fun r hr=>by rw[hw r ((List.mem_filter.1 hr).1)];exact A
  have U:(p:Int)*q≤1000000000000:=by
   have:p*q≤1000000*1000000:=Nat.mul_le_mul (by omega) (by omega);rw[←Int.natCast_mul];omega
  have V:(0:Int)≤(p:Int)*q:=by rw[←Int.natCast_mul];omega
  by_cases T:p+q=0
  ·have u:(p:Int)+q=0:=by omega
   rw[if_pos T]at hs;repeat' (first|with_reducible apply D0a|simp only[go_sem,seval,←hp,←hq,u]|simp(disch:=omega) only[A3,A8])
   refine C2 (k+1) (by omega) (by omega) (by(try simp only[go_sem,seval,hs])<;>(try simp(disch:=omega) [A3])) o
  ·have u: ¬(p:Int)+q=0:=by omega
   rw[if_neg T]at hs;obtain⟨c,hc⟩: ∃c,c=(chT l k).cost:=⟨_,rfl⟩
   obtain⟨m,hm⟩: ∃m,m=(p:Int)*q:=⟨_,rfl⟩
   rw[←hc,←hm]at hs;rw[←hm]at U V;have W:A19 (J0 l k) k=true∨(A19 (J0 l k) k=false∧A19 (F9 l k) k=true)∨(A19 (J0 l k) k=false∧A19 (F9 l k) k=false):=by
    cases A19 (J0 l k) k<;>cases A19 (F9 l k) k<;>simp
   have G:(chT l k).best=none∨∃j,(chT l k).best=some j:=by cases (chT l k).best<;>simp
   rcases W with g|⟨g,i⟩|⟨g,i⟩
   ·have i:True:=trivial;rcases G with hb|⟨j,hb⟩
    ·have d:True:=trivial;have hx:True:=trivial;have e:=hs;simp[g,i,hb,d,hx]at e;have o1: ∀j:Nat,¬(L6 (some j)<0):=fun j=>by show¬((j:Int)<0);omega
     have o2:L6 none= -1:=rfl;have o3:L6 (some k)=k:=rfl;repeat' (first|with_reducible apply D0a|simp only[go_sem,seval,←hp,←hq,←hc,←hm,u,g,i,hb,d,hx,o1,o2,decide_true,decide_false]|simp(disch:=omega) only[A3,A8]|with_reducible refine O5 (J0 l k) k (by omega) y _ ?_)
     refine C2 (k+1) (by omega) (by omega) (by(try simp only[go_sem,seval,e,hb,d,o2,o3,←hc])<;>(try simp(disch:=omega) [A3])) o
    ·cases d:(chT l k).sure
     ·have hx:True:=trivial;have e:=hs;simp[g,i,hb,d,hx]at e;have o1: ∀j:Nat,¬(L6 (some j)<0):=fun j=>by show¬((j:Int)<0);omega
      have o2:L6 none= -1:=rfl;have o3:L6 (some k)=k:=rfl;repeat' (first|with_reducible apply D0a|simp only[go_sem,seval,←hp,←hq,←hc,←hm,u,g,i,hb,d,hx,o1,o2,decide_true,decide_false]|simp(disch:=omega) only[A3,A8]|with_reducible refine O5 (J0 l k) k (by omega) y _ ?_)
      refine C2 (k+1) (by omega) (by omega) (by(try simp only[go_sem,seval,e,hb,d,o2,o3,←hc])<;>(try simp(disch:=omega) [A3])) o
     ·by_cases hx:m-p-q<c
      ·have e:=hs;simp[g,i,hb,d,hx]at e;have o1: ∀j:Nat,¬(L6 (some j)<0):=fun j=>by show¬((j:Int)<0);omega
       have o2:L6 none= -1:=rfl;have o3:L6 (some k)=k:=rfl;repeat' (first|with_reducible apply D0a|simp only[go_sem,seval,←hp,←hq,←hc,←hm,u,g,i,hb,d,hx,o1,o2,decide_true,decide_false]|simp(disch:=omega) only[A3,A8]|with_reducible refine O5 (J0 l k) k (by omega) y _ ?_)
       refine C2 (k+1) (by omega) (by omega) (by(try simp only[go_sem,seval,e,hb,d,o2,o3,←hc])<;>(try simp(disch:=omega) [A3])) o
      ·have e:=hs;simp[g,i,hb,d,hx]at e;have o1: ∀j:Nat,¬(L6 (some j)<0):=fun j=>by show¬((j:Int)<0);omega
       have o2:L6 none= -1:=rfl;have o3:L6 (some k)=k:=rfl;repeat' (first|with_reducible apply D0a|simp only[go_sem,seval,←hp,←hq,←hc,←hm,u,g,i,hb,d,hx,o1,o2,decide_true,decide_false]|simp(disch:=omega) only[A3,A8]|with_reducible refine O5 (J0 l k) k (by omega) y _ ?_)
       refine C2 (k+1) (by omega) (by omega) (by(try simp only[go_sem,seval,e,hb,d,o2,o3,←hc])<;>(try simp(disch:=omega) [A3])) o
   ·rcases G with hb|⟨j,hb⟩
    ·have d:True:=trivial;have hx:True:=trivial;have e:=hs;simp[g,i,hb,d,hx]at e;have o1: ∀j:Nat,¬(L6 (some j)<0):=fun j=>by show¬((j:Int)<0);omega
     have o2:L6 none= -1:=rfl;have o3:L6 (some k)=k:=rfl;repeat' (first|with_reducible apply D0a|simp only[go_sem,seval,←hp,←hq,←hc,←hm,u,g,i,hb,d,hx,o1,o2,decide_true,decide_false]|simp(disch:=omega) only[A3,A8]|with_reducible refine O5 (J0 l k) k (by omega) y _ ?_|with_reducible refine O5 (F9 l k) k (by omega) z _ ?_)
     refine C2 (k+1) (by omega) (by omega) (by(try simp only[go_sem,seval,e,hb,d,o2,o3,←hc])<;>(try simp(disch:=omega) [A3])) o
    ·cases d:(chT l k).sure
     ·have hx:True:=trivial;have e:=hs;simp[g,i,hb,d,hx]at e;have o1: ∀j:Nat,¬(L6 (some j)<0):=fun j=>by show¬((j:Int)<0);omega
      have o2:L6 none= -1:=rfl;have o3:L6 (some k)=k:=rfl;repeat' (first|with_reducible apply D0a|simp only[go_sem,seval,←hp,←hq,←hc,←hm,u,g,i,hb,d,hx,o1,o2,decide_true,decide_false]|simp(disch:=omega) only[A3,A8]|with_reducible refine O5 (J0 l k) k (by omega) y _ ?_|with_reducible refine O5 (F9 l k) k (by omega) z _ ?_)
      refine C2 (k+1) (by omega) (by omega) (by(try simp only[go_sem,seval,e,hb,d,o2,o3,←hc])<;>(try simp(disch:=omega) [A3])) o
     ·by_cases hx:m-p-q<c
      ·have e:=hs;simp[g,i,hb,d,hx]at e;have o1: ∀j:Nat,¬(L6 (some j)<0):=fun j=>by show¬((j:Int)<0);omega
       have o2:L6 none= -1:=rfl;have o3:L6 (some k)=k:=rfl;repeat' (first|with_reducible apply D0a|simp only[go_sem,seval,←hp,←hq,←hc,←hm,u,g,i,hb,d,hx,o1,o2,decide_true,decide_false]|simp(disch:=omega) only[A3,A8]|with_reducible refine O5 (J0 l k) k (by omega) y _ ?_|with_reducible refine O5 (F9 l k) k (by omega) z _ ?_)
       refine C2 (k+1) (by omega) (by omega) (by(try simp only[go_sem,seval,e,hb,d,o2,o3,←hc])<;>(try simp(disch:=omega) [A3])) o
      ·have e:=hs;simp[g,i,hb,d,hx]at e;have o1: ∀j:Nat,¬(L6 (some j)<0):=fun j=>by show¬((j:Int)<0);omega
       have o2:L6 none= -1:=rfl;have o3:L6 (some k)=k:=rfl;repeat' (first|with_reducible apply D0a|simp only[go_sem,seval,←hp,←hq,←hc,←hm,u,g,i,hb,d,hx,o1,o2,decide_true,decide_false]|simp(disch:=omega) only[A3,A8]|with_reducible refine O5 (J0 l k) k (by omega) y _ ?_|with_reducible refine O5 (F9 l k) k (by omega) z _ ?_)
       refine C2 (k+1) (by omega) (by omega) (by(try simp only[go_sem,seval,e,hb,d,o2,o3,←hc])<;>(try simp(disch:=omega) [A3])) o
   ·rcases G with hb|⟨j,hb⟩
    ·have d:True:=trivial;have hx:True:=trivial;have e:=hs;simp[g,i,hb,d,hx]at e;have o1: ∀j:Nat,¬(L6 (some j)<0):=fun j=>by show¬((j:Int)<0);omega
     have o2:L6 none= -1:=rfl;have o3:L6 (some k)=k:=rfl;repeat' (first|with_reducible apply D0a|simp only[go_sem,seval,←hp,←hq,←hc,←hm,u,g,i,hb,d,hx,o1,o2,decide_true,decide_false]|simp(disch:=omega) only[A3,A8]|with_reducible refine O5 (J0 l k) k (by omega) y _ ?_|with_reducible refine O5 (F9 l k) k (by omega) z _ ?_)
     refine C2 (k+1) (by omega) (by omega) (by(try simp only[go_sem,seval,e,hb,d,o2,o3,←hc])<;>(try simp(disch:=omega) [A3])) o
    ·cases d:(chT l k).sure
     ·by_cases hx:m-p-q<c
      ·have e:=hs;simp[g,i,hb,d,hx]at e;have o1: ∀j:Nat,¬(L6 (some j)<0):=fun j=>by show¬((j:Int)<0);omega
       have o2:L6 none= -1:=rfl;have o3:L6 (some k)=k:=rfl;repeat' (first|with_reducible apply D0a|simp only[go_sem,seval,←hp,←hq,←hc,←hm,u,g,i,hb,d,hx,o1,o2,decide_true,decide_false]|simp(disch:=omega) only[A3,A8]|with_reducible refine O5 (J0 l k) k (by omega) y _ ?_|with_reducible refine O5 (F9 l k) k (by omega) z _ ?_)
       refine C2 (k+1) (by omega) (by omega) (by(try simp only[go_sem,seval,e,hb,d,o2,o3,←hc])<;>(try simp(disch:=omega) [A3])) o
      ·have e:=hs;simp[g,i,hb,d,hx]at e;have o1: ∀j:Nat,¬(L6 (some j)<0):=fun j=>by show¬((j:Int)<0);omega
       have o2:L6 none= -1:=rfl;have o3:L6 (some k)=k:=rfl;repeat' (first|with_reducible apply D0a|simp only[go_sem,seval,←hp,←hq,←hc,←hm,u,g,i,hb,d,hx,o1,o2,decide_true,decide_false]|simp(disch:=omega) only[A3,A8]|with_reducible refine O5 (J0 l k) k (by omega) y _ ?_|with_reducible refine O5 (F9 l k) k (by omega) z _ ?_)
       refine C2 (k+1) (by omega) (by omega) (by(try simp only[go_sem,seval,e,hb,d,o2,o3,←hc])<;>(try simp(disch:=omega) [A3])) o
     ·have hx:True:=trivial;have e:=hs;simp[g,i,hb,d,hx]at e;have o1: ∀j:Nat,¬(L6 (some j)<0):=fun j=>by show¬((j:Int)<0);omega
      have o2:L6 none= -1:=rfl;have o3:L6 (some k)=k:=rfl;repeat' (first|with_reducible apply D0a|simp only[go_sem,seval,←hp,←hq,←hc,←hm,u,g,i,hb,d,hx,o1,o2,decide_true,decide_false]|simp(disch:=omega) only[A3,A8]|with_reducible refine O5 (J0 l k) k (by omega) y _ ?_|with_reducible refine O5 (F9 l k) k (by omega) z _ ?_)
      refine C2 (k+1) (by omega) (by omega) (by(try simp only[go_sem,seval,e,hb,d,o2,o3,←hc])<;>(try simp(disch:=omega) [A3])) o
 ·have C:decide ((k:Int)<n)=false:=D0d (by omega);have O:k=n:=by omega
  subst O;repeat' simp only[go_sem,seval,C]
  exact D15 h
end Go.Proofs.YtibphjonmikciaaGreatDoor
namespace Go.Lin
open Go Go.Av Go.Lexs
theorem A43(k:Int)(l:List LTm)(vs:List VlV)(i:Nat)(h:i<l.length):L8 k (l.drop i) vs=match J4 vs l[i].v with|none=>none|some n=>L8 (k+l[i].c*n) (l.drop (i+1)) vs:=by
 rw[D05 h,L8];rfl
theorem B0h{vs:List VlV}(hv:I6 vs=true){s:ByteArray}{n:Int}(h:J4 vs s=some n):n.natAbs≤2147483647:=by
 have key: ∀(m:List VlV),(∀(i:Nat) (d:i<m.length),m[i].n.natAbs≤2147483647)→J4 m s=some n→n.natAbs≤2147483647:=by
  intro m
  induction m with
  |nil=>intro _ h;cases h
  |cons x m e=>
   intro hm h;rw[J4]at h;split at h
   ·cases h;exact hm 0 (by simp)
   ·exact e (fun i d=>hm (i+1) (by simpa using d)) h
 exact key vs (fun i d=>(A8g hv d).2.1) h
structure C9J(a:LinV):Prop where
 len:a.t.length≤12
 k:a.k.natAbs≤1099511627776
 t:X2 a.t=true
theorem L7{a:LinV}(h:validL a=true):C9J a:=by
 unfold validL I3 at h;simp only[D0n,D0w]at h;exact⟨h.1.2,by omega,h.1.1⟩
theorem B0i{a b:Int}(d:a.natAbs≤1048576)(hb:b.natAbs≤2147483647):(a*b).natAbs≤2251799812636672:=by
 rw[Int.natAbs_mul];exact D1g (Nat.mul_le_mul d hb) (by decide)
end Go.Lin
namespace Go.Proofs.YtibphjonmikciaaGreatDoor
open Go Go.Av Go.Lexs Go.Lin
attribute [local irreducible] ACalls S7
theorem B9T{Q}(a:LinV)(C:validL a=true)(vs:List VlV)(hv:I6 vs=true)(hlen:vs.length≤1000000000000000)(H:Heap)(h:Q (.tuple [.int .i64 ((L8 a.k a.t vs).getD 0),.bool (L8 a.k a.t vs).isSome]) H):D8 107 [.agg (D9 a),.sl 2 (Rw vlC vs)] H Q:=by
 refine A9 [] A5 Tryz.func107 rfl ?_;simp only[go_sem,seval,Tryz.results107];have ok:=L7 C;intro q r;have e1:(H.set q (.box (D9 a))) q=some (.box (D9 a)):=A2 _ _;have u:H.Le (H.set q (.box (D9 a))):=A0 r;generalize H.set q (.box (D9 a))=Bs at e1 u⊢;have G:=ok.len;have x:=ok.k;repeat' (first|with_reducible apply D0a|simp only[go_sem,seval,e1]|simp(disch:=omega) only[A3,A8]|intro j|omega)
 refine C4 [1,14,15] (fun(p:Nat×Int)=>[(16,.int .i64 p.1),(6,.int .i64 p.2)]) (fun(p:Nat×Int)=>H) (fun(p:Nat×Int)=>p.1≤a.t.length∧L8 a.k a.t vs=L8 p.2 (a.t.drop p.1) vs∧p.2.natAbs≤1099511627776+p.1*2251799812636672) (fun(p:Nat×Int)=>a.t.length-p.1) ((0,a.k)) (⟨D0v _,rfl,by simpa using x⟩) (by(try simp only[go_sem,seval])<;>(try simp(disch:=omega) [A3])) (by first|exact D11 _|exact A0 (by assumption)|exact B2 (by assumption)|simp only[Heap.Le,Heap.set,Heap.del]at* <;>grind) ?_;rintro L rfl ⟨i,s⟩ ⟨I,d,hs⟩;simp only at I d hs;by_cases e:i<a.t.length
 ·have g:decide ((i:Int)<a.t.length)=true:=D0c (by omega);have m:(i:Int)<a.t.length:=by omega
  have J:=A05 ok.t e;rw[A43 _ _ _ _ e]at d;cases o:J4 vs a.t[i].v with
  |none=>
   rw[o]at d;have d:L8 a.k a.t vs=none:=d;rw[d]at h;simp only[Option.getD_none,Option.isSome_none]at h;have y: ∀(H:Heap) (Q:D→Heap→Prop),Q (.tuple [.int .i64 0,.bool false]) H→D8 62 [.sl 2 (Rw vlC vs),.str a.t[i].v] H Q:=fun H Q hq=>B0f vs hv _ hlen H (by rw[o];exact hq);repeat' (first|with_reducible apply D0a|simp only[go_sem,seval,g,m,A8 _ _ e,B4 _ _ e]|intro j|with_reducible refine y _ _ ?_|omega)
   exact D12 (by simp only[D4,C9,D0]at* <;>grind) h
  |some n=>
   rw[o]at d;have d:L8 a.k a.t vs=L8 (s+a.t[i].c*n) (a.t.drop (i+1)) vs:=d;have hn:=B0h hv o;have hp:=B0i J.2.2.1 hn;have y: ∀(H:Heap) (Q:D→Heap→Prop),Q (.tuple [.int .i64 n,.bool true]) H→D8 62 [.sl 2 (Rw vlC vs),.str a.t[i].v] H Q:=fun H Q hq=>B0f vs hv _ hlen H (by rw[o];exact hq);obtain⟨z,A⟩: ∃z,z=a.t[i].c*n:=⟨_,rfl⟩
   rw[←A]at d hp;repeat' (first|with_reducible apply D0a|simp only[go_sem,seval,g,m,A8 _ _ e,B4 _ _ e,←A]|simp(disch:=omega) only[A3,A8]|intro j|with_reducible refine y _ _ ?_|omega)
   refine C2 (i+1,s+z) ⟨by simp only[];omega,d,by simp only[];omega⟩ (by simp only[];omega) (by(try simp only[go_sem,seval])<;>(try simp(disch:=omega) [A3])) (by simp only[D4,C9,D0]at* <;>grind)
 ·have g:decide ((i:Int)<a.t.length)=false:=D0d (by omega);rw[List.drop_eq_nil_of_le (by omega),L8]at d;rw[d]at h;simp only[Option.getD_some,Option.isSome_some]at h;repeat' simp only[go_sem,seval,g]
  exact D15 h
theorem C6v{Q}(a:LinV)(A:S3 a)(vs:List VlV)(q:A03 vs)(H:Heap)(h:Q (.tuple [.bool (atR a vs).1,.int .i64 (atR a vs).2]) H):D8 112 [.agg (D9 a),.sl 2 (Rw vlC vs)] H Q:=by
 refine A9 [] A5 Tryz.func112 rfl ?_;simp only[go_sem,seval,Tryz.results112];intro y C;have e1:(H.set y (.box (D9 a))) y=some (.box (D9 a)):=A2 _ _;have d:H.Le (H.set y (.box (D9 a))):=A0 C;generalize H.set y (.box (D9 a))=Bs at e1 d⊢;have O:=q.len;unfold atR at h;cases o:validL a with
 |false=>
  rw[o]at h;simp only[D0q,false_and,if_false]at h;repeat' (first|simp only[go_sem,seval,e1,o]|with_reducible refine A3o a A _ ?_)
  exact D12 d h
 |true=>
  cases hv:I6 vs with
  |false=>
   rw[o,hv]at h;simp only[D0q,and_false,if_false]at h;repeat' (first|simp only[go_sem,seval,e1,o,hv]|with_reducible refine A3o a A _ ?_|with_reducible refine A4Z vs q _ ?_)
   exact D12 d h
  |true=>
   rw[o,hv]at h;simp only[and_self,if_true]at h;have ok:=L7 o;have T:=ok.len;have G:=ok.k;repeat' (first|simp only[go_sem,seval,e1,o,hv]|with_reducible refine A3o a A _ ?_|with_reducible refine A4Z vs q _ ?_)
   refine C4 [1,2,22,23] (fun(p:Nat×Int)=>[(24,.int .i64 p.1),(6,.int .i64 p.2)]) (fun(p:Nat×Int)=>Bs) (fun(p:Nat×Int)=>p.1≤a.t.length∧L8 a.k a.t vs=L8 p.2 (a.t.drop p.1) vs∧p.2.natAbs≤1099511627776+p.1*2251799812636672) (fun(p:Nat×Int)=>a.t.length-p.1) ((0,a.k)) (⟨D0v _,rfl,by simpa using G⟩) (by(try simp only[go_sem,seval])<;>(try simp(disch:=omega) [A3])) (by first|exact D11 _|exact A0 (by assumption)|exact B2 (by assumption)|simp only[Heap.Le,Heap.set,Heap.del]at* <;>grind) ?_;rintro W rfl ⟨i,s⟩ ⟨U,e,hs⟩;simp only at U e hs;by_cases j:i<a.t.length
   ·have m:decide ((i:Int)<a.t.length)=true:=D0c (by omega);have r:(i:Int)<a.t.length:=by omega
    have V:=A05 ok.t j;rw[A43 _ _ _ _ j]at e;cases u:J4 vs a.t[i].v with
    |none=>
     rw[u]at e;have e:L8 a.k a.t vs=none:=e;rw[e]at h;have I: ∀(H:Heap) (Q:D→Heap→Prop),Q (.tuple [.int .i64 0,.bool false]) H→D8 65 [.sl 2 (Rw vlC vs),.str a.t[i].v] H Q:=fun H Q hq=>A2D vs q _ H (by rw[u];exact hq);repeat' (first|with_reducible apply D0a|simp only[go_sem,seval,m,r,A8 _ _ j,B4 _ _ j]|intro J|with_reducible refine I _ _ ?_|omega)
     exact D12 (by simp only[D4,C9,D0]at* <;>grind) h
    |some n=>
     rw[u]at e;have e:L8 a.k a.t vs=L8 (s+a.t[i].c*n) (a.t.drop (i+1)) vs:=e;have hn:=B0h hv u;have hp:=B0i V.2.2.1 hn;have I: ∀(H:Heap) (Q:D→Heap→Prop),Q (.tuple [.int .i64 n,.bool true]) H→D8 65 [.sl 2 (Rw vlC vs),.str a.t[i].v] H Q:=fun H Q hq=>A2D vs q _ H (by rw[u];exact hq);obtain⟨z,L⟩: ∃z,z=a.t[i].c*n:=⟨_,rfl⟩
     rw[←L]at e hp;repeat' (first|with_reducible apply D0a|simp only[go_sem,seval,m,r,A8 _ _ j,B4 _ _ j,←L]|simp(disch:=omega) only[A3,A8]|intro J|with_reducible refine I _ _ ?_|omega)
     refine C2 (i+1,s+z) ⟨by simp only[];omega,e,by simp only[];omega⟩ (by simp only[];omega) (by(try simp only[go_sem,seval])<;>(try simp(disch:=omega) [A3])) (by simp only[D4,C9,D0]at* <;>grind)
   ·have m:decide ((i:Int)<a.t.length)=false:=D0d (by omega);rw[List.drop_eq_nil_of_le (by omega),L8]at e;rw[e]at h;simp only[A29]at h;rcases Int.lt_trichotomy s 0 with g|g|g
    ·have x: ¬s=0:=by omega
     have M: ¬0<s:=by omega
     rw[D0d x,D0d M]at h;repeat' simp only[go_sem,seval,m,e1,x,M,decide_false]
     exact D12 d h
    ·rw[D0c g]at h;subst g;repeat' simp only[go_sem,seval,m,e1]
     exact D12 d h
    ·have x: ¬s=0:=by omega
     rw[D0d x,D0c g]at h;repeat' simp only[go_sem,seval,m,e1,x,g,decide_false,decide_true]
     exact D12 d h
end Go.Proofs.YtibphjonmikciaaGreatDoor
namespace Go.Lin
open Go Go.Av Go.Proofs.YtibphjonmikciaaGreatDoor
abbrev A4a(n m:Nat)(r:Row):Prop:=r.c.length=n∧A5I r m
abbrev hit(r s:Row):Prop:=r.eq=false∧s.eq=false∧A4R r s 1=true
theorem A1A(r s:Row)(l:List Row):A3h r (s::l)=if hit r s then(if r.k<s.k then {s with k:=r.k}else s)::l else s::A3h r l:=rfl
theorem B0j(r:Row): ∀(l:List Row) (j:Nat) (d:j<l.length),(∀(k:Nat) (hk:k<l.length),k<j→¬hit r l[k])→hit r l[j]→A3h r l=if r.k<l[j].k then l.set j {l[j]with k:=r.k}else l
 | [],j,d,_,_=>by simp at d
 |s::l,0,d,_,h=>by
  simp only[D1t]at h⊢;rw[A1A,if_pos h];split<;>rfl
 |s::l,j+1,d,h1,h=>by
  have e:=h1 0 (by simp) (by omega);simp only[D1t]at e;simp only[List.getElem_cons_succ]at h⊢;rw[A1A,if_neg e,B0j r l j (by simpa using d) (fun k hk g=>by have:=h1 (k+1) (by simpa using hk) (by omega);simpa using this) h];split<;>rfl
theorem A7n(r:Row): ∀(l:List Row),(∀(k:Nat) (hk:k<l.length),¬hit r l[k])→A3h r l=l++[r]
 | [],_=>rfl
 |s::l,h1=>by
  have d:=h1 0 (by simp);simp only[D1t]at d;rw[A1A,if_neg d,A7n r l (fun k hk=>by have:=h1 (k+1) (by simpa using hk);simpa using this)];rfl
theorem B6l{n m:Nat}(r:Row)(hr:A4a n m r): ∀(l:List Row),(∀s∈l,A4a n m s)→∀s∈A3h r l,A4a n m s
 | [],_,s,hs=>by simp[A3h]at hs;subst hs;exact hr
 |x::l,h,s,hs=>by
  have hx:=h x (D0l ..);rw[A1A]at hs;split at hs
  ·rcases D02.1 hs with rfl|hs
   ·split
    ·exact⟨hx.1,hr.2.1,hx.2.2⟩
    ·exact hx
   ·exact h s (D0s _ hs)
  ·rcases D02.1 hs with rfl|hs
   ·exact hx
   ·exact B6l r hr l (fun y d=>h y (D0s _ d)) s hs
theorem B0k(r:Row): ∀l,(A3h r l).length≤l.length+1
 | []=>by simp[A3h]
 |x::l=>by rw[A1A];have:=B0k r l;split<;>simp<;>omega
theorem B0l(l:List Row)(i:Nat)(h:i<l.length):pairs1 (l.take (i+1))=A3h l[i] (pairs1 (l.take i)):=by
 unfold pairs1;rw[D0t h,D1S];rfl
theorem B0m{n m:Nat}: ∀(l d:List Row),(∀s∈l,A4a n m s)→(∀s∈d,A4a n m s)→∀s∈l.foldl (fun out r=>A3h r out) d,A4a n m s
 | [],_,_,h=>h
 |r::l,d,h1,e=>B0m l _ (fun s hs=>h1 s (D0s _ hs)) (B6l r (h1 r (D0l ..)) d e)
theorem A6P: ∀(l d:List Row),(l.foldl (fun out r=>A3h r out) d).length≤d.length+l.length
 | [],_=>by simp
 |r::l,d=>by have:=A6P l (A3h r d);have:=B0k r d;simp only[List.foldl_cons,D0f];omega
theorem B4X(r s:Row)(l:List Row):A5H r (s::l)=if r.eq=true∨s.eq=true∨A4R r s (-1)=false then A5H r l
  else if r.k+s.k<0 then none else if r.k+s.k=0 then A5H {r with eq:=true} l else A5H r l:=rfl
theorem B0n(done:List Row)(r:Row)(l:List Row):A0K done (r::l)=match A5H r done with|none=>none|some r'=>A0K (done++[r']) l:=rfl
def B0o:Option (List Row)→D
 |none=>.tuple [.sl 4 [],.bool false]
 |some l=>.tuple [.sl 4 (Rw C7 l),.bool true]
end Go.Lin
namespace Go.Av
theorem O3.putle{H Hp:Heap}{sz:Nat}{e1 e2 e3:List (List D)}{o1 o2 o3:Option Nat}(h:O3 H Hp sz e1 e2 e3 o1 o2 o3):(putB H sz e1 o1).Le Hp:=by
 cases o1 with
 |none=>exact h.le
 |some b=>
  intro k o hk;have hk:(H.set b (.vec sz e1)) k=some o:=hk;by_cases e:k=b
  ·subst e;rw[A2]at hk;cases hk;exact h.a1
  ·rw[A4 _ e]at hk;exact h.le _ _ hk
theorem O3.base{H d Hp i:Heap}{sz:Nat}{e1 e2 e3:List (List D)}{o1 o2 o3:Option Nat}(h:O3 H Hp sz e1 e2 e3 o1 o2 o3)(h1:d.Le i)(j:Hp.Le i)(hn: ∀b,Hp b≠none→H b=none→d b=none):O3 d i sz e1 e2 e3 o1 o2 o3:=by
 have key: ∀{e:List (List D)} {o:Option Nat},OutAt Hp sz e o→(∀b,o=some b→H b=none)→∀b,o=some b→d b=none:=fun {e o} m p b g=>hn b (by rw[m.some_of g];simp) (p b g);exact⟨h1,h.a1.up j,h.a2.up j,h.a3.up j,key h.a1 h.n1,key h.a2 h.n2,key h.a3 h.n3,h.d12,h.d13,h.d23⟩
end Go.Av
namespace Go.Lin
open Go Go.Av Go.Proofs.YtibphjonmikciaaGreatDoor
def A3F(c:List Int)(j:Nat):Nat:=gcdR (c.take j)
theorem A4b(c:List Int):A3F c 0=0:=rfl
theorem A7o(c:List Int)(j:Nat)(h:j<c.length):A3F c (j+1)=Nat.gcd c[j].natAbs (A3F c j):=by
 unfold A3F gcdR;rw[D0t h,D1S];rfl
theorem A6Q(c:List Int):A3F c c.length=gcdR c:=by unfold A3F;rw[List.take_length]
theorem B3M(c:List Int)(m:Nat)(hm: ∀x∈c,x.natAbs≤m): ∀j,j≤c.length→A3F c j≤m
 |0,_=>by rw[A4b];omega
 |j+1,h=>by
  have d:=B3M c m hm j (by omega);rw[A7o c j (by omega)];by_cases e:A3F c j=0
  ·rw[e,Nat.gcd_zero_right];exact hm _ (D0o _)
  ·exact D1g (Nat.gcd_le_right _ (by omega)) d
def gB(j:Nat)(g:Int):List D:=if j=0 then [.bool false,.nilsl]else C6 g
theorem A5V(j:Nat)(g:Int):gB (j+1) g=C6 g:=rfl
theorem C3M(c:List Int)(j:Nat):NilR (.agg (gB j (A3F c j:Nat))) (.agg (C6 (A3F c j:Nat))):=by
 cases j with
 |zero=>rw[A4b];exact A8k
 |succ j=>exact .same _
def A1B(r:Row):Option (List Row):=
 let g:=gcdR r.c
 if g=0 then(if r.k<0∨(r.eq=true∧0<r.k)then none else some [])
 else if g=1 then some [r]
 else
  let k:=r.k.fdiv g
  if r.eq=true∧k*g-r.k≠0 then none
  else some [⟨r.c.map (Int.fdiv · g),k,r.eq⟩]
theorem B12(r:Row)(l:List Row):Y8 (r::l)=(A1B r).bind fun x=>(Y8 l).map (x++ ·):=by
 rw[Y8];unfold A1B;simp only[];split
 ·split
  ·rfl
  ·simp
 ·split
  ·rfl
  ·split
   ·rfl
   ·rfl
theorem B4Y{l:List Row}{i:Nat}{D:List Row}(h:i<l.length)(d:Y8 l=(Y8 (l.drop i)).map (D++ ·)):Y8 l=(A1B l[i]).bind fun x=>(Y8 (l.drop (i+1))).map ((D++x)++ ·):=by
 rw[d,D05 h,B12];cases A1B l[i]with
 |none=>rfl
 |some x=>cases Y8 (l.drop (i+1))<;>simp
theorem A3G(a:Int)(b:Nat)(hb:b≠0):(a.fdiv b).natAbs≤a.natAbs:=by
 rw[Int.fdiv_eq_ediv_of_nonneg _ (by omega)];by_cases h:0≤a
 ·have h1:=Int.ediv_nonneg h (show (0:Int)≤b by omega);have d:=Int.ediv_le_self (b:=(b:Int)) h;omega
 ·have h1:a / (b:Int)<0:=Int.ediv_neg_of_neg_of_pos (by omega) (by omega);have d:a≤a / (b:Int):=by
   have:=Int.ediv_mul_le a (show (b:Int)≠0 by omega);have e:=Int.mul_le_mul_of_nonpos_left (show a / (b:Int)≤0 by omega) (show (1:Int)≤b by omega);have g:=Int.lt_ediv_add_one_mul_self a (show (0:Int)<b by omega);refine Int.le_ediv_of_mul_le (by omega) ?_;have:=Int.mul_le_mul_of_nonpos_left (show a≤0 by omega) (show (1:Int)≤b by omega);omega
  omega
theorem B3N{n m:Nat}{r:Row}{x:List Row}(hr:A4a n m r)(h:A1B r=some x):(∀s∈x,A4a n m s)∧x.length≤1:=by
 unfold A1B at h;simp only[]at h;split at h
 ·split at h
  ·cases h
  ·cases h;simp
 ·rename_i d;split at h
  ·cases h;exact⟨fun s hs=>by simp at hs;subst hs;exact hr,by simp⟩
  ·split at h
   ·cases h
   ·cases h;refine⟨fun s hs=>?_,by simp⟩;simp at hs;subst hs;refine⟨by simp[hr.1],D1g (A3G _ _ d) hr.2.1,fun y e=>?_⟩;simp only[D1Y]at e;obtain⟨z,g,rfl⟩:=e;exact D1g (A3G _ _ d) (hr.2.2 z g)
end Go.Lin
namespace Go.Lin
open Go Go.Av Go.Lexs
def zrV(names:List ByteArray)(a:LinV):ZR:=⟨l6 names a.t,C6s names a⟩
def zrB(n i:Nat)(s:Int):ZR:=⟨(List.replicate n zB).set i (C6 s),⟨A7Z n i s,2147483647,false⟩⟩
def zrR(names:List ByteArray)(l:List LinV)(m:Nat):List ZR:=l.map (zrV names)++(List.range m).flatMap fun i=>[zrB names.length i 1,zrB names.length i (-1)]
theorem B6n(d:List ByteArray)(l:List LinV):(zrR d l d.length).map (·.r)=B0P l d:=by
 unfold zrR B0P;rw[D1a,List.map_map,List.map_flatMap];rfl
theorem C3N(d:List ByteArray)(l:List LinV)(m:Nat)(hm:m≤d.length): ∀z∈zrR d l m,zOk z:=fun z e=>by
 unfold zrR at e;rcases D00.1 e with h|h
 ·obtain⟨a,_,rfl⟩:=D1Y.1 h;exact B6d d a.t
 ·obtain⟨i,g,h⟩:=List.mem_flatMap.1 h;have j:=List.mem_range.1 g;rcases D02.1 h with rfl|h
  ·exact B0Z _ _ _ (by omega)
  ·simp at h;rw[h];exact B0Z _ _ _ (by omega)
def zrJ(names:List ByteArray)(l:List LinV)(i j:Nat):List ZR:=zrR names l i++([zrB names.length i 1,zrB names.length i (-1)].take j)
theorem B6o(d:List ByteArray)(l:List LinV)(i:Nat):zrJ d l i 0=zrR d l i:=by simp[zrJ]
theorem B3O(d:List ByteArray)(l:List LinV)(i:Nat):zrJ d l i 2=zrR d l (i+1):=by
 unfold zrJ zrR;rw[List.range_succ,List.flatMap_append];simp
theorem B9U(d:List ByteArray)(l:List LinV)(i:Nat):zrJ d l i 1=zrJ d l i 0++[zrB d.length i 1]:=by simp[zrJ]
theorem B6p(d:List ByteArray)(l:List LinV)(i:Nat):zrJ d l i 2=zrJ d l i 1++[zrB d.length i (-1)]:=by simp[zrJ]
theorem B6q(d:List ByteArray)(l:List LinV):zrR d l 0=l.map (zrV d):=by simp[zrR]
theorem B3P(d:List ByteArray)(l:List LinV)(i:Nat):(zrR d l i).length=l.length+2*i:=by
 unfold zrR;rw[D0g,D1J]
 congr 1
 induction i with
 |zero=>rfl
 |succ i e=>rw[List.range_succ,List.flatMap_append,D0g,e];simp;omega
theorem A5X(d:List ByteArray)(l:List LinV)(i j:Nat)(e:j≤2):(zrJ d l i j).length=l.length+2*i+j:=by
 unfold zrJ;rw[D0g,B3P,D1I];simp;omega
end Go.Lin
namespace Go.Proofs.YtibphjonmikciaaGreatDoor
open Go Go.Av Go.Lexs Go.Lin
attribute [local irreducible] ACalls S7
theorem A8q{Q}(b:Nat)(es:List ByteArray)(hn:es.length≤1000000)(H:Heap)(hb:H b=some (.box [.sl 1 (Rw F3 es)]))(h: ∀v,H v=none→Q (.vec v 2 0 es.length) (H.set v (.vec 2 (List.replicate es.length zB)))):D8 227 [.box b 0] H Q:=by
 refine A9 [] A5 Tryz.func227 rfl ?_;simp only[go_sem,seval,Tryz.results227];repeat' (first|with_reducible apply D0a|simp only[go_sem,seval,hb]|intro d|omega)
 rename_i v;exact D15 (h v d)
set_option maxHeartbeats 2000000 in
theorem C3O{Q}(l:List LinV)(d:List ByteArray)(hlen:l.length≤1000000)(hn:d.length≤1000000)(d4:d.Pairwise fun x y=>S4 x y=true)(hv: ∀a∈l,validL a=true)(hm: ∀a∈l,∀t∈a.t,t.v∈d)(H:Heap)(h:Q (.sl 4 (Rw C7 (B0P l d))) H):
  D8 197 [.sl 3 (Rw D9 l),.sl 1 (Rw F3 d)] H Q:=by
 refine A9 [(6,.par),(11,.par),(22,.par)] A5 Tryz.func197 rfl ?_;simp only[go_sem,seval,Tryz.results197];intro W e8;have e3:(H.set W (.box [.sl 1 (Rw F3 d)])) W=some (.box [.sl 1 (Rw F3 d)]):=A2 _ _;have b7:H.Le (H.set W (.box [.sl 1 (Rw F3 d)])):=A0 e8;generalize H.set W (.box [.sl 1 (Rw F3 d)])=Bs at e3 b7⊢;have e9:d.Nodup:=d4.imp fun {x y} g e=>by rw[e,u0]at g;cases g
 repeat' (first|with_reducible apply D0a|simp only[go_sem,seval]|simp(disch:=omega) only[A3,A8]|simp(disch:=first|omega|grind) only[C0]|(intro m;try simp only[A6]at m)|omega)
 refine C4 [3,6,19,20] (fun(p:Nat×Option Nat)=>[(21,.int .i64 p.1),(5,H6 4 p.1 p.2)]) (fun(p:Nat×Option Nat)=>putB Bs 4 (Rw zrC ((l.take p.1).map (zrV d))) p.2) (fun(p:Nat×Option Nat)=>p.1≤l.length∧(p.2=none→p.1=0)∧(∀b,p.2=some b→Bs b=none)) (fun(p:Nat×Option Nat)=>l.length-p.1) ((0,none)) (⟨D0v _,by simp,by simp⟩) (by(try simp only[go_sem,seval])<;>(try simp(disch:=omega) [A3])) (by first|exact D11 _|exact A0 (by assumption)|exact B2 (by assumption)|simp only[Heap.Le,Heap.set,Heap.del]at* <;>grind) ?_;rintro Ec rfl ⟨i,o1⟩ ⟨hi,ho,c0⟩;simp only at hi ho c0;have A:=O3.put (H:=Bs) (sz:=4) (es:=Rw zrC ((l.take i).map (zrV d))) (ob:=o1) (fun e=>by rw[ho e];rfl) c0;have fl:=A8l (zrV d) l i hi;generalize putB Bs 4 (Rw zrC ((l.take i).map (zrV d))) o1=Hp at A⊢;by_cases a5:i<l.length
 ·have c1:decide ((i:Int)<l.length)=true:=D0c (by omega);have g7:(i:Int)<l.length:=by omega
  have d5:=hv _ (D0o a5);have d6:=hm _ (D0o a5);have fs:=A6O (zrV d) l i a5;obtain⟨a,d7⟩: ∃a,a=l[i]:=⟨_,rfl⟩
  rw[←d7]at d5 d6 fs;have ok:=L7 d5;repeat' (first|with_reducible apply D0a|simp only[go_sem,seval,c1,A8 _ _ a5,B4 _ _ a5,←d7]|(intro m;try simp only[A6]at m)|omega)
  rename_i b8;have h8:=m;clear m;have c8:(Hp.set b8 (.box (D9 a))) b8=some (.box (D9 a)):=A2 _ _;have I:Hp.Le (Hp.set b8 (.box (D9 a))):=A0 h8;have c3:(Hp.set b8 (.box (D9 a))) W=some (.box [.sl 1 (Rw F3 d)]):=I _ _ (A.le _ _ e3);generalize Hp.set b8 (.box (D9 a))=B8 at c8 I c3⊢;have m3:W∈[W,b8]:=by simp
  have m8:b8∈[W,b8]:=by simp
  obtain⟨k,hk⟩: ∃k,k=a.k:=⟨_,rfl⟩
  have f0:=ok.k;rw[←hk]at f0;have f5:B8 b8=some (.box [.sl 2 (Rw S1 a.t),.int .i64 k,.bool a.e]):=by rw[hk];exact c8
  refine B2r (fun i'=>if i'=1 then .mk' (fun v=>.vec v 2 0 d.length) (.vec 2 (List.replicate d.length zB))else if i'=4 then .c (.agg (C6 k))else .c .undef) [W,b8] ?_;repeat' (first|with_reducible apply D0a|simp only[go_sem,seval,f5,c3,m3,m8]|simp(disch:=first|omega|grind) only[C0]|(intro m;try simp only[A6]at m)|with_reducible refine C85 c3 m3 (by simp) rfl (fun H' Q hro hb hq=>A8q W d hn H' hb hq) ?_|with_reducible refine R2 (fun H' Q hro hq=>u8 k (by omega) (by omega) H' hq) ?_)
  rename_i bv hv b9;have h9:=m;clear m;have nb:b9≠bv:=h9.1;have k3:W≠bv∧W≠b9:=⟨(fun g=>by rw[g,hv]at c3;cases c3),(fun g=>by rw[g,h9.2]at c3;cases c3)⟩
  rw[show List.replicate d.length zB=l6 d (a.t.take 0)from(B4Q d).symm];refine C4 [3,5,6,9,19,20,21,34,35] (fun(j:Nat)=>[(36,.int .i64 j)]) (fun(j:Nat)=>(B8.set bv (.vec 2 (l6 d (a.t.take j)))).set b9 (.box [.vec bv 2 0 d.length,.bool (decide (k<0)),.sl 1 (Rw F4 (B9 k.natAbs)),.bool a.e])) (fun(j:Nat)=>j≤a.t.length) (fun(j:Nat)=>a.t.length-j) (0) (D0v _) (by(try simp only[go_sem,seval])<;>(try simp(disch:=omega) [A3])) (by first|exact D11 _|exact A0 (by assumption)|exact B2 (by assumption)|simp only[Heap.Le,Heap.set,Heap.del]at* <;>grind) ?_;rintro Ec rfl j hj;have g8:=ok.len;by_cases a6:j<a.t.length
  ·have G:decide ((j:Int)<a.t.length)=true:=D0c (by omega);have f6:(j:Int)<a.t.length:=by omega
   obtain⟨t,ht⟩: ∃t,t=a.t[j]:=⟨_,rfl⟩
   have tc:=(A05 ok.t a6).2.2.1;rw[←ht]at tc;obtain⟨x,hx,b4⟩:=List.getElem_of_mem (d6 _ (D0o a6));rw[←ht]at b4;have f7:(x:Int)<d.length:=by omega
   have d8: ∀y∈a.t.take j,y.v≠t.v:=fun y hy g=>by
    obtain⟨q,hq,rfl⟩:=List.getElem_of_mem hy;rw[D1I]at hq;have:=List.pairwise_iff_getElem.1 (B1u ok.t) q j (by omega) a6 (by omega);rw[List.getElem_take]at g;rw[←ht,g,u0]at this;cases this
   obtain⟨z,hz⟩: ∃z,z=t.c:=⟨_,rfl⟩
   have ts:a.t.take (j+1)=a.t.take j++[t]:=by rw[D0t a6,ht]
   have J:=B6c d (a.t.take j) t x hx b4 e9 d8;rw[←ts,←hz]at J;have e0:=B6b d (a.t.take j) x hx (fun y hy=>by rw[b4];exact d8 y hy);have f8:=B0Y d (a.t.take j);rw[←hz]at tc;have f9:t.c=z:=hz.symm;repeat' (first|with_reducible apply D0a|simp only[go_sem,seval,G,f6,A8 _ _ a6,B4 _ _ a6,←ht,f9]|simp(disch:=first|omega|grind) only[C0]|(intro m;try simp only[A6]at m)|omega)
   rename_i a9;have b6:=m;clear m;have j1:=b6.1;have j2:=b6.2.1;have j3:W≠a9:=fun g=>by have:=b6.2.2;rw[←g,c3]at this;cases this
   have p9:b9∈[b9,a9]:=by simp
   have g0:a9∈[b9,a9]:=by simp
   repeat' (first|simp only[go_sem,seval,A4 _ j3,A4 _ k3.2,A4 _ k3.1,c3]|with_reducible refine B4W d d4 t.v x hx b4 (by omega) _ ?_)
   refine F2 (fun i'=>if i'=5 then .agg (C6 z)else .undef) [b9,a9] ?_;repeat' (first|with_reducible apply D0a|simp only[go_sem,seval,p9,g0,f7,f8,e0.1,e0.2]|simp(disch:=omega) only[A3,A8]|simp(disch:=first|omega|grind) only[C0]|with_reducible refine R2 (fun H' Q hro hq=>u8 z (by omega) (by omega) H' hq) ?_|omega)
   have c2:(l6 d (a.t.take j)).set x ((zB.set 0 (D.bool (decide (z<0)))).set 1 (D.sl 1 (Rw F4 (B9 z.natAbs))))=l6 d (a.t.take (j+1)):=J;refine C2 (j+1) (by omega) (by omega) (by(try simp only[go_sem,seval])<;>(try simp(disch:=omega) [A3])) ?_;rw[←c2];intro q o hq;have g2:q≠a9:=fun g=>by rw[g,A4 _ j1,A4 _ j2,b6.2.2]at hq;cases hq
   by_cases g:q=bv
   ·subst g;rw[A4 _ nb.symm,A2]at hq;rw[A2];exact hq
   ·rw[A4 _ g,A4 _ g2];by_cases e4:q=b9
    ·subst e4;rw[A2]at hq⊢;exact hq
    ·rw[A4 _ e4,A4 _ g]at hq⊢;exact hq
  ·have G:decide ((j:Int)<a.t.length)=false:=D0d (by omega);have g4:j=a.t.length:=by omega
   subst g4;rw[List.take_length];repeat' (first|simp only[go_sem,seval,G]|(intro m;try simp only[A6]at m))
   rename_i bx;have L:=m;clear m;have g5:Bs bv=none:=(A.le.trans I).none hv;have q1:(Bs.set bv (.vec 2 (l6 d a.t))).Le ((B8.set bv (.vec 2 (l6 d a.t))).set b9 (.box [.vec bv 2 0 d.length,.bool (decide (k<0)),.sl 1 (Rw F4 (B9 k.natAbs)),.bool a.e])):=by
    intro q o hq;by_cases g:q=bv
    ·subst g;rw[A4 _ nb.symm,A2];rw[A2]at hq;exact hq
    ·rw[A4 _ g]at hq;have u:=I _ _ (A.le _ _ hq);have g9:q≠b9:=fun g=>by rw[g,h9.2]at u;cases u
     rw[A4 _ g9,A4 _ g];exact u
   have q2:Hp.Le ((B8.set bv (.vec 2 (l6 d a.t))).set b9 (.box [.vec bv 2 0 d.length,.bool (decide (k<0)),.sl 1 (Rw F4 (B9 k.natAbs)),.bool a.e])):=by
    intro q o hq;have u:=I _ _ hq;have g:q≠bv:=fun g=>by rw[g,hv]at u;cases u
    have g9:q≠b9:=fun g=>by rw[g,h9.2]at u;cases u
    rw[A4 _ g9,A4 _ g];exact u
   have O:=A.base q1 q2 (fun b b0 b1=>by rw[A4 _ (fun g=>b0 (by rw[g];exact I.none hv))];exact b1);refine O3.ap O (e1':=Rw zrC ((l.take i).map (zrV d))++[[.vec bv 2 0 d.length,.bool (decide (k<0)),.sl 1 (Rw F4 (B9 k.natAbs)),.bool a.e]]) (D11 _) (by simp only[A6];exact L) (by simp) (by rw[D5,fl]) (by simp only[D0f,D0h];omega) (by simp only[D0f,D0h];omega) rfl fun T H' X=>?_;clear O q1 q2 L;repeat' (first|simp only[go_sem,seval]|simp(disch:=omega) only[A3,A8])
   have C:=X.n1 _ rfl;have U:bv≠T:=fun g=>by rw[←g,A2]at C;cases C
   have eX:Rw zrC ((l.take (i+1)).map (zrV d))=Rw zrC ((l.take i).map (zrV d))++[.sl 2 (l6 d a.t)::[.bool (decide (k<0)),.sl 1 (Rw F4 (B9 k.natAbs)),.bool a.e]]:=by rw[fs,←O4,hk];rfl
   refine B5w (i+1,some T) ⟨by simp only[];omega,by simp,fun b e=>?_⟩ (by simp only[];omega) ?_
   ·have:=X.n1 _ e;rw[A4 _ (by cases e;exact U.symm)]at this;exact this
   ·show A02 _ (Bs.set T (.vec 4 (Rw zrC ((l.take (i+1)).map (zrV d))))) _ _;rw[eX];refine A07 (by(try simp only[go_sem,seval,L1])<;>(try simp(disch:=omega) [A3])) (by rw[B0Y]) X.a1 (X.le _ _ (A2 _ _)) U (fun q o hq ho=>?_);have V:q≠bv:=fun g=>by rw[g,g5]at ho;cases ho
    exact⟨V,X.le q o (by rw[A4 _ V];exact ho)⟩
 ·have c1:decide ((i:Int)<l.length)=false:=D0d (by omega);have c4:i=l.length:=by omega
  rw[D0p (by omega),←B6q]at A;have g6:i=(zrR d l 0).length:=by rw[B3P];omega
  have c3:=A.le _ _ e3;rw[g6];repeat' simp only[go_sem,seval,D0d (show¬(((zrR d l 0).length:Nat):Int)<l.length by omega),c3]
  clear c1 c0 ho hi a5 fl c4;refine C4 [6,61] (fun(p:Nat×Option Nat×Heap)=>[(62,.int .i64 p.1),(5,H6 4 (zrR d l p.1).length p.2.1)]) (fun(p:Nat×Option Nat×Heap)=>p.2.2) (fun(p:Nat×Option Nat×Heap)=>p.1≤d.length∧O3 Bs p.2.2 4 (Rw zrC (zrR d l p.1)) [] [] p.2.1 none none) (fun(p:Nat×Option Nat×Heap)=>d.length-p.1) ((0,o1,Hp)) (⟨D0v _,A⟩) (by(try simp only[go_sem,seval])<;>(try simp(disch:=omega) [A3])) (by first|exact D11 _|exact A0 (by assumption)|exact B2 (by assumption)|simp only[Heap.Le,Heap.set,Heap.del]at* <;>grind) ?_;clear A c3;obtain⟨M,hM⟩: ∃M:Int,M=2147483647:=⟨_,rfl⟩
  have wm: ∀(H:Heap) (Q:D→Heap→Prop),Q (.agg (C6 M)) H→D8 228 [.int .i64 2147483647] H Q:=fun H Q hq=>u8 2147483647 (by omega) (by omega) H (by rw[←hM];exact hq);rintro Ec rfl ⟨i,o1,Hp⟩ ⟨hi,A⟩;simp only at hi A;by_cases hit:i<d.length
  ·have G:decide ((i:Int)<d.length)=true:=D0c (by omega);have e6:(i:Int)<d.length:=by omega
   repeat' (first|simp only[go_sem,seval,G]|(intro m;try simp only[A6]at m))
   rename_i bs;have e7:=m;clear m;have g3:=A.grow e7 (.vec 1 [[.int .i64 1],[.int .i64 (-1)]]);have es:(Bs.set bs (.vec 1 [[.int .i64 1],[.int .i64 (-1)]])) bs=some (.vec 1 [[.int .i64 1],[.int .i64 (-1)]]):=A2 _ _;have c5:Bs.Le (Bs.set bs (.vec 1 [[.int .i64 1],[.int .i64 (-1)]])):=A0 (A.le.none e7);generalize Hp.set bs (.vec 1 [[.int .i64 1],[.int .i64 (-1)]])=Hq at g3⊢;generalize Bs.set bs (.vec 1 [[.int .i64 1],[.int .i64 (-1)]])=B1 at g3 es c5;rw[←B6o]at g3⊢;refine C4 [6,14,61,62,65,66] (fun(p:Nat×Option Nat×Heap)=>[(67,.int .i64 p.1),(5,H6 4 (zrJ d l i p.1).length p.2.1)]) (fun(p:Nat×Option Nat×Heap)=>p.2.2) (fun(p:Nat×Option Nat×Heap)=>p.1≤2∧O3 B1 p.2.2 4 (Rw zrC (zrJ d l i p.1)) [] [] p.2.1 none none) (fun(p:Nat×Option Nat×Heap)=>2-p.1) ((0,o1,Hq)) (⟨D0v _,g3⟩) (by(try simp only[go_sem,seval])<;>(try simp(disch:=omega) [A3])) (by first|exact D11 _|exact A0 (by assumption)|exact B2 (by assumption)|simp only[Heap.Le,Heap.set,Heap.del]at* <;>grind) ?_;clear g3 A;rintro Ec rfl ⟨j,o1,Hp⟩ ⟨hj,A⟩;simp only at hj A;have d3:=A.le _ _ (c5 _ _ e3);have ds:=A.le _ _ es
   match j,hj with
   |0,_=>
    have k3:decide (((0:Nat):Int)<((2:Nat):Int))=true:=by decide
    have g1:=B9U d l i;have gl:=A5X d l i 0 (by omega);have c6:=A5X d l i (1) (by omega);obtain⟨s,hs⟩: ∃s:Int,s=1:=⟨1,rfl⟩
    have ws: ∀(H:Heap) (Q:D→Heap→Prop),Q (.agg (C6 s)) H→D8 228 [.int .i64 (1)] H Q:=fun H Q hq=>u8 (1) (by omega) (by omega) H (by rw[←hs];exact hq);repeat' (first|with_reducible apply D0a|simp only[go_sem,seval,k3,ds,d3,D09,D1A]|(intro m;try simp only[A6]at m)|with_reducible refine A8q W d hn _ d3 ?_|with_reducible refine wm _ _ ?_|omega)
    rename_i v hv r;have a0:=m;clear m;have nb:r≠v:=a0.1;have c7:r∈[r]:=by simp
    have a4:(List.replicate d.length zB)[i]? =some zB∧(List.replicate d.length zB).getD i []=zB:=by
     have:(List.replicate d.length zB)[i]? =some zB:=by simp[hit]
     exact⟨this,by rw[List.getD_eq_getElem?_getD,this];rfl⟩
    have b2:(List.replicate d.length zB).length=d.length:=List.length_replicate;refine F2 (fun i'=>if i'=4 then .agg (C6 s)else .undef) [r] ?_;obtain⟨Z,hZ⟩: ∃Z,Z=List.replicate d.length zB:=⟨_,rfl⟩
    rw[←hZ]at a4 b2⊢;repeat' (first|with_reducible apply D0a|simp only[go_sem,seval,c7,e6,b2,a4.1,a4.2]|simp(disch:=first|omega|grind) only[C0]|(intro m;try simp only[A6]at m)|with_reducible refine R2 (fun H' Q hro hq=>ws H' Q hq) ?_|omega)
    rename_i bx;have L:=m;clear m;have J:Z.set i ((zB.set 0 (D.bool (decide (s<0)))).set 1 (D.sl 1 (Rw F4 (B9 s.natAbs))))=(List.replicate d.length zB).set i (C6 s):=by rw[hZ];rfl
    rw[J];obtain⟨Y,hY⟩: ∃Y,Y=(List.replicate d.length zB).set i (C6 s):=⟨_,rfl⟩
    rw[←hY];have c9:Y.length=d.length:=by rw[hY,D1X,List.length_replicate]
    have d0:B1 v=none:=A.le.none hv;have q1:(B1.set v (.vec 2 Y)).Le (((Hp.set v (.vec 2 Z)).set r (.box [.vec v 2 0 d.length,.bool (decide (M<0)),.sl 1 (Rw F4 (B9 M.natAbs)),.bool false])).set v (.vec 2 Y)):=by
     intro q o hq;by_cases g:q=v
     ·subst g;rw[A2]at hq⊢;exact hq
     ·rw[A4 _ g]at hq;have u:=A.le _ _ hq;have g9:q≠r:=fun g=>by rw[g,a0.2]at u;cases u
      rw[A4 _ g,A4 _ g9,A4 _ g];exact u
    have q2:Hp.Le (((Hp.set v (.vec 2 Z)).set r (.box [.vec v 2 0 d.length,.bool (decide (M<0)),.sl 1 (Rw F4 (B9 M.natAbs)),.bool false])).set v (.vec 2 Y)):=by
     intro q o u;have g:q≠v:=fun g=>by rw[g,hv]at u;cases u
     have g9:q≠r:=fun g=>by rw[g,a0.2]at u;cases u
     rw[A4 _ g,A4 _ g9,A4 _ g];exact u
    have O:=A.base q1 q2 (fun b b0 b1=>by rw[A4 _ (fun g=>b0 (by rw[g];exact hv))];exact b1);refine O3.ap O (e1':=Rw zrC (zrJ d l i 0)++[[.vec v 2 0 d.length,.bool (decide (M<0)),.sl 1 (Rw F4 (B9 M.natAbs)),.bool false]]) (D11 _) (by simp only[A6];simp only[L,ne_eq,not_false_eq_true,and_self]) (by simp) (by rw[D5]) (by simp only[D0f,D0h];omega) (by simp only[D0f,D0h];omega) rfl fun T H' X=>?_;clear O q1 q2 L;repeat' (first|simp only[go_sem,seval]|simp(disch:=omega) only[A3,A8])
    have C:=X.n1 _ rfl;have U:v≠T:=fun g=>by rw[←g,A2]at C;cases C
    have d2:B1 T=none:=by rw[A4 _ U.symm]at C;exact C
    have eX:Rw zrC (zrJ d l i 1)=Rw zrC (zrJ d l i 0)++[.sl 2 Y::[.bool (decide (M<0)),.sl 1 (Rw F4 (B9 M.natAbs)),.bool false]]:=by rw[g1,←O4,hY,hM,hs];rfl
    refine B5w (1,some T,B1.set T (.vec 4 (Rw zrC (zrJ d l i 1)))) ⟨by simp only[];omega,O3.put (H:=B1) (ob:=some T) (by simp) (fun b e=>by cases e;exact d2)⟩ (by simp only[];omega) ?_;show A02 _ (B1.set T (.vec 4 (Rw zrC (zrJ d l i 1)))) _ _;rw[eX];refine A07 (by(try simp only[go_sem,seval,L1,gl,c6])<;>(try simp(disch:=omega) [A3])) c9.symm X.a1 (X.le _ _ (A2 _ _)) U (fun q o hq ho=>?_);have V:q≠v:=fun g=>by rw[g,d0]at ho;cases ho
    exact⟨V,X.le q o (by rw[A4 _ V];exact ho)⟩
   |1,_=>
    have k3:decide (((1:Nat):Int)<((2:Nat):Int))=true:=by decide
    have g1:=B6p d l i;have gl:=A5X d l i 1 (by omega);have c6:=A5X d l i (2) (by omega);obtain⟨s,hs⟩: ∃s:Int,s= -1:=⟨-1,rfl⟩
    have ws: ∀(H:Heap) (Q:D→Heap→Prop),Q (.agg (C6 s)) H→D8 228 [.int .i64 (-1)] H Q:=fun H Q hq=>u8 (-1) (by omega) (by omega) H (by rw[←hs];exact hq);repeat' (first|with_reducible apply D0a|simp only[go_sem,seval,k3,ds,d3,D09,D1A]|(intro m;try simp only[A6]at m)|with_reducible refine A8q W d hn _ d3 ?_|with_reducible refine wm _ _ ?_|omega)
    rename_i v hv r;have a0:=m;clear m;have nb:r≠v:=a0.1;have c7:r∈[r]:=by simp
    have a4:(List.replicate d.length zB)[i]? =some zB∧(List.replicate d.length zB).getD i []=zB:=by
     have:(List.replicate d.length zB)[i]? =some zB:=by simp[hit]
     exact⟨this,by rw[List.getD_eq_getElem?_getD,this];rfl⟩
    have b2:(List.replicate d.length zB).length=d.length:=List.length_replicate;refine F2 (fun i'=>if i'=4 then .agg (C6 s)else .undef) [r] ?_;obtain⟨Z,hZ⟩: ∃Z,Z=List.replicate d.length zB:=⟨_,rfl⟩
    rw[←hZ]at a4 b2⊢;repeat' (first|with_reducible apply D0a|simp only[go_sem,seval,c7,e6,b2,a4.1,a4.2]|simp(disch:=first|omega|grind) only[C0]|(intro m;try simp only[A6]at m)|with_reducible refine R2 (fun H' Q hro hq=>ws H' Q hq) ?_|omega)
    rename_i bx;have L:=m;clear m;have J:Z.set i ((zB.set 0 (D.bool (decide (s<0)))).set 1 (D.sl 1 (Rw F4 (B9 s.natAbs))))=(List.replicate d.length zB).set i (C6 s):=by rw[hZ];rfl
    rw[J];obtain⟨Y,hY⟩: ∃Y,Y=(List.replicate d.length zB).set i (C6 s):=⟨_,rfl⟩
    rw[←hY];have c9:Y.length=d.length:=by rw[hY,D1X,List.length_replicate]
    have d0:B1 v=none:=A.le.none hv;have q1:(B1.set v (.vec 2 Y)).Le (((Hp.set v (.vec 2 Z)).set r (.box [.vec v 2 0 d.length,.bool (decide (M<0)),.sl 1 (Rw F4 (B9 M.natAbs)),.bool false])).set v (.vec 2 Y)):=by
     intro q o hq;by_cases g:q=v
     ·subst g;rw[A2]at hq⊢;exact hq
     ·rw[A4 _ g]at hq;have u:=A.le _ _ hq;have g9:q≠r:=fun g=>by rw[g,a0.2]at u;cases u
      rw[A4 _ g,A4 _ g9,A4 _ g];exact u
    have q2:Hp.Le (((Hp.set v (.vec 2 Z)).set r (.box [.vec v 2 0 d.length,.bool (decide (M<0)),.sl 1 (Rw F4 (B9 M.natAbs)),.bool false])).set v (.vec 2 Y)):=by
     intro q o u;have g:q≠v:=fun g=>by rw[g,hv]at u;cases u
     have g9:q≠r:=fun g=>by rw[g,a0.2]at u;cases u
     rw[A4 _ g,A4 _ g9,A4 _ g];exact u
    have O:=A.base q1 q2 (fun b b0 b1=>by rw[A4 _ (fun g=>b0 (by rw[g];exact hv))];exact b1);refine O3.ap O (e1':=Rw zrC (zrJ d l i 1)++[[.vec v 2 0 d.length,.bool (decide (M<0)),.sl 1 (Rw F4 (B9 M.natAbs)),.bool false]]) (D11 _) (by simp only[A6];simp only[L,ne_eq,not_false_eq_true,and_self]) (by simp) (by rw[D5]) (by simp only[D0f,D0h];omega) (by simp only[D0f,D0h];omega) rfl fun T H' X=>?_;clear O q1 q2 L;repeat' (first|simp only[go_sem,seval]|simp(disch:=omega) only[A3,A8])
    have C:=X.n1 _ rfl;have U:v≠T:=fun g=>by rw[←g,A2]at C;cases C
    have d2:B1 T=none:=by rw[A4 _ U.symm]at C;exact C
    have eX:Rw zrC (zrJ d l i 2)=Rw zrC (zrJ d l i 1)++[.sl 2 Y::[.bool (decide (M<0)),.sl 1 (Rw F4 (B9 M.natAbs)),.bool false]]:=by rw[g1,←O4,hY,hM,hs];rfl
    refine B5w (2,some T,B1.set T (.vec 4 (Rw zrC (zrJ d l i 2)))) ⟨by simp only[];omega,O3.put (H:=B1) (ob:=some T) (by simp) (fun b e=>by cases e;exact d2)⟩ (by simp only[];omega) ?_;show A02 _ (B1.set T (.vec 4 (Rw zrC (zrJ d l i 2)))) _ _;rw[eX];refine A07 (by(try simp only[go_sem,seval,L1,gl,c6])<;>(try simp(disch:=omega) [A3])) c9.symm X.a1 (X.le _ _ (A2 _ _)) U (fun q o hq ho=>?_);have V:q≠v:=fun g=>by rw[g,d0]at ho;cases ho
    exact⟨V,X.le q o (by rw[A4 _ V];exact ho)⟩
   |2,_=>
    rw[B3O]at A;repeat' (first|with_reducible apply D0a|simp only[go_sem,seval,B3O]|simp(disch:=omega) only[A3,A8]|(intro m;try simp only[A6]at m)|omega)
    refine C2 (i+1,o1,Hp) ⟨by simp only[];omega,A.less c5⟩ (by simp only[];omega) (by(try simp only[go_sem,seval])<;>(try simp(disch:=omega) [A3])) (D11 _)
   |j+3,hj=>omega
  ·have G:decide ((i:Int)<d.length)=false:=D0d (by omega);have c4:i=d.length:=by omega
   subst c4;repeat' simp only[go_sem,seval,G]
   refine Fin.out (by rw[D5]) A.a1 (E5 (B4P _ (C3N d l _ (D0u _))) ?_);rw[B6n];exact D12 (b7.trans (O3.one A)) h
open Go Go.Av Go.Lin
set_option maxHeartbeats 4000000 in
theorem B9V{Q}(l:List Row)(n:Nat)(hlen:l.length≤1000000)(hn:n≤1000000)(hP: ∀r∈l,A4a n 18446744073709551616 r)(H:Heap)(h:Q (B0o (A0K [] (pairs1 l))) H):D8 250 [.sl 4 (Rw C7 l)] H Q:=by
 refine A9 [(10,.par),(11,.par),(23,.par),(24,.par)] A5 Tryz.func250 rfl ?_;simp only[go_sem,seval,Tryz.results250];have z0:D.nilsl=H6 4 (pairs1 (l.take 0)).length none:=rfl;repeat' (first|with_reducible apply D0a|simp only[go_sem,seval]|simp(disch:=omega) only[A3,A8]|intro L|omega)
 refine C4 [13,14] (fun(p:Nat×Option Nat×Heap)=>[(15,.int .i64 p.1),(4,H6 4 (pairs1 (l.take p.1)).length p.2.1)]) (fun(p:Nat×Option Nat×Heap)=>p.2.2) (fun(p:Nat×Option Nat×Heap)=>p.1≤l.length∧O3 H p.2.2 4 (Rw C7 (pairs1 (l.take p.1))) [] [] p.2.1 none none) (fun(p:Nat×Option Nat×Heap)=>l.length-p.1) ((0,none,H)) (⟨D0v _,O3.nil H 4⟩) (by(try simp only[go_sem,seval])<;>(try simp(disch:=omega) [A3])) (by first|exact D11 _|exact A0 (by assumption)|exact B2 (by assumption)|simp only[Heap.Le,Heap.set,Heap.del]at* <;>grind) ?_;rintro Ec rfl ⟨i,o1,Hp⟩ ⟨hi,x⟩;simp only at hi x;have hz:o1=none→(pairs1 (l.take i)).length=0:=fun e=>by
  have:=x.a1;rw[e]at this;have this:Rw C7 (pairs1 (l.take i))= []:=this;rw[←D5 (f:=C7),this];rfl
 have ol:(pairs1 (l.take i)).length≤1000000:=by have:=A6P (l.take i) [];simp at this;unfold pairs1;omega
 have oP: ∀s∈pairs1 (l.take i),A4a n 18446744073709551616 s:=B0m _ _ (fun s hs=>hP s (List.mem_of_mem_take hs)) (by simp);by_cases a0:i<l.length
 ·have a5:decide ((i:Int)<l.length)=true:=D0c (by omega);have c6:(i:Int)<l.length:=by omega
  have ps:=B0l l i a0;have hr:=hP _ (D0o a0);generalize pairs1 (l.take i)=out at x hz ol oP ps⊢;obtain⟨r,b2⟩: ∃r,r=l[i]:=⟨_,rfl⟩
  rw[←b2]at ps hr;repeat' (first|with_reducible apply D0a|simp only[go_sem,seval,a5,A8 _ _ a0,B4 _ _ a0,←b2,B23 hz]|intro L|omega)
  rename_i b6;have h6:=L;clear L;have e6:(Hp.set b6 (.box (C7 r))) b6=some (.box (C7 r)):=A2 _ _;have C:Hp.Le (Hp.set b6 (.box (C7 r))):=A0 h6;generalize Hp.set b6 (.box (C7 r))=Hq at e6 C⊢;refine C4 [4,6,13,14,15,20] (fun(j:Nat)=>[(21,.int .i64 j)]) (fun(j:Nat)=>Hq) (fun(j:Nat)=>j≤out.length∧∀(k:Nat) (hk:k<out.length),k<j→¬hit r out[k]) (fun(j:Nat)=>out.length-j) (0) (⟨D0v _,fun _ _ h=>absurd h (D1q _)⟩) (by(try simp only[go_sem,seval])<;>(try simp(disch:=omega) [A3])) (by first|exact D11 _|exact A0 (by assumption)|exact B2 (by assumption)|simp only[Heap.Le,Heap.set,Heap.del]at* <;>grind) ?_;rintro Ec rfl j ⟨hj,U⟩;by_cases q:j<out.length
  ·have G:decide ((j:Int)<out.length)=true:=D0c (by omega);have V:(j:Int)<out.length:=by omega
   obtain⟨c,rfl⟩: ∃c,o1=some c:=by
    cases o1 with
    |none=>have:=hz rfl;omega
    |some c=>exact⟨c,rfl⟩
   have O:Hq c=some (.vec 4 (Rw C7 out)):=C _ _ x.a1;have hs:=oP _ (D0o q);have step: ¬hit r out[j]→∀(k:Nat) (hk:k<out.length),k<j+1→¬hit r out[k]:=fun g k hk c7=>by
    by_cases e:k=j
    ·subst e;exact g
    ·exact U k hk (by omega)
   have a6: ¬hit r out[j]→(j+1≤out.length∧∀(k:Nat) (hk:k<out.length),k<j+1→¬hit r out[k]):=fun g=>⟨by omega,step g⟩
   have m6:b6∈[b6,c]:=by simp
   have W:c∈[b6,c]:=by simp
   cases u:r.eq with
   |true=>
    repeat' (first|with_reducible apply D0a|simp only[go_sem,seval,G,e6,O,u]|simp(disch:=omega) only[A3,A8]|omega)
    exact C2 (j+1) (a6 (fun g=>by have:=g.1;rw[u]at this;cases this)) (by omega) (by(try simp only[go_sem,seval])<;>(try simp(disch:=omega) [A3])) (D11 _)
   |false=>
    cases y:out[j].eq with
    |true=>
     repeat' (first|with_reducible apply D0a|simp only[go_sem,seval,G,e6,O,u,V,A8 _ _ q,B4 _ _ q,y]|simp(disch:=omega) only[A3,A8]|omega)
     exact C2 (j+1) (a6 (fun g=>by have:=g.2.1;rw[y]at this;cases this)) (by omega) (by(try simp only[go_sem,seval])<;>(try simp(disch:=omega) [A3])) (D11 _)
    |false=>
     repeat' (first|with_reducible apply D0a|simp only[go_sem,seval,G,e6,O,u,V,A8 _ _ q,B4 _ _ q,y]|omega)
     refine F2 (fun A=>if A=4 then .bool (A4R r out[j] 1)else .undef) [b6,c] ?_;cases ho:A4R r out[j] 1 with
     |false=>
      repeat' (first|simp only[go_sem,seval,e6,O,m6,W,V,A8 _ _ q,B4 _ _ q]|simp(disch:=omega) only[A3,A8]|with_reducible refine R2 (fun H' Q hro hq=>A3A r out[j] 1 (.inl rfl) (by rw[hr.1,hs.1]) (by rw[hr.1];exact hn) hr.2 hs.2 H' (by rw[ho];exact hq)) ?_)
      exact C2 (j+1) (a6 (fun g=>by have:=g.2.2;rw[ho]at this;cases this)) (by omega) (by(try simp only[go_sem,seval])<;>(try simp(disch:=omega) [A3])) (D11 _)
     |true=>
      have hh:hit r out[j]:=⟨u,y,ho⟩
      have ph:=B0j r out j q U hh;have sk:=hr.2.1;have b8:=hs.2.1;have s1:Sz r.k:=H9 (by omega);have s2:Sz out[j].k:=H9 (by omega);repeat' (first|simp only[go_sem,seval,e6,O,m6,W,V,A8 _ _ q,B4 _ _ q]|with_reducible refine R2 (fun H' Q hro hq=>A3A r out[j] 1 (.inl rfl) (by rw[hr.1,hs.1]) (by rw[hr.1];exact hn) hr.2 hs.2 H' (by rw[ho];exact hq)) ?_)
      refine F2 (fun A=>if A=6 then .bool (decide (r.k<out[j].k))else .undef) [b6,c] ?_;repeat' (first|with_reducible apply D0a|simp only[go_sem,seval,e6,O,m6,W,V,A8 _ _ q,B4 _ _ q]|simp(disch:=omega) only[A3,A8]|intro L|with_reducible refine R2 (fun H' Q hro hq=>B3D r.k out[j].k s1 s2 H' hq) ?_|omega)
      ·have hk:r.k<out[j].k:=by assumption
       rw[if_pos hk]at ph;have e:pairs1 (l.take (i+1))=out.set j {out[j]with k:=r.k}:=by rw[ps,ph]
       have el:(pairs1 (l.take (i+1))).length=out.length:=by rw[e,D1X]
       refine C2 (i+1,some c,Hq.set c (.vec 4 (Rw C7 (pairs1 (l.take (i+1)))))) ⟨by simp only[];omega,x.set1 C⟩ (by simp only[];omega) (by(try simp only[go_sem,seval,el,L1])<;>(try simp(disch:=omega) [A3])) ?_;simp only[];rw[e,←Z6 out j {out[j]with k:=r.k} _ rfl];exact D11 _
      ·have hk: ¬r.k<out[j].k:=by omega
       rw[if_neg hk]at ph;have e:pairs1 (l.take (i+1))=out:=by rw[ps,ph]
       refine C2 (i+1,some c,Hp) ⟨by simp only[];omega,by simp only[e];exact x⟩ (by simp only[];omega) (by(try simp only[go_sem,seval,e,L1])<;>(try simp(disch:=omega) [A3])) C
  ·have G:decide ((j:Int)<out.length)=false:=D0d (by omega);have e:pairs1 (l.take (i+1))=out++[r]:=by rw[ps,A7n r out (fun k hk=>U k hk (by omega))]
   have el:(pairs1 (l.take (i+1))).length=out.length+1:=by rw[e];simp
   repeat' (first|simp only[go_sem,seval,G,e6]|intro L)
   rename_i bx;have b9:=L;clear L;refine O3.ap x (e1':=Rw C7 (pairs1 (l.take (i+1)))) C b9 (by simp) (by rw[D5]) (by simp only[D0f,D0h];omega) (by simp only[D0f,D0h];omega) (by rw[e,←O4];rfl) fun b' H' h4=>?_;repeat' (first|simp only[go_sem,seval]|simp(disch:=omega) only[A3,A8])
   refine C2 (i+1,some b',H') ⟨by simp only[];omega,h4⟩ (by simp only[];omega) (by(try simp only[go_sem,seval,L1,el])<;>(try simp(disch:=omega) [A3])) (D11 _)
 ·have a5:decide ((i:Int)<l.length)=false:=D0d (by omega);rw[D0p (by omega)]at x hz ol oP;have e1:l.take i=l:=D0p (by omega);rw[e1]at*;have c8:(pairs1 l).length≤1000000:=ol;generalize pairs1 l=m at*;repeat' simp only[go_sem,seval,a5,B23 hz]
  refine C4 [4,59] (fun(p:Nat×List Row×Heap)=>[(60,.int .i64 p.1)]) (fun(p:Nat×List Row×Heap)=>p.2.2) (fun(p:Nat×List Row×Heap)=>p.1≤m.length∧p.2.1.length=m.length∧p.2.1.drop p.1=m.drop p.1∧A0K [] m=A0K (p.2.1.take p.1) (m.drop p.1)∧(∀s∈p.2.1,A4a n 18446744073709551616 s)∧O3 H p.2.2 4 (Rw C7 p.2.1) [] [] o1 none none) (fun(p:Nat×List Row×Heap)=>m.length-p.1) ((0,m,Hp)) (⟨D0v _,rfl,rfl,rfl,oP,x⟩) (by(try simp only[go_sem,seval])<;>(try simp(disch:=omega) [A3])) (by first|exact D11 _|exact A0 (by assumption)|exact B2 (by assumption)|simp only[Heap.Le,Heap.set,Heap.del]at* <;>grind) ?_;clear x oP;rintro Ec rfl ⟨i,X,Hp⟩ ⟨c0,T,a9,z,a4,x⟩;simp only at c0 T a9 z a4 x;by_cases hit:i<m.length
  ·have Y:decide ((i:Int)<m.length)=true:=D0c (by omega);have c9:(i:Int)<m.length:=by omega
   obtain⟨c,rfl⟩: ∃c,o1=some c:=by
    cases o1 with
    |none=>have:=hz rfl;omega
    |some c=>exact⟨c,rfl⟩
   have b0:i<X.length:=by omega
   have c1:m[i]=X[i]:=by
    have h1:=D05 b0;have h2:=D05 hit;rw[a9,h2]at h1;exact(List.cons.inj h1).1
   rw[D05 hit,B0n,c1]at z;repeat' simp only[go_sem,seval,Y]
   refine C4 [4,9,59,60,63] (fun(p:Nat×Row×Heap)=>[(64,.int .i64 p.1)]) (fun(p:Nat×Row×Heap)=>p.2.2) (fun(p:Nat×Row×Heap)=>p.1≤i∧A4a n 18446744073709551616 p.2.1∧A5H X[i] (X.take i)=A5H p.2.1 ((X.take i).drop p.1)∧O3 H p.2.2 4 (Rw C7 (X.set i p.2.1)) [] [] (some c) none none) (fun(p:Nat×Row×Heap)=>i-p.1) ((0,X[i],Hp)) (⟨D0v _,a4 _ (D0o b0),rfl,by rw[List.set_getElem_self];exact x⟩) (by(try simp only[go_sem,seval])<;>(try simp(disch:=omega) [A3])) (by first|exact D11 _|exact A0 (by assumption)|exact B2 (by assumption)|simp only[Heap.Le,Heap.set,Heap.del]at* <;>grind) ?_;clear x;rintro Ec rfl ⟨j,r,Hp⟩ ⟨hj,hr,hm,x⟩;simp only at hj hr hm x;by_cases q:j<i
   ·have I:decide ((j:Int)<i)=true:=D0c (by omega);have c2:j<X.length:=by omega
    have hs:=a4 _ (D0o c2);obtain⟨s,b1⟩: ∃s,s=X[j]:=⟨_,rfl⟩
    rw[←b1]at hs;have dj:(X.take i).drop j=s::(X.take i).drop (j+1):=by
     rw[D05 (by rw[D1I];omega),List.getElem_take,b1]
    rw[dj,B4X]at hm;have yi:(X.set i r).length=X.length:=D1X ..;have b3:i<(X.set i r).length:=by omega
    have b4:j<(X.set i r).length:=by omega
    have gi:(X.set i r)[i]=r:=List.getElem_set_self ..;have gj:(X.set i r)[j]=s:=by rw[List.getElem_set_ne (by omega),b1]
    have d:(i:Int)<X.length:=by omega
    have o:(j:Int)<X.length:=by omega
    have O:Hp c=some (.vec 4 (Rw C7 (X.set i r))):=x.a1;have ri:=A8 (f:=C7) (X.set i r) i b3;have J:=B4 (f:=C7) (X.set i r) i b3;have rj:=A8 (f:=C7) (X.set i r) j b4;have M:=B4 (f:=C7) (X.set i r) j b4;rw[gi]at ri J;rw[gj]at rj M;have W:c∈[c]:=by simp
    cases u:r.eq with
    |true=>
     rw[if_pos (.inl u)]at hm;repeat' (first|with_reducible apply D0a|simp only[go_sem,seval,I,d,o,←T]|omega)
     refine F2 (fun A=>.undef) [c] ?_;repeat' (first|simp only[go_sem,seval,O,W,ri,J,u,yi,d]|simp(disch:=omega) only[A3,A8])
     exact C2 (j+1,r,Hp) ⟨by simp only[];omega,hr,hm,x⟩ (by simp only[];omega) (by(try simp only[go_sem,seval])<;>(try simp(disch:=omega) [A3])) (D11 _)
    |false=>
     cases y:s.eq with
     |true=>
      rw[if_pos (.inr (.inl y))]at hm;repeat' (first|with_reducible apply D0a|simp only[go_sem,seval,I,d,o,←T]|omega)
      refine F2 (fun A=>.undef) [c] ?_;repeat' (first|simp only[go_sem,seval,O,W,ri,J,rj,M,u,y,yi,d,o]|simp(disch:=omega) only[A3,A8])
      exact C2 (j+1,r,Hp) ⟨by simp only[];omega,hr,hm,x⟩ (by simp only[];omega) (by(try simp only[go_sem,seval])<;>(try simp(disch:=omega) [A3])) (D11 _)
     |false=>
      have c3:r.c.length=s.c.length:=by rw[hr.1,hs.1]
      have c4:r.c.length≤1000000:=by rw[hr.1];exact hn
      have b7: ∀(b:Bool),A4R r s (-1)=b→∀(H':Heap) (Q:D→Heap→Prop),Q (.bool b) H'→D8 281 [.agg [.sl 2 (Rw C6 r.c),.bool (decide (r.k<0)),.sl 1 (Rw F4 (B9 r.k.natAbs)),.bool false],.agg [.sl 2 (Rw C6 s.c),.bool (decide (s.k<0)),.sl 1 (Rw F4 (B9 s.k.natAbs)),.bool false],.int .i64 (-1)] H' Q:=fun b hb H' Q hq=>by
       have h0:=A3A (Q:=Q) r s (-1) (.inr rfl) c3 c4 hr.2 hs.2 H' (by rw[hb];exact hq);rw[B6G,B6G,u,y]at h0;exact h0
      repeat' (first|with_reducible apply D0a|simp only[go_sem,seval,I,d,o,←T]|omega)
      cases ho:A4R r s (-1)with
      |false=>
       rw[if_pos (.inr (.inr ho))]at hm;refine F2 (fun A=>if A=17 then .bool false else .undef) [c] ?_;repeat' (first|simp only[go_sem,seval,O,W,ri,J,rj,M,u,y,yi,d,o]|simp(disch:=omega) only[A3,A8]|with_reducible refine R2 (fun H' Q hro hq=>b7 _ ho H' Q hq) ?_)
       exact C2 (j+1,r,Hp) ⟨by simp only[];omega,hr,hm,x⟩ (by simp only[];omega) (by(try simp only[go_sem,seval])<;>(try simp(disch:=omega) [A3])) (D11 _)
      |true=>
       rw[if_neg (by rw[u,y,ho];decide)]at hm;have sk:=hr.2.1;have b8:=hs.2.1;have s1:Sz r.k:=H9 (by omega);have s2:Sz s.k:=H9 (by omega);refine F2 (fun A=>if A=17 then .bool true else .undef) [c] ?_;repeat' (first|simp only[go_sem,seval,O,W,ri,J,rj,M,u,y,yi,d,o]|with_reducible refine R2 (fun H' Q hro hq=>b7 _ ho H' Q hq) ?_)
       rcases Int.lt_trichotomy (r.k+s.k) 0 with g|g|g
       ·rw[if_pos g]at hm;have sg:(r.k+s.k).sign= -1:=Int.sign_eq_neg_one_of_neg g;rw[hm]at z;simp only[]at z;rw[z]at h;refine F2 (fun A=>if A=8 then .agg (C6 (r.k+s.k))else if A=9 then .int .i64 (-1)else .undef) [c] ?_;repeat' (first|simp only[go_sem,seval,O,W,ri,J,rj,M,yi,d,o]|with_reducible refine R2 (fun H' Q hro hq=>A0c r.k s.k s1 s2 H' hq) ?_|with_reducible refine R2 (fun H' Q hro hq=>L2 (r.k+s.k) H' (by rw[sg];exact hq)) ?_)
        exact Fin.nilsl 4 _ (D12 x.le h)
       ·have g1: ¬r.k+s.k<0:=by omega
        rw[if_neg g1,if_pos g]at hm;have sg:(r.k+s.k).sign=0:=by rw[g];rfl
        refine F2 (fun A=>if A=8 then .agg (C6 (r.k+s.k))else if A=9 then .int .i64 0 else .undef) [c] ?_;repeat' (first|with_reducible apply D0a|simp only[go_sem,seval,O,W,ri,J,rj,M,yi,d,o]|simp(disch:=omega) only[A3,A8]|with_reducible refine R2 (fun H' Q hro hq=>A0c r.k s.k s1 s2 H' hq) ?_|with_reducible refine R2 (fun H' Q hro hq=>L2 (r.k+s.k) H' (by rw[sg];exact hq)) ?_|omega)
        refine C2 (j+1,{r with eq:=true},Hp.set c (.vec 4 (Rw C7 (X.set i {r with eq:=true})))) ⟨by simp only[];omega,⟨hr.1,hr.2⟩,hm,x.set1 (D11 _)⟩ (by simp only[];omega) (by(try simp only[go_sem,seval])<;>(try simp(disch:=omega) [A3])) ?_;simp only[];rw[←List.set_set (a:=r) (b:=({r with eq:=true}:Row)),←Z6 (X.set i r) i {r with eq:=true} _ rfl];exact D11 _
       ·have g1: ¬r.k+s.k<0:=by omega
        have g2: ¬r.k+s.k=0:=by omega
        rw[if_neg g1,if_neg g2]at hm;have sg:(r.k+s.k).sign=1:=Int.sign_eq_one_of_pos g;refine F2 (fun A=>if A=8 then .agg (C6 (r.k+s.k))else if A=9 then .int .i64 1 else .undef) [c] ?_;repeat' (first|simp only[go_sem,seval,O,W,ri,J,rj,M,yi,d,o]|simp(disch:=omega) only[A3,A8]|with_reducible refine R2 (fun H' Q hro hq=>A0c r.k s.k s1 s2 H' hq) ?_|with_reducible refine R2 (fun H' Q hro hq=>L2 (r.k+s.k) H' (by rw[sg];exact hq)) ?_)
        exact C2 (j+1,r,Hp) ⟨by simp only[];omega,hr,hm,x⟩ (by simp only[];omega) (by(try simp only[go_sem,seval])<;>(try simp(disch:=omega) [A3])) (D11 _)
   ·have I:decide ((j:Int)<i)=false:=D0d (by omega);have c5:j=i:=by omega
    subst c5;rw[List.drop_eq_nil_of_le (by rw[D1I];omega)]at hm;rw[hm]at z;simp only[A5H]at z;repeat' (first|simp only[go_sem,seval,I]|simp(disch:=omega) only[A3,A8])
    refine C2 (j+1,X.set j r,Hp) ⟨by simp only[];omega,by simp only[D1X];exact T,?_,?_,?_,x⟩ (by simp only[];omega) (by(try simp only[go_sem,seval])<;>(try simp(disch:=omega) [A3])) (D11 _)
    ·show (X.set j r).drop (j+1)=m.drop (j+1);rw[List.drop_set_of_lt (by omega),←D1k,←D1k,a9]
    ·show A0K [] m=A0K ((X.set j r).take (j+1)) (m.drop (j+1));rw[z,D0t (by rw[D1X];exact b0),List.take_set_of_le (by omega),List.getElem_set_self]
    ·intro s hs;rcases List.mem_or_eq_of_mem_set hs with g|g
     ·exact a4 s g
     ·rw[g];exact hr
  ·have Y:decide ((i:Int)<m.length)=false:=D0d (by omega);rw[List.drop_eq_nil_of_le (by omega),D0p (by omega)]at z;rw[z]at h;repeat' simp only[go_sem,seval,Y]
   refine A6x (by rw[D5];exact T.symm) x.a1 (D12 (O3.one x) h)
end Go.Proofs.YtibphjonmikciaaGreatDoor
namespace Go.Lin
def CS(m:Nat)(c:List Int):Prop:=∀x∈c,x.natAbs<m
def AP(n m:Nat)(l:List Row):Prop:=∀r∈l,A4a n m r
def TA(l:List Row)(X:List Row)(i:Nat):Prop:=Y8 l=(Y8 (l.drop i)).map (X++ ·)
def TS(l X:List Row)(r:Row)(i:Nat):Prop:=Y8 l=(A1B r).bind fun x=>(Y8 (l.drop (i+1))).map ((X++x)++ ·)
end Go.Lin
namespace Go.Proofs.YtibphjonmikciaaGreatDoor
open Go Go.Av Go.Lin
attribute [local irreducible] ACalls S7
set_option maxHeartbeats 4000000 in
theorem C3P{Q}(l:List Row)(n:Nat)(hlen:l.length≤1000000)(hn:n≤1000000)(hP:AP n 4611686018427387904 l)(hS: ∀r∈l,CS 4294967296 r.c)(H:Heap)(h:Q (B0o (B0O l)) H):D8 220 [.sl 4 (Rw C7 l)] H Q:=by
 refine A9 [(17,.par),(19,.par),(23,.par)] A5 Tryz.func220 rfl ?_;simp only[go_sem,seval,Tryz.results220];have z0:D.nilsl=H6 4 0 none:=rfl;unfold B0O at h;repeat' (first|with_reducible apply D0a|simp only[go_sem,seval]|simp(disch:=omega) only[A3,A8]|simp(disch:=first|omega|grind) only[C0]|(intro u;try simp only[A6]at u)|omega)
 refine C4 [15,16] (fun(p:Nat×List Row×Option Nat)=>[(17,.int .i64 p.1),(4,H6 4 p.2.1.length p.2.2)]) (fun(p:Nat×List Row×Option Nat)=>putB H 4 (Rw C7 p.2.1) p.2.2) (fun(p:Nat×List Row×Option Nat)=>p.1≤l.length∧p.2.1.length≤p.1∧AP n 4611686018427387904 p.2.1∧TA l p.2.1 p.1∧(p.2.2=none→p.2.1= [])∧(∀b,p.2.2=some b→H b=none)) (fun(p:Nat×List Row×Option Nat)=>l.length-p.1) ((0,[],none)) (⟨D0v _,D0u _,(fun s hs=>by cases hs),(by simp[TA]),by simp,by simp⟩) (by(try simp only[go_sem,seval])<;>(try simp(disch:=omega) [A3])) (by first|exact D11 _|exact A0 (by assumption)|exact B2 (by assumption)|simp only[Heap.Le,Heap.set,Heap.del]at* <;>grind) ?_;rintro Ec rfl ⟨i,X,o1⟩ ⟨hi,k5,b1,hT,ho,c4⟩;simp only at hi k5 b1 hT ho c4;have h3:=O3.put (H:=H) (sz:=4) (es:=Rw C7 X) (ob:=o1) (fun e=>by rw[ho e];rfl) c4;generalize putB H 4 (Rw C7 X) o1=Hp at h3⊢;by_cases c5:i<l.length
 ·have U:decide ((i:Int)<l.length)=true:=D0c (by omega);have l2:(i:Int)<l.length:=by omega
  have hr:=hP _ (D0o c5);have c8:=hS _ (D0o c5);have st:TS l X l[i] i:=B4Y c5 hT;obtain⟨r,h8⟩: ∃r,r=l[i]:=⟨_,rfl⟩
  rw[←h8]at hr c8 st;have l3:r.c.length≤1000000:=by rw[hr.1];exact hn
  repeat' (first|with_reducible apply D0a|simp only[go_sem,seval,U,A8 _ _ c5,B4 _ _ c5,←h8]|simp(disch:=first|omega|grind) only[C0]|(intro u;try simp only[A6]at u)|omega)
  rename_i O h6 M;have h7:=u;clear u;have i0:O≠M:=Ne.symm h7.1;have e6:(Hp.set O (.box (C7 r))) O=some (.box (C7 r)):=A2 _ _;have g7:(Hp.set O (.box (C7 r))) M=none:=by rw[A4 _ h7.1];exact h7.2
  have c9:Hp.Le (Hp.set O (.box (C7 r))):=A0 h6;generalize Hp.set O (.box (C7 r))=B6 at e6 g7 c9⊢;clear h7;have d0:=B3M r.c 4294967295 (fun x hx=>by have:=c8 x hx;omega);have i1: ∀(a:Int) (_:Sz a) (H:Heap) (Q:D→Heap→Prop),Q (.agg (C6 (a.natAbs:Nat))) H→D8 244 [.agg (C6 a),.agg [.bool false,.nilsl]] H Q:=fun a ha H Q hq=>by
   refine R1 (args':=[.agg (C6 a),.agg (C6 0)]) rfl (fun i d d' h1 h2=>?_) (B6R a 0 ha (by decide) H (by rw[show (0:Int).natAbs=0 from rfl,Nat.gcd_zero_right];exact hq))
   match i with
   |0=>cases h1;cases h2;exact .same _
   |1=>cases h1;cases h2;exact A8k
   |i+2=>cases h1
  repeat' (first|with_reducible apply D0a|simp only[go_sem,seval,e6,A4 _ i0]|simp(disch:=omega) only[A3,A8]|simp(disch:=first|omega|grind) only[C0]|(intro u;try simp only[A6]at u)|omega)
  refine C4 [4,6,7,15,16,17,22,23] (fun(j:Nat)=>[(24,.int .i64 j)]) (fun(j:Nat)=>B6.set M (.box (gB j (A3F r.c j:Nat)))) (fun(j:Nat)=>j≤r.c.length) (fun(j:Nat)=>r.c.length-j) (0) (D0v _) (by(try simp only[go_sem,seval])<;>(try simp(disch:=omega) [A3])) (by first|exact D11 _|exact A0 (by assumption)|exact B2 (by assumption)|simp only[Heap.Le,Heap.set,Heap.del]at* <;>grind) ?_
  ·rintro Ec rfl j hj;by_cases A:j<r.c.length
   ·have U:decide ((j:Int)<r.c.length)=true:=D0c (by omega);have b4:(j:Int)<r.c.length:=by omega
    have c1:=c8 _ (D0o A);have s1:Sz r.c[j]:=H9 (by omega);have gs:=A7o r.c j A;have gj:=d0 j hj;cases j with
    |zero=>
     rw[A4b,Nat.gcd_zero_right]at gs;have eg:gB 0 (A3F r.c 0:Nat)= [.bool false,.nilsl]:=rfl;rw[eg];repeat' (first|with_reducible apply D0a|simp only[go_sem,seval,U,b4,A8 _ _ A,B4 _ _ A]|simp(disch:=omega) only[A3,A8]|simp(disch:=first|omega|grind) only[C0]|(intro u;try simp only[A6]at u)|with_reducible refine i1 _ s1 _ _ ?_|omega)
     rename_i b9;have h9:=u;clear u;refine C2 (0+1) (by omega) (by omega) (by(try simp only[go_sem,seval])<;>(try simp(disch:=omega) [A3])) ?_;rw[A5V,gs];exact(by simp only[D4,C9,D0]at* <;>grind)
    |succ j=>
     have hg:Sz ((A3F r.c (j+1):Nat):Int):=H9 (by omega);have k8: ∀(H:Heap) (Q:D→Heap→Prop),Q (.agg (C6 ((A3F r.c (j+1+1):Nat):Int))) H→D8 244 [.agg (C6 r.c[j+1]),.agg (C6 ((A3F r.c (j+1):Nat):Int))] H Q:=fun H Q hq=>
      B6R _ _ s1 (by omega) H (by rw[Int.natAbs_natCast,←gs];exact hq)
     rw[A5V];repeat' (first|with_reducible apply D0a|simp only[go_sem,seval,U,b4,A8 _ _ A,B4 _ _ A]|simp(disch:=omega) only[A3,A8]|simp(disch:=first|omega|grind) only[C0]|(intro u;try simp only[A6]at u)|with_reducible refine k8 _ _ ?_|omega)
     rename_i b9;have h9:=u;clear u;refine C2 (j+1+1) (by omega) (by omega) (by(try simp only[go_sem,seval])<;>(try simp(disch:=omega) [A3])) ?_;rw[A5V];exact(by simp only[D4,C9,D0]at* <;>grind)
   ·have U:decide ((j:Int)<r.c.length)=false:=D0d (by omega);have d3:j=r.c.length:=by omega
    subst d3;rw[A6Q];have d0:=d0 _ (D0u _);rw[A6Q]at d0;have hG:NilR (.agg (gB r.c.length (gcdR r.c:Nat))) (.agg (C6 (gcdR r.c:Nat))):=by have:=C3M r.c r.c.length;rwa [A6Q]at this
    have e9:gcdR r.c≠0→gB r.c.length (gcdR r.c:Nat)=C6 (gcdR r.c:Nat):=fun g=>by
     cases hl:r.c.length with
     |zero=>rw[D0y hl]at g;exact absurd rfl g
     |succ k=>exact A5V _ _
    obtain⟨d1,d2,hd⟩: ∃d1 d2,gB r.c.length (gcdR r.c:Nat)= [d1,d2]:=by
     unfold gB;split
     ·exact⟨_,_,rfl⟩
     ·exact⟨_,_,rfl⟩
    rw[hd]at hG e9⊢;have L:A1B r=if gcdR r.c=0 then(if r.k<0∨(r.eq=true∧0<r.k)then none else some [])else if gcdR r.c=1 then some [r]else if r.eq=true∧r.k.fdiv (gcdR r.c:Nat)*(gcdR r.c:Nat)-r.k≠0 then none else some [⟨r.c.map (Int.fdiv · (gcdR r.c:Nat)),r.k.fdiv (gcdR r.c:Nat),r.eq⟩]:=rfl
    generalize gcdR r.c=g at d0 hG e9 L;have sgn: ∀(s:Int),(g:Int).sign=s→∀(H:Heap) (Q:D→Heap→Prop),Q (.int .i64 s) H→D8 245 [.agg [d1,d2]] H Q:=fun s hs H Q hq=>by
     refine R1 (args':=[.agg (C6 (g:Nat))]) rfl (fun i d d' h1 h2=>?_) (L2 (g:Int) H (by rw[hs];exact hq))
     match i with
     |0=>cases h1;cases h2;exact hG
     |i+1=>cases h1
    have e7:(B6.set M (.box [d1,d2])) M=some (.box [d1,d2]):=A2 _ _;have a4:(B6.set M (.box [d1,d2])) O=some (.box (C7 r)):=by rw[A4 _ i0];exact e6
    have V:Hp.Le (B6.set M (.box [d1,d2])):=c9.trans (A0 g7);generalize B6.set M (.box [d1,d2])=B7 at e7 a4 V⊢;clear e6 g7 c9 i1 hd;have b8:A1B r=none→Q (.tuple [.sl 4 [],.bool false]) H:=fun e=>by
     unfold TS at st;rw[e]at st;rw[st]at h;exact h
    by_cases g0:g=0
    ·rw[if_pos g0]at L;have d4:((g:Nat):Int).sign=0:=by rw[g0];rfl
     have sk:=hr.2.1;by_cases k1:r.k<0
     ·rw[if_pos (.inl k1)]at L;have sg:r.k.sign= -1:=Int.sign_eq_neg_one_of_neg k1;repeat' (first|simp only[go_sem,seval,U,e7,a4,sg]|with_reducible refine sgn 0 d4 _ _ ?_|with_reducible refine L2 r.k _ ?_)
      exact Fin.nilsl 4 _ (D12 (h3.le.trans V) (b8 L))
     ·cases a5:r.eq with
      |true=>
       by_cases k2:0<r.k
       ·rw[if_pos (.inr ⟨a5,k2⟩)]at L;have sg:r.k.sign=1:=Int.sign_eq_one_of_pos k2;repeat' (first|simp only[go_sem,seval,U,e7,a4,sg,a5]|with_reducible refine sgn 0 d4 _ _ ?_|with_reducible refine L2 r.k _ ?_)
        exact Fin.nilsl 4 _ (D12 (h3.le.trans V) (b8 L))
       ·have k0:r.k=0:=by omega
        rw[if_neg (by omega)]at L;have sg:r.k.sign=0:=by rw[k0];rfl
        repeat' (first|simp only[go_sem,seval,U,e7,a4,sg,a5]|simp(disch:=omega) only[A3,A8]|with_reducible refine sgn 0 d4 _ _ ?_|with_reducible refine L2 r.k _ ?_)
        refine C2 (i+1,X,o1) ⟨by simp only[];omega,by simp only[];omega,b1,?_,ho,c4⟩ (by simp only[];omega) (by(try simp only[go_sem,seval])<;>(try simp(disch:=omega) [A3])) (h3.putle.trans V);unfold TS at st;rw[L]at st;simp only[TA];rw[st];simp
      |false=>
       have i2:A1B r=some []:=by rw[L,if_neg (by rw[a5];simp;omega)]
       rcases Int.lt_trichotomy 0 r.k with k2|k2|k2
       ·have sg:r.k.sign=1:=Int.sign_eq_one_of_pos k2;repeat' (first|simp only[go_sem,seval,U,e7,a4,sg,a5]|simp(disch:=omega) only[A3,A8]|with_reducible refine sgn 0 d4 _ _ ?_|with_reducible refine L2 r.k _ ?_)
        refine C2 (i+1,X,o1) ⟨by simp only[];omega,by simp only[];omega,b1,?_,ho,c4⟩ (by simp only[];omega) (by(try simp only[go_sem,seval])<;>(try simp(disch:=omega) [A3])) (h3.putle.trans V);unfold TS at st;rw[i2]at st;simp only[TA];rw[st];simp
       ·have sg:r.k.sign=0:=by rw[←k2];rfl
        repeat' (first|simp only[go_sem,seval,U,e7,a4,sg,a5]|simp(disch:=omega) only[A3,A8]|with_reducible refine sgn 0 d4 _ _ ?_|with_reducible refine L2 r.k _ ?_)
        refine C2 (i+1,X,o1) ⟨by simp only[];omega,by simp only[];omega,b1,?_,ho,c4⟩ (by simp only[];omega) (by(try simp only[go_sem,seval])<;>(try simp(disch:=omega) [A3])) (h3.putle.trans V);unfold TS at st;rw[i2]at st;simp only[TA];rw[st];simp
       ·omega
    ·rw[if_neg g0]at L;have i3:=e9 g0;rw[i3]at e7;clear e9 hG i3 sgn;have gi:((g:Nat):Int)≠0:=by omega
     have gb:((g:Nat):Int).natAbs<4294967296:=by omega
     have sk:=hr.2.1;have s1:Sz r.k:=H9 (by omega);have s2:Sz ((g:Nat):Int):=H9 (by omega);obtain⟨G,f5⟩: ∃G:Int,G=(g:Nat):=⟨_,rfl⟩
     rw[←f5]at L e7 gi gb s2;have sg: ¬G.sign=0:=by rw[Int.sign_eq_zero_iff_zero];exact gi
     by_cases g1:g=1
     ·rw[if_pos g1]at L;have f6:(G.natAbs=1)=True:=by simp[f5,g1]
      repeat' (first|simp only[go_sem,seval,U,e7,a4,sg,f6]|(intro u;try simp only[A6]at u)|with_reducible refine L2 G _ ?_|with_reducible refine B0S G _ ?_)
      rename_i bx;have c0:=u;clear u;refine O3.ap h3 (e1':=Rw C7 (X++[r])) V c0 (by simp) (by rw[D5]) (by simp only[D0f,D0h];omega) (by simp only[D0f,D0h];omega) (by rw[←O4];rfl) fun b' H' h4=>?_;repeat' (first|simp only[go_sem,seval]|simp(disch:=omega) only[A3,A8])
      refine C2 (i+1,X++[r],some b') ⟨by simp only[];omega,by simp only[D0g,D0f,D0h];omega,fun s hs=>?_,?_,by simp,fun b e=>h4.n1 b e⟩ (by simp only[];omega) (by(try simp only[go_sem,seval,D0g,L1])<;>(try simp(disch:=omega) [A3])) h4.putle
      ·rcases D00.1 hs with q|q
       ·exact b1 s q
       ·simp at q;rw[q];exact hr
      ·unfold TS at st;rw[L]at st;exact st
     ·rw[if_neg g1]at L;have f6:(G.natAbs=1)=False:=by simp;omega
      obtain⟨K,hK⟩: ∃K,K=r.k.fdiv G:=⟨_,rfl⟩
      rw[←hK]at L;have l1:K.natAbs≤r.k.natAbs:=by rw[hK,f5];exact A3G _ _ g0
      have s3:Sz K:=H9 (by omega);have k9: ∀(H:Heap) (Q:D→Heap→Prop),Q (.agg (C6 K)) H→D8 247 [.agg (C6 r.k),.agg (C6 G)] H Q:=fun H Q hq=>A3k r.k G s1 gi gb H (by rw[←hK];exact hq);repeat' (first|simp only[go_sem,seval,U,e7,a4,sg,f6]|(intro u;try simp only[A6]at u)|with_reducible refine L2 G _ ?_|with_reducible refine B0S G _ ?_|with_reducible refine k9 _ _ ?_)
      rename_i I;have f0:=u;clear u;have i4:M≠I:=fun g=>by rw[g,f0]at e7;cases e7
      have i5:O≠I:=fun g=>by rw[g,f0]at a4;cases a4
      have c7:(B7.set I (.box (C6 K))) M=some (.box (C6 G)):=by rw[A4 _ i4];exact e7
      have c6:(B7.set I (.box (C6 K))) O=some (.box (C7 r)):=by rw[A4 _ i5];exact a4
      have c3:(B7.set I (.box (C6 K))) I=some (.box (C6 K)):=A2 _ _;have J:Hp.Le (B7.set I (.box (C6 K))):=V.trans (A0 f0);generalize B7.set I (.box (C6 K))=B8 at c7 c6 c3 J⊢;clear e7 a4 V f0;have m6:O∈[O,M,I]:=by simp
      have m7:M∈[O,M,I]:=by simp
      have f7:I∈[O,M,I]:=by simp
      have i9:O∈[O,I]:=by simp
      have k3:I∈[O,I]:=by simp
      cases a5:r.eq with
      |true=>
       have a3:=A1a (a:=K) (b:=G) (m:=4611686018427387904) (n:=4294967296) (by omega) (by omega);have s4:Sz (K*G):=H9 (by omega);obtain⟨Z,hZ⟩: ∃Z,Z=K*G-r.k:=⟨_,rfl⟩
       have k4: ∀(H:Heap) (Q:D→Heap→Prop),Q (.agg (C6 Z)) H→D8 249 [.agg (C6 (K*G)),.agg (C6 r.k)] H Q:=fun H Q hq=>A0L (K*G) r.k s4 s1 H (by rw[←hZ];exact hq);refine F2 (fun i'=>if i'=5 then .agg (C6 (K*G))else if i'=8 then .agg (C6 Z)else if i'=9 then .int .i64 Z.sign else .undef) [O,M,I] ?_;by_cases z0:Z=0
       ·have sz:Z.sign=0:=by rw[z0];rfl
        have b2:A1B r=some [⟨r.c.map (Int.fdiv · G),K,r.eq⟩]:=by rw[L,if_neg (by rw[←hZ,z0];simp)]
        rw[sz];repeat' (first|simp only[go_sem,seval,c6,c7,c3,m6,m7,f7,a5]|with_reducible refine R2 (fun H' Q hro hq=>T7 K G s3 s2 H' hq) ?_|with_reducible refine R2 (fun H' Q hro hq=>k4 H' Q hq) ?_|with_reducible refine R2 (fun H' Q hro hq=>L2 Z H' (by rw[sz];exact hq)) ?_)
        obtain⟨C,hC⟩: ∃C,C=r.c.map (Int.fdiv · G):=⟨_,rfl⟩
        have W:C.length=r.c.length:=by rw[hC];simp
        refine F2 (fun i'=>.undef) [O,I] ?_;repeat' (first|with_reducible apply D0a|simp only[go_sem,seval,c6,c7,c3,i9,k3]|simp(disch:=first|omega|grind) only[C0]|(intro u;try simp only[A6]at u)|omega)
        rename_i bv hv z;have a6:=u;clear u;have nb:z≠bv:=a6.1;have k6:O≠bv∧O≠z:=⟨(fun g=>by rw[g,hv]at c6;cases c6),(fun g=>by rw[g,a6.2]at c6;cases c6)⟩
        have k7:M≠bv∧M≠z:=⟨(fun g=>by rw[g,hv]at c7;cases c7),(fun g=>by rw[g,a6.2]at c7;cases c7)⟩
        rw[show List.replicate r.c.length [D.bool false,.nilsl]=l5 C r.c.length 0 from(A2d _ _).symm];obtain⟨RR,d5⟩: ∃RR:Row,RR=⟨C,K,r.eq⟩:=⟨_,rfl⟩
        refine C4 [4,6,7,12,15,16,17,76,77] (fun(j:Nat)=>[(78,.int .i64 j)]) (fun(j:Nat)=>(B8.set bv (.vec 2 (l5 C r.c.length j))).set z (.box [.vec bv 2 0 r.c.length,.bool (decide (K<0)),.sl 1 (Rw F4 (B9 K.natAbs)),.bool r.eq])) (fun(j:Nat)=>j≤r.c.length) (fun(j:Nat)=>r.c.length-j) (0) (D0v _) (by(try simp only[go_sem,seval])<;>(try simp(disch:=omega) [A3])) (by first|exact D11 _|exact A0 (by assumption)|exact B2 (by assumption)|simp only[Heap.Le,Heap.set,Heap.del]at* <;>grind) ?_;rintro Ec rfl j hj;have f8:=A3l C r.c.length j W hj;by_cases A:j<r.c.length
        ·have a9:decide ((j:Int)<r.c.length)=true:=D0c (by omega);have b4:(j:Int)<r.c.length:=by omega
         have c1:=c8 _ (D0o A);have sj:Sz r.c[j]:=H9 (by omega);have l0:j<C.length:=by omega
         have f9:C[j]=r.c[j].fdiv G:=by simp only[hC,D1Q]
         have b0:=A2B C r.c.length j W A (C6 (r.c[j].fdiv G)) (by rw[f9]);have g2:=A09 C r.c.length j j W (D0u _) A;have d6:=A08 C r.c.length j j W (D0u _) A;repeat' (first|with_reducible apply D0a|simp only[go_sem,seval,a9,b4,A8 _ _ A,B4 _ _ A]|(intro u;try simp only[A6]at u)|omega)
         rename_i T;have b3:=u;clear u;have g3:z∈[M,z,T]:=by simp
         have g4:T∈[M,z,T]:=by simp
         have p7:M∈[M,z,T]:=by simp
         have j1:=b3.1;have j2:=b3.2.1;have j3:M≠T:=fun g=>by have:=b3.2.2;rw[←g,c7]at this;cases this
         have v7:((B8.set bv (.vec 2 (l5 C r.c.length j))).set z (.box [.vec bv 2 0 r.c.length,.bool (decide (K<0)),.sl 1 (Rw F4 (B9 K.natAbs)),.bool r.eq])) M=some (.box (C6 G)):=by rw[A4 _ k7.2,A4 _ k7.1];exact c7
         obtain⟨y,hy⟩: ∃y,y=r.c[j].fdiv G:=⟨_,rfl⟩
         have g5: ∀(H:Heap) (Q:D→Heap→Prop),Q (.agg (C6 y)) H→D8 247 [.agg (C6 r.c[j]),.agg (C6 G)] H Q:=fun H Q hq=>A3k r.c[j] G sj gi gb H (by rw[←hy];exact hq);rw[←hy]at b0;refine F2 (fun i'=>if i'=5 then .agg (C6 y)else .undef) [M,z,T] ?_;repeat' (first|with_reducible apply D0a|simp only[go_sem,seval,p7,g3,g4,A4 _ j3,A4 _ k7.2,A4 _ k7.1,c7,b4,f8,g2,d6,b0]|simp(disch:=omega) only[A3,A8]|simp(disch:=first|omega|grind) only[C0]|with_reducible refine R2 (fun H' Q hro hq=>g5 H' Q hq) ?_|omega)
         refine C2 (j+1) (by omega) (by omega) (by(try simp only[go_sem,seval])<;>(try simp(disch:=omega) [A3])) ?_;rw[←b0];intro k o hk;have g6:k≠T:=fun g=>by rw[g,A4 _ j1,A4 _ j2,b3.2.2]at hk;cases hk
         by_cases e:k=bv
         ·subst e;rw[A4 _ nb.symm,A2]at hk;rw[A2];exact hk
         ·rw[A4 _ e,A4 _ g6];by_cases a0:k=z
          ·subst a0;rw[A2]at hk⊢;exact hk
          ·rw[A4 _ a0,A4 _ e]at hk⊢;exact hk
        ·have a9:decide ((j:Int)<r.c.length)=false:=D0d (by omega);have d3:j=r.c.length:=by omega
         subst d3;rw[A3m C _ W];repeat' (first|simp only[go_sem,seval,a9,A4 _ k6.1,A4 _ k6.2,c6]|(intro u;try simp only[A6]at u))
         rename_i bx;have c0:=u;clear u;have c2:H.Le B8:=h3.le.trans J;have g8:H bv=none:=c2.none hv;have q1:(H.set bv (.vec 2 (Rw C6 C))).Le (((B8.set bv (.vec 2 (Rw C6 C))).set z (.box [.vec bv 2 0 r.c.length,.bool (decide (K<0)),.sl 1 (Rw F4 (B9 K.natAbs)),.bool r.eq])).set O (.box [.vec bv 2 0 r.c.length,.bool (decide (K<0)),.sl 1 (Rw F4 (B9 K.natAbs)),.bool r.eq])):=by
          intro k o hk;by_cases e:k=bv
          ·subst e;rw[A4 _ k6.1.symm,A4 _ nb.symm,A2];rw[A2]at hk;exact hk
          ·rw[A4 _ e]at hk;have e6:k≠O:=fun g=>by have:=h3.le _ _ hk;rw[g,h6]at this;cases this
           have a0:k≠z:=fun g=>by have:=c2 _ _ hk;rw[g,a6.2]at this;cases this
           rw[A4 _ e6,A4 _ a0,A4 _ e];exact c2 _ _ hk
         have q2:Hp.Le (((B8.set bv (.vec 2 (Rw C6 C))).set z (.box [.vec bv 2 0 r.c.length,.bool (decide (K<0)),.sl 1 (Rw F4 (B9 K.natAbs)),.bool r.eq])).set O (.box [.vec bv 2 0 r.c.length,.bool (decide (K<0)),.sl 1 (Rw F4 (B9 K.natAbs)),.bool r.eq])):=by
          intro k o hk;have e:k≠bv:=fun g=>by have:=J _ _ hk;rw[g,hv]at this;cases this
          have e6:k≠O:=fun g=>by rw[g,h6]at hk;cases hk
          have a0:k≠z:=fun g=>by have:=J _ _ hk;rw[g,a6.2]at this;cases this
          rw[A4 _ e6,A4 _ a0,A4 _ e];exact J _ _ hk
         have d7:=h3.base q1 q2 (fun b g9 h0=>by rw[A4 _ (fun g=>g9 (by rw[g];exact J.none hv))];exact h0);refine O3.ap d7 (e1':=Rw C7 X++[[.vec bv 2 0 r.c.length,.bool (decide (K<0)),.sl 1 (Rw F4 (B9 K.natAbs)),.bool r.eq]]) (D11 _) (by simp only[A6];simp only[c0,ne_eq,not_false_eq_true,and_self]) (by simp) (by rw[D5]) (by simp only[D0f,D0h];omega) (by simp only[D0f,D0h];omega) rfl fun b' H' h4=>?_;clear d7 q1 q2 c0;repeat' (first|simp only[go_sem,seval]|simp(disch:=omega) only[A3,A8])
         have d8:=h4.n1 _ rfl;have e0:bv≠b':=fun g=>by rw[←g,A2]at d8;cases d8
         have eX:Rw C7 (X++[RR])=Rw C7 X++[.sl 2 (Rw C6 C)::[.bool (decide (K<0)),.sl 1 (Rw F4 (B9 K.natAbs)),.bool r.eq]]:=by rw[←O4,d5];rfl
         have e4:=B3N hr b2;rw[←hC,←d5]at e4 b2;refine B5w (i+1,X++[RR],some b') ⟨by simp only[];omega,by simp only[D0g,D0f,D0h];omega,fun s hs=>?_,?_,by simp,fun b e=>?_⟩ (by simp only[];omega) ?_
         ·rcases D00.1 hs with q|q
          ·exact b1 s q
          ·exact e4.1 s q
         ·unfold TS at st;rw[b2]at st;exact st
         ·have:=h4.n1 _ e;rw[A4 _ (by cases e;exact e0.symm)]at this;exact this
         ·show A02 _ (H.set b' (.vec 4 (Rw C7 (X++[RR])))) _ _;rw[eX];refine A07 (by(try simp only[go_sem,seval,D0g,L1])<;>(try simp(disch:=omega) [A3])) (by rw[D5,W]) h4.a1 (h4.le _ _ (A2 _ _)) e0 (fun k o hk ho=>?_);have e8:k≠bv:=fun g=>by rw[g,g8]at ho;cases ho
          exact⟨e8,h4.le k o (by rw[A4 _ e8];exact ho)⟩
       ·have sz: ¬Z.sign=0:=by rw[Int.sign_eq_zero_iff_zero];exact z0
        have b2:A1B r=none:=by rw[L,if_pos ⟨a5,by rw[←hZ];exact z0⟩]
        repeat' (first|simp only[go_sem,seval,c6,c7,c3,m6,m7,f7,a5,sz]|with_reducible refine R2 (fun H' Q hro hq=>T7 K G s3 s2 H' hq) ?_|with_reducible refine R2 (fun H' Q hro hq=>k4 H' Q hq) ?_|with_reducible refine R2 (fun H' Q hro hq=>L2 Z H' hq) ?_)
        exact Fin.nilsl 4 _ (D12 (h3.le.trans J) (b8 b2))
      |false=>
       have b2:A1B r=some [⟨r.c.map (Int.fdiv · G),K,r.eq⟩]:=by rw[L,if_neg (by rw[a5];simp)]
       refine F2 (fun i'=>.undef) [O,M,I] ?_;repeat' simp only[go_sem,seval,c6,c7,c3,m6,m7,f7,a5]
       obtain⟨C,hC⟩: ∃C,C=r.c.map (Int.fdiv · G):=⟨_,rfl⟩
       have W:C.length=r.c.length:=by rw[hC];simp
       refine F2 (fun i'=>.undef) [O,I] ?_;repeat' (first|with_reducible apply D0a|simp only[go_sem,seval,c6,c7,c3,i9,k3]|simp(disch:=first|omega|grind) only[C0]|(intro u;try simp only[A6]at u)|omega)
       rename_i bv hv z;have a6:=u;clear u;have nb:z≠bv:=a6.1;have k6:O≠bv∧O≠z:=⟨(fun g=>by rw[g,hv]at c6;cases c6),(fun g=>by rw[g,a6.2]at c6;cases c6)⟩
       have k7:M≠bv∧M≠z:=⟨(fun g=>by rw[g,hv]at c7;cases c7),(fun g=>by rw[g,a6.2]at c7;cases c7)⟩
       rw[show List.replicate r.c.length [D.bool false,.nilsl]=l5 C r.c.length 0 from(A2d _ _).symm];obtain⟨RR,d5⟩: ∃RR:Row,RR=⟨C,K,r.eq⟩:=⟨_,rfl⟩
       refine C4 [4,6,7,12,15,16,17,76,77] (fun(j:Nat)=>[(78,.int .i64 j)]) (fun(j:Nat)=>(B8.set bv (.vec 2 (l5 C r.c.length j))).set z (.box [.vec bv 2 0 r.c.length,.bool (decide (K<0)),.sl 1 (Rw F4 (B9 K.natAbs)),.bool r.eq])) (fun(j:Nat)=>j≤r.c.length) (fun(j:Nat)=>r.c.length-j) (0) (D0v _) (by(try simp only[go_sem,seval])<;>(try simp(disch:=omega) [A3])) (by first|exact D11 _|exact A0 (by assumption)|exact B2 (by assumption)|simp only[Heap.Le,Heap.set,Heap.del]at* <;>grind) ?_;rintro Ec rfl j hj;have f8:=A3l C r.c.length j W hj;by_cases A:j<r.c.length
       ·have a9:decide ((j:Int)<r.c.length)=true:=D0c (by omega);have b4:(j:Int)<r.c.length:=by omega
        have c1:=c8 _ (D0o A);have sj:Sz r.c[j]:=H9 (by omega);have l0:j<C.length:=by omega
        have f9:C[j]=r.c[j].fdiv G:=by simp only[hC,D1Q]
        have b0:=A2B C r.c.length j W A (C6 (r.c[j].fdiv G)) (by rw[f9]);have g2:=A09 C r.c.length j j W (D0u _) A;have d6:=A08 C r.c.length j j W (D0u _) A;repeat' (first|with_reducible apply D0a|simp only[go_sem,seval,a9,b4,A8 _ _ A,B4 _ _ A]|(intro u;try simp only[A6]at u)|omega)
        rename_i T;have b3:=u;clear u;have g3:z∈[M,z,T]:=by simp
        have g4:T∈[M,z,T]:=by simp
        have p7:M∈[M,z,T]:=by simp
        have j1:=b3.1;have j2:=b3.2.1;have j3:M≠T:=fun g=>by have:=b3.2.2;rw[←g,c7]at this;cases this
        have v7:((B8.set bv (.vec 2 (l5 C r.c.length j))).set z (.box [.vec bv 2 0 r.c.length,.bool (decide (K<0)),.sl 1 (Rw F4 (B9 K.natAbs)),.bool r.eq])) M=some (.box (C6 G)):=by rw[A4 _ k7.2,A4 _ k7.1];exact c7
        obtain⟨y,hy⟩: ∃y,y=r.c[j].fdiv G:=⟨_,rfl⟩
        have g5: ∀(H:Heap) (Q:D→Heap→Prop),Q (.agg (C6 y)) H→D8 247 [.agg (C6 r.c[j]),.agg (C6 G)] H Q:=fun H Q hq=>A3k r.c[j] G sj gi gb H (by rw[←hy];exact hq);rw[←hy]at b0;refine F2 (fun i'=>if i'=5 then .agg (C6 y)else .undef) [M,z,T] ?_;repeat' (first|with_reducible apply D0a|simp only[go_sem,seval,p7,g3,g4,A4 _ j3,A4 _ k7.2,A4 _ k7.1,c7,b4,f8,g2,d6,b0]|simp(disch:=omega) only[A3,A8]|simp(disch:=first|omega|grind) only[C0]|with_reducible refine R2 (fun H' Q hro hq=>g5 H' Q hq) ?_|omega)
        refine C2 (j+1) (by omega) (by omega) (by(try simp only[go_sem,seval])<;>(try simp(disch:=omega) [A3])) ?_;rw[←b0];intro k o hk;have g6:k≠T:=fun g=>by rw[g,A4 _ j1,A4 _ j2,b3.2.2]at hk;cases hk
        by_cases e:k=bv
        ·subst e;rw[A4 _ nb.symm,A2]at hk;rw[A2];exact hk
        ·rw[A4 _ e,A4 _ g6];by_cases a0:k=z
         ·subst a0;rw[A2]at hk⊢;exact hk
         ·rw[A4 _ a0,A4 _ e]at hk⊢;exact hk
       ·have a9:decide ((j:Int)<r.c.length)=false:=D0d (by omega);have d3:j=r.c.length:=by omega
        subst d3;rw[A3m C _ W];repeat' (first|simp only[go_sem,seval,a9,A4 _ k6.1,A4 _ k6.2,c6]|(intro u;try simp only[A6]at u))
        rename_i bx;have c0:=u;clear u;have c2:H.Le B8:=h3.le.trans J;have g8:H bv=none:=c2.none hv;have q1:(H.set bv (.vec 2 (Rw C6 C))).Le (((B8.set bv (.vec 2 (Rw C6 C))).set z (.box [.vec bv 2 0 r.c.length,.bool (decide (K<0)),.sl 1 (Rw F4 (B9 K.natAbs)),.bool r.eq])).set O (.box [.vec bv 2 0 r.c.length,.bool (decide (K<0)),.sl 1 (Rw F4 (B9 K.natAbs)),.bool r.eq])):=by
         intro k o hk;by_cases e:k=bv
         ·subst e;rw[A4 _ k6.1.symm,A4 _ nb.symm,A2];rw[A2]at hk;exact hk
         ·rw[A4 _ e]at hk;have e6:k≠O:=fun g=>by have:=h3.le _ _ hk;rw[g,h6]at this;cases this
          have a0:k≠z:=fun g=>by have:=c2 _ _ hk;rw[g,a6.2]at this;cases this
          rw[A4 _ e6,A4 _ a0,A4 _ e];exact c2 _ _ hk
        have q2:Hp.Le (((B8.set bv (.vec 2 (Rw C6 C))).set z (.box [.vec bv 2 0 r.c.length,.bool (decide (K<0)),.sl 1 (Rw F4 (B9 K.natAbs)),.bool r.eq])).set O (.box [.vec bv 2 0 r.c.length,.bool (decide (K<0)),.sl 1 (Rw F4 (B9 K.natAbs)),.bool r.eq])):=by
         intro k o hk;have e:k≠bv:=fun g=>by have:=J _ _ hk;rw[g,hv]at this;cases this
         have e6:k≠O:=fun g=>by rw[g,h6]at hk;cases hk
         have a0:k≠z:=fun g=>by have:=J _ _ hk;rw[g,a6.2]at this;cases this
         rw[A4 _ e6,A4 _ a0,A4 _ e];exact J _ _ hk
        have d7:=h3.base q1 q2 (fun b g9 h0=>by rw[A4 _ (fun g=>g9 (by rw[g];exact J.none hv))];exact h0);refine O3.ap d7 (e1':=Rw C7 X++[[.vec bv 2 0 r.c.length,.bool (decide (K<0)),.sl 1 (Rw F4 (B9 K.natAbs)),.bool r.eq]]) (D11 _) (by simp only[A6];simp only[c0,ne_eq,not_false_eq_true,and_self]) (by simp) (by rw[D5]) (by simp only[D0f,D0h];omega) (by simp only[D0f,D0h];omega) rfl fun b' H' h4=>?_;clear d7 q1 q2 c0;repeat' (first|simp only[go_sem,seval]|simp(disch:=omega) only[A3,A8])
        have d8:=h4.n1 _ rfl;have e0:bv≠b':=fun g=>by rw[←g,A2]at d8;cases d8
        have eX:Rw C7 (X++[RR])=Rw C7 X++[.sl 2 (Rw C6 C)::[.bool (decide (K<0)),.sl 1 (Rw F4 (B9 K.natAbs)),.bool r.eq]]:=by rw[←O4,d5];rfl
        have e4:=B3N hr b2;rw[←hC,←d5]at e4 b2;refine B5w (i+1,X++[RR],some b') ⟨by simp only[];omega,by simp only[D0g,D0f,D0h];omega,fun s hs=>?_,?_,by simp,fun b e=>?_⟩ (by simp only[];omega) ?_
        ·rcases D00.1 hs with q|q
         ·exact b1 s q
         ·exact e4.1 s q
        ·unfold TS at st;rw[b2]at st;exact st
        ·have:=h4.n1 _ e;rw[A4 _ (by cases e;exact e0.symm)]at this;exact this
        ·show A02 _ (H.set b' (.vec 4 (Rw C7 (X++[RR])))) _ _;rw[eX];refine A07 (by(try simp only[go_sem,seval,D0g,L1])<;>(try simp(disch:=omega) [A3])) (by rw[D5,W]) h4.a1 (h4.le _ _ (A2 _ _)) e0 (fun k o hk ho=>?_);have e8:k≠bv:=fun g=>by rw[g,g8]at ho;cases ho
         exact⟨e8,h4.le k o (by rw[A4 _ e8];exact ho)⟩
 ·have U:decide ((i:Int)<l.length)=false:=D0d (by omega);unfold TA at hT;rw[List.drop_eq_nil_of_le (by omega)]at hT;have hT:Y8 l=some X:=by rw[hT];simp[Y8]
  rw[hT]at h;repeat' simp only[go_sem,seval,U]
  refine ACalls.out (by rw[D5]) h3.a1 ?_;refine B9V X n (by omega) hn (fun r hr=>⟨(b1 r hr).1,by have:=(b1 r hr).2.1;omega,fun x hx=>by have:=(b1 r hr).2.2 x hx;omega⟩) _ ?_;generalize hR:A0K [] (pairs1 X)=R;rw[show ((some X).bind fun l=>A0K [] (pairs1 l))=R from hR]at h;cases R with
  |none=>
   simp only[go_sem,seval,B0o];exact D12 (O3.one h3) h
  |some Y=>
   simp only[go_sem,seval,B0o];exact D12 (O3.one h3) h
end Go.Proofs.YtibphjonmikciaaGreatDoor
namespace Go.Av
theorem A5P{P:Program}{f v sz n:Nat}{es:List (List D)}{a:D}{ds m:List D}{H:Heap}{Q:D→Heap→Prop}(hb:H v=some (.vec sz es))(hn:n=es.length)(h:ACalls P f (a:: .agg (.sl sz es::ds)::m) (H.del v) Q):ACalls P f (a:: .agg (.vec v sz 0 n::ds)::m) H Q:=by
 subst hn;refine ACalls.shift (args':=a:: .agg (.sl sz es::ds)::m) (fun w vs h1 o hs=>?_) h;have e:=E6 H v;refine⟨by simpa using h1,fun i d p=>?_,hs.less e,fun k hn=>e.held hn⟩
 match i with
 |0=>cases p;exact(o 0 _ rfl).less e
 |1=>
  cases p;have j:=o 1 _ rfl;revert j;generalize vs.getD 1 undef=v1;intro j;cases j with
  |agg _ us q ho hr=>
   refine .agg _ us (by simpa using q) (fun i d' g=>?_) (fun i d' g=>?_)
   ·cases i with
    |zero=>cases g;rfl
    |succ i=>exact ho (i+1) d' g
   ·cases i with
    |zero=>
     cases g;have r:Fz v sz es (.vec v sz 0 es.length) (.sl sz es):=.all;exact r.R hs hb (hr 0 _ rfl)
    |succ i=>exact(hr (i+1) d' g).less e
 |i+2=>exact(o (i+2) d (by simpa using p)).less e
end Go.Av
namespace Go.Lin
open Go Go.Av
theorem B0p(a b:Int)(hb:0<b):(A06 a b).natAbs≤b.natAbs:=by
 unfold A06;have e:(0:Int)<b*2:=by omega
 rw[Int.fdiv_eq_ediv_of_nonneg _ (by omega)];have h1:=Int.ediv_mul_le (a*2+b) (show b*2≠0 by omega);have d:=Int.lt_ediv_add_one_mul_self (a*2+b) e;generalize (a*2+b) / (b*2)=q at h1 d;have e1:q*(b*2)=2*(b*q):=by rw[Int.mul_comm q,Int.mul_assoc,Int.mul_comm 2 q,←Int.mul_assoc,Int.mul_comm _ 2]
 have e2:(q+1)*(b*2)=2*(b*q)+b*2:=by rw[Int.add_mul,e1];omega
 rw[e1]at h1;rw[e2]at d;generalize b*q=z at h1 d;omega
end Go.Lin
namespace Go.Proofs.YtibphjonmikciaaGreatDoor
open Go Go.Av Go.Lin
attribute [local irreducible] ACalls S7
set_option maxHeartbeats 4000000 in
theorem B13{Q}(l:List Row)(at_ n k:Nat)(hlen:l.length≤10000)(i4:0<n)(hn:n≤1000)(b3:at_<l.length)(hw: ∀r∈l,r.c.length=n)(hr: ∀r∈l,A5I r 4611686018427387904)(c3: ∀r∈l,∀x∈r.c,x.natAbs<1073741824)
  (hk:A4S (l.getD at_ default)=some k) (H:Heap) (h:Q (.sl 4 (Rw C7 (y3 l at_))) H):D8 223 [.sl 4 (Rw C7 l),.int .i64 (at_:Int)] H Q:=by
 refine A9 [(14,.par),(18,.par),(20,.par)] A5 Tryz.func223 rfl ?_;simp only[go_sem,seval,Tryz.results223];have d4:(at_:Int)<l.length:=by omega
 have ge:l.getD at_ default=l[at_]:=by simp[b3]
 have U:=D0o b3;obtain⟨e,he⟩: ∃e,e=l[at_]:=⟨_,rfl⟩
 have J:y3 l at_=if(X3 e.c k).natAbs=1 then(l.take at_++l.drop (at_+1)).map (T6 e k)else((l.take at_++l.drop (at_+1)++[e]).map A2r).map (T6 ⟨e.c.map (A06 · ((X3 e.c k).natAbs+1))++[-(((X3 e.c k).natAbs:Int)+1)],A06 e.k ((X3 e.c k).natAbs+1),true⟩ k):=by
  unfold y3;simp only[];rw[ge,←he];rw[ge,←he]at hk;rw[hk];rfl
 rw[ge,←he]at hk;rw[←he]at U;have f9:=hw e U;have i5:=hr e U;have c4:=c3 e U;have Y:k<e.c.length:=by
  rw[A6N]at hk;exact A2e _ _ _ hk
 have d5:(k:Int)<e.c.length:=by omega
 rw[I4 _ _ Y]at J;have g0:L6 (A4S e)=k:=by rw[hk];rfl
 have d6:(l.take at_++l.drop (at_+1)).length≤10000:=by rw[D0g,D1I,D08];omega
 have a4: ∀r∈l.take at_++l.drop (at_+1),r∈l:=fun r hr=>(D00.1 hr).elim List.mem_of_mem_take List.mem_of_mem_drop
 repeat' (first|with_reducible apply D0a|simp only[go_sem,seval,d4,A8 _ _ b3,B4 _ _ b3,←he]|simp(disch:=omega) only[A3,A8,I4]|(intro u;try simp only[A6]at u)|omega)
 rename_i b5 h5 bx;have M:=u;clear u;have c5:(H.set b5 (.box (C7 e))) b5=some (.box (C7 e)):=A2 _ _;have W:H.Le (H.set b5 (.box (C7 e))):=A0 h5;have a5:(H.set b5 (.box (C7 e))) bx=none:=by simp only[A6];exact M
 change ACalls _ _ _ ((H.set b5 (.box (C7 e))).set bx _) _;generalize H.set b5 (.box (C7 e))=B5 at c5 W a5⊢;clear h5 M;rw[D0p (show (Rw C7 l).length≤l.length by rw[D5];exact D0u _),t7,A1V];refine V4 (A2 _ _) rfl ?_;rw[E3 a5];refine A7h _ _ (by rw[D0g]at d6;omega) _ ?_;obtain⟨R,hR⟩: ∃R,R=l.take at_++l.drop (at_+1):=⟨_,rfl⟩
 rw[←hR]at J d6 a4⊢;have a0: ∀r∈l,A5I r 18446744073709551616:=fun r hx=>⟨by have:=(hr r hx).1;omega,fun x O=>by have:=(hr r hx).2 x O;omega⟩
 have la: ∀(H:Heap) (Q:D→Heap→Prop),Q (.int .i64 (k:Int)) H→D8 252 [.agg (C7 e)] H Q:=fun H Q hq=>B9L e (by omega) (a0 e U) H (by rw[g0];exact hq);obtain⟨c,hc⟩: ∃c,c=e.c[k]:=⟨_,rfl⟩
 rw[←hc]at J;have i9:c.natAbs<1073741824:=by rw[hc];exact c4 _ (D0o Y)
 by_cases h1:c.natAbs=1
 ·rw[if_pos h1]at J;rw[J]at h;have o1: ∀(H:Heap) (Q:D→Heap→Prop),Q (.bool true) H→D8 246 [.agg (C6 c)] H Q:=fun H Q hq=>B0S c H (by rw[D0c h1];exact hq);repeat' (first|with_reducible apply D0a|simp only[go_sem,seval,c5,d5,A8 _ _ Y,B4 _ _ Y,←hc]|with_reducible refine la _ _ ?_|with_reducible refine o1 _ _ ?_|omega)
  refine A7d R e k n (by omega) (by omega) (fun r hx=>hw r (a4 r hx)) f9 (by omega) (fun r hx=>a0 r (a4 r hx)) (a0 e U) (fun r hx x O=>by have:=c3 r (a4 r hx) x O;omega) (fun x O=>by have:=c4 x O;omega) _ ?_;repeat' simp only[go_sem,seval]
  exact D12 W h
 ·rw[if_neg h1]at J;have o1: ∀(H:Heap) (Q:D→Heap→Prop),Q (.bool false) H→D8 246 [.agg (C6 c)] H Q:=fun H Q hq=>B0S c H (by rw[D0d h1];exact hq);obtain⟨t,ht⟩: ∃t:Int,t=1:=⟨1,rfl⟩
  obtain⟨m,hm⟩: ∃m:Int,m=(c.natAbs:Nat)+1:=⟨_,rfl⟩
  have g5:((c.natAbs:Nat):Int)+t=m:=by rw[ht,hm]
  rw[←hm]at J;have s1:Sz ((c.natAbs:Nat):Int):=H9 (by omega);have s2:Sz t:=H9 (by omega);have w1: ∀(H:Heap) (Q:D→Heap→Prop),Q (.agg (C6 t)) H→D8 228 [.int .i64 1] H Q:=fun H Q hq=>u8 1 (by omega) (by omega) H (by rw[←ht];exact hq);have p1: ∀(H:Heap) (Q:D→Heap→Prop),Q (.agg (C6 m)) H→D8 255 [.agg (C6 ((c.natAbs:Nat):Int)),.agg (C6 t)] H Q:=fun H Q hq=>A0c _ t s1 s2 H (by rw[g5];exact hq);repeat' (first|with_reducible apply D0a|simp only[go_sem,seval,c5,d5,A8 _ _ Y,B4 _ _ Y,←hc]|simp(disch:=first|omega|grind) only[C0,F1]|(intro u;try simp only[A6]at u)|with_reducible refine la _ _ ?_|with_reducible refine o1 _ _ ?_|with_reducible refine B6Q c _ ?_|with_reducible refine w1 _ _ ?_|with_reducible refine p1 _ _ ?_|omega)
  rename_i G h8 b2 h2 bx;have M:=u;clear u;have e5:=(A0 (o:=.box (C6 m)) h8) _ _ c5;have e8:(B5.set G (.box (C6 m))) G=some (.box (C6 m)):=A2 _ _;have a6:H.Le (B5.set G (.box (C6 m))):=W.trans (A0 h8);have g2:(B5.set G (.box (C6 m))) b2=none:=by simp only[A6];exact h2
  have gx:(B5.set G (.box (C6 m))) bx=none∧bx≠b2:=by simp only[A6];exact⟨⟨M.2.1,M.2.2⟩,M.1⟩
  change ACalls _ _ _ (((B5.set G (.box (C6 m))).set b2 (.vec 4 [C7 e])).set bx (.vec 1 [[.sl 4 (Rw C7 R)],[.vec b2 4 0 1]])) _;generalize B5.set G (.box (C6 m))=B8 at e5 e8 a6 g2 gx⊢;clear h8 h2 M c5 W a5;refine A6v (b:=b2) (sz:=4) (es:=[C7 e]) (H':=B8.set bx (.vec 1 [[.sl 4 (Rw C7 R)],[.sl 4 [C7 e]]])) (by rw[A4 _ gx.2.symm,A2]) (fun q o' hq=>?_) ?_
  ·by_cases g:q=bx
   ·subst g;rw[A2]at hq;cases hq;refine⟨gx.2,_,A2 _ _,.vec _ _ _ rfl fun i y y' O d7=>?_⟩
    match i with
    |0=>
     cases O;cases d7;exact⟨rfl,fun j d d' X h4=>by rw[X]at h4;cases h4;exact .same _⟩
    |1=>
     cases O;cases d7;refine⟨rfl,fun j d d' X h4=>?_⟩;cases j with
     |zero=>cases X;cases h4;exact .all
     |succ j=>cases X
    |i+2=>cases O
   ·rw[A4 _ g]at hq;have g3:q≠b2:=fun g4=>by rw[g4,g2]at hq;cases hq
    exact⟨g3,o',by rw[A4 _ g,A4 _ g3];exact hq,.same _⟩
  refine V4 (A2 _ _) rfl ?_;rw[E3 gx.1,show ([C7 e]:List (List D))=Rw C7 [e]from rfl];refine A7h R [e] (by simp only[D0f,D0h];omega) _ ?_;obtain⟨L,hL⟩: ∃L,L=R++[e]:=⟨_,rfl⟩
  rw[←hL]at J⊢;have k0:L.length≤10001:=by rw[hL,D0g,D0f,D0h];omega
  have d8: ∀r∈L,r∈l:=fun r hr=>by
   rw[hL]at hr;rcases D00.1 hr with g|g
   ·exact a4 r g
   ·simp at g;rw[g];exact U
  clear hL gx g2;repeat' simp only[go_sem,seval]
  refine C4 [5,7,8,9,53,54] (fun(p:Nat×Option Nat×Heap)=>[(55,.int .i64 p.1),(10,H6 4 p.1 p.2.1)]) (fun(p:Nat×Option Nat×Heap)=>p.2.2) (fun(p:Nat×Option Nat×Heap)=>p.1≤L.length∧O3 B8 p.2.2 4 (Rw C7 ((L.take p.1).map A2r)) [] [] p.2.1 none none) (fun(p:Nat×Option Nat×Heap)=>L.length-p.1) ((0,none,B8)) (⟨D0v _,O3.nil B8 4⟩) (by(try simp only[go_sem,seval])<;>(try simp(disch:=omega) [A3])) (by first|exact D11 _|exact A0 (by assumption)|exact B2 (by assumption)|simp only[Heap.Le,Heap.set,Heap.del]at* <;>grind) ?_;rintro Ec rfl ⟨i,o1,Hp⟩ ⟨hi,X⟩;simp only at hi X;by_cases b4:i<L.length
  ·have c6:decide ((i:Int)<L.length)=true:=D0c (by omega);have k1:(i:Int)<L.length:=by omega
   have g6:=d8 _ (D0o b4);have fs:=A6O A2r L i b4;have fl:=A8l A2r L i hi;have e0:L[i].c.length=n:=hw _ g6;have g7:L[i].c≠[]:=fun g=>by rw[g]at e0;simp at e0;omega
   repeat' (first|with_reducible apply D0a|simp only[go_sem,seval,c6,A8 _ _ b4,B4 _ _ b4]|(intro u;try simp only[A6]at u)|with_reducible refine C3K _ g7 (by omega) _ ?_|omega)
   rename_i g8 g9 bx;have M:=u;clear u;have e4:Hp.Le (Hp.set g8 (.box (C7 L[i]))):=A0 g9;refine O3.ap X (e1':=Rw C7 ((L.take (i+1)).map A2r)) e4 (by simp only[A6];exact M) (by simp) (by rw[D5,fl]) (by simp only[D0f,D0h];omega) (by simp only[D0f,D0h];omega) (by rw[fs,←O4];rfl) fun b' H' h4=>?_;repeat' (first|simp only[go_sem,seval]|simp(disch:=omega) only[A3,A8,I4])
   refine C2 (i+1,some b',H') ⟨by simp only[];omega,h4⟩ (by simp only[];omega) (by(try simp only[go_sem,seval,L1])<;>(try simp(disch:=omega) [A3])) (D11 _)
  ·have c6:decide ((i:Int)<L.length)=false:=D0d (by omega);have e1:L.take i=L:=D0p (by omega);have e2:i=L.length:=by omega
   rw[e1]at X;have f5:=X.le _ _ e5;have f8:=X.le _ _ e8;repeat' simp only[go_sem,seval,c6]
   obtain⟨C,hC⟩: ∃C,C=e.c.map (A06 · m)++[-m]:=⟨_,rfl⟩
   obtain⟨K,hK⟩: ∃K,K=A06 e.k m:=⟨_,rfl⟩
   rw[←hC,←hK]at J;have T:C.length=e.c.length+1:=by rw[hC,D0g,D1J];rfl
   have b6:0<m:=by omega
   have e6:m<2147483648:=by omega
   have h0:e.k.natAbs≤18446744073709551616:=(a0 e U).1;have k2:K.natAbs≤m.natAbs:=by rw[hK];exact B0p _ _ b6
   have e7: ∀x∈C,x.natAbs≤4294967296:=fun x hx=>by
    rw[hC]at hx;rcases D00.1 hx with g|g
    ·simp only[D1Y]at g;obtain⟨z,_,rfl⟩:=g;have:=B0p z m b6;omega
    ·simp at g;omega
   have nr: ∀(H:Heap) (Q:D→Heap→Prop),Q (.agg (C6 K)) H→D8 258 [.agg (C6 e.k),.agg (C6 m)] H Q:=fun H Q hq=>B6S e.k m h0 b6 e6 H (by rw[←hK];exact hq);have m5:b5∈[b5,G]:=by simp
   have m8:G∈[b5,G]:=by simp
   refine F2 (fun i'=>if i'=8 then .agg (C6 K)else .undef) [b5,G] ?_;repeat' (first|with_reducible apply D0a|simp only[go_sem,seval,f5,f8,m5,m8]|simp(disch:=omega) only[A3,A8,I4]|simp(disch:=first|omega|grind) only[C0,F1]|(intro u;try simp only[A6]at u)|with_reducible refine R2 (fun H' Q hro hq=>nr H' Q hq) ?_|omega)
   rename_i bv hv A;have b7:=u;clear u;have nb:A≠bv:=b7.1;have k5:b5≠bv∧b5≠A:=⟨(fun g=>by rw[g,hv]at f5;cases f5),(fun g=>by rw[g,b7.2]at f5;cases f5)⟩
   have k8:G≠bv∧G≠A:=⟨(fun g=>by rw[g,hv]at f8;cases f8),(fun g=>by rw[g,b7.2]at f8;cases f8)⟩
   rw[show (([D.bool false,.nilsl]::List.replicate e.c.length [D.bool false,.nilsl]):List (List D))=l5 C (e.c.length+1) 0 from(A2d C (e.c.length+1)).symm];refine C4 [5,7,8,10,13,77,78] (fun(j:Nat)=>[(79,.int .i64 j)]) (fun(j:Nat)=>(Hp.set bv (.vec 2 (l5 C (e.c.length+1) j))).set A (.box [.vec bv 2 0 (e.c.length+1),.bool (decide (K<0)),.sl 1 (Rw F4 (B9 K.natAbs)),.bool true])) (fun(j:Nat)=>j≤e.c.length) (fun(j:Nat)=>e.c.length-j) (0) (D0v _) (by(try simp only[go_sem,seval])<;>(try simp(disch:=omega) [A3])) (by first|exact D11 _|exact A0 (by assumption)|exact B2 (by assumption)|simp only[Heap.Le,Heap.set,Heap.del]at* <;>grind) ?_;rintro Ec rfl j hj;have e9:=A3l C (e.c.length+1) j T (by omega);by_cases b9:j<e.c.length
   ·have a9:decide ((j:Int)<e.c.length)=true:=D0c (by omega);have f0:(j:Int)<e.c.length:=by omega
    have b0:(j:Int)<((e.c.length:Nat):Int)+1:=by omega
    have h6:j<C.length:=by omega
    have c7:C[j]=A06 e.c[j] m:=by simp only[hC];rw[List.getElem_append_left (by rw[D1J];exact b9),D1Q]
    have c1:=c4 _ (D0o b9);have I:=A2B C (e.c.length+1) j T (by omega) (C6 (A06 e.c[j] m)) (by rw[c7]);have c8:=A09 C (e.c.length+1) j j T (D0u _) (by omega);have b1:=A08 C (e.c.length+1) j j T (D0u _) (by omega);repeat' (first|with_reducible apply D0a|simp only[go_sem,seval,a9,f0,A8 _ _ b9,B4 _ _ b9]|(intro u;try simp only[A6]at u)|omega)
    rename_i V;have c0:=u;clear u;have c9:A∈[G,A,V]:=by simp
    have h7:V∈[G,A,V]:=by simp
    have p8:G∈[G,A,V]:=by simp
    have j1:=c0.1;have j2:=c0.2.1;have j3:G≠V:=fun g=>by have:=c0.2.2;rw[←g,f8]at this;cases this
    obtain⟨y,O⟩: ∃y,y=A06 e.c[j] m:=⟨_,rfl⟩
    have h9: ∀(H:Heap) (Q:D→Heap→Prop),Q (.agg (C6 y)) H→D8 258 [.agg (C6 e.c[j]),.agg (C6 m)] H Q:=fun H Q hq=>B6S e.c[j] m (by omega) b6 e6 H (by rw[←O];exact hq);rw[←O]at I;refine F2 (fun i'=>if i'=5 then .agg (C6 y)else .undef) [G,A,V] ?_;repeat' (first|with_reducible apply D0a|simp only[go_sem,seval,p8,c9,h7,A4 _ j3,A4 _ k8.2,A4 _ k8.1,f8,f0,b0,e9,c8,b1,I]|simp(disch:=omega) only[A3,A8,I4]|simp(disch:=first|omega|grind) only[C0,F1]|with_reducible refine R2 (fun H' Q hro hq=>h9 H' Q hq) ?_|omega)
    refine C2 (j+1) (by omega) (by omega) (by(try simp only[go_sem,seval])<;>(try simp(disch:=omega) [A3])) ?_;rw[←I];intro q o hq;have i0:q≠V:=fun g=>by rw[g,A4 _ j1,A4 _ j2,c0.2.2]at hq;cases hq
    by_cases g:q=bv
    ·subst g;rw[A4 _ nb.symm,A2]at hq;rw[A2];exact hq
    ·rw[A4 _ g,A4 _ i0];by_cases f6:q=A
     ·subst f6;rw[A2]at hq⊢;exact hq
     ·rw[A4 _ f6,A4 _ g]at hq⊢;exact hq
   ·have a9:decide ((j:Int)<e.c.length)=false:=D0d (by omega);have i1:j=e.c.length:=by omega
    subst i1;have h6:e.c.length<C.length:=by omega
    have c7:C[e.c.length]= -m:=by simp only[hC];rw[List.getElem_append_right (by rw[D1J];exact D0u _)];simp
    have I:=A2B C (e.c.length+1) e.c.length T (by omega) (C6 (-m)) (by rw[c7]);have c8:=A09 C (e.c.length+1) e.c.length e.c.length T (D0u _) (by omega);have b1:=A08 C (e.c.length+1) e.c.length e.c.length T (D0u _) (by omega);have b0:(e.c.length:Int)<((e.c.length:Nat):Int)+1:=by omega
    obtain⟨y,O⟩: ∃y,y= -m:=⟨_,rfl⟩
    rw[←O,A3m C _ T]at I;have ng: ∀(H:Heap) (Q:D→Heap→Prop),Q (.agg (C6 y)) H→D8 259 [.agg (C6 m)] H Q:=fun H Q hq=>A4V m H (by rw[←O];exact hq);have c9:A∈[b5,G,A]:=by simp
    have p5:b5∈[b5,G,A]:=by simp
    have p8:G∈[b5,G,A]:=by simp
    repeat' simp only[go_sem,seval,a9]
    refine F2 (fun i'=>if i'=6 then .agg (C6 y)else .undef) [b5,G,A] ?_;repeat' (first|with_reducible apply D0a|simp only[go_sem,seval,p8,c9,p5,A4 _ k8.2,A4 _ k8.1,A4 _ k5.2,A4 _ k5.1,f8,f5,b0,e9,c8,b1,I]|simp(disch:=first|omega|grind) only[C0,F1]|with_reducible refine R2 (fun H' Q hro hq=>ng H' Q hq) ?_|omega)
    have d0:(l5 C (e.c.length+1) e.c.length).set e.c.length ((zB.set 0 (D.bool (decide (y<0)))).set 1 (D.sl 1 (Rw F4 (B9 y.natAbs))))=Rw C6 C:=I;rw[d0];obtain⟨Hf,d2⟩: ∃Hf,Hf=((Hp.set bv (.vec 2 (l5 C (e.c.length+1) e.c.length))).set A (.box [.vec bv 2 0 (e.c.length+1),.bool (decide (K<0)),.sl 1 (Rw F4 (B9 K.natAbs)),.bool true])).set bv (.vec 2 (Rw C6 C)):=⟨_,rfl⟩
    have i2:Hf bv=some (.vec 2 (Rw C6 C)):=by rw[d2];exact A2 _ _
    have f7:Hp.Le Hf:=fun q o hq=>by
     have g1:q≠bv:=fun g=>by rw[g,hv]at hq;cases hq
     have g2:q≠A:=fun g=>by rw[g,b7.2]at hq;cases hq
     rw[d2,A4 _ g1,A4 _ g2,A4 _ g1];exact hq
    rw[←d2];have i3:o1≠some bv:=X.a1.ne hv;have c2: ∀(q:Nat) (o:Go.Av.Obj),Hf q=some o→o1≠some q→K1 Hf o1 q=some o:=fun q o hq hn=>by
     cases o1 with
     |none=>exact hq
     |some c=>show (Hf.del c) q=_;rw[F1 (by rintro rfl;exact hn rfl)];exact hq
    refine ACalls.out (by rw[D5,D1J];exact e2) (X.a1.up f7) ?_;refine A5P (c2 _ _ i2 i3) (by rw[D5,T]) ?_;rw[J]at h;have d3: ∀r∈L.map A2r,∃s∈l,r=A2r s:=fun r hr=>by
     obtain⟨s,hs,rfl⟩:=D1Y.1 hr;exact⟨s,d8 s hs,rfl⟩
    refine A7d (L.map A2r) ⟨C,K,true⟩ k (n+1) (by rw[D1J];omega) (by omega) (fun r hx=>?_) (by show C.length=n+1;omega) (by omega) (fun r hx=>?_) ⟨by show K.natAbs≤_;omega,fun x hx=>by have:=e7 x hx;omega⟩ (fun r hx x O=>?_) e7 _ ?_
    ·obtain⟨s,hs,rfl⟩:=d3 r hx;show (s.c++[0]).length=n+1;rw[D0g,hw s hs];rfl
    ·obtain⟨s,hs,rfl⟩:=d3 r hx;refine⟨(a0 s hs).1,fun x O=>?_⟩;rcases D00.1 O with g|g
     ·exact(a0 s hs).2 x g
     ·simp at g;rw[g];decide
    ·obtain⟨s,hs,rfl⟩:=d3 r hx;rcases D00.1 O with g|g
     ·have:=c3 s hs x g;omega
     ·simp at g;rw[g];decide
    ·repeat' simp only[go_sem,seval]
     refine D12 (fun q o hq=>?_) h;have q1:=X.le _ _ (a6 _ _ hq);have q2:q≠bv:=fun g=>by rw[g,hv]at q1;cases q1
     rw[F1 q2];exact c2 _ _ (f7 _ _ q1) (fun g=>by have:=X.n1 _ g;rw[a6 _ _ hq]at this;cases this)
end Go.Proofs.YtibphjonmikciaaGreatDoor
namespace Go.Lin
open Go Go.Av Go.Proofs.YtibphjonmikciaaGreatDoor
structure OkR(n:Nat)(l:List Row):Prop where
 len:l.length≤9999
 nn:n≤1000
 w: ∀r∈l,r.c.length=n
 s: ∀r∈l,A5I r 4611686018427387904
 c: ∀r∈l,∀x∈r.c,x.natAbs<1073741824
theorem A44{l:List Row}(h:A8i l=true): ∃n,OkR n l:=by
 unfold A8i at h;simp only[D0n,D0w]at h;obtain⟨h1,d⟩:=h;cases l with
 |nil=>exact⟨0,by omega,by omega,by simp,by simp,by simp⟩
 |cons r l=>
  simp only[D0n,D0w,D1B]at d;obtain⟨d,e⟩:=d;have key: ∀s∈r::l,s.c.length=r.c.length∧(∀x∈s.c,x.natAbs<1073741824)∧s.k.natAbs<4611686018427387904:=fun s hs=>by
   have:=e s hs;unfold C1Z at this;simp only[D0n,beq_iff_eq,D0w,D1B]at this;exact⟨this.1.1,fun x hx=>by have:=this.1.2 x hx;simpa using this,by have:=this.2;simpa using this⟩
  exact⟨r.c.length,by omega,by omega,fun s hs=>(key s hs).1,fun s hs=>⟨by have:=(key s hs).2.2;omega,fun x hx=>by have:=(key s hs).2.1 x hx;omega⟩,fun s hs=>(key s hs).2.1⟩
theorem B0q(p:Row→Bool): ∀l:List Row,X6 p l=match l.findIdx? p with|none=> -1|some i=>(i:Int)
 | []=>rfl
 |r::l=>by
  rw[X6,B0q p l,List.findIdx?_cons];by_cases h:p r=true
  ·rw[if_pos h,h];rfl
  ·simp only[h];cases l.findIdx? p with
   |none=>simp
   |some i=>simp;omega
theorem B9W{p:Row→Bool}{l:List Row}{i:Nat}(h:l.findIdx? p=some i):i<l.length:=(List.findIdx?_eq_some_iff_findIdx_eq.1 h).1
theorem B14(l:List Row): ∀(n k:Nat),(chT l n).best=some k→k<n
 |0,k,h=>by simp[chT]at h
 |n+1,k,h=>by
  rw[B0g]at h;unfold A3i at h;simp only[]at h;split at h
  ·have:=B14 l n k h;omega
  ·split at h
   ·simp at h;omega
   ·have:=B14 l n k h;omega
theorem B4Z{l:List Row}{n k:Nat}(hl:l≠[])(hw: ∀r∈l,r.c.length=n)(h:(i7 l).best=some k):k<n:=by
 have:i7 l=chT l n:=by
  unfold i7 chT;cases l with
  |nil=>exact absurd rfl hl
  |cons r l=>rw[show ((r::l).headD default).c.length=n from hw r (D0l ..)]
 rw[this]at h;exact B14 l n k h
end Go.Lin
namespace Go.Proofs.YtibphjonmikciaaGreatDoor
open Go Go.Av Go.Lin
attribute [local irreducible] ACalls S7
theorem C3Q{Q}(r:Row)(H:Heap)(h:Q (.bool r.eq) H):D8 222 [.agg (C7 r)] H Q:=by
 refine A9 [] A5 Tryz.func222 rfl ?_;simp only[go_sem,seval,Tryz.results222];repeat' intro d
 exact D12 (by simp only[D4,C9,D0]at* <;>grind) h
set_option maxHeartbeats 1000000 in
theorem B15{Q}(f:Nat)(l:List Row)(b:Bool)(hs:A40 f l=some b)(H:Heap)(h:Q (.bool b) H):D8 196 [.sl 4 (Rw C7 l)] H Q:=by
 refine A9 [] A5 Tryz.func196 rfl ?_;simp only[go_sem,seval,Tryz.results196];repeat' (first|with_reducible apply D0a|simp only[go_sem,seval]|intro g|omega)
 refine C4 [] (fun(p:Nat×List Row)=>[(0,.sl 4 (Rw C7 p.2))]) (fun(p:Nat×List Row)=>H) (fun(p:Nat×List Row)=>A40 p.1 p.2=some b) (fun(p:Nat×List Row)=>p.1) ((f,l)) (hs) (by simp only[go_sem,seval]) (by first|exact D11 _|exact A0 (by assumption)|exact B2 (by assumption)|simp only[Heap.Le,Heap.set,Heap.del]at* <;>grind) ?_;rintro X rfl ⟨f,l⟩ hs;simp only at hs;cases f with
 |zero=>simp[A40]at hs
 |succ f=>
  rw[A40]at hs;split at hs
  case isFalse=>cases hs
  rename_i d;obtain⟨n,ok⟩:=A44 d;have T: ∀(H:Heap) (Q:D→Heap→Prop),Q (B0o (B0O l)) H→D8 220 [.sl 4 (Rw C7 l)] H Q:=fun H Q hq=>C3P l n (by have:=ok.len;omega) (by have:=ok.nn;omega) (fun r hr=>⟨ok.w r hr,ok.s r hr⟩) (fun r hr x hx=>by have:=ok.c r hr x hx;omega) H hq;clear d;repeat' (first|simp only[go_sem,seval]|with_reducible refine T _ _ ?_)
  cases C:B0O l with
  |none=>
   rw[C]at hs;simp only[D1C]at hs;simp only[go_sem,seval,B0o];repeat' (first|with_reducible apply D0a|simp only[go_sem,seval]|intro g|omega)
   rw[←hs]at h;exact D15 h
  |some m=>
   rw[C]at hs;cases m with
   |nil=>
    simp only[D1C]at hs;simp only[go_sem,seval,B0o];repeat' (first|with_reducible apply D0a|intro g|omega)
    rw[←hs]at h;exact D15 h
   |cons r m=>
    simp only[]at hs;split at hs
    case isFalse=>cases hs
    rename_i d;obtain⟨L,q⟩: ∃L,L=r::m:=⟨_,rfl⟩
    have u:L≠[]:=by rw[q];simp
    have y: ¬(L.length:Int)=0:=by rw[q];simp;omega
    rw[←q]at hs d;obtain⟨n,ok⟩:=A44 d;simp only[go_sem,seval,B0o];rw[←q];clear d T C q;have A: ∀(H:Heap) (Q:D→Heap→Prop),Q (.int .i64 (X6 (·.eq) L)) H→D8 221 [.sl 4 (Rw C7 L),.fn (.func 222) [] []] H Q:=fun H Q hq=>B6U (·.eq) L (by have:=ok.len;omega) _ [] [] H (fun a _ Q hq=>C3Q a H hq) hq;have o:=B0q (·.eq) L;cases G:L.findIdx? (·.eq)with
    |some i=>
     rw[G]at hs o;simp only[]at hs o;split at hs
     case isFalse=>cases hs
     rename_i hk;obtain⟨k,hk⟩:=Option.isSome_iff_exists.1 hk;have I:=B9W G;have J:0<n:=by
      have e:L.getD i default=L[i]:=by simp[I]
      rw[e,A6N]at hk;have:=A2e _ _ _ hk;rw[ok.w _ (D0o I)]at this;omega
     have M: ∀(H:Heap) (Q:D→Heap→Prop),Q (.sl 4 (Rw C7 (y3 L i))) H→D8 223 [.sl 4 (Rw C7 L),.int .i64 (i:Int)] H Q:=fun H Q hq=>B13 L i n k (by have:=ok.len;omega) J ok.nn I ok.w ok.s ok.c hk H hq;have U:(0:Int)≤i:=by omega
     rw[o]at A;repeat' (first|with_reducible apply D0a|simp only[go_sem,seval,y,U]|intro g|with_reducible refine A _ _ ?_|with_reducible refine M _ _ ?_|omega)
     exact C2 (f,y3 L i) hs (Nat.lt_succ_self f) (by simp only[go_sem,seval]) (D11 _)
    |none=>
     rw[G]at hs o;simp only[]at hs o;rw[o]at A;have j: ∀(H:Heap) (Q:D→Heap→Prop),Q (.tuple [.int .i64 (L6 (i7 L).best),.bool (i7 L).sure]) H→D8 224 [.sl 4 (Rw C7 L)] H Q:=fun H Q hq=>B6k L n u (by have:=ok.len;omega) ok.w (by have:=ok.nn;omega) H hq;split at hs
     ·rename_i k cost z;rw[z]at j;have O:k<n:=B4Z u ok.w (by rw[z]);have V: ∀(H:Heap) (Q:D→Heap→Prop),Q (.sl 4 (Rw C7 (A2b L k false))) H→D8 226 [.sl 4 (Rw C7 L),.int .i64 (k:Int),.bool false] H Q:=fun H Q hq=>B6W L k n (by have:=ok.len;omega) (by have:=ok.nn;omega) ok.w O (fun r hr=>⟨by have:=(ok.s r hr).1;omega,fun x hx=>by have:=(ok.s r hr).2 x hx;omega⟩) H hq;have W:L6 (some k)=k:=rfl;simp only[W]at j;repeat' (first|with_reducible apply D0a|simp only[go_sem,seval,y]|intro g|with_reducible refine A _ _ ?_|with_reducible refine j _ _ ?_|with_reducible refine V _ _ ?_|omega)
      exact C2 (f,A2b L k false) hs (Nat.lt_succ_self f) (by simp only[go_sem,seval]) (D11 _)
     ·cases hs
end Go.Proofs.YtibphjonmikciaaGreatDoor
namespace Go.Lin
open Go Go.Av Go.Lexs
theorem A7p{s:ByteArray}(h:G4 (B s)=true):s.size≤200:=by
 unfold G4 at h;simp only[D0n,D0w]at h;have:=h.1.1.2;rwa [U6]at this
theorem B6r{l:List LinV}(hv: ∀a∈l,validL a=true):(P1 l).length≤12*l.length∧∀s∈P1 l,s.size≤200:=by
 constructor
 ·have key: ∀(m:List LinV),(∀c∈m,validL c=true)→(P1 m).length≤12*m.length:=by
   intro m
   induction m with
   |nil=>intro _;simp[P1]
   |cons c m d=>
    intro hm;have e:=d (fun x hx=>hm x (D0s _ hx));have h:=(L7 (hm c (D0l ..))).len;unfold P1 at e⊢;rw[List.flatMap_cons,D0g,D1J,D0f];omega
  exact key l hv
 ·intro s hs;unfold P1 at hs;obtain⟨c,hc,hs⟩:=List.mem_flatMap.1 hs;obtain⟨t,g,rfl⟩:=D1Y.1 hs;exact A7p (N1 (L7 (hv c hc)).t t g).1
theorem A4c(l:List ByteArray)(s:ByteArray):(E9 l s).length≤l.length+1:=by
 induction l with
 |nil=>simp[E9]
 |cons x l d=>
  unfold E9;split
  ·simp;omega
  ·split<;>simp
theorem O6(m:List ByteArray): ∀l:List ByteArray,(m.foldl E9 l).length≤l.length+m.length:=by
 induction m with
 |nil=>intro l;simp
 |cons s m d=>intro l;have:=d (E9 l s);have:=A4c l s;simp only[List.foldl_cons,D0f];omega
theorem B4a{l:List LinV}{a:LinV}(d:a∈l){t:LTm}(e:t∈a.t):t.v∈A15 l:=by
 rw[A7S];exact List.mem_flatMap.2 ⟨a,d,D1Y.2 ⟨t,e,rfl⟩⟩
def C9K(P:Program)(can:List LinV→Option Bool)(g:Nat)(cap:List D)(H:Heap):Prop:=∀(more:List LinV) (b:Bool),can more=some b→(∀a∈more,validL a=true)→more.length≤2→∀(H':Heap) (Q:D→Heap→Prop),H.Le H'→Q (.bool b) H'→ACalls P g (.sl 3 (Rw D9 more)::cap) H' Q
theorem A7q{s:ByteArray}(hs:G4 (B s)=true)(c k:Int)(e:Bool)(hc:c≠0)(d:c.natAbs≤1048576)(hk:k.natAbs≤1099511627776):validL ⟨[⟨s,c⟩],k,e⟩=true:=by
 unfold validL X2 A14 I3;simp[hs,hc];omega
theorem A7r{s:ByteArray}(hs:G4 (B s)=true)(n m:Int)(hn:n.natAbs≤1099511627776)(hm:m.natAbs≤1099511627776): ∀a∈[X4 s n,u7 s m],validL a=true:=fun a d=>by
 rcases D02.1 d with rfl|d
 ·exact A7q hs 1 _ _ (by decide) (by decide) (by omega)
 ·simp at d;rw[d];exact A7q hs (-1) _ _ (by decide) (by decide) hm
theorem B4b(g:List LinV→Option Bool)(s:ByteArray)(f:Nat)(e d:Int):A3j g s (f+1) e d=if e<d then
      match g [X4 s (-((e+d).tdiv 2)),u7 s ((e+d).tdiv 2)]with
      |none=>none
      |some true=>A3j g s f e ((e+d).tdiv 2)
      |some false=>A3j g s f ((e+d).tdiv 2+1) d
    else some e:=rfl
end Go.Lin
namespace Go.Proofs.YtibphjonmikciaaGreatDoor
open Go Go.Av Go.Lexs Go.Lin
attribute [local irreducible] ACalls S7
theorem C3R{Q}(l:List LinV)(hlen:l.length≤1000)(hv: ∀a∈l,validL a=true)(b:Bool)(hs:C1a l=some b)(H:Heap)(h:Q (.bool b) H):D8 155 [.sl 3 (Rw D9 l)] H Q:=by
 refine A9 [] A5 Tryz.func155 rfl ?_;simp only[go_sem,seval,Tryz.results155];obtain⟨n1,n2⟩:=B6r hv;have d:A40 100 (B0P l (A15 l))=some b:=hs;have i:(A15 l).length≤12000:=by have:=O6 (P1 l) [];simp at this;unfold A15;omega
 repeat' (first|simp only[go_sem,seval]|with_reducible refine C3L l (by omega) (by omega) (fun s hs=>by have:=n2 s hs;omega) (fun c hc=>by have:=(L7 (hv c hc)).len;omega) _ ?_|with_reducible refine C3O l (A15 l) (by omega) (by omega) (B0H l) hv (fun a e t g=>B4a e g) _ ?_|with_reducible refine B15 100 _ b d _ ?_)
 exact D15 h
theorem A7s{Q}(s:ByteArray)(n:Int)(hn:n.natAbs≤1000000000000000)(H:Heap)(h:Q (.agg (D9 (X4 s n))) H):D8 127 [.str s,.int .i64 n] H Q:=by
 refine A9 [] A5 Tryz.func127 rfl ?_;simp only[go_sem,seval,Tryz.results127];have w:IntKind.i64.wrap (0-n)= -n:=by rw[A3 (by omega) (by omega)];omega
 repeat' (first|simp only[go_sem,seval,w]|simp(disch:=first|omega|grind) only[C0,F1]|(intro d;try simp only[A6]at d))
 rename_i m p q;have e:=d;clear d;refine A2P (es:=Rw S1 [⟨s,1⟩]) (by rw[A4 _ e.1,A2];rfl) rfl (D12 (fun k o hk=>?_) h);have i:k≠m:=fun g=>by rw[g,p]at hk;cases hk
 have j:k≠q:=fun g=>by rw[g,e.2]at hk;cases hk
 rw[F1 j,A4 _ i,A4 _ j,A4 _ i];exact hk
theorem B0r{Q}(s:ByteArray)(n:Int)(H:Heap)(h:Q (.agg (D9 (u7 s n))) H):D8 128 [.str s,.int .i64 n] H Q:=by
 refine A9 [] A5 Tryz.func128 rfl ?_;simp only[go_sem,seval,Tryz.results128];repeat' (first|simp only[go_sem,seval]|simp(disch:=first|omega|grind) only[C0,F1]|(intro d;try simp only[A6]at d))
 rename_i m p q;have e:=d;clear d;refine A2P (es:=Rw S1 [⟨s,-1⟩]) (by rw[A4 _ e.1,A2];rfl) rfl (D12 (fun k o hk=>?_) h);have i:k≠m:=fun g=>by rw[g,p]at hk;cases hk
 have j:k≠q:=fun g=>by rw[g,e.2]at hk;cases hk
 rw[F1 j,A4 _ i,A4 _ j,A4 _ i];exact hk
theorem B4c{Q}(i:List LinV→Option Bool)(s:ByteArray)(x:G4 (B s)=true)(g:Nat)(cap:List D)(H:Heap)(r:C9K Tryz.prog i g cap H)(n:Int)(hn:B6F i s=some n)(h:Q (.int .i64 n) H):D8 76 [.str s,.fn (.func g) [] cap] H Q:=by
 refine A9 [] A5 Tryz.func76 rfl ?_;simp only[go_sem,seval,Tryz.results76];unfold B6F at hn;cases z:A3j i s 40 0 2147483647 with
 |none=>rw[z]at hn;cases hn
 |some A=>
  rw[z]at hn;simp only[]at hn;repeat' (first|with_reducible apply D0a|simp only[go_sem,seval]|simp(disch:=omega) only[A3]|intro j|omega)
  refine C4 [0,1] (fun(p:Nat×Int×Int)=>[(5,.int .i64 p.2.1),(6,.int .i64 p.2.2)]) (fun(p:Nat×Int×Int)=>H) (fun(p:Nat×Int×Int)=>A3j i s p.1 p.2.1 p.2.2=some A∧0≤p.2.1∧p.2.1≤p.2.2∧p.2.2≤2147483647) (fun(p:Nat×Int×Int)=>p.1) ((40,0,2147483647)) (⟨z,by simp,by simp,by simp⟩) (by simp only[go_sem,seval]) (by first|exact D11 _|exact A0 (by assumption)|exact B2 (by assumption)|simp only[Heap.Le,Heap.set,Heap.del]at* <;>grind) ?_;rintro O rfl ⟨f,d,e⟩ ⟨o,C,I,G⟩;simp only at o C I G;cases f with
  |zero=>simp[A3j]at o
  |succ f=>
   rw[B4b]at o;by_cases q:d<e
   ·rw[if_pos q]at o;obtain⟨m,hm⟩: ∃m,m=(d+e).tdiv 2:=⟨_,rfl⟩
    have J:d≤m∧m<e:=by
     rw[hm,Int.tdiv_eq_ediv_of_nonneg (by omega)];omega
    rw[←hm]at o;have L:IntKind.i64.wrap m=m:=A3 (by omega) (by omega);have M:IntKind.i64.wrap (0-m)= -m:=by rw[A3 (by omega) (by omega)];omega
    cases hc:i [X4 s (-m),u7 s m]with
    |none=>rw[hc]at o;cases o
    |some b=>
     rw[hc]at o;repeat' (first|simp only[go_sem,seval,q,←hm,L,M,Int.zero_sub]|simp(disch:=omega) only[A3]|intro j|with_reducible refine A7s s (-m) (by omega) _ ?_|with_reducible refine B0r s m _ ?_)
     rename_i bs;have u:=j;clear j;refine V4 (es:=Rw D9 [X4 s (-m),u7 s m]) (A2 _ _) rfl ?_;rw[E3 u];refine r _ b hc (A7r x _ _ (by omega) (by omega)) (by simp) _ _ (D11 _) ?_;cases b with
     |true=>
      repeat' simp only[go_sem,seval]
      exact C2 (f,d,m) ⟨o,C,by simp only[];omega,by simp only[];omega⟩ (Nat.lt_succ_self f) (by simp only[go_sem,seval]) (D11 _)
     |false=>
      repeat' (first|simp only[go_sem,seval]|simp(disch:=omega) only[A3])
      exact C2 (f,m+1,e) ⟨o,by simp only[];omega,by simp only[];omega,G⟩ (Nat.lt_succ_self f) (by simp only[go_sem,seval]) (D11 _)
   ·rw[if_neg q]at o;simp only[D1C]at o;subst o;by_cases y:0<d
    ·rw[if_pos y]at hn;cases hc:i [X4 s d,u7 s d]with
     |none=>rw[hc]at hn;cases hn
     |some b=>
      rw[hc]at hn;repeat' (first|simp only[go_sem,seval,q,y,Int.zero_sub]|intro j|with_reducible refine A7s s d (by omega) _ ?_|with_reducible refine B0r s d _ ?_)
      rename_i bs;have u:=j;clear j;refine V4 (es:=Rw D9 [X4 s d,u7 s d]) (A2 _ _) rfl ?_;rw[E3 u];refine r _ b hc (A7r x _ _ (by omega) (by omega)) (by simp) _ _ (D11 _) ?_;cases b with
      |true=>
       simp only[D1C]at hn;subst hn;repeat' simp only[go_sem,seval]
       exact D15 h
      |false=>
       simp only[D1C]at hn;subst hn;repeat' (first|simp only[go_sem,seval,Int.zero_sub]|simp(disch:=omega) only[A3])
       exact D15 h
    ·rw[if_neg y]at hn;simp only[D1C]at hn;subst hn;repeat' simp only[go_sem,seval,q,y]
     exact D15 h
end Go.Proofs.YtibphjonmikciaaGreatDoor
namespace Go.Av
inductive View(H:Heap):D→D→Prop
 |same (d:D):View H d d
 |vec (b sz n:Nat) (es es':List (List D)) (hb:H b=some (.vec sz es)) (hn:n=es.length) (hl:es.length=es'.length) (h1: ∀(i:Nat) (e e':List D),es[i]? =some e→es'[i]? =some e'→e.length=e'.length)
   (h: ∀(i:Nat) (e e':List D) (j:Nat) (d d':D),es[i]? =some e→es'[i]? =some e'→e[j]? =some d→e'[j]? =some d'→View H d d'):View H (.vec b sz 0 n) (.sl sz es')
 |nil (sz:Nat):View H .nilsl (.sl sz [])
 |box (b:Nat) (cs cs':List D) (Z:Option TypeId) (hb:H b=some (.box cs Z)) (hl:cs.length=cs'.length) (h: ∀(i:Nat) (d d':D),cs[i]? =some d→cs'[i]? =some d'→View H d d'):View H (.box b 0) (.ro cs')
 |agg (cs cs':List D) (hl:cs.length=cs'.length) (h: ∀(i:Nat) (d d':D),cs[i]? =some d→cs'[i]? =some d'→View H d d'):View H (.agg cs) (.agg cs')
 |map (b:Nat) (kvs:List (D×D)) (hb:H b=some (.map kvs)):View H (.map b) (.fm kvs)
theorem B3Q{H H':Heap}{w:World}(hs:Sat H w){b:Nat}{kvs:List (D×D)}(hb:H b=some (.map kvs))(hl:H'.Le H)(hn:H'.held b=false){v:Value}(hr:R w H (.map b) v):R w H' (.fm kvs) v:=by
 obtain⟨es,ck,e,g,h,d⟩:=hs b _ hb;cases hr;exact .fm kvs b es ck e hn g h (fun i p hp=>(d i p hp).1) (fun i p hp=>(d i p hp).2.1.less hl) (fun i p hp=>(d i p hp).2.2.less hl)
theorem View.one{H:Heap}{d d':D}(h:View H d d')(ho:d.one=true):d'.one=true:=by
 cases h with
 |same=>exact ho
 |vec=>rfl
 |nil=>rfl
 |box=>rfl
 |map=>rfl
 |agg=>cases ho
theorem View.R{H:Heap}{w:World}(hs:Sat H w){d d':D}(h:View H d d'): ∀{v:Value},R w H d v→R w (roH H) d' v:=by
 induction h with
 |same d=>exact fun hr=>hr.less (A8R H)
 |vec b sz n es es' hb hn hl h1 h r=>
  intro v hr;have q:=hs.lt hb
  --the block itself
  obtain⟨c,T,x,y,u,_,C,z,G,A⟩:=hs b _ hb;cases hr with
  |vec0 b sz lo off=>
   have:es'= []:=D0y (by omega);subst this;exact .sl0 _ _ _
  |vec _ _ _ _ cap V m I J hsz L=>
   rw[hn,hl];refine .sl sz es' b _ cap (fun i j=>c.getD (i*sz+j) Go.undef) q (A3Z H b) (fun i e' o=>?_) (by omega) (fun i j M O=>?_) (fun i e' j d' o g=>?_) (fun i e' j d' o g=>?_)
   ·obtain⟨e,he⟩:=G5 hl o;rw[←h1 i e e' he o];exact G i e he
   ·have h5:(i+1)*sz≤es.length*sz:=D1G _ (by omega);rw[Nat.add_mul,Nat.one_mul]at h5;rw[Nat.zero_mul,Nat.zero_add,U1 u];have hsz:i*sz+j<c.size:=by omega
    simp[hsz]
   ·obtain⟨e,he⟩:=G5 hl o;obtain⟨d,p⟩:=G5 (h1 i e e' he o) g;exact(h i e e' j d d' he o p g).one (A i e j d he p).1
   ·obtain⟨e,he⟩:=G5 hl o;obtain⟨d,p⟩:=G5 (h1 i e e' he o) g;exact r i e e' j d d' he o p g (A i e j d he p).2
 |nil sz=>intro v hr;cases hr;exact .sl0 _ _ _
 |map b kvs hb=>exact fun hr=>B3Q hs hb (A8R H) (A3Z H b) hr
 |box b cs cs' Z hb hl h r=>
  intro v hr;have q:=hs.lt hb;obtain⟨c,T,lo,M,u,_,C,z,_⟩:=hs b _ hb;cases hr;refine .ro cs' b 0 (fun j=>c.getD j Go.undef) q (A3Z H b) (fun j O=>?_) (fun j d' g=>?_) (fun j d' g=>?_)
  ·rw[Nat.zero_add,U1 u];have:j<c.size:=by omega
   simp[this]
  ·obtain⟨d,p⟩:=G5 hl g;exact(h j d d' p g).one (z j d p).1
  ·obtain⟨d,p⟩:=G5 hl g;exact r j d d' p g (z j d p).2
 |agg cs cs' hl h r=>
  intro v hr;cases hr with
  |agg _ vs U ho hr=>
   refine .agg cs' vs (by omega) (fun i d' g=>?_) (fun i d' g=>?_)
   ·obtain⟨d,p⟩:=G5 hl g;exact(h i d d' p g).one (ho i d p)
   ·obtain⟨d,p⟩:=G5 hl g;exact r i d d' p g (hr i d p)
theorem A6R{P:Program}{c:CR}{bl:Bl}{ev:Operand→D}{H:Heap}{j:D→Heap→Prop}{s x:Operand}{t I:Nat}(e g:Nat){sz n m bx:Nat}{ob:Option Nat}{es xs:List (List D)}
  (J:G8 P t=some (e,sz,g)) (L:0<sz) (h1:apT (C8 P I)) (M:apZ (G1 P e) sz) (hs:ev s=H6 sz n ob) (hx:ev x= .vec bx sz 0 m) (o:H bx=some (.vec sz xs)) (hm:m=xs.length) (O:xs≠[])
  (i:OutAt H sz es ob) (hn:n=es.length) (p:bx∉bl.l) (u:ob≠some bx) (y: ∀c,ob=some c→c∉bl.l)
  (z:(n+xs.length)*g≤140737488355328) (A:n+xs.length≤9223372036854775807)
  (h: ∀b',K1 (H.del bx) ob b'=none→j (.vec b' sz 0 (n+xs.length)) ((K1 (H.del bx) ob).set b' (.vec sz (es++xs)))):pOp P c bl ev H j (.call ⟨.builtin .append,#[s,x],#[t,I]⟩):=by
 refine A4v ?_;rw[J,A99];refine⟨L,h1,M,?_⟩;have C:M0 H sz (ev x)=some xs:=by
  rw[hx];unfold M0;simp[o,hm]
 have ho:T1 bl.l [bx]= [bx]:=by rw[B0A bx [] p,X1]
 have r:xOk bl H [bx]:=B22 bx _ o rfl (.inl p);rw[C,A98,hs,hx];show paS _ bl [bx] sz g xs H j;cases ob with
 |none=>
  have T:es= []:=i;subst T;subst hn;simp only[D0h,Nat.zero_add,D1m]at z A h;show paS .nilsl bl [bx] sz g xs H j;rw[B86];refine⟨z,A,by cases xs<;>simp_all,r,fun b hb=>?_⟩;rw[ho,A0G,F6];refine h b ?_;show (H.del bx) b=none;unfold Heap.del;rw[ho]at hb;rcases hb with hb|hb
  ·split<;>simp_all
  ·simp at hb;rw[if_pos hb]
 |some k=>
  have hk:H k=some (.vec sz es):=i;have U:k≠bx:=fun e=>u (by rw[e]);show paS (.vec k sz 0 n) bl [bx] sz g xs H j;rw[B21,hk,B20];refine⟨rfl,rfl,rfl,by omega,z,A,.inl (y k rfl),r,fun b' d=>?_⟩;rw[ho,D0p (by omega),A0G,A0G,F6];have G:(H.del k).del bx=(H.del bx).del k:=by funext q;simp only[Heap.del];split<;>split<;>rfl
  rw[G];refine h b' ?_;show ((H.del bx).del k) b'=none;rw[ho]at d;simp only[Heap.del];rcases d with d|d
  ·split
   ·rfl
   ·split
    ·rfl
    ·exact d
  ·simp at d;rcases d with d|d
   ·rw[if_pos d]
   ·split
    ·rfl
    ·first|rfl|rw[if_pos d]
end Go.Av
namespace Go.Lin
open Go Go.Av Go.Lexs
structure FI(H:Heap)(b5 bv:Nat)(so:List LinV)(out:List VlV)(ob:Option Nat)(Hp:Heap):Prop where
 le:H.Le Hp
 h5:H b5=none
 hv:H bv=none
 e5:Hp b5=some (.box [.vec bv 3 0 so.length])
 ev:Hp bv=some (.vec 3 (Rw D9 so))
 eo:OutAt Hp 2 (Rw vlC out) ob
 no: ∀b,ob=some b→H b=none
 n5:ob≠some b5
 nv:ob≠some bv
end Go.Lin
namespace Go.Proofs.YtibphjonmikciaaGreatDoor
open Go Go.Av Go.Lexs Go.Lin
attribute [local irreducible] ACalls S7
end Go.Proofs.YtibphjonmikciaaGreatDoor
namespace Go.Av
theorem ACalls.fin{P:Program}{f:Nat}{args:List D}{H:Heap}{Q:D→Heap→Prop}(h:ACalls P f args H (Fin Q)):ACalls P f args H Q:=by
 refine⟨h.1,fun w vs h1 i j=>(h.2 w vs h1 i j).mono fun e w' ⟨v,he,hp⟩=>⟨v,he,?_⟩⟩;obtain⟨d,A,m,o,p,q,g⟩:=hp;unfold Fin at g;obtain⟨r,u,hs,hq⟩:=g;obtain⟨x,y,z⟩:=hs w' v m o;exact⟨u,r,x,y,p,fun k hk hn=>z k (q k hk hn),hq⟩
structure BxI(H:Heap)(bx sz n:Nat)(X:List (List D))(rest:List D)(ob:Option Nat)(Hp:Heap):Prop where
 le:H.Le Hp
 hx:H bx=none
 ex:Hp bx=some (.box (H6 sz n ob::rest))
 eo:OutAt Hp sz X ob
 no: ∀b,ob=some b→H b=none
 nx:ob≠some bx
theorem B5C{H:Heap}{bx:Nat}(h:H bx=none)(sz:Nat)(rest:List D):BxI H bx sz 0 [] rest none (H.set bx (.box (.nilsl::rest))):=
 ⟨A0 h,h,A2 _ _,rfl,by simp,by simp⟩
theorem BxI.up{H Hp H':Heap}{bx sz n:Nat}{X:List (List D)}{rest:List D}{ob:Option Nat}(h:BxI H bx sz n X rest ob Hp)(d:Hp.Le H'):BxI H bx sz n X rest ob H':=
 ⟨h.le.trans d,h.hx,d _ _ h.ex,h.eo.up d,h.no,h.nx⟩
theorem BxI.ap{H Hp H0 H':Heap}{bx sz n m:Nat}{X Y:List (List D)}{rest:List D}{ob:Option Nat}{i:Nat}(h:BxI H bx sz n X rest ob Hp)(d:Hp.Le H0)(j:Apd H0 sz ob Y i H'):BxI H bx sz m Y rest (some i) (H'.set bx (.box (.vec i sz 0 m::rest)))∧H' bx=some (.box (H6 sz n ob::rest)):=by
 have e5:H' bx=some (.box (H6 sz n ob::rest)):=j.2.1 bx _ (d _ _ h.ex) h.nx;have p:i≠bx:=fun e=>by have:=j.1;rw[e,e5]at this;cases this
 have q:H i=none:=by
  rcases j.2.2 with g|g
  ·exact h.le.none (d.none g)
  ·exact h.no _ g
 refine⟨⟨fun k o hk=>?_,h.hx,A2 _ _,?_,fun b e=>by cases e;exact q,fun e=>p (by cases e;rfl)⟩,e5⟩
 ·rw[A4 _ (fun e=>by rw[e,h.hx]at hk;cases hk)];exact j.2.1 k o (d _ _ (h.le _ _ hk)) (fun e=>by have:=h.no _ e;rw[this]at hk;cases hk)
 ·show (H'.set bx _) i=_;rw[A4 _ p];exact j.1
end Go.Av
namespace Go.Proofs.YtibphjonmikciaaGreatDoor
open Go Go.Av Go.Lexs Go.Lin
attribute [local irreducible] ACalls S7
end Go.Proofs.YtibphjonmikciaaGreatDoor
namespace Go.Av
def B3R:D→Bool
 | .tuple ds=>ds.all A9e
 |d=>A9e d
theorem C3S{w:World}{H H':Heap}{d:D}{v:Value}(e:A9e d=true)(hr:R w H d v):R w H' d v:=by
 cases hr<;>first|(cases e;done)|constructor
theorem B9X{w:World}{H H':Heap}{d:D}{v:Value}(e:B3R d=true)(hr:R w H d v):R w H' d v:=by
 cases hr with
 |tuple ds vs hl hr=>exact .tuple ds vs hl fun i d g=>C3S (D1B.1 e d (D07 g)) (hr i d g)
 |_=>first|(cases e;done)|constructor
theorem B4d{H e:Heap}{w w':World}{K:D→Heap→Prop}{v:Value}(hs:Sat H w)(m:e.Le H)(h:Post e w (fun d _=>B3R d=true∧K d (H.sub e)) v w'):Post H w K v w':=by
 obtain⟨d,r,hr,q,he,u,p,hk⟩:=h;have g:Ext H w w':=⟨he.os,he.tape,he.output,he.size,fun k hk hn=>he.block k hk (m.held hn),he.shape⟩
 have i:From w H (H.sub e):=fun k hk hn=>(A8H H e).held hn;refine⟨d,H.sub e,B9X p hr,fun b o hb=>?_,g,i,hk⟩;have hc:e.held b=false:=by
  unfold Heap.sub at hb;split at hb
  ·cases hb
  ·rename_i h;simpa using h
 have j:=A8H H e b o hb;exact(hs b o j).mono g i (he.block b (hs.lt j) hc)
theorem A32{P:Program}{f:Nat}{args args':List D}{H:Heap}{Q:D→Heap→Prop}(hl:args.length=args'.length)(hv: ∀(i:Nat) d d',args[i]? =some d→args'[i]? =some d'→View H d d')
  (h:ACalls P f args' (roH H) (fun d _=>B3R d=true∧Q d H)):ACalls P f args H Q:=by
 refine⟨h.1,fun w vs h1 o j=>?_⟩;refine(h.2 w vs (by omega) (fun i d' g=>?_) (j.less (A8R H))).mono fun e w' ⟨v,he,hp⟩=>⟨v,he,B4d j (A8R H) (by rw[C2W];exact hp)⟩
 obtain⟨d,m⟩:=G5 hl g;exact(hv i d d' m g).R j (o i d m)
theorem B5E{H:Heap}{n sz:Nat}{es:List (List D)}{ob:Option Nat}{ds:List D}(hn:n=es.length)(ho:OutAt H sz es ob):View H (.agg (H6 sz n ob::ds)) (.agg (.sl sz es::ds)):=by
 refine .agg _ _ rfl fun i d d' h1 g=>?_
 match i with
 |0=>
  cases h1;cases g;cases ob with
  |none=>rw[show es= []from ho];exact .nil sz
  |some b=>exact .vec b sz n es es ho hn rfl (fun i e e' h1 g=>by rw[h1]at g;cases g;rfl) (fun i e e' j d d' h1 g m h=>by rw[h1]at g;cases g;rw[m]at h;cases h;exact .same _)
 |i+1=>simp only[D06]at h1 g;rw[h1]at g;cases g;exact .same _
theorem A9J{P:Program}{f n sz:Nat}{es:List (List D)}{ob:Option Nat}{ds g:List D}{H:Heap}{Q:D→Heap→Prop}(hn:n=es.length)(ho:OutAt H sz es ob)(h:ACalls P f (.agg (.sl sz es::ds)::g) (roH H) (fun d _=>B3R d=true∧Q d H)):
  ACalls P f (.agg (H6 sz n ob::ds)::g) H Q:=by
 refine A32 (args':=.agg (.sl sz es::ds)::g) rfl (fun i d d' h1 e=>?_) h
 match i with
 |0=>cases h1;cases e;exact B5E hn ho
 |i+1=>simp only[D06]at h1 e;rw[h1]at e;cases e;exact .same _
end Go.Av
namespace Go.Lin
open Go Go.Av Go.Lexs
theorem B8H{Q:D→Heap→Prop}{ds:List D}{x:D}{H:Heap}{b sz n:Nat}{es:List (List D)}(hb:H b=some (.vec sz es))(hn:n=es.length)(h:Fin Q (.tuple [.agg (.sl sz es::ds),x]) (H.del b)):Fin Q (.tuple [.agg (.vec b sz 0 n::ds),x]) H:=by
 subst hn;refine A5A hb (by simp) (fun i d d' h1 e=>?_) h
 match i with
 |0=>cases h1;cases e;exact .all
 |i+1=>
  simp only[D06]at h1 e;rw[h1]at e;cases e;exact .same _
theorem A6S(sz n:Nat)(ob:Option Nat):(D.one.match_1 (fun _=>Bool) (H6 sz n ob) (fun _=>false) (fun _=>false) (fun _=>false) fun _=>true)=true:=by cases ob<;>rfl
theorem G9{H Bs:Heap}{b:Nat}{x:Go.Av.Obj}(d:H.Le Bs)(h:H b=none):H.Le (Bs.set b x):=fun k o hk=>by
 rw[A4 _ (fun e=>by rw[e,h]at hk;cases hk)];exact d _ _ hk
end Go.Lin
namespace Go.Proofs.YtibphjonmikciaaGreatDoor
open Go Go.Av Go.Lexs Go.Lin
attribute [local irreducible] ACalls S7
end Go.Proofs.YtibphjonmikciaaGreatDoor
namespace Go.Av
theorem A5O{P:Program}{f v sz n:Nat}{es:List (List D)}{ds m:List D}{H:Heap}{Q:D→Heap→Prop}(hb:H v=some (.vec sz es))(hn:n=es.length)(h:ACalls P f (.agg (.sl sz es::ds)::m) (H.del v) Q):ACalls P f (.agg (.vec v sz 0 n::ds)::m) H Q:=by
 subst hn;refine ACalls.shift (args':=.agg (.sl sz es::ds)::m) (fun w vs h1 p hs=>?_) h;have g:=E6 H v;refine⟨by simpa using h1,fun i d q=>?_,hs.less g,fun k hn=>g.held hn⟩
 match i with
 |0=>
  cases q;have j:=p 0 _ rfl;revert j;generalize vs.getD 0 undef=v1;intro j;cases j with
  |agg _ us o ho hr=>
   refine .agg _ us (by simpa using o) (fun i d' e=>?_) (fun i d' e=>?_)
   ·cases i with
    |zero=>cases e;rfl
    |succ i=>exact ho (i+1) d' e
   ·cases i with
    |zero=>
     cases e;have r:Fz v sz es (.vec v sz 0 es.length) (.sl sz es):=.all;exact r.R hs hb (hr 0 _ rfl)
    |succ i=>exact(hr (i+1) d' e).less g
 |i+1=>exact(p (i+1) d (by simpa using q)).less g
end Go.Av
namespace Go.Lin
open Go Go.Av Go.Lexs
theorem B0s{a:LinV}(h:validL a=true): ∀t∈a.t,t.c≠0∧t.c.natAbs≤1048576:=fun t d=>by
 have:=(N1 (L7 h).t t d)
 exact⟨this.2.1,by have:=this.2.2;omega⟩
theorem _root_.Go.Av.BxI.fin{H0 H Hp:Heap}{bx sz n d b:Nat}{X:List (List D)}{rest cs:List D}{T:Option TypeId}{x:Go.Av.Obj}(h:BxI H bx sz n X rest (some b) Hp)(g:H0.Le H)(i:H0 d=none)(j:Hp d=some (.box cs T)):(Hp.set d x) b=some (.vec sz X)∧H0.Le ((Hp.set d x).del b):=by
 have hb:Hp b=some (.vec sz X):=h.eo;have m:b≠d:=fun e=>by rw[e,j]at hb;cases hb
 refine⟨by rw[A4 _ m];exact hb,fun k o hk=>?_⟩;have h1:=g _ _ hk;have p:k≠b:=fun e=>by have:=h.no b rfl;rw[←e,h1]at this;cases this
 rw[F1 p,A4 _ (fun e=>by rw[e,i]at hk;cases hk)];exact h.le _ _ h1
theorem _root_.Go.Av.BxI.re{H Hp:Heap}{bx sz n:Nat}{X:List (List D)}{rest:List D}{ob:Option Nat}(h:BxI H bx sz n X rest ob Hp)(d:List D):BxI H bx sz n X d ob (Hp.set bx (.box (H6 sz n ob::d))):=by
 refine⟨fun k o hk=>?_,h.hx,A2 _ _,?_,h.no,h.nx⟩
 ·rw[A4 _ (fun e=>by rw[e,h.hx]at hk;cases hk)];exact h.le _ _ hk
 ·have:=h.eo;cases ob with
  |none=>exact this
  |some b=>
   show (Hp.set bx _) b=_;rw[A4 _ (fun e=>h.nx (by rw[e]))];exact this
theorem A6T{C T:Nat→Heap→Prop}{G:Prop}(h:(∀b H,C b H→T b H)→G)(t: ∀b H,C b H→T b H):G:=h t
end Go.Lin
namespace Go.Proofs.YtibphjonmikciaaGreatDoor
open Go Go.Av Go.Lexs Go.Lin
attribute [local irreducible] ACalls S7
end Go.Proofs.YtibphjonmikciaaGreatDoor
namespace Go.Lin
open Go Go.Av Go.Lexs
theorem A0Q: ∀(l:List ByteArray) (s:ByteArray) (i:Nat) (d:i≤l.length),(∀(k:Nat) (hk:k<l.length),k<i→S4 l[k] s=true)→(∀hk:i<l.length,S4 l[i] s=false)→
  E9 l s=if(∃hk:i<l.length,l[i]=s)then l else l.take i++[s]++l.drop i
 | [],s,i,d,_,_=>by
  have:i=0:=by simpa using d
  subst this;simp[E9]
 |x::l,s,0,_,_,j=>by
  have h:=j (by simp);simp only[D1t]at h;rw[E9,h];by_cases e:x=s
  ·simp[e]
  ·simp[e]
 |x::l,s,i+1,d,h1,j=>by
  have m:=h1 0 (by simp) (by omega);simp only[D1t]at m;rw[E9,if_pos m,A0Q l s i (by simpa using d) (fun k hk g=>by have:=h1 (k+1) (by simpa using hk) (by omega);simpa using this) (fun hk=>by have:=j (by simpa using hk);simpa using this)];by_cases e: ∃hk:i<l.length,l[i]=s
  ·rw[if_pos e,if_pos (by obtain⟨a,b⟩:=e;exact⟨by simpa using a,by simpa using b⟩)]
  ·rw[if_neg e,if_neg (fun g=>e (by obtain⟨a,b⟩:=g;exact⟨by simpa using a,by simpa using b⟩))];simp
def nsD:List ByteArray→D
 | []=>.nilsl
 |x::l=>.sl 1 (Rw F3 (x::l))
theorem B6s(l:List ByteArray)(s:ByteArray):nsD (E9 l s)= .sl 1 (Rw F3 (E9 l s)):=by
 cases l with
 |nil=>rfl
 |cons x l=>
  rw[E9];split
  ·rfl
  ·split<;>rfl
theorem A5Y(l:List ByteArray):NilR (nsD l) (.sl 1 (Rw F3 l)):=by
 cases l with
 |nil=>exact .nil _
 |cons x l=>exact .same _
@[simp] theorem C96:nsD []= .nilsl:=rfl
end Go.Lin
namespace Go.Proofs.YtibphjonmikciaaGreatDoor
open Go Go.Av Go.Lexs Go.Lin
attribute [local irreducible] ACalls S7
theorem B6t{Q}(l:List ByteArray)(hl:l.length≤1000000000)(s:ByteArray)(H:Heap)(h1:E9 l s=l→Q (.sl 1 (Rw F3 l)) H)(h: ∀x,H x=none→Q (.vec x 1 0 (E9 l s).length) (H.set x (.vec 1 (Rw F3 (E9 l s))))):D8 90 [.sl 1 (Rw F3 l),.str s] H Q:=by
 refine A9 [(6,.wk),(7,.par)] A5 Tryz.func90 rfl ?_;simp only[go_sem,seval,Tryz.results90];refine C4 [0,1] (fun(i:Nat)=>[(5,.int .i64 i)]) (fun(i:Nat)=>H) (fun(i:Nat)=>i≤l.length∧∀(k:Nat) (hk:k<l.length),k<i→S4 l[k] s=true) (fun(i:Nat)=>l.length-i) (0) (⟨D0v _,fun _ _ h=>by omega⟩) (by(try simp only[go_sem,seval])<;>(try simp(disch:=omega) [A3])) (by first|exact D11 _|exact A0 (by assumption)|exact B2 (by assumption)|simp only[Heap.Le,Heap.set,Heap.del]at* <;>grind) ?_;rintro Ec rfl i ⟨y,o⟩;have r: ∀(d:i<l.length),S4 l[i] s=true→∀(k:Nat) (hk:k<l.length),k<i+1→S4 l[k] s=true:=fun d c k hk W=>(Nat.lt_or_ge k i).elim (fun g=>o k hk g) (fun g=>by have:k=i:=(by omega);subst this;exact c);apply P8 (C:=E9 l s=l.take i++[s]++l.drop i)
 ·intro U;by_cases d:i<l.length
  ·have p:decide ((i:Int)<l.length)=true:=D0c (by omega);have u:(i:Int)<l.length:=by omega
   by_cases c:S4 l[i] s=true
   ·have A:Op.bytesLess l[i].data.toList s.data.toList=true:=c;repeat' (first|with_reducible apply D0a|simp only[go_sem,seval,p,u,A8 _ _ d,B4 _ _ d,A]|simp(disch:=omega) only[A3,A8,A0Q]|omega)
    exact C2 (i+1) ⟨by omega,r d c⟩ (by omega) (by(try simp only[go_sem,seval])<;>(try simp(disch:=omega) [A3])) (by simp only[D4,C9,D0]at* <;>grind)
   ·have c:S4 l[i] s=false:=by simpa using c
    have A:Op.bytesLess l[i].data.toList s.data.toList=false:=c;have e:=A0Q l s i y o (fun _=>c);by_cases q:l[i]=s
    ·rw[if_pos ⟨d,q⟩]at e;have I:decide (B l[i]=B s)=true:=D0c (by rw[q]);repeat' (first|with_reducible apply D0a|simp only[go_sem,seval,p,u,A8 _ _ d,B4 _ _ d,A,I]|omega)
     exact D15 (h1 e)
    ·rw[if_neg (fun g=>q g.2)]at e;have I:decide (B l[i]=B s)=false:=D0d fun g=>q (U7 g);repeat' (first|with_reducible apply D0a|simp only[go_sem,seval,p,u,A8 _ _ d,B4 _ _ d,A,I]|omega)
     exact O2 [(0,.sl 1 (Rw F3 l)),(1,.str s),(5,.int .i64 i)] H (by simp only[go_sem,seval]) (D11 _) (U e)
  ·have p:decide ((i:Int)<l.length)=false:=D0d (by omega);have e:=A0Q l s i y o (fun g=>absurd g (by omega));rw[if_neg (fun g=>absurd g.1 (by omega))]at e;repeat' simp only[go_sem,seval,p]
   exact O2 [(0,.sl 1 (Rw F3 l)),(1,.str s),(5,.int .i64 i)] H (by simp only[go_sem,seval]) (D11 _) (U e)
 intro e;have hm:=Nat.min_eq_left y;repeat' (first|with_reducible apply D0a|simp only[go_sem,seval,t7,A1V,hm]|(intro j;try simp only[A6]at j)|omega)
 rename_i x8 X z;have V:=j;clear j;rw[E3 X]at V⊢;refine F2 (fun _=>.undef) [] ?_;repeat' (first|simp only[go_sem,seval,t7,A1V]|(intro j;try simp only[A6]at j))
 rename_i J;have G:=j;clear j;have L:(H.set z (.vec 1 (Rw F3 (l.take i)))) J=none:=by rw[A4 _ G.1];exact G.2
 refine A6R 9 16 (n:=i) (m:=1) (bx:=J) (ob:=some z) (es:=Rw F3 (l.take i)) (xs:=[[.str s]]) (by simp only[go_sem,seval]) (by decide) (by simp only[go_sem,seval]) (by simp only[go_sem,seval]) (by simp only[go_sem,seval]) (by simp only[go_sem,seval]) (A2 _ _) rfl (by simp) (by show Heap.set _ J _ z=_;rw[A4 _ G.1.symm];exact A2 _ _) (N2 _ _ y).symm (by simp) (fun e=>G.1 (by injection e with e;exact e.symm)) (by simp) (by simp only[D0f,D0h];omega) (by simp only[D0f,D0h];omega) fun Y M=>?_;rw[E3 L]at M⊢;rw[show K1 (H.set z (.vec 1 (Rw F3 (l.take i)))) (some z)=H from E3 V]at M⊢;repeat' (first|with_reducible apply D0a|simp only[go_sem,seval,t7,A1V]|omega)
 have O:(Rw F3 (l.take i)++[[D.str s]]).length=i+1:=by rw[D0g,N2 _ _ y];rfl
 refine A7a 9 16 (Rw F3 (l.drop i)) (b:=Y) (es:=Rw F3 (l.take i)++[[.str s]]) rfl (by simp only[go_sem,seval]) (by decide) (by simp only[go_sem,seval]) (by simp only[go_sem,seval]) ?_ ?_ rfl M (by simp) ?_ ?_ fun x hx=>?_
 ·simp only[go_sem,seval,O]
 ·simp only[go_sem,seval,List.take_length]
 ·rw[O,D5,D08];omega
 ·rw[O,D5,D08];omega
 ·have hw:Rw F3 (l.take i)++[[D.str s]]++Rw F3 (l.drop i)=Rw F3 (E9 l s):=by rw[e];simp[Rw,F3]
  have T:(Rw F3 (l.take i)++[[D.str s]]).length+(Rw F3 (l.drop i)).length=(E9 l s).length:=by rw[←D0g,hw,D5]
  rw[T,hw];repeat' simp only[go_sem,seval]
  exact D15 (h x hx)
theorem C3T{Q}(l:List ByteArray)(hl:l.length≤1000000000)(s:ByteArray)(H:Heap)(h:Q (.sl 1 (Rw F3 (E9 l s))) H):D8 90 [.sl 1 (Rw F3 l),.str s] H Q:=
 ACalls.fin (B6t l hl s H (fun e=>D15 (by rw[e]at h;exact h)) fun x hx=>Fin.out (ob:=some x) (by rw[D5]) (A2 _ _) (D12 (by show H.Le ((H.set x _).del x);rw[E3 hx];exact D11 _) h))
theorem A8r{Q}(l:List ByteArray)(hl:l.length≤1000000000)(s:ByteArray)(H:Heap)(h:Q (nsD (E9 l s)) H):D8 90 [nsD l,.str s] H Q:=by
 refine R1 (args':=[.sl 1 (Rw F3 l),.str s]) rfl (fun i d d' h1 e=>?_) (C3T l hl s H (by rw[B6s]at h;exact h))
 match i with
 |0=>cases h1;cases e;exact A5Y l
 |1=>cases h1;cases e;exact .same _
 |i+2=>cases h1
end Go.Proofs.YtibphjonmikciaaGreatDoor
namespace Go.Fo
open Go Go.Av Go.Lexs Go.Lin
inductive Fm where
 |mk (op:Int) (n:Int) (l:LinV) (s:ByteArray) (ks:List Fm)
namespace Fm
def op:Fm→Int|mk o _ _ _ _=>o
def n:Fm→Int|mk _ n _ _ _=>n
def l:Fm→LinV|mk _ _ l _ _=>l
def s:Fm→ByteArray|mk _ _ _ s _=>s
def ks:Fm→List Fm|mk _ _ _ _ ks=>ks
end Fm
theorem C4G(f:Fm):f= .mk f.op f.n f.l f.s f.ks:=by cases f;rfl
def C1:Fm→List D
 | .mk o n l s ks=>[.int .i64 o,.int .i64 n,.sl 2 (Rw S1 l.t),.int .i64 l.k,.bool l.e,.str s,.sl 7 (fmsC ks)]
where fmsC:List Fm→List (List D)
 | []=>[]
 |f::fs=>C1 f::fmsC fs
theorem B9Y(l:List Fm):C1.fmsC l=Rw C1 l:=by
 induction l with
 |nil=>rfl
 |cons f l d=>simp only[C1.fmsC,d];rfl
theorem N7(f:Fm):C1 f= [.int .i64 f.op,.int .i64 f.n,.sl 2 (Rw S1 f.l.t),.int .i64 f.l.k,.bool f.l.e,.str f.s,.sl 7 (Rw C1 f.ks)]:=by
 cases f;simp only[C1,B9Y];rfl
theorem S6{p:Fm→Prop}(h: ∀o n l s ks,(∀k∈ks,p k)→p (.mk o n l s ks)): ∀f,p f
 | .mk o n l s ks=>h o n l s ks (go ks)
where go: ∀ks:List Fm,∀k∈ks,p k
 | [],_,hk=>absurd hk D03
 |f::fs,k,hk=>(D02.1 hk).elim (fun e=>e ▸ S6 h f) (go fs k)
inductive FmFit:Fm→Prop
 |mk (o n:Int) (l:LinV) (s:ByteArray) (ks:List Fm) (ho:Y4 o) (hn:Y4 n) (hl:S3 l) (hs:s.size≤140737488351232) (hk:ks.length≤1466015503658) (h: ∀k∈ks,FmFit k):FmFit (.mk o n l s ks)
def Z9(c:Int):Bool:=decide (c≠40)&&decide (c≠41)&&decide (c≠44)&&decide (c≠33)&&decide (c≠38)&&decide (c≠124)&&decide (c≠63)
def plainB(s:ByteArray):Bool:=G4 (B s)&&(B s).all (ofB Z9)
def lin0(l:LinV):Bool:=decide (l.t= [])&&decide (l.k=0)&& !l.e
def D6(f:Fm):Bool:=
 if f.op=1 then(decide (f.n=0)||decide (f.n=1))&&decide (f.s.size=0)&&lin0 f.l&&f.ks.isEmpty
 else if f.op=2 then decide (f.n=0)&&decide (f.s.size=0)&&f.ks.isEmpty&&validL f.l&&f.l.t.all fun t=>plainB t.v
 else if f.op=3 then decide (f.n=0)&&lin0 f.l&&f.ks.isEmpty&&plainB f.s
 else if f.op=4 then decide (f.n=0)&&decide (f.s.size=0)&&lin0 f.l&&decide (f.ks.length=1)
 else if f.op=5∨f.op=6 then decide (f.n=0)&&decide (f.s.size=0)&&lin0 f.l
 else false
def F5:Fm→Nat
 | .mk _ _ _ _ ks=>1+nodesL ks
where nodesL:List Fm→Nat
 | []=>0
 |f::fs=>F5 f+nodesL fs
def N9:Fm→Nat
 | .mk _ _ _ _ ks=>1+deepL ks
where deepL:List Fm→Nat
 | []=>0
 |f::fs=>max (N9 f) (deepL fs)
def I0(p:Fm→Bool):Fm→Bool
 | .mk o n l s ks=>p (.mk o n l s ks)&&allK ks
where allK:List Fm→Bool
 | []=>true
 |f::fs=>I0 p f&&allK fs
def A0p:Fm→List ByteArray×List ByteArray→List ByteArray×List ByteArray
 | .mk o _ l s ks,(a,b)=>namesK ks ((l.t.map (·.v)).foldl E9 a,if o=3 then E9 b s else b)
where namesK:List Fm→List ByteArray×List ByteArray→List ByteArray×List ByteArray
 | [],p=>p
 |f::fs,p=>namesK fs (A0p f p)
def meetL(l m:List ByteArray):Bool:=l.any fun s=>m.any fun t=>decide (s=t)
def E8(f:Fm):Bool:=I0 D6 f&&decide (N9 f≤60)&&decide (F5 f≤200)&& !meetL (A0p f ([],[])).1 (A0p f ([],[])).2&&decide ((A0p f ([],[])).1.length+(A0p f ([],[])).2.length≤12)
end Go.Fo
namespace Go.Fo
open Go Go.Av Go.Lexs Go.Lin
theorem R8{f k:Fm}(h:k∈f.ks):SizeOf.sizeOf k<SizeOf.sizeOf f:=by
 cases f with
 |mk o n l s ks=>
  have:SizeOf.sizeOf k<SizeOf.sizeOf ks:=List.sizeOf_lt_of_mem h;simp only[Fm.mk.sizeOf_spec];omega
def J3:Fm→Nat
 | .mk _ _ l _ ks=>1+l.t.length+wtL ks
where wtL:List Fm→Nat
 | []=>0
 |f::fs=>J3 f+wtL fs
theorem K6(f:Fm):J3 f=1+f.l.t.length+J3.wtL f.ks:=by cases f;rw[J3];rfl
theorem A3q(l m:List Fm):J3.wtL (l++m)=J3.wtL l+J3.wtL m:=by
 induction l with
 |nil=>simp[J3.wtL]
 |cons f l d=>simp only[D1l,J3.wtL,d];omega
theorem B9Z(l:List Fm):l.length≤J3.wtL l:=by
 induction l with
 |nil=>simp
 |cons f l d=>rw[J3.wtL,D0f,K6];omega
theorem B9a{l:List Fm}{f:Fm}(h:f∈l):J3 f≤J3.wtL l:=by
 induction l with
 |nil=>cases h
 |cons g l d=>
  rw[J3.wtL];rcases D02.1 h with rfl|h
  ·omega
  ·have:=d h;omega
theorem A0q(l:List Fm)(i:Nat)(h:i<l.length):J3.wtL (l.drop i)=J3 l[i]+J3.wtL (l.drop (i+1)):=by
 rw[D05 h,J3.wtL]
theorem FmFit.inv{f:Fm}(h:FmFit f):Y4 f.op∧Y4 f.n∧S3 f.l∧f.s.size≤140737488351232∧f.ks.length≤1466015503658∧∀k∈f.ks,FmFit k:=by
 cases h with
 |mk o n l s ks ho hn hl hs hk h=>exact⟨ho,hn,hl,hs,hk,h⟩
theorem FmFit.kid{f:Fm}(h:FmFit f){k:Fm}(hk:k∈f.ks):FmFit k:=h.inv.2.2.2.2.2 k hk
theorem FmFit.lin{f:Fm}(h:FmFit f):S3 f.l:=h.inv.2.2.1
theorem FmFit.txt{f:Fm}(h:FmFit f):f.s.size≤140737488351232:=h.inv.2.2.2.1
theorem FmFit.kl{f:Fm}(h:FmFit f):f.ks.length≤1466015503658:=h.inv.2.2.2.2.1
theorem A2h(f:Fm):F5 f≤J3 f:=by
 induction f using S6 with
 |h o n l s ks d=>
  rw[F5,J3];have key: ∀m:List Fm,(∀k∈m,F5 k≤J3 k)→F5.nodesL m≤J3.wtL m:=by
   intro m
   induction m with
   |nil=>intro _;simp[F5.nodesL]
   |cons f fs d=>intro h;rw[F5.nodesL,J3.wtL];have:=d (fun k hk=>h k (D0s _ hk));have:=h f (D0l ..);omega
  have:=key ks d;omega
def foldF{σ :Type}(step: σ →Fm→Int→ σ):Fm→Int→ σ → σ
 | .mk o n l s ks,d,a=>foldK step ks (IntKind.i64.wrap (d+1)) (step a (.mk o n l s ks) d)
where foldK {σ :Type} (step: σ →Fm→Int→ σ):List Fm→Int→ σ → σ
 | [],_,a=>a
 |f::fs,d,a=>foldK step fs d (foldF step f d a)
theorem A2E{σ :Type}(step: σ →Fm→Int→ σ)(f:Fm)(d:Int)(a: σ):foldF step f d a=foldF.foldK step f.ks (IntKind.i64.wrap (d+1)) (step a f d):=by cases f;rw[foldF];rfl
theorem B4e{σ :Type}(step: σ →Fm→Int→ σ)(l m:List Fm)(d:Int)(a: σ):foldF.foldK step (l++m) d a=foldF.foldK step m d (foldF.foldK step l d a):=by
 induction l generalizing a with
 |nil=>rfl
 |cons f l e=>simp only[D1l,foldF.foldK,e]
theorem C3{σ :Type}(step: σ →Fm→Int→ σ)(l:List Fm)(i:Nat)(h:i<l.length)(d:Int)(a: σ):foldF.foldK step (l.take (i+1)) d a=foldF step l[i] d (foldF.foldK step (l.take i) d a):=by
 rw[D0t h,B4e];rfl
theorem B4f{σ :Type}(step: σ →Fm→Int→ σ)(I: σ →Prop)(m: ∀a g d,I a→I (step a g d)): ∀f d a,I a→I (foldF step f d a):=by
 intro f
 induction f using S6 with
 |h o n l s ks j=>
  intro d a h;rw[A2E];have e:=m _ (.mk o n l s ks) d h;revert e;generalize step a (.mk o n l s ks) d=b;show I b→I (foldF.foldK step ks _ b);generalize IntKind.i64.wrap (d+1)=d1;clear h
  induction ks generalizing b with
  |nil=>intro e;exact e
  |cons f fs i=>
   intro e;rw[foldF.foldK];exact i (fun k hk=>j k (D0s _ hk)) _ (j f (D0l ..) _ _ e)
def A0r(a:Int×Int)(_:Fm)(d:Int):Int×Int:=(IntKind.i64.wrap (a.1+1),max a.2 d)
theorem B6u: ∀(f:Fm) (d:Int) (a:Int×Int),0≤d→d+J3 f≤2000000→0≤a.1→a.1+J3 f≤2000000→foldF A0r f d a=(a.1+F5 f,max a.2 (d+N9 f-1)):=by
 intro f
 induction f using S6 with
 |h o n l s ks j=>
  intro d a p q r u;have hw:J3 (.mk o n l s ks)=1+l.t.length+J3.wtL ks:=K6 _;rw[hw]at q u;have x:IntKind.i64.wrap (d+1)=d+1:=A3 (by omega) (by omega);have e:IntKind.i64.wrap (a.1+1)=a.1+1:=A3 (by omega) (by omega);rw[A2E,F5,N9,x];have key: ∀(m:List Fm),(∀k∈m,k∈ks)→J3.wtL m≤J3.wtL ks→∀a:Int×Int,0≤a.1→a.1+J3.wtL m≤2000000→foldF.foldK A0r m (d+1) a=(a.1+F5.nodesL m,if m= []then a.2 else max a.2 (d+N9.deepL m)):=by
   intro m
   induction m with
   |nil=>intro _ _ a _ _;simp[foldF.foldK,F5.nodesL]
   |cons f fs i=>
    intro hm hl a y h1;rw[J3.wtL]at hl h1;have hn:=A2h f;rw[foldF.foldK,j f (hm f (D0l ..)) (d+1) a (by omega) (by omega) y (by omega),i (fun k hk=>hm k (D0s _ hk)) (by omega) _ (by simp only[];omega) (by simp only[];omega),F5.nodesL,N9.deepL];have h1:1≤N9 f:=by cases f;rw[N9];omega
    refine Prod.ext ?_ ?_
    ·show a.1+_+_=a.1+_;push_cast;omega
    ·simp only[reduceCtorEq,if_false];cases fs with
     |nil=>simp only[if_true,N9.deepL];push_cast;omega
     |cons g fs=>simp only[reduceCtorEq,if_false];push_cast;omega
  show foldF.foldK A0r ks (d+1) (A0r a _ d)=_;rw[key ks (fun _ h=>h) (D0u _) _ (by unfold A0r;simp only[e];omega) (by unfold A0r;simp only[e];omega)];unfold A0r;simp only[e];refine Prod.ext ?_ ?_
  ·show a.1+1+_=a.1+_;push_cast;omega
  ·cases ks with
   |nil=>simp only[if_true,N9.deepL];push_cast;omega
   |cons g fs=>simp only[reduceCtorEq,if_false];push_cast;omega
def A8s(p:Fm→Bool)(a:Bool)(f:Fm)(_:Int):Bool:=a&&p f
theorem B6v(p:Fm→Bool): ∀(f:Fm) (d:Int) (a:Bool),foldF (A8s p) f d a=(a&&I0 p f):=by
 intro f
 induction f using S6 with
 |h o n l s ks i=>
  intro d a;rw[A2E,I0];have key: ∀(m:List Fm),(∀k∈m,k∈ks)→∀(e:Int) (a:Bool),foldF.foldK (A8s p) m e a=(a&&I0.allK p m):=by
   intro m
   induction m with
   |nil=>intro _ e a;simp[foldF.foldK,I0.allK]
   |cons f fs g=>
    intro hm e a;rw[foldF.foldK,i f (hm f (D0l ..)),g (fun k hk=>hm k (D0s _ hk)),I0.allK,Bool.and_assoc]
  show foldF.foldK (A8s p) ks _ (A8s p a _ d)=_;rw[key ks (fun _ h=>h)];unfold A8s;rw[Bool.and_assoc]
theorem A1d(p:Fm→Bool)(f:Fm):I0 p f=(p f&&f.ks.all (I0 p)):=by
 cases f with
 |mk o n l s ks=>
  rw[I0]
  congr 1
  show I0.allK p ks=ks.all (I0 p)
  induction ks with
  |nil=>rfl
  |cons f fs d=>rw[I0.allK,d,D1d]
theorem A3r(f:Fm)(d:Nat):(N9 f≤d)↔1≤d∧∀k∈f.ks,N9 k≤d-1:=by
 cases f with
 |mk o n l s ks=>
  rw[N9];have key: ∀(m:List Fm) (e:Nat),N9.deepL m≤e↔∀k∈m,N9 k≤e:=by
   intro m e
   induction m with
   |nil=>simp[N9.deepL]
   |cons f fs g=>rw[N9.deepL,List.forall_mem_cons,←g];omega
  show _↔1≤d∧∀k∈ks,_;rw[←key];omega
theorem B4g(f:Fm):F5 f=1+F5.nodesL f.ks:=by cases f;rw[F5];rfl
theorem B16(l m:List Fm):F5.nodesL (l++m)=F5.nodesL l+F5.nodesL m:=by
 induction l with
 |nil=>simp[F5.nodesL]
 |cons f l d=>simp only[D1l,F5.nodesL,d];omega
theorem A2i(l:List Fm)(i:Nat)(h:i<l.length):F5.nodesL (l.take (i+1))=F5.nodesL (l.take i)+F5 l[i]:=by
 rw[D0t h,B16];simp[F5.nodesL]
theorem B4h(l:List Fm):F5.nodesL l≤J3.wtL l:=by
 induction l with
 |nil=>simp[F5.nodesL]
 |cons f l d=>rw[F5.nodesL,J3.wtL];have:=A2h f;omega
def D3:Fm→List ByteArray
 | .mk _ _ l _ ks=>l.t.map (·.v)++intsL ks
where intsL:List Fm→List ByteArray
 | []=>[]
 |f::fs=>D3 f++intsL fs
def C5:Fm→List ByteArray
 | .mk o _ _ s ks=>(if o=3 then [s]else [])++boolsL ks
where boolsL:List Fm→List ByteArray
 | []=>[]
 |f::fs=>C5 f++boolsL fs
theorem A6U(f:Fm):D3 f=f.l.t.map (·.v)++D3.intsL f.ks:=by cases f;rw[D3];rfl
theorem A4d(f:Fm):C5 f=(if f.op=3 then [f.s]else [])++C5.boolsL f.ks:=by cases f;rw[C5];rfl
theorem B4i(l m:List Fm):D3.intsL (l++m)=D3.intsL l++D3.intsL m:=by
 induction l with
 |nil=>rfl
 |cons f l d=>simp only[D1l,D3.intsL,d,D1O]
theorem B17(l m:List Fm):C5.boolsL (l++m)=C5.boolsL l++C5.boolsL m:=by
 induction l with
 |nil=>rfl
 |cons f l d=>simp only[D1l,C5.boolsL,d,D1O]
theorem Q7(l:List Fm)(i:Nat)(h:i<l.length):D3.intsL (l.take (i+1))=D3.intsL (l.take i)++D3 l[i]:=by
 rw[D0t h,B4i];simp[D3.intsL]
theorem O7(l:List Fm)(i:Nat)(h:i<l.length):C5.boolsL (l.take (i+1))=C5.boolsL (l.take i)++C5 l[i]:=by
 rw[D0t h,B17];simp[C5.boolsL]
theorem A3s(f:Fm):(D3 f).length+(C5 f).length≤J3 f:=by
 induction f using S6 with
 |h o n l s ks d=>
  rw[D3,C5,J3];have key: ∀m:List Fm,(∀k∈m,(D3 k).length+(C5 k).length≤J3 k)→(D3.intsL m).length+(C5.boolsL m).length≤J3.wtL m:=by
   intro m
   induction m with
   |nil=>intro _;simp[D3.intsL,C5.boolsL]
   |cons f fs d=>intro h;rw[D3.intsL,C5.boolsL,J3.wtL,D0g,D0g];have:=d (fun k hk=>h k (D0s _ hk));have:=h f (D0l ..);omega
  have:=key ks d;simp only[D0g,D1J];split<;>simp<;>omega
theorem A7t(l:List Fm):(D3.intsL l).length+(C5.boolsL l).length≤J3.wtL l:=by
 induction l with
 |nil=>simp[D3.intsL,C5.boolsL]
 |cons f fs d=>rw[D3.intsL,C5.boolsL,J3.wtL,D0g,D0g];have:=A3s f;omega
theorem B4j{f:Fm}(h:FmFit f): ∀s∈D3 f,s.size≤140737488351232:=by
 induction f using S6 with
 |h o n l s ks e=>
  rw[D3];intro x hx;rcases D00.1 hx with hx|hx
  ·obtain⟨t,g,rfl⟩:=D1Y.1 hx;exact h.lin.str t g
  ·have key: ∀m:List Fm,(∀k∈m,k∈ks)→∀s∈D3.intsL m,s.size≤140737488351232:=by
    intro m
    induction m with
    |nil=>intro _ s hs;cases hs
    |cons f fs d=>
     intro hm s hs;rcases D00.1 hs with hs|hs
     ·exact e f (hm f (D0l ..)) (h.kid (hm f (D0l ..))) s hs
     ·exact d (fun k hk=>hm k (D0s _ hk)) s hs
   exact key ks (fun _ h=>h) x hx
theorem B18{f:Fm}(h:FmFit f): ∀s∈C5 f,s.size≤140737488351232:=by
 induction f using S6 with
 |h o n l s ks e=>
  rw[C5];intro x hx;rcases D00.1 hx with hx|hx
  ·split at hx
   ·rw[D01]at hx;subst hx;exact h.txt
   ·cases hx
  ·have key: ∀m:List Fm,(∀k∈m,k∈ks)→∀s∈C5.boolsL m,s.size≤140737488351232:=by
    intro m
    induction m with
    |nil=>intro _ s hs;cases hs
    |cons f fs d=>
     intro hm s hs;rcases D00.1 hs with hs|hs
     ·exact e f (hm f (D0l ..)) (h.kid (hm f (D0l ..))) s hs
     ·exact d (fun k hk=>hm k (D0s _ hk)) s hs
   exact key ks (fun _ h=>h) x hx
theorem B0t: ∀(f:Fm) (p:List ByteArray×List ByteArray),A0p f p=((D3 f).foldl E9 p.1,(C5 f).foldl E9 p.2):=by
 intro f
 induction f using S6 with
 |h o n l s ks e=>
  rintro⟨a,b⟩;rw[A0p,D3,C5];have key: ∀m:List Fm,(∀k∈m,k∈ks)→∀p,A0p.namesK m p=((D3.intsL m).foldl E9 p.1,(C5.boolsL m).foldl E9 p.2):=by
   intro m
   induction m with
   |nil=>intro _ p;rfl
   |cons f fs d=>
    intro hm p;rw[A0p.namesK,d (fun k hk=>hm k (D0s _ hk)),e f (hm f (D0l ..)),D3.intsL,C5.boolsL,D1S,D1S]
  rw[key ks (fun _ h=>h),D1S,D1S];refine Prod.ext rfl ?_;show List.foldl E9 (if o=3 then E9 b s else b) _=_;split<;>rfl
noncomputable def A5J(a:List ByteArray×List ByteArray)(f:Fm)(_:Int):List ByteArray×List ByteArray:=((f.l.t.map (·.v)).foldl I8 a.1,if f.op=3 then I8 a.2 f.s else a.2)
theorem B6w: ∀(f:Fm) (d:Int) (p:List ByteArray×List ByteArray),foldF A5J f d p=((D3 f).foldl I8 p.1,(C5 f).foldl I8 p.2):=by
 intro f
 induction f using S6 with
 |h o n l s ks i=>
  rintro d ⟨a,b⟩;rw[A2E,D3,C5];have key: ∀m:List Fm,(∀k∈m,k∈ks)→∀(e:Int) p,foldF.foldK A5J m e p=((D3.intsL m).foldl I8 p.1,(C5.boolsL m).foldl I8 p.2):=by
   intro m
   induction m with
   |nil=>intro _ e p;rfl
   |cons f fs g=>
    intro hm e p;rw[foldF.foldK,g (fun k hk=>hm k (D0s _ hk)),i f (hm f (D0l ..)),D3.intsL,C5.boolsL,D1S,D1S]
  show foldF.foldK A5J ks _ _=_;rw[key ks (fun _ h=>h),D1S,D1S];refine Prod.ext rfl ?_;show List.foldl I8 (if o=3 then I8 b s else b) _=_;split<;>rfl
def upS(l:List ByteArray):List ByteArray:=l.foldl E9 []
theorem A8t(l:List ByteArray):(upS l).Pairwise fun x y=>S4 x y=true:=B0G _ _ .nil
theorem Q3(l:List ByteArray)(x:ByteArray):x∈upS l↔x∈l:=by unfold upS;rw[A7R];simp
noncomputable def J7(l:List ByteArray):List ByteArray:=l.foldl I8 []
theorem A1e(l:List ByteArray):(J7 l).Nodup:=V0 _ _ List.nodup_nil
theorem G6(l:List ByteArray)(x:ByteArray):x∈J7 l↔x∈l:=by unfold J7;rw[Go.Lin.A7l];simp
theorem B6x{l:List ByteArray}(h:l.Pairwise fun x y=>S4 x y=true):l.Nodup:=h.imp fun {a b} g e=>by subst e;rw[u0]at g;cases g
theorem A3t(l:List ByteArray):(J7 l).length=(upS l).length:=((List.perm_ext_iff_of_nodup (A1e l) (B6x (A8t l))).2 fun x=>by rw[G6,Q3]).length_eq
theorem A5Z(l:List ByteArray):(J7 l).length≤l.length:=by have:=A7m l [];simpa [J7]using this
theorem A1C(l m:List ByteArray):meetL l m=true↔∃x,x∈l∧x∈m:=by
 unfold meetL;simp only[List.any_eq_true,D0w];constructor
 ·rintro⟨x,hx,y,d,rfl⟩;exact⟨x,hx,d⟩
 ·rintro⟨x,hx,d⟩;exact⟨x,hx,x,d,rfl⟩
theorem A1f{l m l' m':List ByteArray}(h1: ∀x,x∈l↔x∈l')(d: ∀x,x∈m↔x∈m'):meetL l m=meetL l' m':=by
 rw[Bool.eq_iff_iff,A1C,A1C];exact exists_congr fun x=>by rw[h1,d]
def ivF(f:Fm):List ByteArray:=upS (D3 f)
def V6(f:Fm):List ByteArray:=upS (C5 f)
theorem B19(f:Fm):A0p f ([],[])=(ivF f,V6 f):=B0t f _
theorem y4(f:Fm):E8 f=(I0 D6 f&&decide (N9 f≤60)&&decide (F5 f≤200)&& !meetL (ivF f) (V6 f)&&decide ((ivF f).length+(V6 f).length≤12)):=by
 unfold E8;rw[B19]
@[go_sem] theorem m0(o n:Int)(l:LinV)(s:ByteArray)(ks:List Fm):C1 (.mk o n l s ks)= [.int .i64 o,.int .i64 n,.sl 2 (Rw S1 l.t),.int .i64 l.k,.bool l.e,.str s,.sl 7 (Rw C1 ks)]:=N7 _
@[go_sem] theorem B9b(f:Fm):(C1 f).length=7:=by rw[N7];rfl
@[go_sem] theorem C6w(f:Fm):(C1 f).take 7=C1 f:=by rw[N7];rfl
theorem B9c(f:Fm):(C1 f).all D.one=true:=by rw[N7];rfl
attribute [go_sem] B9c
@[go_sem] theorem C97(f:Fm):(C1 f).head?=some (.int .i64 f.op):=by rw[N7];rfl
@[go_sem] theorem C98(f:Fm):((C1 f).drop 1).head?=some (.int .i64 f.n):=by rw[N7];rfl
@[go_sem] theorem C99(f:Fm):((C1 f).drop 2).head?=some (.sl 2 (Rw S1 f.l.t)):=by rw[N7];rfl
@[go_sem] theorem D0A(f:Fm):((C1 f).drop 3).head?=some (.int .i64 f.l.k):=by rw[N7];rfl
@[go_sem] theorem D0B(f:Fm):((C1 f).drop 4).head?=some (.bool f.l.e):=by rw[N7];rfl
@[go_sem] theorem D0C(f:Fm):((C1 f).drop 5).head?=some (.str f.s):=by rw[N7];rfl
@[go_sem] theorem D0D(f:Fm):((C1 f).drop 6).head?=some (.sl 7 (Rw C1 f.ks)):=by rw[N7];rfl
@[go_sem] theorem D0E(f:Fm):((C1 f).drop 2).take 3=D9 f.l:=by rw[N7];rfl
@[go_sem] theorem B9d(a b c d e f g:D)(t:Fm):P4 [a,b,c,d,e,f,g] 0 (C1 t)=C1 t:=by rw[N7];rfl
theorem B2A{g h j m o p q r u:D}(x:NilR j m)(y:NilR r u):NilR (.agg [g,h,j,o,p,q,r]) (.agg [g,h,m,o,p,q,u]):=by
 refine .agg _ _ rfl fun i d d' h1 e=>?_
 match i with
 |0=>cases h1;cases e;exact .same _
 |1=>cases h1;cases e;exact .same _
 |2=>cases h1;cases e;exact x
 |3=>cases h1;cases e;exact .same _
 |4=>cases h1;cases e;exact .same _
 |5=>cases h1;cases e;exact .same _
 |6=>cases h1;cases e;exact y
 |i+7=>cases h1
theorem C3U{x y z:D}(h:NilR x y):NilR (.tuple [x,z]) (.tuple [y,z]):=by
 refine .tuple _ _ rfl fun i d d' h1 e=>?_
 match i with
 |0=>cases h1;cases e;exact h
 |1=>cases h1;cases e;exact .same _
 |i+2=>cases h1
theorem A4e(o n k:Int)(e:Bool)(s:ByteArray):NilR (.agg [.int .i64 o,.int .i64 n,.nilsl,.int .i64 k,.bool e,.str s,.nilsl]) (.agg (C1 (.mk o n ⟨[],k,e⟩ s []))):=by
 rw[m0];exact B2A (.nil 2) (.nil 7)
theorem B2B(o n k:Int)(e:Bool)(s:ByteArray)(ks:List Fm):NilR (.agg [.int .i64 o,.int .i64 n,.nilsl,.int .i64 k,.bool e,.str s,.sl 7 (Rw C1 ks)]) (.agg (C1 (.mk o n ⟨[],k,e⟩ s ks))):=by
 rw[m0];exact B2A (.nil 2) (.same _)
theorem C3V(o n:Int)(l:LinV)(s:ByteArray):NilR (.agg [.int .i64 o,.int .i64 n,.sl 2 (Rw S1 l.t),.int .i64 l.k,.bool l.e,.str s,.nilsl]) (.agg (C1 (.mk o n l s []))):=by
 rw[m0];exact B2A (.same _) (.nil 7)
theorem fz7{b sz:Nat}{es:List (List D)}{g h j m o p q r u:D}(x:Fz b sz es j m)(y:Fz b sz es r u): ∀(i:Nat) d d',[g,h,j,o,p,q,r][i]? =some d→[g,h,m,o,p,q,u][i]? =some d'→Fz b sz es d d':=by
 intro i d d' h1 e
 match i with
 |0=>cases h1;cases e;exact .same _
 |1=>cases h1;cases e;exact .same _
 |2=>cases h1;cases e;exact x
 |3=>cases h1;cases e;exact .same _
 |4=>cases h1;cases e;exact .same _
 |5=>cases h1;cases e;exact .same _
 |6=>cases h1;cases e;exact y
 |i+7=>cases h1
theorem A8u{Q:D→Heap→Prop}{H:Heap}{n:Nat}{ob:Option Nat}{o m k:Int}{e:Bool}{s:ByteArray}{ks:List Fm}(hn:n=ks.length)(ho:OutAt H 7 (Rw C1 ks) ob)(h:Fin Q (.agg (C1 (.mk o m ⟨[],k,e⟩ s ks))) (K1 H ob)):
  Fin Q (.agg [.int .i64 o,.int .i64 m,.nilsl,.int .i64 k,.bool e,.str s,H6 7 n ob]) H:=by
 rw[m0]at h;cases ob with
 |none=>
  have d:Rw C1 ks= []:=ho;refine E5 ?_ h;rw[d];exact B2A (.nil 2) (.nil 7)
 |some b=>
  have hb:H b=some (.vec 7 (Rw C1 ks)):=ho;subst hn;refine V5 (cs':=[.int .i64 o,.int .i64 m,.sl 2 [],.int .i64 k,.bool e,.str s,.sl 7 (Rw C1 ks)]) hb rfl (fz7 (.nil 2) ?_) h;show Fz b 7 (Rw C1 ks) (.vec b 7 0 ks.length) _;have:=Fz.all (b:=b) (sz:=7) (es:=Rw C1 ks);rwa [D5]at this
theorem B9e{H:Heap}{n:Nat}{ob:Option Nat}{o m k:Int}{e:Bool}{s:ByteArray}{ks:List Fm}(hn:n=ks.length)(ho:OutAt H 7 (Rw C1 ks) ob):
  View H (.agg [.int .i64 o,.int .i64 m,.nilsl,.int .i64 k,.bool e,.str s,H6 7 n ob]) (.agg (C1 (.mk o m ⟨[],k,e⟩ s ks))):=by
 rw[m0];refine .agg _ _ rfl fun i d d' h1 g=>?_
 match i with
 |0=>cases h1;cases g;exact .same _
 |1=>cases h1;cases g;exact .same _
 |2=>cases h1;cases g;exact .nil 2
 |3=>cases h1;cases g;exact .same _
 |4=>cases h1;cases g;exact .same _
 |5=>cases h1;cases g;exact .same _
 |6=>
  cases h1;cases g;cases ob with
  |none=>rw[show Rw C1 ks= []from ho];exact .nil 7
  |some b=>exact .vec b 7 n _ _ ho (by rw[D5];exact hn) rfl (fun i e e' h1 g=>by rw[h1]at g;cases g;rfl) (fun i e e' j d d' h1 g p h=>by rw[h1]at g;cases g;rw[p]at h;cases h;exact .same _)
 |i+7=>cases h1
end Go.Fo
namespace Go.Proofs.YtibphjonmikciaaGreatDoor
section
open Go Go.Shelf Go.RowKit
set_option maxHeartbeats 4000000 in
set_option maxRecDepth 100000 in
theorem B9f(n:Nat)(hn:0<n)(hb:n*96≤140737488355328)(w:World):
  Calls Tryz.prog 190 #[.slice none 0 0,.int .i64 n] w fun e w'=>∃(cs:Array Value) (G:Nat),e= .returned (.slice (some ⟨w.heap.size,0,none⟩) 0 G)∧w'=w.drew.alloc (.cells cs 28)∧cs.size=G*7∧n≤G:=by
 obtain⟨i,m,y,hs,o⟩: ∃i,Tryz.prog.info? 28=some i∧i.zero=some (Value.agg #[.int .i64 0,.int .i64 0,.slice none 0 0,.int .i64 0,.bool false,.string ⟨#[]⟩,.slice none 0 0])∧i.size=7∧i.bytes=96:=by
  have h:(Tryz.prog.info? 28).map (fun i=>(i.zero,i.size,i.bytes))=some (some (Value.agg #[.int .i64 0,.int .i64 0,.slice none 0 0,.int .i64 0,.bool false,.string ⟨#[]⟩,.slice none 0 0]),7,96):=by kernel_rfl
  obtain⟨i,m,e⟩:=D0j.1 h;simp only[Prod.mk.injEq]at e;exact⟨i,m,e.1,e.2.1,e.2.2⟩
 have p:Tryz.prog.follows .mixedOrders=true:=by kernel_rfl
 have r:=Tryz.underlying26;have a1:=Tryz.isAgg26;have C:=Tryz.sizeOf26;have v1:=Tryz.zeroValue26;have I:=run_underlying r;have u:=Tryz.underlying3;have a3:=Tryz.isAgg3;have J:=Tryz.sizeOf3;have v3:=Tryz.zeroValue3;have L:=run_underlying u;have z:=Tryz.underlying4;have M:=Tryz.isAgg4;have O:=Tryz.sizeOf4;have v4:=Tryz.zeroValue4;have T:=run_underlying z;have A:=Tryz.underlying28;have U:=Tryz.isAgg28;have V:=Tryz.sizeOf28;have W:=Tryz.zeroValue28;have X:=run_underlying A;have h1: ¬((n:Int)<0):=by omega
 have Y:RowKit.wrap64 ((n:Int)-0)=(n:Int):=by unfold RowKit.wrap64;omega
 have h4:(n:Int) > 0:=by omega
 have d:=Lib.run_append_nil_zeros w 26 3 26 28 i _ .i64 .i64 r u m y n hn (by omega) (by omega) (by rw[o];omega);obtain⟨G,q⟩: ∃G,G=grownCap w n 0 28:=⟨_,rfl⟩
 have j:n≤grownCap w n 0 28:=grownCap_ge w _ _ _;have x:G≤9223372036854775807:=by
  have:=grownCap_le_maxLen w n 0 28 (by unfold maxLen;omega);rw[←q]at this;unfold maxLen at this;omega
 rw[←q]at d j;obtain⟨cs,g⟩: ∃cs,cs=Builtin.zeroCells (Value.agg #[.int .i64 0,.int .i64 0,.slice none 0 0,.int .i64 0,.bool false,.string ⟨#[]⟩,.slice none 0 0]).cells n++Builtin.zeroCells (Value.agg #[.int .i64 0,.int .i64 0,.slice none 0 0,.int .i64 0,.bool false,.string ⟨#[]⟩,.slice none 0 0]).cells (G-n):=⟨_,rfl⟩
 have hsz:cs.size=G*7:=by
  rw[g,Array.size_append,size_zeroCells,size_zeroCells];show n*7+(G-n)*7=G*7;omega
 rw[←g]at d;clear q g
 go_enter Tryz.func190,Tryz.ntmps190
 go_wp2_with (at_builtin;refine Lib.wpList_append_run _ rfl _ _ _ _ rfl _ _ rfl rfl _ _ d ?_)
 all_goals (go_ret;exact⟨cs,G,rfl,rfl,by first|exact hsz|simpa using hsz,j⟩)
end
section
open Go Go.Av Go.Lin Go.Fo
theorem B6y{Q}(H:Heap)(d:Q .nilsl H):D8 190 [.nilsl,.int .i64 0] H Q:=by
 refine A9 [] A5 Tryz.func190 rfl ?_;simp only[go_sem,seval,Tryz.results190];repeat' (first|with_reducible apply D0a|simp only[go_sem,seval]|simp(disch:=omega) only[A3,C3])
 all_goals exact D15 d
theorem B3S{Q}(n:Nat)(hb:n*96≤140737488355328)(H:Heap)(o:n=0→Q .nilsl H)(h:n≠0→∀b,H b=none→Q (.vec b 7 0 0) (H.set b (.vec 7 []))):D8 190 [.nilsl,.int .i64 n] H Q:=by
 by_cases hn:n=0
 ·subst hn;exact B6y H (o rfl)
 ·refine⟨by kernel_rfl,fun w vs hl hr hs=>?_⟩;obtain⟨a,b,rfl,p,g⟩:=A0N hl hr;have q:a= .slice none 0 0:=by cases p;rfl
  rw[q,g.int_inv];refine(B9f n (by omega) hb w).mono ?_;rintro e w' ⟨cs,G,rfl,rfl,hsz,r⟩;have m:=hs.same (w':=w.drew) rfl (Ext.drewN H w 1);obtain⟨d,H',u,x,y,z,A⟩:=z7 (w:=w.drew) (K:=Q) m (sz:=7) (es:=[]) (vs:=cs) 28 0 G (by omega) ⟨by simp,fun i e he=>by simp at he,fun i e j d he=>by simp at he,fun i e j d he=>by simp at he⟩ (D0v _) hsz (fun b hb=>h hn b hb);exact⟨_,rfl,d,H',u,x,(Ext.drewN H w 1).trans (D17 _ _) y,z,A⟩
theorem A7u{Q}(l m:List Fm)(hb:(l.length+m.length)*96≤140737488355328)(H:Heap)(h:Q (.sl 7 (Rw C1 (l++m))) H):D8 153 [.sl 1 [[.sl 7 (Rw C1 l)],[.sl 7 (Rw C1 m)]]] H Q:=by
 refine A9 [] A5 Tryz.func153 rfl ?_;simp only[go_sem,seval,Tryz.results153];refine C4 [0,9,10] (fun(p:Nat×Int)=>[(11,.int .i64 p.1),(3,.int .i64 p.2)]) (fun(p:Nat×Int)=>H) (fun(p:Nat×Int)=>p.1≤2∧(p.1=0→p.2=0)∧(p.1=1→p.2=l.length)∧(p.1=2→p.2=(l.length:Int)+m.length)) (fun(p:Nat×Int)=>2-p.1) ((0,0)) (⟨by simp,by simp,by simp,by simp⟩) (by(try simp only[go_sem,seval])<;>(try simp(disch:=omega) [A3])) (by first|exact D11 _|exact A0 (by assumption)|exact B2 (by assumption)|simp only[Heap.Le,Heap.set,Heap.del]at* <;>grind) ?_;rintro y rfl ⟨k,z⟩ ⟨o,g,i,j⟩;simp only at o g i j
 match k,o,g,i,j with
 |0,o,g,i,j=>
  have q:=g rfl;subst q;repeat' (first|with_reducible apply D0a|simp only[go_sem,seval,D09]|simp(disch:=omega) only[A3,C3]|intro d|omega)
  exact C2 (1,(l.length:Int)) ⟨by simp,by simp,by simp,by simp⟩ (by simp) (by(try simp only[go_sem,seval])<;>(try simp(disch:=omega) [A3])) (D11 _)
 |1,o,g,i,j=>
  have q:=i rfl;subst q;repeat' (first|with_reducible apply D0a|simp only[go_sem,seval,D09,D1A]|simp(disch:=omega) only[A3,C3]|intro d|omega)
  exact C2 (2,(l.length:Int)+m.length) ⟨by simp,by simp,by simp,by simp⟩ (by simp) (by(try simp only[go_sem,seval])<;>(try simp(disch:=omega) [A3])) (D11 _)
 |2,o,g,i,j=>
  have q:=j rfl;subst q;have A:(l.length:Int)+m.length=((l.length+m.length:Nat):Int):=by omega
  by_cases r:l.length+m.length=0
  ·have el:l= []:=D0y (by omega);have C:m= []:=D0y (by omega);subst el;subst C;repeat' (first|with_reducible apply D0a|simp only[go_sem,seval,A]|intro d|omega)
   refine B3S 0 (by omega) H (fun _=>?_) (fun e=>absurd rfl e);repeat' simp only[go_sem,seval]
   refine C4 [25,26] (fun(k:Nat)=>[(27,.int .i64 k),(6,.nilsl)]) (fun(k:Nat)=>H) (fun(k:Nat)=>k≤2) (fun(k:Nat)=>2-k) (0) (by omega) (by(try simp only[go_sem,seval])<;>(try simp(disch:=omega) [A3])) (by first|exact D11 _|exact A0 (by assumption)|exact B2 (by assumption)|simp only[Heap.Le,Heap.set,Heap.del]at* <;>grind) ?_;rintro y rfl k hk
   match k,hk with
   |0,_=>
    repeat' (first|with_reducible apply D0a|simp only[go_sem,seval,D09,A0n]|simp(disch:=omega) only[A3,C3]|intro d|omega)
    exact C2 1 (by omega) (by omega) (by(try simp only[go_sem,seval])<;>(try simp(disch:=omega) [A3])) (D11 _)
   |1,_=>
    repeat' (first|with_reducible apply D0a|simp only[go_sem,seval,D09,D1A,A0n]|simp(disch:=omega) only[A3,C3]|intro d|omega)
    exact C2 2 (by omega) (by omega) (by(try simp only[go_sem,seval])<;>(try simp(disch:=omega) [A3])) (D11 _)
   |2,_=>
    repeat' (first|with_reducible apply D0a|simp only[go_sem,seval]|intro d|omega)
    exact Fin.out (n:=0) (ob:=none) rfl rfl (D12 (D11 _) h)
   |k+3,hk=>omega
  repeat' (first|with_reducible apply D0a|simp only[go_sem,seval,A]|intro d|omega)
  refine B3S _ hb H (fun e=>absurd e r) fun _ b u=>?_;repeat' simp only[go_sem,seval]
  refine C4 [25,26] (fun(p:Nat×Nat×List Fm)=>[(27,.int .i64 p.1),(6,.vec p.2.1 7 0 p.2.2.length)]) (fun(p:Nat×Nat×List Fm)=>H.set p.2.1 (.vec 7 (Rw C1 p.2.2))) (fun(p:Nat×Nat×List Fm)=>p.1≤2∧H p.2.1=none∧(p.1=0→p.2.2= [])∧(p.1=1→p.2.2=l)∧(p.1=2→p.2.2=l++m)) (fun(p:Nat×Nat×List Fm)=>2-p.1) ((0,b,[])) (⟨by simp,u,by simp,by simp,by simp⟩) (by(try simp only[go_sem,seval])<;>(try simp(disch:=omega) [A3])) (by first|exact D11 _|exact A0 (by assumption)|exact B2 (by assumption)|simp only[Heap.Le,Heap.set,Heap.del]at* <;>grind) ?_;rintro y rfl ⟨k,c,X⟩ ⟨o,hc,g,i,j⟩;simp only at o hc g i j
  match k,o,g,i,j with
  |0,o,g,i,j=>
   have q:=g rfl;subst q;repeat' (first|with_reducible apply D0a|simp only[go_sem,seval,D09,E3 hc]|simp(disch:=omega) only[A3,C3]|intro d|omega)
   rename_i x;exact C2 (1,x,l) ⟨by simp,d,by simp,by simp,by simp⟩ (by simp) (by(try simp only[go_sem,seval])<;>(try simp(disch:=omega) [A3])) (D11 _)
  |1,o,g,i,j=>
   have q:=(i rfl).symm;subst q;repeat' (first|with_reducible apply D0a|simp only[go_sem,seval,D09,D1A,E3 hc]|simp(disch:=omega) only[A3,C3]|intro d|omega)
   rename_i x;exact C2 (2,x,l++m) ⟨by simp,d,by simp,by simp,by simp⟩ (by simp) (by(try simp only[go_sem,seval,D0g])<;>(try simp(disch:=omega) [A3])) (by simp only[];rw[←O4,D0p (by rw[D5];exact D0u _)];exact D11 _)
  |2,o,g,i,j=>
   have q:=j rfl;subst q;repeat' (first|with_reducible apply D0a|simp only[go_sem,seval]|intro d|omega)
   exact Fin.out (ob:=some c) (by rw[D5,D0g]) (A2 _ _) (D12 (by show H.Le ((H.set c _).del c);rw[E3 hc];exact D11 _) h)
end
end Go.Proofs.YtibphjonmikciaaGreatDoor
namespace Go.Fo
open Go Go.Av Go.Lin
@[go_sem] theorem D0F(o n:Int)(l:LinV)(s:ByteArray)(ks:List Fm):(Fm.mk o n l s ks).op=o:=rfl
@[go_sem] theorem D0R(o n:Int)(l:LinV)(s:ByteArray)(ks:List Fm):(Fm.mk o n l s ks).n=n:=rfl
@[go_sem] theorem D0S(o n:Int)(l:LinV)(s:ByteArray)(ks:List Fm):(Fm.mk o n l s ks).l=l:=rfl
@[go_sem] theorem D0T(o n:Int)(l:LinV)(s:ByteArray)(ks:List Fm):(Fm.mk o n l s ks).s=s:=rfl
@[go_sem] theorem D0G(o n:Int)(l:LinV)(s:ByteArray)(ks:List Fm):(Fm.mk o n l s ks).ks=ks:=rfl
end Go.Fo
namespace Go.Fo
open Go Go.Av Go.Lexs Go.Lin
structure AH(sz:Nat)(Cs:Heap)(bx:Nat)(ac:D→List D)(es:List (List D))(n:Nat)(ob:Option Nat)(Hp:Heap):Prop where
 box:Hp bx=some (.box (ac (H6 sz n ob)))
 out:OutAt Hp sz es ob
 keep: ∀q o,q≠bx→Cs q=some o→Hp q=some o
 fresh: ∀b,ob=some b→Cs b=none∧b≠bx
theorem A2O{sz:Nat}{Cs:Heap}{bx:Nat}{ac:D→List D}(h:Cs bx=some (.box (ac .nilsl))):AH sz Cs bx ac [] 0 none Cs:=⟨h,rfl,fun _ _ _ h=>h,fun _ e=>by cases e⟩
theorem AH.ne7{sz:Nat}{Cs:Heap}{bx:Nat}{ac:D→List D}{es:List (List D)}{n:Nat}{ob:Option Nat}{Hp:Heap}(h:AH sz Cs bx ac es n ob Hp){b:Nat}(hb:Hp b=none):bx≠b:=fun e=>by rw[←e,h.box]at hb;cases hb
theorem AH.at7{sz:Nat}{Cs:Heap}{bx:Nat}{ac:D→List D}{es:List (List D)}{n:Nat}{ob:Option Nat}{Hp:Heap}(h:AH sz Cs bx ac es n ob Hp){b:Nat}(hb:Hp b=none)(o:Av.Obj):(Hp.set b o) bx=some (.box (ac (H6 sz n ob)))∧(Hp.set b o) b=some o∧OutAt (Hp.set b o) sz es ob∧∀c,ob=some c→c≠b:=by
 refine⟨by rw[A4 _ (h.ne7 hb)];exact h.box,A2 _ _,?_,fun c e g=>?_⟩
 ·cases ob with
  |none=>exact h.out
  |some c=>
   have hc:Hp c=some _:=h.out;have:c≠b:=fun e=>by rw[e,hb]at hc;cases hc
   show (Hp.set b o) c=_;rw[A4 _ this];exact hc
 ·subst e;have hc:Hp c=some _:=h.out;rw[g,hb]at hc;cases hc
theorem AH.step{sz:Nat}{Cs:Heap}{bx:Nat}{ac:D→List D}{es:List (List D)}{n:Nat}{ob:Option Nat}{Hp:Heap}(h:AH sz Cs bx ac es n ob Hp){b d:Nat}(hb:Hp b=none)(o:Av.Obj)(j:K1 (Hp.set b o) ob d=none)(c:List D):
  d≠bx∧((K1 (Hp.set b o) ob).set d (.vec sz (es++[c]))) bx=some (.box (ac (H6 sz n ob)))∧AH sz Cs bx ac (es++[c]) (n+1) (some d) (((K1 (Hp.set b o) ob).set d (.vec sz (es++[c]))).set bx (.box (ac (.vec d sz 0 (n+1))))):=by
 obtain⟨x,z,A,C⟩:=h.at7 hb o;have y:K1 (Hp.set b o) ob bx=some (.box (ac (H6 sz n ob))):=by
  cases ob with
  |none=>exact x
  |some q=>
   have:=(h.fresh q rfl).2;show Heap.del _ q bx=_;rw[F1 this.symm];exact x
 have i:d≠bx:=fun e=>by rw[e,y]at j;cases j
 have hk: ∀q o',q≠bx→Cs q=some o'→K1 (Hp.set b o) ob q=some o':=fun q o' hq m=>by
  have h1:=h.keep q o' hq m;have p:q≠b:=fun e=>by rw[e,hb]at h1;cases h1
  cases ob with
  |none=>show (Hp.set b o) q=_;rw[A4 _ p];exact h1
  |some r=>
   have u:q≠r:=fun e=>by have:=(h.fresh r rfl).1;rw[←e,m]at this;cases this
   show Heap.del _ r q=_;rw[F1 u,A4 _ p];exact h1
 refine⟨i,by rw[A4 _ i.symm];exact y,A2 _ _,?_,fun q o' hq m=>?_,fun q e=>?_⟩
 ·show (Heap.set _ bx _) d=_;rw[A4 _ i];exact A2 _ _
 ·have h1:=hk q o' hq m;have p:q≠d:=fun e=>by rw[e,j]at h1;cases h1
  rw[A4 _ hq,A4 _ p];exact h1
 ·cases e;refine⟨?_,i⟩;cases g:Cs d with
  |none=>rfl
  |some o'=>have:=hk d o' i g;rw[j]at this;cases this
theorem AH.more{sz:Nat}{Cs:Heap}{bx:Nat}{ac:D→List D}{es:List (List D)}{n:Nat}{ob:Option Nat}{Hp:Heap}(h:AH sz Cs bx ac es n ob Hp){b:Nat}(hb:Hp b=none)(o:Av.Obj):AH sz Cs bx ac es n ob (Hp.set b o):=by
 obtain⟨g,j,i,m⟩:=h.at7 hb o;refine⟨g,i,fun q o' hq d=>?_,h.fresh⟩;have h1:=h.keep q o' hq d;have:q≠b:=fun e=>by rw[e,hb]at h1;cases h1
 rw[A4 _ this];exact h1
theorem AH.le{sz:Nat}{Cs H:Heap}{bx:Nat}{ac:D→List D}{es:List (List D)}{n:Nat}{ob:Option Nat}{Hp:Heap}(h:AH sz Cs bx ac es n ob Hp)(d:H.Le Cs)(hx:H bx=none):H.Le (K1 Hp ob):=fun k o hk=>by
 have g:k≠bx:=fun e=>by rw[e,hx]at hk;cases hk
 have h1:=h.keep k o g (d _ _ hk);cases ob with
 |none=>exact h1
 |some c=>
  have:k≠c:=fun e=>by have:=(h.fresh c rfl).1;rw[←e,d _ _ hk]at this;cases this
  show Heap.del _ c k=_;rw[F1 this];exact h1
theorem AH.le2{sz:Nat}{Cs H:Heap}{bx g:Nat}{ac:D→List D}{es:List (List D)}{n:Nat}{ob:Option Nat}{Hp:Heap}(h:AH sz Cs bx ac es n ob Hp)(d:H.Le Cs)(hx:H bx=none)(m:H g=none)(o:Av.Obj):H.Le (K1 (Hp.set g o) ob):=fun k q hk=>by
 have i:k≠g:=fun e=>by rw[e,m]at hk;cases hk
 have h1:=h.le d hx _ _ hk;cases ob with
 |none=>show (Hp.set g o) k=_;rw[A4 _ i];exact h1
 |some c=>
  have j:k≠c:=fun e=>by have:=(h.fresh c rfl).1;rw[←e,d _ _ hk]at this;cases this
  have h1:Heap.del Hp c k=some q:=h1;rw[F1 j]at h1;show Heap.del _ c k=_;rw[F1 j,A4 _ i];exact h1
theorem AH.out2{sz:Nat}{Cs:Heap}{bx d:Nat}{ac:D→List D}{es:List (List D)}{n:Nat}{ob:Option Nat}{Hp:Heap}(h:AH sz Cs bx ac es n ob Hp){g:Av.Obj}(i:Cs d=some g)(o:Av.Obj):OutAt (Hp.set d o) sz es ob:=by
 cases ob with
 |none=>exact h.out
 |some c=>
  have:c≠d:=fun e=>by have:=(h.fresh c rfl).1;rw[e,i]at this;cases this
  show (Hp.set d o) c=_;rw[A4 _ this];exact h.out
theorem A5a{H:Heap}{sz:Nat}{es:List (List D)}{ob:Option Nat}(h:OutAt H sz es ob){x:Nat}(hx:H x=none)(o:Av.Obj):OutAt (H.set x o) sz es ob∧ob≠some x:=by
 cases ob with
 |none=>exact⟨h,by simp⟩
 |some c=>
  have hc:H c=some _:=h;have:c≠x:=fun e=>by rw[e,hx]at hc;cases hc
  refine⟨?_,fun e=>this (by injection e)⟩;show (H.set x o) c=_;rw[A4 _ this];exact hc
theorem B3T{H:Heap}{b:Nat}{o:Av.Obj}(h:H b=some o):H.set b o=H:=by
 funext k
 unfold Av.Heap.set;by_cases e:k=b
 ·subst e;rw[if_pos rfl,h]
 ·rw[if_neg e]
theorem C3W{Q:D→Heap→Prop}{H:Heap}{n:Nat}{ob:Option Nat}{l:LinV}(hn:n=l.t.length)(ho:OutAt H 2 (Rw S1 l.t) ob)(h:Fin Q (.agg (D9 l)) (K1 H ob)):Fin Q (.agg [H6 2 n ob,.int .i64 l.k,.bool l.e]) H:=by
 have j: ∀(i:Nat) d d',[D.int .i64 l.k,.bool l.e][i]? =some d→[D.int .i64 l.k,.bool l.e][i]? =some d'→d=d':=fun i d d' h1 g=>by rw[h1]at g;injection g
 cases ob with
 |none=>
  have m:Rw S1 l.t= []:=ho;rw[B1s,m]at h;refine E5 (d':=.agg [.sl 2 [],.int .i64 l.k,.bool l.e]) (.agg _ _ rfl fun i d d' h1 g=>?_) h
  match i with
  |0=>cases h1;cases g;exact .nil 2
  |i+1=>
   simp only[D06]at h1 g;rw[j i d d' h1 g];exact .same _
 |some b=>
  have hb:H b=some (.vec 2 (Rw S1 l.t)):=ho;subst hn;refine V5 (cs':=D9 l) hb rfl (fun i d d' h1 g=>?_) h
  match i with
  |0=>
   cases h1;cases g;show Fz b 2 (Rw S1 l.t) (.vec b 2 0 l.t.length) _;have:=Fz.all (b:=b) (sz:=2) (es:=Rw S1 l.t);rwa [D5]at this
  |i+1=>
   simp only[B1s,D06]at h1 g;rw[j i d d' h1 g];exact .same _
theorem B6z(f:Fm):(C1 f).set 2 (.sl 2 (Rw S1 f.l.t))=C1 f:=by rw[N7];rfl
theorem B60(f:Fm)(x:D):(C1 f).set 6 x= [.int .i64 f.op,.int .i64 f.n,.sl 2 (Rw S1 f.l.t),.int .i64 f.l.k,.bool f.l.e,.str f.s,x]:=by rw[N7];rfl
abbrev ac6(f:Fm)(x:D):List D:=[.int .i64 f.op,.int .i64 f.n,.sl 2 (Rw S1 f.l.t),.int .i64 f.l.k,.bool f.l.e,.str f.s,x]
theorem C3X{Q:D→Heap→Prop}{H:Heap}{n:Nat}{ob:Option Nat}{f:Fm}{ks:List Fm}(hn:n=ks.length)(ho:OutAt H 7 (Rw C1 ks) ob)(h:Fin Q (.agg (C1 (.mk f.op f.n f.l f.s ks))) (K1 H ob)):Fin Q (.agg (ac6 f (H6 7 n ob))) H:=by
 rw[m0]at h;cases ob with
 |none=>
  have d:Rw C1 ks= []:=ho;refine E5 ?_ h;rw[d];exact B2A (.same _) (.nil 7)
 |some b=>
  have hb:H b=some (.vec 7 (Rw C1 ks)):=ho;subst hn;refine V5 (cs':=ac6 f (.sl 7 (Rw C1 ks))) hb rfl (fz7 (.same _) ?_) h;show Fz b 7 (Rw C1 ks) (.vec b 7 0 ks.length) _;have:=Fz.all (b:=b) (sz:=7) (es:=Rw C1 ks);rwa [D5]at this
end Go.Fo
namespace Go.Av
theorem S0{P:Program}{f b n sz:Nat}{es:List (List D)}{ds:List D}{H0:Heap}{Q:D→Heap→Prop}(d:H0 b=none)(hn:n=es.length)(h:ACalls P f (.sl sz es::ds) H0 Q):ACalls P f (.vec b sz 0 n::ds) (H0.set b (.vec sz es)) Q:=
 V4 (A2 _ _) hn (by rw[E3 d];exact h)
theorem A9K{P:Program}{f b n sz:Nat}{es:List (List D)}{a:D}{ds:List D}{H0:Heap}{Q:D→Heap→Prop}(d:H0 b=none)(hn:n=es.length)(h:ACalls P f (a:: .sl sz es::ds) H0 Q):ACalls P f (a:: .vec b sz 0 n::ds) (H0.set b (.vec sz es)) Q:=
 A0h (A2 _ _) hn (by rw[E3 d];exact h)
theorem A6w{P:Program}{f m:Nat}{kvs:List (D×D)}{x:D}{ds:List D}{H:Heap}{Q:D→Heap→Prop}(hm:H m=some (.map kvs))(h:ACalls P f (.agg [x,.fm kvs]::ds) (H.del m) Q):ACalls P f (.agg [x,.map m]::ds) H Q:=by
 refine ACalls.shift (args':=.agg [x,.fm kvs]::ds) (fun w vs h1 p hs=>?_) h;have g:=E6 H m;refine⟨by simpa using h1,fun i d q=>?_,hs.less g,fun k hn=>g.held hn⟩
 match i with
 |0=>
  cases q;have j:=p 0 _ rfl;revert j;generalize vs.getD 0 undef=v1;intro j;cases j with
  |agg _ us o ho hr=>
   refine .agg _ us (by simpa using o) (fun i d' e=>?_) (fun i d' e=>?_)
   ·match i with
    |0=>exact ho 0 d' e
    |1=>cases e;rfl
    |i+2=>simp at e
   ·match i with
    |0=>exact(hr 0 d' e).less g
    |1=>
     cases e;exact B3Q hs hm g (I1 (by simp[Heap.del])) (hr 1 _ rfl)
    |i+2=>simp at e
 |i+1=>exact(p (i+1) d (by simpa using q)).less g
end Go.Av
namespace Go.Proofs.YtibphjonmikciaaGreatDoor
open Go Go.Av Go.Lexs Go.Lin Go.Fo
attribute [local irreducible] ACalls S7
theorem B2C{Q}(f:Fm)(H:Heap)(h:Q (.int .i64 (if f.op=6 then 1 else 0)) H):D8 193 [.agg (C1 f)] H Q:=by
 refine A9 [] A5 Tryz.func193 rfl ?_;simp only[go_sem,seval,Tryz.results193];by_cases c:f.op=6
 ·rw[if_pos c]at h;repeat' (first|simp only[go_sem,seval,c]|intro d)
  exact D12 (A0 (by assumption)) h
 ·rw[if_neg c]at h;repeat' (first|simp only[go_sem,seval,c]|intro d)
  exact D12 (A0 (by assumption)) h
theorem C3Y{Q}(l:List Fm)(n:Int)(h1:n≤1)(g:D)(H:Heap)(h:Q (.tuple []) H):D8 242 [.sl 7 (Rw C1 l),.int .i64 0,.int .i64 n,g] H Q:=by
 refine A9 [(4,.rg),(6,.rd true)] A5 Tryz.func242 rfl ?_;simp only[go_sem,seval,Tryz.results242];have c: ¬1<n:=by omega
 repeat' simp(disch:=omega) only[A3,A3U,okRest_at,U1,A4B,A8,okRestE_at,A00,B1h,A8Q,B8s,A0q,C3,A2i,Q7,O7,J9,A8h,R7]
 refine C4 [0,1,2,3] (fun(k:Nat)=>[(8,.int .i64 1)]) (fun(k:Nat)=>H) (fun(k:Nat)=>True) (fun(k:Nat)=>0) (0) (trivial) (by simp only[go_sem,seval]) (by first|exact D11 _|exact A0 (by assumption)|exact B2 (by assumption)|simp only[Heap.Le,Heap.set,Heap.del]at* <;>grind) ?_;rintro d rfl k _;repeat' simp only[go_sem,seval,c]
 exact D15 h
theorem B61{Q}(l:List Fm)(hl:l.length≤1)(g:D)(H:Heap)(h:Q (.tuple []) H):D8 219 [.sl 7 (Rw C1 l),.int .i64 l.length,g] H Q:=by
 refine A9 [] A5 Tryz.func219 rfl ?_;simp only[go_sem,seval,Tryz.results219];have c: ¬(20:Int)≤l.length:=by omega
 have d: ¬(20:Int)<l.length:=by omega
 repeat' (first|with_reducible apply D0a|simp only[go_sem,seval]|simp(disch:=omega) only[C3]|intro e|omega)
 refine C4 [0,1,2,6] (fun(k:Nat)=>[(7,.int .i64 0),(8,.int .i64 20)]) (fun(k:Nat)=>H) (fun(k:Nat)=>True) (fun(k:Nat)=>0) (0) (trivial) (by simp only[go_sem,seval]) (by first|exact D11 _|exact A0 (by assumption)|exact B2 (by assumption)|simp only[Heap.Le,Heap.set,Heap.del]at* <;>grind) ?_;rintro i rfl k _;repeat' (first|simp only[go_sem,seval,c]|with_reducible refine C3Y l _ (by omega) _ _ ?_)
 refine C4 [0,1,2] (fun(k:Nat)=>[(6,.int .i64 20)]) (fun(k:Nat)=>H) (fun(k:Nat)=>True) (fun(k:Nat)=>0) (0) (trivial) (by simp only[go_sem,seval]) (by first|exact D11 _|exact A0 (by assumption)|exact B2 (by assumption)|simp only[Heap.Le,Heap.set,Heap.del]at* <;>grind) ?_;rintro i rfl k _;repeat' simp only[go_sem,seval,d]
 exact D15 h
theorem A3u{Q}(l:List Fm)(hl:l.length≤1)(g:D)(H:Heap)(h:Q (.tuple []) H):D8 191 [.sl 7 (Rw C1 l),g] H Q:=by
 refine A9 [] A5 Tryz.func191 rfl ?_;simp only[go_sem,seval,Tryz.results191];repeat' (first|simp only[go_sem,seval]|with_reducible refine B61 l hl _ _ ?_)
 exact D15 h
theorem B62{Q}(c:List Fm)(hc:c≠[])(hl:c.length≤1000000)(H:Heap)(h: ∀b,H b=none→Q (.vec b 7 0 c.length) (H.set b (.vec 7 (Rw C1 c)))):D8 194 [.sl 7 (Rw C1 c)] H Q:=by
 have i:Rw C1 c≠[]:=fun e=>hc (D0y (by rw[←D5 (f:=C1),e];rfl));refine A9 [] A5 Tryz.func194 rfl ?_;simp only[go_sem,seval,Tryz.results194];have hq: ∀(x:Nat),K9 Tryz.prog .eql 26 (K8 (.tmp x)||K8 (.const (.slice none 0 0))) (.sl 7 (Rw C1 c)) .nilsl=some (.bool false):=fun x=>A57 i (by kernel_rfl);repeat' (first|with_reducible apply D0a|simp only[go_sem,seval,hq]|intro d|omega)
 rename_i m j o;have g:=d;clear d;rw[E3 j]at g⊢;exact D15 (h _ g)
theorem B63{Q}(cs c:List LinV)(m:D)(hm:(∃k,m= .fm k)∨∃b,m= .map b)(hb:(cs.length+c.length)*40≤140737488355328)(H:Heap)(h:Q (.agg [.sl 3 (Rw D9 (cs++c)),m]) H):D8 123 [.agg [.sl 3 (Rw D9 cs),m],.sl 3 (Rw D9 c)] H Q:=by
 refine A9 [] A5 Tryz.func123 rfl ?_;simp only[go_sem,seval,Tryz.results123];rcases hm with⟨k,rfl⟩|⟨b,rfl⟩
 ·repeat' (first|with_reducible apply D0a|simp only[go_sem,seval]|simp(disch:=first|omega|grind) only[C0]|(intro d;try simp only[A6]at d))
  rename_i e g i j x;have hx:=d;clear d;refine S0 (es:=[[.sl 3 (Rw D9 cs)],[.sl 3 (Rw D9 c)]]) (A6.2 ⟨hx.1,A6.2 hx.2⟩) rfl ?_;refine A7i cs c hb _ ?_;repeat' (first|simp only[go_sem,seval]|simp(disch:=first|omega|grind) only[C0])
  exact D12 (by simp only[D4,C9,D0]at* <;>grind) h
 ·repeat' (first|with_reducible apply D0a|simp only[go_sem,seval]|simp(disch:=first|omega|grind) only[C0]|(intro d;try simp only[A6]at d))
  rename_i e g i j x;have hx:=d;clear d;refine S0 (es:=[[.sl 3 (Rw D9 cs)],[.sl 3 (Rw D9 c)]]) (A6.2 ⟨hx.1,A6.2 hx.2⟩) rfl ?_;refine A7i cs c hb _ ?_;repeat' (first|simp only[go_sem,seval]|simp(disch:=first|omega|grind) only[C0])
  exact D12 (by simp only[D4,C9,D0]at* <;>grind) h
end Go.Proofs.YtibphjonmikciaaGreatDoor
namespace Go.Av
section
variable {P:Program} {ops:Array Oper}
def C6x(P:Program)(o:Oper)(K:Kg)(F:FEnv)(H:Heap):Prop:=o.guard=none∧D1 P F.ev H (fun d H'=>K (F.put o.dst d) H') o.op
def B9g(P:Program)(ops:Array Oper)(K:Kg):Nat→Array Bool→Kg
 |0,listed=>fun F H=>Region.ready .any ops listed= []∧K F H
 |fuel+1,listed=>fun F H=>(Region.ready .any ops listed= []→K F H)∧∀i∈Region.ready .any ops listed,∃o,ops[i]? =some o∧C6x P o (B9g P ops K fuel (listed.setIfInBounds i true)) F H
theorem B2D{N:Nat}{w0:World}{H0:Heap}{o:Oper}{K:Kg}{F:FEnv}{H:Heap}{a:Act}{w:World}(q: ∀t,o.dst=some t→t<N)(h:C6x P o K F H)(hst:StO N w0 H0 F H a w):
  opSem P none o a w fun v w'=>∃p H',StO N w0 H0 p H' (a.put o.dst v) w'∧K p H':=by
 refine(N5 (o:=o) hst.sat hst.evR h.2).mono fun v w' hp=>?_;obtain⟨d,H',r,u,j,m,hk⟩:=hp;refine⟨F.put o.dst d,H',⟨?_,?_,fun i=>?_,u,hst.ext.trans hst.frm j,hst.frm.trans hst.ext.size m⟩,hk⟩
 ·cases e:o.dst<;>simp[Act.put,hst.size]
 ·cases e:o.dst<;>simp[Act.put,hst.defers]
 ·cases e:o.dst with
  |none=>exact(hst.env i).mono j m
  |some t=>
   have x:=q t e;simp only[FEnv.put];by_cases g:t=i
   ·subst g;rw[if_pos rfl];have:(a.put (some t) v).eval (.tmp t)=v:=by
     have y:t<a.tmps.size:=by rw[hst.size];exact x
     simp[Act.eval,Act.put,y]
    rw[this];exact r
   ·rw[if_neg g];have:(a.put (some t) v).eval (.tmp i)=a.eval (.tmp i):=by
     simp[Act.eval,Act.put,D1E g]
    rw[this];exact(hst.env i).mono j m
theorem A6W{N:Nat}{w0:World}{H0:Heap}{K:Kg}{Q:Exit→Act→World→Prop}(p: ∀o∈ops.toList,∀t,o.dst=some t→t<N)
  (m: ∀F H a w,StO N w0 H0 F H a w→K F H→Q .normal a w): ∀(fuel:Nat) (d:Array Bool) (F:FEnv) (H:Heap) (a:Act) (w:World),
  B9g P ops K fuel d F H→StO N w0 H0 F H a w→Go.wpAny P .any ops Q fuel d a w
 |0,_,F,H,a,w,h,hst=>⟨h.1,m _ _ _ _ hst h.2⟩
 |fuel+1,d,F,H,a,w,h,hst=>⟨fun q=>m _ _ _ _ hst (h.1 q),fun i r=>by
   obtain⟨o,ho,h1⟩:=h.2 i r;unfold Go.wpOp;split
   ·rename_i hn;rw[hn]at ho;cases ho
   ·rename_i o' e;rw[ho]at e;cases e;have g:o∈ops.toList:=by rw[D1F];exact Array.mem_of_getElem? ho
    rw[if_pos (by simp[Region.wanted,h1.1])];exact .inl (opSem.wp ((B2D (p o g) h1 hst).mono fun v w' hv=>by
     obtain⟨u,H',j,hk⟩:=hv;exact A6W p m fuel _ _ _ _ _ hk j))⟩
theorem B2E{f:Nat}{fn:Func}{c:Code}{id:Nat}{args:List D}{H:Heap}{Q:D→Heap→Prop}(hm:P.follows .mixedOrders=true)(I:P.funcs[f]? =some fn)(hb:fn.body=some (.seq c (.region id ops true)))(p:A1t P f=true)(hn:args.length≤fn.ntmps)
  (q:fn.results= #[]) (u:N6 P [] fn.ntmps c=true) (J:(ops.toList.all fun o=>match o.dst with|some t=>decide (t<fn.ntmps)|none=>true)=true)
  (h:wp P [] c (fun x E H=>x= .normal∧B9g P ops (fun _ H=>Fin Q (.tuple []) H) ops.size (Array.replicate ops.size false) E.get H) (W9 0 args) H):ACalls P f args H Q:=by
 refine⟨p,fun w vs hl L hs=>calls_of_wp I hb ?_⟩;have hst:St fn.ntmps w H (W9 0 args) H {tmps:=vs++Array.replicate (fn.ntmps-vs.size) undef,defers:=[]} w:=by
  refine⟨by simp;omega,rfl,fun i=>?_,hs,D18 _ _,D17 _ _⟩;rw[A0B,if_pos (D0v _),Nat.sub_zero];cases C:args[i]? with
  |none=>exact .undef _
  |some d=>
   have M:=(D0k.1 C).1;have:({tmps:=vs++Array.replicate (fn.ntmps-vs.size) undef,defers:=[]}:Act).eval (.tmp i)=vs.getD i undef:=by
    simp only[Act.eval];exact G2 (by omega)
   rw[this];exact L i d C
 refine Go.wp_seq (Go.wp_mono (A0A hm c _ _ _ _ _ u h hst) fun e a w' he=>?_);cases e with
 |normal=>
  obtain⟨E,H',g,_,hq⟩:=he;refine wp_region_any hm ?_;have he:Ext H' w' {w' with drawn:=w'.drawn+1}:=Ext.drewN H' w' 1;have y:=g.sat.same (w':={w' with drawn:=w'.drawn+1}) rfl he;refine A6W (N:=fn.ntmps) (w0:=w) (H0:=H) (fun o ho t O=>?_) (fun F T a1 G j hk=>?_) _ _ E.get H' a _ hq ⟨g.size,g.defers,fun i=>(g.env i).mono he (D17 _ _),y,g.ext.trans g.frm he,g.frm⟩
  ·have:=D1B.1 J o ho;rw[O]at this;simpa using this
  ·unfold Fin at hk;obtain⟨U,V,z,W⟩:=hk;have m:St fn.ntmps w H [] T a1 G:=⟨j.size,j.defers,fun i=>.undef _,j.sat,j.ext,j.frm⟩
   obtain⟨v,hv,A⟩:=A2X (P:=P) (fn:=fn) (r:=.tuple []) m (by rw[q];rfl);obtain⟨X,Y,k3⟩:=z G v A j.sat;exact⟨j.defers,v,hv,v,rfl,V,U,X,Y,j.ext,fun k hk hn=>k3 k (j.frm k hk hn),W⟩
 |exit id=>obtain⟨E,H',g,hq⟩:=he;exact absurd hq.1 (by simp)
 |ret=>obtain⟨E,H',g,hq⟩:=he;exact absurd hq.1 (by simp)
 |_=>exact he.elim
def K2(o:Oper):List Nat:=(o.after.toList.filter fun e=>Region.binds .any e).map (·.on)
theorem A1g{g:Array Bool}{i:Nat}(h:i∈Region.ready .any ops g):g.getD i true=false∧∃o,ops[i]? =some o∧∀d∈K2 o,g.getD d false=true:=by
 obtain⟨h1,o,ho,p⟩:=mem_ready.1 h;refine⟨h1,o,ho,fun d q=>?_⟩;obtain⟨e,he,rfl⟩:=D1Y.1 q;obtain⟨j,m⟩:=List.mem_filter.1 he;exact p e (by simpa using j) m
theorem A6X{g:Array Bool}{i:Nat}{o:Oper}(h1:g.getD i true=false)(ho:ops[i]? =some o)(h: ∀d∈K2 o,g.getD d false=true):i∈Region.ready .any ops g:=
 mem_ready.2 ⟨h1,o,ho,fun e he hb=>h e.on (D1Y.2 ⟨e,List.mem_filter.2 ⟨by simpa using he,hb⟩,rfl⟩)⟩
end
section
variable {P:Program} {ops:Array Oper}
structure EvC(ev:Operand→D):Prop where
 const: ∀v,ev (.const v)=D.ofValue v
 func: ∀f,ev (.func f)= .fn (.func f) [] []
def B0u(P:Program)(ops:Array Oper)(vals:Nat→D)(B:Heap)(E0:FEnv):Prop:=∀i o,ops[i]? =some o→o.guard=none∧∀F:FEnv,(∀j oj,ops[j]? =some oj→j∈K2 o→∀t,oj.dst=some t→F t=vals j)→(∀t,(ops.toList.all fun oj=>oj.dst != some t)=true→F t=E0 t)→
 D1 P F.ev B (Fin fun d H=>d=vals i∧H=B) o.op
structure C3Z(ops:Array Oper)(vals:Nat→D)(E0:FEnv)(l:Array Bool)(F:FEnv):Prop where
 size:l.size=ops.size
 set: ∀j oj,ops[j]? =some oj→l.getD j false=true→∀t,oj.dst=some t→F t=vals j
 els: ∀t,(ops.toList.all fun oj=>oj.dst != some t)=true→F t=E0 t
theorem B4k{N:Nat}{w0:World}{H0 B:Heap}{vals:Nat→D}{E0:FEnv}{Q:Exit→Act→World→Prop}(hd: ∀o∈ops.toList,∀t,o.dst=some t→t<N)(C: ∀(i j:Nat) (oi oj:Oper),ops[i]? =some oi→ops[j]? =some oj→∀t,oi.dst=some t→oj.dst=some t→i=j)
  (G:B0u P ops vals B E0) (J: ∀l:Array Bool,l.size=ops.size→Region.ready .any ops l= []→∀i,i<ops.size→l.getD i false=true)
  (hQ: ∀F a w,StO N w0 H0 F B a w→C3Z ops vals E0 (Array.replicate ops.size true) F→Q .normal a w): ∀(fuel:Nat) (g:Array Bool) (F:FEnv) (a:Act) (w:World),
  (g.toList.filter (!·)).length≤fuel→C3Z ops vals E0 g F→StO N w0 H0 F B a w→Go.wpAny P .any ops Q fuel g a w:=by
 have fin: ∀(l:Array Bool) (F:FEnv) (a:Act) (w:World),C3Z ops vals E0 l F→StO N w0 H0 F B a w→Region.ready .any ops l= []→Q .normal a w:=fun l F a w I hst O=>by
  refine hQ F a w hst ⟨by simp,fun j oj u _=>I.set j oj u (J l I.size O j (D0z.1 u).1),I.els⟩
 intro fuel
 induction fuel with
 |zero=>
  intro l F a w hc I hst;have hr:Region.ready .any ops l= []:=by
   cases hr:Region.ready .any ops l with
   |nil=>rfl
   |cons i r=>
    exfalso;obtain⟨h1,o,ho,_⟩:=A1g (by rw[hr];exact D0l .. :i∈Region.ready .any ops l);have hi:=(D0z.1 ho).1;have:=I.size;have hl:l.toList[i]? =some false:=by
     have:i<l.size:=by omega
     simp[this]at h1⊢;exact h1
    have hm:false∈l.toList.filter (!·):=List.mem_filter.2 ⟨D07 hl,rfl⟩;have:=List.length_pos_of_mem hm;omega
  exact⟨hr,fin l F a w I hst hr⟩
 |succ n T=>
  intro l F a w hc I hst;refine⟨fun O=>fin l F a w I hst O,fun i hi=>?_⟩;obtain⟨hu,o,ho,U⟩:=A1g hi;have a5:=(D0z.1 ho).1;have V:=I.size;have W:i<l.size:=by omega
  obtain⟨hg,X⟩:=G i o ho;have x:o∈ops.toList:=by rw[D1F];exact Array.mem_of_getElem? ho
  unfold Go.wpOp;split
  ·rename_i hn;rw[hn]at ho;cases ho
  ·rename_i o' L;rw[ho]at L;cases L;rw[if_pos (by simp[Region.wanted,hg])];refine .inl (opSem.wp ((N5 (o:=o) hst.sat hst.evR (X F (fun j oj u hm t q=>I.set j oj u (U j hm) t q) I.els)).mono fun v w' hp=>?_));obtain⟨d,H',hR,hS,hE,hF,hk⟩:=hp;unfold Fin at hk;obtain⟨H2,d2,M,Y,a0⟩:=hk;rw[Y,a0]at M;obtain⟨k1,k2,k3⟩:=M w' v hR hS;have a4:Ext H0 w0 w':=hst.ext.trans hst.frm hE;refine T _ (F.put o.dst (vals i)) _ _ ?_ ⟨by simpa using V,fun j oj u hm t q=>?_,fun t q=>?_⟩ ⟨?_,?_,fun s=>?_,k2,a4,fun k hk hn=>k3 k ((hst.frm.trans hst.ext.size hF) k hk hn)⟩
   ·have key: ∀(m:List Bool) (i:Nat),m[i]? =some false→((m.set i true).filter (!·)).length+1=(m.filter (!·)).length:=by
     intro m
     induction m with
     |nil=>intro i h;simp at h
     |cons b m T=>
      intro i h;cases i with
      |zero=>simp at h;subst h;simp
      |succ i=>
       have:=T i (by simpa using h);cases b<;>simp[List.set_cons_succ]<;>omega
    have hl:l.toList[i]? =some false:=by
     simp[W]at hu⊢;exact hu
    have:=key l.toList i hl;rw[Array.toList_setIfInBounds];omega
   ·by_cases e:i=j
    ·subst e;rw[ho]at u;cases u;rw[q];simp[FEnv.put]
    ·have y:o.dst≠some t:=fun e2=>e (C i j o oj ho u t e2 q);have hp:F.put o.dst (vals i) t=F t:=by
      cases z:o.dst with
      |none=>rfl
      |some s=>
       have:s≠t:=fun e=>y (by rw[z,e]);simp[FEnv.put,this]
     rw[hp];refine I.set j oj u ?_ t q;rw[getD_set_ne false e]at hm;exact hm
   ·have y:o.dst≠some t:=fun e=>by
     have:=D1B.1 q o x;rw[e]at this;simp at this
    have hp:F.put o.dst (vals i) t=F t:=by
     cases z:o.dst with
     |none=>rfl
     |some s=>
      have:s≠t:=fun e=>y (by rw[z,e]);simp[FEnv.put,this]
    rw[hp];exact I.els t q
   ·cases p:o.dst<;>simp[Act.put,hst.size]
   ·cases p:o.dst<;>simp[Act.put,hst.defers]
   ·have old: ∀s,R w' B (F s) (a.eval (.tmp s)):=fun s=>(hst.env s).mono hE (fun k hk hn=>k3 k (hF k hk hn));cases p:o.dst with
    |none=>exact old s
    |some t=>
     have q:=hd o x t p;simp only[FEnv.put];by_cases A:t=s
     ·subst A;rw[if_pos rfl];have:(a.put (some t) v).eval (.tmp t)=v:=by
       have h':t<a.tmps.size:=by rw[hst.size];exact q
       simp[Act.eval,Act.put,h']
      rw[this];exact k1
     ·rw[if_neg A];have:(a.put (some t) v).eval (.tmp s)=a.eval (.tmp s):=by
       simp[Act.eval,Act.put,D1E A]
      rw[this];exact old s
def C3a(ops:Array Oper):Bool:=(List.range ops.size).all fun i=>(List.range ops.size).all fun j=>i==j||((ops[i]?.bind (·.dst)).isNone||(ops[i]?.bind (·.dst)) != (ops[j]?.bind (·.dst)))
def B64(ops:Array Oper):Bool:=(List.range ops.size).all fun i=>match ops[i]? with
 |some o=>(K2 o).all fun d=>decide (d<i)
 |none=>true
theorem B9h(g:B64 ops=true): ∀l:Array Bool,l.size=ops.size→Region.ready .any ops l= []→∀i,i<ops.size→l.getD i false=true:=by
 intro l hs h i
 induction i using Nat.strongRecOn with
 |_ i j=>
  intro e;cases hc:l.getD i false with
  |true=>rfl
  |false=>
   exfalso;have ho:ops[i]? =some ops[i]:=Array.getElem?_eq_getElem e;have h1:=D1B.1 g i (List.mem_range.2 e);rw[ho]at h1;have m:l.getD i true=false:=by
    have:i<l.size:=by omega
    simp[this]at hc⊢;exact hc
   have:=A6X m ho fun d o=>by
    have:=D1B.1 h1 d o;simp only[D0w]at this;exact j d this (by omega)
   rw[h]at this;cases this
theorem A3H{f:Nat}{fn:Func}{c:Code}{id:Nat}{args:List D}{H:Heap}{Q:D→Heap→Prop}(hm:P.follows .mixedOrders=true)(hf:P.funcs[f]? =some fn)(hb:fn.body=some (.seq c (.seq (.region id ops true) .ret)))(L:A1t P f=true)(hn:args.length≤fn.ntmps)
  (i t:Nat) (M:fn.results= #[.tmp t]) (G:(ops[i]?.map (·.dst))=some (some t)) (O:N6 P [] fn.ntmps c=true) (hd:(ops.toList.all fun o=>match o.dst with|some t=>decide (t<fn.ntmps)|none=>true)=true) (u:C3a ops=true) (y:B64 ops=true)
  (h:wp P [] c (fun x E H'=>x= .normal∧∃vals:Nat→D,B0u P ops vals H' E.get∧Fin Q (vals i) H') (W9 0 args) H):ACalls P f args H Q:=by
 refine⟨L,fun w vs hl hR hs=>calls_of_wp hf hb ?_⟩;have hst:St fn.ntmps w H (W9 0 args) H {tmps:=vs++Array.replicate (fn.ntmps-vs.size) undef,defers:=[]} w:=by
  refine⟨by simp;omega,rfl,fun i=>?_,hs,D18 _ _,D17 _ _⟩;rw[A0B,if_pos (D0v _),Nat.sub_zero];cases G:args[i]? with
  |none=>exact .undef _
  |some d=>
   have a9:=(D0k.1 G).1;have:({tmps:=vs++Array.replicate (fn.ntmps-vs.size) undef,defers:=[]}:Act).eval (.tmp i)=vs.getD i undef:=by
    simp only[Act.eval];exact G2 (by omega)
   rw[this];exact hR i d G
 refine Go.wp_seq (Go.wp_mono (A0A hm c _ _ _ _ _ O h hst) fun e a w' he=>?_);cases e with
 |normal=>
  obtain⟨E,H',g,_,vals,hq,p⟩:=he;refine Go.wp_seq (wp_region_any hm ?_);have he:Ext H' w' {w' with drawn:=w'.drawn+1}:=Ext.drewN H' w' 1;have T:=g.sat.same (w':={w' with drawn:=w'.drawn+1}) rfl he;refine B4k (N:=fn.ntmps) (w0:=w) (H0:=H) (B:=H') (vals:=vals) (E0:=E.get) (fun o ho t ht=>?_) (fun i j oi oj z A t U V=>?_) hq (B9h y) (fun F a1 w1 m I=>?_) ops.size _ E.get a _ ?_ ⟨by simp,fun j oj hj hm=>?_,fun _ _=>rfl⟩ ⟨g.size,g.defers,fun i=>(g.env i).mono he (D17 _ _),T,g.ext.trans g.frm he,g.frm⟩
  ·have:=D1B.1 hd o ho;rw[ht]at this;simpa using this
  ·have W:=(D0z.1 z).1;have X:=(D0z.1 A).1;have:=D1B.1 (D1B.1 u i (List.mem_range.2 W)) j (List.mem_range.2 X);rw[z,A]at this;simp only[D04,U,V,Option.isNone_some,bne_self_eq_false,Bool.or_self,Bool.or_false,beq_iff_eq]at this;exact this
  ·obtain⟨o,ho,Y⟩:=D0j.1 G;have hF:F t=vals i:=I.set i o ho (by
    have:=(D0z.1 ho).1;simp[this]) t Y
   unfold Fin at p;obtain⟨H2,q,a0,p⟩:=p;have C:St fn.ntmps w H [(t,vals i)] H' a1 w1:=⟨m.size,m.defers,fun j=>by
    by_cases e:t=j
    ·subst e;have:Env.get [(t,vals i)] t=vals i:=by simp[Env.get]
     rw[this,←hF];exact m.env t
    ·have:Env.get [(t,vals i)] j= .undef:=by simp[Env.get,e]
     rw[this];exact .undef _,m.sat,m.ext,m.frm⟩
   refine Go.wp_mono (A0A (P:=P) (Z:=[]) hm .ret (A8N P fn.results.toList Q) _ _ _ _ rfl ⟨vals i,by rw[M];simp[A21,A0Z,Env.get],H2,q,a0,p⟩ C) fun x a w' he=>?_
   have fin: ∀(x:AX) (E:Env) (H':Heap) (a:Act) (w':World),(x= .normal∨x= .ret)→St fn.ntmps w H E H' a w'→A8N P fn.results.toList Q x E H'→
     a.defers= []∧∃v,(results fn a.tmps).run P w'= .ok v w'∧∃v',Ending.returned v= .returned v'∧Post H w Q v' w':=by
    intro x E H' a w' hx g hq;have a4: ∃r,A21 P fn.results.toList E H'=some r∧∃J q,Shift H' r J q∧Q q J:=by rcases hx with rfl|rfl<;>exact hq
    obtain⟨r,hr,J,q,a5,p⟩:=a4;obtain⟨v,hv,a6⟩:=A2X (P:=P) g hr;obtain⟨k1,k2,k3⟩:=a5 _ _ a6 g.sat;exact⟨g.defers,v,hv,v,rfl,q,J,k1,k2,g.ext,fun k hk hn=>k3 k (g.frm k hk hn),p⟩
   cases x with
   |normal=>obtain⟨E,H',g,hq⟩:=he;exact fin .normal E H' a w' (.inl rfl) g hq
   |ret=>obtain⟨E,H',g,hq⟩:=he;exact fin .ret E H' a w' (.inr rfl) g hq
   |exit id=>obtain⟨E,H',g,hq⟩:=he;exact hq.elim
   |_=>exact he.elim
  ·have: ∀n:Nat,((Array.replicate n false).toList.filter (!·)).length≤n:=fun n=>by simp
   exact this _
  ·rw[show (Array.replicate ops.size false).getD j false=false by simp[Array.getElem?_replicate];split<;>simp]at hm;cases hm
 |exit id=>obtain⟨E,H',g,hq⟩:=he;exact absurd hq.1 (by simp)
 |ret=>obtain⟨E,H',g,hq⟩:=he;exact absurd hq.1 (by simp)
 |_=>exact he.elim
end
end Go.Av
namespace Go.Proofs.YtibphjonmikciaaGreatDoor
open Go Go.Av
noncomputable def svOps:Array Oper:=match Tryz.f73.body with|some (.seq _ (.seq (.region _ ops _) _))=>ops|_=> #[]
theorem C3b{vals:Nat→D}{B:Av.Heap}{E0:FEnv}
  (x: ∀ev:Operand→D,EvC ev→Av.D1 Tryz.prog ev B (Av.Fin fun d H=>d=vals 0∧H=B) (Go.Op.makeMap 72 none))
  (h1: ∀ev:Operand→D,EvC ev→ev (.tmp 5)=vals 0→Av.D1 Tryz.prog ev B (Av.Fin fun d H=>d=vals 1∧H=B) (Go.Op.build 150 #[(1,(Go.Operand.tmp 5))]))
  (y: ∀ev:Operand→D,EvC ev→ev (.tmp 1)=E0 1→Av.D1 Tryz.prog ev B (Av.Fin fun d H=>d=vals 2∧H=B) (Go.Op.move (Go.Operand.tmp 1)))
  (z: ∀ev:Operand→D,EvC ev→ev (.tmp 6)=vals 1→ev (.tmp 7)=vals 2→Av.D1 Tryz.prog ev B (Av.Fin fun d H=>d=vals 3∧H=B) (Go.Op.call {callee:=(Go.Callee.value (Go.Operand.func 123)),args:= #[(Go.Operand.tmp 6),(Go.Operand.tmp 7)],argTypes:= #[150,110]}))
  (A: ∀ev:Operand→D,EvC ev→ev (.tmp 2)=E0 2→Av.D1 Tryz.prog ev B (Av.Fin fun d H=>d=vals 4∧H=B) (Go.Op.load 28 (Go.Operand.tmp 2)))
  (h5: ∀ev:Operand→D,EvC ev→ev (.tmp 9)=vals 4→Av.D1 Tryz.prog ev B (Av.Fin fun d H=>d=vals 5∧H=B) (Go.Op.call {callee:=(Go.Callee.value (Go.Operand.func 50)),args:= #[(Go.Operand.tmp 9),(Go.Operand.const (Go.Value.bool false))],argTypes:= #[28,4]}))
  (C: ∀ev:Operand→D,EvC ev→ev (.tmp 10)=vals 5→Av.D1 Tryz.prog ev B (Av.Fin fun d H=>d=vals 6∧H=B) (Go.Op.buildSlice 26 1 #[(0,(Go.Operand.tmp 10))]))
  (G: ∀ev:Operand→D,EvC ev→ev (.tmp 8)=vals 3→ev (.tmp 11)=vals 6→Av.D1 Tryz.prog ev B (Av.Fin fun d H=>d=vals 7∧H=B) (Go.Op.call {callee:=(Go.Callee.value (Go.Operand.func 124)),args:= #[(Go.Operand.tmp 8),(Go.Operand.tmp 11)],argTypes:= #[150,26]}))
  (I: ∀ev:Operand→D,EvC ev→ev (.tmp 12)=vals 7→Av.D1 Tryz.prog ev B (Av.Fin fun d H=>d=vals 8∧H=B) (Go.Op.assign (Go.Operand.tmp 12)))
  :B0u Tryz.prog svOps vals B E0:=by
 obtain⟨J,g,L,M,O,w0⟩: ∃o,svOps[0]? =some o∧o.dst=some 5∧o.op=(Go.Op.makeMap 72 none)∧o.guard=none∧(∀j∈([]:List Nat),j∈K2 o):=⟨_,rfl,rfl,rfl,rfl,by simp⟩
 obtain⟨T,o1,d1,U,V,W⟩: ∃o,svOps[1]? =some o∧o.dst=some 6∧o.op=(Go.Op.build 150 #[(1,(Go.Operand.tmp 5))])∧o.guard=none∧(∀j∈([0]:List Nat),j∈K2 o):=⟨_,rfl,rfl,rfl,rfl,by decide+kernel⟩
 obtain⟨X,o2,Y,p2,g2,w2⟩: ∃o,svOps[2]? =some o∧o.dst=some 7∧o.op=(Go.Op.move (Go.Operand.tmp 1))∧o.guard=none∧(∀j∈([]:List Nat),j∈K2 o):=⟨_,rfl,rfl,rfl,rfl,by simp⟩
 obtain⟨x3,o3,d3,p3,g3,h⟩: ∃o,svOps[3]? =some o∧o.dst=some 8∧o.op=(Go.Op.call {callee:=(Go.Callee.value (Go.Operand.func 123)),args:= #[(Go.Operand.tmp 6),(Go.Operand.tmp 7)],argTypes:= #[150,110]})∧o.guard=none∧(∀j∈([1,2]:List Nat),j∈K2 o):=⟨_,rfl,rfl,rfl,rfl,by decide+kernel⟩
 obtain⟨x4,m,d4,p4,g4,w4⟩: ∃o,svOps[4]? =some o∧o.dst=some 9∧o.op=(Go.Op.load 28 (Go.Operand.tmp 2))∧o.guard=none∧(∀j∈([]:List Nat),j∈K2 o):=⟨_,rfl,rfl,rfl,rfl,by simp⟩
 obtain⟨x5,p,d5,p5,g5,w5⟩: ∃o,svOps[5]? =some o∧o.dst=some 10∧o.op=(Go.Op.call {callee:=(Go.Callee.value (Go.Operand.func 50)),args:= #[(Go.Operand.tmp 9),(Go.Operand.const (Go.Value.bool false))],argTypes:= #[28,4]})∧o.guard=none∧(∀j∈([4]:List Nat),j∈K2 o):=⟨_,rfl,rfl,rfl,rfl,by decide+kernel⟩
 obtain⟨x6,q,d6,p6,g6,w6⟩: ∃o,svOps[6]? =some o∧o.dst=some 11∧o.op=(Go.Op.buildSlice 26 1 #[(0,(Go.Operand.tmp 10))])∧o.guard=none∧(∀j∈([5]:List Nat),j∈K2 o):=⟨_,rfl,rfl,rfl,rfl,by decide+kernel⟩
 obtain⟨x7,r,d7,p7,g7,u⟩: ∃o,svOps[7]? =some o∧o.dst=some 12∧o.op=(Go.Op.call {callee:=(Go.Callee.value (Go.Operand.func 124)),args:= #[(Go.Operand.tmp 8),(Go.Operand.tmp 11)],argTypes:= #[150,26]})∧o.guard=none∧(∀j∈([3,6]:List Nat),j∈K2 o):=⟨_,rfl,rfl,rfl,rfl,by decide+kernel⟩
 obtain⟨x8,o8,d8,p8,g8,w8⟩: ∃o,svOps[8]? =some o∧o.dst=some 4∧o.op=(Go.Op.assign (Go.Operand.tmp 12))∧o.guard=none∧(∀j∈([7]:List Nat),j∈K2 o):=⟨_,rfl,rfl,rfl,rfl,by decide+kernel⟩
 have hs:svOps.size=9:=by kernel_rfl
 have n1:(svOps.toList.all fun oj=>oj.dst != some 1)=true:=by kernel_rfl
 have n2:(svOps.toList.all fun oj=>oj.dst != some 2)=true:=by kernel_rfl
 generalize svOps=ops at*;intro i o ho;have hi:i<9:=by have:=(D0z.1 ho).1;omega
 match i,hi with
 |0,_=>
  rw[g]at ho;cases ho;exact⟨O,fun F e he=>by rw[M];exact x F.ev ⟨fun _=>rfl,fun _=>rfl⟩⟩
 |1,_=>
  rw[o1]at ho;cases ho;exact⟨V,fun F e he=>by rw[U];exact h1 F.ev ⟨fun _=>rfl,fun _=>rfl⟩ (e 0 J g (W 0 (by simp)) 5 L)⟩
 |2,_=>
  rw[o2]at ho;cases ho;exact⟨g2,fun F e he=>by rw[p2];exact y F.ev ⟨fun _=>rfl,fun _=>rfl⟩ (he 1 n1)⟩
 |3,_=>
  rw[o3]at ho;cases ho;exact⟨g3,fun F e he=>by rw[p3];exact z F.ev ⟨fun _=>rfl,fun _=>rfl⟩ (e 1 T o1 (h 1 (by simp)) 6 d1) (e 2 X o2 (h 2 (by simp)) 7 Y)⟩
 |4,_=>
  rw[m]at ho;cases ho;exact⟨g4,fun F e he=>by rw[p4];exact A F.ev ⟨fun _=>rfl,fun _=>rfl⟩ (he 2 n2)⟩
 |5,_=>
  rw[p]at ho;cases ho;exact⟨g5,fun F e he=>by rw[p5];exact h5 F.ev ⟨fun _=>rfl,fun _=>rfl⟩ (e 4 x4 m (w5 4 (by simp)) 9 d4)⟩
 |6,_=>
  rw[q]at ho;cases ho;exact⟨g6,fun F e he=>by rw[p6];exact C F.ev ⟨fun _=>rfl,fun _=>rfl⟩ (e 5 x5 p (w6 5 (by simp)) 10 d5)⟩
 |7,_=>
  rw[r]at ho;cases ho;exact⟨g7,fun F e he=>by rw[p7];exact G F.ev ⟨fun _=>rfl,fun _=>rfl⟩ (e 3 x3 o3 (u 3 (by simp)) 8 d3) (e 6 x6 q (u 6 (by simp)) 11 d6)⟩
 |8,_=>
  rw[o8]at ho;cases ho;exact⟨g8,fun F e he=>by rw[p8];exact I F.ev ⟨fun _=>rfl,fun _=>rfl⟩ (e 7 x7 r (w8 7 (by simp)) 12 d7)⟩
noncomputable def chOps:Array Oper:=match Tryz.f195.body with|some (.seq _ (.seq (.region _ ops _) _))=>ops|_=> #[]
theorem C3c{vals:Nat→D}{B:Av.Heap}{E0:FEnv}
  (r: ∀ev:Operand→D,EvC ev→ev (.tmp 1)=E0 1→Av.D1 Tryz.prog ev B (Av.Fin fun d H=>d=vals 0∧H=B) (Go.Op.load 150 (Go.Operand.tmp 1)))
  (h1: ∀ev:Operand→D,EvC ev→ev (.tmp 3)=E0 3→Av.D1 Tryz.prog ev B (Av.Fin fun d H=>d=vals 1∧H=B) (Go.Op.load 28 (Go.Operand.tmp 3)))
  (u: ∀ev:Operand→D,EvC ev→ev (.tmp 6)=vals 1→Av.D1 Tryz.prog ev B (Av.Fin fun d H=>d=vals 2∧H=B) (Go.Op.buildSlice 26 1 #[(0,(Go.Operand.tmp 6))]))
  (x: ∀ev:Operand→D,EvC ev→ev (.tmp 2)=E0 2→Av.D1 Tryz.prog ev B (Av.Fin fun d H=>d=vals 3∧H=B) (Go.Op.load 26 (Go.Operand.tmp 2)))
  (y: ∀ev:Operand→D,EvC ev→ev (.tmp 7)=vals 2→ev (.tmp 8)=vals 3→Av.D1 Tryz.prog ev B (Av.Fin fun d H=>d=vals 4∧H=B) (Go.Op.buildSlice 210 2 #[(0,(Go.Operand.tmp 7)),(1,(Go.Operand.tmp 8))]))
  (h5: ∀ev:Operand→D,EvC ev→ev (.tmp 9)=vals 4→Av.D1 Tryz.prog ev B (Av.Fin fun d H=>d=vals 5∧H=B) (Go.Op.call {callee:=(Go.Callee.value (Go.Operand.func 153)),args:= #[(Go.Operand.tmp 9)],argTypes:= #[210]}))
  (z: ∀ev:Operand→D,EvC ev→ev (.tmp 5)=vals 0→ev (.tmp 10)=vals 5→Av.D1 Tryz.prog ev B (Av.Fin fun d H=>d=vals 6∧H=B) (Go.Op.call {callee:=(Go.Callee.value (Go.Operand.func 124)),args:= #[(Go.Operand.tmp 5),(Go.Operand.tmp 10)],argTypes:= #[150,26]}))
  (A: ∀ev:Operand→D,EvC ev→ev (.tmp 11)=vals 6→Av.D1 Tryz.prog ev B (Av.Fin fun d H=>d=vals 7∧H=B) (Go.Op.assign (Go.Operand.tmp 11)))
  :B0u Tryz.prog chOps vals B E0:=by
 obtain⟨C,g,G,I,J,w0⟩: ∃o,chOps[0]? =some o∧o.dst=some 5∧o.op=(Go.Op.load 150 (Go.Operand.tmp 1))∧o.guard=none∧(∀j∈([]:List Nat),j∈K2 o):=⟨_,rfl,rfl,rfl,rfl,by simp⟩
 obtain⟨L,o1,d1,M,O,w1⟩: ∃o,chOps[1]? =some o∧o.dst=some 6∧o.op=(Go.Op.load 28 (Go.Operand.tmp 3))∧o.guard=none∧(∀j∈([]:List Nat),j∈K2 o):=⟨_,rfl,rfl,rfl,rfl,by simp⟩
 obtain⟨T,o2,U,V,W,X⟩: ∃o,chOps[2]? =some o∧o.dst=some 7∧o.op=(Go.Op.buildSlice 26 1 #[(0,(Go.Operand.tmp 6))])∧o.guard=none∧(∀j∈([1]:List Nat),j∈K2 o):=⟨_,rfl,rfl,rfl,rfl,by decide+kernel⟩
 obtain⟨Y,o3,d3,p3,g3,w3⟩: ∃o,chOps[3]? =some o∧o.dst=some 8∧o.op=(Go.Op.load 26 (Go.Operand.tmp 2))∧o.guard=none∧(∀j∈([]:List Nat),j∈K2 o):=⟨_,rfl,rfl,rfl,rfl,by simp⟩
 obtain⟨x4,h,d4,p4,g4,m⟩: ∃o,chOps[4]? =some o∧o.dst=some 9∧o.op=(Go.Op.buildSlice 210 2 #[(0,(Go.Operand.tmp 7)),(1,(Go.Operand.tmp 8))])∧o.guard=none∧(∀j∈([2,3]:List Nat),j∈K2 o):=⟨_,rfl,rfl,rfl,rfl,by decide+kernel⟩
 obtain⟨x5,p,d5,p5,g5,w5⟩: ∃o,chOps[5]? =some o∧o.dst=some 10∧o.op=(Go.Op.call {callee:=(Go.Callee.value (Go.Operand.func 153)),args:= #[(Go.Operand.tmp 9)],argTypes:= #[210]})∧o.guard=none∧(∀j∈([4]:List Nat),j∈K2 o):=⟨_,rfl,rfl,rfl,rfl,by decide+kernel⟩
 obtain⟨x6,q,d6,p6,g6,w6⟩: ∃o,chOps[6]? =some o∧o.dst=some 11∧o.op=(Go.Op.call {callee:=(Go.Callee.value (Go.Operand.func 124)),args:= #[(Go.Operand.tmp 5),(Go.Operand.tmp 10)],argTypes:= #[150,26]})∧o.guard=none∧(∀j∈([0,5]:List Nat),j∈K2 o):=⟨_,rfl,rfl,rfl,rfl,by decide+kernel⟩
 obtain⟨x7,o7,d7,p7,g7,w7⟩: ∃o,chOps[7]? =some o∧o.dst=some 4∧o.op=(Go.Op.assign (Go.Operand.tmp 11))∧o.guard=none∧(∀j∈([6]:List Nat),j∈K2 o):=⟨_,rfl,rfl,rfl,rfl,by decide+kernel⟩
 have hs:chOps.size=8:=by kernel_rfl
 have n1:(chOps.toList.all fun oj=>oj.dst != some 1)=true:=by kernel_rfl
 have n2:(chOps.toList.all fun oj=>oj.dst != some 2)=true:=by kernel_rfl
 have n3:(chOps.toList.all fun oj=>oj.dst != some 3)=true:=by kernel_rfl
 generalize chOps=ops at*;intro i o ho;have hi:i<8:=by have:=(D0z.1 ho).1;omega
 match i,hi with
 |0,_=>
  rw[g]at ho;cases ho;exact⟨J,fun F e he=>by rw[I];exact r F.ev ⟨fun _=>rfl,fun _=>rfl⟩ (he 1 n1)⟩
 |1,_=>
  rw[o1]at ho;cases ho;exact⟨O,fun F e he=>by rw[M];exact h1 F.ev ⟨fun _=>rfl,fun _=>rfl⟩ (he 3 n3)⟩
 |2,_=>
  rw[o2]at ho;cases ho;exact⟨W,fun F e he=>by rw[V];exact u F.ev ⟨fun _=>rfl,fun _=>rfl⟩ (e 1 L o1 (X 1 (by simp)) 6 d1)⟩
 |3,_=>
  rw[o3]at ho;cases ho;exact⟨g3,fun F e he=>by rw[p3];exact x F.ev ⟨fun _=>rfl,fun _=>rfl⟩ (he 2 n2)⟩
 |4,_=>
  rw[h]at ho;cases ho;exact⟨g4,fun F e he=>by rw[p4];exact y F.ev ⟨fun _=>rfl,fun _=>rfl⟩ (e 2 T o2 (m 2 (by simp)) 7 U) (e 3 Y o3 (m 3 (by simp)) 8 d3)⟩
 |5,_=>
  rw[p]at ho;cases ho;exact⟨g5,fun F e he=>by rw[p5];exact h5 F.ev ⟨fun _=>rfl,fun _=>rfl⟩ (e 4 x4 h (w5 4 (by simp)) 9 d4)⟩
 |6,_=>
  rw[q]at ho;cases ho;exact⟨g6,fun F e he=>by rw[p6];exact z F.ev ⟨fun _=>rfl,fun _=>rfl⟩ (e 0 C g (w6 0 (by simp)) 5 G) (e 5 x5 p (w6 5 (by simp)) 10 d5)⟩
 |7,_=>
  rw[o7]at ho;cases ho;exact⟨g7,fun F e he=>by rw[p7];exact A F.ev ⟨fun _=>rfl,fun _=>rfl⟩ (e 6 x6 q (w7 6 (by simp)) 11 d6)⟩
noncomputable def foOps:Array Oper:=match Tryz.f84.body with|some (.seq _ (.seq (.region _ ops _) _))=>ops|_=> #[]
theorem C3d{vals:Nat→D}{B:Av.Heap}{E0:FEnv}
  (r: ∀ev:Operand→D,EvC ev→ev (.tmp 2)=E0 2→Av.D1 Tryz.prog ev B (Av.Fin fun d H=>d=vals 0∧H=B) (Go.Op.load 28 (Go.Operand.tmp 2)))
  (h1: ∀ev:Operand→D,EvC ev→ev (.tmp 3)=E0 3→Av.D1 Tryz.prog ev B (Av.Fin fun d H=>d=vals 1∧H=B) (Go.Op.load 28 (Go.Operand.tmp 3)))
  (u: ∀ev:Operand→D,EvC ev→ev (.tmp 6)=vals 1→Av.D1 Tryz.prog ev B (Av.Fin fun d H=>d=vals 2∧H=B) (Go.Op.call {callee:=(Go.Callee.value (Go.Operand.func 50)),args:= #[(Go.Operand.tmp 6),(Go.Operand.const (Go.Value.bool true))],argTypes:= #[28,4]}))
  (x: ∀ev:Operand→D,EvC ev→ev (.tmp 5)=vals 0→ev (.tmp 7)=vals 2→Av.D1 Tryz.prog ev B (Av.Fin fun d H=>d=vals 3∧H=B) (Go.Op.buildSlice 26 2 #[(0,(Go.Operand.tmp 5)),(1,(Go.Operand.tmp 7))]))
  (y: ∀ev:Operand→D,EvC ev→ev (.tmp 8)=vals 3→Av.D1 Tryz.prog ev B (Av.Fin fun d H=>d=vals 4∧H=B) (Go.Op.build 28 #[(0,(Go.Operand.const (Go.Value.int Go.IntKind.i64 5))),(4,(Go.Operand.tmp 8))]))
  (h5: ∀ev:Operand→D,EvC ev→ev (.tmp 9)=vals 4→Av.D1 Tryz.prog ev B (Av.Fin fun d H=>d=vals 5∧H=B) (Go.Op.call {callee:=(Go.Callee.value (Go.Operand.func 73)),args:= #[(Go.Operand.tmp 9),(Go.Operand.const (Go.Value.slice none 0 0))],argTypes:= #[28,110]}))
  (z: ∀ev:Operand→D,EvC ev→ev (.tmp 10)=vals 5→Av.D1 Tryz.prog ev B (Av.Fin fun d H=>d=vals 6∧H=B) (Go.Op.unOp Go.UnOp.not 4 (Go.Operand.tmp 10)))
  (A: ∀ev:Operand→D,EvC ev→ev (.tmp 11)=vals 6→Av.D1 Tryz.prog ev B (Av.Fin fun d H=>d=vals 7∧H=B) (Go.Op.assign (Go.Operand.tmp 11)))
  :B0u Tryz.prog foOps vals B E0:=by
 obtain⟨C,g,G,I,J,w0⟩: ∃o,foOps[0]? =some o∧o.dst=some 5∧o.op=(Go.Op.load 28 (Go.Operand.tmp 2))∧o.guard=none∧(∀j∈([]:List Nat),j∈K2 o):=⟨_,rfl,rfl,rfl,rfl,by simp⟩
 obtain⟨L,o1,d1,M,O,w1⟩: ∃o,foOps[1]? =some o∧o.dst=some 6∧o.op=(Go.Op.load 28 (Go.Operand.tmp 3))∧o.guard=none∧(∀j∈([]:List Nat),j∈K2 o):=⟨_,rfl,rfl,rfl,rfl,by simp⟩
 obtain⟨T,o2,U,V,W,X⟩: ∃o,foOps[2]? =some o∧o.dst=some 7∧o.op=(Go.Op.call {callee:=(Go.Callee.value (Go.Operand.func 50)),args:= #[(Go.Operand.tmp 6),(Go.Operand.const (Go.Value.bool true))],argTypes:= #[28,4]})∧o.guard=none∧(∀j∈([1]:List Nat),j∈K2 o):=⟨_,rfl,rfl,rfl,rfl,by decide+kernel⟩
 obtain⟨Y,o3,d3,p3,g3,h⟩: ∃o,foOps[3]? =some o∧o.dst=some 8∧o.op=(Go.Op.buildSlice 26 2 #[(0,(Go.Operand.tmp 5)),(1,(Go.Operand.tmp 7))])∧o.guard=none∧(∀j∈([0,2]:List Nat),j∈K2 o):=⟨_,rfl,rfl,rfl,rfl,by decide+kernel⟩
 obtain⟨x4,m,d4,p4,g4,w4⟩: ∃o,foOps[4]? =some o∧o.dst=some 9∧o.op=(Go.Op.build 28 #[(0,(Go.Operand.const (Go.Value.int Go.IntKind.i64 5))),(4,(Go.Operand.tmp 8))])∧o.guard=none∧(∀j∈([3]:List Nat),j∈K2 o):=⟨_,rfl,rfl,rfl,rfl,by decide+kernel⟩
 obtain⟨x5,p,d5,p5,g5,w5⟩: ∃o,foOps[5]? =some o∧o.dst=some 10∧o.op=(Go.Op.call {callee:=(Go.Callee.value (Go.Operand.func 73)),args:= #[(Go.Operand.tmp 9),(Go.Operand.const (Go.Value.slice none 0 0))],argTypes:= #[28,110]})∧o.guard=none∧(∀j∈([4]:List Nat),j∈K2 o):=⟨_,rfl,rfl,rfl,rfl,by decide+kernel⟩
 obtain⟨x6,q,d6,p6,g6,w6⟩: ∃o,foOps[6]? =some o∧o.dst=some 11∧o.op=(Go.Op.unOp Go.UnOp.not 4 (Go.Operand.tmp 10))∧o.guard=none∧(∀j∈([5]:List Nat),j∈K2 o):=⟨_,rfl,rfl,rfl,rfl,by decide+kernel⟩
 obtain⟨x7,o7,d7,p7,g7,w7⟩: ∃o,foOps[7]? =some o∧o.dst=some 4∧o.op=(Go.Op.assign (Go.Operand.tmp 11))∧o.guard=none∧(∀j∈([6]:List Nat),j∈K2 o):=⟨_,rfl,rfl,rfl,rfl,by decide+kernel⟩
 have hs:foOps.size=8:=by kernel_rfl
 have n2:(foOps.toList.all fun oj=>oj.dst != some 2)=true:=by kernel_rfl
 have n3:(foOps.toList.all fun oj=>oj.dst != some 3)=true:=by kernel_rfl
 generalize foOps=ops at*;intro i o ho;have hi:i<8:=by have:=(D0z.1 ho).1;omega
 match i,hi with
 |0,_=>
  rw[g]at ho;cases ho;exact⟨J,fun F e he=>by rw[I];exact r F.ev ⟨fun _=>rfl,fun _=>rfl⟩ (he 2 n2)⟩
 |1,_=>
  rw[o1]at ho;cases ho;exact⟨O,fun F e he=>by rw[M];exact h1 F.ev ⟨fun _=>rfl,fun _=>rfl⟩ (he 3 n3)⟩
 |2,_=>
  rw[o2]at ho;cases ho;exact⟨W,fun F e he=>by rw[V];exact u F.ev ⟨fun _=>rfl,fun _=>rfl⟩ (e 1 L o1 (X 1 (by simp)) 6 d1)⟩
 |3,_=>
  rw[o3]at ho;cases ho;exact⟨g3,fun F e he=>by rw[p3];exact x F.ev ⟨fun _=>rfl,fun _=>rfl⟩ (e 0 C g (h 0 (by simp)) 5 G) (e 2 T o2 (h 2 (by simp)) 7 U)⟩
 |4,_=>
  rw[m]at ho;cases ho;exact⟨g4,fun F e he=>by rw[p4];exact y F.ev ⟨fun _=>rfl,fun _=>rfl⟩ (e 3 Y o3 (w4 3 (by simp)) 8 d3)⟩
 |5,_=>
  rw[p]at ho;cases ho;exact⟨g5,fun F e he=>by rw[p5];exact h5 F.ev ⟨fun _=>rfl,fun _=>rfl⟩ (e 4 x4 m (w5 4 (by simp)) 9 d4)⟩
 |6,_=>
  rw[q]at ho;cases ho;exact⟨g6,fun F e he=>by rw[p6];exact z F.ev ⟨fun _=>rfl,fun _=>rfl⟩ (e 5 x5 p (w6 5 (by simp)) 10 d5)⟩
 |7,_=>
  rw[o7]at ho;cases ho;exact⟨g7,fun F e he=>by rw[p7];exact A F.ev ⟨fun _=>rfl,fun _=>rfl⟩ (e 6 x6 q (w7 6 (by simp)) 11 d6)⟩
end Go.Proofs.YtibphjonmikciaaGreatDoor
namespace Go.Proofs.YtibphjonmikciaaGreatDoor
open Go Go.Shelf Go.RowKit Go.Maps
set_option maxHeartbeats 2000000 in
set_option maxRecDepth 100000 in
theorem A2s(b:Nat)(es:Array MapEntry)(d:Nat)(w:World)(hb:w.heap[b]? =some (.map es d)):
  Calls Tryz.prog 125 #[.map (some b)] w fun e w'=>e= .returned (.map (some w.heap.size))∧w'=w.alloc (.map es d):=by
 have h:Tryz.prog.follows .mixedOrders=true:=by kernel_rfl
 have u:=Tryz.underlying4;have x:=Tryz.isAgg4;have y:=Tryz.sizeOf4;have v4:=Tryz.zeroValue4;have g:=Tryz.underlying72;have i:=Tryz.isAgg72;have j:=Tryz.sizeOf72;have m:=Tryz.zeroValue72;have o:=Tryz.underlying20;have p:=Tryz.isAgg20;have q:=Tryz.sizeOf20;have r:=Tryz.zeroValue20;have hq:=fun w=>run_eql_map_nil_sl (P:=Tryz.prog) w 72 _ _ (some b) g
 go_enter Tryz.func125,Tryz.ntmps125
 go_wp2
 rw[run_callFunc_extern Tryz.func156 (by kernel_rfl) (by kernel_rfl) (by kernel_rfl) (e:=Extern.MapsClone.clone) (by kernel_rfl),run_maps_clone_sl w 72 hb];simp only[Result.andThen];rw[Oper.upon_value]
 go_wp2
 rw[run_typeAssert_map_sl _ 72 20 _ _ _ g];simp only[Result.andThen];rw[Oper.upon_value]
 go_wp2
 go_ret
 exact⟨rfl,rfl⟩
open Go Go.Av
theorem A1h{Q}(kvs:List (D×D))(H:Av.Heap)(h: ∀b,H b=none→Q (.map b) (H.set b (.map kvs))):D8 125 [.fm kvs] H Q:=by
 refine⟨by kernel_rfl,fun w vs hl hr hs=>?_⟩;obtain⟨a,rfl,m⟩:=A2C hl hr;cases m with
 |fm _ b es ck hb hn hst hlen hk g j=>
  refine(A2s b es ck w hb).mono ?_;rintro e w' ⟨rfl,rfl⟩;have he:=Ext.alloc H w (.map es ck);have d:=N3 (H:=H) (D0u w.heap.size) (.map kvs);exact⟨_,rfl,.map w.heap.size,H.set w.heap.size (.map kvs),.map _,hs.update he d (fun k hk _=>Go.RowKit.Below.heap_alloc _ _ _ hk) ⟨es,ck,M1 w _,hst,hlen,fun i p hp=>⟨hk i p hp,(g i p hp).mono he d,(j i p hp).mono he d⟩⟩,he,d,h _ (hs.fresh (D0u _))⟩
theorem A2t{Q}(m:Nat)(kvs:List (D×D))(H:Av.Heap)(hm:H m=some (.map kvs))(h: ∀b,H b=none→Q (.map b) (H.set b (.map kvs))):D8 125 [.map m] H Q:=by
 refine⟨by kernel_rfl,fun w vs hl hr hs=>?_⟩;obtain⟨a,rfl,j⟩:=A2C hl hr;cases j;obtain⟨es,ck,hb,hst,hlen,d⟩:=hs m _ hm;refine(A2s m es ck w hb).mono ?_;rintro e w' ⟨rfl,rfl⟩;have he:=Ext.alloc H w (.map es ck);have g:=N3 (H:=H) (D0u w.heap.size) (.map kvs);exact⟨_,rfl,.map w.heap.size,H.set w.heap.size (.map kvs),.map _,hs.update he g (fun k hk _=>Go.RowKit.Below.heap_alloc _ _ _ hk) ⟨es,ck,M1 w _,hst,hlen,fun i p hp=>⟨(d i p hp).1,(d i p hp).2.1.mono he g,(d i p hp).2.2.mono he g⟩⟩,he,g,h _ (hs.fresh (D0u _))⟩
end Go.Proofs.YtibphjonmikciaaGreatDoor
namespace Go.Fo
open Go Go.Av Go.Lexs Go.Lin
def D7:ByteArray:=⟨#[]⟩
def V1:Fm:=.mk 0 0 nilL D7 []
def A3I(l:LinV):Fm:=.mk 2 0 l D7 []
def shL(l:LinV)(sg:Int):LinV:=⟨l.t.map fun t=>⟨t.v,sg*t.c⟩,sg*l.k-1,false⟩
def opL(l:LinV):Fm:=if l.e=true then .mk 6 0 nilL D7 [A3I (shL l 1),A3I (shL l (-1))]else A3I (shL l (-1))
def opO(o:Int)(b:Bool):Int:=if b=true then 11-o else o
def normF:Fm→Bool→Fm
 | .mk o n l s ks,b=>
  if o=1 then .mk o (if b=true then 1-n else n) l s ks
  else if o=2 then(if b=true then opL l else .mk o n l s ks)
  else if o=3 then(if b=true then .mk 4 0 nilL D7 [.mk o n l s ks]else .mk o n l s ks)
  else if o=4 then normH ks (!b)
  else .mk (opO o b) 0 nilL D7 (normK ks b)
where
 normH:List Fm→Bool→Fm
 | [],_=>V1
 |f::_,b=>normF f b
 normK:List Fm→Bool→List Fm
 | [],_=>[]
 |f::fs,b=>normF f b::normK fs b
theorem B65(ks:List Fm)(b:Bool):normF.normK ks b=ks.map (normF · b):=by
 induction ks with
 |nil=>rfl
 |cons f fs d=>rw[normF.normK,d];rfl
theorem C1c{f:Fm}(b:Bool)(h:f.op=1):normF f b= .mk 1 (if b=true then 1-f.n else f.n) f.l f.s f.ks:=by
 obtain⟨o,n,l,s,ks⟩:=f;simp only[Fm.op]at h;subst h;rw[normF,if_pos rfl];rfl
theorem C1d{f:Fm}(b:Bool)(h:f.op=2):normF f b=if b=true then opL f.l else f:=by
 obtain⟨o,n,l,s,ks⟩:=f;simp only[Fm.op]at h;subst h;rw[normF,if_neg (by decide),if_pos rfl];rfl
theorem C1e{f:Fm}(b:Bool)(h:f.op=3):normF f b=if b=true then .mk 4 0 nilL D7 [f]else f:=by
 obtain⟨o,n,l,s,ks⟩:=f;simp only[Fm.op]at h;subst h;rw[normF,if_neg (by decide),if_neg (by decide),if_pos rfl]
theorem C1f{f k:Fm}(b:Bool)(h:f.op=4)(hk:f.ks= [k]):normF f b=normF k (!b):=by
 obtain⟨o,n,l,s,ks⟩:=f;simp only[Fm.op]at h;simp only[Fm.ks]at hk;subst h;subst hk;rw[normF,if_neg (by decide),if_neg (by decide),if_neg (by decide),if_pos rfl];rfl
theorem B66{f:Fm}(b:Bool)(h1:f.op≠1)(d:f.op≠2)(e:f.op≠3)(g:f.op≠4):normF f b= .mk (opO f.op b) 0 nilL D7 (f.ks.map (normF · b)):=by
 obtain⟨o,n,l,s,ks⟩:=f;simp only[Fm.op]at h1 d e g;rw[normF,if_neg h1,if_neg d,if_neg e,if_neg g,B65];rfl
theorem A3v(l:LinV):lin0 l=true↔l=nilL:=by
 obtain⟨t,k,e⟩:=l;unfold lin0 nilL;simp only[D0n,D0w,Bool.not_eq_true',LinV.mk.injEq];exact and_assoc
theorem B3U{s:ByteArray}(h:s.size=0):s=D7:=by
 obtain⟨d⟩:=s;have:d= #[]:=Array.eq_empty_of_size_eq_zero h;subst this;rfl
inductive A45:Fm→Prop
 |con (n:Int) (h:n=0∨n=1):A45 (.mk 1 n nilL D7 [])
 |lin (l:LinV) (h:validL l=true) (hp: ∀t∈l.t,plainB t.v=true):A45 (.mk 2 0 l D7 [])
 |var (s:ByteArray) (h:plainB s=true):A45 (.mk 3 0 nilL s [])
 |not (k:Fm):A45 (.mk 4 0 nilL D7 [k])
 |and(ks:List Fm):A45 (.mk 5 0 nilL D7 ks)
 |or (ks:List Fm):A45 (.mk 6 0 nilL D7 ks)
theorem B67{f:Fm}(h:D6 f=true):A45 f:=by
 unfold D6 at h;by_cases h1:f.op=1
 ·rw[if_pos h1]at h;obtain⟨o,n,l,s,ks⟩:=f;simp only[Fm.op,Fm.n,Fm.l,Fm.s,Fm.ks,D0n,D1x,List.isEmpty_iff]at h h1;obtain⟨⟨⟨hn,hs⟩,hl⟩,hk⟩:=h;have hn:n=0∨n=1:=hn.imp D0b D0b;rw[h1,B3U (D0b hs),(A3v l).1 hl,hk];exact .con n hn
 ·rw[if_neg h1]at h;by_cases d:f.op=2
  ·rw[if_pos d]at h;obtain⟨o,n,l,s,ks⟩:=f;simp only[Fm.op,Fm.n,Fm.l,Fm.s,Fm.ks,D0n,List.isEmpty_iff,D1B]at h d;obtain⟨⟨⟨⟨hn,hs⟩,hk⟩,hl⟩,hp⟩:=h;rw[d,show n=0 from D0b hn,B3U (D0b hs),hk];exact .lin l hl hp
  ·rw[if_neg d]at h;by_cases e:f.op=3
   ·rw[if_pos e]at h;obtain⟨o,n,l,s,ks⟩:=f;simp only[Fm.op,Fm.n,Fm.l,Fm.s,Fm.ks,D0n,List.isEmpty_iff]at h e;obtain⟨⟨⟨hn,hl⟩,hk⟩,hp⟩:=h;rw[e,show n=0 from D0b hn,(A3v l).1 hl,hk];exact .var s hp
   ·rw[if_neg e]at h;by_cases g:f.op=4
    ·rw[if_pos g]at h;obtain⟨o,n,l,s,ks⟩:=f;simp only[Fm.op,Fm.n,Fm.l,Fm.s,Fm.ks,D0n]at h g;obtain⟨⟨⟨hn,hs⟩,hl⟩,hk⟩:=h;obtain⟨k,rfl⟩:=List.length_eq_one_iff.1 (show ks.length=1 from D0b hk);rw[g,show n=0 from D0b hn,B3U (D0b hs),(A3v l).1 hl];exact .not k
    ·rw[if_neg g]at h;by_cases h5:f.op=5∨f.op=6
     ·rw[if_pos h5]at h;obtain⟨o,n,l,s,ks⟩:=f;simp only[Fm.op,Fm.n,Fm.l,Fm.s,Fm.ks,D0n]at h h5;obtain⟨⟨hn,hs⟩,hl⟩:=h;rw[show n=0 from D0b hn,B3U (D0b hs),(A3v l).1 hl];rcases h5 with rfl|rfl
      ·exact .and ks
      ·exact .or ks
     ·rw[if_neg h5]at h;cases h
theorem V2{f:Fm}(h:I0 D6 f=true):A45 f:=by
 rw[A1d,D0n]at h;exact B67 h.1
theorem P7{f:Fm}{p:Fm→Bool}(h:I0 p f=true){k:Fm}(hk:k∈f.ks):I0 p k=true:=by
 rw[A1d,D0n,D1B]at h;exact h.2 k hk
def B68(f:Fm):Fm×Int:=if E8 f=true then(if E8 (normF f true)=true then(normF f true,0)else(V1,3))else(V1,2)
theorem N0{f:Fm}(h:E8 f=true):I0 D6 f=true:=by
 rw[y4]at h;simp only[D0n]at h;exact h.1.1.1.1
theorem A3J{s:ByteArray}(h:G4 (B s)=true):s.size≤200:=by
 unfold G4 at h;simp only[D0n,D0w]at h;have:=h.1.1.2;simpa [B]using this
theorem B2F{l:LinV}(h:validL l=true)(d:Int)(hs:d=1∨d= -1):S3 (shL l d):=by
 have ok:=L7 h;refine⟨by unfold shL;simp only[D1J];have:=ok.len;omega,fun t e=>?_,fun t e=>?_,?_⟩
 ·obtain⟨x,hx,rfl⟩:=D1Y.1 (show t∈l.t.map _ from e);have:=A3J (N1 ok.t x hx).1;show x.v.size≤_;omega
 ·obtain⟨x,hx,rfl⟩:=D1Y.1 (show t∈l.t.map _ from e);have:=(N1 ok.t x hx).2.2;show Y4 (d*x.c);unfold Y4;rcases hs with rfl|rfl<;>omega
 ·have:=ok.k;show Y4 (d*l.k-1);unfold Y4;rcases hs with rfl|rfl<;>omega
theorem A1i:S3 nilL:=⟨by simp[nilL],by simp[nilL],by simp[nilL],by simp[nilL,Y4]⟩
theorem A2F{l:LinV}(h:S3 l):FmFit (A3I l):=.mk _ _ _ _ _ (by simp[Y4]) (by simp[Y4]) h (by decide) (by simp) (by simp)
theorem T8{o:Int}{ks:List Fm}(ho:Y4 o)(hl:ks.length≤1466015503658)(h: ∀k∈ks,FmFit k):FmFit (.mk o 0 nilL D7 ks):=.mk _ _ _ _ _ ho (by simp[Y4]) A1i (by decide) hl h
theorem B0v: ∀(f:Fm) (b:Bool),I0 D6 f=true→FmFit f→FmFit (normF f b)∧J3 (normF f b)≤3*J3 f:=by
 intro f
 induction f using S6 with
 |h o n l s ks i=>
  intro b r e;have hk: ∀k∈ks,I0 D6 k=true:=fun k hk=>P7 (f:=.mk o n l s ks) r hk;have j: ∀k∈ks,FmFit k:=fun k hk=>e.kid hk;have d: ∀(p:Int),p=5∨p=6→FmFit (normF (.mk p 0 nilL D7 ks) b)∧J3 (normF (.mk p 0 nilL D7 ks) b)≤3*J3 (.mk p 0 nilL D7 ks):=by
   intro p hp;rw[B66 b (by show p≠1;omega) (by show p≠2;omega) (by show p≠3;omega) (by show p≠4;omega)];refine⟨T8 (by show Y4 (opO p b);unfold opO Y4;split<;>omega) (by rw[D1J];exact e.kl) fun k hm=>?_,?_⟩
   ·obtain⟨x,hx,rfl⟩:=D1Y.1 hm;exact(i x hx b (hk x hx) (j x hx)).1
   ·have key: ∀m:List Fm,(∀k∈m,k∈ks)→J3.wtL (m.map (normF · b))≤3*J3.wtL m:=by
     intro m
     induction m with
     |nil=>intro _;simp[J3.wtL]
     |cons g y q=>
      intro hm;have z:=(i g (hm g (D0l ..)) b (hk g (hm g (D0l ..))) (j g (hm g (D0l ..)))).2;have A:=q fun k h=>hm k (D0s _ h);rw[D1r,J3.wtL,J3.wtL];omega
    rw[K6,K6];have:=key ks fun _ h=>h;show 1+([]:List LTm).length+J3.wtL (ks.map (normF · b))≤3*(1+([]:List LTm).length+J3.wtL ks);simp only[D0h];omega
  cases V2 r with
  |con n h=>
   rw[C1c b rfl];refine⟨.mk _ _ _ _ _ (by simp[Y4]) ?_ A1i (show D7.size≤_ by decide) (by simp[Fm.ks]) (by simp[Fm.ks]),?_⟩
   ·show Y4 (if b=true then 1-n else n);unfold Y4;split<;>omega
   ·rw[K6,K6];simp only[Fm.l,Fm.ks];omega
  |lin l h hp=>
   rw[C1d b rfl];cases b with
   |false=>exact⟨e,by simp only[D0q,if_false];omega⟩
   |true=>
    simp only[if_true,Fm.l];unfold opL;split
    ·refine⟨T8 (by simp[Y4]) (by simp) fun k hm=>?_,?_⟩
     ·simp only[D02,D03,or_false]at hm;rcases hm with rfl|rfl
      ·exact A2F (B2F h _ (.inl rfl))
      ·exact A2F (B2F h _ (.inr rfl))
     ·rw[K6,K6];simp[Fm.l,Fm.ks,J3.wtL,K6,A3I,shL,nilL];omega
    ·refine⟨A2F (B2F h _ (.inr rfl)),?_⟩;rw[K6,K6];simp[Fm.l,Fm.ks,J3.wtL,A3I,shL];omega
  |var s h=>
   rw[C1e b rfl];cases b with
   |false=>exact⟨e,by simp only[D0q,if_false];omega⟩
   |true=>
    simp only[if_true];refine⟨T8 (by simp[Y4]) (by simp) fun k hm=>?_,?_⟩
    ·rw[D01]at hm;rw[hm];exact e
    ·rw[K6,K6];simp[Fm.l,Fm.ks,J3.wtL,K6,nilL]
  |not k=>
   rw[C1f b rfl rfl];have:=i k (D0l ..) (!b) (hk k (D0l ..)) (j k (D0l ..));refine⟨this.1,?_⟩;have u:J3 (.mk 4 0 nilL D7 [k])=1+J3 k:=by rw[K6];simp[Fm.l,Fm.ks,J3.wtL,nilL]
   rw[u];omega
  |and ks=>exact d 5 (.inl rfl)
  |or ks=>exact d 6 (.inr rfl)
end Go.Fo
namespace Go.Proofs.YtibphjonmikciaaGreatDoor
open Go Go.Av Go.Lexs Go.Lin
attribute [local irreducible] ACalls S7
theorem B9i{Q}(a:LinV)(r:S3 a)(H:Heap)(h:Q (.bool true) H):D8 60 [.agg (D9 a),.agg (D9 a)] H Q:=by
 refine A9 [(6,.par)] A5 Tryz.func60 rfl ?_;simp only[go_sem,seval,Tryz.results60];intro d u e p;simp only[A6]at p;have e2:((H.set d (.box (D9 a))).set e (.box (D9 a))) d=some (.box (D9 a)):=by rw[A4 _ p.1.symm,A2]
 have e3:((H.set d (.box (D9 a))).set e (.box (D9 a))) e=some (.box (D9 a)):=A2 _ _;have m:H.Le ((H.set d (.box (D9 a))).set e (.box (D9 a))):=(A0 u).trans (A0 (by simp only[A6];exact p));generalize (H.set d (.box (D9 a))).set e (.box (D9 a))=Bs at e2 e3 m⊢;have x:d∈[d,e]:=by simp
 have y:e∈[d,e]:=by simp
 have hlen:=r.len;obtain⟨T,K,E⟩:=a;have hlen:T.length≤5864062014639:=hlen;have q:(E==E)=true:=by cases E<;>rfl
 repeat' simp only[go_sem,seval,e2,e3,q]
 refine C4 [2,3,29] (fun(i:Nat)=>[(30,.int .i64 i)]) (fun(i:Nat)=>Bs) (fun(i:Nat)=>i≤T.length) (fun(i:Nat)=>T.length-i) (0) (D0v _) (by(try simp only[go_sem,seval])<;>(try simp(disch:=omega) [A3])) (by first|exact D11 _|exact A0 (by assumption)|exact B2 (by assumption)|simp only[Heap.Le,Heap.set,Heap.del]at* <;>grind) ?_;rintro z rfl i A;by_cases g:i<T.length
 ·have j:decide ((i:Int)<T.length)=true:=D0c (by omega);have o:(i:Int)<T.length:=by omega
  repeat' simp only[go_sem,seval,j,o,A8 _ _ g,B4 _ _ g]
  refine F2 (fun C=>.undef) [d,e] ?_;repeat' (first|with_reducible apply D0a|simp only[go_sem,seval,j,o,A8 _ _ g,B4 _ _ g,e2,e3,x,y]|simp(disch:=omega) only[A3,A8]|omega)
  exact C2 (i+1) (by omega) (by omega) (by(try simp only[go_sem,seval])<;>(try simp(disch:=omega) [A3])) (by simp only[D4,C9,D0]at* <;>grind)
 ·have j:decide ((i:Int)<T.length)=false:=D0d (by omega);repeat' simp only[go_sem,seval,j]
  exact D12 m h
end Go.Proofs.YtibphjonmikciaaGreatDoor
namespace Go.Lin
open Go Go.Av Go.Lexs
theorem M4(n:Int):Lib.itoa n=(if n<0 then [45]else [])++dec n.natAbs:=by
 unfold Lib.itoa dec;by_cases h:n<0
 ·rw[if_pos h,if_pos h];rfl
 ·rw[if_neg h,if_neg h];have:n.toNat=n.natAbs:=by omega
  rw[this];rfl
theorem A6Y(n:Int)(h:n.natAbs<10000000000000000000):(Lib.itoa n).length≤20:=by
 rw[M4,D0g];have:=A5U 18 n.natAbs (by omega);split<;>simp<;>omega
theorem B69{α :Type}(T:List α)(i:Nat)(h:i<T.length):(T.take i).isEmpty=decide (i=0):=by
 cases T with
 |nil=>simp at h
 |cons x T=>cases i<;>simp
end Go.Lin
namespace Go.Proofs.YtibphjonmikciaaGreatDoor
open Go Go.Av Go.Lexs Go.Lin
attribute [local irreducible] ACalls S7
set_option maxHeartbeats 1000000 in
theorem B7A{Q}(a:LinV)(fa:S3 a)(H:Heap)(hT:Tabs H)(h:Q (.tuple [.str (if validL a=true then S (F7 a)else S []),.int .i64 (if validL a=true then 0 else 2)]) H):D8 115 [.agg (D9 a)] H Q:=by
 refine A9 [] A5 Tryz.func115 rfl ?_;simp only[go_sem,seval,Tryz.results115];intro b2 g2;have e2:(H.set b2 (.box (D9 a))) b2=some (.box (D9 a)):=A2 _ _;have m:H.Le (H.set b2 (.box (D9 a))):=A0 g2;generalize H.set b2 (.box (D9 a))=Bs at e2 m⊢;have a0:=hT.le m;by_cases c:validL a=true
 ·rw[if_pos c,if_pos c]at h;have hlen:=(L7 c).len;have vt:=B0s c;have nm: ∀t∈a.t,t.v.size≤200:=fun t ht=>A7p ((N1 (L7 c).t t ht).1);repeat' (first|simp only[go_sem,seval,e2,c]|with_reducible refine A8p a fa _ ?_)
  refine C4 [1,12,13] (fun(p:Nat×ByteArray×Heap)=>[(14,.int .i64 p.1),(4,.str p.2.1)]) (fun(p:Nat×ByteArray×Heap)=>p.2.2) (fun(p:Nat×ByteArray×Heap)=>p.1≤a.t.length∧B p.2.1=L5 true (a.t.take p.1)∧p.2.1.size≤1000*p.1∧Bs.Le p.2.2) (fun(p:Nat×ByteArray×Heap)=>a.t.length-p.1) ((0,⟨#[]⟩,Bs)) (⟨D0v _,rfl,D0v _,D11 _⟩) (by(try simp only[go_sem,seval])<;>(try simp(disch:=omega) [A3])) (by first|exact D11 _|exact A0 (by assumption)|exact B2 (by assumption)|simp only[Heap.Le,Heap.set,Heap.del]at* <;>grind) ?_;rintro Ec rfl ⟨i,x,Hp⟩ ⟨hi,q,a4,hp⟩;simp only at hi q a4 hp;by_cases g:i<a.t.length
  ·have j:decide ((i:Int)<a.t.length)=true:=D0c (by omega);have C:(i:Int)<a.t.length:=by omega
   obtain⟨x0,x1⟩:=vt _ (D0o g);have a6:=nm _ (D0o g);have r:=a0.le hp;have hz: ∀b o,Hp b=none→Tabs (Hp.set b o):=fun b o hb=>r.le (A0 hb);have G:(⟨#[45]⟩:ByteArray).size=1:=rfl;have z:(⟨#[43]⟩:ByteArray).size=1:=rfl;have I:(⟨#[42]⟩:ByteArray).size=1:=rfl;have Y:L5 true (a.t.take (i+1))=L5 true (a.t.take i)++U8 (decide (i=0)) a.t[i]:=by rw[D0t g,B0K,B69 _ _ g,Bool.true_and]
   have ws:IntKind.i64.wrap (0-a.t[i].c)= -a.t[i].c:=by rw[A3 (by omega) (by omega)];omega
   have u:=A6Y a.t[i].c (by omega);by_cases J:a.t[i].c<0
   ·have u:=A6Y (-a.t[i].c) (by omega);by_cases V: -a.t[i].c=1
    ·have W:True:=trivial;repeat' (first|with_reducible apply D0a|simp only[go_sem,seval,j,C,A8 _ _ g,B4 _ _ g,ws,J,V,W,u]|simp(disch:=omega) only[A3,A8]|intro M|omega)
     have O:a.t[i].c.natAbs=1:=by omega
     have T:Lib.itoa (-a.t[i].c)=dec a.t[i].c.natAbs:=by rw[M4,if_neg (by omega),D1m]<;>(try(congr 1;omega))
     skip
     refine C2 (i+1,x++⟨#[45]⟩++a.t[i].v,_) ⟨by simp only[];omega,?_,?_,hp.trans (A0 (by assumption))⟩ (by simp only[];omega) (by(try simp only[go_sem,seval])<;>(try simp(disch:=omega) [A3])) (D11 _)
     ·simp only[A0C,x9,A0a,q,Y,U8,O,J,T,if_true,if_false];simp
     ·simp only[ByteArray.size_append,P0,G,z,I];omega
    ·have W:True:=trivial;repeat' (first|with_reducible apply D0a|simp only[go_sem,seval,j,C,A8 _ _ g,B4 _ _ g,ws,J,V,W,u]|simp(disch:=omega) only[A3,A8]|intro M|with_reducible refine A1c _ (by omega) (by omega) _ (hz _ _ (by assumption)) ?_|omega)
     have O: ¬a.t[i].c.natAbs=1:=by omega
     have T:Lib.itoa (-a.t[i].c)=dec a.t[i].c.natAbs:=by rw[M4,if_neg (by omega),D1m]<;>(try(congr 1;omega))
     skip
     refine C2 (i+1,x++⟨#[45]⟩++(S (Lib.itoa (-a.t[i].c))++⟨#[42]⟩)++a.t[i].v,_) ⟨by simp only[];omega,?_,?_,hp.trans (A0 (by assumption))⟩ (by simp only[];omega) (by(try simp only[go_sem,seval])<;>(try simp(disch:=omega) [A3])) (D11 _)
     ·simp only[A0C,x9,A0a,q,Y,U8,O,J,T,if_true,if_false];simp
     ·simp only[ByteArray.size_append,P0,G,z,I];omega
   ·by_cases W:(0:Int)<i
    ·by_cases V:a.t[i].c=1
     ·repeat' (first|with_reducible apply D0a|simp only[go_sem,seval,j,C,A8 _ _ g,B4 _ _ g,ws,J,V,W,u]|simp(disch:=omega) only[A3,A8]|intro M|omega)
      have O:a.t[i].c.natAbs=1:=by omega
      have T:Lib.itoa a.t[i].c=dec a.t[i].c.natAbs:=by rw[M4,if_neg (by omega),D1m]<;>(try(congr 1;omega))
      have X:decide (i=0)=false:=by simp;omega
      refine C2 (i+1,x++⟨#[43]⟩++a.t[i].v,_) ⟨by simp only[];omega,?_,?_,hp.trans (A0 (by assumption))⟩ (by simp only[];omega) (by(try simp only[go_sem,seval])<;>(try simp(disch:=omega) [A3])) (D11 _)
      ·simp only[A0C,x9,A0a,q,Y,U8,O,J,T,X,if_true,if_false];simp
      ·simp only[ByteArray.size_append,P0,G,z,I];omega
     ·repeat' (first|with_reducible apply D0a|simp only[go_sem,seval,j,C,A8 _ _ g,B4 _ _ g,ws,J,V,W,u]|simp(disch:=omega) only[A3,A8]|intro M|with_reducible refine A1c _ (by omega) (by omega) _ (hz _ _ (by assumption)) ?_|omega)
      have O: ¬a.t[i].c.natAbs=1:=by omega
      have T:Lib.itoa a.t[i].c=dec a.t[i].c.natAbs:=by rw[M4,if_neg (by omega),D1m]<;>(try(congr 1;omega))
      have X:decide (i=0)=false:=by simp;omega
      refine C2 (i+1,x++⟨#[43]⟩++(S (Lib.itoa a.t[i].c)++⟨#[42]⟩)++a.t[i].v,_) ⟨by simp only[];omega,?_,?_,hp.trans (A0 (by assumption))⟩ (by simp only[];omega) (by(try simp only[go_sem,seval])<;>(try simp(disch:=omega) [A3])) (D11 _)
      ·simp only[A0C,x9,A0a,q,Y,U8,O,J,T,X,if_true,if_false];simp
      ·simp only[ByteArray.size_append,P0,G,z,I];omega
    ·by_cases V:a.t[i].c=1
     ·repeat' (first|with_reducible apply D0a|simp only[go_sem,seval,j,C,A8 _ _ g,B4 _ _ g,ws,J,V,W,u]|simp(disch:=omega) only[A3,A8]|intro M|omega)
      have O:a.t[i].c.natAbs=1:=by omega
      have T:Lib.itoa a.t[i].c=dec a.t[i].c.natAbs:=by rw[M4,if_neg (by omega),D1m]<;>(try(congr 1;omega))
      have X:decide (i=0)=true:=by simp;omega
      refine C2 (i+1,x++a.t[i].v,_) ⟨by simp only[];omega,?_,?_,hp.trans (A0 (by assumption))⟩ (by simp only[];omega) (by(try simp only[go_sem,seval])<;>(try simp(disch:=omega) [A3])) (D11 _)
      ·simp only[A0C,x9,A0a,q,Y,U8,O,J,T,X,if_true,if_false];simp
      ·simp only[ByteArray.size_append,P0,G,z,I];omega
     ·repeat' (first|with_reducible apply D0a|simp only[go_sem,seval,j,C,A8 _ _ g,B4 _ _ g,ws,J,V,W,u]|simp(disch:=omega) only[A3,A8]|intro M|with_reducible refine A1c _ (by omega) (by omega) _ (hz _ _ (by assumption)) ?_|omega)
      have O: ¬a.t[i].c.natAbs=1:=by omega
      have T:Lib.itoa a.t[i].c=dec a.t[i].c.natAbs:=by rw[M4,if_neg (by omega),D1m]<;>(try(congr 1;omega))
      have X:decide (i=0)=true:=by simp;omega
      refine C2 (i+1,x++(S (Lib.itoa a.t[i].c)++⟨#[42]⟩)++a.t[i].v,_) ⟨by simp only[];omega,?_,?_,hp.trans (A0 (by assumption))⟩ (by simp only[];omega) (by(try simp only[go_sem,seval])<;>(try simp(disch:=omega) [A3])) (D11 _)
      ·simp only[A0C,x9,A0a,q,Y,U8,O,J,T,X,if_true,if_false];simp
      ·simp only[ByteArray.size_append,P0,G,z,I];omega
  ·have j:decide ((i:Int)<a.t.length)=false:=D0d (by omega);have a5:i=a.t.length:=by omega
   subst a5;have y:=hp _ _ e2;have r:=a0.le hp;rw[List.take_length]at q;have vk:=(L7 c).k;have u:=A6Y a.k (by omega);have z:(⟨#[43]⟩:ByteArray).size=1:=rfl;by_cases t0:a.t= []
   ·have U:(a.t.length:Int)=0:=by rw[t0];rfl
    have x0:x=⟨#[]⟩:=U7 (by rw[q,t0];rfl);by_cases d:a.e=true
    ·have d:a.e=true:=d;have A:B (x++S (Lib.itoa a.k)++⟨#[61,48]⟩)=F7 a:=by
      unfold F7 M2 S5;simp[A0C,x9,A0a,q,d,A0S,M4,t0]
     have hs:S (F7 a)=x++S (Lib.itoa a.k)++⟨#[61,48]⟩:=U7 (by rw[x9,A]);rw[hs]at h;repeat' (first|with_reducible apply D0a|simp only[go_sem,seval,j,y,d,U]|with_reducible refine A1c _ (by omega) (by omega) _ r ?_|omega)
     exact D12 (m.trans hp) h
    ·have d:a.e=false:=by simpa using d
     have A:B (x++S (Lib.itoa a.k)++⟨#[62,61,48]⟩)=F7 a:=by
      unfold F7 M2 S5;simp[A0C,x9,A0a,q,d,A0S,M4,t0]
     have hs:S (F7 a)=x++S (Lib.itoa a.k)++⟨#[62,61,48]⟩:=U7 (by rw[x9,A]);rw[hs]at h;repeat' (first|with_reducible apply D0a|simp only[go_sem,seval,j,y,d,U]|with_reducible refine A1c _ (by omega) (by omega) _ r ?_|omega)
     exact D12 (m.trans hp) h
   ·have U: ¬(a.t.length:Int)=0:=fun e=>t0 (D0y (by omega));have l1:(0:Int)<a.t.length:=by omega
    have le:a.t.isEmpty=false:=by cases h:a.t with|nil=>exact absurd h t0|cons=>rfl
    by_cases L:a.k=0
    ·by_cases d:a.e=true
     ·have d:a.e=true:=d;have A:B (x++⟨#[61,48]⟩)=F7 a:=by
       unfold F7 M2 S5;simp[A0C,x9,A0a,q,d,A0S,M4,L,t0]
      have hs:S (F7 a)=x++⟨#[61,48]⟩:=U7 (by rw[x9,A]);rw[hs]at h;repeat' (first|with_reducible apply D0a|simp only[go_sem,seval,j,y,d,U,l1,L]|omega)
      exact D12 (m.trans hp) h
     ·have d:a.e=false:=by simpa using d
      have A:B (x++⟨#[62,61,48]⟩)=F7 a:=by
       unfold F7 M2 S5;simp[A0C,x9,A0a,q,d,A0S,M4,L,t0]
      have hs:S (F7 a)=x++⟨#[62,61,48]⟩:=U7 (by rw[x9,A]);rw[hs]at h;repeat' (first|with_reducible apply D0a|simp only[go_sem,seval,j,y,d,U,l1,L]|omega)
      exact D12 (m.trans hp) h
    ·by_cases k1:0<a.k
     ·have k2: ¬a.k<0:=by omega
      by_cases d:a.e=true
      ·have d:a.e=true:=d;have A:B (x++⟨#[43]⟩++S (Lib.itoa a.k)++⟨#[61,48]⟩)=F7 a:=by
        unfold F7 M2 S5;simp[A0C,x9,A0a,q,d,A0S,M4,L,t0,k2,le]
       have hs:S (F7 a)=x++⟨#[43]⟩++S (Lib.itoa a.k)++⟨#[61,48]⟩:=U7 (by rw[x9,A]);rw[hs]at h;repeat' (first|with_reducible apply D0a|simp only[go_sem,seval,j,y,d,U,l1,L,k1]|with_reducible refine A1c _ (by omega) (by omega) _ r ?_|omega)
       exact D12 (m.trans hp) h
      ·have d:a.e=false:=by simpa using d
       have A:B (x++⟨#[43]⟩++S (Lib.itoa a.k)++⟨#[62,61,48]⟩)=F7 a:=by
        unfold F7 M2 S5;simp[A0C,x9,A0a,q,d,A0S,M4,L,t0,k2,le]
       have hs:S (F7 a)=x++⟨#[43]⟩++S (Lib.itoa a.k)++⟨#[62,61,48]⟩:=U7 (by rw[x9,A]);rw[hs]at h;repeat' (first|with_reducible apply D0a|simp only[go_sem,seval,j,y,d,U,l1,L,k1]|with_reducible refine A1c _ (by omega) (by omega) _ r ?_|omega)
       exact D12 (m.trans hp) h
     ·have k2:a.k<0:=by omega
      by_cases d:a.e=true
      ·have d:a.e=true:=d;have A:B (x++S (Lib.itoa a.k)++⟨#[61,48]⟩)=F7 a:=by
        unfold F7 M2 S5;simp[A0C,x9,A0a,q,d,A0S,M4,L,t0,k2,le]
       have hs:S (F7 a)=x++S (Lib.itoa a.k)++⟨#[61,48]⟩:=U7 (by rw[x9,A]);rw[hs]at h;repeat' (first|with_reducible apply D0a|simp only[go_sem,seval,j,y,d,U,l1,L,k1]|with_reducible refine A1c _ (by omega) (by omega) _ r ?_|omega)
       exact D12 (m.trans hp) h
      ·have d:a.e=false:=by simpa using d
       have A:B (x++S (Lib.itoa a.k)++⟨#[62,61,48]⟩)=F7 a:=by
        unfold F7 M2 S5;simp[A0C,x9,A0a,q,d,A0S,M4,L,t0,k2,le]
       have hs:S (F7 a)=x++S (Lib.itoa a.k)++⟨#[62,61,48]⟩:=U7 (by rw[x9,A]);rw[hs]at h;repeat' (first|with_reducible apply D0a|simp only[go_sem,seval,j,y,d,U,l1,L,k1]|with_reducible refine A1c _ (by omega) (by omega) _ r ?_|omega)
       exact D12 (m.trans hp) h
 ·rw[if_neg c,if_neg c]at h;have c:validL a=false:=by simpa using c
  repeat' (first|simp only[go_sem,seval,e2,c]|with_reducible refine A8p a fa _ ?_)
  exact D12 m h
end Go.Proofs.YtibphjonmikciaaGreatDoor
namespace Go.Lin
open Go Go.Av Go.Lexs
theorem B7B(l:List UInt8)(c:UInt8)(h:c∈l):Lib.indexByte l c=((l.takeWhile (· != c)).length:Int)∧(l.takeWhile (· != c)).length<l.length:=by
 induction l with
 |nil=>cases h
 |cons b l d=>
  unfold Lib.indexByte;by_cases e:b=c
  ·subst e;simp
  ·have e1:(b==c)=false:=by simpa using e
   have hm:c∈l:=(D02.1 h).resolve_left (fun g=>e g.symm);obtain⟨i,j⟩:=d hm;have e2:(b != c)=true:=by simp[e]
   rw[e1,i,List.takeWhile_cons,if_pos e2];have e3:(((l.takeWhile (· != c)).length:Int)== -1)=false:=by
    simp only[beq_eq_false_iff_ne,ne_eq];omega
   rw[e3];simp only[D0q,if_false,D0f];omega
theorem B7C(l:List UInt8)(c:UInt8)(h:c∉l):Lib.indexByte l c= -1:=by
 induction l with
 |nil=>rfl
 |cons b l d=>
  unfold Lib.indexByte;have e1:(b==c)=false:=by
   simp only[beq_eq_false_iff_ne,ne_eq];rintro rfl;exact h (D0l ..)
  rw[e1,d (fun g=>h (D0s _ g))];rfl
theorem B9j(l:List UInt8)(p:UInt8→Bool):l.take (l.takeWhile p).length=l.takeWhile p:=by
 induction l with
 |nil=>rfl
 |cons b l d=>rw[List.takeWhile_cons];split<;>simp[d]
theorem B9k(l:List UInt8)(p:UInt8→Bool):l.drop (l.takeWhile p).length=l.dropWhile p:=by
 induction l with
 |nil=>rfl
 |cons b l d=>rw[List.takeWhile_cons,List.dropWhile_cons];split<;>simp[d]
theorem A6Z{l c n:List UInt8}(h:A0T l=some (c,n)):Lib.indexByte l 42=(c.length:Int)∧c.length<l.length∧l.take c.length=c∧l.drop (c.length+1)=n:=by
 unfold A0T at h;split at h
 ·rename_i hm;injection h with h
  have h1:l.takeWhile (· != 42)=c:=congrArg Prod.fst h;have i:(l.dropWhile (· != 42)).drop 1=n:=congrArg Prod.snd h;obtain⟨e,g⟩:=B7B l 42 hm;have t:=B9j l (· != 42);have d:=B9k l (· != 42);rw[h1]at e g t d;refine⟨e,g,t,?_⟩;rw[←i,←d,D1k]
 ·cases h
theorem B7D{l:List UInt8}(h:A0T l=none):Lib.indexByte l 42= -1:=by
 unfold A0T at h;split at h
 ·cases h
 ·rename_i hm;exact B7C l 42 hm
end Go.Lin
namespace Go.Proofs.YtibphjonmikciaaGreatDoor
open Go Go.Av Go.RowKit Go.Lexs Go.Lin
attribute [local irreducible] ACalls S7
theorem B3V{Q}(s:ByteArray)(H:Heap)(h:Q (.int .i64 (Lib.indexByte (B s) 42)) H):D8 236 [.str s,.str ⟨#[42]⟩] H Q:=
 J2 (by kernel_rfl) (fun w vs hl hr hs=>by
  obtain⟨a,b,rfl,d,hb⟩:=A0N hl hr;rw[d.str_inv,hb.str_inv];refine(Tryz.stringslite_Index_one s 42 w).mono fun e w' ⟨he,hw⟩=>?_;subst hw;exact⟨_,he,Below.refl _ _,.int _ _⟩) h
theorem C3e{Q}(s:ByteArray)(c n:List UInt8)(hc:A0T (B s)=some (c,n))(hsz:s.size≤1000000000000)(H:Heap)(h:Q (.tuple [.str (S c),.str (S n),.bool true]) H):D8 216 [.str s,.str ⟨#[42]⟩] H Q:=by
 refine A9 [] A5 Tryz.func216 rfl ?_;simp only[go_sem,seval,Tryz.results216];obtain⟨h1,o,i,j⟩:=A6Z hc;have hl:=U6 s;have d:((⟨#[42]⟩:ByteArray).size:Int)=1:=rfl;have hw:IntKind.i64.wrap ((c.length:Int)+1)=(c.length:Int)+1:=A3 (by omega) (by omega);have e:(0:Int)≤(c.length:Int)+1:=by omega
 have hk:(c.length:Int)≤s.size:=by omega
 have g:(c.length:Int)+1≤s.size:=by omega
 repeat' (first|with_reducible apply D0a|simp only[go_sem,seval,h1,d,hw,hk,g,e]|intro m|with_reducible refine B3V s _ ?_|omega)
 rw[i,j];exact D15 h
theorem C3f{Q}(s:ByteArray)(c n:List UInt8)(hc:A0T (B s)=some (c,n))(hsz:s.size≤1000000000000)(H:Heap)(h:Q (.tuple [.str (S c),.str (S n),.bool true]) H):D8 187 [.str s,.str ⟨#[42]⟩] H Q:=by
 refine A9 [] A5 Tryz.func187 rfl ?_;simp only[go_sem,seval,Tryz.results187];repeat' (first|simp only[go_sem,seval]|with_reducible refine C3e s c n hc hsz _ ?_)
 exact D15 h
theorem C3g{Q}(s:ByteArray)(hc:A0T (B s)=none)(H:Heap)(h:Q (.tuple [.str s,.str ⟨#[]⟩,.bool false]) H):D8 216 [.str s,.str ⟨#[42]⟩] H Q:=by
 refine A9 [] A5 Tryz.func216 rfl ?_;simp only[go_sem,seval,Tryz.results216];have h1:=B7D hc;repeat' (first|simp only[go_sem,seval,h1]|with_reducible refine B3V s _ ?_)
 exact D15 h
theorem A8v{Q}(s:ByteArray)(hc:A0T (B s)=none)(H:Heap)(h:Q (.tuple [.str s,.str ⟨#[]⟩,.bool false]) H):D8 187 [.str s,.str ⟨#[42]⟩] H Q:=by
 refine A9 [] A5 Tryz.func187 rfl ?_;simp only[go_sem,seval,Tryz.results187];repeat' (first|simp only[go_sem,seval]|with_reducible refine C3g s hc _ ?_)
 exact D15 h
theorem B9l{Q}(s:ByteArray)(hsz:s.size≤1000000000000)(v:Int)(hv:Lib.atoiAll (B s)= .ok v)(H:Heap)(h:Q (.tuple [.int .i64 v,.nilif]) H):D8 188 [.str s] H Q:=
 J2 (by kernel_rfl) (fun w vs hl hr hs=>by
  obtain⟨a,rfl,j⟩:=A2C hl hr;rw[j.str_inv];refine(Tryz.strconv_Atoi_ok s (by omega) v hv w).mono fun e w' ⟨he,hw⟩=>?_;have m:Below w.heap.size w w':=by
   rcases hw with rfl|⟨t,rfl⟩
   ·exact Below.refl _ _
   ·exact B0X _ _ _
  exact⟨_,he,m,.tuple _ _ rfl fun i d g=>(match i,g with|0,g=>by simp at g;subst g;exact .int _ _|1,g=>by simp at g;subst g;exact .nilif|i+2,g=>by simp at g)⟩) h
theorem B0w{w:World}{H:Heap}{g t:Nat}(hs:Sat H w)(h:H g=some (.ro [.iface t .undef])): ∃v,w.cell? ⟨g,0,none⟩=some (.iface t v):=by
 obtain⟨c,T,m,h1,i,j⟩:=hs g _ h;have d:=(j 0 _ rfl).2;have o:c.size=1:=i;have e:w.cell? ⟨g,0,none⟩=some (c.getD 0 Go.undef):=by
  rw[U1 h1];have:0<c.size:=by omega
  simp[this]
 generalize c.getD 0 Go.undef=x at d e;cases d with
 |iface _ _ v hr=>exact⟨v,e⟩
theorem B9m{Q}(s:ByteArray)(hsz:s.size≤1000000000000)(hv: ∀v,Lib.atoiAll (B s)≠ .ok v)(H:Heap)(p:Tabs H)(h: ∀n t,Q (.tuple [.int .i64 n,.iface t .undef]) H):D8 188 [.str s] H Q:=by
 have q: ∀(w:World) (n:Int) (t:Nat) (v:Value),R w H (.tuple [.int .i64 n,.iface t .undef]) (.tuple #[.int .i64 n,.iface t v]):=fun w n t v=>
  .tuple _ _ rfl fun i d g=>(match i,g with|0,g=>by simp at g;subst g;exact .int _ _|1,g=>by simp at g;subst g;exact .iface _ _ _ (.undef _)|i+2,g=>by simp at g)
 cases hc:Lib.atoiAll (B s)with
 |ok v=>exact absurd hc (hv v)
 |range=>
  refine J2 (r:=.tuple [.int .i64 (Lib.atoiSat (B s)),.iface 266 .undef]) (by kernel_rfl) (fun w vs hl hr hs=>?_) (h _ _);obtain⟨a,rfl,j⟩:=A2C hl hr;rw[j.str_inv];obtain⟨t,m⟩:=p.rng;obtain⟨x,hx⟩:=B0w hs m;refine(Tryz.strconv_Atoi_range s (by omega) hc _ w hx (.inr ⟨_,_,rfl⟩)).mono fun e w' ⟨N,he,_,_,o⟩=>⟨_,he,o,q w' _ _ _⟩
 |_=>
  refine J2 (r:=.tuple [.int .i64 0,.iface 266 .undef]) (by kernel_rfl) (fun w vs hl hr hs=>?_) (h _ _);obtain⟨a,rfl,j⟩:=A2C hl hr;rw[j.str_inv];obtain⟨t,m⟩:=p.syn;obtain⟨x,hx⟩:=B0w hs m;refine(Tryz.strconv_Atoi_syntax s (by omega) hc _ w hx (.inr ⟨_,_,rfl⟩)).mono fun e w' ⟨N,he,_,_,o⟩=>⟨_,he,o,q w' _ _ _⟩
end Go.Proofs.YtibphjonmikciaaGreatDoor
namespace Go.Lin
open Go Go.Av Go.Lexs
theorem B9n{l:List UInt8}{k:Nat}(h:k<l.length):V8 l k=(l[k].toNat:Int):=by simp[V8,h]
theorem A8w{l:List UInt8}{k:Nat}(h:k<l.length):sgn l[k]=true↔(V8 l k=43∨V8 l k=45):=by
 rw[B9n h];unfold sgn;simp only[D1x,beq_iff_eq];constructor
 ·rintro(e|e)
  ·left;rw[e];rfl
  ·right;rw[e];rfl
 ·rintro(e|e)
  ·left;apply UInt8.toNat_inj.1;show _=43;omega
  ·right;apply UInt8.toNat_inj.1;show _=45;omega
theorem C6y:S []=⟨#[]⟩:=rfl
theorem C6z:S [49]=⟨#[49]⟩:=rfl
theorem B7E{P:Program}{t:Nat}(hb:C8 P t= .iface):K9 P .eql t true .nilif .nilif=some (.bool true):=by simp[K9,A5i,A9W,hb]
theorem B7F{P:Program}{t u:Nat}{d:D}(hb:C8 P t= .iface):K9 P .eql t true (.iface u d) .nilif=some (.bool false):=by simp[K9,A5i,A9W,hb]
theorem B3W{p:UInt8→Bool}: ∀(l:List UInt8) (k:Nat),k≤l.length→(∀c∈l.take k,p c=true)→(∀h:k<l.length,p l[k]=false)→l.takeWhile p=l.take k∧l.dropWhile p=l.drop k
 | [],k,hk,_,_=>by simp
 |c::l,0,_,_,h=>by
  have:p c=false:=h (by simp);simp[this]
 |c::l,k+1,hk,h1,d=>by
  have hc:p c=true:=h1 c (by simp);obtain⟨a,b⟩:=B3W l k (by simpa using hk) (fun x hx=>h1 x (by simp[hx])) (fun h=>d (by simpa using h));simp[hc,a,b]
theorem A67{p:UInt8→Bool}{v:Bool}{l:List UInt8}{k:Nat}(h:k<l.length)(h1: ∀c∈l.take k,p c=v)(d:p l[k]=v): ∀c∈l.take (k+1),p c=v:=fun c hc=>by
 rw[D0t h]at hc;rcases D00.1 hc with g|g
 ·exact h1 c g
 ·rw[D01]at g;subst g;exact d
theorem B2G{b:List UInt8}(h:A0J b=none):b= []:=by
 unfold A0J at h;cases hc:A0T b with
 |some p=>rw[hc]at h;cases h
 |none=>
  rw[hc]at h;simp only[]at h;split at h
  ·cases h
  ·split at h
   ·rename_i e;exact e
   ·cases h
theorem split_some{b c n:List UInt8}(h:A0J b=some (c,n)):A0T b=some (c,n)∨(A0T b=none∧b≠[]∧((Q0 b=true∧c=b∧n= [])∨(Q0 b=false∧c= [49]∧n=b))):=by
 unfold A0J at h;cases hc:A0T b with
 |some p=>rw[hc]at h;left;exact h
 |none=>
  rw[hc]at h;simp only[]at h
  right
  split at h
  ·rename_i d;injection h with h
   refine⟨rfl,?_,.inl ⟨d,(congrArg Prod.fst h).symm,(congrArg Prod.snd h).symm⟩⟩;rintro rfl;cases d
  ·rename_i d;split at h
   ·cases h
   ·rename_i e;injection h with h
    exact⟨rfl,e,.inr ⟨by simpa using d,(congrArg Prod.fst h).symm,(congrArg Prod.snd h).symm⟩⟩
theorem B4l{b c n:List UInt8}(h:A0J b=some (c,n)):c.length≤b.length+1:=by
 rcases split_some h with h|⟨_,d,⟨_,rfl,_⟩|⟨_,rfl,_⟩⟩
 ·have:=(A6Z h).2.1;omega
 ·omega
 ·have:=List.length_pos_iff.2 d;simp
end Go.Lin
namespace Go.Proofs.YtibphjonmikciaaGreatDoor
open Go Go.Av Go.Lexs Go.Lin
attribute [local irreducible] ACalls S7
set_option maxHeartbeats 4000000 in
theorem C3h{Q}(s:ByteArray)(x:UInt8)(r:List UInt8)(hB:B s=x::r)(hs:s.size≤1000000000)(H:Heap)(hT:Tabs H)
  (hN:M7 (x::r.takeWhile (!sgn ·))=none→∀v n z,Q (.tuple [.agg [.str v,.int .i64 n],.str z,.bool false]) H)
  (hY: ∀n v,M7 (x::r.takeWhile (!sgn ·))=some (n,v)→Q (.tuple [.agg [.str (S n),.int .i64 v],.str (S (r.dropWhile (!sgn ·))),.bool true]) H):
  D8 150 [.str s] H Q:=by
 refine A9 [(4,.wk),(8,.wk),(15,.wk)] A5 Tryz.func150 rfl ?_;simp only[go_sem,seval,Tryz.results150];have hl:=U6 s;have c4:s.size=r.length+1:=by rw[←hl,hB];rfl
 intro j g2;have e2:(H.set j (.box [.str ⟨#[]⟩,.int .i64 0])) j=some (.box [.str ⟨#[]⟩,.int .i64 0]):=A2 _ _;have u:H.Le (H.set j (.box [.str ⟨#[]⟩,.int .i64 0])):=A0 g2;generalize H.set j (.box [.str ⟨#[]⟩,.int .i64 0])=Bs at e2 u⊢;have b7:=hT.le u;refine C4 [0,2] (fun(n:Nat)=>[(5,.int .i64 n)]) (fun(n:Nat)=>Bs) (fun(n:Nat)=>1≤n∧n-1≤r.length∧∀c∈r.take (n-1),sgn c=false) (fun(n:Nat)=>r.length+1-n) (1) (⟨D0u _,D0v _,by simp⟩) (by(try simp only[go_sem,seval])<;>(try simp(disch:=omega) [A3])) (by first|exact D11 _|exact A0 (by assumption)|exact B2 (by assumption)|simp only[Heap.Le,Heap.set,Heap.del]at* <;>grind) ?_;rintro Ec rfl n ⟨c5,hk,y⟩;obtain⟨k,b8⟩: ∃k,k=n-1:=⟨_,rfl⟩
 rw[←b8]at hk y;have W:n=k+1:=by omega
 apply P8 (C:=∀h:k<r.length,sgn r[k]=true)
 ·intro A;have hw:IntKind.i64.wrap ((n:Int)+1)=(n:Int)+1:=A3 (by omega) (by omega);have hn:S7 s (n:Int)=V8 r k:=by
   rw[B9Q,hB,show (n:Int).toNat=k+1 by omega];rfl
  by_cases G:k<r.length
  ·have I:decide ((n:Int)<s.size)=true:=D0c (by omega);have Y:(n:Int)<s.size:=by omega
   by_cases J:V8 r k=43
   ·repeat' (first|with_reducible apply D0a|simp only[go_sem,seval,I,Y,hn,J,decide_true,decide_false,D1y]|omega)
    exact O2 [(0,.str s),(2,.box j 0),(5,.int .i64 n)] Bs (by simp only[go_sem,seval]) (D11 _) (A fun _=>(A8w G).2 (.inl J))
   ·by_cases X:V8 r k=45
    ·repeat' (first|with_reducible apply D0a|simp only[go_sem,seval,I,Y,hn,J,X,decide_true,decide_false,D1z,D1y]|omega)
     exact O2 [(0,.str s),(2,.box j 0),(5,.int .i64 n)] Bs (by simp only[go_sem,seval]) (D11 _) (A fun _=>(A8w G).2 (.inr X))
    ·have i:sgn r[k]=false:=by
      rw[←D1w,A8w G];rintro(g|g)
      ·exact J g
      ·exact X g
     repeat' (first|with_reducible apply D0a|simp only[go_sem,seval,I,Y,hn,J,X,decide_false,D1z]|simp(disch:=omega) only[A3]|omega)
     exact C2 (n+1) ⟨by omega,by omega,by rw[show n+1-1=k+1 by omega];exact A67 G y i⟩ (by omega) (by(try simp only[go_sem,seval])<;>(try simp(disch:=omega) [A3])) (by simp only[D4,C9,D0]at* <;>grind)
  ·have I:decide ((n:Int)<s.size)=false:=D0d (by omega);repeat' simp only[go_sem,seval,I]
   exact O2 [(0,.str s),(2,.box j 0),(5,.int .i64 n)] Bs (by simp only[go_sem,seval]) (D11 _) (A fun h=>absurd h G)
 intro a6;obtain⟨tw,dw⟩:=B3W (p:=(!sgn ·)) r k hk (fun c hc=>by rw[y c hc];rfl) (fun h=>by rw[a6 h];rfl);rw[tw]at hN hY;rw[dw]at hY;have hP:(B s).take n=x::r.take k:=by rw[hB,W];rfl
 have hD:(B s).drop n=r.drop k:=by rw[hB,W];rfl
 obtain⟨P,a9⟩: ∃P,P=x::r.take k:=⟨_,rfl⟩
 rw[←a9]at hN hY hP;have b9:P.length≤r.length+1:=by rw[a9];simp;omega
 have L:(n:Int)≤s.size:=by omega
 have M:n≤s.size:=by omega
 have tc: ∀(H:Heap) (Q:D→Heap→Prop),Q (.str (S (Lib.trimPrefix P [43]))) H→D8 185 [.str (S P),.str ⟨#[43]⟩] H Q:=fun H Q hq=>A8m _ _ H (by rw[x9];exact hq);obtain⟨d,O⟩: ∃d,d=Lib.trimPrefix P [43]:=⟨_,rfl⟩
 rw[←O]at tc;have b3:d.length≤r.length+1:=by
  rw[O];unfold Lib.trimPrefix;split
  ·rw[D08];omega
  ·exact b9
 have b4: ∀(H:Heap) (Q:D→Heap→Prop),Q (.bool (Lib.hasPrefix d [45])) H→D8 186 [.str (S d),.str ⟨#[45]⟩] H Q:=fun H Q hq=>B0a _ _ H (by rw[x9];exact hq);obtain⟨U,i⟩: ∃U:Int,U=if(o9 P).1=true then-1 else 1:=⟨_,rfl⟩
 obtain⟨b,hb⟩: ∃b,b=(o9 P).2:=⟨_,rfl⟩
 have c6:b.length≤r.length+1:=by
  rw[hb];unfold o9;simp only[];rw[←O];split
  ·simp only[D08];omega
  ·exact b3
 apply P8 (C:=True)
 ·intro A;by_cases hp:Lib.hasPrefix d [45]=true
  ·have a0:o9 P=(true,d.drop 1):=by unfold o9;simp only[];rw[←O,if_pos hp]
   have c0:1≤d.length:=by
    cases d with
    |nil=>cases hp
    |cons _ _=>simp
   have c1:1≤(S d).size:=by rw[P0];exact c0
   have b6:(1:Int)≤(S d).size:=by omega
   rw[a0]at i hb;simp only[if_true]at i hb;have c2:S ((B (S d)).drop 1)=S b:=by rw[x9,hb]
   repeat' (first|with_reducible apply D0a|simp only[go_sem,seval,L,M,hP,hp,c1,b6,c2]|with_reducible refine tc _ _ ?_|with_reducible refine b4 _ _ ?_|omega)
   exact O2 [(0,.str s),(2,.box j 0),(5,.int .i64 n),(6,.str (S b)),(7,.int .i64 U)] Bs (by simp only[go_sem,seval,i,hb]) (D11 _) (A trivial)
  ·have a0:o9 P=(false,d):=by unfold o9;simp only[];rw[←O,if_neg hp]
   have hp:Lib.hasPrefix d [45]=false:=by simpa using hp
   rw[a0]at i hb;simp only[D0q,if_false]at i hb;repeat' (first|with_reducible apply D0a|simp only[go_sem,seval,L,M,hP,hp]|with_reducible refine tc _ _ ?_|with_reducible refine b4 _ _ ?_|omega)
   exact O2 [(0,.str s),(2,.box j 0),(5,.int .i64 n),(6,.str (S b)),(7,.int .i64 U)] Bs (by simp only[go_sem,seval,i,hb]) (D11 _) (A trivial)
 intro _;have c7:=P0 b;cases o:A0J b with
 |none=>
  have d:=B2G o;have a4:M7 P=none:=by unfold M7;rw[←hb,o]
  subst d;have cc: ∀(H:Heap) (Q:D→Heap→Prop),Q (.tuple [.str (S []),.str ⟨#[]⟩,.bool false]) H→D8 187 [.str (S []),.str ⟨#[42]⟩] H Q:=fun H Q hq=>A8v (S []) (by rw[x9];rfl) H hq;repeat' (first|simp only[go_sem,seval,e2]|with_reducible refine cc _ _ ?_)
  exact D12 (G9 u g2) (hN a4 _ _ _)
 |some p=>
  obtain⟨c,m⟩:=p;have c8:=B4l o;apply P8 (C:=True)
  ·intro A;rcases split_some o with T|⟨T,d,V⟩
   ·repeat' (first|simp only[go_sem,seval]|with_reducible refine C3f (S b) c m (by rw[x9];exact T) (by omega) _ ?_)
    exact O2 [(0,.str s),(2,.box j 0),(5,.int .i64 n),(7,.int .i64 U),(8,.str (S c)),(9,.str (S m))] Bs (by simp only[go_sem,seval]) (D11 _) (A trivial)
   ·have b1: ¬S b=⟨#[]⟩:=fun e=>d (by have:=congrArg B e;rwa [x9]at this);have bz:0<(S b).size:=by rw[P0];exact List.length_pos_iff.2 d
    have bi:(0:Int)<(S b).size:=by omega
    have a5:A0T (B (S b))=none:=by rw[x9];exact T
    rcases V with⟨V,rfl,rfl⟩|⟨V,rfl,rfl⟩
    ·have q:48≤V8 c 0∧V8 c 0≤57:=by unfold Q0 at V;simp only[D0n]at V;exact(U4 _).1 V.2
     obtain⟨J,X⟩:=q;repeat' (first|with_reducible apply D0a|simp only[go_sem,seval,d,b1,bz,bi,J,X]|with_reducible refine A8v (S c) a5 _ ?_|omega)
     exact O2 [(0,.str s),(2,.box j 0),(5,.int .i64 n),(7,.int .i64 U),(8,.str (S c)),(9,.str (S []))] Bs (by simp only[go_sem,seval,C6y]) (D11 _) (A trivial)
    ·have q: ¬(48≤V8 m 0∧V8 m 0≤57):=fun g=>by
      unfold Q0 at V;rw[(U4 _).2 g]at V;simp[d]at V
     by_cases J:48≤V8 m 0
     ·have X: ¬V8 m 0≤57:=fun g=>q ⟨J,g⟩;repeat' (first|with_reducible apply D0a|simp only[go_sem,seval,d,b1,bz,bi,J,X]|with_reducible refine A8v (S m) a5 _ ?_|omega)
      exact O2 [(0,.str s),(2,.box j 0),(5,.int .i64 n),(7,.int .i64 U),(8,.str (S [49])),(9,.str (S m))] Bs (by simp only[go_sem,seval,C6z]) (D11 _) (A trivial)
     ·repeat' (first|with_reducible apply D0a|simp only[go_sem,seval,d,b1,bz,bi,J]|with_reducible refine A8v (S m) a5 _ ?_|omega)
      exact O2 [(0,.str s),(2,.box j 0),(5,.int .i64 n),(7,.int .i64 U),(8,.str (S [49])),(9,.str (S m))] Bs (by simp only[go_sem,seval,C6z]) (D11 _) (A trivial)
  intro _;by_cases hv: ∃v,Lib.atoiAll c= .ok v
  ·obtain⟨v,hv⟩:=hv;have c3:M7 P=some (m,IntKind.i64.wrap (U*v)):=by unfold M7;rw[←hb,o,i];simp only[];rw[hv]
   have hq: ∀x,K9 Tryz.prog .eql 140 (K8 (.tmp x)||K8 (.const .nilIface)) .nilif .nilif=some (.bool true):=fun x=>B7E (by kernel_rfl);repeat' (first|with_reducible apply D0a|simp only[go_sem,seval,e2,L,M,hD,hq]|with_reducible refine B9l (S c) (by rw[P0];omega) v (by rw[x9];exact hv) _ ?_|omega)
   exact D12 (G9 u g2) (hY _ _ c3)
  ·have hv: ∀v,Lib.atoiAll c≠ .ok v:=fun v g=>hv ⟨v,g⟩;have a4:M7 P=none:=by
    unfold M7;rw[←hb,o];cases hq:Lib.atoiAll c with
    |ok v=>exact absurd hq (hv v)
    |_=>simp only[]
   have hq: ∀x t,K9 Tryz.prog .eql 140 (K8 (.tmp x)||K8 (.const .nilIface)) (.iface t .undef) .nilif=some (.bool false):=fun x t=>B7F (by kernel_rfl);repeat' simp only[go_sem,seval,e2,L,M,hD]
   refine B9m (S c) (by rw[P0];omega) (fun v=>by rw[x9];exact hv v) _ b7 fun z t=>?_;repeat' (first|with_reducible apply D0a|simp only[go_sem,seval,e2,L,M,hD,hq]|omega)
   exact D12 (G9 u g2) (hN a4 _ _ _)
end Go.Proofs.YtibphjonmikciaaGreatDoor
