/- Part of the proof: what the last text builds on. No condition stands here. -/
import Derived.Test.YtibphjonmikciaaGreatDoorProg
import Derived.Test.YtibphjonmikciaaGreatDoorRows
import Derived.Test.YtibphjonmikciaaGreatDoorCards
import Derived.Test.YtibphjonmikciaaGreatDoorTie
import Derived.Test.YtibphjonmikciaaGreatDoorOb4
set_option linter.unusedSimpArgs false
set_option linter.unusedVariables false
section
set_option maxRecDepth 20000
namespace Go.Lin
open Go Go.Av Go.Lexs
theorem B9E{l:List UInt8}{k:Nat}(h:k<l.length):nth l k=(l[k].toNat:Int):=by simp[nth,h]
theorem A8R{l:List UInt8}{k:Nat}(h:k<l.length):sgn l[k]=true↔(nth l k=43∨nth l k=45):=by
 rw[B9E h]
 unfold sgn
 simp only[D0m,beq_iff_eq]
 constructor
 ·rintro(e|e)
  ·left;rw[e];rfl
  ·right;rw[e];rfl
 ·rintro(e|e)
  ·left;apply UInt8.toNat_inj.1;show _=43;omega
  ·right;apply UInt8.toNat_inj.1;show _=45;omega
theorem C52:S []=⟨#[]⟩:=rfl
theorem C53:S [49]=⟨#[49]⟩:=rfl
theorem B6c{P:Program}{t:Nat}(hb:C7 P t= .iface):J8 P .eql t true .nilif .nilif=some (.bool true):=by simp[J8,A5F,A80,hb]
theorem B6d{P:Program}{t u:Nat}{d:D}(hb:C7 P t= .iface):J8 P .eql t true (.iface u d) .nilif=some (.bool false):=by simp[J8,A5F,A80,hb]
theorem B2w{p:UInt8→Bool}: ∀(l:List UInt8) (k:Nat),k≤l.length→(∀c∈l.take k,p c=true)→(∀h:k<l.length,p l[k]=false)→l.takeWhile p=l.take k∧l.dropWhile p=l.drop k
 | [],k,hk,_,_=>by simp
 |c::l,0,_,_,h=>by
  have:p c=false:=h (by simp)
  simp[this]
 |c::l,k+1,hk,h1,h2=>by
  have hc:p c=true:=h1 c (by simp)
  obtain⟨a,b⟩:=B2w l k (by simpa using hk) (fun x hx=>h1 x (by simp[hx])) (fun h=>h2 (by simpa using h))
  simp[hc,a,b]
theorem A6d{p:UInt8→Bool}{v:Bool}{l:List UInt8}{k:Nat}(h:k<l.length)(h1: ∀c∈l.take k,p c=v)(h2:p l[k]=v): ∀c∈l.take (k+1),p c=v:=fun c hc=>by
 rw[C9i h]at hc
 rcases C9p.1 hc with g|g
 ·exact h1 c g
 ·rw[C9q]at g;subst g;exact h2
theorem B1f{b:List UInt8}(h:y4 b=none):b= []:=by
 unfold y4 at h
 cases hc:A0B b with
 |some p=>rw[hc]at h;cases h
 |none=>
  rw[hc]at h
  simp only[]at h
  split at h
  ·cases h
  ·split at h
   ·rename_i e;exact e
   ·cases h
theorem split_some{b c n:List UInt8}(h:y4 b=some (c,n)):A0B b=some (c,n)∨(A0B b=none∧b≠[]∧((P1 b=true∧c=b∧n= [])∨(P1 b=false∧c= [49]∧n=b))):=by
 unfold y4 at h
 cases hc:A0B b with
 |some p=>rw[hc]at h;left;exact h
 |none=>
  rw[hc]at h
  simp only[]at h
  right
  split at h
  ·rename_i hd
   injection h with h
   refine⟨rfl,?_,.inl ⟨hd,(congrArg Prod.fst h).symm,(congrArg Prod.snd h).symm⟩⟩
   rintro rfl;cases hd
  ·rename_i hd
   split at h
   ·cases h
   ·rename_i e
    injection h with h
    exact⟨rfl,e,.inr ⟨by simpa using hd,(congrArg Prod.fst h).symm,(congrArg Prod.snd h).symm⟩⟩
theorem B37{b c n:List UInt8}(h:y4 b=some (c,n)):c.length≤b.length+1:=by
 rcases split_some h with h|⟨_,h0,⟨_,rfl,_⟩|⟨_,rfl,_⟩⟩
 ·have:=(A56 h).2.1;omega
 ·omega
 ·have:=List.length_pos_iff.2 h0;simp
end Go.Lin
namespace Go.Proofs.YtibphjonmikciaaGreatDoor
open Go Go.Av Go.Lexs Go.Lin
attribute [local irreducible] ACalls W4
set_option maxHeartbeats 4000000 in
theorem C2u{Q}(s:ByteArray)(x:UInt8)(r:List UInt8)(hB:B s=x::r)(hs:s.size≤1000000000)(H:Heap)(hT:Tabs H)
  (hN:M4 (x::r.takeWhile (!sgn ·))=none→∀v n z,Q (.tuple [.agg [.str v,.int .i64 n],.str z,.bool false]) H)
  (hY: ∀n v,M4 (x::r.takeWhile (!sgn ·))=some (n,v)→Q (.tuple [.agg [.str (S n),.int .i64 v],.str (S (r.dropWhile (!sgn ·))),.bool true]) H):
  ACalls Tryz.prog 150 [.str s] H Q:=by
 refine B2 [(4,.wk),(8,.wk),(15,.wk)] B3 Tryz.func150 rfl (by kernel_rfl) (C9Q (by kernel_rfl)) (by kernel_rfl) ?_
 simp only[go_sem,Tryz.results150]
 have hl:=Y7 s
 have hrl:s.size=r.length+1:=by rw[←hl,hB];rfl
 intro b2 g2
 have e2:(H.set b2 (.box [.str ⟨#[]⟩,.int .i64 0])) b2=some (.box [.str ⟨#[]⟩,.int .i64 0]):=A5 _ _
 have hle:H.Le (H.set b2 (.box [.str ⟨#[]⟩,.int .i64 0])):=A2 g2
 generalize H.set b2 (.box [.str ⟨#[]⟩,.int .i64 0])=Bs at e2 hle⊢
 have hTb:=hT.le hle
 refine D1 [0,2] (fun(n:Nat)=>[(5,.int .i64 n)]) (fun(n:Nat)=>Bs) (fun(n:Nat)=>1≤n∧n-1≤r.length∧∀c∈r.take (n-1),sgn c=false) (fun(n:Nat)=>r.length+1-n) (1) (⟨C9j _,C9k _,by simp⟩) (by(try simp only[go_sem])<;>(try simp(disch:=omega) [A0])<;>(try omega)) (by first|exact D0q _|exact A2 (by assumption)|exact B4 (by assumption)|simp only[Heap.Le,Heap.set,Heap.del]at* <;>grind) ?_
 rintro Ec rfl n ⟨hn1,hk,hall⟩
 obtain⟨k,hkn⟩: ∃k,k=n-1:=⟨_,rfl⟩
 rw[←hkn]at hk hall
 have hnk1:n=k+1:=by omega
 apply A2C (C:=∀h:k<r.length,sgn r[k]=true)
 ·intro hJ
  have hw:IntKind.i64.wrap ((n:Int)+1)=(n:Int)+1:=A0 (by omega) (by omega)
  have hn:W4 s (n:Int)=nth r k:=by
   rw[B8f,hB,show (n:Int).toNat=k+1 by omega];rfl
  by_cases hlt:k<r.length
  ·have hkd:decide ((n:Int)<s.size)=true:=C9R (by omega)
   have hti:(n:Int)<s.size:=by omega
   by_cases q1:nth r k=43
   ·repeat' (first|with_reducible apply C9P|simp only[go_sem,hkd,hti,hn,q1,decide_true,decide_false,D0n]|simp(disch:=omega) only[A0]|intro hx_|omega)
    exact w9 [(0,.str s),(2,.box b2 0),(5,.int .i64 n)] Bs (by(try simp only[go_sem])<;>(try simp(disch:=omega) [A0])<;>(try omega)) (D0q _) (hJ fun _=>(A8R hlt).2 (.inl q1))
   ·by_cases q2:nth r k=45
    ·repeat' (first|with_reducible apply C9P|simp only[go_sem,hkd,hti,hn,q1,q2,decide_true,decide_false,D0o,D0n]|simp(disch:=omega) only[A0]|intro hx_|omega)
     exact w9 [(0,.str s),(2,.box b2 0),(5,.int .i64 n)] Bs (by(try simp only[go_sem])<;>(try simp(disch:=omega) [A0])<;>(try omega)) (D0q _) (hJ fun _=>(A8R hlt).2 (.inr q2))
    ·have hsg:sgn r[k]=false:=by
      rw[←D0l,A8R hlt];rintro(g|g)
      ·exact q1 g
      ·exact q2 g
     repeat' (first|with_reducible apply C9P|simp only[go_sem,hkd,hti,hn,q1,q2,decide_false,D0o]|simp(disch:=omega) only[A0]|intro hx_|omega)
     exact C3 (n+1) ⟨by omega,by omega,by rw[show n+1-1=k+1 by omega];exact A6d hlt hall hsg⟩ (by omega) (by(try simp only[go_sem])<;>(try simp(disch:=omega) [A0])<;>(try omega)) (by simp only[Go.Av.Heap.Le,Go.Av.Heap.set,Go.Av.Heap.del]at* <;>grind)
  ·have hkd:decide ((n:Int)<s.size)=false:=C9S (by omega)
   repeat' (first|with_reducible apply C9P|simp only[go_sem,hkd]|simp(disch:=omega) only[A0]|intro hx_|omega)
   exact w9 [(0,.str s),(2,.box b2 0),(5,.int .i64 n)] Bs (by(try simp only[go_sem])<;>(try simp(disch:=omega) [A0])<;>(try omega)) (D0q _) (hJ fun h=>absurd h hlt)
 intro hend
 obtain⟨tw,dw⟩:=B2w (p:=(!sgn ·)) r k hk (fun c hc=>by rw[hall c hc];rfl) (fun h=>by rw[hend h];rfl)
 rw[tw]at hN hY
 rw[dw]at hY
 have hP:(B s).take n=x::r.take k:=by rw[hB,hnk1];rfl
 have hD:(B s).drop n=r.drop k:=by rw[hB,hnk1];rfl
 obtain⟨P,hPd⟩: ∃P,P=x::r.take k:=⟨_,rfl⟩
 rw[←hPd]at hN hY hP
 have hPl:P.length≤r.length+1:=by rw[hPd];simp;omega
 have hnk:(n:Int)≤s.size:=by omega
 have hnr:n≤s.size:=by omega
 have tc: ∀(H:Heap) (Q:D→Heap→Prop),Q (.str (S (Lib.trimPrefix P [43]))) H→ACalls Tryz.prog 185 [.str (S P),.str ⟨#[43]⟩] H Q:=fun H Q hq=>A8D _ _ H (by rw[l9];exact hq)
 obtain⟨b0,hb0⟩: ∃b0,b0=Lib.trimPrefix P [43]:=⟨_,rfl⟩
 rw[←hb0]at tc
 have hb0l:b0.length≤r.length+1:=by
  rw[hb0];unfold Lib.trimPrefix
  split
  ·rw[C9x];omega
  ·exact hPl
 have hpx: ∀(H:Heap) (Q:D→Heap→Prop),Q (.bool (Lib.hasPrefix b0 [45])) H→ACalls Tryz.prog 186 [.str (S b0),.str ⟨#[45]⟩] H Q:=fun H Q hq=>A9w _ _ H (by rw[l9];exact hq)
 obtain⟨sg,hsg⟩: ∃sg:Int,sg=if(i7 P).1=true then-1 else 1:=⟨_,rfl⟩
 obtain⟨b,hb⟩: ∃b,b=(i7 P).2:=⟨_,rfl⟩
 have hbl:b.length≤r.length+1:=by
  rw[hb];unfold i7;simp only[];rw[←hb0]
  split
  ·simp only[C9x];omega
  ·exact hb0l
 apply A2C (C:=True)
 ·intro hJ
  by_cases hp:Lib.hasPrefix b0 [45]=true
  ·have hbp:i7 P=(true,b0.drop 1):=by unfold i7;simp only[];rw[←hb0,if_pos hp]
   have hbz:1≤b0.length:=by
    cases b0 with
    |nil=>cases hp
    |cons _ _=>simp
   have hsb:1≤(S b0).size:=by rw[O1];exact hbz
   have hsbi:(1:Int)≤(S b0).size:=by omega
   rw[hbp]at hsg hb
   simp only[if_true]at hsg hb
   have hsd:S ((B (S b0)).drop 1)=S b:=by rw[l9,hb]
   repeat' (first|with_reducible apply C9P|simp only[go_sem,hnk,hnr,hP,hp,hsb,hsbi,hsd]|simp(disch:=omega) only[A0]|intro hx_|with_reducible refine tc _ _ ?_|with_reducible refine hpx _ _ ?_|omega)
   exact w9 [(0,.str s),(2,.box b2 0),(5,.int .i64 n),(6,.str (S b)),(7,.int .i64 sg)] Bs (by(try simp only[go_sem,hsg,hb])<;>(try simp(disch:=omega) [A0])<;>(try omega)) (D0q _) (hJ trivial)
  ·have hbp:i7 P=(false,b0):=by unfold i7;simp only[];rw[←hb0,if_neg hp]
   have hp:Lib.hasPrefix b0 [45]=false:=by simpa using hp
   rw[hbp]at hsg hb
   simp only[C9f,if_false]at hsg hb
   repeat' (first|with_reducible apply C9P|simp only[go_sem,hnk,hnr,hP,hp]|simp(disch:=omega) only[A0]|intro hx_|with_reducible refine tc _ _ ?_|with_reducible refine hpx _ _ ?_|omega)
   exact w9 [(0,.str s),(2,.box b2 0),(5,.int .i64 n),(6,.str (S b)),(7,.int .i64 sg)] Bs (by(try simp only[go_sem,hsg,hb])<;>(try simp(disch:=omega) [A0])<;>(try omega)) (D0q _) (hJ trivial)
 intro _
 have sbz:=O1 b
 cases hsp:y4 b with
 |none=>
  have b0:=B1f hsp
  have hpn:M4 P=none:=by unfold M4;rw[←hb,hsp]
  subst b0
  have cc: ∀(H:Heap) (Q:D→Heap→Prop),Q (.tuple [.str (S []),.str ⟨#[]⟩,.bool false]) H→ACalls Tryz.prog 187 [.str (S []),.str ⟨#[42]⟩] H Q:=fun H Q hq=>A8Q (S []) (by rw[l9];rfl) H hq
  repeat' (first|with_reducible apply C9P|simp only[go_sem,e2]|simp(disch:=omega) only[A0]|intro hx_|with_reducible refine cc _ _ ?_|omega)
  exact D0r (G3 hle g2) (hN hpn _ _ _)
 |some p=>
  obtain⟨c,m⟩:=p
  have hcl:=B37 hsp
  apply A2C (C:=True)
  ·intro hJ
   rcases split_some hsp with hcut|⟨hcut,b0,hd⟩
   ·repeat' (first|with_reducible apply C9P|simp only[go_sem]|simp(disch:=omega) only[A0]|intro hx_|with_reducible refine C2s (S b) c m (by rw[l9];exact hcut) (by omega) _ ?_|omega)
    exact w9 [(0,.str s),(2,.box b2 0),(5,.int .i64 n),(7,.int .i64 sg),(8,.str (S c)),(9,.str (S m))] Bs (by(try simp only[go_sem])<;>(try simp(disch:=omega) [A0])<;>(try omega)) (D0q _) (hJ trivial)
   ·have b1: ¬S b=⟨#[]⟩:=fun e=>b0 (by have:=congrArg B e;rwa [l9]at this)
    have bz:0<(S b).size:=by rw[O1];exact List.length_pos_iff.2 b0
    have bi:(0:Int)<(S b).size:=by omega
    have hcN:A0B (B (S b))=none:=by rw[l9];exact hcut
    rcases hd with⟨hd,rfl,rfl⟩|⟨hd,rfl,rfl⟩
    ·have q:48≤nth c 0∧nth c 0≤57:=by unfold P1 at hd;simp only[C9c]at hd;exact(A1E _).1 hd.2
     obtain⟨q1,q2⟩:=q
     repeat' (first|with_reducible apply C9P|simp only[go_sem,b0,b1,bz,bi,q1,q2]|simp(disch:=omega) only[A0]|intro hx_|with_reducible refine A8Q (S c) hcN _ ?_|omega)
     exact w9 [(0,.str s),(2,.box b2 0),(5,.int .i64 n),(7,.int .i64 sg),(8,.str (S c)),(9,.str (S []))] Bs (by(try simp only[go_sem,C52])<;>(try simp(disch:=omega) [A0])<;>(try omega)) (D0q _) (hJ trivial)
    ·have q: ¬(48≤nth m 0∧nth m 0≤57):=fun g=>by
      unfold P1 at hd;rw[(A1E _).2 g]at hd;simp[b0]at hd
     by_cases q1:48≤nth m 0
     ·have q2: ¬nth m 0≤57:=fun g=>q ⟨q1,g⟩
      repeat' (first|with_reducible apply C9P|simp only[go_sem,b0,b1,bz,bi,q1,q2]|simp(disch:=omega) only[A0]|intro hx_|with_reducible refine A8Q (S m) hcN _ ?_|omega)
      exact w9 [(0,.str s),(2,.box b2 0),(5,.int .i64 n),(7,.int .i64 sg),(8,.str (S [49])),(9,.str (S m))] Bs (by(try simp only[go_sem,C53])<;>(try simp(disch:=omega) [A0])<;>(try omega)) (D0q _) (hJ trivial)
     ·repeat' (first|with_reducible apply C9P|simp only[go_sem,b0,b1,bz,bi,q1]|simp(disch:=omega) only[A0]|intro hx_|with_reducible refine A8Q (S m) hcN _ ?_|omega)
      exact w9 [(0,.str s),(2,.box b2 0),(5,.int .i64 n),(7,.int .i64 sg),(8,.str (S [49])),(9,.str (S m))] Bs (by(try simp only[go_sem,C53])<;>(try simp(disch:=omega) [A0])<;>(try omega)) (D0q _) (hJ trivial)
  intro _
  by_cases hv: ∃v,Lib.atoiAll c= .ok v
  ·obtain⟨v,hv⟩:=hv
   have hpc:M4 P=some (m,IntKind.i64.wrap (sg*v)):=by unfold M4;rw[←hb,hsp,hsg];simp only[];rw[hv]
   have hq: ∀x,J8 Tryz.prog .eql 140 (J7 (.tmp x)||J7 (.const .nilIface)) .nilif .nilif=some (.bool true):=fun x=>B6c (by kernel_rfl)
   repeat' (first|with_reducible apply C9P|simp only[go_sem,e2,hnk,hnr,hD,hq]|simp(disch:=omega) only[A0]|intro hx_|with_reducible refine B9C (S c) (by rw[O1];omega) v (by rw[l9];exact hv) _ ?_|omega)
   exact D0r (G3 hle g2) (hY _ _ hpc)
  ·have hv: ∀v,Lib.atoiAll c≠ .ok v:=fun v g=>hv ⟨v,g⟩
   have hpn:M4 P=none:=by
    unfold M4;rw[←hb,hsp]
    cases hq:Lib.atoiAll c with
    |ok v=>exact absurd hq (hv v)
    | «syntax» =>simp only[]
    |range=>simp only[]
   have hq: ∀x t,J8 Tryz.prog .eql 140 (J7 (.tmp x)||J7 (.const .nilIface)) (.iface t .undef) .nilif=some (.bool false):=fun x t=>B6d (by kernel_rfl)
   repeat' (first|with_reducible apply C9P|simp only[go_sem,e2,hnk,hnr,hD]|simp(disch:=omega) only[A0]|intro hx_|omega)
   refine B9D (S c) (by rw[O1];omega) (fun v=>by rw[l9];exact hv v) _ hTb fun z t=>?_
   repeat' (first|with_reducible apply C9P|simp only[go_sem,e2,hnk,hnr,hD,hq]|simp(disch:=omega) only[A0]|intro hx_|omega)
   exact D0r (G3 hle g2) (hN hpn _ _ _)
end Go.Proofs.YtibphjonmikciaaGreatDoor
namespace Go.Lin
open Go Go.Av Go.Lexs
def M5(l:List UInt8):LinV×Int:=match A0Z l with
 |none=>(nilL,30)
 |some a=>(a,0)
theorem B6e(n:Int):W0 (IntKind.i64.wrap n):=by
 unfold W0;rw[IntKind.wrap_i64];omega
theorem B38(x:List UInt8):(i7 x).2.length≤x.length:=by
 have h:(Lib.trimPrefix x [43]).length≤x.length:=by
  unfold Lib.trimPrefix;split
  ·rw[C9x];omega
  ·exact C9j _
 unfold i7;simp only[]
 split
 ·simp only[C9x];omega
 ·exact h
theorem B6f{x n:List UInt8}{v:Int}(h:M4 x=some (n,v)):n.length≤x.length∧W0 v:=by
 unfold M4 at h
 cases hs:y4 (i7 x).2 with
 |none=>rw[hs]at h;cases h
 |some p=>
  obtain⟨c,m⟩:=p
  rw[hs]at h
  simp only[]at h
  split at h
  ·injection h with h
   have h1:m=n:=congrArg Prod.fst h
   have h2:IntKind.i64.wrap _=v:=congrArg Prod.snd h
   refine⟨?_,by rw[←h2];exact B6e _⟩
   have hl:=B38 x
   rw[←h1]
   rcases split_some hs with hc|⟨_,h0,⟨_,_,rfl⟩|⟨_,_,rfl⟩⟩
   ·obtain⟨_,c2,_,c4⟩:=A56 hc
    rw[←c4,C9x];omega
   ·simp
   ·exact hl
  ·cases h
theorem C2v(a:LinV){n:List UInt8}(v:Int)(h:n= []):A6Z a (n,v)= {a with k:=v}:=by unfold A6Z;rw[if_pos h]
theorem C2w(a:LinV){n:List UInt8}(v:Int)(h:n≠[]):A6Z a (n,v)= {a with t:=a.t++[⟨S n,v⟩]}:=by unfold A6Z;rw[if_neg h]
theorem A7U(l m:List UInt8):(Lib.trimSuffix l m).length≤l.length:=by
 unfold Lib.trimSuffix;split
 ·rw[C97];omega
 ·exact C9j _
def A2Z(a:LinV)(l:List UInt8):Option LinV:=((O5 l).mapM M4).map (A1G a)
theorem B39(a:LinV):A2Z a []=some a:=by unfold A2Z;rw[A2m];rfl
theorem B1g(a:LinV)(x:UInt8)(r:List UInt8)(h:M4 (x::r.takeWhile (!sgn ·))=none):A2Z a (x::r)=none:=by
 unfold A2Z;rw[A1l,List.mapM_cons,h];rfl
theorem B1h(a:LinV)(x:UInt8)(r:List UInt8){p}(h:M4 (x::r.takeWhile (!sgn ·))=some p):A2Z a (x::r)=A2Z (A6Z a p) (r.dropWhile (!sgn ·)):=by
 unfold A2Z;rw[A1l,List.mapM_cons,h]
 show Option.map _ ((List.mapM M4 _).bind _)=_
 cases List.mapM M4 (O5 (r.dropWhile (!sgn ·)))<;>rfl
theorem C2x(l:List UInt8)(p:UInt8→Bool):(l.takeWhile p).length+(l.dropWhile p).length=l.length:=by
 rw[←C9V,List.takeWhile_append_dropWhile]
end Go.Lin
namespace Go.Proofs.YtibphjonmikciaaGreatDoor
open Go Go.Av Go.Lexs Go.Lin
attribute [local irreducible] ACalls W4
theorem Tabs.ro{H:Heap}(h:Tabs H):Tabs (roH H):=⟨B1C h.pow,let ⟨t,e⟩:=h.syn;⟨t,B1C e⟩,let ⟨t,e⟩:=h.rng;⟨t,B1C e⟩⟩
set_option maxHeartbeats 4000000 in
theorem B9F{Q}(s:ByteArray)(hs:s.size≤1000000000)(H:Heap)(hT:Tabs H)(h:Q (.tuple [.agg (E3 (M5 (B s)).1),.int .i64 (M5 (B s)).2]) H):ACalls Tryz.prog 120 [.str s] H Q:=by
 refine B2 [] B3 Tryz.func120 rfl (by kernel_rfl) (C9Q (by kernel_rfl)) (by kernel_rfl) ?_
 simp only[go_sem,Tryz.results120]
 have hl:=Y7 s
 intro b2 g2
 have e2:(H.set b2 (.box [.nilsl,.int .i64 0,.bool false])) b2=some (.box [.nilsl,.int .i64 0,.bool false]):=A5 _ _
 have hle:H.Le (H.set b2 (.box [.nilsl,.int .i64 0,.bool false])):=A2 g2
 generalize H.set b2 (.box [.nilsl,.int .i64 0,.bool false])=Bs at e2 hle⊢
 have hTb:=hT.le hle
 obtain⟨b,hb⟩: ∃b,b=Lib.trimSuffix (B s) [61,48]:=⟨_,rfl⟩
 have hbl:b.length≤s.size:=by rw[hb,←hl];exact A7U _ _
 obtain⟨eq,heq⟩: ∃eq,eq=Lib.hasSuffix (B s) [61,48]:=⟨_,rfl⟩
 have cc: ∀(H:Heap) (Q:D→Heap→Prop),Q (.tuple [.str (S b),.bool eq]) H→ACalls Tryz.prog 147 [.str s,.str ⟨#[61,48]⟩] H Q:=fun H Q hq=>A9y s _ (by omega) H (by rw[hb,heq]at hq;exact hq)
 obtain⟨c,hc⟩: ∃c,c=Lib.trimSuffix b [62]:=⟨_,rfl⟩
 have hcl:c.length≤s.size:=by have:=A7U b [62];rw[hc];omega
 obtain⟨gt,hgt⟩: ∃gt,gt=Lib.hasSuffix b [62]:=⟨_,rfl⟩
 have sb:=O1 b
 have tc: ∀(H:Heap) (Q:D→Heap→Prop),Q (.str (S c)) H→ACalls Tryz.prog 148 [.str (S b),.str ⟨#[62]⟩] H Q:=fun H Q hq=>A8E _ _ (by omega) H (by rw[hc]at hq;rw[l9];exact hq)
 have gc: ∀(H:Heap) (Q:D→Heap→Prop),Q (.bool gt) H→ACalls Tryz.prog 149 [.str (S b),.str ⟨#[62]⟩] H Q:=fun H Q hq=>A9x _ _ (by omega) H (by rw[hgt]at hq;rw[l9];exact hq)
 have hpn:eq=false→M5 (B s)=(nilL,30):=fun e=>by
  unfold M5 A0Z A4X;rw[←heq,e];rfl
 have hpy:eq=true→A4X (B s)=A2Z ⟨[],0,!gt⟩ c:=fun e=>by
  unfold A4X A2Z;rw[←heq,e,if_pos rfl];simp only[];rw[←hb,←hc,←hgt]
 cases eq with
 |false=>
  rw[hpn rfl]at h
  repeat' (first|with_reducible apply C9P|simp only[go_sem,e2]|simp(disch:=first|omega|grind) only[A6]|intro hx_|with_reducible refine cc _ _ ?_|with_reducible refine tc _ _ ?_|omega)
  exact D9 (A3Q 0 30 false) (D0r (G3 (hle.trans (A2 (by assumption))) g2) h)
 |true=>
  have hR:=hpy rfl
  clear hpn hpy
  repeat' (first|with_reducible apply C9P|simp only[go_sem,e2]|simp(disch:=first|omega|grind) only[A6]|intro hx_|with_reducible refine cc _ _ ?_|with_reducible refine tc _ _ ?_|with_reducible refine gc _ _ ?_|omega)
  rename_i b6
  have h6:=hx_
  clear hx_
  have f0:=B4W h6 2 [.int .i64 0,.bool !gt]
  generalize Bs.set b6 (.box [.nilsl,.int .i64 0,.bool !gt])=Hq at f0⊢
  refine D1 [0,2,6] (fun(p:List UInt8×LinV×Option Nat×Heap)=>[(4,.str (S p.1))]) (fun(p:List UInt8×LinV×Option Nat×Heap)=>p.2.2.2) (fun(p:List UInt8×LinV×Option Nat×Heap)=>BxI Bs b6 2 p.2.1.t.length (Rw Q7 p.2.1.t) [.int .i64 p.2.1.k,.bool p.2.1.e] p.2.2.1 p.2.2.2∧A2Z p.2.1 p.1=A4X (B s)∧p.2.1.t.length+p.1.length≤s.size∧(∀t∈p.2.1.t,t.v.size≤s.size∧W0 t.c)∧W0 p.2.1.k) (fun(p:List UInt8×LinV×Option Nat×Heap)=>p.1.length) ((c,⟨[],0,!gt⟩,none,Hq)) (⟨f0,hR.symm,by simpa using hcl,by simp,by unfold W0;simp⟩) (by(try simp only[go_sem])<;>(try simp(disch:=omega) [A0])<;>(try omega)) (by first|exact D0q _|exact A2 (by assumption)|exact B4 (by assumption)|simp only[Heap.Le,Heap.set,Heap.del]at* <;>grind) ?_
  clear f0 h6
  rintro Ec rfl ⟨l,a,ob,Hp⟩ ⟨fi,hr,hsz,hts,hks⟩
  simp only at fi hr hsz hts hks
  have hTp:=hTb.le fi.le
  cases l with
  |nil=>
   rw[B39]at hr
   have fa:a7 a:=⟨by simp at hsz;omega,fun t ht=>by have:=(hts t ht).1;omega,fun t ht=>(hts t ht).2,hks⟩
   have e6:=fi.ex
   have e2p:=fi.le _ _ e2
   have hn2:b6≠b2:=fun e=>by rw[e]at fi;have:=fi.hx;rw[e2]at this;cases this
   have tx: ∀(Q:D→Heap→Prop),Q (.tuple [.str (if validL a=true then S (F1 a)else S []),.int .i64 (if validL a=true then 0 else 2)]) Hp→ACalls Tryz.prog 115 [.agg [J4 2 a.t.length ob,.int .i64 a.k,.bool a.e]] Hp Q:=fun Q hq=>A8n (by rw[D6]) fi.eo (B6Y a fa _ (hTp.ro) ⟨rfl,hq⟩)
   have o1:(match J4 2 a.t.length ob with|D.undef=>false|D.agg cs=>false|D.tuple cs=>false|x=>true)=true:=by cases ob<;>rfl
   by_cases hv:validL a=true
   ·rw[if_pos hv,if_pos hv]at tx
    by_cases ht:F1 a=B s
    ·have hp:M5 (B s)=(a,0):=by unfold M5 A0Z;rw[←hr];simp only[C9t];rw[if_pos ⟨hv,ht⟩]
     rw[hp]at h
     repeat' (first|with_reducible apply C9P|simp only[go_sem,e2p,e6,ht,o1]|simp(disch:=first|omega|grind) only[A6]|intro hx_|with_reducible refine tx _ ?_|omega)
     cases ob with
     |none=>
      obtain⟨T,K,E⟩:=a
      have hz:T= []:=C9n (by have:=congrArg List.length (show Rw Q7 T= []from fi.eo);rwa [D6]at this)
      subst hz
      exact D9 (A3Q K 0 E) (D0r (G3 (hle.trans fi.le) g2) h)
     |some b'=>
      obtain⟨q1,q2⟩:=fi.fin hle g2 e2p
      exact B7f q1 (by rw[D6]) (D0r q2 h)
    ·have hp:M5 (B s)=(nilL,30):=by unfold M5 A0Z;rw[←hr];simp only[C9t];rw[if_neg (fun g=>ht g.2)]
     rw[hp]at h
     repeat' (first|with_reducible apply C9P|simp only[go_sem,e2p,e6,ht,o1]|simp(disch:=first|omega|grind) only[A6]|intro hx_|with_reducible refine tx _ ?_|omega)
     exact D9 (A3Q 0 30 false) (D0r (G3 (hle.trans fi.le) g2) h)
   ·rw[if_neg hv,if_neg hv]at tx
    have hp:M5 (B s)=(nilL,30):=by unfold M5 A0Z;rw[←hr];simp only[C9t];rw[if_neg (fun g=>hv g.1)]
    rw[hp]at h
    repeat' (first|with_reducible apply C9P|simp only[go_sem,e2p,e6,o1]|simp(disch:=first|omega|grind) only[A6]|intro hx_|with_reducible refine tx _ ?_|omega)
    exact D9 (A3Q 0 30 false) (D0r (G3 (hle.trans fi.le) g2) h)
  |cons x r=>
   have hrl:=C2x r (!sgn ·)
   simp only[C9U]at hsz
   repeat' (first|with_reducible apply C9P|simp only[go_sem]|simp(disch:=first|omega|grind) only[A6]|intro hx_|omega)
   refine C2u (S (x::r)) x r (l9 _) (by rw[O1,C9U];omega) _ hTp (fun hp v n z=>?_) (fun n v hp=>?_)
   ·rw[B1g _ _ _ hp]at hr
    have hpp:M5 (B s)=(nilL,30):=by unfold M5 A0Z;rw[←hr];rfl
    rw[hpp]at h
    have e2p:=fi.le _ _ e2
    repeat' (first|with_reducible apply C9P|simp only[go_sem,e2p]|simp(disch:=first|omega|grind) only[A6]|intro hx_|omega)
    exact D9 (A3Q 0 30 false) (D0r (G3 (hle.trans (fi.le.trans (A2 (by assumption)))) g2) h)
   ·rw[B1h _ _ _ hp]at hr
    obtain⟨p1,p2⟩:=B6f hp
    simp only[C9U]at p1
    have hdl:(r.dropWhile (!sgn ·)).length<r.length+1:=by omega
    by_cases hn:n= []
    ·rw[C2v a v hn]at hr
     repeat' (first|with_reducible apply C9P|simp only[go_sem,hn]|simp(disch:=first|omega|grind) only[A6]|intro hx_|omega)
     rename_i b7
     have h7:=hx_
     clear hx_
     have fu:=fi.up (A2 (o:=.box [.str (S n),.int .i64 v]) h7)
     have e7:(Hp.set b7 (.box [.str (S n),.int .i64 v])) b7=some (.box [.str (S n),.int .i64 v]):=A5 _ _
     rw[hn]at fu e7
     generalize Hp.set b7 (.box [.str (S []),.int .i64 v])=Hr at fu e7⊢
     have e6:=fu.ex
     repeat' (first|with_reducible apply C9P|simp only[go_sem,e6,e7]|simp(disch:=first|omega|grind) only[A6]|intro hx_|omega)
     exact C3 (r.dropWhile (!sgn ·),{a with k:=v},ob,_) ⟨fu.re _,hr,by simp only[];omega,hts,p2⟩ (by simp only[C9U];omega) (by(try simp only[go_sem])<;>(try simp(disch:=omega) [A0])<;>(try omega)) (D0q _)
    ·rw[C2w a v hn]at hr
     repeat' (first|with_reducible apply C9P|simp only[go_sem,hn]|simp(disch:=first|omega|grind) only[A6]|intro hx_|omega)
     rename_i b7
     have h7:=hx_
     clear hx_
     have fu:=fi.up (A2 (o:=.box [.str (S n),.int .i64 v]) h7)
     have e7:(Hp.set b7 (.box [.str (S n),.int .i64 v])) b7=some (.box [.str (S n),.int .i64 v]):=A5 _ _
     generalize Hp.set b7 (.box [.str (S n),.int .i64 v])=Hr at fu e7⊢
     have e6:=fu.ex
     repeat' (first|with_reducible apply C9P|simp only[go_sem,e6,e7]|simp(disch:=first|omega|grind) only[A6]|intro hx_|omega)
     rename_i bx
     have hbx:=hx_
     clear hx_
     refine A5u (P:=Tryz.prog) (H0:=Hr) (es:=Rw Q7 a.t) hbx (by simp) fu.eo (by rw[D6]) (by simp only[C9U,C9W];omega) (by simp only[C9U,C9W];omega) fun b' H' hA=>?_
     have hY:Rw Q7 a.t++[[D.str (S n),.int .i64 v]]=Rw Q7 (a.t++[⟨S n,v⟩]):=by rw[←O2];rfl
     rw[hY]at hA
     obtain⟨f1,e6'⟩:=fu.ap (m:=a.t.length+1) (D0q _) hA
     repeat' (first|with_reducible apply C9P|simp only[go_sem,e6']|simp(disch:=first|omega|grind) only[A6]|intro hx_|omega)
     have hal:(a.t++[(⟨S n,v⟩:LTm)]).length=a.t.length+1:=by rw[C9V];rfl
     refine C3 (r.dropWhile (!sgn ·),{a with t:=a.t++[⟨S n,v⟩]},some b',_) ⟨?_,hr,by simp only[hal];omega,fun t ht=>?_,hks⟩ (by simp only[C9U];omega) (by(try simp only[go_sem,K1])<;>(try simp(disch:=omega) [A0])<;>(try omega)) (D0q _)
     ·simp only[hal];exact f1
     ·rcases C9p.1 ht with g|g
      ·exact hts t g
      ·rw[C9q]at g;subst g
       exact⟨by simp only[O1];omega,p2⟩
end Go.Proofs.YtibphjonmikciaaGreatDoor
namespace Go.Lin
open Go Go.Av Go.Lexs
theorem B6g(s:List UInt8):M5 s=if validL (A4Y s)=true∧F1 (A4Y s)=s then(A4Y s,0)else(nilL,30):=by
 unfold M5;rw[B5c];split<;>rename_i h<;>split at h<;>simp_all
end Go.Lin
namespace Go.Proofs.YtibphjonmikciaaGreatDoor
open Go Go.Av Go.Lexs Go.Lin
attribute [local irreducible] ACalls W4
end Go.Proofs.YtibphjonmikciaaGreatDoor
end
section
set_option maxRecDepth 10000
namespace Go.Fo
open Go Go.Av Go.Lexs Go.Lin
def A0u:List UInt8:=[116,114,117,101]
def flsB:List UInt8:=[102,97,108,115,101]
def D7:Fm→List UInt8
 | .mk o n l s ks=>
  if o=1 then(if n=1 then A0u else flsB)
  else if o=2 then F1 l
  else if o=3 then 63::B s
  else if o=4 then 33::textH ks
  else(if o=6 then 124 else 38)::40::(textK true ks++[41])
where
 textH:List Fm→List UInt8
 | []=>[]
 |f::_=>D7 f
 textK:Bool→List Fm→List UInt8
 |_,[]=>[]
 |b,f::fs=>(if b=true then []else [44,32])++D7 f++textK false fs
theorem B2x{f:Fm}(h:f.op=1):D7 f=if f.n=1 then A0u else flsB:=by
 obtain⟨o,n,l,s,ks⟩:=f
 simp only[Fm.op]at h
 subst h
 rw[D7,if_pos rfl];rfl
theorem B2y{f:Fm}(h:f.op=2):D7 f=F1 f.l:=by
 obtain⟨o,n,l,s,ks⟩:=f
 simp only[Fm.op]at h
 subst h
 rw[D7,if_neg (by decide),if_pos rfl];rfl
theorem B2z{f:Fm}(h:f.op=3):D7 f=63::B f.s:=by
 obtain⟨o,n,l,s,ks⟩:=f
 simp only[Fm.op]at h
 subst h
 rw[D7,if_neg (by decide),if_neg (by decide),if_pos rfl];rfl
theorem B20{f k:Fm}(h:f.op=4)(hk:f.ks= [k]):D7 f=33::D7 k:=by
 obtain⟨o,n,l,s,ks⟩:=f
 simp only[Fm.op]at h
 simp only[Fm.ks]at hk
 subst h;subst hk
 rw[D7,if_neg (by decide),if_neg (by decide),if_neg (by decide),if_pos rfl];rfl
theorem A4e{f:Fm}(h1:f.op≠1)(h2:f.op≠2)(h3:f.op≠3)(h4:f.op≠4):D7 f=(if f.op=6 then 124 else 38)::40::(D7.textK true f.ks++[41]):=by
 obtain⟨o,n,l,s,ks⟩:=f
 simp only[Fm.op]at h1 h2 h3 h4
 rw[D7,if_neg h1,if_neg h2,if_neg h3,if_neg h4];rfl
theorem O6(b:Bool)(f:Fm)(fs:List Fm):D7.textK b (f::fs)=(if b=true then []else [44,32])++D7 f++D7.textK false fs:=by rw[D7.textK]
theorem B4A(b:Bool)(l m:List Fm):D7.textK b (l++m)=D7.textK b l++D7.textK (b&&l.isEmpty) m:=by
 induction l generalizing b with
 |nil=>simp[D7.textK]
 |cons f l ih=>simp only[D0a,O6,ih,D0D,List.isEmpty_cons,Bool.and_false,Bool.false_and]
theorem I1(l:List Fm)(i:Nat)(h:i<l.length):D7.textK true (l.take (i+1))=D7.textK true (l.take i)++((if i=0 then []else [44,32])++D7 l[i]):=by
 rw[C9i h,B4A,O6]
 congr 1
 simp only[D7.textK,D0E,Bool.true_and]
 congr 1
 cases i with
 |zero=>simp
 |succ i=>cases l with
  |nil=>simp at h
  |cons x l=>simp
def B0S(c:UInt8):Bool:=c==44||c==41
def nst(c:UInt8):Bool:= !B0S c
def L3(r:List UInt8):List UInt8:=r.takeWhile nst
def P7(r:List UInt8):List UInt8:=r.dropWhile nst
def pre(p r:List UInt8):Bool:=p.isPrefixOf r
def A6e(w:List UInt8):Fm×Bool:=if w=A0u then(.mk 1 1 nilL D2 [],false)else if w=flsB then(.mk 1 0 nilL D2 [],false)else(A0D (M5 w).1,decide ((M5 w).2≠0))
def A0v(form:List UInt8→Fm×List UInt8×Bool):Nat→List UInt8→List Fm→List Fm×List UInt8×Bool
 |0,r,_=>([],r,true)
 |n+1,r,out=>
  if pre [41] (form r).2.1=true then(out++[(form r).1],(form r).2.1.drop 1,(form r).2.2)
  else if(form r).2.2=true then([],(form r).2.1,true)
  else if pre [44,32] (form r).2.1=true then A0v form n ((form r).2.1.drop 2) (out++[(form r).1])
  else([],(form r).2.1,true)
def W8(form:List UInt8→Fm×List UInt8×Bool)(r:List UInt8):List Fm×List UInt8×Bool:=if pre [41] r=true then([],r.drop 1,false)else A0v form (r.length+1) r []
def G1:Nat→List UInt8→Fm×List UInt8×Bool
 |0,r=>(S8,r,true)
 |e+1,r=>
  if pre [63] r=true then(.mk 3 0 nilL (S (L3 (r.drop 1))) [],P7 (r.drop 1),false)
  else if pre [33] r=true then(.mk 4 0 nilL D2 [(G1 e (r.drop 1)).1],(G1 e (r.drop 1)).2.1,(G1 e (r.drop 1)).2.2)
  else if pre [38,40] r=true then(.mk 5 0 nilL D2 (W8 (G1 e) (r.drop 2)).1,(W8 (G1 e) (r.drop 2)).2.1,(W8 (G1 e) (r.drop 2)).2.2)
  else if pre [124,40] r=true then(.mk 6 0 nilL D2 (W8 (G1 e) (r.drop 2)).1,(W8 (G1 e) (r.drop 2)).2.1,(W8 (G1 e) (r.drop 2)).2.2)
  else((A6e (L3 r)).1,P7 r,(A6e (L3 r)).2)
def Stp(tl:List UInt8):Prop:=∀c r,tl=c::r→nst c=false
theorem B9G:Stp []:=fun c r e=>by cases e
theorem C2y(r:List UInt8):Stp (41::r):=fun c r e=>by injection e with e _;subst e;decide
theorem C2z(r:List UInt8):Stp (44::r):=fun c r e=>by injection e with e _;subst e;decide
theorem A57{w tl:List UInt8}(h: ∀c∈w,nst c=true)(ht:Stp tl):L3 (w++tl)=w∧P7 (w++tl)=tl:=R5 h ht
def okC(c:UInt8):Prop:=c.toNat≠40∧c.toNat≠41∧c.toNat≠44∧c.toNat≠33∧c.toNat≠38∧c.toNat≠124∧c.toNat≠63
theorem A7V{s:ByteArray}(h:plainB s=true): ∀c∈B s,okC c:=fun c hc=>by
 unfold plainB at h
 rw[C9c]at h
 have:=B2S h.2 c hc
 unfold A1k at this
 simp only[C9c,C9l]at this
 unfold okC;omega
theorem B1i{c:UInt8}(h:okC c):nst c=true:=by
 unfold okC at h
 unfold nst B0S
 simp only[Bool.not_eq_true',Bool.or_eq_false_iff,beq_eq_false_iff_ne,ne_eq]
 exact⟨fun e=>by subst e;simp at h,fun e=>by subst e;simp at h⟩
theorem A58{s:ByteArray}(h:plainB s=true):H8 (B s)=true:=by
 unfold plainB at h;rw[C9c]at h;exact h.1
theorem A1Q{c:UInt8}(h:c.toNat=43∨c.toNat=45∨c.toNat=42∨c.toNat=62∨c.toNat=61∨(48≤c.toNat∧c.toNat≤57)):okC c:=by unfold okC;omega
theorem B21{l:LinV}(hv:validL l=true)(hp: ∀t∈l.t,plainB t.v=true): ∀c∈F1 l,okC c:=by
 have key: ∀(m:List LTm) (f:Bool),(∀t∈m,plainB t.v=true)→∀c∈K8 f m,okC c:=by
  intro m
  induction m with
  |nil=>intro f _ c hc;cases hc
  |cons t m ih=>
   intro f h c hc
   rw[K8]at hc
   rcases C9p.1 hc with g|g
   ·unfold S5 at g
    rcases C9p.1 g with g|g
    ·rcases sign_or f t.c with q|q|q<;>rw[q]at g
     ·cases g
     ·rw[C9q]at g;subst g;exact A1Q (by decide)
     ·rw[C9q]at g;subst g;exact A1Q (by decide)
    ·rcases C9p.1 g with g|g
     ·split at g
      ·cases g
      ·rcases C9p.1 g with g|g
       ·have:=P0 _ c g;exact A1Q (by omega)
       ·rw[C9q]at g;subst g;exact A1Q (by decide)
     ·exact A7V (h t (C9a ..)) c g
   ·exact ih false (fun x hx=>h x (C9h _ hx)) c g
 intro c hc
 unfold F1 L7 at hc
 rcases C9p.1 hc with g|g
 ·rcases C9p.1 g with g|g
  ·exact key l.t true hp c g
  ·unfold R0 at g
   split at g
   ·unfold A0A at g
    rcases C9p.1 g with g|g
    ·rcases sign_or l.t.isEmpty l.k with q|q|q<;>rw[q]at g
     ·cases g
     ·rw[C9q]at g;subst g;exact A1Q (by decide)
     ·rw[C9q]at g;subst g;exact A1Q (by decide)
    ·have:=P0 _ c g;exact A1Q (by omega)
   ·cases g
 ·split at g
  ·simp only[C9r,C9s,or_false]at g
   rcases g with rfl|rfl<;>exact A1Q (by decide)
  ·simp only[C9r,C9s,or_false]at g
   rcases g with rfl|rfl|rfl<;>exact A1Q (by decide)
theorem B6h(l:LinV):(61:UInt8)∈F1 l:=by
 unfold F1;split<;>simp
theorem B1j(l:LinV):F1 l≠[]:=fun h=>by have:=B6h l;rw[h]at this;cases this
theorem B22(l:LinV):F1 l≠A0u∧F1 l≠flsB:=by
 have:=B6h l
 exact⟨fun h=>by rw[h]at this;revert this;decide,fun h=>by rw[h]at this;revert this;decide⟩
theorem S0(c d:UInt8)(r:List UInt8):pre [c] (d::r)=(c==d):=by simp[pre,List.isPrefixOf]
theorem A48(c c2 d:UInt8)(r:List UInt8):pre [c,c2] (d::r)=(c==d&&pre [c2] r):=by simp[pre,List.isPrefixOf]
theorem B6i{c:UInt8}{r:List UInt8}(h:okC c):pre [63] (c::r)=false∧pre [33] (c::r)=false∧pre [38] (c::r)=false∧pre [124] (c::r)=false∧pre [38,40] (c::r)=false∧pre [124,40] (c::r)=false∧pre [41] (c::r)=false:=by
 unfold okC at h
 have k: ∀d:UInt8,c.toNat≠d.toNat→(d==c)=false:=fun d hd=>by
  rw[beq_eq_false_iff_ne];intro e;exact hd (by rw[e])
 simp only[S0,A48,k 63 h.2.2.2.2.2.2,k 33 h.2.2.2.1,k 38 h.2.2.2.2.1,k 124 h.2.2.2.2.2.1,k 41 h.2.1,Bool.false_and,and_self]
theorem A7W{f:Fm}(hf:G7 D5 f=true): ∃c r,D7 f=c::r∧c≠41:=by
 cases Q4 hf with
 |con n h=>
  rw[B2x rfl]
  split
  ·exact⟨_,_,rfl,by decide⟩
  ·exact⟨_,_,rfl,by decide⟩
 |lin l h hp=>
  rw[B2y rfl]
  have hm:=B21 h hp
  show∃c r,F1 l=c::r∧c≠41
  cases ht:F1 l with
  |nil=>exact absurd ht (B1j l)
  |cons c r=>
   have:=hm c (by rw[ht];exact C9a ..)
   exact⟨c,r,rfl,fun e=>by subst e;unfold okC at this;simp at this⟩
 |var s h=>rw[B2z rfl];exact⟨_,_,rfl,by decide⟩
 |not k=>rw[B20 rfl rfl];exact⟨_,_,rfl,by decide⟩
 |and ks=>rw[A4e (by simp[Fm.op]) (by simp[Fm.op]) (by simp[Fm.op]) (by simp[Fm.op])];exact⟨_,_,rfl,by show (38:UInt8)≠41;decide⟩
 |or ks=>rw[A4e (by simp[Fm.op]) (by simp[Fm.op]) (by simp[Fm.op]) (by simp[Fm.op])];exact⟨_,_,rfl,by show (124:UInt8)≠41;decide⟩
theorem B4C(ks:List Fm)(h: ∀k∈ks,G7 D5 k=true): ∀b,ks.length≤(D7.textK b ks).length:=by
 induction ks with
 |nil=>intro b;simp
 |cons f fs ih=>
  intro b
  obtain⟨c,r,hc,_⟩:=A7W (h f (C9a ..))
  have:=ih (fun k hk=>h k (C9h _ hk)) false
  rw[O6,hc]
  simp only[C9V,C9U];omega
theorem B1k(form:List UInt8→Fm×List UInt8×Bool)(tl:List UInt8): ∀(ks:List Fm),ks≠[]→(∀k∈ks,∀tl,Stp tl→form (D7 k++tl)=(k,tl,false))→∀n out,ks.length≤n→A0v form n (D7.textK true ks++(41::tl)) out=(out++ks,tl,false):=by
 intro ks
 induction ks with
 |nil=>intro h;exact absurd rfl h
 |cons k ks ih=>
  intro _ hk n out hn
  obtain⟨n,rfl⟩: ∃m,n=m+1:=⟨n-1,by simp only[C9U]at hn;omega⟩
  rw[A0v,O6]
  simp only[if_true,D0b]
  cases ks with
  |nil=>
   have e:=hk k (C9a ..) (41::tl) (C2y _)
   simp only[D7.textK,D0E]
   rw[e]
   simp only[S0,beq_self_eq_true,if_true,List.drop_succ_cons,List.drop_zero]
  |cons k2 ks=>
   have e:=hk k (C9a ..) (44::32::(D7.textK true (k2::ks)++(41::tl))) (C2z _)
   have e2:D7.textK false (k2::ks)=44::32::D7.textK true (k2::ks):=by rw[O6,O6];simp
   rw[e2]
   simp only[D0a,D0D]
   rw[e]
   have p1:pre [41] (44::32::(D7.textK true (k2::ks)++(41::tl)))=false:=by rw[S0];decide
   have p2:pre [44,32] (44::32::(D7.textK true (k2::ks)++(41::tl)))=true:=by rw[A48,S0];decide
   simp only[p1,p2,C9f,if_false,if_true,List.drop_succ_cons,List.drop_zero]
   rw[ih (by simp) (fun x hx=>hk x (C9h _ hx)) n _ (by simp only[C9U]at hn⊢;omega)]
   simp
theorem B1l: ∀(f:Fm),G7 D5 f=true→∀e,P3 f≤e→∀tl,Stp tl→G1 e (D7 f++tl)=(f,tl,false):=by
 intro f
 induction f using P2 with
 |h o n l s ks ih=>
  intro hf e he tl ht
  have hk: ∀k∈ks,G7 D5 k=true:=fun k hk=>N8 (f:=.mk o n l s ks) hf hk
  obtain⟨e,rfl⟩: ∃d,e=d+1:=⟨e-1,by have:=((A94 _ e).1 he).1;omega⟩
  have hd: ∀k∈ks,P3 k≤e:=fun k hm=>by have:=((A94 _ _).1 he).2 k hm;omega
  have many: ∀p,(∀k∈ks,G7 D5 k=true)→(p=38∨p=124)→W8 (G1 e) ((p::40::(D7.textK true ks++[41])++tl).drop 2)=(ks,tl,false):=by
   intro p hk hp
   simp only[D0a,List.drop_succ_cons,List.drop_zero,D0D,D0b]
   unfold W8
   cases ks with
   |nil=>simp only[D7.textK,D0b,S0,beq_self_eq_true,if_true,List.drop_succ_cons,List.drop_zero]
   |cons k ks=>
    obtain⟨c,r,hc,hc2⟩:=A7W (hk k (C9a ..))
    have hp:pre [41] (D7.textK true (k::ks)++(41::tl))=false:=by
     rw[O6,hc]
     simp only[if_true,D0b,D0a,S0,beq_eq_false_iff_ne,ne_eq]
     exact fun e=>hc2 e.symm
    rw[hp]
    simp only[C9f,if_false]
    rw[B1k (G1 e) tl (k::ks) (by simp) (fun x hx tl ht=>ih x hx (hk x hx) e (hd x hx) tl ht) _ _ (by
     have:=B4C (k::ks) hk true
     rw[C9V];omega)]
    rfl
  cases Q4 hf with
  |con n h=>
   rw[B2x rfl]
   have g: ∀w,(w=A0u∨w=flsB)→pre [63] (w++tl)=false∧pre [33] (w++tl)=false∧pre [38,40] (w++tl)=false∧pre [124,40] (w++tl)=false∧L3 (w++tl)=w∧P7 (w++tl)=tl:=by
    intro w hw
    have h1: ∀c∈w,okC c:=by
     rcases hw with rfl|rfl<;> · intro c hc;revert c;unfold okC;decide
    obtain⟨c,r,hc⟩: ∃c r,w=c::r:=by rcases hw with rfl|rfl<;>exact⟨_,_,rfl⟩
    have h2:=A57 (w:=w) (tl:=tl) (fun c hc=>B1i (h1 c hc)) ht
    have h3:=B6i (c:=c) (r:=r++tl) (h1 c (by rw[hc];exact C9a ..))
    rw[hc]at h2⊢
    exact⟨h3.1,h3.2.1,h3.2.2.2.2.1,h3.2.2.2.2.2.1,h2.1,h2.2⟩
   rw[G1]
   rcases h with rfl|rfl
   ·obtain⟨g1,g2,g3,g4,g5,g6⟩:=g flsB (.inr rfl)
    show (if pre [63] (flsB++tl)=true then(.mk 3 0 nilL (S (L3 ((flsB++tl).drop 1))) [],P7 ((flsB++tl).drop 1),false)else if pre [33] (flsB++tl)=true then(.mk 4 0 nilL D2 [(G1 e ((flsB++tl).drop 1)).1],(G1 e ((flsB++tl).drop 1)).2.1,(G1 e ((flsB++tl).drop 1)).2.2)else if pre [38,40] (flsB++tl)=true then _ else if pre [124,40] (flsB++tl)=true then _ else((A6e (L3 (flsB++tl))).1,P7 (flsB++tl),(A6e (L3 (flsB++tl))).2))=_
    rw[g1,g2,g3,g4,g5,g6];rfl
   ·obtain⟨g1,g2,g3,g4,g5,g6⟩:=g A0u (.inl rfl)
    show (if pre [63] (A0u++tl)=true then(.mk 3 0 nilL (S (L3 ((A0u++tl).drop 1))) [],P7 ((A0u++tl).drop 1),false)else if pre [33] (A0u++tl)=true then(.mk 4 0 nilL D2 [(G1 e ((A0u++tl).drop 1)).1],(G1 e ((A0u++tl).drop 1)).2.1,(G1 e ((A0u++tl).drop 1)).2.2)else if pre [38,40] (A0u++tl)=true then _ else if pre [124,40] (A0u++tl)=true then _ else((A6e (L3 (A0u++tl))).1,P7 (A0u++tl),(A6e (L3 (A0u++tl))).2))=_
    rw[g1,g2,g3,g4,g5,g6];rfl
  |lin l h hp=>
   rw[B2y rfl]
   show G1 (e+1) (F1 l++tl)=_
   have hm:=B21 h hp
   obtain⟨c,r,hc⟩: ∃c r,F1 l=c::r:=by
    cases ht:F1 l with
    |nil=>exact absurd ht (B1j l)
    |cons c r=>exact⟨c,r,rfl⟩
   have h2:=A57 (w:=F1 l) (tl:=tl) (fun c hc=>B1i (hm c hc)) ht
   have h3:=B6i (c:=c) (r:=r++tl) (hm c (by rw[hc];exact C9a ..))
   have hc2:F1 l++tl=c::(r++tl):=by rw[hc];rfl
   rw[G1,h2.1,h2.2,hc2,h3.1,h3.2.1,h3.2.2.2.2.1,h3.2.2.2.2.2.1]
   simp only[C9f,if_false]
   unfold A6e
   rw[if_neg (B22 l).1,if_neg (B22 l).2]
   have:M5 (F1 l)=(l,0):=by unfold M5;rw[A9n l h]
   rw[this];rfl
  |var s h=>
   rw[B2z rfl]
   show G1 (e+1) (63::(B s++tl))=_
   have hm:=A7V h
   have h2:=A57 (w:=B s) (tl:=tl) (fun c hc=>B1i (hm c hc)) ht
   rw[G1]
   simp only[S0,beq_self_eq_true,if_true,List.drop_succ_cons,List.drop_zero]
   rw[h2.1,h2.2,S_B]
  |not k=>
   rw[B20 rfl rfl]
   show G1 (e+1) (33::(D7 k++tl))=_
   have:=ih k (C9a ..) (hk k (C9a ..)) e (hd k (C9a ..)) tl ht
   rw[G1]
   simp only[S0,beq_self_eq_true,if_true,List.drop_succ_cons,List.drop_zero]
   rw[this];rfl
  |and ks=>
   rw[A4e (by simp[Fm.op]) (by simp[Fm.op]) (by simp[Fm.op]) (by simp[Fm.op])]
   show G1 (e+1) ((38:UInt8)::40::(D7.textK true ks++[41])++tl)=_
   rw[G1,many 38 hk (.inl rfl)]
   simp only[D0a,S0,A48]
   rfl
  |or ks=>
   rw[A4e (by simp[Fm.op]) (by simp[Fm.op]) (by simp[Fm.op]) (by simp[Fm.op])]
   show G1 (e+1) ((124:UInt8)::40::(D7.textK true ks++[41])++tl)=_
   rw[G1,many 124 hk (.inr rfl)]
   simp only[D0a,S0,A48]
   rfl
def okF(f:Fm)(s:List UInt8):Fm×Int:=if E4 f=true∧D7 f=s then(f,0)else(S8,30)
def A2x(s:List UInt8):Fm×Int:=if s.length > 20000 then(S8,3)else if(G1 60 s).2.2=true∨(G1 60 s).2.1≠[]then(S8,30)else okF (G1 60 s).1 s
theorem B1m{f:Fm}(h:E4 f=true):P3 f≤60:=by
 rw[A2M]at h;simp only[C9c,C9l]at h;exact h.1.1.1.2
theorem B4D{f:Fm}(h:E4 f=true):G1 60 (D7 f)=(f,[],false):=by
 have:=B1l f (L5 h) 60 (B1m h) [] B9G
 simpa using this
theorem A59{f:Fm}(h:E4 f=true)(hl:(D7 f).length≤20000):A2x (D7 f)=(f,0):=by
 unfold A2x
 rw[if_neg (by omega),B4D h]
 simp only[C9f,ne_eq,not_true,or_self,if_false]
 unfold okF;rw[if_pos ⟨h,rfl⟩]
end Go.Fo
end
section
namespace Go.Fo
open Go Go.Av Go.Lexs Go.Lin
abbrev BS:=List (ByteArray×Bool)
def bsC(bs:BS):List (D×D):=bs.map fun p=>(.str p.1,.bool p.2)
def A8S:BS→ByteArray→Option Bool
 | [],_=>none
 |p::l,s=>if s=p.1 then some p.2 else A8S l s
def A1R:BS→ByteArray→Bool→BS
 | [],s,v=>[(s,v)]
 |p::l,s,v=>if s=p.1 then(s,v)::l else p::A1R l s v
theorem find_bsC(s:ByteArray): ∀(bs:BS) (i:Nat),(A8S bs s=none∧O8 (.one .str) (.str s) (bsC bs) i=some none∧∀v,A1R bs s v=bs++[(s,v)])∨∃j,∃b,j<bs.length∧A8S bs s=some b∧O8 (.one .str) (.str s) (bsC bs) i=some (some (i+j,.bool b))∧∀v,A1R bs s v=bs.set j (s,v)
 | [],i=>.inl ⟨rfl,rfl,fun _=>rfl⟩
 |(t,x)::l,i=>by
  have e:A4M (.one .str) (.str s) (.str t)=some (decide (s=t)):=by
   rw[A4M,T6]
   congr 1
   rw[Bool.eq_iff_iff,beq_iff_eq,C9l]
   exact⟨fun g=>i6 g,fun g=>by rw[g]⟩
  rw[show bsC ((t,x)::l)=(.str t,.bool x)::bsC l from rfl,O8]
  simp only[e,C9t,C9l,A8S,A1R]
  by_cases c:s=t
  ·subst c
   rw[if_pos rfl,if_pos rfl]
   exact .inr ⟨0,x,by simp,rfl,rfl,fun v=>by rw[if_pos rfl];rfl⟩
  ·rw[if_neg c,if_neg c]
   rcases find_bsC s l (i+1)with⟨h1,h2,h3⟩|⟨j,b,h1,h2,h3,h4⟩
   ·exact .inl ⟨h1,h2,fun v=>by rw[if_neg c,h3];rfl⟩
   ·exact .inr ⟨j+1,b,by simpa using h1,h2,by rw[h3];congr 3;omega,fun v=>by rw[if_neg c,h4];rfl⟩
theorem B9H(s:ByteArray)(v:Bool)(bs:BS):(O8 (.one .str) (.str s) (bsC bs) 0).map (fun r=>A5L (bsC bs) (.str s) (.bool v) r)=some (bsC (A1R bs s v)):=by
 rcases find_bsC s bs 0 with⟨h1,h2,h3⟩|⟨j,b,h1,h2,h3,h4⟩
 ·rw[h2,h3]
  show some (bsC bs++[(.str s,.bool v)])=_
  unfold bsC;rw[D0P];rfl
 ·rw[h3,h4]
  show some ((bsC bs).set (0+j) (.str s,.bool v))=_
  unfold bsC;rw[Nat.zero_add,List.map_set]
theorem A3Z{H:Heap}{b:Nat}(s:ByteArray)(v:Bool)(bs:BS):(O8 (.one .str) (.str s) (bsC bs) 0).map (fun r=>H.set b (.map (A5L (bsC bs) (.str s) (.bool v) r)))=some (H.set b (.map (bsC (A1R bs s v)))):=by
 have:=congrArg (Option.map fun m=>H.set b (.map m)) (B9H s v bs)
 rw[Option.map_map]at this
 exact this
def B0T(f:Fm):Nat:=if f.op=6 then 1 else 0
def B1n(cs:List LinV):Option Bool:=if cs.all validL=true∧cs.length≤1000 then C0u cs else none
def B4E(rec:Fm→Option Bool):List Fm→Option Bool
 | []=>some false
 |k::l=>match rec k,B4E rec l with
  |some a,some b=>some (a||b)
  |_,_=>none
def A49(rec:List LinV→BS→List Fm→Option Bool)(cs:List LinV)(bs:BS)(ks l:List Fm):Option Bool:=
 if l.length≤1∧ks.length≤1000 then
  if l≠[]∧B0T (l.headD S8)=0 then rec cs bs (l++[.mk 6 0 nilL D2 ks])
  else match B1n cs with
   |none=>none
   |some false=>some false
   |some true=>B4E (fun k=>rec cs bs (k::l)) ks
 else none
def V4:Nat→List LinV→BS→List Fm→Option Bool
 |0,_,_,_=>none
 |n+1,cs,bs,l=>match l with
  | []=>B1n cs
  |f::l=>
   if 1000<cs.length∨1000<l.length∨1000<f.ks.length then none
   else if f.op=1 then(if f.n=0 then some false else V4 n cs bs l)
   else if f.op=2 then V4 n (cs++[f.l]) bs l
   else if f.op=3 then(if A8S bs f.s=some false then some false else V4 n cs (A1R bs f.s true) l)
   else if f.op=4 then(if f.ks= []then none else if A8S bs (f.ks.headD S8).s=some true then some false else V4 n cs (A1R bs (f.ks.headD S8).s false) l)
   else if f.op=5 then V4 n cs bs (f.ks++l)
   else if f.op=6 then A49 (V4 n) cs bs f.ks l
   else none
def V5(f:Fm)(more:List LinV):Option Bool:=V4 60 more [] [normF f false]
end Go.Fo
end
section
set_option maxRecDepth 20000
namespace Go.Proofs.YtibphjonmikciaaGreatDoor
open Go Go.Av Go.Lin Go.Fo
attribute [local irreducible] ACalls W4
theorem C20{Q}(p:LTm→Bool)(l:List LTm)(hl:l.length≤1000000000000000)(g:Nat)(first cap:List D)(H:Heap)
  (hf: ∀a∈l,∀(Q:D→Heap→Prop),Q (.bool (p a)) H→ACalls Tryz.prog g (first++[.agg (Q7 a)]++cap) H Q) (h:Q (.int .i64 (V2 p l)) H):
  ACalls Tryz.prog 136 [.sl 2 (Rw Q7 l),.fn (.func g) first cap] H Q:=by
 refine B2 [] B3 Tryz.func136 rfl (by kernel_rfl) (C9Q (by kernel_rfl)) (by kernel_rfl) ?_
 simp only[go_sem,Tryz.results136]
 refine D1 [0,1,7] (fun(k:Nat)=>[(8,.int .i64 k)]) (fun(k:Nat)=>H) (fun(k:Nat)=>k≤l.length∧V2 p l=if V2 p (l.drop k)<0 then-1 else V2 p (l.drop k)+k) (fun(k:Nat)=>l.length-k) (0) (⟨C9k _,by have:=A1O p l;rw[List.drop_zero];split<;>omega⟩) (by(try simp only[go_sem])<;>(try simp(disch:=omega) [A0])<;>(try omega)) (by first|exact D0q _|exact A2 (by assumption)|exact B4 (by assumption)|simp only[Heap.Le,Heap.set,Heap.del]at* <;>grind) ?_
 rintro Ec rfl k ⟨hk,hp⟩
 by_cases hlt:k<l.length
 ·have hkd:decide ((k:Int)<l.length)=true:=C9R (by omega)
  rw[A39 p l k hlt]at hp
  repeat' (first|with_reducible apply C9P|simp only[go_sem,hkd,A9 _ _ hlt]|simp(disch:=omega) only[A0,A9,A3]|intro hx_|with_reducible refine hf l[k] (C9d hlt) _ ?_|omega)
  ·have h1:p l[k]=true:=by assumption
   rw[if_pos h1]at hp
   simp only[Int.zero_add,show¬((0:Int)<0)by omega,if_false]at hp
   rw[hp]at h
   exact D0u h
  ·have h1: ¬p l[k]=true:=by simp_all
   rw[if_neg h1]at hp
   exact C3 (k+1) ⟨by omega,by rw[hp];have:=A1O p (l.drop (k+1));split<;>split<;>omega⟩ (by omega) (by(try simp only[go_sem])<;>(try simp(disch:=omega) [A0])<;>(try omega)) (D0q _)
 ·have hkd:decide ((k:Int)<l.length)=false:=C9S (by omega)
  rw[List.drop_eq_nil_of_le (by omega),V2]at hp
  repeat' (first|with_reducible apply C9P|simp only[go_sem,hkd]|simp(disch:=omega) only[A0,A9,A3]|intro hx_|omega)
  simp only[show ((-1:Int)<0)by omega,if_true]at hp
  rw[hp]at h
  exact D0u h
theorem C21{Q}(p:LTm→Bool)(l:List LTm)(hl:l.length≤1000000000000000)(g:Nat)(first cap:List D)(H:Heap)
  (hf: ∀a∈l,∀(Q:D→Heap→Prop),Q (.bool (p a)) H→ACalls Tryz.prog g (first++[.agg (Q7 a)]++cap) H Q) (h:Q (.bool (l.any p)) H):
  ACalls Tryz.prog 97 [.sl 2 (Rw Q7 l),.fn (.func g) first cap] H Q:=by
 refine B2 [] B3 Tryz.func97 rfl (by kernel_rfl) (C9Q (by kernel_rfl)) (by kernel_rfl) ?_
 simp only[go_sem,Tryz.results97]
 rw[←A3X]at h
 repeat' (first|with_reducible apply C9P|simp only[go_sem]|simp(disch:=omega) only[A3]|intro hx_|with_reducible refine C20 p l hl g first cap _ hf ?_|omega)
 exact D0u h
theorem C22{Q}(p:Fm→Bool)(l:List Fm)(hl:l.length≤1000000000000000)(g:Nat)(first cap:List D)(H:Heap)
  (hf: ∀(k:Nat) (hk:k<l.length),(∀(j:Nat) (hj:j<k),p l[j]=false)→∀(Q:D→Heap→Prop),Q (.bool (p l[k])) H→ACalls Tryz.prog g (first++[.agg (C1 l[k])]++cap) H Q) (h:Q (.int .i64 (V2 p l)) H):
  ACalls Tryz.prog 140 [.sl 7 (Rw C1 l),.fn (.func g) first cap] H Q:=by
 refine B2 [] B3 Tryz.func140 rfl (by kernel_rfl) (C9Q (by kernel_rfl)) (by kernel_rfl) ?_
 simp only[go_sem,Tryz.results140]
 refine D1 [0,1,7] (fun(k:Nat)=>[(8,.int .i64 k)]) (fun(k:Nat)=>H) (fun(k:Nat)=>k≤l.length∧(∀(j:Nat) (hj:j<l.length),j<k→p l[j]=false)∧V2 p l=if V2 p (l.drop k)<0 then-1 else V2 p (l.drop k)+k) (fun(k:Nat)=>l.length-k) (0) (⟨C9k _,fun _ _ h=>absurd h (Nat.not_lt_zero _),by have:=A1O p l;rw[List.drop_zero];split<;>omega⟩) (by(try simp only[go_sem])<;>(try simp(disch:=omega) [A0])<;>(try omega)) (by first|exact D0q _|exact A2 (by assumption)|exact B4 (by assumption)|simp only[Heap.Le,Heap.set,Heap.del]at* <;>grind) ?_
 rintro Ec rfl k ⟨hk,hb,hp⟩
 by_cases hlt:k<l.length
 ·have hkd:decide ((k:Int)<l.length)=true:=C9R (by omega)
  rw[A39 p l k hlt]at hp
  repeat' (first|with_reducible apply C9P|simp only[go_sem,hkd,A9 _ _ hlt]|simp(disch:=omega) only[A0,A9,A3]|intro hx_|with_reducible refine hf k hlt (fun j hj=>hb j (by omega) hj) _ ?_|omega)
  ·have h1:p l[k]=true:=by assumption
   rw[if_pos h1]at hp
   simp only[Int.zero_add,show¬((0:Int)<0)by omega,if_false]at hp
   rw[hp]at h
   exact D0u h
  ·have h1: ¬p l[k]=true:=by simp_all
   rw[if_neg h1]at hp
   refine C3 (k+1) ⟨by omega,fun j hj hjk=>?_,by rw[hp];have:=A1O p (l.drop (k+1));split<;>split<;>omega⟩ (by omega) (by(try simp only[go_sem])<;>(try simp(disch:=omega) [A0])<;>(try omega)) (D0q _)
   rcases Nat.lt_or_ge j k with g|g
   ·exact hb j hj g
   ·have:j=k:=by omega
    subst this;simpa using h1
 ·have hkd:decide ((k:Int)<l.length)=false:=C9S (by omega)
  rw[List.drop_eq_nil_of_le (by omega),V2]at hp
  repeat' (first|with_reducible apply C9P|simp only[go_sem,hkd]|simp(disch:=omega) only[A0,A9,A3]|intro hx_|omega)
  simp only[show ((-1:Int)<0)by omega,if_true]at hp
  rw[hp]at h
  exact D0u h
theorem A8T{Q}(p:Fm→Bool)(l:List Fm)(hl:l.length≤1000000000000000)(g:Nat)(first cap:List D)(H:Heap)
  (hf: ∀(k:Nat) (hk:k<l.length),(∀(j:Nat) (hj:j<k),p l[j]=false)→∀(Q:D→Heap→Prop),Q (.bool (p l[k])) H→ACalls Tryz.prog g (first++[.agg (C1 l[k])]++cap) H Q) (h:Q (.bool (l.any p)) H):
  ACalls Tryz.prog 108 [.sl 7 (Rw C1 l),.fn (.func g) first cap] H Q:=by
 refine B2 [] B3 Tryz.func108 rfl (by kernel_rfl) (C9Q (by kernel_rfl)) (by kernel_rfl) ?_
 simp only[go_sem,Tryz.results108]
 rw[←A3X]at h
 repeat' (first|with_reducible apply C9P|simp only[go_sem]|simp(disch:=omega) only[A3]|intro hx_|with_reducible refine C22 p l hl g first cap _ hf ?_|omega)
 exact D0u h
end Go.Proofs.YtibphjonmikciaaGreatDoor
end
section
namespace Go.Av
theorem A8U{P:Program}{f:Nat}(Z:List (Nat×Rc)){fn:Func}{c0 cnd rest:Code}{id s p r t t' e sz:Nat}{ops:Array Oper}{o1 o2:Oper}{args:List D}{H:Heap}{Q:D→Heap→Prop}(hm:P.follows .mixedOrders=true)(hf:P.funcs[f]? =some fn)
  (hb:fn.body=some (.seq c0 (.seq (.seq (.region id ops false) cnd) rest))) (hbo:A2b P f=true) (hn:args.length≤fn.ntmps) (ho:ops.toList= [o1,o2]) (h1d:o1.dst=some s) (h1o:o1.op= .move (.tmp p)) (h1g:o1.guard=none)
  (h2d:o2.dst=some r) (h2o:o2.op= .binOp .eql t (.tmp s) (.const (.slice none 0 0)) t') (h2g:o2.guard=none) (hs:s<fn.ntmps) (hr:r<fn.ntmps) (ht:P.underlying t=some (.slice e)) (hok:N6 P [] fn.ntmps c0=true) (hokc:N6 P Z fn.ntmps cnd=true) (hok2:N6 P Z fn.ntmps rest=true)
  (h:wp P [] c0 (fun x E H=>x= .normal∧E.get p= .sl sz []∧∀b:Bool,wp P Z (.seq cnd rest) (A9X P fn.results.toList Q) ((E.put (some s) (.sl sz [])).put (some r) (.bool b)) H) (X5 0 args) H):ACalls P f args H Q:=by
 refine⟨hbo,fun w vs hl hR hS=>calls_of_wp hf hb ?_⟩
 have hst:St fn.ntmps w H (X5 0 args) H {tmps:=vs++Array.replicate (fn.ntmps-vs.size) undef,defers:=[]} w:=by
  refine⟨by simp;omega,rfl,fun i=>?_,hS,D0x _ _,D0w _ _⟩
  rw[u0,if_pos (C9k _),Nat.sub_zero]
  cases hi:args[i]? with
  |none=>exact .undef _
  |some d=>
   have hlt:=(C9Z.1 hi).1
   have:({tmps:=vs++Array.replicate (fn.ntmps-vs.size) undef,defers:=[]}:Act).eval (.tmp i)=vs.getD i undef:=by
    simp only[Act.eval]
    exact F5 (by omega)
   rw[this]
   exact hR i d hi
 have fin: ∀(x:AX) (E:Env) (H':Heap) (a:Act) (w':World),(x= .normal∨x= .ret)→St fn.ntmps w H E H' a w'→A9X P fn.results.toList Q x E H'→
   a.defers= []∧∃v,(results fn a.tmps).run P w'= .ok v w'∧∃v',Ending.returned v= .returned v'∧Post H w Q v' w':=by
  intro x E H' a w' hx hst' hq
  have hq': ∃r,A2h P fn.results.toList E H'=some r∧∃H1 r',Shift H' r H1 r'∧Q r' H1:=by rcases hx with rfl|rfl<;>exact hq
  obtain⟨r,hr,H1,r',hle,hQ⟩:=hq'
  obtain⟨v,hv,hRv⟩:=A2B (P:=P) hst' hr
  obtain⟨k1,k2,k3⟩:=hle _ _ hRv hst'.sat
  exact⟨hst'.defers,v,hv,v,rfl,r',H1,k1,k2,hst'.ext,fun k hk hn=>k3 k (hst'.frm k hk hn),hQ⟩
 refine Go.wp_seq (Go.wp_mono (t8 hm c0 _ _ _ _ _ hok h hst) fun x a w' he=>?_)
 cases x with
 |normal=>
  obtain⟨E,H',hst',_,hp,hq⟩:=he
  refine Go.wp_seq (Go.wp_seq (q0 (F:=none) (K:=fun a' w''=>∃b:Bool,St fn.ntmps w H ((E.put (some s) (.sl sz [])).put (some r) (.bool b)) H' a' w'') (fun a' w'' hk=>?_) ?_))
  ·obtain⟨b,hst2⟩:=hk
   refine Go.wp_mono (t8 hm cnd _ _ _ _ _ hokc (hq b) hst2) fun x a w' he=>?_
   cases x with
   |normal=>
    obtain⟨E,H',hst',hq⟩:=he
    refine Go.wp_mono (t8 hm rest _ _ _ _ _ hok2 hq hst') fun x a w' he=>?_
    cases x with
    |normal=>obtain⟨E,H',hst',hq⟩:=he;exact fin .normal E H' a w' (.inl rfl) hst' hq
    |ret=>obtain⟨E,H',hst',hq⟩:=he;exact fin .ret E H' a w' (.inr rfl) hst' hq
    |exit id=>obtain⟨E,H',hst',hq⟩:=he;exact hq.elim
    |_=>exact he.elim
   |ret=>obtain⟨E,H',hst',hq⟩:=he;exact fin .ret E H' a w' (.inr rfl) hst' hq
   |exit id=>obtain⟨E,H',hst',hq⟩:=he;exact hq.elim
   |_=>exact he.elim
  ·rw[ho]
   unfold wpA
   rw[if_pos (by simp[Region.wanted,h1g])]
   have hv:=hst'.env p
   rw[hp]at hv
   unfold opSem
   rw[h1o]
   refine⟨a.eval (.tmp p),fun w2=>?_,?_⟩
   ·simp only[execOp,h1o];rfl
   ·have hst1:St fn.ntmps w H (E.put (some s) (.sl sz [])) H' (a.put o1.dst (a.eval (.tmp p))) w':=by
     rw[h1d]
     exact hst'.put (fun t ht=>by cases ht;exact hs) hv hst'.sat (D0x _ _) (D0w _ _)
    show wpA P none ops _ [o2] (a.put o1.dst (a.eval (.tmp p))) w'
    unfold wpA
    rw[if_pos (by simp[Region.wanted,h2g])]
    have hv2:=hst1.env s
    have hgs:(E.put (some s) (D.sl sz [])).get s= .sl sz []:=by simp[Env.put,Env.get]
    rw[hgs]at hv2
    obtain⟨ad,cap,hval⟩: ∃ad cap,(a.put o1.dst (a.eval (.tmp p))).eval (.tmp s)= .slice ad 0 cap:=by
     revert hv2
     generalize (a.put o1.dst (a.eval (.tmp p))).eval (.tmp s)=v
     intro hv2
     cases hv2 with
     |sl0 _ ad cap=>exact⟨ad,cap,rfl⟩
     |sl _ _ b off cap u=>exact⟨_,_,rfl⟩
    unfold opSem
    rw[h2o]
    refine⟨.bool ad.isNone,fun w2=>?_,ad.isNone,?_⟩
    ·have hR2:Runs P (do eqGuard .eql t (.tmp s) (.const (.slice none 0 0)) (.slice ad 0 cap) (.slice none 0 0);binOp .eql t (.slice ad 0 cap) (.slice none 0 0)) (.bool ad.isNone):=(I7 ⟨by simp,by simp⟩).bind (fun w=>by
      simp only[binOp]
      simp[run_equal_slice_nil w t e ad 0 cap ht])
     have hcv:(a.put o1.dst (a.eval (.tmp p))).eval (.const (.slice none 0 0))= .slice none 0 0:=rfl
     simp only[execOp,h2o]
     rw[hval,hcv,Sem.run_bind,hR2 w2];rfl
    ·rw[h2d]
     exact hst1.put (fun t ht=>by cases ht;exact hr) (.bool _) hst1.sat (D0x _ _) (D0w _ _)
 |exit id=>obtain⟨E,H',hst',hq⟩:=he;exact absurd hq.1 (by simp)
 |ret=>obtain⟨E,H',hst',hq⟩:=he;exact absurd hq.1 (by simp)
 |_=>exact he.elim
end Go.Av
end
section
set_option maxRecDepth 20000
namespace Go.Proofs.YtibphjonmikciaaGreatDoor
open Go Go.Av Go.Lexs Go.Lin Go.Fo
attribute [local irreducible] ACalls W4
noncomputable def C0v:Array Oper:=match Tryz.f91.body with|some (.seq _ (.seq (.seq (.region _ ops _) _) _))=>ops|_=> #[]
theorem B6j{Q}(l:List LTm)(hc:l≠[])(hl:l.length≤5864062014639)(H:Heap)(h:Q (.sl 2 (Rw Q7 l)) H):ACalls Tryz.prog 91 [.sl 2 (Rw Q7 l)] H Q:=by
 have hne:Rw Q7 l≠[]:=fun e=>hc (C9n (by rw[←D6 (f:=Q7),e];rfl))
 refine B2 [] B3 Tryz.func91 rfl (by kernel_rfl) (C9Q (by kernel_rfl)) (by kernel_rfl) ?_
 simp only[go_sem,Tryz.results91]
 have hq: ∀(x:Nat),J8 Tryz.prog .eql 23 (J7 (.tmp x)||J7 (.const (.slice none 0 0))) (.sl 2 (Rw Q7 l)) .nilsl=some (.bool false):=fun x=>A5f hne (by kernel_rfl)
 repeat' (first|with_reducible apply C9P|simp only[go_sem,hq]|simp(disch:=omega) only[A3]|intro hx_|omega)
 rename_i b0 h0 b'
 have hb':=hx_
 clear hx_
 rw[E7 h0]at hb'⊢
 exact Fin.out (ob:=some b') (es:=Rw Q7 l) (by rw[D6]) (A5 _ _) (D0r (by show H.Le ((H.set b' _).del b');rw[E7 hb'];exact D0q _) h)
theorem B6k{Q}(l:List LTm)(hl:l.length≤5864062014639)(H:Heap)(h:Q (.sl 2 (Rw Q7 l)) H):ACalls Tryz.prog 91 [.sl 2 (Rw Q7 l)] H Q:=by
 by_cases hc:l= []
 ·subst hc
  obtain⟨o1,o2,ho,a1,a2,a3,b1,b2,b3⟩: ∃o1 o2,C0v.toList= [o1,o2]∧o1.dst=some 3∧o1.op= .move (.tmp 0)∧o1.guard=none∧o2.dst=some 4∧o2.op= .binOp .eql 23 (.tmp 3) (.const (.slice none 0 0)) 23∧o2.guard=none:=by
   refine⟨_,_,rfl,?_⟩
   exact⟨rfl,rfl,rfl,rfl,rfl,rfl⟩
  refine A8U (ops:=C0v) [] (sz:=2) B3 Tryz.func91 rfl (by kernel_rfl) (C9Q (by kernel_rfl)) ho a1 a2 a3 b1 b2 b3 (C9Q (by kernel_rfl)) (C9Q (by kernel_rfl)) (e:=114) (by kernel_rfl) (by kernel_rfl) (by kernel_rfl) (by kernel_rfl) ?_
  simp only[go_sem,Tryz.results91]
  refine⟨rfl,fun b=>⟨fun _=>D9 (.nil 2) (D0u h),fun _ b0 h0 b' hb'=>?_⟩⟩
  rw[E7 h0]at hb'⊢
  exact Fin.out (ob:=some b') (n:=0) (es:=Rw Q7 []) rfl (A5 _ _) (D0r (by show H.Le ((H.set b' _).del b');rw[E7 hb'];exact D0q _) h)
 ·exact B6j l hc hl H h
theorem B9I(n:Nat): ∀{Q} (f:Fm) (hn:SizeOf.sizeOf f≤n) (fa:FmFit f) (H:Heap) (h:Q (.agg (C1 f)) H),ACalls Tryz.prog 49 [.agg (C1 f)] H Q:=by
 induction n with
 |zero=>intro Q f hn;cases f;simp at hn
 |succ n ih=>
 intro Q f hn fa H h
 refine B2 [(7,.par)] B3 Tryz.func49 rfl (by kernel_rfl) (C9Q (by kernel_rfl)) (by kernel_rfl) ?_
 simp only[go_sem,Tryz.results49]
 have hkl:=fa.kl
 intro b1 g1 b2 g2
 simp only[A4]at g2
 obtain⟨Z,hZ⟩: ∃Z:List D,Z= [.int .i64 0,.int .i64 0,.nilsl,.int .i64 0,.bool false,.str ⟨#[]⟩,.nilsl]:=⟨_,rfl⟩
 rw[←hZ]
 have n12:b1≠b2:=fun e=>g2.1 e.symm
 have e1:((H.set b1 (.box (C1 f))).set b2 (.box Z)) b1=some (.box (C1 f)):=by rw[A8 _ n12,A5]
 have e2:((H.set b1 (.box (C1 f))).set b2 (.box Z)) b2=some (.box Z):=A5 _ _
 have hle:H.Le ((H.set b1 (.box (C1 f))).set b2 (.box Z)):=(A2 g1).trans (A2 (by simp only[A4];exact g2))
 generalize (H.set b1 (.box (C1 f))).set b2 (.box Z)=Bs at e1 e2 hle⊢
 have s1:Bs.set b1 (.box (C1 f))=Bs:=B2h e1
 repeat' (first|with_reducible apply C9P|simp only[go_sem,e1,B56,s1,B57]|simp(disch:=omega) only[A0,A9,A3]|(intro hx_;try simp only[A4]at hx_)|with_reducible refine B6k f.l.t fa.lin.len _ ?_|omega)
 obtain⟨Cs,hCs⟩: ∃Cs,Cs=Bs.set b1 (.box (ac6 f .nilsl)):=⟨_,rfl⟩
 have c1:Cs b1=some (.box (ac6 f .nilsl)):=by rw[hCs,A5]
 have c2:Cs b2=some (.box Z):=by rw[hCs,A8 _ n12.symm];exact e2
 have hle2:H.Le Cs:=fun k o hk=>by
  have:k≠b1:=fun e=>by rw[e,g1]at hk;cases hk
  rw[hCs,A8 _ this];exact hle _ _ hk
 rw[←hCs]
 refine D1 [1,2,15,16] (fun(p:Nat×Option Nat×Heap)=>[(17,.int .i64 p.1)]) (fun(p:Nat×Option Nat×Heap)=>p.2.2) (fun(p:Nat×Option Nat×Heap)=>p.1≤f.ks.length∧AH 7 Cs b1 (ac6 f) (Rw C1 (f.ks.take p.1)) p.1 p.2.1 p.2.2) (fun(p:Nat×Option Nat×Heap)=>f.ks.length-p.1) ((0,none,Cs)) (⟨C9k _,A11 c1⟩) (by(try simp only[go_sem])<;>(try simp(disch:=omega) [A0])<;>(try omega)) (by first|exact D0q _|exact A2 (by assumption)|exact B4 (by assumption)|simp only[Heap.Le,Heap.set,Heap.del]at* <;>grind) ?_
 rintro Ec rfl ⟨i,ob,Hp⟩ ⟨hi,A⟩
 simp only at hi A
 by_cases hlt:i<f.ks.length
 ·have hkd:decide ((i:Int)<f.ks.length)=true:=C9R (by omega)
  have hti:(i:Int)<f.ks.length:=by omega
  have hm:=C9d hlt
  repeat' (first|with_reducible apply C9P|simp only[go_sem,hkd,hti,A9 _ _ hlt,C2 _ _ hlt]|simp(disch:=omega) only[A0,A9,A3]|(intro hx_;try simp only[A4]at hx_)|omega)
  rename_i b7
  have h7:=hx_
  clear hx_
  obtain⟨d1,d7,dO,dN⟩:=A.at7 h7 (.box (C1 f.ks[i]))
  refine F4 (fun i'=>.agg (C1 f.ks[i])) [b1,b7] ?_
  have m1:b1∈[b1,b7]:=by simp
  have m7:b7∈[b1,b7]:=by simp
  repeat' (first|with_reducible apply C9P|simp only[go_sem,d1,d7,m1,m7]|simp(disch:=omega) only[A0,A9,A3]|(intro hx_;try simp only[A4]at hx_)|with_reducible refine Q9 (fun H' Q hro hq=>ih f.ks[i] (by have:=A0O hm;omega) (fa.kid hm) H' hq) ?_|omega)
  rename_i x
  have hx:=hx_
  clear hx_
  obtain⟨hx7,hxH⟩:=hx
  have hxf:(Hp.set b7 (.box (C1 f.ks[i]))) x=none:=by rw[A8 _ hx7];exact hxH
  obtain⟨hout2,hobx⟩:=A44 dO hxf (.vec 7 [C1 f.ks[i]])
  have hxb:x∉[b1,b7]:=by
   simp only[C9r,C9s,or_false,not_or]
   exact⟨fun e=>(by rw[e,d1]at hxf;cases hxf),hx7⟩
  have hcb: ∀c,ob=some c→c∉[b1,b7]:=fun c e=>by
   simp only[C9r,C9s,or_false,not_or]
   exact⟨(A.fresh c e).2,dN c e⟩
  refine A97 28 96 (n:=i) (m:=1) (bx:=x) (ob:=ob) (es:=Rw C1 (f.ks.take i)) (xs:=[C1 f.ks[i]]) (by simp only[go_sem]) (by decide) (by simp only[go_sem]) (by simp only[go_sem]) (by simp only[go_sem]) (by simp only[go_sem]) (A5 _ _) rfl (by simp) hout2 (Z0 _ _ (by omega)).symm hxb hobx hcb (by simp only[C9U,C9W];omega) (by simp only[C9U,C9W];omega) fun b' hb'=>?_
  rw[E7 hxf]at hb'⊢
  obtain⟨hne',d8',A'⟩:=A.step h7 _ hb' (C1 f.ks[i])
  revert A'
  generalize hHf:((K5 (Hp.set b7 (.box (C1 f.ks[i]))) ob).set b' (.vec 7 (Rw C1 (f.ks.take i)++[C1 f.ks[i]]))).set b1 (.box (ac6 f (.vec b' 7 0 (i+1))))=Hf
  intro A'
  repeat' (first|with_reducible apply C9P|simp only[go_sem,d8',m1]|simp(disch:=omega) only[A0,A9,A3]|(intro hx_;try simp only[A4]at hx_)|omega)
  exact C3 (i+1,some b',Hf) ⟨by simp only[];omega,by simp only[];rw[Q3 f.ks i hlt];exact A'⟩ (by simp only[];omega) (by(try simp only[go_sem])<;>(try simp(disch:=omega) [A0])<;>(try omega)) (by rw[←hHf];exact D0q _)
 ·have hkd:decide ((i:Int)<f.ks.length)=false:=C9S (by omega)
  have hie:i=f.ks.length:=by omega
  have c2':=A.keep b2 _ n12.symm c2
  rw[C9e (by omega)]at A
  have A1:=A.box
  rw[hZ]at c2'
  have o1:=A53 7 i ob
  repeat' (first|with_reducible apply C9P|simp only[go_sem,hkd,A1,c2',o1]|simp(disch:=omega) only[A0,A9,A3]|(intro hx_;try simp only[A4]at hx_)|omega)
  exact C2c hie (A.out2 c2 _) (D0r (A.le2 hle2 g1 g2.2 _) (by rw[←C3T];exact h))
theorem B23{Q}(f:Fm)(fa:FmFit f)(H:Heap)(h:Q (.agg (C1 f)) H):ACalls Tryz.prog 49 [.agg (C1 f)] H Q:=B9I _ f (C9j _) fa H h
end Go.Proofs.YtibphjonmikciaaGreatDoor
namespace Go.Fo
open Go Go.Av Go.Lexs Go.Lin
abbrev A4s:ByteArray:=⟨#[40,41,44,33,38,124,63]⟩
theorem B1o(c:UInt8):A1k (c.toNat:Int)= !(B A4s).contains c:=by
 have key: ∀n:Fin 256,A1k ((UInt8.ofNat n.val).toNat:Int)= !(B A4s).contains (UInt8.ofNat n.val):=by decide+kernel
 have:=key ⟨c.toNat,c.toNat_lt⟩
 simpa using this
theorem A7X: ∀l:List UInt8,Lib.containsAny l (B A4s)= !l.all (ofB A1k)
 | []=>rfl
 |b::l=>by
  have ih:=A7X l
  unfold Lib.containsAny at ih⊢
  rw[Lib.indexAny,D0S]
  have e:ofB A1k b= !(B A4s).contains b:=B1o b
  rw[e]
  have g:=Lib.indexAny_ge (B A4s) l
  by_cases h:(B A4s).contains b=true
  ·rw[if_pos h,h];rfl
  ·rw[if_neg h]
   have h2:(B A4s).contains b=false:=by simpa using h
   rw[h2,D0o,Bool.true_and,←ih]
   apply C92.2
   split
   ·rename_i q;have:=beq_iff_eq.1 q;omega
   ·rename_i q;have:Lib.indexAny l (B A4s)≠ -1:=fun e=>q (by rw[e];rfl)
    omega
def plainK(f:Fm)(tx ln:Bool)(kk:Int):Bool:=(tx||decide (f.s.size=0))&&(ln||A9i f.l)&&(decide (kk<0)||decide ((f.ks.length:Int)=kk))
end Go.Fo
namespace Go.Proofs.YtibphjonmikciaaGreatDoor
open Go Go.Av Go.Lexs Go.Lin Go.Fo
attribute [local irreducible] ACalls W4
open Go.RowKit in
theorem C23{Q}(s:ByteArray)(hs:H8 (B s)=true)(H:Heap)(h:Q (.bool (!(B s).all (ofB A1k))) H):ACalls Tryz.prog 137 [.str s,.str A4s] H Q:=
 I4 (by kernel_rfl) (fun w vs hl hr hs'=>by
  obtain⟨a,b,rfl,ha',hb⟩:=y0 hl hr
  rw[ha'.str_inv,hb.str_inv]
  refine(Tryz.strings_ContainsAny_laid s A4s w (by have:=A2u hs;omega) (by decide) (fun j b hj=>by have:=A5o hs b (C9w hj);omega) (fun j b hj=>by
   have hm:=C9w hj
   have key: ∀c∈(A4s).data.toList,c.toNat<128:=by decide
   exact key b hm)).mono fun e w' ⟨he,hw⟩=>?_
  refine⟨_,he,hw,?_⟩
  rw[show Lib.containsAny s.data.toList A4s.data.toList= !(B s).all (ofB A1k)from A7X (B s)]
  exact .bool _) h
theorem B0U{Q}(s:ByteArray)(H:Heap)(h:Q (.bool (plainB s)) H):ACalls Tryz.prog 99 [.str s] H Q:=by
 refine B2 [] B3 Tryz.func99 rfl (by kernel_rfl) (C9Q (by kernel_rfl)) (by kernel_rfl) ?_
 simp only[go_sem,Tryz.results99]
 unfold plainB at h
 cases hn:H8 (B s)with
 |false=>
  rw[hn]at h
  repeat' (first|with_reducible apply C9P|simp only[go_sem,hn]|simp(disch:=omega) only[A3]|intro hx_|with_reducible refine N4 _ _ ?_|omega)
  exact D0u h
 |true=>
  rw[hn]at h
  repeat' (first|with_reducible apply C9P|simp only[go_sem,hn]|simp(disch:=omega) only[A3]|intro hx_|with_reducible refine N4 _ _ ?_|with_reducible refine C23 s hn _ ?_|omega)
  exact D0u (by simpa using h)
theorem C54{Q}(t:LTm)(H:Heap)(h:Q (.bool (!plainB t.v)) H):ACalls Tryz.prog 98 [.agg (Q7 t)] H Q:=by
 refine B2 [] B3 Tryz.func98 rfl (by kernel_rfl) (C9Q (by kernel_rfl)) (by kernel_rfl) ?_
 simp only[go_sem,Tryz.results98]
 repeat' (first|with_reducible apply C9P|simp only[go_sem]|simp(disch:=omega) only[A3]|intro hx_|with_reducible refine B0U _ _ ?_|omega)
 exact D0r (by simp only[Go.Av.Heap.Le,Go.Av.Heap.set,Go.Av.Heap.del]at* <;>grind) h
set_option maxHeartbeats 2000000 in
theorem B0V{Q}(f:Fm)(fa:FmFit f)(tx ln:Bool)(kk:Int)(b:Nat)(H:Heap)(hb:H b=some (.box (C1 f)))(h:Q (.bool (plainK f tx ln kk)) H):ACalls Tryz.prog 95 [.bool tx,.bool ln,.int .i64 kk,.box b 0] H Q:=by
 refine B2 [] B3 Tryz.func95 rfl (by kernel_rfl) (C9Q (by kernel_rfl)) (by kernel_rfl) ?_
 simp only[go_sem,Tryz.results95]
 have hkl:=fa.kl
 have htl:=fa.lin.len
 have d1:decide (f.s.size=0)=decide (B f.s= []):=by
  rw[←Y7]
  exact C92.2 List.length_eq_zero_iff
 have d2:decide ((f.l.t.length:Int)=0)=decide (f.l.t= []):=C92.2 (by rw[←List.length_eq_zero_iff];omega)
 unfold plainK A9i at h
 rw[d1,←d2]at h
 clear d1 d2
 cases tx<;>cases ln
 all_goals
  repeat' (first|with_reducible apply C9P|simp only[go_sem,hb]|simp(disch:=omega) only[A3]|intro hx_|omega)
  all_goals (refine D0u ?_;simp_all)
end Go.Proofs.YtibphjonmikciaaGreatDoor
namespace Go.Fo
open Go Go.Av Go.Lexs Go.Lin
def ovr(S H:Heap):Heap:=fun i=>match S i with|some o=>some o|none=>H i
theorem A0b{S H:Heap}{b:Nat}{o:Av.Obj}(h:S b=some o):ovr S H b=some o:=by unfold ovr;rw[h]
theorem A2O{S H:Heap}{b:Nat}(h:S b=none):ovr S H b=H b:=by unfold ovr;rw[h]
theorem A0w{S H:Heap}{b:Nat}(h:ovr S H b=none):S b=none∧H b=none:=by
 unfold ovr at h
 cases g:S b with
 |none=>rw[g]at h;exact⟨rfl,h⟩
 |some o=>rw[g]at h;cases h
theorem A8V{S H:Heap}{b:Nat}{o:Av.Obj}(h:S b=none):(ovr S H).set b o=ovr S (H.set b o):=by
 funext i
 unfold ovr Heap.set
 by_cases e:i=b
 ·subst e;simp[h]
 ·simp[e]
theorem B1p{S H H':Heap}(h:H.Le H'):(ovr S H).Le (ovr S H'):=fun k o hk=>by
 unfold ovr at hk⊢
 cases g:S k with
 |none=>rw[g]at hk;exact h _ _ hk
 |some x=>rw[g]at hk;exact hk
structure Vis(P:Program)(σ :Type)(g:Nat)(cap:List D)(St: σ →Heap)(step: σ →Fm→Int→ σ)(I: σ →Prop)(Hb:Heap→Prop):Prop where
 dom: ∀a a' i,St a i=none→St a' i=none
 inv: ∀a f d,I a→I (step a f d)
 base: ∀H b (o:Av.Obj),Hb H→H b=none→Hb (H.set b o)
 call: ∀a f d (H:Heap) (Q:D→Heap→Prop),I a→Hb H→FmFit f→Q (.tuple []) (ovr (St (step a f d)) H)→ACalls P g (.agg (C1 f):: .int .i64 d::cap) (ovr (St a) H) Q
end Go.Fo
namespace Go.Proofs.YtibphjonmikciaaGreatDoor
open Go Go.Av Go.Lexs Go.Lin Go.Fo
attribute [local irreducible] ACalls W4
theorem C24{σ :Type}{g:Nat}{cap:List D}{St: σ →Heap}{step: σ →Fm→Int→ σ}{I: σ →Prop}{Hb:Heap→Prop}(V:Vis Tryz.prog σ g cap St step I Hb)(n:Nat): ∀{Q} (f:Fm) (hn:SizeOf.sizeOf f≤n) (fa:FmFit f) (d:Int) (a: σ) (hI:I a) (H:Heap) (hH:Hb H) (h:Q (.tuple []) (ovr (St (foldF step f d a)) H)),
  ACalls Tryz.prog 53 [.agg (C1 f),.int .i64 d,.fn (.func g) [] cap] (ovr (St a) H) Q:=by
 induction n with
 |zero=>intro Q f hn;cases f;simp at hn
 |succ n ih=>
 intro Q f hn fa d a hI H hH h
 refine B2 [] B3 Tryz.func53 rfl (by kernel_rfl) (C9Q (by kernel_rfl)) (by kernel_rfl) ?_
 simp only[go_sem,Tryz.results53]
 have hkl:=fa.kl
 rw[A1s]at h
 intro b3 hb3
 obtain⟨s0,g0⟩:=A0w hb3
 rw[A8V s0]
 have hH1:=V.base H b3 (.box (C1 f)) hH g0
 have hle:H.Le (H.set b3 (.box (C1 f))):=A2 g0
 have e3: ∀a',ovr (St a') (H.set b3 (.box (C1 f))) b3=some (.box (C1 f)):=fun a'=>by rw[A2O (V.dom a a' b3 s0),A5]
 generalize H.set b3 (.box (C1 f))=Bs at hH1 hle e3⊢
 repeat' (first|with_reducible apply C9P|simp only[go_sem,e3]|simp(disch:=omega) only[A0,A9,A3]|intro hx_|with_reducible refine V.call a f d Bs _ hI hH1 fa ?_|omega)
 refine D1 [1,2,13,14] (fun(p:Nat× σ)=>[(15,.int .i64 p.1)]) (fun(p:Nat× σ)=>ovr (St p.2) Bs) (fun(p:Nat× σ)=>p.1≤f.ks.length∧I p.2∧foldF.foldK step (f.ks.drop p.1) (IntKind.i64.wrap (d+1)) p.2=foldF.foldK step f.ks (IntKind.i64.wrap (d+1)) (step a f d)) (fun(p:Nat× σ)=>f.ks.length-p.1) ((0,step a f d)) (⟨C9k _,V.inv _ _ _ hI,rfl⟩) (by(try simp only[go_sem])<;>(try simp(disch:=omega) [A0])<;>(try omega)) (by first|exact D0q _|exact A2 (by assumption)|exact B4 (by assumption)|simp only[Heap.Le,Heap.set,Heap.del]at* <;>grind) ?_
 rintro Ec rfl ⟨i,c⟩ ⟨hi,hc,hf⟩
 simp only at hi hc hf
 by_cases hlt:i<f.ks.length
 ·have hkd:decide ((i:Int)<f.ks.length)=true:=C9R (by omega)
  have hti:(i:Int)<f.ks.length:=by omega
  have hm:=C9d hlt
  rw[C9u hlt,foldF.foldK]at hf
  repeat' (first|with_reducible apply C9P|simp only[go_sem,hkd,hti,A9 _ _ hlt,C2 _ _ hlt]|simp(disch:=omega) only[A0,A9,A3]|intro hx_|omega)
  rename_i b7
  have h7:=hx_
  clear hx_
  obtain⟨s7,g7⟩:=A0w h7
  rw[A8V s7]
  have hH2:=V.base Bs b7 (.box (C1 f.ks[i])) hH1 g7
  refine ih f.ks[i] (by have:=A0O hm;omega) (fa.kid hm) _ c hc _ hH2 ?_
  repeat' (first|with_reducible apply C9P|simp only[go_sem]|simp(disch:=omega) only[A0,A9,A3]|intro hx_|omega)
  exact C3 (i+1,foldF step f.ks[i] (IntKind.i64.wrap (d+1)) c) ⟨by simp only[];omega,B3n step I V.inv _ _ _ hc,hf⟩ (by simp only[];omega) (by(try simp only[go_sem])<;>(try simp(disch:=omega) [A0])<;>(try omega)) (B1p (A2 g7))
 ·have hkd:decide ((i:Int)<f.ks.length)=false:=C9S (by omega)
  rw[List.drop_eq_nil_of_le (by omega),foldF.foldK]at hf
  rw[←hf]at h
  repeat' (first|with_reducible apply C9P|simp only[go_sem,hkd]|simp(disch:=omega) only[A0,A9,A3]|intro hx_|omega)
  exact D0r (B1p hle) h
theorem B1q{σ :Type}{g:Nat}{cap:List D}{St: σ →Heap}{step: σ →Fm→Int→ σ}{I: σ →Prop}{Hb:Heap→Prop}(V:Vis Tryz.prog σ g cap St step I Hb){Q}(f:Fm)(fa:FmFit f)(d:Int)(a: σ)(hI:I a)(H:Heap)(hH:Hb H)(h:Q (.tuple []) (ovr (St (foldF step f d a)) H)):
  ACalls Tryz.prog 53 [.agg (C1 f),.int .i64 d,.fn (.func g) [] cap] (ovr (St a) H) Q:=C24 V _ f (C9j _) fa d a hI H hH h
end Go.Proofs.YtibphjonmikciaaGreatDoor
end
section
set_option maxRecDepth 4000
namespace Go.Fo
open Go Go.Av Go.Lexs Go.Lin
def tcF:List LTm→Int→Int
 | [],left=>left
 |t::l,left=>tcF l (IntKind.i64.wrap (left-t.v.size / 100))
def T5:Fm→Int→Int
 | .mk _ _ l s ks,left=>cntK ks (tcF l.t (IntKind.i64.wrap (left-IntKind.i64.wrap (IntKind.i64.wrap (1+s.size / 100)+l.t.length))))
where cntK:List Fm→Int→Int
 | [],left=>left
 |f::fs,left=>if left<0 then left else cntK fs (T5 f left)
theorem B24(f:Fm)(left:Int):T5 f left=T5.cntK f.ks (tcF f.l.t (IntKind.i64.wrap (left-IntKind.i64.wrap (IntKind.i64.wrap (1+f.s.size / 100)+f.l.t.length)))):=by cases f;rw[T5];rfl
def B4F:List Fm→Int→Int
 | [],n=>n
 |f::l,n=>B4F l (T5 f n)
theorem C25(l:List LTm): ∀(left:Int),(∀t∈l,t.v.size≤140737488351232)→ -100000000000000000+10000000000000*(l.length:Int)≤left→left≤1000000→tcF l left≤left∧left-2000000000000*(l.length:Int)≤tcF l left:=by
 induction l with
 |nil=>intro left _ _ _;rw[tcF];simp only[C9W];omega
 |cons t l ih=>
  intro left h h0 h1
  have ht:=h t (C9a ..)
  simp only[C9U]at h0⊢
  have w:IntKind.i64.wrap (left-(t.v.size:Int) / 100)=left-(t.v.size:Int) / 100:=A0 (by omega) (by omega)
  rw[tcF,w]
  have:=ih (left-(t.v.size:Int) / 100) (fun x hx=>h x (C9h _ hx)) (by omega) (by omega)
  omega
theorem B25{f:Fm}(h:D5 f=true):f.l.t.length≤12:=by
 cases B6J h with
 |lin l hv hp=>exact(L9 hv).len
 |_=>simp[Fm.l,nilL]
theorem B9J: ∀(f:Fm) (left:Int),FmFit f→G7 D5 f=true→0≤left→left≤1000000→T5 f left≤left∧(0≤T5 f left→(K7 f:Int)≤left-T5 f left):=by
 intro f
 induction f using P2 with
 |h o n l s ks ih=>
  intro left fa hf h0 h1
  have ht:=B25 (f:=.mk o n l s ks) (by rw[A2L,C9c]at hf;exact hf.1)
  have hk: ∀k∈ks,G7 D5 k=true:=fun k hk=>N8 (f:=.mk o n l s ks) hf hk
  have fk: ∀k∈ks,FmFit k:=fun k hk=>fa.kid hk
  have hs:=fa.txt
  have ht:l.t.length≤12:=ht
  have hs:s.size≤140737488351232:=hs
  rw[B24,L1]
  show T5.cntK ks (tcF l.t (IntKind.i64.wrap (left-IntKind.i64.wrap (IntKind.i64.wrap (1+s.size / 100)+l.t.length))))≤left∧(0≤T5.cntK ks (tcF l.t (IntKind.i64.wrap (left-IntKind.i64.wrap (IntKind.i64.wrap (1+s.size / 100)+l.t.length))))→((1+l.t.length+K7.wtL ks:Nat):Int)≤left-T5.cntK ks (tcF l.t (IntKind.i64.wrap (left-IntKind.i64.wrap (IntKind.i64.wrap (1+s.size / 100)+l.t.length)))))
  have w1:IntKind.i64.wrap (1+(s.size:Int) / 100)=1+(s.size:Int) / 100:=A0 (by omega) (by omega)
  have w2:IntKind.i64.wrap (1+(s.size:Int) / 100+l.t.length)=1+(s.size:Int) / 100+l.t.length:=A0 (by omega) (by omega)
  have w3:IntKind.i64.wrap (left-(1+(s.size:Int) / 100+l.t.length))=left-(1+(s.size:Int) / 100+l.t.length):=A0 (by omega) (by omega)
  rw[w1,w2,w3]
  have t1:=C25 l.t (left-(1+(s.size:Int) / 100+l.t.length)) (fun t ht=>fa.lin.str t ht) (by omega) (by omega)
  generalize tcF l.t (left-(1+(s.size:Int) / 100+l.t.length))=x at t1
  have key: ∀(m:List Fm),(∀k∈m,k∈ks)→∀x:Int,x≤1000000→T5.cntK m x≤x∧(0≤T5.cntK m x→(K7.wtL m:Int)≤x-T5.cntK m x):=by
   intro m
   induction m with
   |nil=>intro _ x _;exact⟨Int.le_refl _,fun _=>by simp[T5.cntK,K7.wtL]⟩
   |cons f fs ih2=>
    intro hm x hx
    have hfm:=hm f (C9a ..)
    rw[T5.cntK,K7.wtL]
    split
    ·exact⟨Int.le_refl _,fun h=>by omega⟩
    ·have i1:=ih f hfm x (fk f hfm) (hk f hfm) (by omega) hx
     have i2:=ih2 (fun k hk=>hm k (C9h _ hk)) (T5 f x) (by omega)
     refine⟨by omega,fun h=>?_⟩
     have:=i2.2 h
     have:=i1.2 (by omega)
     push_cast;omega
  have k1:=key ks (fun _ h=>h) x (by omega)
  refine⟨by omega,fun h=>?_⟩
  have:=k1.2 h
  push_cast;omega
def VOk(f:Fm):Prop:=K7 f≤1000000∨G7 D5 f=false
theorem B9K{f:Fm}(fa:FmFit f)(h:0≤T5 f 600):VOk f∧(G7 D5 f=true→K7 f≤600):=by
 by_cases g:G7 D5 f=true
 ·have:=(B9J f 600 fa g (by decide) (by decide)).2 h
  exact⟨.inl (by omega),fun _=>by omega⟩
 ·exact⟨.inr (by simpa using g),fun e=>absurd e g⟩
end Go.Fo
end
section
set_option maxRecDepth 20000
namespace Go.Fo
open Go Go.Av Go.Lexs Go.Lin
theorem B1r(l:List LTm):(!l.any fun t=> !plainB t.v)=l.all fun t=>plainB t.v:=by
 induction l with
 |nil=>rfl
 |cons t l ih=>rw[D0U,D0S,←ih];cases plainB t.v<;>simp
theorem B9L(l:List Fm):l.isEmpty=decide ((l.length:Int)=0):=by
 cases l with
 |nil=>rfl
 |cons x l=>simp only[List.isEmpty_cons,C9U];symm;apply C9S;omega
theorem B9M(l:List Fm):decide (l.length=1)=decide ((l.length:Int)=1):=C92.2 (by omega)
theorem B6l(f:Fm):D5 f=if f.op=1 then((decide (f.n=0)||decide (f.n=1))&&plainK f false false 0)
  else if f.op=2 then(decide (f.n=0)&&plainK f false true 0&&validL f.l&& !f.l.t.any fun t=> !plainB t.v)
  else if f.op=3 then(decide (f.n=0)&&plainK f true false 0&&plainB f.s)
  else if f.op=4 then(decide (f.n=0)&&plainK f false false 1)
  else if f.op=5∨f.op=6 then(decide (f.n=0)&&plainK f false false (-1))else false:=by
 unfold D5 plainK
 rw[B9L,B9M,B1r]
 split
 ·simp[Bool.and_assoc]
 ·split
  ·simp only[Bool.false_or,Bool.true_or,Bool.and_true,Int.lt_irrefl,decide_false,Bool.true_and,Bool.and_assoc]
  ·split
   ·simp only[Bool.false_or,Bool.true_or,Bool.and_true,Int.lt_irrefl,decide_false,Bool.true_and,Bool.and_assoc]
   ·split
    ·simp[Bool.and_assoc]
    ·split
     ·simp[Bool.and_assoc]
     ·rfl
end Go.Fo
namespace Go.Proofs.YtibphjonmikciaaGreatDoor
open Go Go.Av Go.Lexs Go.Lin Go.Fo
attribute [local irreducible] ACalls W4
set_option maxHeartbeats 4000000 in
theorem C8E{Q}(f:Fm)(fa:FmFit f)(H:Heap)(h:Q (.bool (D5 f)) H):ACalls Tryz.prog 55 [.agg (C1 f)] H Q:=by
 refine B2 [] B3 Tryz.func55 rfl (by kernel_rfl) (C9Q (by kernel_rfl)) (by kernel_rfl) ?_
 simp only[go_sem,Tryz.results55]
 have htl:=fa.lin.len
 rw[B6l]at h
 intro b1 h1
 have e1:(H.set b1 (.box (C1 f))) b1=some (.box (C1 f)):=A5 _ _
 have hle:H.Le (H.set b1 (.box (C1 f))):=A2 h1
 generalize H.set b1 (.box (C1 f))=Bs at e1 hle⊢
 have c1:=fun(Q:D→Heap→Prop)=>B0V (Q:=Q) f fa false false 0 b1 Bs e1
 have c2:=fun(Q:D→Heap→Prop)=>B0V (Q:=Q) f fa false true 0 b1 Bs e1
 have c3:=fun(Q:D→Heap→Prop)=>B0V (Q:=Q) f fa true false 0 b1 Bs e1
 have c4:=fun(Q:D→Heap→Prop)=>B0V (Q:=Q) f fa false false 1 b1 Bs e1
 have c5:=fun(Q:D→Heap→Prop)=>B0V (Q:=Q) f fa false false (-1) b1 Bs e1
 have vc:=fun(Q:D→Heap→Prop)=>A8G (Q:=Q) f.l fa.lin Bs
 have tc:=fun(Q:D→Heap→Prop)=>C21 (Q:=Q) (fun t=> !plainB t.v) f.l.t (by omega) 98 [] [] Bs (fun a ha Q hq=>C54 a Bs hq)
 have nc:=fun(Q:D→Heap→Prop)=>B0U (Q:=Q) f.s Bs
 generalize plainK f false false 0=k1 at h c1
 generalize plainK f false true 0=k2 at h c2
 generalize plainK f true false 0=k3 at h c3
 generalize plainK f false false 1=k4 at h c4
 generalize plainK f false false (-1)=k5 at h c5
 generalize validL f.l=v1 at h vc
 generalize (f.l.t.any fun t=> !plainB t.v)=v2 at h tc
 generalize plainB f.s=v3 at h nc
 by_cases o1:f.op=1
 ·rw[if_pos o1]at h
  repeat' (first|with_reducible apply C9P|simp only[go_sem,e1,o1]|simp(disch:=omega) only[A3]|intro hx_|with_reducible refine c1 _ ?_|omega)
  all_goals (refine D0r hle ?_;simp_all)
 rw[if_neg o1]at h
 by_cases o2:f.op=2
 ·rw[if_pos o2]at h
  repeat' (first|with_reducible apply C9P|simp only[go_sem,e1,o2]|simp(disch:=omega) only[A3]|intro hx_|with_reducible refine c2 _ ?_|with_reducible refine vc _ ?_|with_reducible refine tc _ ?_|omega)
  all_goals (refine D0r hle ?_;simp_all)
 rw[if_neg o2]at h
 by_cases o3:f.op=3
 ·rw[if_pos o3]at h
  repeat' (first|with_reducible apply C9P|simp only[go_sem,e1,o3]|simp(disch:=omega) only[A3]|intro hx_|with_reducible refine c3 _ ?_|with_reducible refine nc _ ?_|omega)
  all_goals (refine D0r hle ?_;simp_all)
 rw[if_neg o3]at h
 by_cases o4:f.op=4
 ·rw[if_pos o4]at h
  repeat' (first|with_reducible apply C9P|simp only[go_sem,e1,o4]|simp(disch:=omega) only[A3]|intro hx_|with_reducible refine c4 _ ?_|omega)
  all_goals (refine D0r hle ?_;simp_all)
 rw[if_neg o4]at h
 by_cases o5:f.op=5
 ·rw[if_pos (.inl o5)]at h
  repeat' (first|with_reducible apply C9P|simp only[go_sem,e1,o5]|simp(disch:=omega) only[A3]|intro hx_|with_reducible refine c5 _ ?_|omega)
  all_goals (refine D0r hle ?_;simp_all)
 by_cases o6:f.op=6
 ·rw[if_pos (.inr o6)]at h
  repeat' (first|with_reducible apply C9P|simp only[go_sem,e1,o6]|simp(disch:=omega) only[A3]|intro hx_|with_reducible refine c5 _ ?_|omega)
  all_goals (refine D0r hle ?_;simp_all)
 rw[if_neg (by omega)]at h
 have g1:decide (f.op=1)=false:=C9S o1
 have g2:decide (f.op=2)=false:=C9S o2
 have g3:decide (f.op=3)=false:=C9S o3
 have g4:decide (f.op=4)=false:=C9S o4
 have g5:decide (f.op=5)=false:=C9S o5
 have g6:decide (f.op=6)=false:=C9S o6
 repeat' (first|with_reducible apply C9P|simp only[go_sem,e1,g1,g2,g3,g4,g5,g6]|simp(disch:=omega) only[A3]|intro hx_|omega)
 all_goals exact D0r hle h
end Go.Proofs.YtibphjonmikciaaGreatDoor
namespace Go.Fo
open Go Go.Av Go.Lexs Go.Lin
def A0x(n:Int):Av.Obj:=.box [.int .i64 n]
def Z6(bn bm:Nat)(a:Int×Int):Heap:=fun i=>if i=bm then some (A0x a.2)else if i=bn then some (A0x a.1)else none
theorem B9N{bn bm:Nat}(a a':Int×Int)(H Hc:Heap)(h:(ovr (Z6 bn bm a) H).Le Hc):(ovr (Z6 bn bm a') H).Le ((Hc.set bn (A0x a'.1)).set bm (A0x a'.2)):=fun k o hk=>by
 unfold Heap.set
 by_cases e:k=bm
 ·subst e;simp[ovr,Z6]at hk⊢;exact hk
 ·by_cases e2:k=bn
  ·subst e2;simp[ovr,Z6,e]at hk⊢;exact hk
  ·simp only[e,e2,if_false]
   refine h _ _ ?_
   simpa [ovr,Z6,e,e2]using hk
def B6m(b:Bool):Av.Obj:=.box [.bool b]
def l7(bo:Nat)(a:Bool):Heap:=fun i=>if i=bo then some (B6m a)else none
theorem B26{bo:Nat}(a a':Bool)(H Hc:Heap)(h:(ovr (l7 bo a) H).Le Hc):(ovr (l7 bo a') H).Le (Hc.set bo (B6m a')):=fun k o hk=>by
 unfold Heap.set
 by_cases e:k=bo
 ·subst e;simp[ovr,l7]at hk⊢;exact hk
 ·simp only[e,if_false]
  refine h _ _ ?_
  simpa [ovr,l7,e]using hk
def P8(bi bb mi mb:Nat)(a:List ByteArray×List ByteArray):Heap:=fun i=>if i=mi then some (.map (C9 tt a.1))else if i=mb then some (.map (C9 tt a.2))else if i=bi then some (.box [.map mi])else if i=bb then some (.box [.map mb])else none
structure B9O(bi bb mi mb:Nat):Prop where
 a:mi≠mb
 b:bi≠mi
 c:bi≠mb
 d:bb≠mi
 e:bb≠mb
 f:bi≠bb
theorem B0W{bi bb mi mb:Nat}(F:B9O bi bb mi mb)(a:List ByteArray×List ByteArray)(H:Heap):ovr (P8 bi bb mi mb a) H mi=some (.map (C9 tt a.1))∧ovr (P8 bi bb mi mb a) H mb=some (.map (C9 tt a.2))∧ovr (P8 bi bb mi mb a) H bi=some (.box [.map mi])∧ovr (P8 bi bb mi mb a) H bb=some (.box [.map mb]):=by
 have f1:=F.a;have f2:=F.b;have f3:=F.c;have f4:=F.d;have f5:=F.e;have f6:=F.f
 refine⟨A0b (by simp[P8]),A0b (by simp[P8,f1.symm]),A0b (by simp[P8,f2,f3]),A0b (by simp[P8,f4,f5,f6.symm])⟩
theorem B0X{bi bb mi mb:Nat}(a a':List ByteArray×List ByteArray)(H G:Heap)(h1:G mi=some (.map (C9 tt a'.1)))(h2:G mb=some (.map (C9 tt a'.2)))(h3:G bi=some (.box [.map mi]))(h4:G bb=some (.box [.map mb]))
  (h: ∀k o,P8 bi bb mi mb a k=none→H k=some o→G k=some o):(ovr (P8 bi bb mi mb a') H).Le G:=fun k o hk=>by
 unfold ovr P8 at hk
 by_cases e1:k=mi
 ·rw[if_pos e1]at hk;rw[e1,h1];exact hk
 rw[if_neg e1]at hk
 by_cases e2:k=mb
 ·rw[if_pos e2]at hk;rw[e2,h2];exact hk
 rw[if_neg e2]at hk
 by_cases e3:k=bi
 ·rw[if_pos e3]at hk;rw[e3,h3];exact hk
 rw[if_neg e3]at hk
 by_cases e4:k=bb
 ·rw[if_pos e4]at hk;rw[e4,h4];exact hk
 rw[if_neg e4]at hk
 exact h k o (by unfold P8;rw[if_neg e1,if_neg e2,if_neg e3,if_neg e4]) hk
theorem B6n{bi bb mi mb:Nat}(a a':List ByteArray×List ByteArray)(i:Nat)(h:P8 bi bb mi mb a i=none):P8 bi bb mi mb a' i=none:=by
 unfold P8 at h⊢
 by_cases e1:i=mi
 ·simp[e1]at h
 by_cases e2:i=mb
 ·simp[e1,e2]at h;split at h<;>cases h
 by_cases e3:i=bi
 ·rw[if_neg e1,if_neg e2,if_pos e3]at h;cases h
 by_cases e4:i=bb
 ·rw[if_neg e1,if_neg e2,if_neg e3,if_pos e4]at h;cases h
 rw[if_neg e1,if_neg e2,if_neg e3,if_neg e4]
theorem C8F(bn bm:Nat)(x y:Int)(H:Heap):(H.set bn (A0x x)).set bm (A0x y)=ovr (Z6 bn bm (x,y)) H:=by
 funext i
 unfold ovr Z6 Heap.set
 by_cases e1:i=bm
 ·simp[e1]
 ·by_cases e2:i=bn
  ·subst e2;simp[e1]
  ·simp[e1,e2]
theorem C8G(bo:Nat)(x:Bool)(H:Heap):H.set bo (B6m x)=ovr (l7 bo x) H:=by
 funext i
 unfold ovr l7 Heap.set
 by_cases e1:i=bo<;>simp[e1]
def A6A(n:Nat)(seen:List Nat):Nat:=((List.range n).filter fun i=> !seen.contains i).length
theorem A1u{n i:Nat}{seen:List Nat}(hi:i<n)(hn:i∉seen):A6A n (seen++[i])<A6A n seen:=by
 unfold A6A
 have key: ∀l:List Nat,(l.filter fun j=> !(seen++[i]).contains j).length+(l.filter fun j=>decide (j=i)).length≤(l.filter fun j=> !seen.contains j).length+(l.filter fun j=>decide (j=i∧i∈seen)).length:=by
  intro l
  induction l with
  |nil=>simp
  |cons x l ih=>
   simp only[List.filter_cons]
   by_cases e:x=i
   ·subst e;simp[hn]at ih⊢;omega
   ·by_cases g:x∈seen
    ·simp[e,g]at ih⊢;omega
    ·simp[e,g]at ih⊢;omega
 have k1:=key (List.range n)
 have z:((List.range n).filter fun j=>decide (j=i∧i∈seen)).length=0:=by simp[hn]
 have o:1≤((List.range n).filter fun j=>decide (j=i)).length:=by
  apply List.length_pos_of_mem (a:=i)
  simp[hi]
 omega
def V6(f:Fm):Bool:=decide ((foldF A0a f 1 (0,0)).1≤200)&&decide ((foldF A0a f 1 (0,0)).2≤60)
theorem B6o{f:Fm}(h:K7 f≤1000000):V6 f=(decide (P3 f≤60)&&decide (N7 f≤200)):=by
 unfold V6
 rw[B5y f 1 (0,0) (by decide) (by omega) (by decide) (by simp only[];omega)]
 rw[Bool.and_comm]
 have h1:1≤P3 f:=by cases f;rw[P3];omega
 congr 1
 ·apply C92.2;simp only[];omega
 ·apply C92.2;simp only[];omega
theorem B0Y{f:Fm}(h:VOk f):(V6 f&&G7 D5 f&& !meetL (ivF f) (bvF f)&&decide ((ivF f).length+(bvF f).length≤12))=E4 f:=by
 rw[A2M]
 rcases h with h|h
 ·rw[B6o h]
  cases G7 D5 f<;>simp
 ·rw[h];simp
structure SmI(bn bm:Nat)(a:Int×Int)(d:Int)(Bs:Heap)(l:Array Bool)(F:FEnv)(H:Heap):Prop where
 size:l.size=7
 f1:F 1= .int .i64 d
 f2:F 2= .box bn 0
 f3:F 3= .box bm 0
 v0:l.getD 0 false=true→F 6= .int .i64 a.1
 v1:l.getD 1 false=true→F 7= .int .i64 (IntKind.i64.wrap (a.1+1))
 v2:l.getD 2 false=true→F 8= .int .i64 a.2
 v3:l.getD 3 false=true→F 9= .int .i64 d
 v4:l.getD 4 false=true→F 10= .int .i64 (if a.2<d then d else a.2)
 hn:H bn=some (if l.getD 5 false=true then A0x (IntKind.i64.wrap (a.1+1))else A0x a.1)
 hm:H bm=some (if l.getD 6 false=true then A0x (if a.2<d then d else a.2)else A0x a.2)
 ho: ∀k,k≠bn→k≠bm→H k=Bs k
 w5:l.getD 5 false=true→l.getD 0 false=true
 w6:l.getD 6 false=true→l.getD 2 false=true
end Go.Fo
namespace Go.Proofs.YtibphjonmikciaaGreatDoor
open Go Go.Av Go.Lexs Go.Lin Go.Fo
attribute [local irreducible] ACalls W4
noncomputable def smOps:Array Oper:=match Tryz.f94.body with|some (.seq _ (.region _ ops _))=>ops|_=> #[]
theorem B6p{bn bm:Nat}(hne:bn≠bm)(a:Int×Int)(d:Int)(Bs:Heap)(K:Kg)(hK: ∀F H,H bn=some (A0x (IntKind.i64.wrap (a.1+1)))→H bm=some (A0x (if a.2<d then d else a.2))→(∀k,k≠bn→k≠bm→H k=Bs k)→K F H):
  ∀fuel l F H,SmI bn bm a d Bs l F H→(l.toList.filter (!·)).length≤fuel→B8z Tryz.prog smOps K fuel l F H:=by
 obtain⟨x0,o0,d0,p0,g0,w0⟩: ∃o,smOps[0]? =some o∧o.dst=some 6∧o.op= .load 3 (.tmp 2)∧o.guard=none∧J1 o= []:=⟨_,rfl,rfl,rfl,rfl,rfl⟩
 obtain⟨x1,o1,d1,p1,g1,w1⟩: ∃o,smOps[1]? =some o∧o.dst=some 7∧o.op= .binOp .add 3 (.tmp 6) (.const (.int .i64 1)) 3∧o.guard=none∧J1 o= [0]:=⟨_,rfl,rfl,rfl,rfl,rfl⟩
 obtain⟨x2,o2,d2,p2,g2,w2⟩: ∃o,smOps[2]? =some o∧o.dst=some 8∧o.op= .load 3 (.tmp 3)∧o.guard=none∧J1 o= []:=⟨_,rfl,rfl,rfl,rfl,rfl⟩
 obtain⟨x3,o3,d3,p3,g3,w3⟩: ∃o,smOps[3]? =some o∧o.dst=some 9∧o.op= .move (.tmp 1)∧o.guard=none∧J1 o= []:=⟨_,rfl,rfl,rfl,rfl,rfl⟩
 obtain⟨x4,o4,d4,p4,g4,w4⟩: ∃o,smOps[4]? =some o∧o.dst=some 10∧o.op= .call ⟨.builtin .max,#[.tmp 8,.tmp 9],#[3,3]⟩∧o.guard=none∧J1 o= [2,3]:=⟨_,rfl,rfl,rfl,rfl,rfl⟩
 obtain⟨x5,o5,d5,p5,g5,w5⟩: ∃o,smOps[5]? =some o∧o.dst=none∧o.op= .store 3 (.tmp 2) (.tmp 7)∧o.guard=none∧J1 o= [1,0,1]:=⟨_,rfl,rfl,rfl,rfl,rfl⟩
 obtain⟨x6,o6,d6,p6,g6,w6⟩: ∃o,smOps[6]? =some o∧o.dst=none∧o.op= .store 3 (.tmp 3) (.tmp 10)∧o.guard=none∧J1 o= [4,5,0,1,2,3,4,5]:=⟨_,rfl,rfl,rfl,rfl,rfl⟩
 have hs7:smOps.size=7:=rfl
 generalize smOps=ops at*
 have lt7: ∀i o,ops[i]? =some o→i<7:=fun i o h=>by have:=(C9o.1 h).1;omega
 have done: ∀l F H,SmI bn bm a d Bs l F H→(∀i,i<7→l.getD i false=true)→K F H:=fun l F H I hall=>by
  refine hK F H ?_ ?_ I.ho
  ·rw[I.hn,if_pos (hall 5 (by decide))]
  ·rw[I.hm,if_pos (hall 6 (by decide))]
 have tf: ∀(l:Array Bool) (i:Nat),l.size=7→i<7→l.getD i false=false→l.getD i true=false:=fun l i hs hi h=>by
  have:i<l.size:=by omega
  simp[this]at h⊢;exact h
 have ft: ∀(l:Array Bool) (i:Nat),l.size=7→i<7→l.getD i true=false→l.getD i false=false:=fun l i hs hi h=>by
  have:i<l.size:=by omega
  simp[this]at h⊢;exact h
 have hall_of: ∀(l:Array Bool),l.size=7→Region.ready .any ops l= []→∀i,i<7→l.getD i false=true:=fun l hs h0=>by
  have k: ∀i o,i<7→ops[i]? =some o→(∀e∈J1 o,l.getD e false=true)→l.getD i false=true:=fun i o hi ho hd=>by
   cases hc:l.getD i false with
   |true=>rfl
   |false=>
    have:=A5x (tf l i hs hi hc) ho hd
    rw[h0]at this;cases this
  have k0:=k 0 x0 (by decide) o0 (fun e he=>by rw[w0]at he;simp only[C9r,C9s,or_false]at he;repeat (first|(rcases he with rfl|he;assumption)|(subst he;assumption)|exact he.elim))
  have k1:=k 1 x1 (by decide) o1 (fun e he=>by rw[w1]at he;simp only[C9r,C9s,or_false]at he;repeat (first|(rcases he with rfl|he;assumption)|(subst he;assumption)|exact he.elim))
  have k2:=k 2 x2 (by decide) o2 (fun e he=>by rw[w2]at he;simp only[C9r,C9s,or_false]at he;repeat (first|(rcases he with rfl|he;assumption)|(subst he;assumption)|exact he.elim))
  have k3:=k 3 x3 (by decide) o3 (fun e he=>by rw[w3]at he;simp only[C9r,C9s,or_false]at he;repeat (first|(rcases he with rfl|he;assumption)|(subst he;assumption)|exact he.elim))
  have k4:=k 4 x4 (by decide) o4 (fun e he=>by rw[w4]at he;simp only[C9r,C9s,or_false]at he;repeat (first|(rcases he with rfl|he;assumption)|(subst he;assumption)|exact he.elim))
  have k5:=k 5 x5 (by decide) o5 (fun e he=>by rw[w5]at he;simp only[C9r,C9s,or_false]at he;repeat (first|(rcases he with rfl|he;assumption)|(subst he;assumption)|exact he.elim))
  have k6:=k 6 x6 (by decide) o6 (fun e he=>by rw[w6]at he;simp only[C9r,C9s,or_false]at he;repeat (first|(rcases he with rfl|he;assumption)|(subst he;assumption)|exact he.elim))
  intro i hi
  match i,hi with
  |0,_=>exact k0
  |1,_=>exact k1
  |2,_=>exact k2
  |3,_=>exact k3
  |4,_=>exact k4
  |5,_=>exact k5
  |6,_=>exact k6
 have cnt: ∀(l:Array Bool) (i:Nat) (n:Nat),l.size=7→i<7→l.getD i false=false→(l.toList.filter (!·)).length≤n+1→((l.setIfInBounds i true).toList.filter (!·)).length≤n:=fun l i n hs hi h hc=>by
  have key: ∀(m:List Bool) (i:Nat),m[i]? =some false→((m.set i true).filter (!·)).length+1=(m.filter (!·)).length:=by
   intro m
   induction m with
   |nil=>intro i h;simp at h
   |cons b m ih=>
    intro i h
    cases i with
    |zero=>simp at h;subst h;simp
    |succ i=>
     have:=ih i (by simpa using h)
     cases b<;>simp[List.set_cons_succ]<;>omega
  have hl:l.toList[i]? =some false:=by
   have:i<l.size:=by omega
   simp[this]at h⊢;exact h
  have:=key l.toList i hl
  rw[Array.toList_setIfInBounds];omega
 have gs: ∀(l:Array Bool) (i j:Nat),l.size=7→i<7→(l.setIfInBounds i true).getD j false=(decide (i=j)||l.getD j false):=fun l i j hs hi=>by
  by_cases e:i=j
  ·subst e
   have:i<l.size:=by omega
   simp[this]
  ·rw[getD_set_ne false e];simp[e]
 intro fuel
 induction fuel with
 |zero=>
  intro l F H I hc
  have hr:Region.ready .any ops l= []:=by
   cases hr:Region.ready .any ops l with
   |nil=>rfl
   |cons i r=>
    exfalso
    obtain⟨h1,o,ho,_⟩:=A1M (by rw[hr];exact C9a .. :i∈Region.ready .any ops l)
    have hi:=lt7 i o ho
    have:=I.size
    have hl:l.toList[i]? =some false:=by
     have:i<l.size:=by omega
     simp[this]at h1⊢;exact h1
    have hm:false∈l.toList.filter (!·):=List.mem_filter.2 ⟨C9w hl,rfl⟩
    have:=List.length_pos_of_mem hm
    omega
  exact⟨hr,done l F H I (hall_of l I.size hr)⟩
 |succ n ih=>
  intro l F H I hc
  refine⟨fun h0=>done l F H I (hall_of l I.size h0),fun i hi=>?_⟩
  obtain⟨hu,o,ho,hd⟩:=A1M hi
  have hi7:=lt7 i o ho
  have hf:=ft l i I.size hi7 hu
  refine⟨o,ho,?_⟩
  have hcn:=cnt l i n I.size hi7 hf hc
  have hsz:(l.setIfInBounds i true).size=7:=by simpa using I.size
  have hg:=fun j=>gs l i j I.size hi7
  have nn:bn∈[bn,bm]:=by simp
  match i,hi7 with
  |0,_=>
   rw[o0]at ho;cases ho
   have e5:l.getD 5 false=false:=by
    cases q:l.getD 5 false with
    |false=>rfl
    |true=>have:=I.w5 q;rw[hf]at this;cases this
   have hbn:=I.hn
   rw[e5]at hbn
   refine⟨g0,?_⟩
   rw[p0,d0]
   simp only[go_sem,show F.ev (.tmp 2)= .box bn 0 from I.f2,show H bn=some (.box [.int .i64 a.1])from hbn]
   refine ih _ _ _ ?_ hcn
   exact⟨hsz,I.f1,I.f2,I.f3,fun _=>rfl,fun q=>I.v1 (by simpa [hg,-Array.getD_eq_getD_getElem?]using q),fun q=>I.v2 (by simpa [hg,-Array.getD_eq_getD_getElem?]using q),fun q=>I.v3 (by simpa [hg,-Array.getD_eq_getD_getElem?]using q),fun q=>I.v4 (by simpa [hg,-Array.getD_eq_getD_getElem?]using q),by rw[I.hn];simp[hg,-Array.getD_eq_getD_getElem?],by rw[I.hm];simp[hg,-Array.getD_eq_getD_getElem?],I.ho,fun q=>by simp[hg,-Array.getD_eq_getD_getElem?],fun q=>by simpa [hg,-Array.getD_eq_getD_getElem?]using I.w6 (by simpa [hg,-Array.getD_eq_getD_getElem?]using q)⟩
  |1,_=>
   rw[o1]at ho;cases ho
   have h0:l.getD 0 false=true:=hd 0 (by rw[w1];simp)
   refine⟨g1,?_⟩
   rw[p1,d1]
   simp only[go_sem,show F.ev (.tmp 6)= .int .i64 a.1 from I.v0 h0,show F.ev (.const (.int .i64 1))= .int .i64 1 from rfl]
   refine ih _ _ _ ?_ hcn
   exact⟨hsz,I.f1,I.f2,I.f3,fun q=>I.v0 (by simpa [hg,-Array.getD_eq_getD_getElem?]using q),fun _=>rfl,fun q=>I.v2 (by simpa [hg,-Array.getD_eq_getD_getElem?]using q),fun q=>I.v3 (by simpa [hg,-Array.getD_eq_getD_getElem?]using q),fun q=>I.v4 (by simpa [hg,-Array.getD_eq_getD_getElem?]using q),by rw[I.hn];simp[hg,-Array.getD_eq_getD_getElem?],by rw[I.hm];simp[hg,-Array.getD_eq_getD_getElem?],I.ho,fun q=>by simpa [hg,-Array.getD_eq_getD_getElem?]using I.w5 (by simpa [hg,-Array.getD_eq_getD_getElem?]using q),fun q=>by simpa [hg,-Array.getD_eq_getD_getElem?]using I.w6 (by simpa [hg,-Array.getD_eq_getD_getElem?]using q)⟩
  |2,_=>
   rw[o2]at ho;cases ho
   have e6:l.getD 6 false=false:=by
    cases q:l.getD 6 false with
    |false=>rfl
    |true=>have:=I.w6 q;rw[hf]at this;cases this
   have hbm:=I.hm
   rw[e6]at hbm
   refine⟨g2,?_⟩
   rw[p2,d2]
   simp only[go_sem,show F.ev (.tmp 3)= .box bm 0 from I.f3,show H bm=some (.box [.int .i64 a.2])from hbm]
   refine ih _ _ _ ?_ hcn
   exact⟨hsz,I.f1,I.f2,I.f3,fun q=>I.v0 (by simpa [hg,-Array.getD_eq_getD_getElem?]using q),fun q=>I.v1 (by simpa [hg,-Array.getD_eq_getD_getElem?]using q),fun _=>rfl,fun q=>I.v3 (by simpa [hg,-Array.getD_eq_getD_getElem?]using q),fun q=>I.v4 (by simpa [hg,-Array.getD_eq_getD_getElem?]using q),by rw[I.hn];simp[hg,-Array.getD_eq_getD_getElem?],by rw[I.hm];simp[hg,-Array.getD_eq_getD_getElem?],I.ho,fun q=>by simpa [hg,-Array.getD_eq_getD_getElem?]using I.w5 (by simpa [hg,-Array.getD_eq_getD_getElem?]using q),fun q=>by simp[hg,-Array.getD_eq_getD_getElem?]⟩
  |3,_=>
   rw[o3]at ho;cases ho
   refine⟨g3,?_⟩
   rw[p3,d3]
   simp only[go_sem,show F.ev (.tmp 1)= .int .i64 d from I.f1]
   refine ih _ _ _ ?_ hcn
   exact⟨hsz,I.f1,I.f2,I.f3,fun q=>I.v0 (by simpa [hg,-Array.getD_eq_getD_getElem?]using q),fun q=>I.v1 (by simpa [hg,-Array.getD_eq_getD_getElem?]using q),fun q=>I.v2 (by simpa [hg,-Array.getD_eq_getD_getElem?]using q),fun _=>rfl,fun q=>I.v4 (by simpa [hg,-Array.getD_eq_getD_getElem?]using q),by rw[I.hn];simp[hg,-Array.getD_eq_getD_getElem?],by rw[I.hm];simp[hg,-Array.getD_eq_getD_getElem?],I.ho,fun q=>by simpa [hg,-Array.getD_eq_getD_getElem?]using I.w5 (by simpa [hg,-Array.getD_eq_getD_getElem?]using q),fun q=>by simpa [hg,-Array.getD_eq_getD_getElem?]using I.w6 (by simpa [hg,-Array.getD_eq_getD_getElem?]using q)⟩
  |4,_=>
   rw[o4]at ho;cases ho
   have h2:l.getD 2 false=true:=hd 2 (by rw[w4];simp)
   have h3:l.getD 3 false=true:=hd 3 (by rw[w4];simp)
   refine⟨g4,?_⟩
   rw[p4,d4]
   simp only[go_sem,show F.ev (.tmp 8)= .int .i64 a.2 from I.v2 h2,show F.ev (.tmp 9)= .int .i64 d from I.v3 h3]
   refine ih _ _ _ ?_ hcn
   exact⟨hsz,I.f1,I.f2,I.f3,fun q=>I.v0 (by simpa [hg,-Array.getD_eq_getD_getElem?]using q),fun q=>I.v1 (by simpa [hg,-Array.getD_eq_getD_getElem?]using q),fun q=>I.v2 (by simpa [hg,-Array.getD_eq_getD_getElem?]using q),fun q=>I.v3 (by simpa [hg,-Array.getD_eq_getD_getElem?]using q),fun _=>rfl,by rw[I.hn];simp[hg,-Array.getD_eq_getD_getElem?],by rw[I.hm];simp[hg,-Array.getD_eq_getD_getElem?],I.ho,fun q=>by simpa [hg,-Array.getD_eq_getD_getElem?]using I.w5 (by simpa [hg,-Array.getD_eq_getD_getElem?]using q),fun q=>by simpa [hg,-Array.getD_eq_getD_getElem?]using I.w6 (by simpa [hg,-Array.getD_eq_getD_getElem?]using q)⟩
  |5,_=>
   rw[o5]at ho;cases ho
   have h0:l.getD 0 false=true:=hd 0 (by rw[w5];simp)
   have h1:l.getD 1 false=true:=hd 1 (by rw[w5];simp)
   have hbn:=I.hn
   rw[hf]at hbn
   refine⟨g5,?_⟩
   rw[p5,d5]
   simp only[go_sem,show F.ev (.tmp 2)= .box bn 0 from I.f2,show F.ev (.tmp 7)= .int .i64 (IntKind.i64.wrap (a.1+1))from I.v1 h1,show H bn=some (.box [.int .i64 a.1])from hbn]
   refine ih _ _ _ ?_ hcn
   exact⟨hsz,I.f1,I.f2,I.f3,fun q=>I.v0 (by simpa [hg,-Array.getD_eq_getD_getElem?]using q),fun q=>I.v1 (by simpa [hg,-Array.getD_eq_getD_getElem?]using q),fun q=>I.v2 (by simpa [hg,-Array.getD_eq_getD_getElem?]using q),fun q=>I.v3 (by simpa [hg,-Array.getD_eq_getD_getElem?]using q),fun q=>I.v4 (by simpa [hg,-Array.getD_eq_getD_getElem?]using q),by rw[A5];simp[hg,-Array.getD_eq_getD_getElem?,A0x],by rw[A8 _ hne.symm,I.hm];simp[hg,-Array.getD_eq_getD_getElem?],fun k k1 k2=>by rw[A8 _ k1];exact I.ho k k1 k2,fun q=>by simp[hg,-Array.getD_eq_getD_getElem?,h0],fun q=>by simpa [hg,-Array.getD_eq_getD_getElem?]using I.w6 (by simpa [hg,-Array.getD_eq_getD_getElem?]using q)⟩
  |6,_=>
   rw[o6]at ho;cases ho
   have h2:l.getD 2 false=true:=hd 2 (by rw[w6];simp)
   have h4:l.getD 4 false=true:=hd 4 (by rw[w6];simp)
   have hbm:=I.hm
   rw[hf]at hbm
   refine⟨g6,?_⟩
   rw[p6,d6]
   simp only[go_sem,show F.ev (.tmp 3)= .box bm 0 from I.f3,show F.ev (.tmp 10)= .int .i64 (if a.2<d then d else a.2)from I.v4 h4,show H bm=some (.box [.int .i64 a.2])from hbm]
   refine ih _ _ _ ?_ hcn
   exact⟨hsz,I.f1,I.f2,I.f3,fun q=>I.v0 (by simpa [hg,-Array.getD_eq_getD_getElem?]using q),fun q=>I.v1 (by simpa [hg,-Array.getD_eq_getD_getElem?]using q),fun q=>I.v2 (by simpa [hg,-Array.getD_eq_getD_getElem?]using q),fun q=>I.v3 (by simpa [hg,-Array.getD_eq_getD_getElem?]using q),fun q=>I.v4 (by simpa [hg,-Array.getD_eq_getD_getElem?]using q),by rw[A8 _ hne,I.hn];simp[hg,-Array.getD_eq_getD_getElem?],by rw[A5];simp[hg,-Array.getD_eq_getD_getElem?,A0x],fun k k1 k2=>by rw[A8 _ k2];exact I.ho k k1 k2,fun q=>by simpa [hg,-Array.getD_eq_getD_getElem?]using I.w5 (by simpa [hg,-Array.getD_eq_getD_getElem?]using q),fun q=>by simp[hg,-Array.getD_eq_getD_getElem?,h2]⟩
theorem B6q{bn bm:Nat}(hne:bn≠bm)(a:Int×Int)(f:Fm)(d:Int)(H:Heap)(Q:D→Heap→Prop)(h:Q (.tuple []) (ovr (Z6 bn bm (A0a a f d)) H)):ACalls Tryz.prog 94 [.agg (C1 f),.int .i64 d,.box bn 0,.box bm 0] (ovr (Z6 bn bm a) H) Q:=by
 refine B1X (ops:=smOps) B3 Tryz.func94 rfl (by kernel_rfl) (C9Q (by kernel_rfl)) rfl (by kernel_rfl) (by kernel_rfl) ?_
 simp only[go_sem]
 intro b4 h4
 obtain⟨s4,g4⟩:=A0w h4
 have n4:bn≠b4∧bm≠b4:=by
  unfold Z6 at s4
  constructor
  ·rintro rfl;simp[hne]at s4
  ·rintro rfl;simp at s4
 have e1:((ovr (Z6 bn bm a) H).set b4 (.box (C1 f))) bn=some (A0x a.1):=by
  rw[A8 _ n4.1,A0b (o:=A0x a.1) (by simp[Z6,hne])]
 have e2:((ovr (Z6 bn bm a) H).set b4 (.box (C1 f))) bm=some (A0x a.2):=by
  rw[A8 _ n4.2,A0b (o:=A0x a.2) (by simp[Z6])]
 have hle:(ovr (Z6 bn bm a) H).Le ((ovr (Z6 bn bm a) H).set b4 (.box (C1 f))):=A2 h4
 generalize (ovr (Z6 bn bm a) H).set b4 (.box (C1 f))=Bs at e1 e2 hle⊢
 have rp: ∀i,(Array.replicate smOps.size false).getD i false=false:=fun i=>by simp[Array.getElem?_replicate];split<;>simp
 refine B6p hne a d Bs _ (fun F H1 k1 k2 k3=>?_) _ _ _ _ ?_ ?_
 rotate_left
 ·exact⟨by rfl,rfl,rfl,rfl,fun q=>(by rw[rp]at q;cases q),fun q=>(by rw[rp]at q;cases q),fun q=>(by rw[rp]at q;cases q),fun q=>(by rw[rp]at q;cases q),fun q=>(by rw[rp]at q;cases q),by rw[e1,rp];rfl,by rw[e2,rp];rfl,fun _ _ _=>rfl,fun q=>(by rw[rp]at q;cases q),fun q=>(by rw[rp]at q;cases q)⟩
 ·show ((Array.replicate 7 false).toList.filter (!·)).length≤7
  decide
 have em:(if a.2<d then d else a.2)=(A0a a f d).2:=by unfold A0a;simp only[Int.max_def];split<;>split<;>omega
 rw[em]at k2
 refine D0r ((B9N a (A0a a f d) H Bs hle).trans fun k o hk=>?_) h
 by_cases q1:k=bm
 ·subst q1;rw[A5]at hk;rw[k2];exact hk
 ·rw[A8 _ q1]at hk
  by_cases q2:k=bn
  ·subst q2;rw[A5]at hk;rw[k1];exact hk
  ·rw[A8 _ q2]at hk;rw[k3 k q2 q1];exact hk
theorem B6r{bn bm:Nat}(hne:bn≠bm):Vis Tryz.prog (Int×Int) 94 [.box bn 0,.box bm 0] (Z6 bn bm) A0a (fun _=>True) (fun _=>True) where
 dom a a' i h:=by
  unfold Z6 at h⊢
  by_cases e:i=bm
  ·simp[e]at h
  ·by_cases e2:i=bn
   ·simp[e2,hne]at h
   ·simp[e,e2]
 inv _ _ _ _:=trivial
 base _ _ _ _ _:=trivial
 call a f d H Q _ _ fa h:=B6q hne a f d H Q h
theorem B9P{Q}(f:Fm)(fa:FmFit f)(H:Heap)(h:Q (.bool (V6 f)) H):ACalls Tryz.prog 52 [.agg (C1 f)] H Q:=by
 refine B2 [] B3 Tryz.func52 rfl (by kernel_rfl) (C9Q (by kernel_rfl)) (by kernel_rfl) ?_
 simp only[go_sem,Tryz.results52]
 intro b1 h1
 repeat' (first|with_reducible apply C9P|simp only[go_sem]|simp(disch:=omega) only[A3]|simp(disch:=first|omega|grind) only[A6]|(intro hx_;try simp only[A4]at hx_)|omega)
 rename_i b3 h3 b4
 have h4:=hx_
 clear hx_
 have hne:b3≠b4:=fun e=>h4.1 e.symm
 refine Eq.mpr (congrArg (fun G=>ACalls _ _ _ G _) (C8F b3 b4 0 0 (((H.set b1 (.box (C1 f))).set b3 (.box [.int .i64 0])).set b4 (.box [.int .i64 0])))) ?_
 refine B1q (B6r hne) f fa 1 (0,0) trivial _ trivial ?_
 generalize hG0:((H.set b1 (.box (C1 f))).set b3 (.box [.int .i64 0])).set b4 (.box [.int .i64 0])=G0
 have e3:ovr (Z6 b3 b4 (foldF A0a f 1 (0,0))) G0 b3=some (.box [.int .i64 (foldF A0a f 1 (0,0)).1]):=A0b (o:=A0x _) (by simp[Z6,hne])
 have e4:ovr (Z6 b3 b4 (foldF A0a f 1 (0,0))) G0 b4=some (.box [.int .i64 (foldF A0a f 1 (0,0)).2]):=A0b (o:=A0x _) (by simp[Z6])
 have hle:H.Le (ovr (Z6 b3 b4 (foldF A0a f 1 (0,0))) G0):=fun k o hk=>by
  have k3:k≠b3:=fun g=>by subst g;rw[h3.2]at hk;cases hk
  have k4:k≠b4:=fun g=>by subst g;rw[h4.2.2]at hk;cases hk
  rw[A2O (by simp[Z6,k3,k4])]
  rw[←hG0,A8 _ k4,A8 _ k3]
  exact A2 h1 _ _ hk
 generalize ovr (Z6 b3 b4 (foldF A0a f 1 (0,0))) G0=Bs at e3 e4 hle⊢
 unfold V6 at h
 generalize foldF A0a f 1 (0,0)=r at e3 e4 h
 repeat' (first|with_reducible apply C9P|simp only[go_sem,e3,e4]|simp(disch:=omega) only[A3]|simp(disch:=first|omega|grind) only[A6]|(intro hx_;try simp only[A4]at hx_)|omega)
 all_goals (refine D0r hle ?_;simp_all)
theorem B6s{bo:Nat}(a:Bool)(f:Fm)(fa:FmFit f)(d:Int)(H:Heap)(Q:D→Heap→Prop)(h:Q (.tuple []) (ovr (l7 bo (A8J D5 a f d)) H)):ACalls Tryz.prog 54 [.agg (C1 f),.int .i64 d,.box bo 0] (ovr (l7 bo a) H) Q:=by
 refine B2 [] B3 Tryz.func54 rfl (by kernel_rfl) (C9Q (by kernel_rfl)) (by kernel_rfl) ?_
 simp only[go_sem,Tryz.results54]
 intro b3 h3
 obtain⟨s3,g3⟩:=A0w h3
 have n3:bo≠b3:=by
  rintro rfl;simp[l7]at s3
 have e1:((ovr (l7 bo a) H).set b3 (.box (C1 f))) bo=some (.box [.bool a]):=by
  rw[A8 _ n3,A0b (o:=B6m a) (by simp[l7])];rfl
 have e3:((ovr (l7 bo a) H).set b3 (.box (C1 f))) b3=some (.box (C1 f)):=A5 _ _
 have hle:(ovr (l7 bo a) H).Le ((ovr (l7 bo a) H).set b3 (.box (C1 f))):=A2 h3
 generalize (ovr (l7 bo a) H).set b3 (.box (C1 f))=Bs at e1 e3 hle⊢
 cases a with
 |false=>
  repeat' (first|with_reducible apply C9P|simp only[go_sem,e1,e3]|simp(disch:=omega) only[A3]|intro hx_|omega)
  exact D0r (B26 false (A8J D5 false f d) H Bs hle) h
 |true=>
  repeat' (first|with_reducible apply C9P|simp only[go_sem,e1,e3]|simp(disch:=omega) only[A3]|intro hx_|with_reducible refine C8E f fa _ ?_|omega)
  exact D0r (B26 true (A8J D5 true f d) H Bs hle) h
theorem B6t(bo:Nat):Vis Tryz.prog Bool 54 [.box bo 0] (l7 bo) (A8J D5) (fun _=>True) (fun _=>True) where
 dom a a' i h:=by
  unfold l7 at h⊢
  by_cases e:i=bo
  ·simp[e]at h
  ·simp[e]
 inv _ _ _ _:=trivial
 base _ _ _ _ _:=trivial
 call a f d H Q _ _ fa h:=B6s a f fa d H Q h
end Go.Proofs.YtibphjonmikciaaGreatDoor
end
section
namespace Go.Av
theorem A4g{Q:D→Heap→Prop}{H:Heap}{b:Nat}{kvs:List (D×D)}(hb:H b=some (.map kvs))(h:Fin Q (.fm kvs) (H.del b)):Fin Q (.map b) H:=by
 unfold Fin at h⊢
 obtain⟨H1,d1,h1,h2⟩:=h
 exact⟨H1,d1,Shift.trans (fun w v hr hs=>⟨B2c hs hb (D8 H b) (G8 (by simp[Heap.del])) hr,hs.less (D8 H b),fun k hn=>(D8 H b).held hn⟩) h1,h2⟩
theorem A3h{Q:D→Heap→Prop}{H:Heap}{b:Nat}{kvs:List (D×D)}{ds ds':List D}(hb:H b=some (.map kvs))(hl:ds.length=ds'.length)
  (hz: ∀(i:Nat) d d',ds[i]? =some d→ds'[i]? =some d'→d'=d∨(d= .map b∧d'= .fm kvs)) (h:Fin Q (.tuple ds') (H.del b)):Fin Q (.tuple ds) H:=by
 unfold Fin at h⊢
 obtain⟨H1,d1,h1,h2⟩:=h
 refine⟨H1,d1,Shift.trans (fun w v hr hs=>⟨?_,hs.less (D8 H b),fun k hn=>(D8 H b).held hn⟩) h1,h2⟩
 obtain⟨vs,rfl,hlv,hr'⟩:=hr.tuple_inv
 refine .tuple _ _ (by omega) fun i d' hd'=>?_
 obtain⟨d,hd⟩:=F6 hl hd'
 rcases hz i d d' hd hd' with rfl|⟨rfl,rfl⟩
 ·exact(hr' i d' hd).less (D8 H b)
 ·exact B2c hs hb (D8 H b) (G8 (by simp[Heap.del])) (hr' i _ hd)
theorem A8p{Q:D→Heap→Prop}{H:Heap}{b c:Nat}{kvs kws:List (D×D)}{ds:List D}(hb:H b=some (.map kvs))(hc:H c=some (.map kws))(hne:c≠b)(h:Fin Q (.tuple (.fm kvs:: .fm kws::ds)) ((H.del b).del c)):Fin Q (.tuple (.map b:: .map c::ds)) H:=by
 refine A3h (ds':=.fm kvs:: .map c::ds) hb rfl (fun i d d' h1 h2=>?_) (A3h (b:=c) (kvs:=kws) (ds':=.fm kvs:: .fm kws::ds) (by simp[Heap.del,hne,hc]) rfl (fun i d d' h1 h2=>?_) h)
 ·match i with
  |0=>cases h1;cases h2;exact .inr ⟨rfl,rfl⟩
  |i+1=>simp only[C9v]at h1 h2;rw[h1]at h2;cases h2;exact .inl rfl
 ·match i with
  |0=>cases h1;cases h2;exact .inl rfl
  |1=>cases h1;cases h2;exact .inr ⟨rfl,rfl⟩
  |i+2=>simp only[C9v]at h1 h2;rw[h1]at h2;cases h2;exact .inl rfl
end Go.Av
end
section
set_option maxRecDepth 20000
namespace Go.Proofs.YtibphjonmikciaaGreatDoor
open Go Go.Av Go.Lexs Go.Lin Go.Fo
attribute [local irreducible] ACalls W4
theorem B6u{bi bb mi mb:Nat}(F:B9O bi bb mi mb)(a:List ByteArray×List ByteArray)(ha1:a.1.Nodup)(ha2:a.2.Nodup)(f:Fm)(fa:FmFit f)(d:Int)(H:Heap)(Q:D→Heap→Prop)(h:Q (.tuple []) (ovr (P8 bi bb mi mb (A4q a f d)) H)):
  ACalls Tryz.prog 86 [.agg (C1 f),.int .i64 d,.box bb 0,.box bi 0] (ovr (P8 bi bb mi mb a) H) Q:=by
 refine B2 [] B3 Tryz.func86 rfl (by kernel_rfl) (C9Q (by kernel_rfl)) (by kernel_rfl) ?_
 simp only[go_sem,Tryz.results86]
 have htl:=fa.lin.len
 intro b4 h4
 obtain⟨s4,g4⟩:=A0w h4
 obtain⟨q1,q2,q3,q4⟩:=B0W F a H
 have n4:mi≠b4∧mb≠b4∧bi≠b4∧bb≠b4:=by
  refine⟨fun e=>?_,fun e=>?_,fun e=>?_,fun e=>?_⟩
  ·rw[←e,q1]at h4;cases h4
  ·rw[←e,q2]at h4;cases h4
  ·rw[←e,q3]at h4;cases h4
  ·rw[←e,q4]at h4;cases h4
 have e1:((ovr (P8 bi bb mi mb a) H).set b4 (.box (C1 f))) mi=some (.map (C9 tt a.1)):=by rw[A8 _ n4.1];exact q1
 have e2:((ovr (P8 bi bb mi mb a) H).set b4 (.box (C1 f))) mb=some (.map (C9 tt a.2)):=by rw[A8 _ n4.2.1];exact q2
 have e3:((ovr (P8 bi bb mi mb a) H).set b4 (.box (C1 f))) bi=some (.box [.map mi]):=by rw[A8 _ n4.2.2.1];exact q3
 have e4:((ovr (P8 bi bb mi mb a) H).set b4 (.box (C1 f))) bb=some (.box [.map mb]):=by rw[A8 _ n4.2.2.2];exact q4
 have e5:((ovr (P8 bi bb mi mb a) H).set b4 (.box (C1 f))) b4=some (.box (C1 f)):=A5 _ _
 have hH: ∀k o,P8 bi bb mi mb a k=none→H k=some o→((ovr (P8 bi bb mi mb a) H).set b4 (.box (C1 f))) k=some o:=fun k o k1 k2=>A2 h4 _ _ (by rw[A2O k1];exact k2)
 generalize (ovr (P8 bi bb mi mb a) H).set b4 (.box (C1 f))=Bs at e1 e2 e3 e4 e5 hH⊢
 have f1:=F.a;have f2:=F.b;have f3:=F.c;have f4:=F.d;have f5:=F.e;have f6:=F.f
 have hnm: ∀k,P8 bi bb mi mb a k=none→k≠mi∧k≠mb∧k≠bi∧k≠bb:=fun k hk=>by
  refine⟨fun e=>?_,fun e=>?_,fun e=>?_,fun e=>?_⟩<;>(subst e;simp[P8,f1,f2,f3,f4,f5,f6,f1.symm,f6.symm]at hk)
 have n1:b4≠mb:=fun e=>n4.2.1 e.symm
 have n2:b4≠mi:=fun e=>n4.1 e.symm
 by_cases o3:f.op=3
 ·repeat' (first|with_reducible apply C9P|simp only[go_sem,e1,e2,e3,e4,e5,o3,X9 _ _ _ _ ha2,A2s]|simp(disch:=omega) only[A0,A9,A3]|simp(disch:=first|omega|grind) only[A6]|intro hx_|omega)
  have c1:(Bs.set mb (.map (C9 tt (I0 a.2 f.s)))) mi=some (.map (C9 tt a.1)):=by rw[A8 _ f1];exact e1
  have c2:(Bs.set mb (.map (C9 tt (I0 a.2 f.s)))) mb=some (.map (C9 tt (I0 a.2 f.s))):=A5 _ _
  have c3:(Bs.set mb (.map (C9 tt (I0 a.2 f.s)))) bi=some (.box [.map mi]):=by rw[A8 _ f3];exact e3
  have c4:(Bs.set mb (.map (C9 tt (I0 a.2 f.s)))) bb=some (.box [.map mb]):=by rw[A8 _ f5];exact e4
  have c5:(Bs.set mb (.map (C9 tt (I0 a.2 f.s)))) b4=some (.box (C1 f)):=by rw[A8 _ n1];exact e5
  have cH: ∀k o,P8 bi bb mi mb a k=none→H k=some o→(Bs.set mb (.map (C9 tt (I0 a.2 f.s)))) k=some o:=fun k o k1 k2=>by
   rw[A8 _ (hnm k k1).2.1];exact hH k o k1 k2
  generalize Bs.set mb (.map (C9 tt (I0 a.2 f.s)))=Cs at c1 c2 c3 c4 c5 cH⊢
  have eS:(A4q a f d).2=I0 a.2 f.s:=by unfold A4q;rw[if_pos o3]
  rw[←eS]at c2
  refine D1 [3,16,17] (fun(j:Nat)=>[(18,.int .i64 j)]) (fun(j:Nat)=>Cs.set mi (.map (C9 tt (((f.l.t.take j).map (·.v)).foldl I0 a.1)))) (fun(j:Nat)=>j≤f.l.t.length) (fun(j:Nat)=>f.l.t.length-j) (0) (C9k _) (by(try simp only[go_sem])<;>(try simp(disch:=omega) [A0])<;>(try omega)) (by first|exact D0q _|exact A2 (by assumption)|exact B4 (by assumption)|simp only[Heap.Le,Heap.set,Heap.del]at* <;>grind) ?_
  rintro Ec rfl j hj
  have k3:(Cs.set mi (.map (C9 tt (((f.l.t.take j).map (·.v)).foldl I0 a.1)))) bi=some (.box [.map mi]):=by rw[A8 _ f2];exact c3
  have k1:(Cs.set mi (.map (C9 tt (((f.l.t.take j).map (·.v)).foldl I0 a.1)))) mi=some (.map (C9 tt (((f.l.t.take j).map (·.v)).foldl I0 a.1))):=A5 _ _
  by_cases hjt:j<f.l.t.length
  ·have hkd:decide ((j:Int)<f.l.t.length)=true:=C9R (by omega)
   have hjr:(j:Int)<f.l.t.length:=by omega
   have hnd:(((f.l.t.take j).map (·.v)).foldl I0 a.1).Nodup:=S7 _ _ ha1
   have hsu:((f.l.t.take (j+1)).map (·.v)).foldl I0 a.1=I0 (((f.l.t.take j).map (·.v)).foldl I0 a.1) f.l.t[j].v:=by
    rw[C9i hjt,D0P,D0H];rfl
   generalize hM:((f.l.t.take j).map (·.v)).foldl I0 a.1=M at hnd hsu k1 k3⊢
   generalize hCs2:Cs.set mi (.map (C9 tt M))=Ds at k1 k3⊢
   repeat' (first|with_reducible apply C9P|simp only[go_sem,hkd,hjr,A9 _ _ hjt,C2 _ _ hjt,k1,k3,X9 _ _ _ _ hnd,A2s]|simp(disch:=omega) only[A0,A9,A3]|simp(disch:=first|omega|grind) only[A6]|intro hx_|omega)
   rename_i b7
   have h7:=hx_
   clear hx_
   have n7:mi≠b7:=fun e=>by rw[←e,k1]at h7;cases h7
   have n7b:bi≠b7:=fun e=>by rw[←e,k3]at h7;cases h7
   repeat' (first|with_reducible apply C9P|simp only[go_sem,k1,k3,X9 _ _ _ _ hnd,A2s,A8 _ n7,A8 _ n7b]|simp(disch:=omega) only[A0,A9,A3]|simp(disch:=first|omega|grind) only[A6]|intro hx_|omega)
   refine C3 (j+1) (by omega) (by omega) (by(try simp only[go_sem])<;>(try simp(disch:=omega) [A0])<;>(try omega)) ?_
   rw[hsu,←hCs2]
   rw[←hCs2]at h7
   intro k o hk
   by_cases g1:k=mi
   ·subst g1;rw[A5]at hk⊢;exact hk
   ·rw[A8 _ g1]at hk⊢
    have g2:k≠b7:=fun e=>by subst e;rw[A8 _ g1,hk]at h7;cases h7
    rw[A8 _ g2,A8 _ g1];exact hk
  ·have hkd:decide ((j:Int)<f.l.t.length)=false:=C9S (by omega)
   rw[C9e (by omega)]at k1 k3⊢
   repeat' (first|with_reducible apply C9P|simp only[go_sem,hkd]|simp(disch:=omega) only[A0,A9,A3]|simp(disch:=first|omega|grind) only[A6]|intro hx_|omega)
   refine D0r (B0X a (A4q a f d) H _ k1 (by rw[A8 _ f1.symm];exact c2) k3 (by rw[A8 _ f4];exact c4) (fun k o q1 q2=>by rw[A8 _ (hnm k q1).1];exact cH k o q1 q2)) h
 ·have o3':decide (f.op=3)=false:=C9S o3
  repeat' (first|with_reducible apply C9P|simp only[go_sem,e1,e2,e3,e4,e5,o3']|simp(disch:=omega) only[A0,A9,A3]|simp(disch:=first|omega|grind) only[A6]|intro hx_|omega)
  have c1:=e1;have c2:=e2;have c3:=e3;have c4:=e4;have c5:=e5;have cH:=hH
  generalize Bs=Cs at c1 c2 c3 c4 c5 cH⊢
  have eS:(A4q a f d).2=a.2:=by unfold A4q;rw[if_neg o3]
  rw[←eS]at c2
  refine D1 [3,16,17] (fun(j:Nat)=>[(18,.int .i64 j)]) (fun(j:Nat)=>Cs.set mi (.map (C9 tt (((f.l.t.take j).map (·.v)).foldl I0 a.1)))) (fun(j:Nat)=>j≤f.l.t.length) (fun(j:Nat)=>f.l.t.length-j) (0) (C9k _) (by(try simp only[go_sem])<;>(try simp(disch:=omega) [A0])<;>(try omega)) (by first|exact D0q _|exact A2 (by assumption)|exact B4 (by assumption)|simp only[Heap.Le,Heap.set,Heap.del]at* <;>grind) ?_
  rintro Ec rfl j hj
  have k3:(Cs.set mi (.map (C9 tt (((f.l.t.take j).map (·.v)).foldl I0 a.1)))) bi=some (.box [.map mi]):=by rw[A8 _ f2];exact c3
  have k1:(Cs.set mi (.map (C9 tt (((f.l.t.take j).map (·.v)).foldl I0 a.1)))) mi=some (.map (C9 tt (((f.l.t.take j).map (·.v)).foldl I0 a.1))):=A5 _ _
  by_cases hjt:j<f.l.t.length
  ·have hkd:decide ((j:Int)<f.l.t.length)=true:=C9R (by omega)
   have hjr:(j:Int)<f.l.t.length:=by omega
   have hnd:(((f.l.t.take j).map (·.v)).foldl I0 a.1).Nodup:=S7 _ _ ha1
   have hsu:((f.l.t.take (j+1)).map (·.v)).foldl I0 a.1=I0 (((f.l.t.take j).map (·.v)).foldl I0 a.1) f.l.t[j].v:=by
    rw[C9i hjt,D0P,D0H];rfl
   generalize hM:((f.l.t.take j).map (·.v)).foldl I0 a.1=M at hnd hsu k1 k3⊢
   generalize hCs2:Cs.set mi (.map (C9 tt M))=Ds at k1 k3⊢
   repeat' (first|with_reducible apply C9P|simp only[go_sem,hkd,hjr,A9 _ _ hjt,C2 _ _ hjt,k1,k3,X9 _ _ _ _ hnd,A2s]|simp(disch:=omega) only[A0,A9,A3]|simp(disch:=first|omega|grind) only[A6]|intro hx_|omega)
   rename_i b7
   have h7:=hx_
   clear hx_
   have n7:mi≠b7:=fun e=>by rw[←e,k1]at h7;cases h7
   have n7b:bi≠b7:=fun e=>by rw[←e,k3]at h7;cases h7
   repeat' (first|with_reducible apply C9P|simp only[go_sem,k1,k3,X9 _ _ _ _ hnd,A2s,A8 _ n7,A8 _ n7b]|simp(disch:=omega) only[A0,A9,A3]|simp(disch:=first|omega|grind) only[A6]|intro hx_|omega)
   refine C3 (j+1) (by omega) (by omega) (by(try simp only[go_sem])<;>(try simp(disch:=omega) [A0])<;>(try omega)) ?_
   rw[hsu,←hCs2]
   rw[←hCs2]at h7
   intro k o hk
   by_cases g1:k=mi
   ·subst g1;rw[A5]at hk⊢;exact hk
   ·rw[A8 _ g1]at hk⊢
    have g2:k≠b7:=fun e=>by subst e;rw[A8 _ g1,hk]at h7;cases h7
    rw[A8 _ g2,A8 _ g1];exact hk
  ·have hkd:decide ((j:Int)<f.l.t.length)=false:=C9S (by omega)
   rw[C9e (by omega)]at k1 k3⊢
   repeat' (first|with_reducible apply C9P|simp only[go_sem,hkd]|simp(disch:=omega) only[A0,A9,A3]|simp(disch:=first|omega|grind) only[A6]|intro hx_|omega)
   refine D0r (B0X a (A4q a f d) H _ k1 (by rw[A8 _ f1.symm];exact c2) k3 (by rw[A8 _ f4];exact c4) (fun k o q1 q2=>by rw[A8 _ (hnm k q1).1];exact cH k o q1 q2)) h
theorem B6v{bi bb mi mb:Nat}(F:B9O bi bb mi mb):Vis Tryz.prog (List ByteArray×List ByteArray) 86 [.box bb 0,.box bi 0] (P8 bi bb mi mb) A4q (fun a=>a.1.Nodup∧a.2.Nodup) (fun _=>True) where
 dom a a' i h:=B6n a a' i h
 inv a f d h:=by
  refine⟨S7 _ _ h.1,?_⟩
  unfold A4q
  simp only[]
  split
  ·exact A2r h.2
  ·exact h.2
 base _ _ _ _ _:=trivial
 call a f d H Q hI _ fa h:=B6u F a hI.1 hI.2 f fa d H Q h
theorem B6w{H:Heap}{b:Nat}{o:Av.Obj}(h:H b=some o):H.set b o=H:=by
 funext k
 unfold Av.Heap.set
 by_cases e:k=b
 ·subst e;rw[if_pos rfl,h]
 ·rw[if_neg e]
theorem B6x{S H:Heap}(h: ∀k o,S k=some o→H k=some o):ovr S H=H:=by
 funext k
 unfold ovr
 cases g:S k with
 |none=>rfl
 |some o=>exact(h k o g).symm
theorem A8W{Q}(l:List Fm)(fl: ∀f∈l,FmFit f)(hlen:l.length≤1466015503658)(H:Heap)(h:Q (.tuple [.fm (C9 tt (I8 (D3.intsL l))),.fm (C9 tt (I8 (C6.boolsL l)))]) H):ACalls Tryz.prog 45 [.sl 7 (Rw C1 l)] H Q:=by
 refine B2 [(7,.ord [0,1,2,3])] B3 Tryz.func45 rfl (by kernel_rfl) (C9Q (by kernel_rfl)) (by kernel_rfl) ?_
 simp only[go_sem,Tryz.results45]
 repeat' (first|with_reducible apply C9P|simp only[go_sem]|simp(disch:=omega) only[A0,A9,A3,A0q,o9]|simp(disch:=first|omega|grind) only[A6,C8]|(intro hx_;try simp only[A4]at hx_)|omega)
 rename_i b2 h2 b3 h3 m6 h6 m7
 have h7:=hx_
 clear hx_
 obtain⟨F,e1,e2,e3,e4,hle⟩:B9O b2 b3 m6 m7∧((((((H.set b2 (.box [.nilmap])).set b3 (.box [.nilmap])).set m6 (.map [])).set m7 (.map [])).set b2 (.box [.map m6])).set b3 (.box [.map m7])) m6=some (.map [])∧((((((H.set b2 (.box [.nilmap])).set b3 (.box [.nilmap])).set m6 (.map [])).set m7 (.map [])).set b2 (.box [.map m6])).set b3 (.box [.map m7])) m7=some (.map [])∧((((((H.set b2 (.box [.nilmap])).set b3 (.box [.nilmap])).set m6 (.map [])).set m7 (.map [])).set b2 (.box [.map m6])).set b3 (.box [.map m7])) b2=some (.box [.map m6])∧((((((H.set b2 (.box [.nilmap])).set b3 (.box [.nilmap])).set m6 (.map [])).set m7 (.map [])).set b2 (.box [.map m6])).set b3 (.box [.map m7])) b3=some (.box [.map m7])∧H.Le ((((((H.set b2 (.box [.nilmap])).set b3 (.box [.nilmap])).set m6 (.map [])).set m7 (.map [])).set b2 (.box [.map m6])).set b3 (.box [.map m7])):=by
  obtain⟨h31,h32⟩:=h3
  obtain⟨h61,h62,h63⟩:=h6
  obtain⟨h71,h72,h73,h74⟩:=h7
  refine⟨⟨h71.symm,h62.symm,h73.symm,h61.symm,h72.symm,h31.symm⟩,?_,?_,?_,?_,fun k o hk=>?_⟩
  ·simp[Av.Heap.set,h61,h62,h71.symm]
  ·simp[Av.Heap.set,h72,h73]
  ·simp[Av.Heap.set,h31.symm]
  ·simp[Av.Heap.set]
  ·have k1:k≠b2:=fun e=>by rw[e,h2]at hk;cases hk
   have k2:k≠b3:=fun e=>by rw[e,h32]at hk;cases hk
   have k3:k≠m6:=fun e=>by rw[e,h63]at hk;cases hk
   have k4:k≠m7:=fun e=>by rw[e,h74]at hk;cases hk
   simp[Av.Heap.set,k1,k2,k3,k4,hk]
 generalize ((((((H.set b2 (.box [.nilmap])).set b3 (.box [.nilmap])).set m6 (.map [])).set m7 (.map [])).set b2 (.box [.map m6])).set b3 (.box [.map m7]))=Gs at e1 e2 e3 e4 hle⊢
 have eG:ovr (P8 b2 b3 m6 m7 ([],[])) Gs=Gs:=B6x fun k o hk=>by
  unfold P8 at hk
  split at hk
  ·rename_i g;rw[g,e1];exact hk
  ·split at hk
   ·rename_i g;rw[g,e2];exact hk
   ·split at hk
    ·rename_i g;rw[g,e3];exact hk
    ·split at hk
     ·rename_i g;rw[g,e4];exact hk
     ·cases hk
 rw[←eG]
 have hnH: ∀p,H.Le ((ovr (P8 b2 b3 m6 m7 p) Gs).del m6 |>.del m7):=fun p k o hk=>by
  have k1:k≠b2:=fun e=>by rw[e,h2]at hk;cases hk
  have k2:k≠b3:=fun e=>by rw[e,h3.2]at hk;cases hk
  have k3:k≠m6:=fun e=>by rw[e,h6.2.2]at hk;cases hk
  have k4:k≠m7:=fun e=>by rw[e,h7.2.2.2]at hk;cases hk
  rw[C8 k4,C8 k3,A2O (by simp[P8,k1,k2,k3,k4])]
  exact hle _ _ hk
 refine D1 [2,3,8,9] (fun(p:Nat×(List ByteArray×List ByteArray))=>[(10,.int .i64 p.1)]) (fun(p:Nat×(List ByteArray×List ByteArray))=>ovr (P8 b2 b3 m6 m7 p.2) Gs) (fun(p:Nat×(List ByteArray×List ByteArray))=>p.1≤l.length∧p.2=(I8 (D3.intsL (l.take p.1)),I8 (C6.boolsL (l.take p.1)))) (fun(p:Nat×(List ByteArray×List ByteArray))=>l.length-p.1) ((0,([],[]))) (⟨C9k _,rfl⟩) (by(try simp only[go_sem])<;>(try simp(disch:=omega) [A0])<;>(try omega)) (by first|exact D0q _|exact A2 (by assumption)|exact B4 (by assumption)|simp only[Heap.Le,Heap.set,Heap.del]at* <;>grind) ?_
 rintro Ec rfl ⟨i,r⟩ ⟨hi,hr⟩
 simp only at hi hr
 by_cases hlt:i<l.length
 ·have hkd:decide ((i:Int)<l.length)=true:=C9R (by omega)
  have hti:(i:Int)<l.length:=by omega
  have hm:=C9d hlt
  repeat' (first|with_reducible apply C9P|simp only[go_sem,hkd,hti,A9 _ _ hlt,C2 _ _ hlt]|simp(disch:=omega) only[A0,A9,A3,A0q,o9]|simp(disch:=first|omega|grind) only[A6,C8]|(intro hx_;try simp only[A4]at hx_)|omega)
  rename_i b5
  have h5:=hx_
  clear hx_
  obtain⟨s5,g5⟩:=A0w h5
  rw[A8V s5]
  refine B1q (B6v F) l[i] (fl _ hm) 1 r ⟨by rw[hr];exact A1K _,by rw[hr];exact A1K _⟩ _ trivial ?_
  rw[B51]
  repeat' (first|with_reducible apply C9P|simp only[go_sem]|simp(disch:=omega) only[A0,A9,A3,A0q,o9]|simp(disch:=first|omega|grind) only[A6,C8]|(intro hx_;try simp only[A4]at hx_)|omega)
  refine C3 (i+1,_) ⟨by simp only[];omega,?_⟩ (by simp only[];omega) (by(try simp only[go_sem])<;>(try simp(disch:=omega) [A0])<;>(try omega)) (B1p (A2 g5))
  show (List.foldl I0 r.1 _,List.foldl I0 r.2 _)=_
  rw[hr,A0q _ _ hlt,o9 _ _ hlt]
  unfold I8
  rw[D0H,D0H]
 ·have hkd:decide ((i:Int)<l.length)=false:=C9S (by omega)
  rw[C9e (by omega)]at hr
  obtain⟨q1,q2,q3,q4⟩:=B0W F r Gs
  have hdel:=hnH r
  have qn:b2≠b3:=F.f
  have f2:=F.b;have f3:=F.c;have f4:=F.d;have f5:=F.e
  generalize ovr (P8 b2 b3 m6 m7 r) Gs=Bs at q1 q2 q3 q4 hdel⊢
  have m2:b2∈[b2,b3]:=by simp
  have m3:b3∈[b2,b3]:=by simp
  repeat' (first|with_reducible apply C9P|simp only[go_sem,hkd]|simp(disch:=omega) only[A0,A9,A3,A0q,o9]|simp(disch:=first|omega|grind) only[A6,C8]|(intro hx_;try simp only[A4]at hx_)|omega)
  refine C1i [b2,b3] ?_
  have s2:Bs.set b2 (.box [.map m6])=Bs:=B6w q3
  have s3:Bs.set b3 (.box [.map m7])=Bs:=B6w q4
  repeat' (first|with_reducible apply C9P|simp only[go_sem,q3,q4,m2,m3,s2,s3]|simp(disch:=omega) only[A0,A9,A3,A0q,o9]|simp(disch:=first|omega|grind) only[A6,C8]|(intro hx_;try simp only[A4]at hx_)|omega)
  all_goals first
   |(subst hx_;assumption)
   |skip
  rw[hr]at q1 q2
  exact A8p q1 q2 F.a.symm (D0r hdel h)
theorem B1s{Q}(ks ms:List ByteArray)(H:Heap)(h:Q (.bool (meetL ks ms)) H):ACalls Tryz.prog 56 [.fm (C9 tt ks),.fm (C9 tt ms)] H Q:=by
 refine B2 [] B3 Tryz.func56 rfl (by kernel_rfl) (C9Q (by kernel_rfl)) (by kernel_rfl) ?_
 simp only[go_sem,Tryz.results56]
 have hkl:(C9 tt ks).length=ks.length:=by simp[C9]
 repeat' (first|with_reducible apply C9P|simp only[go_sem]|simp(disch:=omega) only[A3]|intro hx_|omega)
 rename_i b7
 have h7:=hx_
 clear hx_
 refine D1 [1,7] (fun(s:List Nat)=>[]) (fun(s:List Nat)=>H.set b7 (.rng (C9 tt ks) s)) (fun(s:List Nat)=>∀(i:Nat) (hi:i<ks.length),i∈s→ks[i]∉ms) (fun(s:List Nat)=>A6A ks.length s) ([]) (fun _ _ h=>absurd h C9s) (by(try simp only[go_sem])<;>(try simp(disch:=omega) [A0])<;>(try omega)) (by first|exact D0q _|exact A2 (by assumption)|exact B4 (by assumption)|simp only[Heap.Le,Heap.set,Heap.del]at* <;>grind) ?_
 rintro Ec rfl s hs
 have e7:(H.set b7 (.rng (C9 tt ks) s)) b7=some (.rng (C9 tt ks) s):=A5 _ _
 have hl7:H.Le (H.set b7 (.rng (C9 tt ks) s)):=A2 h7
 repeat' (first|with_reducible apply C9P|simp only[go_sem,e7]|simp(disch:=omega) only[A3]|intro hx_|omega)
 refine A70 (fun i hi hn=>?_) (fun hall=>?_)
 ·rw[hkl]at hi
  have eg:((H.set b7 (.rng (C9 tt ks) s)).set b7 (.rng (C9 tt ks) (s++[i]))) b7=some (.rng (C9 tt ks) (s++[i])):=A5 _ _
  have ek:(C9 tt ks)[i]? =some (.str ks[i],.bool true):=by simp[C9,hi]
  have ek2:(C9 tt ks)[i]'(by rw[hkl];exact hi)=(.str ks[i],.bool true):=by simp[C9]
  by_cases g:ks[i]∈ms
  ·have hm:meetL ks ms=true:=(A3V _ _).2 ⟨_,C9d hi,g⟩
   rw[hm]at h
   repeat' (first|with_reducible apply C9P|simp only[go_sem,eg,ek,ek2,List.getLast?_concat,A2K,if_pos g]|simp(disch:=omega) only[A3]|intro hx_|omega)
   exact D0r (by simp only[Go.Av.Heap.Le,Go.Av.Heap.set,Go.Av.Heap.del]at* <;>grind) h
  ·repeat' (first|with_reducible apply C9P|simp only[go_sem,eg,ek,ek2,List.getLast?_concat,A2K,if_neg g]|simp(disch:=omega) only[A3]|intro hx_|omega)
   refine C3 (s++[i]) (fun j hj hm=>?_) (A1u hi hn) (by(try simp only[go_sem])<;>(try simp(disch:=omega) [A0])<;>(try omega)) ?_
   ·rcases C9p.1 hm with q|q
    ·exact hs j hj q
    ·rw[C9q]at q;subst q;exact g
   ·exact(by simp only[Go.Av.Heap.Le,Go.Av.Heap.set,Go.Av.Heap.del]at* <;>grind)
 ·have hm:meetL ks ms=false:=by
   rw[←D0l,A3V]
   rintro⟨x,hx,hx2⟩
   obtain⟨i,hi,rfl⟩:=List.getElem_of_mem hx
   exact hs i hi (hall i (by rw[hkl];exact hi)) hx2
  rw[hm]at h
  repeat' (first|with_reducible apply C9P|simp only[go_sem]|simp(disch:=omega) only[A3]|intro hx_|omega)
  exact D0r hl7 h
end Go.Proofs.YtibphjonmikciaaGreatDoor
end
section
namespace Go.Proofs.YtibphjonmikciaaGreatDoor
open Go Go.Av Go.RowKit Go.Maps Go.Sort Go.Shelf Go.Lexs Go.WideElems Go.Lin
theorem A8X{Q}(kvs:List (D×D))(H:Heap)(h: ∀bk,H bk=none→Q (.fn (.func 89) [] [.box bk 0]) (H.set bk (.box [.fm kvs]))):ACalls Tryz.prog 47 [.fm kvs] H Q:=by
 refine⟨by kernel_rfl,fun w vs hl hr hs=>?_⟩
 obtain⟨a,rfl,ha⟩:=A1i hl hr
 obtain⟨b,ea⟩: ∃b,a= .map (some b):=by cases ha;exact⟨_,rfl⟩
 subst ea
 refine(callsIn_wide.1 (A0R (some b) w)).mono ?_
 rintro e w' ⟨rfl,rfl⟩
 have hp:=A24 (K:=fun d H'=>∃bk,d= .box bk 0∧H bk=none∧H'=H.set bk (.box [.fm kvs])) hs (cs:=[.fm kvs]) (vs:= #[.map (some b)]) 72 (Z:=none) (by simp) ⟨rfl,fun i d hd=>(match i,hd with|0,hd=>by cases hd;rfl|i+1,hd=>by cases hd),fun i d hd=>(match i,hd with|0,hd=>by cases hd;exact ha|i+1,hd=>by cases hd)⟩ (fun bk hbk=>⟨bk,rfl,hbk,rfl⟩)
 obtain⟨d,H1,k1,k2,k3,k4,bk,rfl,hbk,rfl⟩:=hp
 refine⟨_,rfl,.fn (.func 89) [] [.box bk 0],_,?_,k2,k3,k4,h bk hbk⟩
 refine .fn _ [] [.box bk 0] #[] #[_] rfl rfl (by simp) fun i d hd=>?_
 match i with
 |0=>cases hd;exact k1
 |i+1=>cases hd
theorem A8Y{Q}(bk:Nat)(f:ByteArray→D)(ks:List ByteArray)(hlen:ks.length≤1000000000)(hsz: ∀s∈ks,s.size≤4611686018427387904)(H:Heap)(h1:H bk=some (.box [.fm (C9 f ks)]))
  (h: ∀l:List ByteArray,l.Pairwise (fun x y=>j8 x y=true)→(∀s,s∈l↔s∈ks)→Q (.sl 1 (Rw j7 l)) H):ACalls Tryz.prog 46 [.fn (.func 89) [] [.box bk 0]] H Q:=by
 refine⟨by kernel_rfl,fun w vs hl hr hs=>?_⟩
 obtain⟨a,rfl,ha⟩:=A1i hl hr
 have ea:a= .func (.func 89) #[] #[.pointer (some ⟨bk,0,none⟩)]:=by
  cases ha with
  |fn _ _ _ us1 us2 hl1 hl2 q1 q2=>
   have e1:us1= #[]:=Array.eq_empty_of_size_eq_zero (by simpa using hl1.symm)
   obtain⟨l2⟩:=us2
   match l2,hl2 with
   | [x],_=>
    have hx:=q2 0 _ rfl
    have:x= .pointer (some ⟨bk,0,none⟩):=by
     simp at hx
     cases hx;rfl
    rw[e1,this]
 subst ea
 obtain⟨c,T,lo,hi,c1,_,c2,c3,_⟩:=hs _ _ h1
 have h0:=(c3 0 (.fm (C9 f ks)) rfl).2
 obtain⟨b,es,clock,hx,m1,m2,m3,m4⟩: ∃b es clock,c.getD 0 undef= .map (some b)∧w.heap[b]? =some (.map es clock)∧MapKept.Stamped es clock∧es.size=(C9 f ks).length∧∀(i:Nat) (p:D×D),(C9 f ks)[i]? =some p→p.1.keyA=true∧R w H p.1 (es.getD i default).key∧R w H p.2 (es.getD i default).val:=by
  revert h0
  generalize c.getD 0 undef=x
  intro h0
  cases h0 with
  |fm _ b es ck hb hn hst hl hk hr hv=>exact⟨b,es,ck,rfl,hb,hst,hl,fun i p hp=>⟨hk i p hp,hr i p hp,hv i p hp⟩⟩
 have hc0:c[0]? =some (.map (some b)):=by
  have hsz:0<c.size:=by rw[c2];simp
  have e:c[0]? =some (c.getD 0 undef):=by simp[hsz]
  rw[e,hx]
 have hcell:w.cell? ⟨bk,0,none⟩=some (.map (some b)):=by
  unfold World.cell?
  simp only[c1]
  exact hc0
 have hbk:bk<w.heap.size:=hs.lt h1
 have hkey: ∀(i:Nat) (hi:i<ks.length),(es.getD i default).key= .string ks[i]:=fun i hi=>by
  have:=(m4 i (.str ks[i],f ks[i]) (by simp[C9,hi])).2.1
  revert this
  generalize (es.getD i default).key=x
  intro this
  cases this;rfl
 have hes:es.size=ks.length:=by rw[m3];simp[C9]
 have hkl:es.toList.map (·.key)=ks.map .string:=by
  apply D0k
  ·simp[hes]
  ·intro i h1 h2
   have hi:i<ks.length:=by simpa using h2
   have:=hkey i hi
   have hi2:i<es.size:=by omega
   simp[hi2]at this
   simp[this]
 have hko: ∀x∈es.toList,∃s∈ks,x.key= .string s:=fun x hx=>by
  have:x.key∈es.toList.map (·.key):=D0N.2 ⟨x,hx,rfl⟩
  rw[hkl]at this
  obtain⟨s,hs,e⟩:=D0N.1 this
  exact⟨s,hs,e.symm⟩
 have hund:Tryz.prog.underlying 9=some .string:=by kernel_rfl
 have hrd: ∀x∈es.toList,∀s,s∈ks→x.key= .string s→WideElems.rd (H:=Unit) Tryz.prog 9 A1W x=some (.string s.data.toList,.lit (.bool true)):=fun x _ s hs e=>by
  unfold WideElems.rd
  rw[e,WideMaps.keyOf_string_mk hund (by have:=hsz s hs;unfold maxLen;omega)]
  rfl
 have hown:w.ownsMap (H:=Unit) Tryz.prog 9 A1W b es.size (.map ((es.toList.map (rg Tryz.prog 9 A1W)).foldr DataW.insert [])):=by
  refine⟨es,clock,m1,⟨by unfold maxLen;omega,m2,fun x hx=>?_⟩,C9j _,rfl⟩
  obtain⟨s,hs,e⟩:=hko x hx
  exact⟨_,hrd x hx s hs e⟩
 have hrg: ∀x∈es.toList,∀s,s∈ks→x.key= .string s→rg (H:=Unit) Tryz.prog 9 A1W x=(.string s.data.toList,.lit (.bool true)):=fun x hx s hs e=>rg_of (hrd x hx s hs e)
 have hsk:(strKeys (H:=Unit) (.map ((es.toList.map (rg Tryz.prog 9 A1W)).foldr DataW.insert []))).Perm (ks.map B):=by
  show (((es.toList.map (rg Tryz.prog 9 A1W)).foldr DataW.insert []).map fun p=>strOf p.1).Perm _
  refine((y3 _).map _).trans ?_
  rw[List.map_map]
  have:es.toList.map ((fun p=>strOf p.1) ∘ rg (H:=Unit) Tryz.prog 9 A1W)=ks.map B:=by
   have e2:ks.map B=(es.toList.map (·.key)).map (fun v=>match v with| .string s=>B s|_=>[]):=by rw[hkl,List.map_map];rfl
   rw[e2,List.map_map]
   refine List.map_congr_left fun x hx=>?_
   obtain⟨s,hs,e⟩:=hko x hx
   simp only[Function.comp]
   rw[hrg x hx s hs e,e];rfl
  rw[this]
 have hnd:(ks.map B).Nodup:=by
  have:=m2.2.2
  rw[hkl]at this
  have h2:List.Pairwise (fun a b:ByteArray=>Value.string a≠Value.string b) ks:=List.pairwise_map.1 this
  have h3:List.Pairwise (fun a b:ByteArray=>B a≠B b) ks:=h2.imp fun {a b} h e=>h (congrArg Value.string (i6 e))
  exact List.pairwise_map.2 h3
 have hseq:=AnyZ.keys_gives (ρ :=Tryz.keys47_ren) {A14 with} Fence.wide 2 trivial rfl (by omega) bk b es.size _ w hbk hcell hown
 have hms:Maps.size (.map ((es.toList.map (rg (H:=Unit) Tryz.prog 9 A1W)).foldr DataW.insert []):DataW Unit)=ks.length:=by
  show (((es.toList.map (rg Tryz.prog 9 A1W)).foldr DataW.insert [])).length=_
  rw[(y3 _).length_eq];simp[hes]
 refine(callsIn_wide.1 (AnyZ.sorted_in A2a Fence.wide 5 trivial trivial trivial trivial rfl (by omega) (A3i _) (enters_of Tryz.func88 (by kernel_rfl) rfl) 89 #[.pointer (some ⟨bk,0,none⟩)] trivial (enters_of Tryz.func89 (by kernel_rfl) rfl) _ _ (by rw[hms];unfold maxLen;omega) (by rw[hms];omega) w hseq)).mono ?_
 rintro e w' ⟨v,ss,rfl,hS,hrow,_,hB⟩
 have hp:ss.Perm (ks.map B):=hS.trans hsk
 have hsn:ss.Nodup:=hp.nodup_iff.2 hnd
 have hup:=B2R hsn
 have hmem: ∀s,s∈(ss.mergeSort (fun x y=>decide (x≤y))).map S↔s∈ks:=fun s=>by
  rw[D0N]
  constructor
  ·rintro⟨x,hx,rfl⟩
   have:=hp.mem_iff.1 ((List.mergeSort_perm ss _).mem_iff.1 hx)
   obtain⟨t,ht,rfl⟩:=D0N.1 this
   rw[S_B];exact ht
  ·intro hs
   refine⟨B s,(List.mergeSort_perm ss _).mem_iff.2 (hp.mem_iff.2 (D0N.2 ⟨s,hs,rfl⟩)),S_B s⟩
 refine⟨v,rfl,.sl 1 (Rw j7 ((ss.mergeSort (fun x y=>decide (x≤y))).map S)),H,?_,A30 hs hB,A2D hB,D0w _ _,h _ hup hmem⟩
 have hll:((ss.mergeSort (fun x y=>decide (x≤y))).map S).length=ss.length:=by simp
 generalize ss.mergeSort (fun x y=>decide (x≤y))=zs at hrow hll⊢
 obtain⟨r1,r2⟩:=hrow
 rcases r2 with⟨rfl,r3⟩|⟨g,cap,cur,rfl,r3,r4,r5,r6,r7,r8⟩
 ·have:zs.map S= []:=C9n (by rw[hll,r3])
  rw[this]
  exact .sl0 _ _ _
 ·have hlz:(Rw j7 (zs.map S)).length=ss.length:=by rw[D6,hll]
  rw[←hlz]
  refine .sl 1 _ g 0 cap (fun i j=>cur.getD i undef) ?_ ?_ (fun i e he=>?_) (by rw[hlz];exact r5) (fun i j hi hj=>?_) (fun i e j d he hd=>?_) (fun i e j d he hd=>?_)
  ·by_cases hlt:g<w'.heap.size
   ·exact hlt
   ·rw[Array.getElem?_eq_none (Nat.le_of_not_lt hlt)]at r4;cases r4
  ·exact G8 (hs.fresh r3)
  ·rw[Rw,C9m]at he
   obtain⟨x,_,rfl⟩:=C9Y.1 he
   rfl
  ·have hj0:j=0:=by omega
   subst hj0
   have hi2:i<cur.size:=by rw[hlz]at hi;rw[r7];omega
   unfold World.cell?
   simp only[r4]
   simp[hi2]
  ·rw[Rw,C9m]at he
   obtain⟨x,_,rfl⟩:=C9Y.1 he
   match j with
   |0=>cases hd;rfl
   |j+1=>cases hd
  ·rw[Rw,C9m,C9m]at he
   obtain⟨x,hx,rfl⟩:=C9Y.1 he
   obtain⟨z,hz,rfl⟩:=C9Y.1 hx
   match j with
   |0=>
    cases hd
    have hi:i<zs.length:=(C9Z.1 hz).1
    have h3:(cur.toList.take (ss.length*1))[i]? =some (encStr z):=by rw[r8,C9m,hz];rfl
    rw[List.getElem?_take]at h3
    split at h3
    ·have:cur[i]? =some (encStr z):=by simpa using h3
     have e:cur.getD i undef=encStr z:=by
      have hi2:=(C9o.1 this)
      obtain⟨hi3,hi4⟩:=hi2
      simp[hi3,hi4]
     rw[e]
     exact .str _
    ·cases h3
   |j+1=>cases hd
end Go.Proofs.YtibphjonmikciaaGreatDoor
end
section
set_option maxRecDepth 20000
namespace Go.Proofs.YtibphjonmikciaaGreatDoor
open Go Go.Av Go.Lexs Go.Lin Go.Fo
attribute [local irreducible] ACalls W4
theorem A3a{Q}{b n:Nat}{H0:Heap}(h0:H0 b=none)(f:Fm)(fa:FmFit f)(hn:n=1)(h:Q (.tuple [.fm (C9 tt (I8 (D3 f))),.fm (C9 tt (I8 (C6 f)))]) H0):ACalls Tryz.prog 45 [.vec b 7 0 n] (H0.set b (.vec 7 [C1 f])) Q:=by
 subst hn
 refine T1 (es:=Rw C1 [f]) (A5 _ _) rfl ?_
 rw[E7 h0]
 refine A8W [f] (fun k hk=>by rw[C9q]at hk;rw[hk];exact fa) (by simp) _ ?_
 have e1:D3.intsL [f]=D3 f:=by simp[D3.intsL]
 have e2:C6.boolsL [f]=C6 f:=by simp[C6.boolsL]
 rw[e1,e2];exact h
theorem Q5{Q}(f:Fm)(fa:FmFit f)(vo:VOk f)(H:Heap)(h:Q (.bool (E4 f)) H):ACalls Tryz.prog 18 [.agg (C1 f)] H Q:=by
 refine B2 [] B3 Tryz.func18 rfl (by kernel_rfl) (C9Q (by kernel_rfl)) (by kernel_rfl) ?_
 simp only[go_sem,Tryz.results18]
 rw[←B0Y vo]at h
 intro b1 h1
 have e1:(H.set b1 (.box (C1 f))) b1=some (.box (C1 f)):=A5 _ _
 have hle:H.Le (H.set b1 (.box (C1 f))):=A2 h1
 generalize H.set b1 (.box (C1 f))=Bs at e1 hle⊢
 repeat' (first|with_reducible apply C9P|simp only[go_sem,e1]|simp(disch:=omega) only[A0,A3]|simp(disch:=first|omega|grind) only[A6]|intro hx_|with_reducible refine B9P f fa _ ?_|omega)
 rename_i b3
 have h3:=hx_
 clear hx_
 have n13:b1≠b3:=fun e=>by rw[←e,e1]at h3;cases h3
 have e13:(Bs.set b3 (.box [.bool (V6 f)])) b1=some (.box (C1 f)):=by rw[A8 _ n13];exact e1
 repeat' (first|with_reducible apply C9P|simp only[go_sem,e13]|simp(disch:=omega) only[A0,A3]|simp(disch:=first|omega|grind) only[A6]|intro hx_|omega)
 refine Eq.mpr (congrArg (fun X=>ACalls _ _ _ X _) (C8G b3 (V6 f) Bs)) ?_
 refine B1q (B6t b3) f fa 1 (V6 f) trivial _ trivial ?_
 rw[B5z]
 have e3:ovr (l7 b3 (V6 f&&G7 D5 f)) Bs b3=some (.box [.bool (V6 f&&G7 D5 f)]):=A0b (o:=B6m _) (by simp[l7])
 have e4:ovr (l7 b3 (V6 f&&G7 D5 f)) Bs b1=some (.box (C1 f)):=by rw[A2O (by simp[l7,n13])];exact e1
 have hle2:H.Le (ovr (l7 b3 (V6 f&&G7 D5 f)) Bs):=fun k o hk=>by
  have k3:k≠b3:=fun e=>by subst e;rw[hle _ _ hk]at h3;cases h3
  rw[A2O (by simp[l7,k3])];exact hle _ _ hk
 generalize ovr (l7 b3 (V6 f&&G7 D5 f)) Bs=Cs at e3 e4 hle2⊢
 cases hok:V6 f&&G7 D5 f with
 |false=>
  rw[hok]at h e3
  simp only[Bool.false_and]at h
  repeat' (first|with_reducible apply C9P|simp only[go_sem,e3]|simp(disch:=omega) only[A0,A3]|simp(disch:=first|omega|grind) only[A6]|intro hx_|omega)
  exact D0r hle2 h
 |true=>
  rw[hok]at h e3
  simp only[Bool.true_and]at h
  have hall:G7 D5 f=true:=by rw[C9c]at hok;exact hok.2
  have hw:K7 f≤1000000:=by
   rcases vo with g|g
   ·exact g
   ·rw[hall]at g;cases g
  have hnw:=A95 f
  have k1:=A43 (D3 f)
  have k2:=A43 (C6 f)
  have l1:=A3U (D3 f)
  have l2:=A3U (C6 f)
  have lm1:(C9 tt (I8 (D3 f))).length=(ivF f).length:=by rw[show (C9 tt (I8 (D3 f))).length=(I8 (D3 f)).length by simp[C9],l1];rfl
  have lm2:(C9 tt (I8 (C6 f))).length=(bvF f).length:=by rw[show (C9 tt (I8 (C6 f))).length=(I8 (C6 f)).length by simp[C9],l2];rfl
  have lw1:(ivF f).length≤1000000:=by have:(I8 (D3 f)).length=(ivF f).length:=l1;omega
  have lw2:(bvF f).length≤1000000:=by have:(I8 (C6 f)).length=(bvF f).length:=l2;omega
  have mm:meetL (I8 (D3 f)) (I8 (C6 f))=meetL (ivF f) (bvF f):=A1L (fun x=>by unfold ivF;rw[F7,S2]) (fun x=>by unfold bvF;rw[F7,S2])
  have e12:decide ((ivF f).length+(bvF f).length≤12)=decide (((ivF f).length:Int)+(bvF f).length≤12):=C92.2 (by omega)
  rw[e12,←mm]at h
  generalize meetL (I8 (D3 f)) (I8 (C6 f))=mt at h mm
  have bc: ∀(H:Heap) (Q:D→Heap→Prop),Q (.bool mt) H→ACalls Tryz.prog 56 [.fm (C9 tt (I8 (D3 f))),.fm (C9 tt (I8 (C6 f)))] H Q:=fun H Q hq=>B1s _ _ H (by rw[A1L (l':=ivF f) (m':=bvF f) (fun x=>by unfold ivF;rw[F7,S2]) (fun x=>by unfold bvF;rw[F7,S2]),←mm];exact hq)
  repeat' (first|with_reducible apply C9P|simp only[go_sem,e3,e4,lm1,lm2]|simp(disch:=omega) only[A0,A3]|simp(disch:=first|omega|grind) only[A6]|intro hx_|with_reducible refine A3a (by assumption) f fa rfl ?_|with_reducible refine bc _ _ ?_|omega)
  all_goals (refine D0r hle2 ?_;simp_all)
theorem C26{Q}(f:Fm)(fa:FmFit f)(vo:VOk f)(H:Heap)(h:Q (if E4 f=true then .tuple [.sl 1 (Rw j7 (ivF f)),.sl 1 (Rw j7 (bvF f)),.int .i64 0]else .tuple [.sl 1 [],.sl 1 [],.int .i64 2]) H):ACalls Tryz.prog 14 [.agg (C1 f)] H Q:=by
 refine B2 [] B3 Tryz.func14 rfl (by kernel_rfl) (C9Q (by kernel_rfl)) (by kernel_rfl) ?_
 simp only[go_sem,Tryz.results14]
 intro b1 h1
 have e1:(H.set b1 (.box (C1 f))) b1=some (.box (C1 f)):=A5 _ _
 have hle:H.Le (H.set b1 (.box (C1 f))):=A2 h1
 generalize H.set b1 (.box (C1 f))=Bs at e1 hle⊢
 cases hv:E4 f with
 |false=>
  rw[hv]at h
  simp only[C9f,if_false]at h
  have vc: ∀(H:Heap) (Q:D→Heap→Prop),Q (.bool false) H→ACalls Tryz.prog 18 [.agg (C1 f)] H Q:=fun H Q hq=>Q5 f fa vo H (by rw[hv];exact hq)
  repeat' (first|with_reducible apply C9P|simp only[go_sem,e1]|simp(disch:=omega) only[A3]|intro hx_|with_reducible refine vc _ _ ?_|omega)
  refine D9 (d':=.tuple [.sl 1 [],.sl 1 [],.int .i64 2]) (.tuple _ _ rfl fun i d d' h1 h2=>?_) (D0r hle h)
  match i with
  |0=>cases h1;cases h2;exact .nil 1
  |1=>cases h1;cases h2;exact .nil 1
  |2=>cases h1;cases h2;exact .same _
  |i+3=>cases h1
 |true=>
  rw[hv]at h
  simp only[if_true]at h
  have vc: ∀(H:Heap) (Q:D→Heap→Prop),Q (.bool true) H→ACalls Tryz.prog 18 [.agg (C1 f)] H Q:=fun H Q hq=>Q5 f fa vo H (by rw[hv];exact hq)
  repeat' (first|with_reducible apply C9P|simp only[go_sem,e1]|simp(disch:=omega) only[A3]|intro hx_|with_reducible refine vc _ _ ?_|with_reducible refine A3a (by assumption) f fa rfl ?_|omega)
  refine A8X _ _ fun bk hbk=>?_
  have hw:K7 f≤1000000:=by
   rcases vo with g|g
   ·exact g
   ·rw[L5 hv]at g;cases g
  have hnw:=A95 f
  have k1:=A43 (D3 f)
  have k2:=A43 (C6 f)
  repeat' (first|with_reducible apply C9P|simp only[go_sem]|simp(disch:=omega) only[A3]|intro hx_|omega)
  refine A8Y bk tt (I8 (D3 f)) (by omega) (fun s hs=>by have:=B3q fa s ((F7 _ _).1 hs);omega) _ (A5 _ _) fun v hv hm=>?_
  have ev:v=ivF f:=A5k hv (A8K _) fun s=>by rw[hm,F7];exact(S2 _ _).symm
  rw[ev]
  repeat' (first|with_reducible apply C9P|simp only[go_sem]|simp(disch:=omega) only[A3]|intro hx_|omega)
  refine A8X _ _ fun bk2 hbk2=>?_
  repeat' (first|with_reducible apply C9P|simp only[go_sem]|simp(disch:=omega) only[A3]|intro hx_|omega)
  refine A8Y bk2 tt (I8 (C6 f)) (by omega) (fun s hs=>by have:=B1R fa s ((F7 _ _).1 hs);omega) _ (A5 _ _) fun v hv hm=>?_
  have ev:v=bvF f:=A5k hv (A8K _) fun s=>by rw[hm,F7];exact(S2 _ _).symm
  rw[ev]
  repeat' (first|with_reducible apply C9P|simp only[go_sem]|simp(disch:=omega) only[A3]|intro hx_|omega)
  exact D0r ((hle.trans (A2 hbk)).trans (A2 hbk2)) h
end Go.Proofs.YtibphjonmikciaaGreatDoor
namespace Go.Fo
open Go Go.Av Go.Lexs Go.Lin
theorem B6y(l:LinV)(sg:Int)(i:Nat)(h:i<l.t.length):Rw Q7 ((shL l sg).t.take (i+1))=Rw Q7 ((shL l sg).t.take i)++[[.str l.t[i].v,.int .i64 (sg*l.t[i].c)]]:=by
 rw[Q3 _ i (by unfold shL;simpa using h)]
 congr 2
 unfold shL;simp
theorem B1t{Q:D→Heap→Prop}{H Bs:Heap}{b4 x n:Nat}{o:Int}{es:List (List D)}(ks:List Fm)(hes:es=Rw C1 ks)(hn:n=ks.length)(hle:H.Le Bs)(h4:H b4=none){z:Av.Obj}(hz:Bs b4=some z)(hx:Bs x=none)(y:Av.Obj)(h:Q (.agg (C1 (.mk o 0 nilL D2 ks))) H):
  Fin Q (.agg [.int .i64 o,.int .i64 0,.nilsl,.int .i64 0,.bool false,.str ⟨#[]⟩,.vec x 7 0 n]) ((Bs.set x (.vec 7 es)).set b4 y):=by
 subst hes
 have hx4:x≠b4:=fun e=>by rw[e,hz]at hx;cases hx
 refine A8M (ob:=some x) (ks:=ks) hn (show (Heap.set _ b4 y) x=_ by rw[A8 _ hx4,A5]) (D0r (fun k q hk=>?_) h)
 have k1:k≠x:=fun e=>by rw[←e,hle _ _ hk]at hx;cases hx
 have k2:k≠b4:=fun e=>by rw[e,h4]at hk;cases hk
 show Heap.del _ x k=_
 rw[C8 k1,A8 _ k2,A8 _ k1];exact hle _ _ hk
theorem B6z: ∀(f:Fm),G7 D5 f=true→K7 f≤13*N7 f:=by
 intro f
 induction f using P2 with
 |h o n l s ks ih=>
  intro hf
  have hk: ∀k∈ks,G7 D5 k=true:=fun k hk=>N8 (f:=.mk o n l s ks) hf hk
  have ht:=B25 (f:=.mk o n l s ks) (by rw[A2L,C9c]at hf;exact hf.1)
  have ht:l.t.length≤12:=ht
  rw[K7,N7]
  have key: ∀m:List Fm,(∀k∈m,k∈ks)→K7.wtL m≤13*N7.nodesL m:=by
   intro m
   induction m with
   |nil=>intro _;simp[K7.wtL,N7.nodesL]
   |cons g gs ih2=>
    intro hm
    have i1:=ih g (hm g (C9a ..)) (hk g (hm g (C9a ..)))
    have i2:=ih2 fun k h=>hm k (C9h _ h)
    rw[K7.wtL,N7.nodesL];omega
  have:=key ks fun _ h=>h
  omega
theorem A6B{f:Fm}(h:E4 f=true):K7 f≤2600:=by
 have h1:=B6z f (L5 h)
 rw[A2M]at h
 simp only[C9c,C9l]at h
 omega
end Go.Fo
namespace Go.Proofs.YtibphjonmikciaaGreatDoor
open Go Go.Av Go.Lexs Go.Lin Go.Fo
attribute [local irreducible] ACalls W4
theorem A4D{Q}(l:LinV)(hv:validL l=true)(sg:Int)(hs:sg=1∨sg= -1)(H:Heap)(h:Q (.agg (E3 (shL l sg))) H):ACalls Tryz.prog 92 [.agg (E3 l),.int .i64 sg] H Q:=by
 refine B2 [] B3 Tryz.func92 rfl (by kernel_rfl) (C9Q (by kernel_rfl)) (by kernel_rfl) ?_
 simp only[go_sem,Tryz.results92]
 have ok:=L9 hv
 have okl:=ok.len
 have okk:=ok.k
 obtain⟨k1,hk1⟩: ∃k1,k1=sg*l.k:=⟨_,rfl⟩
 have hkb:k1.natAbs≤1099511627776:=by rcases hs with rfl|rfl<;>omega
 have hkk:(shL l sg).k=k1-1:=by rw[hk1];rfl
 intro b2 g2 b4 g4
 simp only[A4]at g4
 have n24:b2≠b4:=fun e=>g4.1 e.symm
 obtain⟨Z,hZ⟩: ∃Z:List D,Z= [.nilsl,.int .i64 0,.bool false]:=⟨_,rfl⟩
 rw[←hZ]
 have e2:((H.set b2 (.box (E3 l))).set b4 (.box Z)) b2=some (.box (E3 l)):=by rw[A8 _ n24,A5]
 have e4:((H.set b2 (.box (E3 l))).set b4 (.box Z)) b4=some (.box Z):=A5 _ _
 have hle:H.Le ((H.set b2 (.box (E3 l))).set b4 (.box Z)):=(A2 g2).trans (A2 (by simp only[A4];exact g4))
 generalize (H.set b2 (.box (E3 l))).set b4 (.box Z)=Bs at e2 e4 hle⊢
 repeat' (first|with_reducible apply C9P|simp only[go_sem,e2,←hk1]|simp(disch:=omega) only[A0,A9,A3]|simp(disch:=first|omega|grind) only[A6]|(intro hx_;try simp only[A4]at hx_)|omega)
 rename_i b5
 have h5:=hx_
 clear hx_
 have n5:b2≠b5∧b4≠b5:=⟨fun e=>(by rw[←e,e2]at h5;cases h5),fun e=>(by rw[←e,e4]at h5;cases h5)⟩
 have c5:(Bs.set b5 (.box [.nilsl,.int .i64 (k1-1),.bool false])) b5=some (.box [.nilsl,.int .i64 (k1-1),.bool false]):=A5 _ _
 have c2:(Bs.set b5 (.box [.nilsl,.int .i64 (k1-1),.bool false])) b2=some (.box (E3 l)):=by rw[A8 _ n5.1];exact e2
 have c4:(Bs.set b5 (.box [.nilsl,.int .i64 (k1-1),.bool false])) b4=some (.box Z):=by rw[A8 _ n5.2];exact e4
 have hH5:H b5=none:=hle.none h5
 have hle2:H.Le (Bs.set b5 (.box [.nilsl,.int .i64 (k1-1),.bool false])):=hle.trans (A2 h5)
 generalize Bs.set b5 (.box [.nilsl,.int .i64 (k1-1),.bool false])=Cs at c5 c2 c4 hle2⊢
 repeat' (first|with_reducible apply C9P|simp only[go_sem,c2]|simp(disch:=omega) only[A0,A9,A3]|simp(disch:=first|omega|grind) only[A6]|(intro hx_;try simp only[A4]at hx_)|omega)
 refine D1 [1,4,5,15,16] (fun(p:Nat×Option Nat×Heap)=>[(17,.int .i64 p.1)]) (fun(p:Nat×Option Nat×Heap)=>p.2.2) (fun(p:Nat×Option Nat×Heap)=>p.1≤l.t.length∧AH 2 Cs b5 (fun x=>[x,.int .i64 (k1-1),.bool false]) (Rw Q7 ((shL l sg).t.take p.1)) p.1 p.2.1 p.2.2) (fun(p:Nat×Option Nat×Heap)=>l.t.length-p.1) ((0,none,Cs)) (⟨C9k _,A11 c5⟩) (by(try simp only[go_sem])<;>(try simp(disch:=omega) [A0])<;>(try omega)) (by first|exact D0q _|exact A2 (by assumption)|exact B4 (by assumption)|simp only[Heap.Le,Heap.set,Heap.del]at* <;>grind) ?_
 rintro Ec rfl ⟨i,ob,Hp⟩ ⟨hi,A⟩
 simp only at hi A
 have hsl:(shL l sg).t.length=l.t.length:=by unfold shL;simp
 by_cases hlt:i<l.t.length
 ·have hkd:decide ((i:Int)<l.t.length)=true:=C9R (by omega)
  have hti:(i:Int)<l.t.length:=by omega
  obtain⟨z,hz⟩: ∃z,z=sg*l.t[i].c:=⟨_,rfl⟩
  have hzb:z.natAbs≤1048576:=by
   have:=(M7 ok.t _ (C9d hlt)).2.2
   rcases hs with rfl|rfl<;>omega
  repeat' (first|with_reducible apply C9P|simp only[go_sem,hkd,hti,A9 _ _ hlt,C2 _ _ hlt]|simp(disch:=omega) only[A0,A9,A3]|simp(disch:=first|omega|grind) only[A6]|(intro hx_;try simp only[A4]at hx_)|omega)
  rename_i b7
  have h7:=hx_
  clear hx_
  obtain⟨d1,d7,dO,dN⟩:=A.at7 h7 (.box [.str l.t[i].v,.int .i64 l.t[i].c])
  repeat' (first|with_reducible apply C9P|simp only[go_sem,d1,d7,←hz]|simp(disch:=omega) only[A0,A9,A3]|simp(disch:=first|omega|grind) only[A6]|(intro hx_;try simp only[A4]at hx_)|omega)
  rename_i x
  have hx:=hx_
  clear hx_
  obtain⟨hx7,hxH⟩:=hx
  have hxf:(Hp.set b7 (.box [.str l.t[i].v,.int .i64 l.t[i].c])) x=none:=by rw[A8 _ hx7];exact hxH
  have A7:=A.more h7 (.box [.str l.t[i].v,.int .i64 l.t[i].c])
  obtain⟨_,_,dO2,_⟩:=A7.at7 hxf (.vec 2 [[.str l.t[i].v,.int .i64 z]])
  refine A73 (Rw Q7 ((shL l sg).t.take i)) (by simp) (by rw[Z0 _ _ (by omega)]) dO2 (by simp only[C9U,C9W];omega) (by simp only[C9U,C9W];omega) fun b' hb'=>?_
  obtain⟨hne',d8',A'⟩:=A7.step hxf _ hb' [.str l.t[i].v,.int .i64 z]
  revert A'
  generalize hHf:((K5 ((Hp.set b7 (.box [.str l.t[i].v,.int .i64 l.t[i].c])).set x (.vec 2 [[.str l.t[i].v,.int .i64 z]])) ob).set b' (.vec 2 (Rw Q7 ((shL l sg).t.take i)++[[.str l.t[i].v,.int .i64 z]]))).set b5 (.box [.vec b' 2 0 (i+1),.int .i64 (k1-1),.bool false])=Hf
  intro A'
  repeat' (first|with_reducible apply C9P|simp only[go_sem,d8']|simp(disch:=omega) only[A0,A9,A3]|simp(disch:=first|omega|grind) only[A6]|(intro hx_;try simp only[A4]at hx_)|omega)
  exact C3 (i+1,some b',Hf) ⟨by simp only[];omega,by simp only[];rw[B6y l sg i hlt,←hz];exact A'⟩ (by simp only[];omega) (by(try simp only[go_sem])<;>(try simp(disch:=omega) [A0])<;>(try omega)) (by rw[←hHf];exact D0q _)
 ·have hkd:decide ((i:Int)<l.t.length)=false:=C9S (by omega)
  have hie:i=l.t.length:=by omega
  have c4':=A.keep b4 _ n5.2 c4
  rw[C9e (by omega)]at A
  have A1:=A.box
  rw[hZ]at c4'
  have o1:=A53 2 i ob
  repeat' (first|with_reducible apply C9P|simp only[go_sem,hkd,A1,c4',o1]|simp(disch:=omega) only[A0,A9,A3]|simp(disch:=first|omega|grind) only[A6]|(intro hx_;try simp only[A4]at hx_)|omega)
  rw[←hkk]
  refine C2b (l:=shL l sg) (by rw[hsl];exact hie) (A.out2 c4 _) (D0r (A.le2 hle2 hH5 g4.2 _) h)
theorem A4E{Q}(l:LinV)(H:Heap)(h:Q (.agg (C1 (A0D l))) H):ACalls Tryz.prog 78 [.agg (E3 l)] H Q:=by
 refine B2 [] B3 Tryz.func78 rfl (by kernel_rfl) (C9Q (by kernel_rfl)) (by kernel_rfl) ?_
 simp only[go_sem,Tryz.results78]
 repeat' (first|with_reducible apply C9P|simp only[go_sem]|simp(disch:=omega) only[A3]|simp(disch:=first|omega|grind) only[A6]|(intro hx_;try simp only[A4]at hx_)|omega)
 rename_i b1 h1 b2
 have h2:=hx_
 clear hx_
 refine D9 (C2a 2 0 l D2) (D0r (fun k o hk=>?_) h)
 have k1:k≠b1:=fun e=>by rw[e,h1]at hk;cases hk
 have k2:k≠b2:=fun e=>by rw[e,h2.2]at hk;cases hk
 first|(rw[A8 _ k2,A8 _ k1];exact hk)|(rw[A8 _ k2,A8 _ k2,A8 _ k1];exact hk)|(rw[A8 _ k1];exact hk)
theorem B60(n:Nat): ∀{Q} (f:Fm) (hn:SizeOf.sizeOf f≤n) (hf:G7 D5 f=true) (fa:FmFit f) (b:Bool) (H:Heap) (h:Q (.agg (C1 (normF f b))) H),ACalls Tryz.prog 50 [.agg (C1 f),.bool b] H Q:=by
 induction n with
 |zero=>intro Q f hn;cases f;simp at hn
 |succ n ih=>
 intro Q f hn hf fa b H h
 refine B2 [(10,.par),(21,.wk),(24,.par)] B3 Tryz.func50 rfl (by kernel_rfl) (C9Q (by kernel_rfl)) (by kernel_rfl) ?_
 simp only[go_sem,Tryz.results50]
 have hkl:=fa.kl
 intro b2 g2 b4 g4
 simp only[A4]at g4
 have n24:b2≠b4:=fun e=>g4.1 e.symm
 obtain⟨Z,hZ⟩: ∃Z:List D,Z= [.int .i64 0,.int .i64 0,.nilsl,.int .i64 0,.bool false,.str ⟨#[]⟩,.nilsl]:=⟨_,rfl⟩
 rw[←hZ]
 have e2:((H.set b2 (.box (C1 f))).set b4 (.box Z)) b2=some (.box (C1 f)):=by rw[A8 _ n24,A5]
 have e4:((H.set b2 (.box (C1 f))).set b4 (.box Z)) b4=some (.box Z):=A5 _ _
 have hle:H.Le ((H.set b2 (.box (C1 f))).set b4 (.box Z)):=(A2 g2).trans (A2 (by simp only[A4];exact g4))
 have hl4: ∀x,H.Le (((H.set b2 (.box (C1 f))).set b4 (.box Z)).set b4 x):=fun x=>G3 hle g4.2
 have hl24: ∀x y,H.Le ((((H.set b2 (.box (C1 f))).set b4 (.box Z)).set b2 x).set b4 y):=fun x y=>G3 (G3 hle g2) g4.2
 generalize (H.set b2 (.box (C1 f))).set b4 (.box Z)=Bs at e2 e4 hle hl4 hl24⊢
 cases Q4 hf with
 |con m hm=>
  rw[B2m b rfl]at h
  simp only[Fm.n,Fm.l,Fm.s,Fm.ks,a8]at h
  rw[hZ]at e4
  have q4: ∀x,(Bs.set b2 x) b4=some (.box Z):=fun x=>by rw[A8 _ n24.symm];rw[hZ];exact e4
  rw[hZ]at q4
  rcases hm with rfl|rfl<;>cases b
  all_goals
   repeat' (first|with_reducible apply C9P|simp only[go_sem,e2,e4,q4]|simp(disch:=omega) only[A0,A9,A3]|simp(disch:=first|omega|grind) only[A6]|(intro hx_;try simp only[A4]at hx_)|omega)
   first
    |exact D0r (hl4 _) (by simpa using h)
    |exact D0r (hl24 _ _) (by simpa using h)
 |lin l hl hp=>
  rw[B2n b rfl]at h
  cases b with
  |false=>
   simp only[C9f,if_false,a8]at h
   rw[hZ]at e4
   repeat' (first|with_reducible apply C9P|simp only[go_sem,e2,e4]|simp(disch:=omega) only[A0,A9,A3]|simp(disch:=first|omega|grind) only[A6]|(intro hx_;try simp only[A4]at hx_)|omega)
   exact D0r (hl4 _) h
  |true=>
   simp only[if_true,Fm.l]at h
   unfold opL at h
   have hZ4:=e4
   rw[hZ]at e4
   cases he:l.e with
   |true=>
    rw[if_pos he]at h
    repeat' (first|with_reducible apply C9P|simp only[go_sem,e2,he]|simp(disch:=omega) only[A0,A9,A3]|simp(disch:=first|omega|grind) only[A6]|(intro hx_;try simp only[A4]at hx_)|omega)
    have m2:b2∈[b2]:=by simp
    refine F4 (fun i=>if i=2 then .agg (E3 (shL l 1))else if i=3 then .agg (C1 (A0D (shL l 1)))else if i=6 then .agg (E3 (shL l (-1)))else if i=7 then .agg (C1 (A0D (shL l (-1))))else .undef) [b2] ?_
    repeat' (first|with_reducible apply C9P|simp only[go_sem,e2,e4,m2]|simp(disch:=omega) only[A0,A9,A3]|simp(disch:=first|omega|grind) only[A6]|(intro hx_;try simp only[A4]at hx_)|with_reducible refine Q9 (fun H' Q hro hq=>A4D l hl 1 (.inl rfl) H' hq) ?_|with_reducible refine Q9 (fun H' Q hro hq=>A4D l hl (-1) (.inr rfl) H' hq) ?_|with_reducible refine Q9 (fun H' Q hro hq=>A4E (shL l 1) H' hq) ?_|with_reducible refine Q9 (fun H' Q hro hq=>A4E (shL l (-1)) H' hq) ?_|omega)
    exact B1t [A0D (shL l 1),A0D (shL l (-1))] rfl rfl hle g4.2 e4 (by assumption) _ h
   |false=>
    rw[if_neg (by rw[he];decide)]at h
    have sc:=fun(Q:D→Heap→Prop) (H:Heap)=>A4D (Q:=Q) l hl (-1) (.inr rfl) H
    rw[show E3 l= [.sl 2 (Rw Q7 l.t),.int .i64 l.k,.bool false]by rw[B1J,he]]at sc
    repeat' (first|with_reducible apply C9P|simp only[go_sem,e2,e4,he]|simp(disch:=omega) only[A0,A9,A3]|simp(disch:=first|omega|grind) only[A6]|(intro hx_;try simp only[A4]at hx_)|with_reducible refine sc _ _ ?_|with_reducible refine A4E _ _ ?_|omega)
    exact D0r (hl4 _) h
 |var s hp=>
  rw[B2o b rfl]at h
  cases b with
  |false=>
   simp only[C9f,if_false,a8]at h
   rw[hZ]at e4
   repeat' (first|with_reducible apply C9P|simp only[go_sem,e2,e4]|simp(disch:=omega) only[A0,A9,A3]|simp(disch:=first|omega|grind) only[A6]|(intro hx_;try simp only[A4]at hx_)|omega)
   exact D0r (hl4 _) h
  |true=>
   simp only[if_true]at h
   rw[hZ]at e4
   repeat' (first|with_reducible apply C9P|simp only[go_sem,e2,e4]|simp(disch:=omega) only[A0,A9,A3]|simp(disch:=first|omega|grind) only[A6]|(intro hx_;try simp only[A4]at hx_)|omega)
   exact B1t [.mk 3 0 nilL s []] (by simp[Rw,a8]) rfl hle g4.2 e4 (by assumption) _ h
 |not k=>
  rw[B2p b rfl rfl]at h
  rw[hZ]at e4
  have r0:(Rw C1 [k]).getD 0 []=C1 k:=rfl
  have hsz:SizeOf.sizeOf k<SizeOf.sizeOf (Fm.mk 4 0 nilL D2 [k]):=A0O (f:=.mk 4 0 nilL D2 [k]) (C9a ..)
  repeat' (first|with_reducible apply C9P|simp only[go_sem,e2,e4,r0]|simp(disch:=omega) only[A0,A9,A3]|simp(disch:=first|omega|grind) only[A6]|(intro hx_;try simp only[A4]at hx_)|with_reducible refine ih k (by omega) (N8 hf (C9a ..)) (fa.kid (C9a ..)) (!b) _ ?_|omega)
  all_goals first
   |exact D0r (hl4 _) h
   |decide
   |omega
 |and ks=>
  have hkk: ∀k∈ks,G7 D5 k=true:=fun k hk=>N8 (f:=.mk 5 0 nilL D2 ks) hf hk
  have fkk: ∀k∈ks,FmFit k:=fun k hk=>fa.kid hk
  have hkl:ks.length≤1466015503658:=hkl
  rw[A7H b (by simp[Fm.op]) (by simp[Fm.op]) (by simp[Fm.op]) (by simp[Fm.op])]at h
  simp only[Fm.op,Fm.ks]at h
  apply A54 (C:=fun b5 G=>H.Le G∧H b5=none∧b4≠b5∧b2≠b5∧G b2=some (.box (C1 (.mk 5 0 nilL D2 ks)))∧G b4=some (.box Z)∧G b5=some (.box [.int .i64 (opO 5 b),.int .i64 0,.nilsl,.int .i64 0,.bool false,.str ⟨#[]⟩,.nilsl]))
  ·intro hJ
   by_cases hb:b=true
   rotate_left
   ·have hb:b=false:=by simpa using hb
    repeat' (first|with_reducible apply C9P|simp only[go_sem,e2,hb]|simp(disch:=omega) only[A0,A9,A3]|simp(disch:=first|omega|grind) only[A6]|(intro hx_;try simp only[A4]at hx_)|omega)
    rename_i b5
    have h5:=hx_
    clear hx_
    have k2:b2≠b5:=fun e=>by rw[←e,e2]at h5;cases h5
    have k4:b4≠b5:=fun e=>by rw[←e,e4]at h5;cases h5
    exact w9 [(1,.bool b),(2,.box b2 0),(4,.box b4 0),(5,.box b5 0)] _ (by(try simp only[go_sem,hb])<;>(try simp(disch:=omega) [A0])<;>(try omega)) (D0q _) (hJ b5 _ ⟨hle.trans (A2 h5),hle.none h5,k4,k2,by rw[A8 _ k2];exact e2,by rw[A8 _ k4];exact e4,by rw[A5,hb];rfl⟩)
   ·repeat' (first|with_reducible apply C9P|simp only[go_sem,e2,hb]|simp(disch:=omega) only[A0,A9,A3]|simp(disch:=first|omega|grind) only[A6]|(intro hx_;try simp only[A4]at hx_)|omega)
    rename_i b5
    have h5:=hx_
    clear hx_
    have k2:b2≠b5:=fun e=>by rw[←e,e2]at h5;cases h5
    have k4:b4≠b5:=fun e=>by rw[←e,e4]at h5;cases h5
    have q2: ∀x,(Bs.set b5 x) b2=some (.box (C1 (.mk 5 0 nilL D2 ks))):=fun x=>by rw[A8 _ k2];exact e2
    repeat' (first|with_reducible apply C9P|simp only[go_sem,q2,hb]|simp(disch:=omega) only[A0,A9,A3]|simp(disch:=first|omega|grind) only[A6]|(intro hx_;try simp only[A4]at hx_)|omega)
    refine w9 [(1,.bool b),(2,.box b2 0),(4,.box b4 0),(5,.box b5 0)] _ (by(try simp only[go_sem,hb])<;>(try simp(disch:=omega) [A0])<;>(try omega)) (D0q _) (hJ b5 _ ⟨fun k o hk=>?_,hle.none h5,k4,k2,?_,?_,?_⟩)
    ·have:k≠b5:=fun e=>by rw[e,hle.none h5]at hk;cases hk
     rw[A8 _ this];exact hle _ _ hk
    ·rw[A8 _ k2];exact e2
    ·rw[A8 _ k4];exact e4
    ·rw[A5,hb];rfl
  rintro b5 Cs ⟨hle2,hH5,n45,n25,e2',e4',e5⟩
  clear e2 e4 hl4 hl24 hle
  have e2:=e2';have e4:=e4'
  obtain⟨oo,hoo⟩: ∃oo,oo=opO 5 b:=⟨_,rfl⟩
  rw[←hoo]at e5 h
  repeat' (first|with_reducible apply C9P|simp only[go_sem,e2]|simp(disch:=omega) only[A0,A9,A3]|simp(disch:=first|omega|grind) only[A6]|(intro hx_;try simp only[A4]at hx_)|omega)
  refine D1 [1,4,5,67,68] (fun(p:Nat×Option Nat×Heap)=>[(69,.int .i64 p.1)]) (fun(p:Nat×Option Nat×Heap)=>p.2.2) (fun(p:Nat×Option Nat×Heap)=>p.1≤ks.length∧AH 7 Cs b5 (fun x=>[.int .i64 oo,.int .i64 0,.nilsl,.int .i64 0,.bool false,.str ⟨#[]⟩,x]) (Rw C1 ((ks.map (normF · b)).take p.1)) p.1 p.2.1 p.2.2) (fun(p:Nat×Option Nat×Heap)=>ks.length-p.1) ((0,none,Cs)) (⟨C9k _,A11 e5⟩) (by(try simp only[go_sem])<;>(try simp(disch:=omega) [A0])<;>(try omega)) (by first|exact D0q _|exact A2 (by assumption)|exact B4 (by assumption)|simp only[Heap.Le,Heap.set,Heap.del]at* <;>grind) ?_
  rintro Ec rfl ⟨i,ob,Hp⟩ ⟨hi,A⟩
  simp only at hi A
  have hml:(ks.map (normF · b)).length=ks.length:=by simp
  by_cases hlt:i<ks.length
  ·have hkd:decide ((i:Int)<ks.length)=true:=C9R (by omega)
   have hti:(i:Int)<ks.length:=by omega
   have hm:=C9d hlt
   have hsz:SizeOf.sizeOf ks[i]<SizeOf.sizeOf (Fm.mk 5 0 nilL D2 ks):=A0O (f:=.mk 5 0 nilL D2 ks) hm
   repeat' (first|with_reducible apply C9P|simp only[go_sem,hkd,hti,A9 _ _ hlt,C2 _ _ hlt]|simp(disch:=omega) only[A0,A9,A3]|simp(disch:=first|omega|grind) only[A6]|(intro hx_;try simp only[A4]at hx_)|omega)
   rename_i b7
   have h7:=hx_
   clear hx_
   obtain⟨d1,d7,dO,dN⟩:=A.at7 h7 (.box (C1 ks[i]))
   refine F4 (fun i'=>.agg (C1 (normF ks[i] b))) [b5,b7] ?_
   have m1:b5∈[b5,b7]:=by simp
   have m7:b7∈[b5,b7]:=by simp
   repeat' (first|with_reducible apply C9P|simp only[go_sem,d1,d7,m1,m7]|simp(disch:=omega) only[A0,A9,A3]|simp(disch:=first|omega|grind) only[A6]|(intro hx_;try simp only[A4]at hx_)|with_reducible refine Q9 (fun H' Q hro hq=>ih ks[i] (by omega) (hkk _ hm) (fkk _ hm) b H' hq) ?_|omega)
   rename_i x
   have hx:=hx_
   clear hx_
   obtain⟨hx7,hxH⟩:=hx
   have hxf:(Hp.set b7 (.box (C1 ks[i]))) x=none:=by rw[A8 _ hx7];exact hxH
   obtain⟨hout2,hobx⟩:=A44 dO hxf (.vec 7 [C1 (normF ks[i] b)])
   have hxb:x∉[b5,b7]:=by
    simp only[C9r,C9s,or_false,not_or]
    exact⟨fun e=>(by rw[e,d1]at hxf;cases hxf),hx7⟩
   have hcb: ∀c,ob=some c→c∉[b5,b7]:=fun c e=>by
    simp only[C9r,C9s,or_false,not_or]
    exact⟨(A.fresh c e).2,dN c e⟩
   refine A97 28 96 (n:=i) (m:=1) (bx:=x) (ob:=ob) (es:=Rw C1 ((ks.map (normF · b)).take i)) (xs:=[C1 (normF ks[i] b)]) (by simp only[go_sem]) (by decide) (by simp only[go_sem]) (by simp only[go_sem]) (by simp only[go_sem]) (by simp only[go_sem]) (A5 _ _) rfl (by simp) hout2 (Z0 _ _ (by omega)).symm hxb hobx hcb (by simp only[C9U,C9W];omega) (by simp only[C9U,C9W];omega) fun b' hb'=>?_
   rw[E7 hxf]at hb'⊢
   obtain⟨hne',d8',A'⟩:=A.step h7 _ hb' (C1 (normF ks[i] b))
   revert A'
   generalize hHf:((K5 (Hp.set b7 (.box (C1 ks[i]))) ob).set b' (.vec 7 (Rw C1 ((ks.map (normF · b)).take i)++[C1 (normF ks[i] b)]))).set b5 (.box [.int .i64 oo,.int .i64 0,.nilsl,.int .i64 0,.bool false,.str ⟨#[]⟩,.vec b' 7 0 (i+1)])=Hf
   intro A'
   repeat' (first|with_reducible apply C9P|simp only[go_sem,d8',m1]|simp(disch:=omega) only[A0,A9,A3]|simp(disch:=first|omega|grind) only[A6]|(intro hx_;try simp only[A4]at hx_)|omega)
   exact C3 (i+1,some b',Hf) ⟨by simp only[];omega,by simp only[];rw[Q3 (ks.map (normF · b)) i (by omega),D0F];exact A'⟩ (by simp only[];omega) (by(try simp only[go_sem])<;>(try simp(disch:=omega) [A0])<;>(try omega)) (by rw[←hHf];exact D0q _)
  ·have hkd:decide ((i:Int)<ks.length)=false:=C9S (by omega)
   have hie:i=ks.length:=by omega
   have c4':=A.keep b4 _ n45 e4
   rw[C9e (by omega)]at A
   have A1:=A.box
   rw[hZ]at c4'
   have o1:=A53 7 i ob
   repeat' (first|with_reducible apply C9P|simp only[go_sem,hkd,A1,c4',o1]|simp(disch:=omega) only[A0,A9,A3]|simp(disch:=first|omega|grind) only[A6]|(intro hx_;try simp only[A4]at hx_)|omega)
   exact A8M (ks:=ks.map (normF · b)) (by rw[hml];exact hie) (A.out2 e4 _) (D0r (A.le2 hle2 hH5 g4.2 _) h)
 |or ks=>
  have hkk: ∀k∈ks,G7 D5 k=true:=fun k hk=>N8 (f:=.mk 6 0 nilL D2 ks) hf hk
  have fkk: ∀k∈ks,FmFit k:=fun k hk=>fa.kid hk
  have hkl:ks.length≤1466015503658:=hkl
  rw[A7H b (by simp[Fm.op]) (by simp[Fm.op]) (by simp[Fm.op]) (by simp[Fm.op])]at h
  simp only[Fm.op,Fm.ks]at h
  apply A54 (C:=fun b5 G=>H.Le G∧H b5=none∧b4≠b5∧b2≠b5∧G b2=some (.box (C1 (.mk 6 0 nilL D2 ks)))∧G b4=some (.box Z)∧G b5=some (.box [.int .i64 (opO 6 b),.int .i64 0,.nilsl,.int .i64 0,.bool false,.str ⟨#[]⟩,.nilsl]))
  ·intro hJ
   by_cases hb:b=true
   rotate_left
   ·have hb:b=false:=by simpa using hb
    repeat' (first|with_reducible apply C9P|simp only[go_sem,e2,hb]|simp(disch:=omega) only[A0,A9,A3]|simp(disch:=first|omega|grind) only[A6]|(intro hx_;try simp only[A4]at hx_)|omega)
    rename_i b5
    have h5:=hx_
    clear hx_
    have k2:b2≠b5:=fun e=>by rw[←e,e2]at h5;cases h5
    have k4:b4≠b5:=fun e=>by rw[←e,e4]at h5;cases h5
    exact w9 [(1,.bool b),(2,.box b2 0),(4,.box b4 0),(5,.box b5 0)] _ (by(try simp only[go_sem,hb])<;>(try simp(disch:=omega) [A0])<;>(try omega)) (D0q _) (hJ b5 _ ⟨hle.trans (A2 h5),hle.none h5,k4,k2,by rw[A8 _ k2];exact e2,by rw[A8 _ k4];exact e4,by rw[A5,hb];rfl⟩)
   ·repeat' (first|with_reducible apply C9P|simp only[go_sem,e2,hb]|simp(disch:=omega) only[A0,A9,A3]|simp(disch:=first|omega|grind) only[A6]|(intro hx_;try simp only[A4]at hx_)|omega)
    rename_i b5
    have h5:=hx_
    clear hx_
    have k2:b2≠b5:=fun e=>by rw[←e,e2]at h5;cases h5
    have k4:b4≠b5:=fun e=>by rw[←e,e4]at h5;cases h5
    have q2: ∀x,(Bs.set b5 x) b2=some (.box (C1 (.mk 6 0 nilL D2 ks))):=fun x=>by rw[A8 _ k2];exact e2
    repeat' (first|with_reducible apply C9P|simp only[go_sem,q2,hb]|simp(disch:=omega) only[A0,A9,A3]|simp(disch:=first|omega|grind) only[A6]|(intro hx_;try simp only[A4]at hx_)|omega)
    refine w9 [(1,.bool b),(2,.box b2 0),(4,.box b4 0),(5,.box b5 0)] _ (by(try simp only[go_sem,hb])<;>(try simp(disch:=omega) [A0])<;>(try omega)) (D0q _) (hJ b5 _ ⟨fun k o hk=>?_,hle.none h5,k4,k2,?_,?_,?_⟩)
    ·have:k≠b5:=fun e=>by rw[e,hle.none h5]at hk;cases hk
     rw[A8 _ this];exact hle _ _ hk
    ·rw[A8 _ k2];exact e2
    ·rw[A8 _ k4];exact e4
    ·rw[A5,hb];rfl
  rintro b5 Cs ⟨hle2,hH5,n45,n25,e2',e4',e5⟩
  clear e2 e4 hl4 hl24 hle
  have e2:=e2';have e4:=e4'
  obtain⟨oo,hoo⟩: ∃oo,oo=opO 6 b:=⟨_,rfl⟩
  rw[←hoo]at e5 h
  repeat' (first|with_reducible apply C9P|simp only[go_sem,e2]|simp(disch:=omega) only[A0,A9,A3]|simp(disch:=first|omega|grind) only[A6]|(intro hx_;try simp only[A4]at hx_)|omega)
  refine D1 [1,4,5,67,68] (fun(p:Nat×Option Nat×Heap)=>[(69,.int .i64 p.1)]) (fun(p:Nat×Option Nat×Heap)=>p.2.2) (fun(p:Nat×Option Nat×Heap)=>p.1≤ks.length∧AH 7 Cs b5 (fun x=>[.int .i64 oo,.int .i64 0,.nilsl,.int .i64 0,.bool false,.str ⟨#[]⟩,x]) (Rw C1 ((ks.map (normF · b)).take p.1)) p.1 p.2.1 p.2.2) (fun(p:Nat×Option Nat×Heap)=>ks.length-p.1) ((0,none,Cs)) (⟨C9k _,A11 e5⟩) (by(try simp only[go_sem])<;>(try simp(disch:=omega) [A0])<;>(try omega)) (by first|exact D0q _|exact A2 (by assumption)|exact B4 (by assumption)|simp only[Heap.Le,Heap.set,Heap.del]at* <;>grind) ?_
  rintro Ec rfl ⟨i,ob,Hp⟩ ⟨hi,A⟩
  simp only at hi A
  have hml:(ks.map (normF · b)).length=ks.length:=by simp
  by_cases hlt:i<ks.length
  ·have hkd:decide ((i:Int)<ks.length)=true:=C9R (by omega)
   have hti:(i:Int)<ks.length:=by omega
   have hm:=C9d hlt
   have hsz:SizeOf.sizeOf ks[i]<SizeOf.sizeOf (Fm.mk 6 0 nilL D2 ks):=A0O (f:=.mk 6 0 nilL D2 ks) hm
   repeat' (first|with_reducible apply C9P|simp only[go_sem,hkd,hti,A9 _ _ hlt,C2 _ _ hlt]|simp(disch:=omega) only[A0,A9,A3]|simp(disch:=first|omega|grind) only[A6]|(intro hx_;try simp only[A4]at hx_)|omega)
   rename_i b7
   have h7:=hx_
   clear hx_
   obtain⟨d1,d7,dO,dN⟩:=A.at7 h7 (.box (C1 ks[i]))
   refine F4 (fun i'=>.agg (C1 (normF ks[i] b))) [b5,b7] ?_
   have m1:b5∈[b5,b7]:=by simp
   have m7:b7∈[b5,b7]:=by simp
   repeat' (first|with_reducible apply C9P|simp only[go_sem,d1,d7,m1,m7]|simp(disch:=omega) only[A0,A9,A3]|simp(disch:=first|omega|grind) only[A6]|(intro hx_;try simp only[A4]at hx_)|with_reducible refine Q9 (fun H' Q hro hq=>ih ks[i] (by omega) (hkk _ hm) (fkk _ hm) b H' hq) ?_|omega)
   rename_i x
   have hx:=hx_
   clear hx_
   obtain⟨hx7,hxH⟩:=hx
   have hxf:(Hp.set b7 (.box (C1 ks[i]))) x=none:=by rw[A8 _ hx7];exact hxH
   obtain⟨hout2,hobx⟩:=A44 dO hxf (.vec 7 [C1 (normF ks[i] b)])
   have hxb:x∉[b5,b7]:=by
    simp only[C9r,C9s,or_false,not_or]
    exact⟨fun e=>(by rw[e,d1]at hxf;cases hxf),hx7⟩
   have hcb: ∀c,ob=some c→c∉[b5,b7]:=fun c e=>by
    simp only[C9r,C9s,or_false,not_or]
    exact⟨(A.fresh c e).2,dN c e⟩
   refine A97 28 96 (n:=i) (m:=1) (bx:=x) (ob:=ob) (es:=Rw C1 ((ks.map (normF · b)).take i)) (xs:=[C1 (normF ks[i] b)]) (by simp only[go_sem]) (by decide) (by simp only[go_sem]) (by simp only[go_sem]) (by simp only[go_sem]) (by simp only[go_sem]) (A5 _ _) rfl (by simp) hout2 (Z0 _ _ (by omega)).symm hxb hobx hcb (by simp only[C9U,C9W];omega) (by simp only[C9U,C9W];omega) fun b' hb'=>?_
   rw[E7 hxf]at hb'⊢
   obtain⟨hne',d8',A'⟩:=A.step h7 _ hb' (C1 (normF ks[i] b))
   revert A'
   generalize hHf:((K5 (Hp.set b7 (.box (C1 ks[i]))) ob).set b' (.vec 7 (Rw C1 ((ks.map (normF · b)).take i)++[C1 (normF ks[i] b)]))).set b5 (.box [.int .i64 oo,.int .i64 0,.nilsl,.int .i64 0,.bool false,.str ⟨#[]⟩,.vec b' 7 0 (i+1)])=Hf
   intro A'
   repeat' (first|with_reducible apply C9P|simp only[go_sem,d8',m1]|simp(disch:=omega) only[A0,A9,A3]|simp(disch:=first|omega|grind) only[A6]|(intro hx_;try simp only[A4]at hx_)|omega)
   exact C3 (i+1,some b',Hf) ⟨by simp only[];omega,by simp only[];rw[Q3 (ks.map (normF · b)) i (by omega),D0F];exact A'⟩ (by simp only[];omega) (by(try simp only[go_sem])<;>(try simp(disch:=omega) [A0])<;>(try omega)) (by rw[←hHf];exact D0q _)
  ·have hkd:decide ((i:Int)<ks.length)=false:=C9S (by omega)
   have hie:i=ks.length:=by omega
   have c4':=A.keep b4 _ n45 e4
   rw[C9e (by omega)]at A
   have A1:=A.box
   rw[hZ]at c4'
   have o1:=A53 7 i ob
   repeat' (first|with_reducible apply C9P|simp only[go_sem,hkd,A1,c4',o1]|simp(disch:=omega) only[A0,A9,A3]|simp(disch:=first|omega|grind) only[A6]|(intro hx_;try simp only[A4]at hx_)|omega)
   exact A8M (ks:=ks.map (normF · b)) (by rw[hml];exact hie) (A.out2 e4 _) (D0r (A.le2 hle2 hH5 g4.2 _) h)
theorem A6C{Q}(f:Fm)(hf:G7 D5 f=true)(fa:FmFit f)(b:Bool)(H:Heap)(h:Q (.agg (C1 (normF f b))) H):ACalls Tryz.prog 50 [.agg (C1 f),.bool b] H Q:=B60 _ f (C9j _) hf fa b H h
theorem A6D(n:Int):NilR (.tuple [.agg [.int .i64 0,.int .i64 0,.nilsl,.int .i64 0,.bool false,.str ⟨#[]⟩,.nilsl],.int .i64 n]) (.tuple [.agg (C1 S8),.int .i64 n]):=C2Z (A38 0 0 0 false D2)
theorem C0w{Q}(f:Fm)(fa:FmFit f)(vo:VOk f)(H:Heap)(h:Q (.tuple [.agg (C1 (notF f).1),.int .i64 (notF f).2]) H):ACalls Tryz.prog 16 [.agg (C1 f)] H Q:=by
 refine B2 [] B3 Tryz.func16 rfl (by kernel_rfl) (C9Q (by kernel_rfl)) (by kernel_rfl) ?_
 simp only[go_sem,Tryz.results16]
 intro b1 g1 b2 g2
 simp only[A4]at g2
 have n12:b1≠b2:=fun e=>g2.1 e.symm
 have e1:((H.set b1 (.box (C1 f))).set b2 (.box [.int .i64 0,.int .i64 0,.nilsl,.int .i64 0,.bool false,.str ⟨#[]⟩,.nilsl])) b1=some (.box (C1 f)):=by rw[A8 _ n12,A5]
 have e2:((H.set b1 (.box (C1 f))).set b2 (.box [.int .i64 0,.int .i64 0,.nilsl,.int .i64 0,.bool false,.str ⟨#[]⟩,.nilsl])) b2=some (.box [.int .i64 0,.int .i64 0,.nilsl,.int .i64 0,.bool false,.str ⟨#[]⟩,.nilsl]):=A5 _ _
 have hle:H.Le ((H.set b1 (.box (C1 f))).set b2 (.box [.int .i64 0,.int .i64 0,.nilsl,.int .i64 0,.bool false,.str ⟨#[]⟩,.nilsl])):=(A2 g1).trans (A2 (by simp only[A4];exact g2))
 generalize (H.set b1 (.box (C1 f))).set b2 (.box [.int .i64 0,.int .i64 0,.nilsl,.int .i64 0,.bool false,.str ⟨#[]⟩,.nilsl])=Bs at e1 e2 hle⊢
 have hl2: ∀x,H.Le (Bs.set b2 x):=fun x=>G3 hle g2.2
 have vc:=fun(Q:D→Heap→Prop) (H:Heap)=>Q5 (Q:=Q) f fa vo H
 unfold notF at h
 cases hv:E4 f with
 |false=>
  rw[hv]at h vc
  simp only[C9f,if_false]at h
  repeat' (first|with_reducible apply C9P|simp only[go_sem,e1,e2]|simp(disch:=omega) only[A3]|(intro hx_;try simp only[A4]at hx_)|with_reducible refine vc _ _ ?_|omega)
  exact D9 (A6D 2) (D0r (hl2 _) h)
 |true=>
  rw[hv]at h vc
  simp only[if_true]at h
  have hall:=L5 hv
  have hwt:=A6B hv
  obtain⟨nf,nw⟩:=A5z f true hall fa
  have nv:VOk (normF f true):=.inl (by omega)
  have vc2:=fun(Q:D→Heap→Prop) (H:Heap)=>Q5 (Q:=Q) (normF f true) nf nv H
  have nc:=fun(Q:D→Heap→Prop) (H:Heap)=>A6C (Q:=Q) f hall fa true H
  have cc:=fun(Q:D→Heap→Prop) (H:Heap)=>B23 (Q:=Q) (normF f true) nf H
  generalize normF f true=g at h vc2 nc cc nf nw nv
  repeat' (first|with_reducible apply C9P|simp only[go_sem,e1]|simp(disch:=omega) only[A3]|(intro hx_;try simp only[A4]at hx_)|with_reducible refine vc _ _ ?_|with_reducible refine nc _ _ ?_|with_reducible refine cc _ _ ?_|omega)
  rename_i b4
  have h4:=hx_
  clear hx_
  have k2:b2≠b4:=fun e=>by rw[←e,e2]at h4;cases h4
  have c4:(Bs.set b4 (.box (C1 g))) b4=some (.box (C1 g)):=A5 _ _
  have c2:(Bs.set b4 (.box (C1 g))) b2=some (.box [.int .i64 0,.int .i64 0,.nilsl,.int .i64 0,.bool false,.str ⟨#[]⟩,.nilsl]):=by rw[A8 _ k2];exact e2
  have hl3: ∀x,H.Le ((Bs.set b4 (.box (C1 g))).set b2 x):=fun x=>G3 (hle.trans (A2 h4)) g2.2
  generalize Bs.set b4 (.box (C1 g))=Cs at c4 c2 hl3⊢
  cases hg:E4 g with
  |false=>
   rw[hg]at h vc2
   simp only[C9f,if_false]at h
   repeat' (first|with_reducible apply C9P|simp only[go_sem,c4,c2]|simp(disch:=omega) only[A3]|(intro hx_;try simp only[A4]at hx_)|with_reducible refine vc2 _ _ ?_|omega)
   exact D9 (A6D 3) (D0r (hl3 _) h)
  |true=>
   rw[hg]at h vc2
   simp only[if_true]at h
   repeat' (first|with_reducible apply C9P|simp only[go_sem,c4,c2]|simp(disch:=omega) only[A3]|(intro hx_;try simp only[A4]at hx_)|with_reducible refine vc2 _ _ ?_|omega)
   exact D0r (hl3 _) h
end Go.Proofs.YtibphjonmikciaaGreatDoor
namespace Go.Fo
open Go Go.Av Go.Lexs Go.Lin
theorem B4G(rec:Fm→Option Bool): ∀(ks:List Fm) (b:Bool),B4E rec ks=some b→(∀k∈ks,rec k=some ((rec k).getD false))∧b=ks.any fun k=>(rec k).getD false:=by
 intro ks
 induction ks with
 |nil=>intro b h;rw[B4E]at h;injection h with h;exact⟨by simp,h.symm⟩
 |cons k l ih=>
  intro b h
  rw[B4E]at h
  cases hk:rec k with
  |none=>rw[hk]at h;cases h
  |some x=>
   cases hl:B4E rec l with
   |none=>rw[hk,hl]at h;cases h
   |some y=>
    rw[hk,hl]at h
    injection h with h
    obtain⟨i1,i2⟩:=ih y hl
    refine⟨fun q hq=>?_,?_⟩
    ·rcases C9r.1 hq with rfl|hq
     ·rw[hk];rfl
     ·exact i1 q hq
    ·rw[D0U,hk,←i2,←h];rfl
theorem A5A{Q:D→Heap→Prop}{H:Heap}{x sz n:Nat}{es:List (List D)}(hx:H x=none)(hn:n=es.length)(h:Q (.sl sz es) H):Fin Q (.vec x sz 0 n) (H.set x (.vec sz es)):=
 Fin.out (ob:=some x) hn (A5 _ _) (by show Fin _ _ ((Heap.set H x _).del x);rw[E7 hx];exact D0u h)
theorem C56(ks:List Fm): ∀(j:Nat) (d d':D),[D.int .i64 6,.int .i64 0,.nilsl,.int .i64 0,.bool false,.str ⟨#[]⟩,.sl 7 (Rw C1 ks)][j]? =some d→(C1 (.mk 6 0 nilL D2 ks))[j]? =some d'→NilR d d':=fun j d d' h1 h2=>by
 rw[a8]at h2
 match j with
 |0=>cases h1;cases h2;exact .same _
 |1=>cases h1;cases h2;exact .same _
 |2=>cases h1;cases h2;exact .nil 2
 |3=>cases h1;cases h2;exact .same _
 |4=>cases h1;cases h2;exact .same _
 |5=>cases h1;cases h2;exact .same _
 |6=>cases h1;cases h2;exact .same _
 |j+7=>cases h1
theorem B9Q(f g:Fm)(W:List D)(h: ∀(j:Nat) (d d':D),W[j]? =some d→(C1 g)[j]? =some d'→NilR d d')(hl:W.length=7:=by rfl):NilR (.sl 7 (Rw C1 [f]++[W])) (.sl 7 (Rw C1 ([f]++[g]))):=by
 refine .sl 7 _ _ rfl (fun i e e' h1 h2=>?_) (fun i e e' j d d' h1 h2 h3 h4=>?_)
 ·match i with
  |0=>cases h1;cases h2;rfl
  |1=>cases h1;cases h2;rw[hl,B8s]
  |i+2=>cases h1
 ·match i with
  |0=>cases h1;cases h2;rw[h3]at h4;cases h4;exact .same _
  |1=>cases h1;cases h2;exact h j d d' h3 h4
  |i+2=>cases h1
def mG(bs:BS):Option Nat→D
 |none=>.fm (bsC bs)
 |some m=>.map m
def mAt(H:Heap)(bs:BS):Option Nat→Prop
 |none=>True
 |some m=>H m=some (.map (bsC bs))
theorem C57(bs:BS)(om:Option Nat):(∃k,mG bs om= .fm k)∨∃b,mG bs om= .map b:=by cases om with
 |none=>exact .inl ⟨_,rfl⟩
 |some m=>exact .inr ⟨_,rfl⟩
end Go.Fo
namespace Go.Proofs.YtibphjonmikciaaGreatDoor
open Go Go.Av Go.Lexs Go.Lin Go.Fo
attribute [local irreducible] ACalls W4
theorem C0x(cs:List LinV)(x:Bool)(hx:B1n cs=some x): ∀(Q:D→Heap→Prop) (H:Heap),Q (.bool x) H→ACalls Tryz.prog 155 [.sl 3 (Rw E3 cs)] H Q:=fun Q H h=>by
 unfold B1n at hx
 split at hx
 ·rename_i hv
  exact C2q cs hv.2 (C90.1 hv.1) x hx H h
 ·cases hx
def A6E(n:Nat):Prop:=∀(Q:D→Heap→Prop) (cs:List LinV) (bs:BS) (l:List Fm) (b:Bool),V4 n cs bs l=some b→∀H:Heap,Q (.bool b) H→ACalls Tryz.prog 124 [.agg [.sl 3 (Rw E3 cs),.fm (bsC bs)],.sl 7 (Rw C1 l)] H Q
theorem B4H(n:Nat)(hS:A6E n){Q}(cs:List LinV)(bs:BS)(k:Fm)(l:List Fm)(b:Bool)(hb:V4 n cs bs (k::l)=some b)(hl:l.length≤1000)(b3 b5:Nat)(H:Heap)(h3:H b3=some (.box [.sl 3 (Rw E3 cs),.fm (bsC bs)]))(h5:H b5=some (.box [.sl 7 (Rw C1 l)]))(h:Q (.bool b) H):
  ACalls Tryz.prog 195 [.agg (C1 k),.box b3 0,.box b5 0] H Q:=by
 refine A2t (ops:=chOps) B3 Tryz.func195 rfl (by kernel_rfl) (C9Q (by kernel_rfl)) 7 4 rfl (by kernel_rfl) (by kernel_rfl) (by kernel_rfl) (by kernel_rfl) (by kernel_rfl) ?_
 simp only[go_sem]
 intro b6 h6
 have n36:b3≠b6:=fun e=>by rw[←e,h3]at h6;cases h6
 have n56:b5≠b6:=fun e=>by rw[←e,h5]at h6;cases h6
 have c3:(H.set b6 (.box (C1 k))) b3=some (.box [.sl 3 (Rw E3 cs),.fm (bsC bs)]):=by rw[A8 _ n36];exact h3
 have c5:(H.set b6 (.box (C1 k))) b5=some (.box [.sl 7 (Rw C1 l)]):=by rw[A8 _ n56];exact h5
 have c6:(H.set b6 (.box (C1 k))) b6=some (.box (C1 k)):=A5 _ _
 have hle:H.Le (H.set b6 (.box (C1 k))):=A2 h6
 generalize H.set b6 (.box (C1 k))=Bs at c3 c5 c6 hle⊢
 refine⟨fun i=>if i=0 then .agg [.sl 3 (Rw E3 cs),.fm (bsC bs)]else if i=1 then .agg (C1 k)else if i=2 then .sl 7 (Rw C1 [k])else if i=3 then .sl 7 (Rw C1 l)else if i=4 then .sl 1 [[.sl 7 (Rw C1 [k])],[.sl 7 (Rw C1 l)]]else if i=5 then .sl 7 (Rw C1 (k::l))else .bool b,C2h ?_ ?_ ?_ ?_ ?_ ?_ ?_ ?_,?_⟩
 ·intro ev ec e1
  simp only[go_sem,show ev (.tmp 1)= .box b3 0 from e1,c3]
  exact D0u ⟨rfl,rfl⟩
 ·intro ev ec e1
  simp only[go_sem,show ev (.tmp 3)= .box b6 0 from e1,c6]
  exact D0u ⟨rfl,rfl⟩
 ·intro ev ec e1
  simp only[go_sem,show ev (.tmp 6)= .agg (C1 k)from e1]
  exact fun x hx=>A5A hx rfl ⟨rfl,rfl⟩
 ·intro ev ec e1
  simp only[go_sem,show ev (.tmp 2)= .box b5 0 from e1,c5]
  exact D0u ⟨rfl,rfl⟩
 ·intro ev ec e1 e2
  simp only[go_sem,show ev (.tmp 7)= .sl 7 (Rw C1 [k])from e1,show ev (.tmp 8)= .sl 7 (Rw C1 l)from e2]
  exact fun x hx=>A5A hx rfl ⟨rfl,rfl⟩
 ·intro ev ec e1
  simp only[go_sem,show ev (.tmp 9)= .sl 1 [[.sl 7 (Rw C1 [k])],[.sl 7 (Rw C1 l)]]from e1,ec.func]
  refine A7E [k] l (by simp only[C9U,C9W];omega) _ ?_
  exact D0u ⟨rfl,rfl⟩
 ·intro ev ec e1 e2
  simp only[go_sem,show ev (.tmp 5)= .agg [.sl 3 (Rw E3 cs),.fm (bsC bs)]from e1,show ev (.tmp 10)= .sl 7 (Rw C1 (k::l))from e2,ec.func]
  refine hS _ cs bs (k::l) b hb _ ?_
  exact D0u ⟨rfl,rfl⟩
 ·intro ev ec e1
  simp only[go_sem,show ev (.tmp 11)= .bool b from e1]
  exact D0u ⟨rfl,rfl⟩
 ·exact D0r hle h
def B9R(n:Nat):Prop:=∀(Q:D→Heap→Prop) (cs:List LinV) (bs:BS) (ks l:List Fm) (b:Bool),A49 (V4 n) cs bs ks l=some b→∀H:Heap,Q (.bool b) H→ACalls Tryz.prog 154 [.agg [.sl 3 (Rw E3 cs),.fm (bsC bs)],.sl 7 (Rw C1 ks),.sl 7 (Rw C1 l)] H Q
theorem B61(n:Nat)(hS:A6E n):B9R n:=by
 intro Q cs bs ks l b hb H h
 unfold A49 at hb
 split at hb
 rotate_left
 ·cases hb
 rename_i hlen
 obtain⟨hl1,hkl⟩:=hlen
 refine B2 [(3,.par)] B3 Tryz.func154 rfl (by kernel_rfl) (C9Q (by kernel_rfl)) (by kernel_rfl) ?_
 simp only[go_sem,Tryz.results154]
 intro b3 g3 b5 g5
 simp only[A4]at g5
 have n35:b3≠b5:=fun e=>g5.1 e.symm
 have c3:((H.set b3 (.box [.sl 3 (Rw E3 cs),.fm (bsC bs)])).set b5 (.box [.sl 7 (Rw C1 l)])) b3=some (.box [.sl 3 (Rw E3 cs),.fm (bsC bs)]):=by rw[A8 _ n35,A5]
 have c5:((H.set b3 (.box [.sl 3 (Rw E3 cs),.fm (bsC bs)])).set b5 (.box [.sl 7 (Rw C1 l)])) b5=some (.box [.sl 7 (Rw C1 l)]):=A5 _ _
 have hle:H.Le ((H.set b3 (.box [.sl 3 (Rw E3 cs),.fm (bsC bs)])).set b5 (.box [.sl 7 (Rw C1 l)])):=(A2 g3).trans (A2 (by simp only[A4];exact g5))
 generalize (H.set b3 (.box [.sl 3 (Rw E3 cs),.fm (bsC bs)])).set b5 (.box [.sl 7 (Rw C1 l)])=Bs at c3 c5 hle⊢
 by_cases hr:l≠[]∧B0T (l.headD S8)=0
 ·rw[if_pos hr]at hb
  obtain⟨hne,hr0⟩:=hr
  obtain⟨f,rfl⟩: ∃f,l= [f]:=by
   match l,hne,hl1 with
   | [f],_,_=>exact⟨f,rfl⟩
  have hro:f.op≠6:=fun e=>by rw[show ([f]:List Fm).headD S8=f from rfl]at hr0;unfold B0T at hr0;rw[if_pos e]at hr0;cases hr0
  have rc:=fun(Q:D→Heap→Prop) (H:Heap)=>B1V (Q:=Q) f H
  simp only[if_neg hro]at rc
  have r0:(Rw C1 [f]).getD 0 []=C1 f:=rfl
  repeat' (first|with_reducible apply C9P|simp only[go_sem,c3,c5,r0]|simp(disch:=omega) only[A3]|(intro hx_;try simp only[A4]at hx_)|with_reducible refine A3W [f] (by simp) _ _ ?_|with_reducible refine rc _ _ ?_|omega)
  all_goals first|decide|omega|skip
  have m3:b3∈[b3,b5]:=by simp
  have m5:b5∈[b3,b5]:=by simp
  refine B2F (fun i=>if i=2 then .mk' (fun c=>.vec c 7 0 1) (.vec 7 (Rw C1 [f]))else .c (.bool b)) [b3,b5] ?_
  have hrw:(Av.Obj.vec 7 (Rw C1 [f])).rw=true:=rfl
  have cl: ∀(H':Heap) (Q:D→Heap→Prop),(∀c,H' c=none→Q (.vec c 7 0 1) (H'.set c (.vec 7 (Rw C1 [f]))))→ACalls Tryz.prog 194 [.sl 7 (Rw C1 [f])] H' Q:=fun H' Q hq=>B59 [f] (by simp) (by simp) H' hq
  repeat' (first|with_reducible apply C9P|simp only[go_sem,c3,c5,m3,m5]|simp(disch:=omega) only[A3]|(intro hx_;try simp only[A4]at hx_)|omega)
  refine pcm (f:=fun c=>.vec c 7 0 1) hrw (fun H' Q hro hq=>cl H' Q hq) fun c hc=>?_
  have hc3:b3≠c:=fun e=>by rw[←e,c3]at hc;cases hc
  have hc5:b5≠c:=fun e=>by rw[←e,c5]at hc;cases hc
  repeat' (first|with_reducible apply C9P|simp only[go_sem,c3,c5,m3,m5]|simp(disch:=omega) only[A3]|(intro hx_;try simp only[A4]at hx_)|omega)
  rename_i x
  have hx:=hx_
  clear hx_
  obtain⟨W,hW⟩: ∃W:List D,W= [.int .i64 6,.int .i64 0,.nilsl,.int .i64 0,.bool false,.str ⟨#[]⟩,.sl 7 (Rw C1 ks)]:=⟨_,rfl⟩
  rw[←hW]
  have hxc:c≠x:=fun e=>hx.1 e.symm
  have hx3:b3≠x:=fun e=>by rw[←e]at hx;have:=hx.2;rw[c3]at this;cases this
  have hx5:b5≠x:=fun e=>by rw[←e]at hx;have:=hx.2;rw[c5]at this;cases this
  refine A97 28 96 (n:=1) (m:=1) (bx:=x) (ob:=some c) (es:=Rw C1 [f]) (xs:=[W]) (by simp only[go_sem]) (by decide) (by simp only[go_sem]) (by simp only[go_sem]) (by simp only[go_sem]) (by simp only[go_sem]) (A5 _ _) rfl (by simp) (?_:(Heap.set _ x _) c=_) rfl ?_ ?_ ?_ (by simp) (by simp) fun b' hb'=>?_
  ·rw[A8 _ hxc];exact A5 _ _
  ·simp only[C9r,C9s,or_false,not_or];exact⟨hx3.symm,hx5.symm⟩
  ·intro e;injection e with e;exact hxc e
  ·intro c' e;injection e with e;subst e
   simp only[C9r,C9s,or_false,not_or];exact⟨hc3.symm,hc5.symm⟩
  have hH: ∀V X:Av.Obj,K5 (((Bs.set c V).set x X).del x) (some c)=Bs:=fun V X=>by rw[E7 (A4.2 hx)];exact E7 hc
  rw[hH]at hb'⊢
  have nb3:b'∉[b3,b5]:=by
   simp only[C9r,C9s,or_false,not_or]
   exact⟨fun e=>(by rw[e,c3]at hb';cases hb'),fun e=>(by rw[e,c5]at hb';cases hb')⟩
  have hrb:(Av.Obj.vec 7 (Rw C1 [f]++[W])).rw=true:=rfl
  have e1:(1:Nat)+ [W].length=2:=rfl
  repeat' (first|with_reducible apply C9P|simp only[go_sem,e1]|simp(disch:=omega) only[A3]|(intro hx_;try simp only[A4]at hx_)|omega)
  refine pc1 (o:=.vec 7 (Rw C1 [f]++[W])) (A5 _ _) hrb nb3 (fun H' Q hro hbb hq=>?_) ?_
  ·refine A0Q hbb rfl ?_
   refine Z8 (args':=[.agg [.sl 3 (Rw E3 cs),.fm (bsC bs)],.sl 7 (Rw C1 ([f]++[.mk 6 0 nilL D2 ks]))]) rfl (fun i d d' h1 h2=>?_) (hS _ cs bs _ b hb _ hq)
   match i with
   |0=>cases h1;cases h2;exact .same _
   |1=>cases h1;cases h2;rw[hW];exact B9Q f _ _ (C56 ks)
   |i+2=>cases h1
  ·rw[E7 hb']
   repeat' (first|with_reducible apply C9P|simp only[go_sem]|simp(disch:=omega) only[A3]|(intro hx_;try simp only[A4]at hx_)|omega)
   exact D0r hle h
 ·rw[if_neg hr]at hb
  have hlc:l= []∨∃f,l= [f]∧f.op=6:=by
   match l,hl1,hr with
   | [],_,_=>exact .inl rfl
   | [f],_,hr=>
    refine .inr ⟨f,rfl,?_⟩
    by_cases e:f.op=6
    ·exact e
    ·exact absurd ⟨by simp,by show B0T f=0;unfold B0T;rw[if_neg e]⟩ hr
  have hll:l.length≤1000:=by omega
  obtain⟨x,hx⟩: ∃x,B1n cs=some x:=by
   cases e:B1n cs with
   |none=>rw[e]at hb;cases hb
   |some x=>exact⟨x,rfl⟩
  have tc:=C0x cs x hx
  rw[hx]at hb
  cases x with
  |false=>
   injection hb with hb
   subst hb
   rcases hlc with rfl|⟨f,rfl,ho⟩
   ·have sc:=fun(g:D) (Q:D→Heap→Prop) (H:Heap)=>A3W (Q:=Q) [] (by simp) g H
    simp only[A0X]at sc
    repeat' (first|with_reducible apply C9P|simp only[go_sem,c3,c5,A0X]|simp(disch:=omega) only[A3]|(intro hx_;try simp only[A4]at hx_)|with_reducible refine sc _ _ _ ?_|with_reducible refine tc _ _ ?_|omega)
    all_goals first|exact D0r hle h|skip
   ·have rc:=fun(Q:D→Heap→Prop) (H:Heap)=>B1V (Q:=Q) f H
    simp only[if_pos ho]at rc
    have r0:(Rw C1 [f]).getD 0 []=C1 f:=rfl
    repeat' (first|with_reducible apply C9P|simp only[go_sem,c3,c5,r0]|simp(disch:=omega) only[A3]|(intro hx_;try simp only[A4]at hx_)|with_reducible refine A3W [f] (by simp) _ _ ?_|with_reducible refine rc _ _ ?_|with_reducible refine tc _ _ ?_|omega)
    all_goals first|exact D0r hle h|decide|omega|skip
  |true=>
   obtain⟨a1,a2⟩:=B4G _ _ _ hb
   have cc:=fun(Q:D→Heap→Prop)=>A8T (Q:=Q) (fun k=>(V4 n cs bs (k::l)).getD false) ks (by omega) 195 [] [.box b3 0,.box b5 0] Bs (fun k hk _ Q hq=>B4H n hS cs bs ks[k] l _ (a1 _ (C9d hk)) hll b3 b5 Bs c3 c5 hq)
   rw[←a2]at cc
   rcases hlc with rfl|⟨f,rfl,ho⟩
   ·have sc:=fun(g:D) (Q:D→Heap→Prop) (H:Heap)=>A3W (Q:=Q) [] (by simp) g H
    simp only[A0X]at sc
    repeat' (first|with_reducible apply C9P|simp only[go_sem,c3,c5,A0X]|simp(disch:=omega) only[A3]|(intro hx_;try simp only[A4]at hx_)|with_reducible refine sc _ _ _ ?_|with_reducible refine tc _ _ ?_|with_reducible refine cc _ ?_|omega)
    all_goals first|exact D0r hle h|skip
   ·have rc:=fun(Q:D→Heap→Prop) (H:Heap)=>B1V (Q:=Q) f H
    simp only[if_pos ho]at rc
    have r0:(Rw C1 [f]).getD 0 []=C1 f:=rfl
    repeat' (first|with_reducible apply C9P|simp only[go_sem,c3,c5,r0]|simp(disch:=omega) only[A3]|(intro hx_;try simp only[A4]at hx_)|with_reducible refine A3W [f] (by simp) _ _ ?_|with_reducible refine rc _ _ ?_|with_reducible refine tc _ _ ?_|with_reducible refine cc _ ?_|omega)
    all_goals first|exact D0r hle h|decide|omega|skip
theorem B62(f:Fm)(l:List Fm):((Rw C1 (f::l)).take (l.length+1)).tail=Rw C1 l:=by rw[C9e (by simp[Rw])];rfl
theorem B63(f:Fm)(l:List Fm):((Rw C1 (f::l)).take (l.length+1)).drop 1=Rw C1 l:=by rw[C9e (by simp[Rw])];rfl
theorem B9S(bs:BS):mG bs none= .fm (bsC bs):=rfl
theorem B9T(bs:BS)(m:Nat):mG bs (some m)= .map m:=rfl
set_option maxHeartbeats 4000000 in
theorem B9U(n:Nat)(ih: ∀m,m<n→A6E m):A6E n:=by
 intro Q cs0 bs0 l0 b hb H h
 refine B2 [(15,.wk)] B3 Tryz.func124 rfl (by kernel_rfl) (C9Q (by kernel_rfl)) (by kernel_rfl) ?_
 simp only[go_sem,Tryz.results124]
 intro b2 g2
 have e2:(H.set b2 (.box [.sl 3 (Rw E3 cs0),.fm (bsC bs0)])) b2=some (.box [.sl 3 (Rw E3 cs0),.fm (bsC bs0)]):=A5 _ _
 have hle:H.Le (H.set b2 (.box [.sl 3 (Rw E3 cs0),.fm (bsC bs0)])):=A2 g2
 generalize H.set b2 (.box [.sl 3 (Rw E3 cs0),.fm (bsC bs0)])=Bs at e2 hle⊢
 repeat' (first|with_reducible apply C9P|simp only[go_sem]|simp(disch:=omega) only[A3]|simp(disch:=first|omega|grind) only[A6,C8]|(intro hx_;try simp only[A4]at hx_)|omega)
 refine D1 [2] (fun(p:Nat×List LinV×BS×List Fm×Option Nat×Heap)=>[(1,.sl 7 (Rw C1 p.2.2.2.1))]) (fun(p:Nat×List LinV×BS×List Fm×Option Nat×Heap)=>p.2.2.2.2.2) (fun(p:Nat×List LinV×BS×List Fm×Option Nat×Heap)=>V4 p.1 p.2.1 p.2.2.1 p.2.2.2.1=some b∧p.1≤n∧p.2.2.2.2.2 b2=some (.box [.sl 3 (Rw E3 p.2.1),mG p.2.2.1 p.2.2.2.2.1])∧mAt p.2.2.2.2.2 p.2.2.1 p.2.2.2.2.1∧H.Le p.2.2.2.2.2∧(∀m,p.2.2.2.2.1=some m→H m=none)) (fun(p:Nat×List LinV×BS×List Fm×Option Nat×Heap)=>p.1) ((n,cs0,bs0,l0,none,Bs)) (⟨hb,C9j _,e2,trivial,hle,fun _ e=>(by cases e)⟩) (by(try simp only[go_sem])<;>(try simp(disch:=omega) [A0])<;>(try omega)) (by first|exact D0q _|exact A2 (by assumption)|exact B4 (by assumption)|simp only[Heap.Le,Heap.set,Heap.del]at* <;>grind) ?_
 rintro Ec rfl ⟨k,cs,bs,l,om,Hp⟩ ⟨hs,hk,q2,qm,hp,hmn⟩
 simp only at hs hk q2 qm hp hmn
 have hone:(mG bs om).one=true:=by cases om<;>rfl
 have hcel:(mG bs om).cells= [mG bs om]:=by cases om<;>rfl
 have hon2:(match mG bs om with|D.undef=>false|D.agg cs=>false|D.tuple cs=>false|x=>true)=true:=by cases om<;>rfl
 cases k with
 |zero=>cases hs
 |succ k=>
  cases l with
  |nil=>
   have hs:B1n cs=some b:=hs
   have tc:=C0x cs b hs
   have r0:(Rw C1 [])= []:=rfl
   repeat' (first|with_reducible apply C9P|simp only[go_sem,q2,r0]|simp(disch:=omega) only[A3]|simp(disch:=first|omega|grind) only[A6,C8]|(intro hx_;try simp only[A4]at hx_)|with_reducible refine tc _ _ ?_|omega)
   all_goals first|exact D0r hp h|skip
  |cons f l=>
   have hs:(if 1000<cs.length∨1000<l.length∨1000<f.ks.length then none else if f.op=1 then(if f.n=0 then some false else V4 k cs bs l)else if f.op=2 then V4 k (cs++[f.l]) bs l else if f.op=3 then(if A8S bs f.s=some false then some false else V4 k cs (A1R bs f.s true) l)else if f.op=4 then(if f.ks= []then none else if A8S bs (f.ks.headD S8).s=some true then some false else V4 k cs (A1R bs (f.ks.headD S8).s false) l)else if f.op=5 then V4 k cs bs (f.ks++l)else if f.op=6 then A49 (V4 k) cs bs f.ks l else none)=some b:=hs
   split at hs
   ·cases hs
   rename_i hbig
   have hl0:(0:Int)<(f::l).length:=by simp only[C9U];omega
   have hlen:(f::l).length=l.length+1:=rfl
   have r0:(Rw C1 (f::l)).getD 0 []=C1 f:=rfl
   have d1:=B62 f l
   have d2:=B63 f l
   by_cases o1:f.op=1
   ·rw[if_pos o1]at hs
    by_cases n0:f.n=0
    ·rw[if_pos n0]at hs
     injection hs with hs
     subst hs
     repeat' (first|with_reducible apply C9P|simp only[go_sem,q2,r0,d1,d2,o1,n0,hl0]|simp(disch:=omega) only[A3]|simp(disch:=first|omega|grind) only[A6,C8]|(intro hx_;try simp only[A4]at hx_)|omega)
     all_goals first|exact D0r (hp.trans (A2 (by assumption))) h|skip
    ·rw[if_neg n0]at hs
     repeat' (first|with_reducible apply C9P|simp only[go_sem,q2,r0,d1,d2,o1,n0,hl0]|simp(disch:=omega) only[A3]|simp(disch:=first|omega|grind) only[A6,C8]|(intro hx_;try simp only[A4]at hx_)|omega)
     exact C3 (k,cs,bs,l,om,Hp) ⟨hs,by simp only[];omega,q2,qm,hp,hmn⟩ (by simp only[];omega) (by(try simp only[go_sem])<;>(try simp(disch:=omega) [A0])<;>(try omega)) (A2 (by assumption))
   ·rw[if_neg o1]at hs
    by_cases o2:f.op=2
    ·rw[if_pos o2]at hs
     have o21: ¬(2:Int)=1:=by decide
     repeat' (first|with_reducible apply C9P|simp only[go_sem,q2,r0,d1,d2,o21,o2,hl0,hone,hcel]|simp(disch:=omega) only[A3]|simp(disch:=first|omega|grind) only[A6,C8]|(intro hx_;try simp only[A4]at hx_)|omega)
     rename_i b5 h5 x
     have hx:=hx_
     clear hx_
     refine A8o (es:=[E3 f.l]) (by first|exact hx|exact A4.2 hx) rfl ?_
     refine B6A cs [f.l] (mG bs om) (C57 _ _) (by simp only[C9U,C9W];omega) _ ?_
     repeat' (first|with_reducible apply C9P|simp only[go_sem,q2,d1,hone,hcel,hon2]|simp(disch:=omega) only[A3]|simp(disch:=first|omega|grind) only[A6,C8]|(intro hx_;try simp only[A4]at hx_)|omega)
     refine C3 (k,cs++[f.l],bs,l,om,Hp.set b2 (.box [.sl 3 (Rw E3 (cs++[f.l])),mG bs om])) ⟨hs,by simp only[];omega,A5 _ _,?_,G3 hp g2,hmn⟩ (by simp only[];omega) (by(try simp only[go_sem])<;>(try simp(disch:=omega) [A0])<;>(try omega)) (by simp only[Go.Av.Heap.Le,Go.Av.Heap.set,Go.Av.Heap.del]at* <;>grind)
     cases om with
     |none=>trivial
     |some m=>
      have qm:Hp m=some (.map (bsC bs)):=qm
      have:m≠b2:=fun e=>by rw[e,q2]at qm;cases qm
      show (Heap.set _ b2 _) m=_
      rw[A8 _ this];exact qm
    ·rw[if_neg o2]at hs
     by_cases o34:f.op=3∨f.op=4
     ·have hnw: ∃nm wv,(if A8S bs nm=some (!wv)then some false else V4 k cs (A1R bs nm wv) l)=some b∧((f.op=3∧nm=f.s∧wv=true)∨(f.op=4∧∃k0 r,f.ks=k0::r∧nm=k0.s∧wv=false)):=by
       by_cases o3:f.op=3
       ·rw[if_pos o3]at hs
        exact⟨f.s,true,hs,.inl ⟨o3,rfl,rfl⟩⟩
       ·rw[if_neg o3,if_pos (by omega)]at hs
        split at hs
        ·cases hs
        ·rename_i hne
         cases hk0:f.ks with
         |nil=>exact absurd hk0 hne
         |cons k0 r=>
          rw[hk0]at hs
          exact⟨k0.s,false,hs,.inr ⟨by omega,k0,r,rfl,rfl,rfl⟩⟩
      obtain⟨nm,wv,hs,hw⟩:=hnw
      apply A2C (C:=True)
      ·intro hJ
       rcases hw with⟨o3,hn,hwv⟩|⟨o4,k0,r,hks,hn,hwv⟩
       ·have o31: ¬(3:Int)=1:=by decide
        have o32: ¬(3:Int)=2:=by decide
        have o34: ¬(3:Int)=4:=by decide
        repeat' (first|with_reducible apply C9P|simp only[go_sem,q2,r0,d1,d2,o31,o32,o34,o3,hl0]|simp(disch:=omega) only[A3]|simp(disch:=first|omega|grind) only[A6,C8]|(intro hx_;try simp only[A4]at hx_)|omega)
        exact w9 [(1,.sl 7 (Rw C1 l)),(2,.box b2 0),(6,.str nm),(7,.bool wv)] Hp (by(try simp only[go_sem,hn,hwv])<;>(try simp(disch:=omega) [A0])<;>(try omega)) (A2 (by assumption)) (hJ trivial)
       ·have o31: ¬(4:Int)=1:=by decide
        have o32: ¬(4:Int)=2:=by decide
        have o34: ¬(4:Int)=3:=by decide
        have rk:(Rw C1 (k0::r)).getD 0 []=C1 k0:=rfl
        repeat' (first|with_reducible apply C9P|simp only[go_sem,q2,r0,d1,d2,o31,o32,o34,o4,hl0,hks,rk]|simp(disch:=omega) only[A3]|simp(disch:=first|omega|grind) only[A6,C8]|(intro hx_;try simp only[A4]at hx_)|omega)
        all_goals first|decide|omega|skip
        exact w9 [(1,.sl 7 (Rw C1 l)),(2,.box b2 0),(6,.str nm),(7,.bool wv)] Hp (by(try simp only[go_sem,hn,hwv])<;>(try simp(disch:=omega) [A0])<;>(try omega)) (A2 (by assumption)) (hJ trivial)
      intro _
      rcases find_bsC nm bs 0 with⟨h1,h2,h3⟩|⟨j,bv,_,h1,h2,h4⟩
      ·rw[h1,if_neg (by simp)]at hs
       cases om with
       |none=>
        repeat' (first|with_reducible apply C9P|simp only[go_sem,q2,h2,B9S]|simp(disch:=omega) only[A3]|simp(disch:=first|omega|grind) only[A6,C8]|(intro hx_;try simp only[A4]at hx_)|omega)
        refine A1N (bsC bs) _ fun bn hbn=>?_
        have c2:(Hp.set bn (.map (bsC bs))) b2=some (.box [.sl 3 (Rw E3 cs),.fm (bsC bs)]):=by rw[A8 _ (fun e=>by rw[←e,q2]at hbn;cases hbn)];exact q2
        have hb2:bn≠b2:=fun e=>by rw[e,q2]at hbn;cases hbn
        have cn: ∀X:Av.Obj,((Hp.set bn (.map (bsC bs))).set b2 X) bn=some (.map (bsC bs)):=fun X=>by rw[A8 _ hb2];exact A5 _ _
        have hle2:H.Le (Hp.set bn (.map (bsC bs))):=hp.trans (A2 hbn)
        have hHn:H bn=none:=hp.none hbn
        generalize Hp.set bn (.map (bsC bs))=Cs at c2 cn hle2⊢
        repeat' (first|with_reducible apply C9P|simp only[go_sem,c2,cn,A3Z]|simp(disch:=omega) only[A3]|simp(disch:=first|omega|grind) only[A6,C8]|(intro hx_;try simp only[A4]at hx_)|omega)
        refine C3 (k,cs,A1R bs nm wv,l,some bn,(Cs.set b2 (.box [.sl 3 (Rw E3 cs),.map bn])).set bn (.map (bsC (A1R bs nm wv)))) ⟨hs,by simp only[];omega,?_,A5 _ _,?_,fun m e=>(by cases e;exact hHn)⟩ (by simp only[];omega) (by(try simp only[go_sem])<;>(try simp(disch:=omega) [A0])<;>(try omega)) (D0q _)
        ·show (Heap.set _ bn _) b2=_
         rw[A8 _ hb2.symm];exact A5 _ _
        ·exact G3 (G3 hle2 g2) hHn
       |some m=>
        have qm:Hp m=some (.map (bsC bs)):=qm
        repeat' (first|with_reducible apply C9P|simp only[go_sem,q2,h2,qm,B9T]|simp(disch:=omega) only[A3]|simp(disch:=first|omega|grind) only[A6,C8]|(intro hx_;try simp only[A4]at hx_)|omega)
        refine A2Y m (bsC bs) _ qm fun bn hbn=>?_
        have c2:(Hp.set bn (.map (bsC bs))) b2=some (.box [.sl 3 (Rw E3 cs),.map m]):=by rw[A8 _ (fun e=>by rw[←e,q2]at hbn;cases hbn)];exact q2
        have hb2:bn≠b2:=fun e=>by rw[e,q2]at hbn;cases hbn
        have cn: ∀X:Av.Obj,((Hp.set bn (.map (bsC bs))).set b2 X) bn=some (.map (bsC bs)):=fun X=>by rw[A8 _ hb2];exact A5 _ _
        have hle2:H.Le (Hp.set bn (.map (bsC bs))):=hp.trans (A2 hbn)
        have hHn:H bn=none:=hp.none hbn
        generalize Hp.set bn (.map (bsC bs))=Cs at c2 cn hle2⊢
        repeat' (first|with_reducible apply C9P|simp only[go_sem,c2,cn,A3Z]|simp(disch:=omega) only[A3]|simp(disch:=first|omega|grind) only[A6,C8]|(intro hx_;try simp only[A4]at hx_)|omega)
        refine C3 (k,cs,A1R bs nm wv,l,some bn,(Cs.set b2 (.box [.sl 3 (Rw E3 cs),.map bn])).set bn (.map (bsC (A1R bs nm wv)))) ⟨hs,by simp only[];omega,?_,A5 _ _,?_,fun m e=>(by cases e;exact hHn)⟩ (by simp only[];omega) (by(try simp only[go_sem])<;>(try simp(disch:=omega) [A0])<;>(try omega)) (D0q _)
        ·show (Heap.set _ bn _) b2=_
         rw[A8 _ hb2.symm];exact A5 _ _
        ·exact G3 (G3 hle2 g2) hHn
      ·rw[h1]at hs
       by_cases hbw:bv= !wv
       ·rw[if_pos (by rw[hbw])]at hs
        injection hs with hs
        subst hs
        have hbx: ¬bv=wv:=by rw[hbw];cases wv<;>simp
        cases om with
        |none=>
         repeat' (first|with_reducible apply C9P|simp only[go_sem,q2,h2,B9S,hbx]|simp(disch:=omega) only[A3]|simp(disch:=first|omega|grind) only[A6,C8]|(intro hx_;try simp only[A4]at hx_)|omega)
         all_goals first|exact D0r hp h|skip
        |some m=>
         have qm:Hp m=some (.map (bsC bs)):=qm
         repeat' (first|with_reducible apply C9P|simp only[go_sem,q2,h2,qm,B9T,hbx]|simp(disch:=omega) only[A3]|simp(disch:=first|omega|grind) only[A6,C8]|(intro hx_;try simp only[A4]at hx_)|omega)
         all_goals first|exact D0r hp h|skip
       ·rw[if_neg (fun e=>hbw (by injection e))]at hs
        have hbx:bv=wv:=by cases bv<;>cases wv<;>simp at hbw⊢
        cases om with
        |none=>
         repeat' (first|with_reducible apply C9P|simp only[go_sem,q2,h2,B9S,hbx]|simp(disch:=omega) only[A3]|simp(disch:=first|omega|grind) only[A6,C8]|(intro hx_;try simp only[A4]at hx_)|omega)
         refine A1N (bsC bs) _ fun bn hbn=>?_
         have c2:(Hp.set bn (.map (bsC bs))) b2=some (.box [.sl 3 (Rw E3 cs),.fm (bsC bs)]):=by rw[A8 _ (fun e=>by rw[←e,q2]at hbn;cases hbn)];exact q2
         have hb2:bn≠b2:=fun e=>by rw[e,q2]at hbn;cases hbn
         have cn: ∀X:Av.Obj,((Hp.set bn (.map (bsC bs))).set b2 X) bn=some (.map (bsC bs)):=fun X=>by rw[A8 _ hb2];exact A5 _ _
         have hle2:H.Le (Hp.set bn (.map (bsC bs))):=hp.trans (A2 hbn)
         have hHn:H bn=none:=hp.none hbn
         generalize Hp.set bn (.map (bsC bs))=Cs at c2 cn hle2⊢
         repeat' (first|with_reducible apply C9P|simp only[go_sem,c2,cn,A3Z]|simp(disch:=omega) only[A3]|simp(disch:=first|omega|grind) only[A6,C8]|(intro hx_;try simp only[A4]at hx_)|omega)
         refine C3 (k,cs,A1R bs nm wv,l,some bn,(Cs.set b2 (.box [.sl 3 (Rw E3 cs),.map bn])).set bn (.map (bsC (A1R bs nm wv)))) ⟨hs,by simp only[];omega,?_,A5 _ _,?_,fun m e=>(by cases e;exact hHn)⟩ (by simp only[];omega) (by(try simp only[go_sem])<;>(try simp(disch:=omega) [A0])<;>(try omega)) (D0q _)
         ·show (Heap.set _ bn _) b2=_
          rw[A8 _ hb2.symm];exact A5 _ _
         ·exact G3 (G3 hle2 g2) hHn
        |some m=>
         have qm:Hp m=some (.map (bsC bs)):=qm
         repeat' (first|with_reducible apply C9P|simp only[go_sem,q2,h2,qm,B9T,hbx]|simp(disch:=omega) only[A3]|simp(disch:=first|omega|grind) only[A6,C8]|(intro hx_;try simp only[A4]at hx_)|omega)
         refine A2Y m (bsC bs) _ qm fun bn hbn=>?_
         have c2:(Hp.set bn (.map (bsC bs))) b2=some (.box [.sl 3 (Rw E3 cs),.map m]):=by rw[A8 _ (fun e=>by rw[←e,q2]at hbn;cases hbn)];exact q2
         have hb2:bn≠b2:=fun e=>by rw[e,q2]at hbn;cases hbn
         have cn: ∀X:Av.Obj,((Hp.set bn (.map (bsC bs))).set b2 X) bn=some (.map (bsC bs)):=fun X=>by rw[A8 _ hb2];exact A5 _ _
         have hle2:H.Le (Hp.set bn (.map (bsC bs))):=hp.trans (A2 hbn)
         have hHn:H bn=none:=hp.none hbn
         generalize Hp.set bn (.map (bsC bs))=Cs at c2 cn hle2⊢
         repeat' (first|with_reducible apply C9P|simp only[go_sem,c2,cn,A3Z]|simp(disch:=omega) only[A3]|simp(disch:=first|omega|grind) only[A6,C8]|(intro hx_;try simp only[A4]at hx_)|omega)
         refine C3 (k,cs,A1R bs nm wv,l,some bn,(Cs.set b2 (.box [.sl 3 (Rw E3 cs),.map bn])).set bn (.map (bsC (A1R bs nm wv)))) ⟨hs,by simp only[];omega,?_,A5 _ _,?_,fun m e=>(by cases e;exact hHn)⟩ (by simp only[];omega) (by(try simp only[go_sem])<;>(try simp(disch:=omega) [A0])<;>(try omega)) (D0q _)
         ·show (Heap.set _ bn _) b2=_
          rw[A8 _ hb2.symm];exact A5 _ _
         ·exact G3 (G3 hle2 g2) hHn
     ·rw[if_neg (by omega),if_neg (by omega)]at hs
      by_cases o5:f.op=5
      ·rw[if_pos o5]at hs
       have o51: ¬(5:Int)=1:=by decide
       have o52: ¬(5:Int)=2:=by decide
       have o53: ¬(5:Int)=3:=by decide
       have o54: ¬(5:Int)=4:=by decide
       repeat' (first|with_reducible apply C9P|simp only[go_sem,q2,r0,d1,d2,o51,o52,o53,o54,o5,hl0]|simp(disch:=omega) only[A3]|simp(disch:=first|omega|grind) only[A6,C8]|(intro hx_;try simp only[A4]at hx_)|omega)
       rename_i b5 h5 x
       have hx:=hx_
       clear hx_
       refine Q6 (es:=[[.sl 7 (Rw C1 f.ks)],[.sl 7 (Rw C1 l)]]) (by first|exact hx|exact A4.2 hx) rfl ?_
       refine A7E f.ks l (by omega) _ ?_
       repeat' (first|with_reducible apply C9P|simp only[go_sem]|simp(disch:=omega) only[A3]|simp(disch:=first|omega|grind) only[A6,C8]|(intro hx_;try simp only[A4]at hx_)|omega)
       exact C3 (k,cs,bs,f.ks++l,om,Hp) ⟨hs,by simp only[];omega,q2,qm,hp,hmn⟩ (by simp only[];omega) (by(try simp only[go_sem])<;>(try simp(disch:=omega) [A0])<;>(try omega)) (A2 h5)
      ·rw[if_neg o5]at hs
       by_cases o6:f.op=6
       ·rw[if_pos o6]at hs
        have o61: ¬(6:Int)=1:=by decide
        have o62: ¬(6:Int)=2:=by decide
        have o63: ¬(6:Int)=3:=by decide
        have o64: ¬(6:Int)=4:=by decide
        have o65: ¬(6:Int)=5:=by decide
        have cc:=fun(Q:D→Heap→Prop) (H:Heap)=>B61 k (ih k (by omega)) Q cs bs f.ks l b hs H
        cases om with
        |none=>
         repeat' (first|with_reducible apply C9P|simp only[go_sem,q2,r0,d1,d2,o61,o62,o63,o64,o65,o6,hl0,B9S]|simp(disch:=omega) only[A3]|simp(disch:=first|omega|grind) only[A6,C8]|(intro hx_;try simp only[A4]at hx_)|omega)
         refine cc _ _ ?_
         repeat' (first|with_reducible apply C9P|simp only[go_sem]|simp(disch:=omega) only[A3]|simp(disch:=first|omega|grind) only[A6,C8]|(intro hx_;try simp only[A4]at hx_)|omega)
         exact D0r (hp.trans (A2 (by assumption))) h
        |some m=>
         have qm:Hp m=some (.map (bsC bs)):=qm
         repeat' (first|with_reducible apply C9P|simp only[go_sem,q2,r0,d1,d2,o61,o62,o63,o64,o65,o6,hl0,B9T]|simp(disch:=omega) only[A3]|simp(disch:=first|omega|grind) only[A6,C8]|(intro hx_;try simp only[A4]at hx_)|omega)
         rename_i b5
         have h5:=hx_
         clear hx_
         have nm5:m≠b5:=fun e=>by rw[←e,qm]at h5;cases h5
         have n25:b2≠m:=fun e=>by rw[←e,q2]at qm;cases qm
         refine A6R (by rw[A8 _ nm5];exact qm) ?_
         refine cc _ _ ?_
         repeat' (first|with_reducible apply C9P|simp only[go_sem]|simp(disch:=omega) only[A3]|simp(disch:=first|omega|grind) only[A6,C8]|(intro hx_;try simp only[A4]at hx_)|omega)
         refine D0r (fun q o hq=>?_) h
         have q5:q≠m:=fun e=>by rw[e,hmn m rfl]at hq;cases hq
         rw[C8 q5]
         exact hp.trans (A2 h5) _ _ hq
       ·rw[if_neg o6]at hs
        cases hs
theorem B9V: ∀n,A6E n:=fun n=>by
 induction n using Nat.strongRecOn with
 |_ n ih=>exact B9U n ih
theorem C27(m x:D):NilR (.agg [.nilsl,m]) (.agg [.sl 3 [],m]):=by
 refine .agg _ _ rfl fun i d d' h1 h2=>?_
 match i with
 |0=>cases h1;cases h2;exact .nil 3
 |1=>cases h1;cases h2;exact .same _
 |i+2=>cases h1
theorem A3b{Q}(f:Fm)(hf:G7 D5 f=true)(fa:FmFit f)(more:List LinV)(hm:more.length≤1000)(b:Bool)(hs:V5 f more=some b)(H:Heap)(h:Q (.bool b) H):ACalls Tryz.prog 73 [.agg (C1 f),.sl 3 (Rw E3 more)] H Q:=by
 refine A2t (ops:=svOps) B3 Tryz.func73 rfl (by kernel_rfl) (C9Q (by kernel_rfl)) 8 4 rfl (by kernel_rfl) (by kernel_rfl) (by kernel_rfl) (by kernel_rfl) (by kernel_rfl) ?_
 simp only[go_sem]
 intro b2 h2
 have c2:(H.set b2 (.box (C1 f))) b2=some (.box (C1 f)):=A5 _ _
 have hle:H.Le (H.set b2 (.box (C1 f))):=A2 h2
 generalize H.set b2 (.box (C1 f))=Bs at c2 hle⊢
 unfold V5 at hs
 refine⟨fun i=>if i=0 then .fm []else if i=1 then .agg [.nilsl,.fm []]else if i=2 then .sl 3 (Rw E3 more)else if i=3 then .agg [.sl 3 (Rw E3 more),.fm []]else if i=4 then .agg (C1 f)else if i=5 then .agg (C1 (normF f false))else if i=6 then .sl 7 (Rw C1 [normF f false])else .bool b,C2g ?_ ?_ ?_ ?_ ?_ ?_ ?_ ?_ ?_,?_⟩
 ·intro ev ec
  simp only[go_sem,]
  intro x hx
  refine A4g (kvs:=[]) (A5 _ _) ?_
  rw[E7 hx]
  refine D0u ?_
  exact⟨rfl,rfl⟩
 ·intro ev ec e1
  simp only[go_sem,show ev (.tmp 5)= .fm []from e1,show (D.fm []).cells= [D.fm []]from rfl]
  exact D0u ⟨rfl,rfl⟩
 ·intro ev ec e1
  simp only[go_sem,show ev (.tmp 1)= .sl 3 (Rw E3 more)from e1]
  exact D0u ⟨rfl,rfl⟩
 ·intro ev ec e1 e2
  simp only[go_sem,show ev (.tmp 6)= .agg [.nilsl,.fm []]from e1,show ev (.tmp 7)= .sl 3 (Rw E3 more)from e2,ec.func]
  refine Z8 (args':=[.agg [.sl 3 (Rw E3 []),.fm []],.sl 3 (Rw E3 more)]) rfl (fun i d d' h1 h2=>?_) (B6A [] more (.fm []) (.inl ⟨_,rfl⟩) (by simp only[C9W];omega) _ (D0u ?_))
  rotate_left
  ·exact⟨rfl,rfl⟩
  match i with
  |0=>cases h1;cases h2;exact C27 _ (.fm [])
  |1=>cases h1;cases h2;exact .same _
  |i+2=>cases h1
 ·intro ev ec e1
  simp only[go_sem,show ev (.tmp 2)= .box b2 0 from e1,c2]
  exact D0u ⟨rfl,rfl⟩
 ·intro ev ec e1
  simp only[go_sem,show ev (.tmp 9)= .agg (C1 f)from e1,ec.func,show ev (.const (.bool false))= .bool false from ec.const _]
  exact A6C f hf fa false _ (D0u ⟨rfl,rfl⟩)
 ·intro ev ec e1
  simp only[go_sem,show ev (.tmp 10)= .agg (C1 (normF f false))from e1]
  exact fun x hx=>A5A hx rfl ⟨rfl,rfl⟩
 ·intro ev ec e1 e2
  simp only[go_sem,show ev (.tmp 8)= .agg [.sl 3 (Rw E3 more),.fm []]from e1,show ev (.tmp 11)= .sl 7 (Rw C1 [normF f false])from e2,ec.func]
  exact B9V 60 _ more [] [normF f false] b hs _ (D0u ⟨rfl,rfl⟩)
 ·intro ev ec e1
  simp only[go_sem,show ev (.tmp 12)= .bool b from e1]
  exact D0u ⟨rfl,rfl⟩
 ·exact D0r hle h
theorem A7Y{Q}(f g:Fm)(hf:G7 D5 f=true)(fa:FmFit f)(hg:G7 D5 g=true)(ga:FmFit g)(b:Bool)(hs:V5 (.mk 5 0 nilL D2 [f,normF g true]) []=some b)(hn:G7 D5 (.mk 5 0 nilL D2 [f,normF g true])=true)(H:Heap)(h:Q (.bool (!b)) H):ACalls Tryz.prog 84 [.agg (C1 f),.agg (C1 g)] H Q:=by
 refine A2t (ops:=foOps) B3 Tryz.func84 rfl (by kernel_rfl) (C9Q (by kernel_rfl)) 7 4 rfl (by kernel_rfl) (by kernel_rfl) (by kernel_rfl) (by kernel_rfl) (by kernel_rfl) ?_
 simp only[go_sem]
 intro b2 h2 b3 h3
 simp only[A4]at h3
 have n23:b2≠b3:=fun e=>h3.1 e.symm
 have c2:((H.set b2 (.box (C1 f))).set b3 (.box (C1 g))) b2=some (.box (C1 f)):=by rw[A8 _ n23,A5]
 have c3:((H.set b2 (.box (C1 f))).set b3 (.box (C1 g))) b3=some (.box (C1 g)):=A5 _ _
 have hle:H.Le ((H.set b2 (.box (C1 f))).set b3 (.box (C1 g))):=(A2 h2).trans (A2 (by simp only[A4];exact h3))
 generalize (H.set b2 (.box (C1 f))).set b3 (.box (C1 g))=Bs at c2 c3 hle⊢
 have fo:FmFit (.mk 5 0 nilL D2 [f,normF g true]):=R9 (by simp[W0]) (by simp) fun k hk=>by
  simp only[C9r,C9s,or_false]at hk
  rcases hk with rfl|rfl
  ·exact fa
  ·exact(A5z g true hg ga).1
 refine⟨fun i=>if i=0 then .agg (C1 f)else if i=1 then .agg (C1 g)else if i=2 then .agg (C1 (normF g true))else if i=3 then .sl 7 (Rw C1 [f,normF g true])else if i=4 then .agg (C1 (.mk 5 0 nilL D2 [f,normF g true]))else if i=5 then .bool b else .bool (!b),C2i ?_ ?_ ?_ ?_ ?_ ?_ ?_ ?_,?_⟩
 ·intro ev ec e1
  simp only[go_sem,show ev (.tmp 2)= .box b2 0 from e1,c2]
  exact D0u ⟨rfl,rfl⟩
 ·intro ev ec e1
  simp only[go_sem,show ev (.tmp 3)= .box b3 0 from e1,c3]
  exact D0u ⟨rfl,rfl⟩
 ·intro ev ec e1
  simp only[go_sem,show ev (.tmp 6)= .agg (C1 g)from e1,ec.func,show ev (.const (.bool true))= .bool true from ec.const _]
  exact A6C g hg ga true _ (D0u ⟨rfl,rfl⟩)
 ·intro ev ec e1 e2
  simp only[go_sem,show ev (.tmp 5)= .agg (C1 f)from e1,show ev (.tmp 7)= .agg (C1 (normF g true))from e2]
  exact fun x hx=>A5A hx rfl ⟨rfl,rfl⟩
 ·intro ev ec e1
  simp only[go_sem,show ev (.tmp 8)= .sl 7 (Rw C1 [f,normF g true])from e1,show ev (.const (.int .i64 5))= .int .i64 5 from ec.const _]
  refine D9 (B1U 5 0 0 false D2 _) (D0u ?_)
  exact⟨rfl,rfl⟩
 ·intro ev ec e1
  simp only[go_sem,show ev (.tmp 9)= .agg (C1 (.mk 5 0 nilL D2 [f,normF g true]))from e1,ec.func,show ev (.const (.slice none 0 0))= .nilsl from ec.const _]
  refine A0P 3 ?_
  exact A3b _ hn fo [] (by simp) b hs _ (D0u ⟨rfl,rfl⟩)
 ·intro ev ec e1
  simp only[go_sem,show ev (.tmp 10)= .bool b from e1]
  exact D0u ⟨rfl,rfl⟩
 ·intro ev ec e1
  simp only[go_sem,show ev (.tmp 11)= .bool (!b)from e1]
  exact D0u ⟨rfl,rfl⟩
 ·exact D0r hle h
theorem B9W{Q}(b:Nat)(K0 ms:List ByteArray)(nd:K0.Nodup)(H:Heap)(hb:H b=some (.map (C9 tt K0)))
  (h: ∀K:List ByteArray,K.Nodup→(∀x,x∈K↔x∈K0∨x∈ms)→Q (.tuple []) (H.set b (.map (C9 tt K)))):ACalls Tryz.prog 126 [.map b,.fm (C9 tt ms)] H Q:=by
 refine B2 [] B3 Tryz.func126 rfl (by kernel_rfl) (C9Q (by kernel_rfl)) (by kernel_rfl) ?_
 simp only[go_sem,Tryz.results126]
 have hkl:(C9 tt ms).length=ms.length:=by simp[C9]
 repeat' (first|with_reducible apply C9P|simp only[go_sem]|simp(disch:=omega) only[A3]|intro hx_|omega)
 rename_i b7
 have h7:=hx_
 clear hx_
 have nb:b≠b7:=fun e=>by rw[←e,hb]at h7;cases h7
 have s0:H.set b7 (.rng (C9 tt ms) [])=(H.set b (.map (C9 tt K0))).set b7 (.rng (C9 tt ms) []):=by rw[B2h hb]
 rw[s0]
 refine D1 [0,7] (fun(p:List Nat×List ByteArray)=>[]) (fun(p:List Nat×List ByteArray)=>(H.set b (.map (C9 tt p.2))).set b7 (.rng (C9 tt ms) p.1)) (fun(p:List Nat×List ByteArray)=>p.2.Nodup∧∀x,x∈p.2↔x∈K0∨∃i,∃hi:i<ms.length,i∈p.1∧ms[i]=x) (fun(p:List Nat×List ByteArray)=>A6A ms.length p.1) (([],K0)) (⟨nd,fun x=>by simp⟩) (by(try simp only[go_sem])<;>(try simp(disch:=omega) [A0])<;>(try omega)) (by first|exact D0q _|exact A2 (by assumption)|exact B4 (by assumption)|simp only[Heap.Le,Heap.set,Heap.del]at* <;>grind) ?_
 rintro Ec rfl ⟨s,K⟩ ⟨hK,hs⟩
 simp only at hK hs
 have e7:((H.set b (.map (C9 tt K))).set b7 (.rng (C9 tt ms) s)) b7=some (.rng (C9 tt ms) s):=A5 _ _
 repeat' (first|with_reducible apply C9P|simp only[go_sem,e7]|simp(disch:=omega) only[A3]|intro hx_|omega)
 refine A70 (fun i hi hn=>?_) (fun hall=>?_)
 ·rw[hkl]at hi
  have eg:(((H.set b (.map (C9 tt K))).set b7 (.rng (C9 tt ms) s)).set b7 (.rng (C9 tt ms) (s++[i]))) b7=some (.rng (C9 tt ms) (s++[i])):=A5 _ _
  have eb:(((H.set b (.map (C9 tt K))).set b7 (.rng (C9 tt ms) s)).set b7 (.rng (C9 tt ms) (s++[i]))) b=some (.map (C9 tt K)):=by rw[A8 _ nb,A8 _ nb];exact A5 _ _
  have ek:(C9 tt ms)[i]? =some (.str ms[i],.bool true):=by simp[C9,hi]
  have ek2:(C9 tt ms)[i]'(by rw[hkl];exact hi)=(.str ms[i],.bool true):=by simp[C9]
  have hG: ∀X:Av.Obj,((((H.set b (.map (C9 tt K))).set b7 (.rng (C9 tt ms) s)).set b7 (.rng (C9 tt ms) (s++[i]))).set b X)=(H.set b X).set b7 (.rng (C9 tt ms) (s++[i])):=fun X=>by
   funext k
   by_cases k1:k=b
   ·subst k1;rw[A5,A8 _ nb,A5]
   ·rw[A8 _ k1]
    by_cases k2:k=b7
    ·subst k2;rw[A5,A5]
    ·rw[A8 _ k2,A8 _ k2,A8 _ k1,A8 _ k2,A8 _ k1]
  generalize (((H.set b (.map (C9 tt K))).set b7 (.rng (C9 tt ms) s)).set b7 (.rng (C9 tt ms) (s++[i])))=Gs at eg eb hG⊢
  repeat' (first|with_reducible apply C9P|simp only[go_sem,eg,eb,ek,ek2,List.getLast?_concat,X9 _ _ _ _ hK,A2s]|simp(disch:=omega) only[A3]|intro hx_|omega)
  refine C3 (s++[i],I0 K ms[i]) ⟨A2r hK,fun x=>?_⟩ (A1u hi hn) (by(try simp only[go_sem])<;>(try simp(disch:=omega) [A0])<;>(try omega)) (by show Heap.Le ((H.set b _).set b7 _) _;rw[←hG];exact D0q _)
  simp only[A92]
  rw[hs x]
  constructor
  ·rintro((q|⟨j,hj,q1,q2⟩)|q)
   ·exact .inl q
   ·exact .inr ⟨j,hj,List.mem_append_left _ q1,q2⟩
   ·exact .inr ⟨i,hi,by simp,q.symm⟩
  ·rintro(q|⟨j,hj,q1,q2⟩)
   ·exact .inl (.inl q)
   ·rcases C9p.1 q1 with z|z
    ·exact .inl (.inr ⟨j,hj,z,q2⟩)
    ·rw[C9q]at z;subst z;exact .inr q2.symm
 ·repeat' (first|with_reducible apply C9P|simp only[go_sem]|simp(disch:=omega) only[A3]|intro hx_|omega)
  refine D0r (A2 (by rw[A8 _ nb.symm];exact h7)) (h K hK fun x=>?_)
  rw[hs x]
  refine or_congr Iff.rfl ⟨?_,fun hx=>?_⟩
  ·rintro⟨i,hi,_,rfl⟩;exact C9d hi
  ·obtain⟨i,hi,rfl⟩:=List.getElem_of_mem hx
   exact⟨i,hi,hall i (by rw[hkl];exact hi),rfl⟩
theorem B64{Q}(ks ms:List ByteArray)(nd:ks.Nodup)(H:Heap)(h: ∀K:List ByteArray,K.Nodup→(∀x,x∈K↔x∈ks∨x∈ms)→Q (.fm (C9 tt K)) H):ACalls Tryz.prog 75 [.fm (C9 tt ks),.fm (C9 tt ms)] H Q:=by
 refine B2 [] B3 Tryz.func75 rfl (by kernel_rfl) (C9Q (by kernel_rfl)) (by kernel_rfl) ?_
 simp only[go_sem,Tryz.results75]
 repeat' (first|with_reducible apply C9P|simp only[go_sem]|simp(disch:=omega) only[A3]|simp(disch:=first|omega|grind) only[C8]|intro hx_|omega)
 refine A1N _ _ fun b hb=>?_
 repeat' (first|with_reducible apply C9P|simp only[go_sem]|simp(disch:=omega) only[A3]|simp(disch:=first|omega|grind) only[C8]|intro hx_|omega)
 refine B9W b ks ms nd _ (A5 _ _) fun K hK hx=>?_
 repeat' (first|with_reducible apply C9P|simp only[go_sem]|simp(disch:=omega) only[A3]|simp(disch:=first|omega|grind) only[C8]|intro hx_|omega)
 exact A4g (kvs:=C9 tt K) (A5 _ _) (D0r (fun k o hk=>by
  have:k≠b:=fun e=>by rw[e,hb]at hk;cases hk
  rw[C8 this,A8 _ this];exact hk) (h K hK hx))
theorem C0y{Q}(f g:Fm)(fa:FmFit f)(ga:FmFit g)(vf:VOk f)(vg:VOk g)(hf:E4 f=true)(hg:E4 g=true)(hm:meetL (D3.intsL [f,g]) (C6.boolsL [f,g])=false)(hl:(upS (D3.intsL [f,g])).length+(upS (C6.boolsL [f,g])).length≤12)(H:Heap)(h:Q (.int .i64 0) H):
  ACalls Tryz.prog 83 [.agg (C1 f),.agg (C1 g)] H Q:=by
 refine B2 [] B3 Tryz.func83 rfl (by kernel_rfl) (C9Q (by kernel_rfl)) (by kernel_rfl) ?_
 simp only[go_sem,Tryz.results83]
 intro b2 h2 b3 h3
 simp only[A4]at h3
 have n23:b2≠b3:=fun e=>h3.1 e.symm
 have c2:((H.set b2 (.box (C1 f))).set b3 (.box (C1 g))) b2=some (.box (C1 f)):=by rw[A8 _ n23,A5]
 have c3:((H.set b2 (.box (C1 f))).set b3 (.box (C1 g))) b3=some (.box (C1 g)):=A5 _ _
 have hle:H.Le ((H.set b2 (.box (C1 f))).set b3 (.box (C1 g))):=(A2 h2).trans (A2 (by simp only[A4];exact h3))
 generalize (H.set b2 (.box (C1 f))).set b3 (.box (C1 g))=Bs at c2 c3 hle⊢
 have vc:=fun(Q:D→Heap→Prop) (H:Heap)=>Q5 (Q:=Q) f fa vf H
 have wc:=fun(Q:D→Heap→Prop) (H:Heap)=>Q5 (Q:=Q) g ga vg H
 rw[hf]at vc
 rw[hg]at wc
 have l1:(C9 tt (I8 (D3.intsL [f,g]))).length=(upS (D3.intsL [f,g])).length:=by rw[show (C9 tt (I8 (D3.intsL [f,g]))).length=(I8 (D3.intsL [f,g])).length by simp[C9],A3U]
 have l2:(C9 tt (I8 (C6.boolsL [f,g]))).length=(upS (C6.boolsL [f,g])).length:=by rw[show (C9 tt (I8 (C6.boolsL [f,g]))).length=(I8 (C6.boolsL [f,g])).length by simp[C9],A3U]
 have bc:=fun(Q:D→Heap→Prop) (H:Heap)=>B1s (Q:=Q) (I8 (D3.intsL [f,g])) (I8 (C6.boolsL [f,g])) H
 rw[A1L (l':=D3.intsL [f,g]) (m':=C6.boolsL [f,g]) (fun x=>F7 _ _) (fun x=>F7 _ _),hm]at bc
 have hd: ¬((12:Int)<((upS (D3.intsL [f,g])).length:Int)+(upS (C6.boolsL [f,g])).length):=by omega
 repeat' (first|with_reducible apply C9P|simp only[go_sem,c2,c3]|simp(disch:=omega) only[A0,A3]|(intro hx_;try simp only[A4]at hx_)|with_reducible refine vc _ _ ?_|with_reducible refine wc _ _ ?_|omega)
 rename_i x
 have hx:=hx_
 clear hx_
 refine Q6 (es:=Rw C1 [f,g]) hx rfl ?_
 refine A8W [f,g] (fun k hk=>by
  simp only[C9r,C9s,or_false]at hk
  rcases hk with rfl|rfl
  ·exact fa
  ·exact ga) (by simp) _ ?_
 repeat' (first|with_reducible apply C9P|simp only[go_sem,l1,l2,hd]|simp(disch:=omega) only[A0,A3]|(intro hx_;try simp only[A4]at hx_)|with_reducible refine bc _ _ ?_|omega)
 exact D0r hle h
end Go.Proofs.YtibphjonmikciaaGreatDoor
end
section
namespace Go.Fo
open Go Go.Av Go.Lexs Go.Lin
def K3:Fm→List VlV→Bool
 | .mk o n l s ks,vs=>
  if o=1 then decide (n=1)
  else if o=2 then y8 l ((J0 l.k l.t vs).getD 0)
  else if o=3 then decide ((L4 vs s).getD 0=1)
  else if o=4 then !valH ks vs
  else if o=5 then valA ks vs
  else valE ks vs
where
 valH:List Fm→List VlV→Bool
 | [],_=>false
 |f::_,vs=>K3 f vs
 valA:List Fm→List VlV→Bool
 | [],_=>true
 |f::fs,vs=>K3 f vs&&valA fs vs
 valE:List Fm→List VlV→Bool
 | [],_=>false
 |f::fs,vs=>K3 f vs||valE fs vs
theorem B9X(ks:List Fm)(vs:List VlV):K3.valA ks vs=ks.all (K3 · vs):=by
 induction ks with
 |nil=>rfl
 |cons f fs ih=>rw[K3.valA,ih];rfl
theorem B9Y(ks:List Fm)(vs:List VlV):K3.valE ks vs=ks.any (K3 · vs):=by
 induction ks with
 |nil=>rfl
 |cons f fs ih=>rw[K3.valE,ih];rfl
theorem C28{f:Fm}(vs:List VlV)(h:f.op=1):K3 f vs=decide (f.n=1):=by
 obtain⟨o,n,l,s,ks⟩:=f
 simp only[Fm.op]at h
 subst h
 rw[K3,if_pos rfl];rfl
theorem C29{f:Fm}(vs:List VlV)(h:f.op=2):K3 f vs=y8 f.l ((J0 f.l.k f.l.t vs).getD 0):=by
 obtain⟨o,n,l,s,ks⟩:=f
 simp only[Fm.op]at h
 subst h
 rw[K3,if_neg (by decide),if_pos rfl];rfl
theorem C8H{f:Fm}(vs:List VlV)(h:f.op=3):K3 f vs=decide ((L4 vs f.s).getD 0=1):=by
 obtain⟨o,n,l,s,ks⟩:=f
 simp only[Fm.op]at h
 subst h
 rw[K3,if_neg (by decide),if_neg (by decide),if_pos rfl];rfl
theorem C3A{f k:Fm}(vs:List VlV)(h:f.op=4)(hk:f.ks= [k]):K3 f vs= !K3 k vs:=by
 obtain⟨o,n,l,s,ks⟩:=f
 simp only[Fm.op]at h
 simp only[Fm.ks]at hk
 subst h;subst hk
 rw[K3,if_neg (by decide),if_neg (by decide),if_neg (by decide),if_pos rfl];rfl
theorem B65{f:Fm}(vs:List VlV)(h:f.op=5):K3 f vs=f.ks.all (K3 · vs):=by
 obtain⟨o,n,l,s,ks⟩:=f
 simp only[Fm.op]at h
 subst h
 rw[K3,if_neg (by decide),if_neg (by decide),if_neg (by decide),if_neg (by decide),if_pos rfl,B9X];rfl
theorem B4I{f:Fm}(vs:List VlV)(h:f.op=6):K3 f vs=f.ks.any (K3 · vs):=by
 obtain⟨o,n,l,s,ks⟩:=f
 simp only[Fm.op]at h
 subst h
 rw[K3,if_neg (by decide),if_neg (by decide),if_neg (by decide),if_neg (by decide),if_neg (by decide),B9Y];rfl
def A2y(f:Fm)(vs:List VlV):Bool:=(ivF f).all (fun s=>(L4 vs s).isSome)&&(bvF f).all (fun s=>(L4 vs s).isSome)
def bits(f:Fm)(vs:List VlV):Bool:=(bvF f).all fun s=>decide ((L4 vs s).getD 0=0)||decide ((L4 vs s).getD 0=1)
def atF(f:Fm)(vs:List VlV):Bool×Int:=
 if E4 f=true∧M2 vs=true then(if A2y f vs=true then(if bits f vs=true then(K3 f vs,0)else(false,20))else(false,13))else(false,2)
theorem A0y(f:Fm)(vs:List VlV):A2y f vs=true↔∀s,s∈D3 f∨s∈C6 f→(L4 vs s).isSome=true:=by
 unfold A2y ivF bvF
 simp only[C9c,C90,S2]
 constructor
 ·rintro⟨h1,h2⟩ s (h|h);exact h1 s h;exact h2 s h
 ·intro h;exact⟨fun s hs=>h s (.inl hs),fun s hs=>h s (.inr hs)⟩
theorem A3c(f:Fm)(vs:List VlV):bits f vs=true↔∀s∈C6 f,(L4 vs s).getD 0=0∨(L4 vs s).getD 0=1:=by
 unfold bits bvF
 simp only[C90,S2,D0m,C9l]
theorem V7(f:Fm)(x:ByteArray):x∈D3 f↔(∃t∈f.l.t,t.v=x)∨∃k∈f.ks,x∈D3 k:=by
 rw[B50,C9p,D0N]
 refine or_congr Iff.rfl ?_
 induction f.ks with
 |nil=>simp[D3.intsL]
 |cons f fs ih=>rw[D3.intsL,C9p,ih];simp
theorem S9(f:Fm)(x:ByteArray):x∈C6 f↔(f.op=3∧f.s=x)∨∃k∈f.ks,x∈C6 k:=by
 rw[B3o,C9p]
 refine or_congr ?_ ?_
 ·by_cases h:f.op=3
  ·rw[if_pos h,C9q];exact⟨fun e=>⟨h,e.symm⟩,fun e=>e.2.symm⟩
  ·rw[if_neg h];simp[h]
 ·induction f.ks with
  |nil=>simp[C6.boolsL]
  |cons f fs ih=>rw[C6.boolsL,C9p,ih];simp
theorem B4K: ∀(f:Fm) (b:Bool),G7 D5 f=true→(∀x,x∈D3 (normF f b)↔x∈D3 f)∧(∀x,x∈C6 (normF f b)↔x∈C6 f):=by
 intro f
 induction f using P2 with
 |h o n l s ks ih=>
  intro b hf
  have hk: ∀k∈ks,G7 D5 k=true:=fun k hk=>N8 (f:=.mk o n l s ks) hf hk
  have many: ∀(p:Int),p=5∨p=6→(∀x,x∈D3 (normF (.mk p 0 nilL D2 ks) b)↔x∈D3 (.mk p 0 nilL D2 ks))∧(∀x,x∈C6 (normF (.mk p 0 nilL D2 ks) b)↔x∈C6 (.mk p 0 nilL D2 ks)):=by
   intro p hp
   rw[A7H b (by show p≠1;omega) (by show p≠2;omega) (by show p≠3;omega) (by show p≠4;omega)]
   have h3:opO p b≠3:=by unfold opO;split<;>omega
   have h4:p≠3:=by omega
   constructor
   ·intro x
    rw[V7,V7]
    refine or_congr Iff.rfl ⟨?_,?_⟩
    ·rintro⟨k,hk1,hx⟩
     obtain⟨g,hg,rfl⟩:=D0N.1 hk1
     exact⟨g,hg,((ih g hg b (hk g hg)).1 x).1 hx⟩
    ·rintro⟨k,hk1,hx⟩
     exact⟨_,D0N.2 ⟨k,hk1,rfl⟩,((ih k hk1 b (hk k hk1)).1 x).2 hx⟩
   ·intro x
    rw[S9,S9]
    refine or_congr ⟨fun h=>absurd h.1 h3,fun h=>absurd h.1 h4⟩ ⟨?_,?_⟩
    ·rintro⟨k,hk1,hx⟩
     obtain⟨g,hg,rfl⟩:=D0N.1 hk1
     exact⟨g,hg,((ih g hg b (hk g hg)).2 x).1 hx⟩
    ·rintro⟨k,hk1,hx⟩
     exact⟨_,D0N.2 ⟨k,hk1,rfl⟩,((ih k hk1 b (hk k hk1)).2 x).2 hx⟩
  have shv: ∀(l:LinV) sg x,(∃t∈(shL l sg).t,t.v=x)↔∃t∈l.t,t.v=x:=by
   intro l sg x
   constructor
   ·rintro⟨t,ht,rfl⟩
    obtain⟨u,hu,rfl⟩:=D0N.1 (show t∈l.t.map _ from ht)
    exact⟨u,hu,rfl⟩
   ·rintro⟨t,ht,rfl⟩
    exact⟨_,D0N.2 ⟨t,ht,rfl⟩,rfl⟩
  cases Q4 hf with
  |con n h=>rw[B2m b rfl];exact⟨fun x=>Iff.rfl,fun x=>Iff.rfl⟩
  |lin l h hp=>
   rw[B2n b rfl]
   cases b with
   |false=>exact⟨fun x=>Iff.rfl,fun x=>Iff.rfl⟩
   |true=>
    have hi: ∀(sg:Int) x,x∈D3 (A0D (shL l sg))↔x∈D3 (.mk 2 0 l D2 []):=fun sg x=>by
     rw[V7,V7]
     exact or_congr (shv l sg x) Iff.rfl
    have hb: ∀(sg:Int) x,x∉C6 (A0D (shL l sg)):=fun sg x hx=>by
     rw[S9]at hx
     rcases hx with⟨h1,_⟩|⟨k,hk1,_⟩
     ·exact absurd h1 (by simp[Fm.op,A0D])
     ·cases hk1
    have hb2: ∀x,x∉C6 (.mk 2 0 l D2 []):=fun x hx=>by
     rw[S9]at hx
     rcases hx with⟨h1,_⟩|⟨k,hk1,_⟩
     ·exact absurd h1 (by simp[Fm.op,A0D])
     ·cases hk1
    simp only[if_true,Fm.l]
    unfold opL
    split
    ·constructor
     ·intro x
      rw[V7]
      constructor
      ·rintro(⟨t,ht,_⟩|⟨k,hk1,hx⟩)
       ·cases ht
       ·simp only[Fm.ks,C9r,C9s,or_false]at hk1
        rcases hk1 with rfl|rfl
        ·exact(hi _ x).1 hx
        ·exact(hi _ x).1 hx
      ·intro hx;exact .inr ⟨_,C9a ..,(hi _ x).2 hx⟩
     ·intro x
      constructor
      ·intro hx
       rw[S9]at hx
       rcases hx with⟨h1,_⟩|⟨k,hk1,hx⟩
       ·exact absurd h1 (by simp[Fm.op])
       ·simp only[Fm.ks,C9r,C9s,or_false]at hk1
        rcases hk1 with rfl|rfl
        ·exact absurd hx (hb _ x)
        ·exact absurd hx (hb _ x)
      ·intro hx;exact absurd hx (hb2 x)
    ·exact⟨hi _,fun x=>⟨fun hx=>absurd hx (hb _ x),fun hx=>absurd hx (hb2 x)⟩⟩
  |var s h=>
   rw[B2o b rfl]
   cases b with
   |false=>exact⟨fun x=>Iff.rfl,fun x=>Iff.rfl⟩
   |true=>
    simp only[if_true]
    constructor
    ·intro x;rw[V7];simp[Fm.l,Fm.ks,nilL]
    ·intro x;rw[S9];simp[Fm.op,Fm.ks]
  |not k=>
   rw[B2p b rfl rfl]
   have:=ih k (C9a ..) (!b) (hk k (C9a ..))
   constructor
   ·intro x;rw[this.1,V7 (.mk 4 0 nilL D2 [k])];simp[Fm.l,Fm.ks,nilL]
   ·intro x;rw[this.2,S9 (.mk 4 0 nilL D2 [k])];simp[Fm.op,Fm.ks]
  |and ks=>exact many 5 (.inl rfl)
  |or ks=>exact many 6 (.inr rfl)
theorem B66(vs:List VlV)(sg:Int): ∀(t:List LTm) (k m:Int),J0 k (t.map fun t=>⟨t.v,sg*t.c⟩) vs=(J0 m t vs).map fun n=>k+sg*(n-m):=by
 intro t
 induction t with
 |nil=>intro k m;simp[J0]
 |cons x t ih=>
  intro k m
  rw[D0g,J0,J0]
  cases L4 vs x.v with
  |none=>rfl
  |some n=>
   simp only[]
   rw[ih (k+sg*x.c*n) (m+x.c*n)]
   cases J0 (m+x.c*n) t vs with
   |none=>rfl
   |some r=>
    simp only[Option.map_some,C91]
    rw[Int.mul_sub,Int.mul_sub,Int.mul_add,Int.mul_assoc]
    omega
theorem B67(vs:List VlV): ∀(f:Fm) (b:Bool),G7 D5 f=true→(∀s∈D3 f,(L4 vs s).isSome=true)→(∀s∈C6 f,(L4 vs s).getD 0=0∨(L4 vs s).getD 0=1)→K3 (normF f b) vs=(K3 f vs != b):=by
 intro f
 induction f using P2 with
 |h o n l s ks ih=>
  intro b hf hi hb
  have hk: ∀k∈ks,G7 D5 k=true:=fun k hk=>N8 (f:=.mk o n l s ks) hf hk
  have hki: ∀k∈ks,∀s∈D3 k,(L4 vs s).isSome=true:=fun k hk s hs=>hi s ((V7 _ s).2 (.inr ⟨k,hk,hs⟩))
  have hkb: ∀k∈ks,∀s∈C6 k,(L4 vs s).getD 0=0∨(L4 vs s).getD 0=1:=fun k hk s hs=>hb s ((S9 _ s).2 (.inr ⟨k,hk,hs⟩))
  have ihk:=fun k hm=>ih k hm b (hk k hm) (hki k hm) (hkb k hm)
  have nall: ∀(m:List Fm) (p:Fm→Bool),(m.all fun x=>(p x != true))= !m.any p:=fun m p=>by
   induction m with
   |nil=>rfl
   |cons x m ih=>rw[D0S,D0U,ih];cases p x<;>simp
  have nany: ∀(m:List Fm) (p:Fm→Bool),(m.any fun x=>(p x != true))= !m.all p:=fun m p=>by
   induction m with
   |nil=>rfl
   |cons x m ih=>rw[D0S,D0U,ih];cases p x<;>simp
  have eall: ∀(p q:Fm→Bool),(∀k∈ks,p k=q k)→ks.all p=ks.all q:=fun p q h=>by
   rw[Bool.eq_iff_iff,C90,C90];exact forall_congr' fun k=>forall_congr' fun hm=>by rw[h k hm]
  have eany: ∀(p q:Fm→Bool),(∀k∈ks,p k=q k)→ks.any p=ks.any q:=fun p q h=>by
   rw[Bool.eq_iff_iff,List.any_eq_true,List.any_eq_true];exact exists_congr fun k=>and_congr_right fun hm=>by rw[h k hm]
  cases Q4 hf with
  |con n h=>
   rw[B2m b rfl,C28 _ rfl,C28 _ rfl]
   show decide ((if b=true then 1-n else n)=1)=(decide (n=1) != b)
   rcases h with rfl|rfl<;>cases b<;>decide
  |lin l h hp=>
   rw[B2n b rfl]
   cases b with
   |false=>simp
   |true=>
    simp only[if_true,Fm.l]
    have hsome: ∃n,J0 l.k l.t vs=some n:=by
     have hi2: ∀t∈l.t,(L4 vs t.v).isSome=true:=fun t ht=>hi t.v ((V7 _ _).2 (.inl ⟨t,ht,rfl⟩))
     have key: ∀(m:List LTm) (k:Int),(∀t∈m,(L4 vs t.v).isSome=true)→∃n,J0 k m vs=some n:=by
      intro m
      induction m with
      |nil=>intro k _;exact⟨k,rfl⟩
      |cons t m ih=>
       intro k hm
       obtain⟨v,hv⟩:=Option.isSome_iff_exists.1 (hm t (C9a ..))
       rw[J0,hv]
       exact ih _ fun x hx=>hm x (C9h _ hx)
     exact key l.t l.k hi2
    obtain⟨n,hn⟩:=hsome
    have hsh: ∀sg:Int,J0 (shL l sg).k (shL l sg).t vs=some (sg*n-1):=fun sg=>by
     show J0 (sg*l.k-1) (l.t.map fun t=>⟨t.v,sg*t.c⟩) vs=_
     rw[B66 vs sg l.t _ l.k,hn,Option.map_some,Int.mul_sub]
     congr 1;omega
    have v0:K3 (.mk 2 0 l D2 []) vs=y8 l n:=by rw[C29 _ rfl];show y8 l ((J0 l.k l.t vs).getD 0)=_;rw[hn];rfl
    have vs1: ∀sg:Int,K3 (A0D (shL l sg)) vs=y8 (shL l sg) (sg*n-1):=fun sg=>by
     rw[C29 _ rfl];show y8 (shL l sg) ((J0 (shL l sg).k (shL l sg).t vs).getD 0)=_;rw[hsh];rfl
    have hh: ∀sg:Int,y8 (shL l sg) (sg*n-1)=decide (0≤sg*n-1):=fun sg=>by
     unfold y8 shL
     rw[Bool.eq_iff_iff]
     simp only[D0o,Bool.and_true,D0m,C9l]
     omega
    rw[v0]
    unfold opL
    cases he:l.e with
    |true=>
     simp only[if_true]
     rw[B4I _ rfl]
     show ([A0D (shL l 1),A0D (shL l (-1))].any (K3 · vs))=_
     simp only[D0U,List.any_nil,Bool.or_false,vs1,hh]
     unfold y8
     rw[he]
     simp only[D0n,Bool.and_false,Bool.or_false]
     rw[Bool.eq_iff_iff]
     simp only[D0m,C9l,bne_iff_ne,ne_eq,C9l]
     omega
    |false=>
     simp only[C9f,if_false]
     rw[vs1,hh]
     unfold y8
     rw[he]
     simp only[D0o,Bool.and_true]
     rw[Bool.eq_iff_iff]
     simp only[D0m,C9l,bne_iff_ne,ne_eq,C9l]
     omega
  |var s h=>
   rw[B2o b rfl]
   cases b with
   |false=>simp
   |true=>
    simp only[if_true]
    rw[C3A _ rfl rfl]
    cases K3 (.mk 3 0 nilL s []) vs<;>rfl
  |not k=>
   rw[B2p b rfl rfl,C3A (f:=.mk 4 0 nilL D2 [k]) (k:=k) _ rfl rfl,ih k (C9a ..) (!b) (hk k (C9a ..)) (hki k (C9a ..)) (hkb k (C9a ..))]
   cases K3 k vs<;>cases b<;>rfl
  |and ks=>
   rw[A7H b (by simp[Fm.op]) (by simp[Fm.op]) (by simp[Fm.op]) (by simp[Fm.op])]
   cases b with
   |false=>
    rw[B65 _ rfl,B65 _ rfl]
    show (ks.map (normF · false)).all (K3 · vs)=_
    rw[List.all_map,eall _ (K3 · vs) (fun k hm=>by simp only[Function.comp];rw[ihk k hm];simp)]
    simp[Fm.ks]
   |true=>
    rw[B4I _ rfl,B65 _ rfl]
    show (ks.map (normF · true)).any (K3 · vs)=_
    rw[List.any_map,eany _ (fun k=>K3 k vs != true) (fun k hm=>by simp only[Function.comp];rw[ihk k hm]),nany]
    simp[Fm.ks]
  |or ks=>
   rw[A7H b (by simp[Fm.op]) (by simp[Fm.op]) (by simp[Fm.op]) (by simp[Fm.op])]
   cases b with
   |false=>
    rw[B4I _ rfl,B4I _ rfl]
    show (ks.map (normF · false)).any (K3 · vs)=_
    rw[List.any_map,eany _ (K3 · vs) (fun k hm=>by simp only[Function.comp];rw[ihk k hm];simp)]
    simp[Fm.ks]
   |true=>
    rw[B65 _ rfl,B4I _ rfl]
    show (ks.map (normF · true)).all (K3 · vs)=_
    rw[List.all_map,eall _ (fun k=>K3 k vs != true) (fun k hm=>by simp only[Function.comp];rw[ihk k hm]),nall]
    simp[Fm.ks]
theorem B68{f:Fm}{vs:List VlV}(h1:(atF f vs).2=0)(h2:(notF f).2=0):atF (notF f).1 vs=(!(atF f vs).1,0):=by
 unfold atF at h1
 by_cases hv:E4 f=true∧M2 vs=true
 ·rw[if_pos hv]at h1
  by_cases hk:A2y f vs=true
  ·rw[if_pos hk]at h1
   by_cases hb:bits f vs=true
   ·have e1:atF f vs=(K3 f vs,0):=by unfold atF;rw[if_pos hv,if_pos hk,if_pos hb]
    rw[e1]
    unfold notF at h2⊢
    rw[if_pos hv.1]at h2⊢
    by_cases hn:E4 (normF f true)=true
    ·rw[if_pos hn]
     have ha:=L5 hv.1
     have nv:=B4K f true ha
     have hk2:A2y (normF f true) vs=true:=by
      rw[A0y]at hk⊢
      intro s hs;exact hk s (hs.imp (nv.1 s).1 (nv.2 s).1)
     have hb2:bits (normF f true) vs=true:=by
      rw[A3c]at hb⊢
      intro s hs;exact hb s ((nv.2 s).1 hs)
     show atF (normF f true) vs=_
     unfold atF
     rw[if_pos ⟨hn,hv.2⟩,if_pos hk2,if_pos hb2,B67 vs f true ha (fun s hs=>(A0y f vs).1 hk s (.inl hs)) ((A3c f vs).1 hb)]
     cases K3 f vs<;>rfl
    ·rw[if_neg hn]at h2;exact absurd h2 (by decide)
   ·rw[if_neg hb]at h1;exact absurd h1 (by decide)
  ·rw[if_neg hk]at h1;exact absurd h1 (by decide)
 ·rw[if_neg hv]at h1;exact absurd h1 (by decide)
end Go.Fo
end
section
namespace Go.Fo
open Go Go.Av Go.Lexs Go.Lin
def A1v(o:Int)(l:List Fm):Fm×Int:=
 if l.all E4=true then(if meetL (D3.intsL l) (C6.boolsL l)=true then(S8,15)else if E4 (.mk o 0 nilL D2 l)=true then(.mk o 0 nilL D2 l,0)else(S8,3))else(S8,2)
end Go.Fo
end
section
set_option maxRecDepth 20000
namespace Go.Fo
open Go Go.Av Go.Lexs Go.Lin
def nX:ByteArray:=⟨#[120]⟩
def nB:ByteArray:=⟨#[98]⟩
def fxL(k:Int)(e:Bool):Fm:=A0D ⟨[⟨nX,1⟩],k,e⟩
def fxV:Fm:=.mk 3 0 nilL nB []
def A4F:Fm:=.mk 4 0 nilL D2 [fxV]
def A0z(l:List Fm):Fm:=.mk 5 0 nilL D2 l
def fxF:Fm:=A0z [fxL (-1) false,.mk 6 0 nilL D2 [fxL (-3) true,A4F]]
def fxP:Fm:=fxL 0 false
def fxN:Fm:=normF fxF true
def fxA:Fm:=A0z [fxF,fxN]
def fxS:Fm:=A0z [fxF,A4F]
def fxVals:List VlV:=[⟨nB,0⟩,⟨nX,1⟩]
theorem A8Z:D7 fxF= [38,40,120,45,49,62,61,48,44,32,124,40,120,45,51,61,48,44,32,33,63,98,41,41]:=by decide+kernel
theorem B0Z:D7 fxP= [120,62,61,48]:=by decide+kernel
theorem B69:D7 fxN= [124,40,45,120,62,61,48,44,32,38,40,124,40,120,45,52,62,61,48,44,32,45,120,43,50,62,61,48,41,44,32,63,98,41,41]:=by decide+kernel
theorem P9:E4 fxF=true∧E4 fxP=true∧E4 fxN=true∧E4 fxA=true:=by decide+kernel
theorem A4G:V5 fxF []=some true∧V5 fxA []=some false∧V5 (A0z [fxF,normF fxP true]) []=some false∧V5 (A0z [fxF,normF fxF true]) []=some false∧V5 fxS []=some true:=by decide+kernel
theorem B9Z:B5i (fun more=>V5 fxS more) nX=some 1:=by decide+kernel
theorem C58:atF fxF fxVals=(true,0):=by decide+kernel
theorem B27:ivF fxF= [nX]∧bvF fxF= [nB]:=by decide+kernel
theorem C3B:notF fxF=(fxN,0):=by
 unfold notF;rw[if_pos P9.1,if_pos (show E4 (normF fxF true)=true from P9.2.2.1)];rfl
theorem B28:meetL (D3.intsL [fxF,fxN]) (C6.boolsL [fxF,fxN])=false∧meetL (D3.intsL []) (C6.boolsL [])=false:=by decide+kernel
theorem C3C:A1v 5 [fxF,fxN]=(fxA,0):=by
 unfold A1v
 rw[if_pos (by simp only[D0S,List.all_nil,P9.1,P9.2.2.1,Bool.and_true]),B28.1,if_neg (by decide),if_pos (show E4 (.mk 5 0 nilL D2 [fxF,fxN])=true from P9.2.2.2)];rfl
theorem C3D:E4 (.mk 6 0 nilL D2 [])=true:=by decide+kernel
theorem C59:A1v 6 []=(.mk 6 0 nilL D2 [],0):=by
 unfold A1v
 rw[if_pos (show List.all [] E4=true from rfl),B28.2,if_neg (by decide),if_pos C3D]
structure RdS(H H':Heap)(br:Nat)(r:List UInt8)(bad:Bool):Prop where
 here:H' br=some (.box [.str (S r),.bool bad])
 els: ∀k,k≠br→H' k=H k
theorem RdS.set(H:Heap)(br:Nat)(r:List UInt8)(bad:Bool):RdS H (H.set br (.box [.str (S r),.bool bad])) br r bad:=⟨A5 _ _,fun _ hk=>A8 _ hk⟩
theorem RdS.trans{H H1 H2:Heap}{br:Nat}{r r2:List UInt8}{bad bad2:Bool}(h:RdS H H1 br r bad)(g:RdS H1 H2 br r2 bad2):RdS H H2 br r2 bad2:=⟨g.here,fun k hk=>(g.els k hk).trans (h.els k hk)⟩
theorem RdS.keep{H H':Heap}{br b:Nat}{r:List UInt8}{bad:Bool}(h:RdS H H' br r bad){o:Av.Obj}(hb:H b=some o)(hne:b≠br):H' b=some o:=by rw[h.els b hne];exact hb
theorem RdS.le{G H H':Heap}{br:Nat}{r:List UInt8}{bad:Bool}(h:RdS H H' br r bad)(hle:G.Le H)(hG:G br=none):G.Le H':=fun k o hk=>by
 rw[h.els k (fun e=>by rw[e,hG]at hk;cases hk)];exact hle k o hk
def tillI(r:List UInt8):Int:=Lib.indexAny r [44,41]
theorem tillI_spec: ∀r:List UInt8,(tillI r= -1∧L3 r=r∧P7 r= [])∨(0≤tillI r∧tillI r≤r.length∧L3 r=r.take (tillI r).toNat∧P7 r=r.drop (tillI r).toNat):=by
 intro r
 induction r with
 |nil=>exact .inl ⟨rfl,rfl,rfl⟩
 |cons c r ih=>
  have e:tillI (c::r)=if [44,41].contains c=true then 0 else if(tillI r== -1)=true then-1 else tillI r+1:=rfl
  have hs: [44,41].contains c=B0S c:=by
   unfold B0S
   simp only[List.contains_cons,List.contains_nil,Bool.or_false]
  rw[e,hs]
  cases hc:B0S c with
  |true=>
   right
   have hn:nst c=false:=by unfold nst;rw[hc];rfl
   have t1:L3 (c::r)= []:=by unfold L3;rw[List.takeWhile_cons,hn];rfl
   have t2:P7 (c::r)=c::r:=by unfold P7;rw[List.dropWhile_cons,hn];rfl
   rw[t1,t2]
   exact⟨Int.le_refl _,by simp only[if_true];omega,rfl,rfl⟩
  |false=>
   have hn:nst c=true:=by unfold nst;rw[hc];rfl
   have t1:L3 (c::r)=c::L3 r:=by unfold L3;rw[List.takeWhile_cons,hn];rfl
   have t2:P7 (c::r)=P7 r:=by unfold P7;rw[List.dropWhile_cons,hn];rfl
   rw[t1,t2]
   simp only[C9f,if_false]
   rcases ih with⟨h1,h2,h3⟩|⟨h1,h2,h3,h4⟩
   ·left
    rw[h1,h2,h3]
    simp
   ·right
    have hne:(tillI r== -1)=false:=by rw[beq_eq_false_iff_ne];omega
    have hn1:(tillI r+1).toNat=(tillI r).toNat+1:=by omega
    rw[hne]
    simp only[C9f,if_false]
    rw[hn1,List.take_succ_cons,List.drop_succ_cons,←h3,←h4]
    refine⟨by omega,by simp only[C9U];omega,rfl,rfl⟩
end Go.Fo
namespace Go.Proofs.YtibphjonmikciaaGreatDoor
open Go Go.Av Go.Lexs Go.Lin Go.Fo
attribute [local irreducible] ACalls W4
open Go.RowKit in
theorem B0a{Q}(s p:ByteArray)(H:Heap)(h:Q (.tuple [.str (S (if pre (B p) (B s)=true then(B s).drop p.size else B s)),.bool (pre (B p) (B s))]) H):ACalls Tryz.prog 145 [.str s,.str p] H Q:=
 I4 (by kernel_rfl) (fun w vs hl hr hs=>by
  obtain⟨a,b,rfl,ha,hb⟩:=y0 hl hr
  rw[ha.str_inv,hb.str_inv]
  refine(Tryz.strings_CutPrefix s p w).mono fun e w' ⟨he,hw⟩=>?_
  subst hw
  have e1:Lib.hasPrefix s.data.toList p.data.toList=pre (B p) (B s):=rfl
  have e2:Lib.trimPrefix s.data.toList p.data.toList=if pre (B p) (B s)=true then(B s).drop p.size else B s:=by
   have:=Y7 p
   rw[←this];rfl
  rw[e1,e2]at he
  exact⟨_,he,Below.refl _ _,.tuple _ _ rfl fun i d hd=>(match i,hd with|0,hd=>by simp at hd;subst hd;exact .str _|1,hd=>by simp at hd;subst hd;exact .bool _|i+2,hd=>by simp at hd)⟩) h
def A6F(r:List UInt8):Prop:=∀(Q:D→Heap→Prop) (H:Heap),Q (.int .i64 (tillI r)) H→ACalls Tryz.prog 146 [.str (S r),.str ⟨#[44,41]⟩] H Q
open Go.RowKit in
theorem B1u{r:List UInt8}(hr:r.length≤1000000)(ha: ∀c∈r,c.toNat<128):A6F r:=fun Q H h=>
 I4 (by kernel_rfl) (fun w vs hl hr' hs'=>by
  obtain⟨a,b,rfl,ha',hb⟩:=y0 hl hr'
  rw[ha'.str_inv,hb.str_inv]
  refine(Tryz.strings_IndexAny_laid (S r) ⟨#[44,41]⟩ w (by rw[O1];omega) (by decide) (fun j b hj=>ha b (C9w (by rw[show (S r).data.toList=r from l9 r]at hj;exact hj))) (fun j b hj=>by
   have hm:=C9w hj
   have key: ∀c∈(⟨#[44,41]⟩:ByteArray).data.toList,c.toNat<128:=by decide
   exact key b hm)).mono fun e w' ⟨he,hw⟩=>?_
  refine⟨_,he,hw,?_⟩
  rw[show (S r).data.toList=r from l9 r]
  exact .int _ _) h
theorem A2z{Q}(br:Nat)(p:ByteArray)(r:List UInt8)(bad:Bool)(H:Heap)(hb:H br=some (.box [.str (S r),.bool bad]))(h: ∀H',RdS H H' br (if pre (B p) r=true then r.drop p.size else r) bad→Q (.bool (pre (B p) r)) H'):ACalls Tryz.prog 117 [.box br 0,.str p] H Q:=by
 refine B2 [] B3 Tryz.func117 rfl (by kernel_rfl) (C9Q (by kernel_rfl)) (by kernel_rfl) ?_
 simp only[go_sem,Tryz.results117]
 have cc:=fun(Q:D→Heap→Prop) (H:Heap)=>B0a (Q:=Q) (S r) p H
 rw[l9]at cc
 repeat' (first|with_reducible apply C9P|simp only[go_sem,hb]|simp(disch:=omega) only[A3]|intro hx_|with_reducible refine cc _ _ ?_|omega)
 exact D0u (h _ (RdS.set _ _ _ _))
theorem B29{Q}(br:Nat)(r:List UInt8)(bad:Bool)(hr:r.length≤1000000)(hx:A6F r)(H:Heap)(hb:H br=some (.box [.str (S r),.bool bad]))(h: ∀H',RdS H H' br (P7 r) bad→Q (.str (S (L3 r))) H'):ACalls Tryz.prog 118 [.box br 0] H Q:=by
 refine B2 [] B3 Tryz.func118 rfl (by kernel_rfl) (C9Q (by kernel_rfl)) (by kernel_rfl) ?_
 simp only[go_sem,Tryz.results118]
 have hsz:=O1 r
 rcases tillI_spec r with⟨h1,h2,h3⟩|⟨h1,h2,h3,h4⟩
 ·have xc:=hx
  unfold A6F at xc
  rw[h1]at xc
  rw[h2,h3]at h
  have s1:S (r.take r.length)=S r:=by rw[List.take_length]
  have s2:S (r.drop r.length)=S []:=by rw[List.drop_length]
  repeat' (first|with_reducible apply C9P|simp only[go_sem,hb,hsz]|simp(disch:=omega) only[A3]|intro hx_|with_reducible refine xc _ _ ?_|omega)
  simp only[s1,s2]
  exact D0u (h _ (RdS.set _ _ _ _))
 ·have xc:=hx
  unfold A6F at xc
  have hneg: ¬tillI r<0:=by omega
  rw[h3,h4]at h
  generalize tillI r=z at h1 h2 h xc hneg
  repeat' (first|with_reducible apply C9P|simp only[go_sem,hb,hsz,hneg]|simp(disch:=omega) only[A3]|intro hx_|with_reducible refine xc _ _ ?_|omega)
  exact D0u (h _ (RdS.set _ _ _ _))
end Go.Proofs.YtibphjonmikciaaGreatDoor
end
section
namespace Go.Fo
open Go Go.Av Go.Lexs Go.Lin
theorem A6G(w:List UInt8):a7 (M5 w).1∧(M5 w).1.t.length≤12:=by
 rw[B6g]
 split
 ·rename_i h
  have ok:=L9 h.1
  refine⟨⟨by have:=ok.len;simp only[];omega,fun t ht=>?_,fun t ht=>?_,?_⟩,ok.len⟩
  ·have:=A2u (M7 ok.t t ht).1;omega
  ·have:=(M7 ok.t t ht).2.2;unfold W0;omega
  ·have:=ok.k;unfold W0;simp only[];omega
 ·exact⟨A1P,by simp[nilL]⟩
structure Sz(f:Fm)(m:Nat):Prop where
 fit:FmFit f
 wt:K7 f≤m
structure SzL(l:List Fm)(m:Nat):Prop where
 fit: ∀f∈l,FmFit f
 wt:K7.wtL l≤m
theorem B9a:Sz S8 1:=⟨R9 (by simp[W0]) (by simp) (by simp),by decide⟩
theorem A8a{o:Int}{l:List Fm}{m:Nat}(ho:W0 o)(h:SzL l m)(hm:m≤1000000):Sz (.mk o 0 nilL D2 l) (1+m):=
 ⟨R9 ho (by have:=B8q l;have:=h.wt;omega) h.fit,by rw[L1];simp[Fm.l,Fm.ks,nilL];exact h.wt⟩
theorem C3E{f:Fm}{m:Nat}(h:Sz f m):SzL [f] m:=⟨fun k hk=>by rw[C9q]at hk;rw[hk];exact h.fit,by simp[K7.wtL];exact h.wt⟩
theorem B3A{l:List Fm}{f:Fm}{m n:Nat}(hl:SzL l m)(h:Sz f n):SzL (l++[f]) (m+n):=⟨fun k hk=>by
 rcases C9p.1 hk with g|g
 ·exact hl.fit k g
 ·rw[C9q]at g;rw[g];exact h.fit,by rw[B2b];simp only[K7.wtL];have:=hl.wt;have:=h.wt;omega⟩
theorem A6H(m:Nat):SzL [] m:=⟨by simp,by simp[K7.wtL]⟩
theorem Sz.le{f:Fm}{m n:Nat}(h:Sz f m)(hm:m≤n):Sz f n:=⟨h.fit,D0V h.wt hm⟩
theorem SzL.le{f:List Fm}{m n:Nat}(h:SzL f m)(hm:m≤n):SzL f n:=⟨h.fit,D0V h.wt hm⟩
theorem B7A(n:Int)(h:W0 n):Sz (.mk 1 n nilL D2 []) 1:=⟨.mk _ _ _ _ _ (by simp[W0]) h A1P (by decide) (by simp) (by simp),by rw[L1];simp[Fm.l,Fm.ks,nilL,K7.wtL]⟩
theorem C3F(s:ByteArray)(h:s.size≤1000000):Sz (.mk 3 0 nilL s []) 1:=⟨.mk _ _ _ _ _ (by simp[W0]) (by simp[W0]) A1P (by omega) (by simp) (by simp),by rw[L1];simp[Fm.l,Fm.ks,nilL,K7.wtL]⟩
theorem C3G(w:List UInt8):Sz (A0D (M5 w).1) 13:=⟨A1t (A6G w).1,by have:=(A6G w).2;rw[L1];simp[Fm.l,Fm.ks,A0D,K7.wtL];omega⟩
theorem A6I(r:List UInt8):(L3 r).length+(P7 r).length=r.length:=by
 unfold L3 P7;rw[←C9V,List.takeWhile_append_dropWhile]
theorem A1S{p r:List UInt8}(h:pre p r=true):p.length≤r.length:=by
 unfold pre at h;exact(List.isPrefixOf_iff_prefix.1 h).length_le
theorem B9b(w:List UInt8):Sz (A6e w).1 13:=by
 unfold A6e
 split
 ·exact(B7A 1 (by simp[W0])).le (by omega)
 ·split
  ·exact(B7A 0 (by simp[W0])).le (by omega)
  ·exact C3G w
def C3H(form:List UInt8→Fm×List UInt8×Bool):Prop:=∀r:List UInt8,r.length≤20000→(form r).2.1.length≤r.length∧Sz (form r).1 (14*(r.length-(form r).2.1.length)+13)
theorem B7B{form:List UInt8→Fm×List UInt8×Bool}(hf:C3H form): ∀(n:Nat) (r:List UInt8) (out:List Fm) (m:Nat),r.length≤20000→SzL out m→(A0v form n r out).2.1.length≤r.length∧SzL (A0v form n r out).1 (m+14*(r.length-(A0v form n r out).2.1.length)):=by
 intro n
 induction n with
 |zero=>intro r out m hr hm;exact⟨C9j _,A6H _⟩
 |succ n ih=>
  intro r out m hr hm
  obtain⟨h1,h2⟩:=hf r hr
  rw[A0v]
  split
  ·rename_i h
   have:=A1S h
   simp only[C9U,C9W]at this
   simp only[C9x]
   exact⟨by omega,(B3A hm h2).le (by omega)⟩
  ·split
   ·exact⟨h1,A6H _⟩
   ·split
    ·rename_i h
     have:=A1S h
     simp only[C9U,C9W]at this
     have i:=ih ((form r).2.1.drop 2) _ _ (by rw[C9x];omega) (B3A hm h2)
     rw[C9x]at i
     exact⟨by omega,i.2.le (by omega)⟩
    ·exact⟨h1,A6H _⟩
theorem B0b{form:List UInt8→Fm×List UInt8×Bool}(hf:C3H form)(r:List UInt8)(hr:r.length≤20000):(W8 form r).2.1.length≤r.length∧SzL (W8 form r).1 (14*(r.length-(W8 form r).2.1.length)):=by
 unfold W8
 split
 ·simp only[C9x];exact⟨by omega,A6H _⟩
 ·have:=B7B hf (r.length+1) r [] 0 hr (A6H _)
  rw[Nat.zero_add]at this;exact this
theorem B0c: ∀e,C3H (G1 e):=by
 intro e
 induction e with
 |zero=>intro r hr;exact⟨C9j _,B9a.le (by omega)⟩
 |succ e ih=>
  intro r hr
  rw[G1]
  split
  ·rename_i h
   have:=A1S h
   have t:=A6I (r.drop 1)
   rw[C9x]at t
   simp only[C9U,C9W]at this
   exact⟨by simp only[];omega,(C3F _ (by rw[O1];omega)).le (by omega)⟩
  ·split
   ·rename_i h
    have:=A1S h
    simp only[C9U,C9W]at this
    have i:=ih (r.drop 1) (by rw[C9x];omega)
    rw[C9x]at i
    exact⟨by simp only[];omega,(A8a (by simp[W0]) (C3E i.2) (by omega)).le (by simp only[];omega)⟩
   ·split
    ·rename_i h
     have:=A1S h
     simp only[C9U,C9W]at this
     have i:=B0b ih (r.drop 2) (by rw[C9x];omega)
     rw[C9x]at i
     exact⟨by simp only[];omega,(A8a (by simp[W0]) i.2 (by omega)).le (by simp only[];omega)⟩
    ·split
     ·rename_i h
      have:=A1S h
      simp only[C9U,C9W]at this
      have i:=B0b ih (r.drop 2) (by rw[C9x];omega)
      rw[C9x]at i
      exact⟨by simp only[];omega,(A8a (by simp[W0]) i.2 (by omega)).le (by simp only[];omega)⟩
     ·have t:=A6I r
      exact⟨by simp only[];omega,(B9b _).le (by omega)⟩
end Go.Fo
end
section
namespace Go.Proofs.YtibphjonmikciaaGreatDoor
open Go Go.Shelf Go.RowKit
def ApW(w w':World)(v v':Value)(n m:Nat):Prop:=
 (∃g cap,v= .slice (some ⟨g,0,none⟩) n cap∧v'= .slice (some ⟨g,0,none⟩) (n+m) cap)∨
 ((∀k,k<w.heap.size→w'.heap[k]? =w.heap[k]?)∧∀k,v'.ownBlock=some k→w.heap.size≤k)
theorem A8b{P:Program}{w:World}(t u ty e:TypeId)(i:TypeInfo)(ht:P.underlying t=some (.slice e))(hu:P.underlying u=some .string)(hi:P.info? e=some i)(hz:i.zero=some (.int .u8 0))
  (hsize:i.size=1) (hby:i.bytes=1) (v:Value) (n:Nat) (xs:List Value) (hown:w.ownsRow 0 e 1 v n xs) (s:ByteArray) (h63:n+s.size≤maxLen) (hbytes:n+s.size≤140737488355328)
  {v':Value} {w':World} (hr:(Builtin.append_ #[t,u] ty #[v,.string s]).run P w= .ok v' w'):ApW w w' v v' n s.size:=by
 rcases hown.2 with⟨rfl,rfl⟩|⟨g,cap,cur,rfl,hbg,hg,hnc,hcm,hcs,htake⟩
 ·have hx:xs= []:=C9n (by simpa using hown.1)
  subst hx
  obtain⟨v2,w2,hr2,h2,h3,_⟩:=Lib.run_append_own_string (P:=P) w w.heap.size t u ty e i ht hu hi hz hsize hby (.slice none 0 0) 0 [] (World.ownsRow_nil w _ e 1) s h63 hbytes (C9j _)
  rw[hr]at hr2
  cases hr2
  refine .inr ⟨fun k hk=>h3.block k hk (by simp[Value.ownBlock]),fun k hk=>?_⟩
  rcases h2.2 with⟨rfl,_⟩|⟨g,cap,cur,rfl,hbg,_⟩
  ·simp[Value.ownBlock]at hk
  ·simp[Value.ownBlock]at hk;omega
 ·by_cases hroom:n+s.size≤cap
  ·have hcs':cur.size=cap:=by simpa using hcs
   have hr2:=Lib.run_append_room_string (P:=P) w t u ty e i ht hu hi hsize g n cap cur hg s hroom (by omega)
   rw[hr]at hr2
   cases hr2
   exact .inl ⟨g,cap,rfl,rfl⟩
  ·have holds: ∀j u,xs[j]? =some u→w.cell? ((⟨g,0,none⟩:Addr).add j)=some u:=hown.cells (g:=g) rfl
   have hxl:xs.length=n:=by simpa using hown.1
   have hr2:=Lib.run_append_grow_string (P:=P) w t u ty e i (.int .u8 0) ht hu hi hz ⟨g,0,none⟩ n cap xs (by rw[hsize];simpa using hxl) holds s (by omega) (by simp only[maxLen]at h63;omega) (by rw[hby];exact growslice_fits (by omega) (by omega))
   rw[hr]at hr2
   cases hr2
   refine .inr ⟨fun k hk=>heap_alloc_old w.drew _ (r:=k) hk,fun k hk=>?_⟩
   simp[Value.ownBlock]at hk;omega
theorem A2T{P:Program}{w:World}{ops:Array Oper}{rest:List Oper}{o:Oper}{a:Act}{Q:Exit→Act→World→Prop}(hgd:o.guard=none)(sl x:Operand)(t u:TypeId)
  (ho:o.op= .call {callee:=.builtin .append,args:= #[sl,x],argTypes:= #[t,u]})
  (e:TypeId) (i:TypeInfo) (ht:P.underlying t=some (.slice e)) (hu:P.underlying u=some .string) (hi:P.info? e=some i) (hz:i.zero=some (.int .u8 0))
  (hsize:i.size=1) (hby:i.bytes=1)
  (v:Value) (n:Nat) (xs:List Value) (hs:a.eval sl=v) (hown:w.ownsRow 0 e 1 v n xs) (s:ByteArray) (hx:a.eval x= .string s)
  (h63:n+s.size≤maxLen) (hbytes:n+s.size≤140737488355328)
  (h: ∀v' w',w'.ownsRow 0 e 1 v' (n+s.size) (xs++Lib.strCells s)→w.grownBy w' v.ownBlock→(v'= .slice none 0 0↔v= .slice none 0 0∧s.size=0)→ApW w w' v v' n s.size→wpList P ops Q rest (a.put o.dst v') w'):wpList P ops Q (o::rest) a w:=by
 refine wpList_plain hgd fun K hK=>?_
 obtain⟨v',w',hr,h2,h3,h4⟩:=Lib.run_append_own_string (P:=P) w 0 t u o.type e i ht hu hi hz hsize hby v n xs hown s h63 hbytes (C9k _)
 have hwh:=A8b t u o.type e i ht hu hi hz hsize hby v n xs hown s h63 hbytes hr
 unfold Oper.wp execOp
 simp only[ho,resolve,invoke,builtin,Sem.run_bind,Sem.run_pure,Result.andThen_ok,List.map_toArray,D0g,List.map_nil,hs,hx,hr]
 exact hK _ _ (h v' w' h2 h3 h4 hwh)
theorem B0d:(Tryz.prog.info? 97).map (·.size)=some 2:=by kernel_rfl
theorem B7C:liesAt Tryz.prog Tryz.prog.depth 97 (2 / Tryz.prog.cellsOf 97) 0 97 1=true:=by kernel_rfl
theorem B4L:(Tryz.prog.info? 5).map (fun i=>(i.zero,i.size,i.bytes))=some (some (.int .u8 0),1,1):=by kernel_rfl
set_option maxHeartbeats 1000000 in
set_option maxRecDepth 100000 in
theorem A6J(b:Nat)(w:World)(h0:w.cell? ⟨b,0,none⟩=some (.pointer (some ⟨b,0,none⟩))):
  Calls Tryz.prog 141 #[.pointer (some ⟨b,0,none⟩)] w fun e w'=>e= .returned (.tuple #[])∧w'=w:=by
 obtain⟨j,hj,_⟩:=C9Y.1 B0d
 have mixed:Tryz.prog.follows .mixedOrders=true:=by kernel_rfl
 have t72:=Tryz.underlying97;have a72:=Tryz.isAgg97;have z72:=Tryz.sizeOf97;have v72:=Tryz.zeroValue97;have u72:=run_underlying t72
 have t70:=Tryz.underlying94;have a70:=Tryz.isAgg94;have z70:=Tryz.sizeOf94;have v70:=Tryz.zeroValue94;have u70:=run_underlying t70
 have t4:=Tryz.underlying4;have a4:=Tryz.isAgg4;have z4:=Tryz.sizeOf4;have v4:=Tryz.zeroValue4;have u4:=run_underlying t4
 have t164:=Tryz.underlying197;have a164:=Tryz.isAgg197;have z164:=Tryz.sizeOf197;have v164:=Tryz.zeroValue197;have u164:=run_underlying t164
 go_enter Tryz.func141,Tryz.ntmps141
 go_wp2
 rw[Lib.run_neq_ptr_same w _ t70 hj]
 go_wp2
 go_end0
 exact⟨rfl,rfl⟩
set_option maxHeartbeats 1000000 in
set_option maxRecDepth 100000 in
theorem A4u(b:Nat)(w:World)(h0:w.cell? ⟨b,0,none⟩=some (.pointer none))(hsh:w.shape? b=some (97,2))(hfz:w.frozen? ⟨b,0,none⟩=false):
  Calls Tryz.prog 141 #[.pointer (some ⟨b,0,none⟩)] w fun e w'=>e= .returned (.tuple #[])∧w'=w.setCell ⟨b,0,none⟩ (.pointer (some ⟨b,0,none⟩)):=by
 obtain⟨j,hj,hjs⟩:=C9Y.1 B0d
 have mixed:Tryz.prog.follows .mixedOrders=true:=by kernel_rfl
 have t72:=Tryz.underlying97;have a72:=Tryz.isAgg97;have z72:=Tryz.sizeOf97;have v72:=Tryz.zeroValue97;have u72:=run_underlying t72
 have t70:=Tryz.underlying94;have a70:=Tryz.isAgg94;have z70:=Tryz.sizeOf94;have v70:=Tryz.zeroValue94;have u70:=run_underlying t70
 have t4:=Tryz.underlying4;have a4:=Tryz.isAgg4;have z4:=Tryz.sizeOf4;have v4:=Tryz.zeroValue4;have u4:=run_underlying t4
 have t164:=Tryz.underlying197;have a164:=Tryz.isAgg197;have z164:=Tryz.sizeOf197;have v164:=Tryz.zeroValue197;have u164:=run_underlying t164
 go_enter Tryz.func141,Tryz.ntmps141
 go_wp2
 rw[Lib.run_to_unsafe w ⟨b,0,none⟩ t70 t164 hj (by rw[hjs];decide) hsh (Nat.zero_lt_succ 1)]
 simp only[Result.andThen]
 rw[Oper.upon_value]
 go_wp2
 rw[run_callFunc_extern Tryz.func175 (by kernel_rfl) (by kernel_rfl) (by kernel_rfl) (e:=Extern.AbiNoEscape.same) (by kernel_rfl)]
 rw[Lib.run_noEscape]
 simp only[Result.andThen]
 rw[Oper.upon_value]
 go_wp2
 rw[Lib.run_from_unsafe w ⟨b,0,none⟩ t164 t70 hj hsh B7C]
 simp only[Result.andThen]
 rw[Oper.upon_value]
 go_wp2
 go_end0
 exact⟨rfl,rfl⟩
theorem A7Z{w:World}{b:Nat}{cs:Array Value}{T:TypeId}{fr:Nat×Nat}(hb:w.heap[b]? =some (.cells cs T fr))(j:Nat)(hf: ¬(fr.1≤j∧j<fr.2)):w.frozen? ⟨b,j,none⟩=false:=by
 obtain⟨lo,hi⟩:=fr
 simp only[World.frozen?,hb]
 simpa using hf
theorem A6f(b:Nat)(p v:Value)(fr:Nat×Nat)(w:World)(hp:p= .pointer none∨p= .pointer (some ⟨b,0,none⟩))(hb:w.heap[b]? =some (.cells #[p,v] 97 fr))(hf: ∀j,j<2→¬(fr.1≤j∧j<fr.2)):
  Calls Tryz.prog 141 #[.pointer (some ⟨b,0,none⟩)] w fun e w'=>e= .returned (.tuple #[])∧w'.heap[b]? =some (.cells #[.pointer (some ⟨b,0,none⟩),v] 97 fr)∧w.grownBy w' (some b)∧w'.heap.size=w.heap.size:=by
 have c0:w.cell? ⟨b,0,none⟩=some p:=by simp[World.cell?,hb]
 rcases hp with rfl|rfl
 ·refine(A4u b w c0 (by simp[World.shape?,hb]) (A7Z hb 0 (hf 0 (by omega)))).mono ?_
  rintro e w' ⟨rfl,rfl⟩
  refine⟨rfl,?_,⟨rfl,rfl,rfl,by simp[World.setCell],fun k hk hne=>?_⟩,by simp[World.setCell]⟩
  ·rw[Lib.heap_setCell_same hb];rfl
  ·exact Below.heap_setCell w _ _ k (fun e=>hne (by rw[e]))
 ·refine(A6J b w c0).mono ?_
  rintro e w' ⟨rfl,rfl⟩
  exact⟨rfl,hb,⟨rfl,rfl,rfl,C9j _,fun _ _ _=>rfl⟩,rfl⟩
set_option maxHeartbeats 2000000 in
set_option maxRecDepth 100000 in
theorem A4v(b:Nat)(p v:Value)(bs:List Value)(s:ByteArray)(fr:Nat×Nat)(w:World)(hp:p= .pointer none∨p= .pointer (some ⟨b,0,none⟩))(hb:w.heap[b]? =some (.cells #[p,v] 97 fr))
  (hf: ∀j,j<2→¬(fr.1≤j∧j<fr.2)) (hown:w.ownsRow 0 5 1 v bs.length bs) (hne:v.ownBlock≠some b) (hlen:bs.length+s.size≤140737488355328):
  Calls Tryz.prog 114 #[.pointer (some ⟨b,0,none⟩),.string s] w fun e w'=>e= .returned (.tuple #[.int .i64 s.size,.nilIface])∧∃w1 w2 v',w1.heap[b]? =some (.cells #[.pointer (some ⟨b,0,none⟩),v] 97 fr)∧w.grownBy w1 (some b)∧w1.heap.size=w.heap.size∧
   w1.grownBy w2 v.ownBlock∧w2.ownsRow 0 5 1 v' (bs.length+s.size) (bs++Lib.strCells s)∧(v'= .slice none 0 0↔v= .slice none 0 0∧s=ByteArray.empty)∧ApW w1 w2 v v' bs.length s.size∧w2.heap[b]? =some (.cells #[.pointer (some ⟨b,0,none⟩),v] 97 fr)∧w'=w2.setCell ⟨b,1,none⟩ v':=by
 obtain⟨i0,hi,hz0,hz1,hz2⟩:=info_parts B4L
 have mixed:Tryz.prog.follows .mixedOrders=true:=by kernel_rfl
 have t72:=Tryz.underlying97;have a72:=Tryz.isAgg97;have z72:=Tryz.sizeOf97;have v72:=Tryz.zeroValue97;have u72:=run_underlying t72
 have t70:=Tryz.underlying94;have a70:=Tryz.isAgg94;have z70:=Tryz.sizeOf94;have v70:=Tryz.zeroValue94;have u70:=run_underlying t70
 have t37:=Tryz.underlying95;have a37:=Tryz.isAgg95;have z37:=Tryz.sizeOf95;have v37:=Tryz.zeroValue95;have u37:=run_underlying t37
 have t3:=Tryz.underlying3;have a3:=Tryz.isAgg3;have z3:=Tryz.sizeOf3;have v3:=Tryz.zeroValue3;have u3:=run_underlying t3
 have t9:=Tryz.underlying9;have a9:=Tryz.isAgg9;have z9:=Tryz.sizeOf9;have v9:=Tryz.zeroValue9;have u9:=run_underlying t9
 have t4:=Tryz.underlying4;have a4:=Tryz.isAgg4;have z4:=Tryz.sizeOf4;have v4:=Tryz.zeroValue4;have u4:=run_underlying t4
 have t5:=Tryz.underlying5;have a5:=Tryz.isAgg5;have z5:=Tryz.sizeOf5;have v5:=Tryz.zeroValue5;have u5:=run_underlying t5
 have e240: ∀args w,(callFunc 141 args).run Tryz.prog w= .ok (.enter 141 args) w:=enters_of Tryz.func141 (by kernel_rfl) rfl
 go_enter Tryz.func114,Tryz.ntmps114
 go_wp2_with (go_at_fn 141;refine(A6f b p v fr _ hp hb hf).mono ?_)
 rintro e w1 ⟨rfl,hbk,hg1,hsz1⟩
 have hown1:w1.ownsRow 0 5 1 v bs.length bs:=hown.kept hg1 (.inr hne)
 have c0:w1.cell? ⟨b,0,none⟩=some (.pointer (some ⟨b,0,none⟩)):=by simp[World.cell?,hbk]
 have c1:w1.cell? ⟨b,1,none⟩=some v:=by simp[World.cell?,hbk]
 go_wp2_with (at_builtin;refine A2T rfl _ _ 95 9 rfl 5 i0 t37 t9 hi hz0 hz1 hz2 _ _ _ rfl hown1 s rfl ?c3 ?c4 ?_)
 case c3=>unfold maxLen;omega
 case c4=>omega
 intro v' w2 hown' hgrow hnil hwh
 have hlt:b<w1.heap.size:=by
  rcases Nat.lt_or_ge b w1.heap.size with h'|h'
  ·exact h'
  ·simp[Array.getElem?_eq_none h']at hbk
 have hb2:w2.heap[b]? =some (.cells #[.pointer (some ⟨b,0,none⟩),v] 97 fr):=by
  rw[hgrow.block b hlt (fun e=>hne e.symm)]
  exact hbk
 have d0:w2.cell? ⟨b,0,none⟩=some (.pointer (some ⟨b,0,none⟩)):=by simp[World.cell?,hb2]
 have d1:w2.cell? ⟨b,1,none⟩=some v:=by simp[World.cell?,hb2]
 have f1:w2.frozen? ⟨b,1,none⟩=false:=A7Z hb2 1 (hf 1 (by omega))
 have hvs: ∃ao n' cap,v'= .slice ao n' cap:=by
  rcases hown'.2 with⟨hv,_⟩|⟨g,cap,cur,hv,_⟩
  ·exact⟨_,_,_,hv⟩
  ·exact⟨_,_,_,hv⟩
 have fin:=(⟨w1,w2,v',hbk,hg1,hsz1,hgrow,hown',hnil,hwh,hb2,rfl⟩: ∃W1 W2 v'',W1.heap[b]? =some (.cells #[.pointer (some ⟨b,0,none⟩),v] 97 fr)∧w.grownBy W1 (some b)∧W1.heap.size=w.heap.size∧
   W1.grownBy W2 v.ownBlock∧W2.ownsRow 0 5 1 v'' (bs.length+s.size) (bs++Lib.strCells s)∧(v''= .slice none 0 0↔v= .slice none 0 0∧s=ByteArray.empty)∧ApW W1 W2 v v'' bs.length s.size∧W2.heap[b]? =some (.cells #[.pointer (some ⟨b,0,none⟩),v] 97 fr)∧w2.setCell ⟨b,1,none⟩ v'=W2.setCell ⟨b,1,none⟩ v'')
 clear hown' hnil hwh
 obtain⟨ao,n',cap,rfl⟩:=hvs
 go_wp2
 go_ret2
 exact⟨rfl,fin⟩
set_option maxHeartbeats 1000000 in
set_option maxRecDepth 100000 in
theorem A6g(b g cap:Nat)(p:Value)(cur:Array Value)(l:List UInt8)(fr:Nat×Nat)(w:World)(h0:l≠[])(hbk:w.heap[b]? =some (.cells #[p,.slice (some ⟨g,0,none⟩) l.length cap] 97 fr))
  (hg:w.heap[g]? =some (.cells cur 5 (0,0))) (hnc:l.length≤cap) (hcm:cap≤maxLen) (hcs:cur.size=cap) (htake:cur.toList.take l.length=l.map fun x=>Value.int .u8 x.toNat):
  Calls Tryz.prog 69 #[.pointer (some ⟨b,0,none⟩)] w fun e w'=>e= .returned (.string ⟨l.toArray⟩)∧w'=w.drew.freeze ⟨g,0,none⟩ l.length:=by
 have hl0:l.length≠0:=by simpa using h0
 have c1:w.drew.cell? ⟨b,1,none⟩=some (.slice (some ⟨g,0,none⟩) l.length cap):=by
  have:w.drew.heap[b]? =some (.cells #[p,.slice (some ⟨g,0,none⟩) l.length cap] 97 fr):=hbk
  simp[World.cell?,this]
 have hlen0:0<l.length:=by omega
 have hSD:(Builtin.unsafeSliceData_ #[95] 144 #[.slice (some ⟨g,0,none⟩) l.length cap]).run Tryz.prog w.drew= .ok (.pointer (some ⟨g,0,none⟩)) w.drew:=
  Lib.run_unsafeSliceData_row _ _ _ _ _ _ (by omega)
 have t127:=Tryz.underlying144;have a127:=Tryz.isAgg144;have z127:=Tryz.sizeOf144;have v127:=Tryz.zeroValue144;have u127:=run_underlying t127
 have hUS:(Builtin.unsafeString_ #[144,3] 9 #[.pointer (some ⟨g,0,none⟩),.int .i64 l.length]).run Tryz.prog w.drew= .ok (.string ⟨l.toArray⟩) (w.drew.freeze ⟨g,0,none⟩ l.length):=by
  refine Lib.run_unsafeString_row w.drew 144 3 9 5 t127 (by kernel_rfl) g cur.size (by have hg':w.drew.heap[g]? =some (.cells cur 5 (0,0)):=hg;simp[World.shape?,hg']) l h0 (by omega) (by unfold maxLen at hcm;omega) ?_
  intro j x hx
  have hj:=(C9Z.1 hx).1
  have hg':w.drew.heap[g]? =some (.cells cur 5 (0,0)):=hg
  have h1:(cur.toList.take l.length)[j]? =some (Value.int .u8 x.toNat):=by rw[htake,C9m,hx];rfl
  rw[List.getElem?_take,if_pos hj]at h1
  have e1:(⟨g,0,none⟩:Addr).add j=⟨g,j,none⟩:=by unfold Addr.add;split<;>simp_all
  rw[e1,Lib.cell_of_heap hg']
  simpa using h1
 have mixed:Tryz.prog.follows .mixedOrders=true:=by kernel_rfl
 have t72:=Tryz.underlying97;have a72:=Tryz.isAgg97;have z72:=Tryz.sizeOf97;have v72:=Tryz.zeroValue97;have u72:=run_underlying t72
 have t70:=Tryz.underlying94;have a70:=Tryz.isAgg94;have z70:=Tryz.sizeOf94;have v70:=Tryz.zeroValue94;have u70:=run_underlying t70
 have t37:=Tryz.underlying95;have a37:=Tryz.isAgg95;have z37:=Tryz.sizeOf95;have v37:=Tryz.zeroValue95;have u37:=run_underlying t37
 have t3:=Tryz.underlying3;have a3:=Tryz.isAgg3;have z3:=Tryz.sizeOf3;have v3:=Tryz.zeroValue3;have u3:=run_underlying t3
 have t9:=Tryz.underlying9;have a9:=Tryz.isAgg9;have z9:=Tryz.sizeOf9;have v9:=Tryz.zeroValue9;have u9:=run_underlying t9
 have t5:=Tryz.underlying5;have a5:=Tryz.isAgg5;have z5:=Tryz.sizeOf5;have v5:=Tryz.zeroValue5;have u5:=run_underlying t5
 go_enter Tryz.func69,Tryz.ntmps69
 go_wp2
 go_region_o
 all_goals (go_wp2;go_ret;exact⟨rfl,rfl⟩)
end Go.Proofs.YtibphjonmikciaaGreatDoor
end
section
namespace Go.Proofs.YtibphjonmikciaaGreatDoor
open Go Go.Av Go.RowKit
def K4(H:Heap)(b:Nat):Option Nat→List UInt8→Heap
 |none,_=>H.set b (.box [.nilp,.nilsl] (some 97))
 |some c,bs=>(H.set b (.box [.box b 0,.vec c 1 0 bs.length] (some 97))).set c (.buf 5 bs)
structure BldOk(H:Heap)(b:Nat)(st:Option Nat)(bs:List UInt8):Prop where
 hb:H b=none
 hn:st=none→bs= []
 hs: ∀c,st=some c→c≠b∧H c=none∧bs≠[]
theorem T0{H:Heap}{b k:Nat}{st:Option Nat}{bs:List UInt8}(h1:k≠b)(h2:st≠some k):K4 H b st bs k=H k:=by
 cases st with
 |none=>simp[K4,Heap.set,h1]
 |some c=>
  have:k≠c:=fun e=>h2 (by rw[e])
  simp[K4,Heap.set,h1,this]
theorem B7D{H:Heap}{b:Nat}{st:Option Nat}{bs:List UInt8}(h:BldOk H b st bs): ∃cs,K4 H b st bs b=some (.box cs (some 97)):=by
 cases st with
 |none=>exact⟨_,by simp[K4,Heap.set];rfl⟩
 |some c=>
  have hne:b≠c:=Ne.symm (h.hs c rfl).1
  exact⟨[.box b 0,.vec c 1 0 bs.length],by simp only[K4,Heap.set,if_neg hne,if_true]⟩
theorem A2P{H:Heap}{b k:Nat}{st:Option Nat}{bs:List UInt8}(h:BldOk H b st bs)(hk:(K4 H b st bs).held k=false):k≠b∧st≠some k:=by
 constructor
 ·rintro rfl
  obtain⟨cs,e⟩:=B7D h
  rw[I6 e]at hk;cases hk
 ·rintro rfl
  have e:K4 H b (some k) bs k=some (.buf 5 bs):=by simp[K4,Heap.set]
  rw[I6 e]at hk;cases hk
theorem B3B{H:Heap}{b:Nat}{st:Option Nat}{bs:List UInt8}{w:World}(hs:Sat (K4 H b st bs) w)(h:BldOk H b st bs):
  ∃p v fr,w.heap[b]? =some (.cells #[p,v] 97 fr)∧(∀j,j<2→¬(fr.1≤j∧j<fr.2))∧(p= .pointer none∨p= .pointer (some ⟨b,0,none⟩))∧
   w.ownsRow 0 5 1 v bs.length (bs.map fun x=>Value.int .u8 x.toNat)∧v.ownBlock=st:=by
 have two: ∀{cs:List D} {c:Array Value},cs.length=2→RowR w (K4 H b st bs) cs c→∃x y,c= #[x,y]:=fun {cs c} h2 hr=>by
  have h3:=hr.len
  obtain⟨l⟩:=c
  simp only[List.size_toArray]at h3
  match l,(by omega:l.length=2)with
  | [x,y],_=>exact⟨x,y,rfl⟩
 cases st with
 |none=>
  have e0:bs= []:=h.hn rfl
  subst e0
  obtain⟨c,T,lo,hi,h1,h2,h3,h4⟩:=box_inv (hs b (.box [.nilp,.nilsl] (some 97)) (by simp[K4,Heap.set]))
  have hT:=h4 _ rfl
  subst hT
  obtain⟨x,y,rfl⟩:=two rfl h3
  have r0:=h3.rel 0 _ rfl
  have r1:=h3.rel 1 _ rfl
  simp at r0 r1
  cases r0;cases r1
  exact⟨_,_,(lo,hi),h1,fun j hj=>h2 j (by simpa using hj),.inl rfl,World.ownsRow_nil w 0 _ 1,rfl⟩
 |some c=>
  obtain⟨hcb,hcn,hne⟩:=h.hs c rfl
  obtain⟨ar,T,lo,hi,h1,h2,h3,h4⟩:=box_inv (hs b (.box [.box b 0,.vec c 1 0 bs.length] (some 97)) (by have hbc:b≠c:=Ne.symm hcb;simp only[K4,Heap.set,if_neg hbc,if_true]))
  have hT:=h4 _ rfl
  subst hT
  obtain⟨x,y,rfl⟩:=two rfl h3
  have r0:=h3.rel 0 _ rfl
  have r1:=h3.rel 1 _ rfl
  simp at r0 r1
  obtain⟨cur,g1,g2,g3,g4⟩:=hs c (.buf 5 bs) (by simp[K4,Heap.set])
  cases r0
  have hln:bs.length≠0:=by simpa using hne
  generalize hn:bs.length=n at r1
  cases r1 with
  |vec0=>exact absurd hn hln
  |vec _ _ _ _ cap T m hb hs' hsz hcap=>
   have hsh:w.shape? c=some (5,cur.size):=by simp[World.shape?,g1]
   rw[hsh]at hb
   cases hb
   subst hn
   refine⟨_,_,(lo,hi),h1,fun j hj=>h2 j (by simpa using hj),.inr rfl,⟨by simp,.inr ⟨c,cap,cur,by simp,C9k _,g1,hcap,?_,by omega,by simpa using g4⟩⟩,rfl⟩
   unfold maxLen;omega
set_option maxHeartbeats 1000000 in
theorem N3{Q}(b:Nat)(st:Option Nat)(bs:List UInt8)(s:ByteArray)(H:Heap)(hok:BldOk H b st bs)(hs0:s.size≠0)(hlen:bs.length+s.size≤140737488355328)
  (h: ∀c',BldOk H b (some c') (bs++B s)→Q (.tuple [.int .i64 s.size,.nilif]) (K4 H b (some c') (bs++B s))):ACalls Tryz.prog 114 [.box b 0,.str s] (K4 H b st bs) Q:=by
 refine⟨by kernel_rfl,fun w vs hl hr hs=>?_⟩
 obtain⟨a,x,rfl,ha,hx⟩:=y0 hl hr
 rw[hx.str_inv]
 have ea:a= .pointer (some ⟨b,0,none⟩):=by cases ha;rfl
 rw[ea]
 obtain⟨p,v,fr,hbk,hf,hp,hown,hst⟩:=B3B hs hok
 have hne:v.ownBlock≠some b:=by
  rw[hst]
  exact fun e=>(hok.hs b e).1 rfl
 have hml:(bs.map fun x=>Value.int .u8 x.toNat).length=bs.length:=by simp
 refine(A4v b p v (bs.map fun x=>Value.int .u8 x.toNat) s fr w hp hbk hf (by rw[hml];exact hown) hne (by rw[hml];exact hlen)).mono ?_
 rintro e w' ⟨rfl,w1,w2,v',k1,k2,k3,k4,k5,k6,k7,k8,rfl⟩
 rw[hml]at k5 k7
 have hbs:b<w.heap.size:=(C9o.1 hbk).1
 have hse:s≠ByteArray.empty:=by rintro rfl;exact hs0 rfl
 obtain⟨g,cap',cur',rfl,_,hg,hnc,hcm,hcs,htk⟩: ∃g cap cur,v'= .slice (some ⟨g,0,none⟩) (bs.length+s.size) cap∧0≤g∧w2.heap[g]? =some (.cells cur 5 (0,0))∧bs.length+s.size≤cap∧cap≤maxLen∧cur.size=cap*1∧cur.toList.take ((bs.length+s.size)*1)=(bs.map fun x=>Value.int .u8 x.toNat)++Lib.strCells s:=by
  rcases k5.2 with⟨hv,_⟩|hv
  ·exact absurd (k6.1 hv).2 hse
  ·exact hv
 --what is as_ it was
 have hold: ∀k,k<w.heap.size→k≠b→st≠some k→(w2.setCell ⟨b,1,none⟩ (.slice (some ⟨g,0,none⟩) (bs.length+s.size) cap')).heap[k]? =w.heap[k]? :=fun k hk hkb hks=>by
  rw[Below.heap_setCell _ _ _ k hkb,k4.block k (by omega) (by rw[hst];exact fun e=>hks e.symm),k2.block k hk (fun e=>hkb (Option.some.inj e))]
 have hgw:st=some g∨w.heap.size≤g:=by
  rcases k7 with⟨g',cap,e1,e2⟩|⟨_,e2⟩
  ·cases e2
   left
   rw[←hst,e1];rfl
  ·right
   have:=e2 g rfl
   omega
 have hgb:g≠b:=by
  rintro rfl
  rcases hgw with e|e
  ·exact(hok.hs g e).1 rfl
  ·omega
 have hgH:H g=none:=by
  rcases hgw with e|e
  ·exact(hok.hs g e).2.1
  ·have:=hs.fresh e
   rw[T0 hgb (fun e'=>by
    obtain⟨x,hx⟩: ∃x,K4 H b st bs g=some x:=⟨_,by rw[e'];simp[K4,Heap.set];rfl⟩
    rw[this]at hx;cases hx)]at this
   exact this
 have hBs:B s=s.data.toList:=rfl
 have hBl:(bs++B s).length=bs.length+s.size:=by rw[C9V,Y7]
 have hok':BldOk H b (some g) (bs++B s):=⟨hok.hb,(fun e=>by cases e),fun c e=>by
  cases e
  exact⟨hgb,hgH,fun e=>by
   have h3:=congrArg List.length e
   rw[hBl,C9W]at h3
   omega⟩⟩
 have hbk2:(w2.setCell ⟨b,1,none⟩ (.slice (some ⟨g,0,none⟩) (bs.length+s.size) cap')).heap[b]? =some (.cells #[.pointer (some ⟨b,0,none⟩),.slice (some ⟨g,0,none⟩) (bs.length+s.size) cap'] 97 fr):=by
  rw[Lib.heap_setCell_same k8];rfl
 have hgk2:(w2.setCell ⟨b,1,none⟩ (.slice (some ⟨g,0,none⟩) (bs.length+s.size) cap')).heap[g]? =some (.cells cur' 5 (0,0)):=by
  rw[Below.heap_setCell _ _ _ g hgb];exact hg
 have hext:Ext (K4 H b st bs) w (w2.setCell ⟨b,1,none⟩ (.slice (some ⟨g,0,none⟩) (bs.length+s.size) cap')):=by
  refine⟨k4.os.trans k2.os,k4.tape.trans k2.tape,k4.output.trans k2.output,by have:=k4.size;have:=k2.size;simp[World.setCell];omega,fun k hk hn=>hold k hk (A2P hok hn).1 (A2P hok hn).2,fun k hk=>?_⟩
  by_cases hkb:k=b
  ·subst hkb
   simp[World.shape?,hbk2,hbk]
  ·by_cases hks:st=some k
   ·--the buffer
    obtain⟨c,cap,cur,e1,_,e2,e3,e4,e5,e6⟩: ∃g cap cur,v= .slice (some ⟨g,0,none⟩) bs.length cap∧0≤g∧w.heap[g]? =some (.cells cur 5 (0,0))∧bs.length≤cap∧cap≤maxLen∧cur.size=cap*1∧cur.toList.take (bs.length*1)=bs.map fun x=>Value.int .u8 x.toNat:=by
     rcases hown.2 with⟨hv,_⟩|hv
     ·rw[hv,hks]at hst;cases hst
     ·exact hv
    have hck:c=k:=by rw[e1,hks]at hst;simpa [Value.ownBlock]using hst
    subst hck
    rcases k7 with⟨g',cap2,f1,f2⟩|⟨f1,f2⟩
    ·rw[e1]at f1
     cases f1;cases f2
     simp[World.shape?,hgk2,e2,hcs,e5]
    ·have h1:(w2.setCell ⟨b,1,none⟩ (.slice (some ⟨g,0,none⟩) (bs.length+s.size) cap')).heap[c]? =w.heap[c]? :=by
      rw[Below.heap_setCell _ _ _ c hkb,f1 c (by omega),k2.block c hk (fun e=>hkb (Option.some.inj e))]
     unfold World.shape?
     rw[h1]
   ·unfold World.shape?
    rw[hold k hk hkb hks]
 have hfrom:From w (K4 H b st bs) (K4 H b (some g) (bs++B s)):=fun k hk hn=>by
  obtain⟨n1,n2⟩:=A2P hok hn
  have hkg:k≠g:=by
   rintro rfl
   rcases hgw with e|e
   ·exact n2 e
   ·omega
  rw[A0E (H:=H) (T0 n1 (fun e=>hkg (Option.some.inj e).symm))]
  rwa [A0E (H:=H) (T0 n1 n2)]at hn
 have htk':cur'.toList.take (bs++B s).length=(bs++B s).map fun x=>Value.int .u8 x.toNat:=by
  rw[hBl]
  have:(bs.length+s.size)*1=bs.length+s.size:=by omega
  rw[this]at htk
  rw[htk,D0P];rfl
 have hsat:Sat (K4 H b (some g) (bs++B s)) (w2.setCell ⟨b,1,none⟩ (.slice (some ⟨g,0,none⟩) (bs.length+s.size) cap')):=by
  intro k o ho
  by_cases hkg:k=g
  ·subst hkg
   have:o= .buf 5 (bs++B s):=by
    have e:K4 H b (some k) (bs++B s) k=some (.buf 5 (bs++B s)):=by simp[K4,Heap.set]
    rw[e]at ho;exact(Option.some.inj ho).symm
   subst this
   exact⟨cur',hgk2,by rw[hBl];omega,by unfold maxLen at hcm;omega,htk'⟩
  ·by_cases hkb:k=b
   ·subst hkb
    have:o= .box [.box k 0,.vec g 1 0 (bs++B s).length] (some 97):=by
     have e:K4 H k (some g) (bs++B s) k=some (.box [.box k 0,.vec g 1 0 (bs++B s).length] (some 97)):=by have hbg:k≠g:=Ne.symm hgb;simp only[K4,Heap.set,if_neg hbg,if_true]
     rw[e]at ho;exact(Option.some.inj ho).symm
    subst this
    obtain⟨lo,hi⟩:=fr
    refine A3o (fun t e=>by cases e;rfl) hbk2 (fun j hj=>hf j (by simpa using hj)) ⟨rfl,fun i d hd=>?_,fun i d hd=>?_⟩
    ·match i,hd with
     |0,hd=>cases hd;rfl
     |1,hd=>cases hd;rfl
     |i+2,hd=>simp at hd
    ·match i,hd with
     |0,hd=>cases hd;exact .box k 0
     |1,hd=>
      cases hd
      rw[hBl]
      have hv:=R.vec (w:=w2.setCell ⟨k,1,none⟩ (.slice (some ⟨g,0,none⟩) (bs.length+s.size) cap')) (H:=K4 H k (some g) (bs++B s)) g 1 0 (bs.length+s.size) cap' 5 cur'.size (by simp[World.shape?,hgk2]) (by omega) (by omega) hnc
      simpa using hv
     |i+2,hd=>simp at hd
   ·have e1:K4 H b (some g) (bs++B s) k=H k:=T0 hkb (fun e=>hkg (Option.some.inj e).symm)
    rw[e1]at ho
    have hks:st≠some k:=fun e=>by rw[(hok.hs k e).2.1]at ho;cases ho
    have e2:K4 H b st bs k=H k:=T0 hkb hks
    have ho':=hs k o (by rw[e2];exact ho)
    exact ho'.mono hext hfrom (hold k (hs.lt (by rw[e2];exact ho)) hkb hks)
 refine⟨_,rfl,.tuple [.int .i64 s.size,.nilif],_,.tuple _ _ rfl (fun i d hd=>?_),hsat,hext,hfrom,h g hok'⟩
 match i,hd with
 |0,hd=>cases hd;exact .int _ _
 |1,hd=>cases hd;exact .nilif
 |i+2,hd=>simp at hd
theorem A4H{w:World}{g n k:Nat}(h:k≠g):(w.freeze ⟨g,0,none⟩ n).heap[k]? =w.heap[k]? :=by
 unfold World.freeze
 split
 ·rfl
 ·simp[Array.getElem?_modify,Ne.symm h]
theorem B0e(w:World)(a:Addr)(n:Nat):(w.freeze a n).heap.size=w.heap.size:=by
 unfold World.freeze;split
 ·rfl
 ·exact Array.size_modify
theorem A8c(w:World)(a:Addr)(n k:Nat):(w.freeze a n).shape? k=w.shape? k:=by
 unfold World.freeze
 split
 ·rfl
 ·unfold World.shape?
  simp only[Array.getElem?_modify]
  by_cases h:a.block=k
  ·rw[if_pos h]
   cases hk:w.heap[k]? with
   |none=>rfl
   |some o=>cases o<;>rfl
  ·rw[if_neg h]
theorem B0f{Q}(b c:Nat)(bs:List UInt8)(H:Heap)(hok:BldOk H b (some c) bs)(h:Q (.str (S bs)) H):ACalls Tryz.prog 69 [.box b 0] (K4 H b (some c) bs) Q:=by
 refine⟨by kernel_rfl,fun w vs hl hr hs=>?_⟩
 obtain⟨a,rfl,ha⟩:=A1i hl hr
 have ea:a= .pointer (some ⟨b,0,none⟩):=by cases ha;rfl
 rw[ea]
 obtain⟨p,v,fr,hbk,hf,hp,hown,hst⟩:=B3B hs hok
 obtain⟨hcb,hcn,hne⟩:=hok.hs c rfl
 obtain⟨g,cap,cur,rfl,_,e2,e3,e4,e5,e6⟩: ∃g cap cur,v= .slice (some ⟨g,0,none⟩) bs.length cap∧0≤g∧w.heap[g]? =some (.cells cur 5 (0,0))∧bs.length≤cap∧cap≤maxLen∧cur.size=cap*1∧cur.toList.take (bs.length*1)=bs.map fun x=>Value.int .u8 x.toNat:=by
  rcases hown.2 with⟨hv,_⟩|hv
  ·rw[hv]at hst;cases hst
  ·exact hv
 have hgc:g=c:=by simpa [Value.ownBlock]using hst
 subst hgc
 refine(A6g b g cap p cur bs fr w hne hbk e2 e3 e4 (by omega) (by simpa using e6)).mono ?_
 rintro e w' ⟨rfl,rfl⟩
 have hold: ∀k,k≠g→(w.drew.freeze ⟨g,0,none⟩ bs.length).heap[k]? =w.heap[k]? :=fun k hk=>by rw[A4H hk];rfl
 have hext:Ext (K4 H b (some g) bs) w (w.drew.freeze ⟨g,0,none⟩ bs.length):=by
  refine⟨by unfold World.freeze;split<;>rfl,by unfold World.freeze;split<;>rfl,by unfold World.freeze;split<;>rfl,by rw[B0e];exact C9j _,fun k hk hn=>hold k (fun e=>(A2P hok hn).2 (by rw[e])),fun k hk=>?_⟩
  rw[A8c];rfl
 have hle:H.Le (K4 H b (some g) bs):=fun k o ho=>by
  rw[T0 (fun e=>by rw[e,hok.hb]at ho;cases ho) (fun e=>by rw[←Option.some.inj e,hcn]at ho;cases ho)]
  exact ho
 have hfrom:From w (K4 H b (some g) bs) H:=fun k hk hn=>hle.held hn
 refine⟨_,rfl,.str (S bs),H,.str _,fun k o ho=>?_,hext,hfrom,h⟩
 have h1:=hle k o ho
 refine(hs k o h1).mono hext hfrom (hold k fun e=>?_)
 rw[e,hcn]at ho;cases ho
end Go.Proofs.YtibphjonmikciaaGreatDoor
end
section
namespace Go.Proofs.YtibphjonmikciaaGreatDoor
open Go Go.Av
attribute [local irreducible] ACalls W4
theorem A3d{H:Heap}{b b1:Nat}{st:Option Nat}{bs:List UInt8}{o:Av.Obj}(h:K4 H b st bs b1=none)(hok:BldOk H b st bs):(K4 H b st bs).set b1 o=K4 (H.set b1 o) b st bs∧BldOk (H.set b1 o) b st bs∧H b1=none:=by
 have h1:b1≠b:=by
  rintro rfl
  obtain⟨cs,e⟩:=B7D hok
  rw[h]at e;cases e
 have h2:st≠some b1:=by
  rintro rfl
  have e:K4 H b (some b1) bs b1=some (.buf 5 bs):=by simp[K4,Heap.set]
  rw[h]at e;cases e
 rw[T0 h1 h2]at h
 refine⟨?_,⟨by rw[A8 _ (Ne.symm h1)];exact hok.hb,hok.hn,fun c e=>?_⟩,h⟩
 ·funext k
  cases st with
  |none=>
   simp only[K4,Heap.set]
   by_cases e1:k=b1
   ·subst e1;simp[h1]
   ·simp[e1]
  |some c=>
   have h3:b1≠c:=fun e=>h2 (by rw[e])
   simp only[K4,Heap.set]
   by_cases e1:k=b1
   ·subst e1;simp[h1,h3]
   ·simp[e1]
 ·obtain⟨k1,k2,k3⟩:=hok.hs c e
  exact⟨k1,by rw[A8 _ (fun e'=>h2 (by rw[e,e']))];exact k2,k3⟩
theorem A5B{H H':Heap}{b:Nat}{st:Option Nat}{bs:List UInt8}(h:H.Le H'):(K4 H b st bs).Le (K4 H' b st bs):=by
 intro k o hk
 cases st with
 |none=>
  simp only[K4,Heap.set]at hk⊢
  split
  ·rename_i e;rw[if_pos e]at hk;exact hk
  ·rename_i e;rw[if_neg e]at hk;exact h k o hk
 |some c=>
  simp only[K4,Heap.set]at hk⊢
  split
  ·rename_i e;rw[if_pos e]at hk;exact hk
  ·rename_i e;rw[if_neg e]at hk
   split
   ·rename_i e;rw[if_pos e]at hk;exact hk
   ·rename_i e;rw[if_neg e]at hk;exact h k o hk
theorem BldOk.less{H H':Heap}{b:Nat}{st:Option Nat}{bs:List UInt8}(h:BldOk H' b st bs)(hl:H.Le H'):BldOk H b st bs:=⟨hl.none h.hb,h.hn,fun c e=>⟨(h.hs c e).1,hl.none (h.hs c e).2.1,(h.hs c e).2.2⟩⟩
theorem A2Q{H:Heap}{b:Nat}{st:Option Nat}{bs:List UInt8}(h:BldOk H b st bs):H.Le (K4 H b st bs):=fun k o ho=>by
 rw[T0 (fun e=>by rw[e,h.hb]at ho;cases ho) (fun e=>by rw[(h.hs k e).2.1]at ho;cases ho)];exact ho
end Go.Proofs.YtibphjonmikciaaGreatDoor
end
